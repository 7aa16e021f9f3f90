/- The machine over plain data and memory: own objects that turn, give parts away; maps whose elements are rows. -/
import Derived.Test.YtmnoibkdmeajpaaGreatDm13
namespace Go.Proofs.YtmnoibkdmeajpaaGreat.Dm
set_option linter.unusedSectionVars false
open Go.RowKit
set_option linter.unusedVariables false
set_option linter.unusedSimpArgs false
variable [Cfg] {P : Program} {cx : Cx} {ρ : Nm → Rz} {S : Nat → Nat → Prop} {w : World} {st st' : St} {a : Act} {o : Oper} {d : Dv}
def SameR (ρ ρ' : Nm → Rz) : Prop := ∀ x, (ρ' x).blk = (ρ x).blk ∧ (ρ' x).tip = (ρ x).tip ∧ (ρ' x).cl = (ρ x).cl
theorem SameR.refl (ρ : Nm → Rz) : SameR ρ ρ := fun _ => ⟨rfl, rfl, rfl⟩
theorem SameR.trans {ρ ρ' ρ'' : Nm → Rz} (h : SameR ρ ρ') (k : SameR ρ' ρ'') : SameR ρ ρ'' := fun x => ⟨(k x).1.trans (h x).1, (k x).2.1.trans (h x).2.1, (k x).2.2.trans (h x).2.2⟩
theorem sameR_at (ρ : Nm → Rz) (m : Nm) (fp : Nat → Prop) : SameR ρ (fun x => if x = m then ⟨(ρ m).blk, (ρ m).tip, fp, (ρ m).cl⟩ else ρ x) := fun x => by
 by_cases e : x = m
 ·subst e; simp
 ·simp [e]
section
variable {L O : List Ob}
theorem own_row (h : Core cx ρ S L O w) {n : Nm} {e z : Nat} {es : List (List Pd)} (hn : getOb L O n = .marr e z es none ∨ getOb L O n = .oarr e z es ∨ ∃ b, getOb L O n = .arr e z b false es) :
 VO S w (OwnAt L O ρ n) (.ow e z es) (ρ n).tip ∧ ((ρ n).tip.oneCell' = true) := by
 have hob := h.ob n
 rcases hn with hn | hn | ⟨b, hn⟩ <;> rw [hn] at hob
 ·obtain ⟨o1, o2, o3, o4⟩ := hob
  exact ⟨o3.mono fun k hk => .inl ⟨by rw [hn]; rfl, hk⟩, o2⟩
 ·obtain ⟨o1, o2, o3, o4⟩ := hob
  exact ⟨(o3.toX (mx := true)).outX.mono fun k hk => .inl ⟨by rw [hn]; rfl, hk⟩, o2⟩
 ·obtain ⟨xs, h1, h2, h3, h4, h5⟩ := hob
  refine ⟨.ow xs (fun _ => 0) h3 h1 (fun g q => .inr ⟨_, _, _, _, hn, h2.trans q⟩) h4 fun i j hi hj => .p (h5 i j hi hj), ?_⟩
  rcases h1.2 with ⟨e1, _⟩ | ⟨_, _, _, e1, _⟩ <;> rw [e1] <;> rfl
theorem row_blk {e s n : Nat} {v : Value} {xs : List Value} (h : w.ownsRow 0 e s v n xs) (hn : 0 < n) : ∃ g, v.ownBlock = some g := by
 obtain ⟨ao, cap, ev, hcap, ha, hg⟩ := own_cells h
 cases ao with
 | none => have := ha rfl; omega
 | some ad => exact ⟨ad.block, by rw [ev]; rfl⟩
end
theorem Core.split {L O : List Ob} (h : Core cx ρ S L O w) {m : Nm} {s : Nat} (hne : m ≠ .loc s) (hO : isO (getOb L O m) = true) {obm obp : Ob} (hom : isO obm = true) (hop : isO obp = true) (ham : isArr (getOb L O m) = true) (A : Nat → Prop) (v : Value) (hA : ∀ k, A k → (ρ m).fp k) (hvA : ∀ k, v.ownBlock = some k → A k)
 (hbm : ∀ b, (ρ m).blk = some b → (ρ m).fp b ∧ ¬ A b)
 (hrm : ∀ ρ' : Nm → Rz, (ρ' (.loc s)).tip = v → ObRel ρ' S w obm ⟨(ρ m).blk, (ρ m).tip, fun k => (ρ m).fp k ∧ ¬ A k, (ρ m).cl⟩) (hrp : ∀ ρ' : Nm → Rz, ObRel ρ' S w obp ⟨v.ownBlock, v, A, (ρ m).cl⟩) :
 ∃ ρ' : Nm → Rz, (ρ' (.loc s)).tip = v ∧ (∀ x, x ≠ .loc s → (ρ' x).blk = (ρ x).blk ∧ (ρ' x).tip = (ρ x).tip ∧ (ρ' x).cl = (ρ x).cl) ∧
  Core cx ρ' S (setL (setL (L.map (scrubOb (.loc s))) m obm) (.loc s) obp) (setO (O.map (scrubOb (.loc s))) m obm) w := by
 have hlm : getOb L O m ≠ .none := fun q => by rw [q] at hO; cases hO
 let zp : Rz := ⟨v.ownBlock, v, A, (ρ m).cl⟩
 let zm : Rz := ⟨(ρ m).blk, (ρ m).tip, fun k => (ρ m).fp k ∧ ¬ A k, (ρ m).cl⟩
 let ρ' : Nm → Rz := fun x => if x = .loc s then zp else if x = m then zm else ρ x
 have r1 : ρ' (.loc s) = zp := if_pos rfl
 have r2 : ρ' m = zm := by show (if m = Nm.loc s then zp else if m = m then zm else ρ m) = zm; rw [if_neg hne, if_pos rfl]
 have r3 : ∀ x, x ≠ .loc s → x ≠ m → ρ' x = ρ x := fun x h1 h2 => by show (if x = Nm.loc s then zp else if x = m then zm else ρ x) = ρ x; rw [if_neg h1, if_neg h2]
 have hsm : ∀ x, x ≠ .loc s → (ρ' x).blk = (ρ x).blk ∧ (ρ' x).tip = (ρ x).tip ∧ (ρ' x).cl = (ρ x).cl := fun x hx => by
  by_cases e : x = m
  ·rw [e, r2]; exact ⟨rfl, rfl, rfl⟩
  ·rw [r3 x hx e]; exact ⟨rfl, rfl, rfl⟩
 generalize hL : setL (setL (L.map (scrubOb (.loc s))) m obm) (.loc s) obp = L2
 generalize hO2 : setO (O.map (scrubOb (.loc s))) m obm = O2
 have hOO : O2 = setO (setO (O.map (scrubOb (.loc s))) m obm) (.loc s) obp := by rw [← hO2]; rfl
 have gp : getOb L2 O2 (.loc s) = obp ∨ getOb L2 O2 (.loc s) = .none := by
  rw [← hL, hOO]
  rcases getOb_set (setL (L.map (scrubOb (.loc s))) m obm) (setO (O.map (scrubOb (.loc s))) m obm) (.loc s) (.loc s) obp with q | q
  ·by_cases hl : getOb (setL (L.map (scrubOb (.loc s))) m obm) (setO (O.map (scrubOb (.loc s))) m obm) (.loc s) = .none
   ·right; exact q.trans hl
   ·left; exact getOb_self _ _ hl _
  ·left; exact q.2
 have gm : getOb L2 O2 m = obm := by
  rw [← hL, hOO, getOb_ne _ _ hne]
  refine getOb_self _ _ ?_ _
  rw [getOb_map L O (scrubOb_none _)]
  exact fun q => hlm (scrubOb_eq_none q)
 have gx : ∀ x, x ≠ .loc s → x ≠ m → getOb L2 O2 x = scrubOb (.loc s) (getOb L O x) := fun x h1 h2 => by
  rw [← hL, hOO, getOb_ne _ _ h1, getOb_ne _ _ h2, getOb_map L O (scrubOb_none _)]
 have lx : ∀ x, x ≠ .loc s → x ≠ m → getOb L2 O2 x ≠ .none → getOb L O x ≠ .none := fun x h1 h2 q q' => by
  rw [gx x h1 h2, q'] at q
  exact q rfl
 have ox : ∀ x, x ≠ .loc s → x ≠ m → isO (getOb L2 O2 x) = isO (getOb L O x) := fun x h1 h2 => by rw [gx x h1 h2, isO_scrub]
 refine ⟨ρ', by rw [r1], hsm, ?_⟩
 refine ⟨fun x => ?_, fun x y b hl1 hl2 q1 q2 => ?_, fun x b o hl q hS => ?_, fun x b hl q => ?_, h.sb, h.s0, h.sn, h.fr, h.sk, h.ws, h.os, h.tape, h.output, fun i z q => ?_, fun x k ho q => ?_, fun x y k ho hl e q => ?_⟩
 ·by_cases e1 : x = .loc s
  ·subst e1
   rcases gp with q | q
   ·rw [q, r1]; exact hrp ρ'
   ·rw [q]; trivial
  ·by_cases e2 : x = m
   ·subst e2
    rw [gm, r2]; exact hrm ρ' (by rw [r1])
   ·rw [gx x e1 e2]
    have q1 := (h.ob x).scrub_ (m := .loc s) (ρ' := fun n => if n = .loc s then zp else ρ n) fun n hn => if_neg hn
    rw [r3 x e1 e2]
    refine q1.fpchg fun n => ?_
    by_cases e3 : n = .loc s
    ·subst e3; rw [r1]; simp
    ·have := hsm n e3
     simp only [if_neg e3]
     exact this
 ·have key : ∀ x y b, getOb L2 O2 x ≠ .none → getOb L2 O2 y ≠ .none → x = .loc s → (ρ' x).blk = some b → (ρ' y).blk = some b → x = y := by
   intro x y b hl1 hl2 e1 q1 q2
   subst e1
   rw [r1] at q1
   have hAb := hvA b q1
   by_cases e2 : y = .loc s
   ·exact e2.symm
   ·exfalso
    by_cases e3 : y = m
    ·rw [e3, r2] at q2
     exact (hbm b q2).2 hAb
    ·rw [r3 y e2 e3] at q2
     exact (h.fd m y b hO (lx y e2 e3 hl2) e3 (hA b hAb)).1 q2
  by_cases e1 : x = .loc s
  ·exact key x y b hl1 hl2 e1 q1 q2
  ·by_cases e2 : y = .loc s
   ·exact (key y x b hl2 hl1 e2 q2 q1).symm
   ·rw [(hsm x e1).1] at q1
    rw [(hsm y e2).1] at q2
    refine h.ne x y b ?_ ?_ q1 q2
    ·by_cases e3 : x = m
     ·rw [e3]; exact hlm
     ·exact lx x e1 e3 hl1
    ·by_cases e3 : y = m
     ·rw [e3]; exact hlm
     ·exact lx y e2 e3 hl2
 ·by_cases e1 : x = .loc s
  ·exfalso
   subst e1
   rw [r1] at q
   exact (h.fp m b hO (hA _ (hvA b q))).2.2 o hS
  ·by_cases e2 : x = m
   ·exfalso
    subst e2
    rw [r2] at q
    exact (h.fp x b hO (hbm b q).1).2.2 o hS
   ·rw [r3 x e1 e2] at q
    obtain ⟨e5, s5, bb, es5, p1, p2⟩ := h.ss x b o (lx x e1 e2 hl) q hS
    exact ⟨e5, s5, bb, es5, by rw [gx x e1 e2]; exact scrubOb_arr p1, p2⟩
 ·by_cases e1 : x = .loc s
  ·subst e1
   rw [r1] at q
   have := h.fp m b hO (hA _ (hvA b q))
   exact ⟨this.1, this.2.1⟩
  ·rw [(hsm x e1).1] at q
   refine h.own x b ?_ q
   by_cases e3 : x = m
   ·rw [e3]; exact hlm
   ·exact lx x e1 e3 hl
 ·obtain ⟨q1, q2⟩ := h.bx i z q
  have hni : Nm.out i ≠ .loc s := fun q => by cases q
  have hnm : Nm.out i ≠ m := fun q => by
   rw [q, ham] at q2
   cases q2
  rw [r3 _ hni hnm, gx _ hni hnm, isArr_scrub]
  exact ⟨q1, q2⟩
 ·by_cases e1 : x = .loc s
  ·subst e1
   rw [r1] at q
   exact h.fp m k hO (hA k q)
  ·by_cases e2 : x = m
   ·subst e2
    rw [r2] at q
    exact h.fp x k hO q.1
   ·rw [r3 x e1 e2] at q
    rw [ox x e1 e2] at ho
    exact h.fp x k ho q
 ·have hoo : ∀ o : Ob, isO o = true → o ≠ .none := fun o q e => by rw [e] at q; cases q
  by_cases e1 : x = .loc s
  ·subst e1
   rw [r1] at q
   by_cases e2 : y = m
   ·subst e2
    rw [r2]
    exact ⟨fun q' => (hbm k q').2 q, fun _ q' => q'.2 q⟩
   ·rw [r3 y e e2]
    have := h.fd m y k hO (lx y e e2 hl) e2 (hA k q)
    exact ⟨this.1, fun ho' => this.2 (by rw [← ox y e e2]; exact ho')⟩
  ·by_cases e2 : x = m
   ·subst e2
    rw [r2] at q
    by_cases e3 : y = .loc s
    ·subst e3
     rw [r1]
     exact ⟨fun q' => q.2 (hvA k q'), fun _ q' => q.2 q'⟩
    ·rw [r3 y e3 e]
     have := h.fd x y k hO (lx y e3 e hl) e q.1
     exact ⟨this.1, fun ho' => this.2 (by rw [← ox y e3 e]; exact ho')⟩
   ·rw [r3 x e1 e2] at q
    rw [ox x e1 e2] at ho
    by_cases e3 : y = .loc s
    ·subst e3
     rw [r1]
     have := h.fd x m k ho hlm (fun q' => e2 q'.symm) q
     exact ⟨fun q' => this.2 hO (hA k (hvA k q')), fun _ q' => this.2 hO (hA k q')⟩
    ·by_cases e4 : y = m
     ·subst e4
      rw [r2]
      have := h.fd x y k ho hlm e q
      exact ⟨this.1, fun _ q' => this.2 hO q'.1⟩
     ·rw [r3 y e3 e4]
      have := h.fd x y k ho (lx y e3 e4 hl) e q
      exact ⟨this.1, fun ho' => this.2 (by rw [← ox y e3 e4]; exact ho')⟩
theorem Core.turnO {L O : List Ob} (h : Core cx ρ S L O w) {m : Nm} (hm : isArr (getOb L O m) = true) {ns : List Nm} (hns : ∀ n ∈ ns, isLoc n = true) (hmn : m ∉ ns) (fp : Nat → Prop) {ob' : Ob} (hio : isO ob' = true)
 (hb : ∀ b, (ρ m).blk = some b → fp b) (hob : ObRel ρ S w ob' ⟨(ρ m).blk, (ρ m).tip, fp, (ρ m).cl⟩) (hfp : ∀ k, fp k → ∃ n, (n = m ∨ n ∈ ns) ∧ OwnAt L O ρ n k) :
 Core cx (fun x => if x = m then ⟨(ρ m).blk, (ρ m).tip, fp, (ρ m).cl⟩ else ρ x) S (setL (rmAll ns L) m ob') (setO O m ob') w := by
 have hs := sameR_at ρ m fp
 have := h.putR (m := m) (w' := w) (fun i q => hm) hns hmn ⟨(ρ m).blk, (ρ m).tip, fp, (ρ m).cl⟩ ob' hio hb id (fun w o z q => q.fpchg hs) rfl (fun _ q => q) (fun _ => rfl) (fun _ => rfl) (fun _ _ _ _ _ q => q) (Nat.le_refl _) rfl rfl rfl (fun _ _ _ => rfl) (fun _ _ _ => rfl)
  (hob.fpchg hs) (fun k q => .inr (hfp k q))
 rw [List.map_id, List.map_id] at this
 exact this
theorem Core.shed {L O : List Ob} (h : Core cx ρ S L O w) {m : Nm} (hO : isO (getOb L O m) = true) (ham : isArr (getOb L O m) = true) {ob' : Ob} (hom : isO ob' = true) (A : Nat → Prop) (hA : ∀ k, A k → (ρ m).fp k) (hbm : ∀ b, (ρ m).blk = some b → ¬ A b)
 (hob : ∀ S' : Nat → Nat → Prop, (∀ b o, S b o → S' b o) → (∀ k o u, A k → w.cell? ⟨k, o, none⟩ = some u → S' k o) → ObRel ρ S' w ob' ⟨(ρ m).blk, (ρ m).tip, fun k => (ρ m).fp k ∧ ¬ A k, (ρ m).cl⟩) :
 ∃ (ρ' : Nm → Rz) (S' : Nat → Nat → Prop), SameR ρ ρ' ∧ (∀ b o, S b o → S' b o) ∧ (∀ k o u, A k → w.cell? ⟨k, o, none⟩ = some u → S' k o) ∧ Core cx ρ' S' (setL L m ob') (setO O m ob') w := by
 have hlm : getOb L O m ≠ .none := fun q => by rw [q] at hO; cases hO
 have hs := sameR_at ρ m (fun k => (ρ m).fp k ∧ ¬ A k)
 let ρ' : Nm → Rz := fun x => if x = m then ⟨(ρ m).blk, (ρ m).tip, fun k => (ρ m).fp k ∧ ¬ A k, (ρ m).cl⟩ else ρ x
 let S' : Nat → Nat → Prop := fun g o => S g o ∨ (A g ∧ ∃ u, w.cell? ⟨g, o, none⟩ = some u)
 have hS1 : ∀ b o, S b o → S' b o := fun _ _ q => .inl q
 have hS2 : ∀ k o u, A k → w.cell? ⟨k, o, none⟩ = some u → S' k o := fun k o u q1 q2 => .inr ⟨q1, u, q2⟩
 have r1 : (ρ' m).fp = fun k => (ρ m).fp k ∧ ¬ A k := by show (if m = m then (⟨(ρ m).blk, (ρ m).tip, fun k => (ρ m).fp k ∧ ¬ A k, (ρ m).cl⟩ : Rz) else ρ m).fp = _; rw [if_pos rfl]
 have r2 : ∀ x, x ≠ m → ρ' x = ρ x := fun x q => if_neg q
 have hself := getOb_self L O hlm ob'
 have hne : ∀ x, x ≠ m → getOb (setL L m ob') (setO O m ob') x = getOb L O x := fun x q => getOb_ne L O q _
 have hlive : ∀ x, getOb (setL L m ob') (setO O m ob') x ≠ .none → getOb L O x ≠ .none := fun x q => by
  by_cases e : x = m
  ·rw [e]; exact hlm
  ·rwa [hne x e] at q
 have hoo : ∀ x, isO (getOb (setL L m ob') (setO O m ob') x) = true → isO (getOb L O x) = true := fun x q => by
  by_cases e : x = m
  ·rw [e]; exact hO
  ·rwa [hne x e] at q
 have hfp : ∀ x k, (ρ' x).fp k → (ρ x).fp k := fun x k q => by
  by_cases e : x = m
  ·rw [e] at q ⊢; rw [r1] at q; exact q.1
  ·rwa [r2 x e] at q
 refine ⟨ρ', S', hs, hS1, hS2, ?_⟩
 refine ⟨fun x => ?_, fun x y b hl1 hl2 q1 q2 => ?_, fun x b o hl q hS => ?_, fun x b hl q => ?_, fun g o q => ?_, fun g o q => .inl (h.s0 g o q), fun g o q => ?_, h.fr, h.sk, h.ws, h.os, h.tape, h.output, fun i z q => ?_, fun x k ho q => ?_, fun x y k ho hl e q => ?_⟩
 ·by_cases e : x = m
  ·rw [e, hself]
   have : ρ' m = ⟨(ρ m).blk, (ρ m).tip, fun k => (ρ m).fp k ∧ ¬ A k, (ρ m).cl⟩ := if_pos rfl
   rw [this]
   exact (hob S' hS1 hS2).fpchg hs
  ·rw [hne x e, r2 x e]
   exact ((h.ob x).keep (ρ' := ρ) (fun _ => rfl) hS1 (fun _ _ _ => rfl) (fun _ _ => rfl) (fun _ _ _ => rfl)).fpchg hs
 ·rw [(hs x).1] at q1
  rw [(hs y).1] at q2
  exact h.ne x y b (hlive x hl1) (hlive y hl2) q1 q2
 ·rw [(hs x).1] at q
  rcases hS with hS | ⟨hS, _⟩
  ·by_cases e : x = m
   ·subst e
    obtain ⟨e5, s5, bb, es5, p1, _⟩ := h.ss x b o hlm q hS
    rw [p1] at hO; cases hO
   ·rw [hne x e]; exact h.ss x b o (hlive x hl) q hS
  ·exfalso
   by_cases e : x = m
   ·subst e; exact hbm b q hS
   ·exact (h.fd m x b hO (hlive x hl) e (hA b hS)).1 q
 ·rw [(hs x).1] at q
  exact h.own x b (hlive x hl) q
 ·rcases q with q | ⟨q, _⟩
  ·exact h.sb g o q
  ·exact (h.fp m g hO (hA g q)).1
 ·rcases q with q | ⟨q, _⟩
  ·exact h.sn g o q
  ·exact .inr (h.fp m g hO (hA g q)).2.1
 ·obtain ⟨q1, q2⟩ := h.bx i z q
  have e : Nm.out i ≠ m := fun e => by rw [e, ham] at q2; cases q2
  rw [r2 _ e, hne _ e]
  exact ⟨q1, q2⟩
 ·obtain ⟨q1, q2, q3⟩ := h.fp x k (hoo x ho) (hfp x k q)
  refine ⟨q1, q2, fun o q4 => ?_⟩
  rcases q4 with q4 | ⟨q4, _⟩
  ·exact q3 o q4
  ·by_cases e : x = m
   ·subst e
    rw [r1] at q
    exact q.2 q4
   ·exact (h.fd x m k (hoo x ho) hlm (fun q => e q.symm) (hfp x k q)).2 hO (hA k q4)
 ·have := h.fd x y k (hoo x ho) (hlive y hl) e (hfp x k q)
  rw [(hs y).1]
  exact ⟨this.1, fun ho' q' => this.2 (hoo y ho') (hfp y k q')⟩
theorem setAt_len {es : List (ByteArray × Pd)} {j : Nat} {x : Pd} : (setAt es j x).length = es.length := by simp [setAt]
theorem setAt_get (es : List (ByteArray × Pd)) (j : Nat) (x : Pd) (i : Nat) : (setAt es j x)[i]? = (es[i]?).map fun q => if j = i then (q.1, x) else q := by
 simp only [setAt, List.getElem?_modify]
 cases es[i]? <;> simp <;> split <;> rfl
def EntG (S : Nat → Nat → Prop) (w : World) (fp : Nat → Prop) (b : Nat) (f : Nat → Nat) (es : List (ByteArray × Pd)) (ents : Array MapEntry) : Prop := ents.size = es.length ∧ ∀ (i : Nat) (x : ByteArray × Pd), es[i]? = some x → ∃ en : MapEntry, ents[i]? = some en ∧ en.key = .string x.1 ∧ en.val.oneCell' = true ∧ VO S w (fun k => fp k ∧ k ≠ b ∧ f k = i) x.2 en.val
theorem EntG.setAt_ {fp fp' : Nat → Prop} {b : Nat} {f f' : Nat → Nat} {es : List (ByteArray × Pd)} {ents : Array MapEntry} (h : EntG S w fp b f es ents) {S' : Nat → Nat → Prop} (hs : ∀ b o, S b o → S' b o) {j : Nat} {y : Pd} (hf : ∀ i, i ≠ j → ∀ k, fp k ∧ k ≠ b ∧ f k = i → fp' k ∧ k ≠ b ∧ f' k = i)
 (hy : ∀ x en, es[j]? = some x → ents[j]? = some en → VO S w (fun k => fp k ∧ k ≠ b ∧ f k = j) x.2 en.val → VO S' w (fun k => fp' k ∧ k ≠ b ∧ f' k = j) y en.val) : EntG S' w fp' b f' (setAt es j y) ents := by
 refine ⟨by rw [setAt_len]; exact h.1, fun i x hx => ?_⟩
 rw [setAt_get] at hx
 obtain ⟨x0, q1, q2⟩ := Option.map_eq_some_iff.1 hx
 obtain ⟨en, p1, p2, p3, p4⟩ := h.2 i x0 q1
 subst q2
 by_cases e : j = i
 ·subst e
  rw [if_pos rfl]
  exact ⟨en, p1, p2, p3, hy x0 en q1 p1 p4⟩
 ·rw [if_neg e]
  exact ⟨en, p1, p2, p3, (p4.keep hs (fun _ _ _ => rfl) fun _ _ => rfl).mono (hf i fun q => e q.symm)⟩
theorem Core.settleG {L O : List Ob} (h : Core cx ρ S L O w) {m : Nm} {n : Nat} {e z j : Nat} {es : List (ByteArray × Pd)} (hm : getOb L O m = .gmap e z es (some (j, .loc n))) (hne : m ≠ .loc n) {e' z' : Nat} {es' : List (List Pd)}
 (hn : VO S w (OwnAt L O ρ (.loc n)) (.ow e' z' es') (ρ (.loc n)).tip) :
 ∃ ρ' : Nm → Rz, SameR ρ ρ' ∧ Core cx ρ' S (setL (setL L (.loc n) .none) m (.gmap e z (setAt es j (.ow e' z' es')) none)) (setO O m (.gmap e z (setAt es j (.ow e' z' es')) none)) w := by
 have hob := h.ob m
 rw [hm] at hob
 obtain ⟨b, ents, clock, f, h1, h2, h3, h4, h5, h6, h7⟩ := hob
 have hO : isO (getOb L O m) = true := by rw [hm]; rfl
 have hlm : getOb L O m ≠ .none := by rw [hm]; exact fun q => by cases q
 have hdis : ∀ k, OwnAt L O ρ (.loc n) k → ¬ (ρ m).fp k := fun k q => ((h.ownAt q).2 m hlm hne).2 hO
 obtain ⟨hh, fa, fb⟩ := two_parts (A := OwnAt L O ρ (.loc n)) (B := (ρ m).fp) hdis (fun _ => j) f
 have hE : EntG S w (fun k => (ρ m).fp k ∨ OwnAt L O ρ (.loc n) k) b hh (setAt es j (.ow e' z' es')) ents :=
  EntG.setAt_ (fp := (ρ m).fp) (f := f) ⟨h5, h6⟩ (fun _ _ q => q) (fun i _ k hk => ⟨.inl hk.1, hk.2.1, by rw [fb k hk.1]; exact hk.2.2⟩) fun x en _ q2 _ => by
   rw [h7 j _ rfl en q2]
   exact hn.mono fun k hk => ⟨.inr hk, fun q => hdis k hk (q ▸ h2), fa k hk⟩
 exact ⟨_, sameR_at ρ m (fun k => (ρ m).fp k ∨ OwnAt L O ρ (.loc n) k), h.turnO (ns := [.loc n]) (by rw [hm]; rfl) (fun n q => by rw [List.mem_singleton.1 q]; rfl) (fun q => hne (List.mem_singleton.1 q)) _ (ob' := .gmap e z (setAt es j (.ow e' z' es')) none) rfl (fun b' q => .inl (by rw [h1] at q; injection q with q; exact q ▸ h2))
  ⟨b, ents, clock, hh, h1, .inl h2, h3, h4, hE.1, hE.2, fun j n q => nomatch q⟩ fun k q => by
   rcases q with q | q
   ·exact ⟨m, .inl rfl, .inl ⟨hO, q⟩⟩
   ·exact ⟨.loc n, .inr (List.mem_singleton.2 rfl), q⟩⟩
theorem Core.unlinkG {L O : List Ob} (h : Core cx ρ S L O w) {m : Nm} {e z : Nat} {es : List (ByteArray × Pd)} {lk : Option (Nat × Nm)} (hm : getOb L O m = .gmap e z es lk) :
 ∃ ρ' : Nm → Rz, SameR ρ ρ' ∧ Core cx ρ' S (setL L m (.gmap e z es none)) (setO O m (.gmap e z es none)) w := by
 have hob := h.ob m
 rw [hm] at hob
 obtain ⟨b, ents, clock, f, h1, h2, h3, h4, h5, h6, h7⟩ := hob
 exact ⟨_, sameR_at ρ m (ρ m).fp, h.turnO (ns := []) (by rw [hm]; rfl) (fun n q => by cases q) (fun q => by cases q) _ (ob' := .gmap e z es none) rfl (fun b' q => by rw [h1] at q; injection q with q; exact q ▸ h2)
  ⟨b, ents, clock, f, h1, h2, h3, h4, h5, h6, fun j n q => nomatch q⟩ fun k q => ⟨m, .inl rfl, .inl ⟨by rw [hm]; rfl, q⟩⟩⟩
theorem Core.unpackG {L O : List Ob} (h : Core cx ρ S L O w) {m : Nm} {s : Nat} (hne : m ≠ .loc s) {e z j : Nat} {es : List (ByteArray × Pd)} (hm : getOb L O m = .gmap e z es none) {key : ByteArray} {e' z' : Nat} {es' : List (List Pd)}
 (hx : es[j]? = some (key, .ow e' z' es')) {b : Nat} {ents : Array MapEntry} {clock : Nat} (hg : (ρ m).blk = some b) (hw : w.heap[b]? = some (.map ents clock)) {en : MapEntry} (hen : ents[j]? = some en) :
 ∃ ρ' : Nm → Rz, (ρ' (.loc s)).tip = en.val ∧ en.val.oneCell' = true ∧ (∀ x, x ≠ .loc s → (ρ' x).blk = (ρ x).blk ∧ (ρ' x).tip = (ρ x).tip ∧ (ρ' x).cl = (ρ x).cl) ∧
  Core cx ρ' S (setL (setL (L.map (scrubOb (.loc s))) m (.gmap e z (setAt es j .undef) (some (j, .loc s)))) (.loc s) (.marr e' z' es' none)) (setO (O.map (scrubOb (.loc s))) m (.gmap e z (setAt es j .undef) (some (j, .loc s)))) w := by
 have hob := h.ob m
 rw [hm] at hob
 obtain ⟨b', ents', clock', f, h1, h2, h3, h4, h5, h6, h7⟩ := hob
 rw [hg] at h1; injection h1 with h1; subst h1
 rw [hw] at h4; injection h4 with h4; injection h4 with h4 h4'; subst h4 h4'
 have hO : isO (getOb L O m) = true := by rw [hm]; rfl
 obtain ⟨en', p1, p2, p3, p4⟩ := h6 j _ hx
 rw [hen] at p1; injection p1 with p1; subst p1
 let A : Nat → Prop := fun k => (ρ m).fp k ∧ k ≠ b ∧ f k = j
 have hvA : ∀ k, en.val.ownBlock = some k → A k := fun k q => by
  cases p4 with
  | p hr => cases hr
  | ow ys f' q0 q1 q2 q3 q4 => exact q2 k q
 have hrm : ∀ ρ' : Nm → Rz, (ρ' (.loc s)).tip = en.val → ObRel ρ' S w (.gmap e z (setAt es j .undef) (some (j, .loc s))) ⟨(ρ m).blk, (ρ m).tip, fun k => (ρ m).fp k ∧ ¬ A k, (ρ m).cl⟩ := fun ρ' r1 => by
  have hE : EntG S w (fun k => (ρ m).fp k ∧ ¬ A k) b f (setAt es j .undef) ents :=
   EntG.setAt_ (fp := (ρ m).fp) (f := f) ⟨h5, h6⟩ (fun _ _ q => q) (fun i hi k hk => ⟨⟨hk.1, fun q => hi (hk.2.2.symm.trans q.2.2)⟩, hk.2⟩) fun x en _ q2 _ => .p .undef
  refine ⟨b, ents, clock, f, hg, ⟨h2, fun q => q.2.1 rfl⟩, h3, hw, hE.1, hE.2, fun j' n q en' hen' => ?_⟩
  injection q with q; injection q with q1 q2; subst q1 q2
  rw [hen] at hen'; injection hen' with hen'; subst hen'
  exact r1.symm
 obtain ⟨ρ', t1, t2, t3⟩ := h.split (obm := .gmap e z (setAt es j .undef) (some (j, .loc s))) (obp := .marr e' z' es' none) hne hO rfl rfl (by rw [hm]; rfl) A en.val (fun k q => q.1) hvA (fun b' q => by rw [hg] at q; injection q with q; subst q; exact ⟨h2, fun q => q.2.1 rfl⟩)
  hrm (fun ρ' => ⟨rfl, p3, p4, fun j off n q => nomatch q⟩)
 exact ⟨ρ', t1, p3, t2, t3⟩
theorem Core.freezeG {L O : List Ob} (h : Core cx ρ S L O w) {m : Nm} {e z j : Nat} {es : List (ByteArray × Pd)} (hm : getOb L O m = .gmap e z es none) {key : ByteArray} {x : Pd} {rows : List (List Pd)} (hr : coldRow z x = some rows)
 (hx : es[j]? = some (key, x)) {b : Nat} {ents : Array MapEntry} {clock : Nat} (hg : (ρ m).blk = some b) (hw : w.heap[b]? = some (.map ents clock)) {en : MapEntry} (hen : ents[j]? = some en) :
 ∃ (ρ' : Nm → Rz) (S' : Nat → Nat → Prop), SameR ρ ρ' ∧ (∀ b o, S b o → S' b o) ∧ VP S' w (.sl z rows) en.val ∧ Core cx ρ' S' (setL L m (.gmap e z (setAt es j (.sl z rows)) none)) (setO O m (.gmap e z (setAt es j (.sl z rows)) none)) w := by
 have hob := h.ob m
 rw [hm] at hob
 obtain ⟨b', ents', clock', f, h1, h2, h3, h4, h5, h6, h7⟩ := hob
 rw [hg] at h1; injection h1 with h1; subst h1
 rw [hw] at h4; injection h4 with h4; injection h4 with h4 h4'; subst h4 h4'
 have hO : isO (getOb L O m) = true := by rw [hm]; rfl
 obtain ⟨en', p1, p2, p3, p4⟩ := h6 j _ hx
 rw [hen] at p1; injection p1 with p1; subst p1
 let A : Nat → Prop := fun k => (ρ m).fp k ∧ k ≠ b ∧ f k = j
 have hcold : cold x = .sl z rows := by
  unfold coldRow at hr
  split at hr
  ·split at hr
   ·rename_i q; subst q; injection hr with hr; subst hr; rfl
   ·cases hr
  ·split at hr
   ·rename_i q; subst q; injection hr with hr; subst hr
    cases p4 with
    | p q => exact q.cold_
   ·cases hr
  ·cases hr
 have hv : ∀ S' : Nat → Nat → Prop, (∀ b o, S b o → S' b o) → (∀ k o u, A k → w.cell? ⟨k, o, none⟩ = some u → S' k o) → VP S' w (.sl z rows) en.val := fun S' q1 q2 => by
  rw [← hcold]; exact p4.cold_ q1 q2
 have hom : ∀ S' : Nat → Nat → Prop, (∀ b o, S b o → S' b o) → (∀ k o u, A k → w.cell? ⟨k, o, none⟩ = some u → S' k o) → ObRel ρ S' w (.gmap e z (setAt es j (.sl z rows)) none) ⟨(ρ m).blk, (ρ m).tip, fun k => (ρ m).fp k ∧ ¬ A k, (ρ m).cl⟩ := fun S' q1 q2 => by
  have hE : EntG S' w (fun k => (ρ m).fp k ∧ ¬ A k) b f (setAt es j (.sl z rows)) ents :=
   EntG.setAt_ (fp := (ρ m).fp) (f := f) ⟨h5, h6⟩ q1 (fun i hi k hk => ⟨⟨hk.1, fun q => hi (hk.2.2.symm.trans q.2.2)⟩, hk.2⟩) fun x' en' _ q4 _ => by
    rw [hen] at q4; injection q4 with q4; subst q4
    exact .p (hv S' q1 q2)
  exact ⟨b, ents, clock, f, hg, ⟨h2, fun q => q.2.1 rfl⟩, h3, hw, hE.1, hE.2, fun j n q => nomatch q⟩
 obtain ⟨ρ', S', t1, t2, t3, t4⟩ := h.shed (ob' := .gmap e z (setAt es j (.sl z rows)) none) hO (by rw [hm]; rfl) rfl A (fun k q => q.1) (fun b' q => by rw [hg] at q; injection q with q; subst q; exact fun q => q.2.1 rfl) hom
 exact ⟨ρ', S', t1, t2, hv S' t2 t3, t4⟩
theorem findNow_keys (key : ByteArray) : ∀ (es : List (ByteArray × Pd)) (l : List MapEntry) (i0 : Nat), l.length = es.length → (∀ (i : Nat) (x : ByteArray × Pd), es[i]? = some x → ∃ en : MapEntry, l[i]? = some en ∧ en.key = .string x.1) →
 (findM es key = none ∧ Instr.findNow .string (.string key) l i0 = some none ∧ idxM es key = es.length ∧ ∀ y, setM es key y = es ++ [(key, y)]) ∨
 (∃ (en : MapEntry) (x : Pd), findM es key = some x ∧ es[idxM es key]? = some (key, x) ∧ Instr.findNow .string (.string key) l i0 = some (some (i0 + idxM es key, en.val)) ∧ l[idxM es key]? = some en ∧ en.key = .string key ∧ ∀ y, setM es key y = setAt es (idxM es key) y)
 | [], l, i0, h, _ => by
  have : l = [] := List.eq_nil_of_length_eq_zero h
  subst this
  exact .inl ⟨rfl, rfl, rfl, fun y => rfl⟩
 | (k, v) :: es, [], i0, h, _ => by cases h
 | (k, v) :: es, e :: l, i0, h, h2 => by
  obtain ⟨en, q1, q2⟩ := h2 0 (k, v) rfl
  simp only [List.getElem?_cons_zero, Option.some.injEq] at q1
  subst q1
  have hsame : ∃ r, Instr.sameNow .string (.string key) e.key = some r ∧ (r = true ↔ k = key) := by
   rw [q2]
   obtain ⟨r, r1, r2⟩ := MapKept.sameNow_of_keys (d := .string) (a := .string key) (b := .string k) trivial trivial
   refine ⟨r, r1, r2.trans ?_⟩
   constructor
   ·intro e; injection e with e; exact e.symm
   ·intro e; rw [e]
  obtain ⟨r, r1, r2⟩ := hsame
  by_cases hk : k = key
  ·have : r = true := r2.2 hk
   refine .inr ⟨e, v, by simp [findM, hk], by simp [idxM, hk], by simp [Instr.findNow, r1, this, idxM, hk], by simp [idxM, hk], by rw [q2, hk], fun y => by simp [setM, idxM, hk, setAt]⟩
  ·have hr : r = false := by
    cases r with
    | false => rfl
    | true => exact absurd (r2.1 rfl) hk
   rcases findNow_keys key es l (i0 + 1) (by simpa using h) (fun i x hx => h2 (i + 1) x (by simpa using hx)) with ⟨g1, g2, g4, g3⟩ | ⟨en, x, g1, g2, g3, g4, g5, g6⟩
   ·exact .inl ⟨by simp [findM, hk, g1], by simp [Instr.findNow, r1, hr, g2], by simp [idxM, hk, g4], fun y => by simp [setM, hk, g3]⟩
   ·refine .inr ⟨en, x, by simp [findM, hk, g1], by simp [idxM, hk, g2], ?_, by simp [idxM, hk, g4], g5, fun y => by simp [setM, idxM, hk, g6, setAt]⟩
    have : i0 + 1 + idxM es key = i0 + (idxM es key + 1) := by omega
    simp [Instr.findNow, r1, hr, g3, idxM, hk, this]
theorem EntG.keys {fp : Nat → Prop} {b : Nat} {f : Nat → Nat} {es : List (ByteArray × Pd)} {ents : Array MapEntry} (h : EntG S w fp b f es ents) : ents.toList.length = es.length ∧ ∀ (i : Nat) (x : ByteArray × Pd), es[i]? = some x → ∃ en : MapEntry, ents.toList[i]? = some en ∧ en.key = .string x.1 :=
 ⟨by simpa using h.1, fun i x hx => by
  obtain ⟨en, q1, q2, _⟩ := h.2 i x hx
  exact ⟨en, by simpa using q1, q2⟩⟩
theorem run_lookG {t et kt : TypeId} (hu : P.underlying t = some (.map kt et)) (hk : P.underlying kt = some .string) {ok : Bool} {key : ByteArray} {fp : Nat → Prop} {b clock : Nat} {f : Nat → Nat} {es : List (ByteArray × Pd)} {ents : Array MapEntry} (hE : EntG S w fp b f es ents) (hw : w.heap[b]? = some (.map ents clock)) :
 (findM es key = none ∧ (nilT P et = true → (Instr.lookup t (.map (some b)) (.string key) ok).run P w = .ok (if ok = true then .tuple #[.slice none 0 0, .bool false] else .slice none 0 0) w)) ∨
 (∃ (en : MapEntry) (x : Pd), findM es key = some x ∧ es[idxM es key]? = some (key, x) ∧ ents[idxM es key]? = some en ∧ (Instr.lookup t (.map (some b)) (.string key) ok).run P w = .ok (if ok = true then .tuple #[en.val, .bool true] else en.val) w) := by
 obtain ⟨k1, k2⟩ := hE.keys
 rcases findNow_keys key es ents.toList 0 k1 k2 with ⟨g1, g2, _⟩ | ⟨en, x, g1, g2, g3, g4, g5, _⟩
 ·refine .inl ⟨g1, fun hn => ?_⟩
  have z1 : (zeroValue et).run P w = .ok (.slice none 0 0) w := by
   unfold nilT at hn
   split at hn
   ·rename_i i hi
    split at hn
    ·rename_i hz; simp [zeroValue, typeInfo, hi, hz]
    ·cases hn
   ·cases hn
  cases ok <;> simp [Instr.lookup, run_underlying hu, MapKept.run_getObj_map hw, MapKept.run_checkKey (d := .string) (k := .string key) hk trivial, MapKept.run_findKey hk g2, z1, g1, Result.andThen]
 ·refine .inr ⟨en, x, g1, g2, by simpa using g4, ?_⟩
  cases ok <;> simp [Instr.lookup, run_underlying hu, MapKept.run_getObj_map hw, MapKept.run_checkKey (d := .string) (k := .string key) hk trivial, MapKept.run_findKey hk g3, g1, Result.andThen]
theorem run_updG {t et kt : TypeId} (hu : P.underlying t = some (.map kt et)) (hk : P.underlying kt = some .string) {key : ByteArray} {vz : Value} {fp : Nat → Prop} {b clock : Nat} {f : Nat → Nat} {es : List (ByteArray × Pd)} {ents : Array MapEntry} (hE : EntG S w fp b f es ents) (hw : w.heap[b]? = some (.map ents clock)) :
 ∃ ents' clock', (Instr.mapUpdate t (.map (some b)) (.string key) vz).run P w = .ok () { w with heap := w.heap.setIfInBounds b (.map ents' clock') } ∧ (∃ en, ents'[idxM es key]? = some en ∧ en.val = vz) ∧ ∀ y, ents'.size = (setM es key y).length ∧
  ∀ (i : Nat) (x : ByteArray × Pd), (setM es key y)[i]? = some x → ∃ en : MapEntry, ents'[i]? = some en ∧ en.key = .string x.1 ∧ ((i = idxM es key ∧ x.2 = y ∧ en.val = vz) ∨ (i ≠ idxM es key ∧ es[i]? = some x ∧ ents[i]? = some en)) := by
 obtain ⟨k1, k2⟩ := hE.keys
 rcases findNow_keys key es ents.toList 0 k1 k2 with ⟨g1, g2, g4, g3⟩ | ⟨en, x', g1, g2, g3, g4, g5, g6⟩
 ·refine ⟨ents.push { key := .string key, val := vz, born := clock }, clock + 1, ?_, ⟨_, by rw [g4, Array.getElem?_push, if_pos hE.1.symm], rfl⟩, fun y => ⟨by rw [g3]; simp [hE.1], fun i x hx => ?_⟩⟩
  ·simp [Instr.mapUpdate, run_underlying hu, MapKept.run_getObj_map hw, MapKept.run_checkKey (d := .string) (k := .string key) hk trivial, MapKept.run_findKey hk g2, MapKept.run_setObj_map _ hw, Result.andThen]
  ·have hs := hE.1
   rw [g3] at hx
   by_cases hi : i < es.length
   ·rw [List.getElem?_append_left hi] at hx
    obtain ⟨en, p1, p2, _⟩ := hE.2 i x hx
    exact ⟨en, by rw [Array.getElem?_push, if_neg (by omega)]; exact p1, p2, .inr ⟨by omega, hx, p1⟩⟩
   ·rw [List.getElem?_append_right (by omega)] at hx
    have hie : i = es.length := by
     have := (List.getElem?_eq_some_iff.1 hx).1
     simp at this; omega
    subst hie
    simp only [Nat.sub_self, List.getElem?_cons_zero, Option.some.injEq] at hx
    subst hx
    exact ⟨_, by rw [Array.getElem?_push, if_pos hs.symm], rfl, .inl ⟨g4.symm, rfl, rfl⟩⟩
 ·have g4' : ents[idxM es key]? = some en := by simpa using g4
  refine ⟨ents.modify (idxM es key) fun e => { e with key := .string key, val := vz }, clock, ?_, ⟨{ en with key := .string key, val := vz }, by rw [Array.getElem?_modify, if_pos rfl, g4']; rfl, rfl⟩, fun y => ⟨by rw [g6, setAt_len]; simp [hE.1], fun i x hx => ?_⟩⟩
  ·simp [Instr.mapUpdate, run_underlying hu, MapKept.run_getObj_map hw, MapKept.run_checkKey (d := .string) (k := .string key) hk trivial, MapKept.run_findKey hk g3, g4', g5, MapKept.run_keyThatStays (d := .string) (k := .string key) trivial, MapKept.run_setObj_map _ hw, Result.andThen]
  ·rw [g6, setAt_get] at hx
   obtain ⟨x0, q1, q2⟩ := Option.map_eq_some_iff.1 hx
   by_cases hij : idxM es key = i
   ·subst hij
    rw [if_pos rfl] at q2
    rw [g2] at q1; injection q1 with q1; subst q1
    subst q2
    exact ⟨{ en with key := .string key, val := vz }, by rw [Array.getElem?_modify, if_pos rfl, g4']; rfl, rfl, .inl ⟨rfl, rfl, rfl⟩⟩
   ·rw [if_neg hij] at q2
    subst q2
    obtain ⟨en', p1, p2, _⟩ := hE.2 i x0 q1
    exact ⟨en', by rw [Array.getElem?_modify, if_neg hij]; exact p1, p2, .inr ⟨fun q => hij q.symm, q1, p1⟩⟩
end Go.Proofs.YtmnoibkdmeajpaaGreat.Dm
