/- The machine over plain data and memory: functions. -/
import Derived.Test.YtmnoibkdmeajpaaGreatDm14
import Derived.Defers
namespace Go.Proofs.YtmnoibkdmeajpaaGreat.Dm
set_option linter.unusedSectionVars false
open Go.RowKit
set_option linter.unusedVariables false
set_option linter.unusedSimpArgs false
variable [Cfg] {P : Program} {cx : Cx} {ρ : Nm → Rz} {S : Nat → Nat → Prop} {w : World} {st st' : St} {a : Act} {o : Oper} {d : Dv}
def resV (tmps : Array Value) : ResultVar → Sem Value
 | .tmp t => pure (tmps.getD t undef)
 | .cell a t => do loadVar t (← asAddr (tmps.getD a undef))
theorem resD_sound (h : Rel cx ρ S st a w) : ∀ (l : List ResultVar) (ds : List Dv), resD P st l = some ds → ∃ vs : List Value, (l.mapM (resV a.tmps)).run P w = .ok vs w ∧ vs.length = ds.length ∧ ∀ j, j < ds.length → VD ρ S w (ds.getD j ud) (vs.getD j undef)
 | [], ds, hd => by
  simp only [resD] at hd
  injection hd with hd; subst hd
  exact ⟨[], by simp, rfl, fun j hj => by cases hj⟩
 | .tmp t :: rs, ds, hd => by
  simp only [resD] at hd
  split at hd
  ·rename_i ds' h1
   injection hd with hd; subst hd
   obtain ⟨vs, q1, q2, q3⟩ := resD_sound h rs ds' h1
   refine ⟨a.tmps.getD t undef :: vs, ?_, by simp [q2], fun j hj => ?_⟩
   ·simp [List.mapM_cons, resV, q1]
   ·cases j with
    | zero => exact h.tm t
    | succ j => exact q3 j (by simpa using hj)
  ·cases hd
 | .cell b t :: rs, ds, hd => by
  simp only [resD] at hd
  rw [loadD_bind] at hd
  obtain ⟨d, h0, hd⟩ := Option.bind_eq_some_iff.1 hd
  split at hd
  ·rename_i ds' h1
   injection hd with hd; subst hd
   obtain ⟨vs, q1, q2, q3⟩ := resD_sound h rs ds' h1
   obtain ⟨ad, v, e1, e2, e3⟩ := loadD_sound h.core (h.tm b) h0
   refine ⟨v :: vs, ?_, by simp [q2], fun j hj => ?_⟩
   ·have e1' : a.tmps[b]?.getD undef = .pointer (some ad) := by rw [← Array.getD_eq_getD_getElem?]; exact e1
    simp [List.mapM_cons, resV, q1, e1', asAddr, e2]
   ·cases j with
    | zero => exact e3
    | succ j => exact q3 j (by simpa using hj)
  ·cases hd
theorem finishPlain_sound {fn : Func} {r : Res} (h : Rel cx ρ S st a w) (hf : finishPlain P fn st = some r) :
 ∃ v S', (results fn a.tmps).run P w = .ok v w ∧ Core cx ρ S' [] r.2 w ∧ VD ρ S' w (retV r.1) v := by
 unfold finishPlain at hf
 split at hf
 ·rename_i ds hds
  split at hf
  ·rename_i xs L O hv
   split at hf
   ·injection hf with hf; subst hf
    obtain ⟨vs, q1, q2, q3⟩ := resD_sound h _ ds hds
    obtain ⟨S', p1, p2, p3, p4, _⟩ := viewAll_sound ds h.core (fun j => vs.getD j undef) q3 hv
    refine ⟨if hh : vs.toArray.size = 1 then vs.toArray[0] else .tuple vs.toArray, S', ?_, p2.drop (fun m => ?_), ?_⟩
    ·have e : (fn.results.mapM (resV a.tmps)).run P w = .ok vs.toArray w := by
      rw [Array.mapM_eq_mapM_toList]
      simp [q1]
     show ((fn.results.mapM (resV a.tmps)) >>= fun vs => pure (if h : vs.size = 1 then vs[0] else .tuple vs)).run P w = _
     rw [Sem.run_bind, e]
     rfl
    ·cases m with
     | out i => left; rfl
     | loc s => right; exact ⟨by simp [getOb], s, rfl⟩
    ·match xs, ds, vs, p3, q2, p4 with
     | [x], [d], [v], _, _, p4 =>
      have := p4 0 (by simp)
      exact .p (by simpa using this)
     | [], [], [], _, _, p4 => exact .tup (by simp) fun j hj => by cases hj
     | x :: y :: xs, d :: e :: ds, v :: u :: vs, p3, q2, p4 =>
      rw [dif_neg (by simp)]
      refine .tup ?_ fun j hj => ?_
      ·simp at p3 q2 ⊢; omega
      ·have hj' : j < (d :: e :: ds).length := by simp at p3 hj ⊢; omega
       have := p4 j hj'
       have e1 : ((x :: y :: xs).map Dv.p).getD j ud = .p ((x :: y :: xs).getD j .undef) := by
        rw [List.getD_eq_getElem?_getD, List.getElem?_map, List.getD_eq_getElem?_getD]
        cases (x :: y :: xs)[j]? <;> rfl
       have e2 : (v :: u :: vs).toArray.getD j undef = (v :: u :: vs).getD j undef := by
        simp [List.getD_eq_getElem?_getD]
       show VD ρ S' w (((x :: y :: xs).map Dv.p).getD j ud) _
       rw [e1, e2]
       exact .p this
   ·cases hf
  ·cases hf
 ·cases hf
theorem giveOwn_get {L O : List Ob} : ∀ (rs : List (Option (Nat × Nat))) (l : List Dv) (ms : List Nm) (c : Nat) (ds' : List Dv) (os : List Ob), giveOwn P L O ms c rs l = some (ds', os) →
 ∃ src : Nat → Option Nm, ds'.length = l.length ∧ (∀ j, j < l.length → (∃ x, l.getD j ud = .p x ∧ ds'.getD j ud = .p x) ∨ ∃ i, i < os.length ∧ ds'.getD j ud = .arr (.out (c + i)) ∧ ((∃ s', l.getD j ud = .nilsl s' ∧ src i = none) ∨ ∃ m, l.getD j ud = .arr m ∧ src i = some m)) ∧
  (∀ i, i < os.length → ∃ e s es, os.getD i .none = rowOb P e s es ∧ ((src i = none ∧ es = [] ∧ 0 < s) ∨ ∃ m, src i = some m ∧ isLoc m = true ∧ m ∉ ms ∧ getOb L O m = rowOb P e s es)) ∧
  ∀ i i' m, i < os.length → i' < os.length → src i = some m → src i' = some m → i = i'
 | [], [], ms, c, ds', os, h => by
  simp only [giveOwn] at h
  injection h with h; injection h with e1 e2; subst e1 e2
  exact ⟨fun _ => none, rfl, fun j hj => (by cases hj), fun i hi => (by cases hi), fun i i' m hi => by cases hi⟩
 | none :: rs, d :: l, ms, c, ds', os, h => by
  cases d with
  | p x =>
   simp only [giveOwn] at h
   split at h
   ·rename_i l2 os2 h2
    injection h with h; injection h with e1 e2; subst e1 e2
    obtain ⟨src, q1, q2, q3, q4⟩ := giveOwn_get rs l ms c l2 os2 h2
    refine ⟨src, by simp [q1], fun j hj => ?_, q3, q4⟩
    cases j with
    | zero => exact .inl ⟨x, rfl, rfl⟩
    | succ j => simpa using q2 j (by simpa using hj)
   ·cases h
  | _ => simp only [giveOwn] at h; cases h
 | some (e, s) :: rs, d :: l, ms, c, ds', os, h => by
  have step : ∀ (o : Ob) (sr : Option Nm) (ms' : List Nm) (l2 : List Dv) (os2 : List Ob), (∀ m, m ∈ ms → m ∈ ms') → (∀ m, sr = some m → m ∈ ms') → giveOwn P L O ms' (c + 1) rs l = some (l2, os2) → ds' = .arr (.out c) :: l2 → os = o :: os2 →
   (∃ es, o = rowOb P e s es ∧ ((sr = none ∧ es = [] ∧ 0 < s ∧ ∃ s', d = .nilsl s') ∨ ∃ m, sr = some m ∧ d = .arr m ∧ isLoc m = true ∧ m ∉ ms ∧ getOb L O m = rowOb P e s es)) →
   ∃ src : Nat → Option Nm, ds'.length = (d :: l).length ∧ (∀ j, j < (d :: l).length → (∃ x, (d :: l).getD j ud = .p x ∧ ds'.getD j ud = .p x) ∨ ∃ i, i < os.length ∧ ds'.getD j ud = .arr (.out (c + i)) ∧ ((∃ s', (d :: l).getD j ud = .nilsl s' ∧ src i = none) ∨ ∃ m, (d :: l).getD j ud = .arr m ∧ src i = some m)) ∧
    (∀ i, i < os.length → ∃ e s es, os.getD i .none = rowOb P e s es ∧ ((src i = none ∧ es = [] ∧ 0 < s) ∨ ∃ m, src i = some m ∧ isLoc m = true ∧ m ∉ ms ∧ getOb L O m = rowOb P e s es)) ∧
    ∀ i i' m, i < os.length → i' < os.length → src i = some m → src i' = some m → i = i' := by
   intro o sr ms' l2 os2 hms hsr h2 e1 e2 ho
   subst e1 e2
   obtain ⟨src, q1, q2, q3, q4⟩ := giveOwn_get rs l ms' (c + 1) l2 os2 h2
   obtain ⟨es, ho1, ho2⟩ := ho
   have hnot : ∀ i m, i < os2.length → src i = some m → m ∉ ms' := fun i m hi hm => by
    obtain ⟨_, _, _, _, p | ⟨m', p1, _, p2, _⟩⟩ := q3 i hi
    ·rw [p.1] at hm; cases hm
    ·rw [p1] at hm; injection hm with hm; exact hm ▸ p2
   refine ⟨fun i => match i with | 0 => sr | i + 1 => src i, by simp [q1], fun j hj => ?_, fun i hi => ?_, fun i i' m hi hi' h1 h2 => ?_⟩
   ·cases j with
    | zero =>
     right
     refine ⟨0, by simp, rfl, ?_⟩
     rcases ho2 with ⟨p1, _, _, s', p2⟩ | ⟨m, p1, p2, _⟩
     ·exact .inl ⟨s', p2, p1⟩
     ·exact .inr ⟨m, p2, p1⟩
    | succ j =>
     rcases q2 j (by simpa using hj) with p | ⟨i, p1, p2, p3⟩
     ·left; simpa using p
     ·right
      exact ⟨i + 1, by simpa using p1, by rw [show c + (i + 1) = c + 1 + i by omega]; simpa using p2, by simpa using p3⟩
   ·cases i with
    | zero =>
     refine ⟨e, s, es, ho1, ?_⟩
     rcases ho2 with ⟨p1, p2, p3, _⟩ | ⟨m, p1, _, p3, p4, p5⟩
     ·exact .inl ⟨p1, p2, p3⟩
     ·exact .inr ⟨m, p1, p3, p4, p5⟩
    | succ i =>
     obtain ⟨e', s', es', p1, p2⟩ := q3 i (by simpa using hi)
     refine ⟨e', s', es', by simpa using p1, ?_⟩
     rcases p2 with p2 | ⟨m, r1, r2, r3, r4⟩
     ·exact .inl p2
     ·exact .inr ⟨m, r1, r2, fun q => r3 (hms m q), r4⟩
   ·cases i with
    | zero =>
     cases i' with
     | zero => rfl
     | succ i' => exact absurd (hsr m h1) (hnot i' m (by simpa using hi') h2)
    | succ i =>
     cases i' with
     | zero => exact absurd (hsr m h2) (hnot i m (by simpa using hi) h1)
     | succ i' => rw [q4 i i' m (by simpa using hi) (by simpa using hi') h1 h2]
  cases d with
  | nilsl s' =>
   simp only [giveOwn] at h
   split at h
   ·cases h
   rename_i hs
   split at h
   ·rename_i l2 os2 h2
    injection h with h; injection h with e1 e2
    exact step _ none ms l2 os2 (fun m q => q) (fun m q => by cases q) h2 e1.symm e2.symm ⟨[], rfl, .inl ⟨rfl, rfl, by omega, s', rfl⟩⟩
   ·cases h
  | arr m =>
   simp only [giveOwn] at h
   split at h
   ·rename_i hlm
    rw [Bool.and_eq_true, Bool.not_eq_true', List.contains_eq_mem, decide_eq_false_iff_not] at hlm
    split at h
    ·rename_i es hes
     split at h
     ·rename_i l2 os2 h2
      injection h with h; injection h with e1 e2
      exact step _ (some m) (m :: ms) l2 os2 (fun m q => List.mem_cons_of_mem _ q) (fun m' q => by injection q with q; rw [q]; exact List.mem_cons_self ..) h2 e1.symm e2.symm ⟨es, rfl, .inr ⟨m, rfl, rfl, hlm.1, hlm.2, (asRow_eq hes).1⟩⟩
     ·cases h
    ·cases h
   ·cases h
  | _ => simp only [giveOwn] at h; cases h
 | [], _ :: _, ms, c, ds', os, h => by cases h
 | none :: rs, [], ms, c, ds', os, h => by cases h
 | some _ :: rs, [], ms, c, ds', os, h => by cases h
theorem regroup_vd {ρ' : Nm → Rz} : ∀ (ts : List TypeId) (ds l l2 : List Dv), flatOwn P ts ds = some l → l2.length = l.length → (∀ j, j < l.length → ∀ v, VD ρ S w (l.getD j ud) v → VD ρ' S w (l2.getD j ud) v) →
 (regroup P ts l2).length = ds.length ∧ ∀ j, j < ds.length → ∀ v, VD ρ S w (ds.getD j ud) v → VD ρ' S w ((regroup P ts l2).getD j ud) v
 | [], [], l, l2, h, hl, hr => ⟨rfl, fun j hj => by cases hj⟩
 | [], _ :: _, l, l2, h, hl, hr => by cases h
 | _ :: _, [], l, l2, h, hl, hr => by cases h
 | t :: ts, d :: ds, l, l2, h, hl, hr => by
  simp only [flatOwn] at h
  split at h
  ·rename_i ha
   have main : ∀ (cs l' : List Dv), cs.length = P.cellsOf t → flatOwn P ts ds = some l' → l = cs ++ l' → (∀ v, VD ρ S w d v → ∃ vs : Array Value, v = .agg vs ∧ vs.size = P.cellsOf t ∧ (∀ j, j < P.cellsOf t → (vs.getD j undef).oneCell' = true) ∧ ∀ j, j < P.cellsOf t → VD ρ S w (cs.getD j ud) (vs.getD j undef)) →
    (regroup P (t :: ts) l2).length = (d :: ds).length ∧ ∀ j, j < (d :: ds).length → ∀ v, VD ρ S w ((d :: ds).getD j ud) v → VD ρ' S w ((regroup P (t :: ts) l2).getD j ud) v := by
    intro cs l' hn2 hl' he hd
    subst he
    rw [List.length_append] at hl
    obtain ⟨q1, q2⟩ := regroup_vd ts ds l' (l2.drop (P.cellsOf t)) hl' (by rw [List.length_drop]; omega) (fun j hj => by
     have := hr (P.cellsOf t + j) (by rw [List.length_append]; omega)
     rw [List.getD_eq_getElem?_getD (l := cs ++ l'), List.getElem?_append_right (by omega), show P.cellsOf t + j - cs.length = j by omega, ← List.getD_eq_getElem?_getD] at this
     rw [List.getD_eq_getElem?_getD (l := l2.drop _), List.getElem?_drop, ← List.getD_eq_getElem?_getD]
     exact this)
    simp only [regroup, if_pos ha]
    refine ⟨by simp [q1], fun j hj => ?_⟩
    cases j with
    | zero =>
     intro v hv
     obtain ⟨vs, rfl, g1, g2, g3⟩ := hd v hv
     refine .agg (by rw [List.length_take]; omega) g1 g2 fun j hj => ?_
     have := hr j (by rw [List.length_append]; omega)
     rw [List.getD_eq_getElem?_getD (l := cs ++ l'), List.getElem?_append_left (by omega), ← List.getD_eq_getElem?_getD] at this
     rw [List.getD_eq_getElem?_getD (l := l2.take _), List.getElem?_take, if_pos hj, ← List.getD_eq_getElem?_getD]
     exact this _ (g3 j hj)
    | succ j => simpa using q2 j (by simpa using hj)
   split at h
   ·rename_i n cs
    split at h
    ·rename_i hn
     obtain ⟨rfl, hn2⟩ := hn
     split at h
     ·rename_i l' hl'
      injection h with h
      refine main cs l' hn2 hl' h.symm fun v hv => ?_
      cases hv with
      | agg h0 h1 h2 h3 => exact ⟨_, rfl, h1, h2, h3⟩
     ·cases h
    ·cases h
   ·rename_i n cs
    split at h
    ·rename_i hn
     obtain ⟨rfl, hn2⟩ := hn
     split at h
     ·rename_i l' hl'
      injection h with h
      refine main (cs.map .p) l' (by rw [List.length_map]; exact hn2) hl' h.symm fun v hv => ?_
      cases hv with
      | p hv =>
       cases hv with
       | agg h1 h2 h3 => exact ⟨_, rfl, h1, h2, fun j hj => by rw [getD_map_p]; exact .p (h3 j hj)⟩
     ·cases h
    ·cases h
   ·cases h
  ·rename_i ha
   split at h
   ·rename_i l' hl'
    injection h with h; subst h
    rw [List.length_cons] at hl
    cases l2 with
    | nil => cases hl
    | cons x l2 =>
     obtain ⟨q1, q2⟩ := regroup_vd ts ds l' l2 hl' (by simpa using hl) (fun j hj => by simpa using hr (j + 1) (by simpa using hj))
     simp only [regroup, if_neg ha, List.headD_cons, List.drop_succ_cons, List.drop_zero]
     refine ⟨by simp [q1], fun j hj => ?_⟩
     cases j with
     | zero => exact hr 0 (by simp)
     | succ j => simpa using q2 j (by simpa using hj)
   ·cases h
theorem rowOb_live {e s : Nat} {es : List (List Pd)} : rowOb P e s es ≠ .none := by unfold rowOb; split <;> exact fun q => by cases q
theorem Core.give {L os : List Ob} (h : Core cx ρ S L [] w) (hB : ∀ i, cx.B i = none) {src : Nat → Option Nm} (hos : ∀ i, i < os.length → ∃ e s es, os.getD i .none = rowOb P e s es ∧ ((src i = none ∧ es = [] ∧ 0 < s) ∨ ∃ m, src i = some m ∧ getOb L [] m = rowOb P e s es))
 (hinj : ∀ i i' m, i < os.length → i' < os.length → src i = some m → src i' = some m → i = i') :
 Core cx (fun m => match m with | .out i => (match src i with | some m => ρ m | none => .of none (.slice none 0 0)) | .loc s => ρ (.loc s)) S [] os w := by
 have hlive : ∀ m, getOb [] os m ≠ .none → ∃ i e s es, m = .out i ∧ i < os.length ∧ os.getD i .none = rowOb P e s es ∧ ((src i = none ∧ es = [] ∧ 0 < s) ∨ ∃ m, src i = some m ∧ getOb L [] m = rowOb P e s es) := by
  intro m q
  cases m with
  | loc s => simp [getOb] at q
  | out i =>
   have hlt : i < os.length := by
    rcases Nat.lt_or_ge i os.length with q' | q'
    ·exact q'
    ·exact absurd (getD_ge (l := os) q') q
   obtain ⟨e, s, es, q1, q2⟩ := hos i hlt
   exact ⟨i, e, s, es, rfl, hlt, q1, q2⟩
 have hsrc : ∀ i m, src i = some m → (match src i with | some m => ρ m | none => Rz.of none (.slice none 0 0)) = ρ m := fun i m q => by rw [q]
 have hnil : ∀ i, src i = none → (match src i with | some m => ρ m | none => Rz.of none (.slice none 0 0)) = .of none (.slice none 0 0) := fun i q => by rw [q]
 refine ⟨fun m => ?_, fun m1 m2 b hl1 hl2 q1 q2 => ?_, fun m b o hl q hS => ?_, fun m b hl q => ?_, h.sb, h.s0, h.sn, h.fr, h.sk, h.ws, h.os, h.tape, h.output, fun i z q => (by rw [hB] at q; cases q), fun m k ho q => ?_, fun m1 m2 k ho hl2 e q => ?_⟩
 ·by_cases hl : getOb [] os m = .none
  ·rw [hl]; trivial
  ·obtain ⟨i, e, s, es, rfl, hi, q1, q2⟩ := hlive m hl
   have e1 : getOb [] os (.out i) = os.getD i .none := rfl
   rw [e1, q1]
   rcases q2 with ⟨p1, p2, p3⟩ | ⟨m, p1, p2⟩
   ·subst p2
    show ObRel _ S w (rowOb P e s []) (match src i with | some m => ρ m | none => Rz.of none (.slice none 0 0))
    rw [hnil i p1]
    unfold rowOb
    split
    ·exact ⟨rfl, rfl, .ow [] (fun _ => 0) p3 (World.ownsRow_nil _ _ _ _) (fun g q => nomatch q) (fun u q => nomatch q) (fun i j hi => by cases hi), fun i j b hi => by cases hi⟩
    ·exact ⟨[], World.ownsRow_nil _ _ _ _, rfl, p3, (fun u q => by cases q), fun i j hi => by cases hi⟩
   ·have hob := h.ob m
    rw [p2] at hob
    show ObRel _ S w (rowOb P e s es) (match src i with | some m => ρ m | none => Rz.of none (.slice none 0 0))
    rw [hsrc i m p1]
    unfold rowOb at hob ⊢
    split
    ·rename_i hr; rw [if_pos hr] at hob; exact hob
    ·rename_i hr; rw [if_neg hr] at hob; exact hob
 ·obtain ⟨i, e, s, es, rfl, hi, p1, p2⟩ := hlive m1 hl1
  obtain ⟨i2, e2, s2, es2, rfl, hi2, r1, r2⟩ := hlive m2 hl2
  have q1 : (match src i with | some m => ρ m | none => Rz.of none (.slice none 0 0)).blk = some b := q1
  have q2 : (match src i2 with | some m => ρ m | none => Rz.of none (.slice none 0 0)).blk = some b := q2
  rcases p2 with ⟨p3, _⟩ | ⟨m, p3, p4⟩
  ·rw [hnil i p3] at q1; cases q1
  ·rcases r2 with ⟨r3, _⟩ | ⟨m', r3, r4⟩
   ·rw [hnil i2 r3] at q2; cases q2
   ·rw [hsrc i m p3] at q1
    rw [hsrc i2 m' r3] at q2
    have := h.ne m m' b (by rw [p4]; exact rowOb_live) (by rw [r4]; exact rowOb_live) q1 q2
    subst this
    rw [hinj i i2 m hi hi2 p3 r3]
 ·obtain ⟨i, e, s, es, rfl, hi, p1, p2⟩ := hlive m hl
  have q : (match src i with | some m => ρ m | none => Rz.of none (.slice none 0 0)).blk = some b := q
  rcases p2 with ⟨p3, _⟩ | ⟨m, p3, p4⟩
  ·rw [hnil i p3] at q; cases q
  ·rw [hsrc i m p3] at q
   obtain ⟨e', s', bb, es', r1, r2⟩ := h.ss m b o (by rw [p4]; exact rowOb_live) q hS
   rw [p4] at r1
   exact ⟨e', s', bb, es', p1.trans r1, r2⟩
 ·obtain ⟨i, e, s, es, rfl, hi, p1, p2⟩ := hlive m hl
  have q : (match src i with | some m => ρ m | none => Rz.of none (.slice none 0 0)).blk = some b := q
  rcases p2 with ⟨p3, _⟩ | ⟨m, p3, p4⟩
  ·rw [hnil i p3] at q; cases q
  ·rw [hsrc i m p3] at q
   exact h.own m b (by rw [p4]; exact rowOb_live) q
 ·obtain ⟨i, e, s, es, rfl, hi, p1, p2⟩ := hlive m (fun q' => by rw [q'] at ho; cases ho)
  have q : (match src i with | some m => ρ m | none => Rz.of none (.slice none 0 0)).fp k := q
  rcases p2 with ⟨p3, _⟩ | ⟨m, p3, p4⟩
  ·rw [hnil i p3] at q; exact q.elim
  ·rw [hsrc i m p3] at q
   refine h.fp m k ?_ q
   rw [p4, ← p1]
   exact ho
 ·obtain ⟨i, e', s, es, rfl, hi, p1, p2⟩ := hlive m1 (fun q' => by rw [q'] at ho; cases ho)
  obtain ⟨i2, e2, s2, es2, rfl, hi2, r1, r2⟩ := hlive m2 hl2
  have q : (match src i with | some m => ρ m | none => Rz.of none (.slice none 0 0)).fp k := q
  rcases p2 with ⟨p3, _⟩ | ⟨m, p3, p4⟩
  ·rw [hnil i p3] at q; exact q.elim
  ·rw [hsrc i m p3] at q
   have hom : isO (getOb L [] m) = true := by rw [p4, ← p1]; exact ho
   show (match src i2 with | some m => ρ m | none => Rz.of none (.slice none 0 0)).blk ≠ some k ∧ (isO (os.getD i2 .none) = true → ¬ (match src i2 with | some m => ρ m | none => Rz.of none (.slice none 0 0)).fp k)
   rcases r2 with ⟨r3, _⟩ | ⟨m', r3, r4⟩
   ·rw [hnil i2 r3]
    exact ⟨(fun q => by cases q), fun _ q => False.elim q⟩
   ·rw [hsrc i2 m' r3, r1, ← r4]
    refine h.fd m m' k hom (by rw [r4]; exact rowOb_live) (fun q' => e ?_) q
    subst q'
    rw [hinj i i2 m' hi hi2 p3 r3]
theorem finishOwn_sound {fn : Func} {r : Res} (h : Rel cx ρ S st a w) (hB : ∀ i, cx.B i = none) (hf : finishOwn P fn st = some r) :
 ∃ v ρ' S', (results fn a.tmps).run P w = .ok v w ∧ Core cx ρ' S' [] r.2 w ∧ VD ρ' S' w (retV r.1) v := by
 rw [finishOwn_eq] at hf
 split at hf
 case h_2 => cases hf
 rename_i ds hO hds
 split at hf
 case h_2 => cases hf
 rename_i l hl
 split at hf
 case h_2 => cases hf
 rename_i ds' os hg
 injection hf with hf; subst hf
 obtain ⟨vs, q1, q2, q3⟩ := resD_sound h _ ds hds
 obtain ⟨src, g1, g2, g3, g4⟩ := giveOwn_get _ _ _ _ _ _ hg
 have hc : Core cx ρ S st.L [] w := by have := h.core; rwa [hO] at this
 have hgive := hc.give hB (os := os) (src := src) (P := P) (fun i hi => by
  obtain ⟨e, s, es, p1, p2⟩ := g3 i hi
  refine ⟨e, s, es, p1, ?_⟩
  rcases p2 with p2 | ⟨m, r1, _, _, r2⟩
  ·exact .inl p2
  ·exact .inr ⟨m, r1, r2⟩) g4
 obtain ⟨k1, k2⟩ := regroup_vd (ρ := ρ) (ρ' := fun m => match m with | .out i => (match src i with | some m => ρ m | none => .of none (.slice none 0 0)) | .loc s => ρ (.loc s)) (S := S) (w := w) _ ds l ds' hl g1 (fun j hj v hv => by
  rcases g2 j hj with ⟨x, e1, e2⟩ | ⟨i, hi, e1, e2⟩
  ·rw [e2]; rw [e1] at hv; exact .p hv.pd
  ·rw [e1, Nat.zero_add]
   rcases e2 with ⟨s', e2, e3⟩ | ⟨m, e2, e3⟩
   ·rw [e2] at hv
    cases hv
    have : VD (fun m => match m with | .out i => (match src i with | some m => ρ m | none => Rz.of none (.slice none 0 0)) | .loc s => ρ (.loc s)) S w (.arr (.out i)) (match src i with | some m => ρ m | none => Rz.of none (.slice none 0 0)).tip := .arr (by show (match src i with | some m => ρ m | none => Rz.of none (.slice none 0 0)).tip.oneCell' = true; rw [e3]; rfl)
    rw [e3] at this
    exact this
   ·rw [e2] at hv
    cases hv with
    | arr hv =>
     have : VD (fun m => match m with | .out i => (match src i with | some m => ρ m | none => Rz.of none (.slice none 0 0)) | .loc s => ρ (.loc s)) S w (.arr (.out i)) (match src i with | some m => ρ m | none => Rz.of none (.slice none 0 0)).tip := .arr (by show (match src i with | some m => ρ m | none => Rz.of none (.slice none 0 0)).tip.oneCell' = true; rw [e3]; exact hv)
     rw [e3] at this
     exact this)
 refine ⟨if hh : vs.toArray.size = 1 then vs.toArray[0] else .tuple vs.toArray, _, S, ?_, hgive, ?_⟩
 ·have e : (fn.results.mapM (resV a.tmps)).run P w = .ok vs.toArray w := by
   rw [Array.mapM_eq_mapM_toList]
   simp [q1]
  show ((fn.results.mapM (resV a.tmps)) >>= fun vs => pure (if h : vs.size = 1 then vs[0] else .tuple vs)).run P w = _
  rw [Sem.run_bind, e]
  rfl
 ·generalize hrg : regroup P fn.resultTypes.toList ds' = rg at k1 k2 ⊢
  match rg, ds, vs, k1, q2, q3, k2 with
  | [d'], [d], [v], _, _, q3, k2 => exact k2 0 (by simp) v (by simpa using q3 0 (by simp))
  | [], [], [], _, _, _, _ => exact .tup (by simp) fun j hj => by cases hj
  | x :: y :: xs, d :: e :: ds, v :: u :: vs, k1, q2, q3, k2 =>
   rw [dif_neg (by simp)]
   refine .tup ?_ fun j hj => ?_
   ·simp at k1 q2 ⊢; omega
   ·have hj' : j < (d :: e :: ds).length := by rw [← k1]; exact hj
    have e2 : (v :: u :: vs).toArray.getD j undef = (v :: u :: vs).getD j undef := by
     simp [List.getD_eq_getElem?_getD]
    rw [e2]
    exact k2 j hj' _ (q3 j hj')
theorem Core.give1 {L : List Ob} (h : Core cx ρ S L [] w) (hB : ∀ i, cx.B i = none) {s : Nat} {ob : Ob} (hn : newOb ob = true) (hg : L.getD s .none = ob) :
 Core cx (fun m => match m with | .out _ => ρ (.loc s) | .loc i => ρ (.loc i)) S [] [ob] w := by
 have hg' : getOb L [] (.loc s) = ob := hg
 have hl0 : getOb L [] (.loc s) ≠ .none := by rw [hg']; intro q; rw [q] at hn; cases hn
 have hlive : ∀ m, getOb [] [ob] m ≠ .none → m = .out 0 ∧ getOb [] [ob] m = ob := by
  intro m q
  cases m with
  | loc i => simp [getOb] at q
  | out i =>
   match i, q with
   | 0, _ => exact ⟨rfl, rfl⟩
   | i + 1, q => simp [getOb] at q
 refine ⟨fun m => ?_, fun m1 m2 b h1 h2 _ _ => (hlive m1 h1).1.trans (hlive m2 h2).1.symm, fun m b o hl q hS => ?_, fun m b hl q => ?_, h.sb, h.s0, h.sn, h.fr, h.sk, h.ws, h.os, h.tape, h.output, fun i z q => (by rw [hB i] at q; cases q), fun m k ho q => ?_, fun m1 m2 k ho hl e q => ?_⟩
 ·by_cases hl : getOb [] [ob] m = .none
  ·rw [hl]; trivial
  ·obtain ⟨e1, e2⟩ := hlive m hl
   subst e1
   rw [e2]
   have := h.ob (.loc s)
   rw [hg'] at this
   exact newOb_scrub hn this
 ·obtain ⟨e1, e2⟩ := hlive m hl
  subst e1
  obtain ⟨e', s', bb, es, q1, _⟩ := h.ss (.loc s) b o hl0 q hS
  rw [hg'] at q1
  rw [q1] at hn; cases hn
 ·obtain ⟨e1, e2⟩ := hlive m hl
  subst e1
  exact h.own (.loc s) b hl0 q
 ·have hl : getOb [] [ob] m ≠ .none := by intro q'; rw [q'] at ho; cases ho
  obtain ⟨e1, e2⟩ := hlive m hl
  subst e1
  exact h.fp (.loc s) k (by rw [hg', ← e2]; exact ho) q
 ·have hl' : getOb [] [ob] m1 ≠ .none := by intro q'; rw [q'] at ho; cases ho
  exact absurd ((hlive m2 hl).1.trans (hlive m1 hl').1.symm) e
theorem finishMk_sound {fn : Func} {r : Res} (h : Rel cx ρ S st a w) (hB : ∀ i, cx.B i = none) (hf : finishMk P fn st = some r) :
 ∃ v ρ' S', (results fn a.tmps).run P w = .ok v w ∧ Core cx ρ' S' [] r.2 w ∧ VD ρ' S' w (retV r.1) v := by
 unfold finishMk at hf
 split at hf
 case h_2 => cases hf
 rename_i d hO hds
 obtain ⟨vs, q1, q2, q3⟩ := resD_sound h _ [d] hds
 have hc : Core cx ρ S st.L [] w := by have := h.core; rwa [hO] at this
 obtain ⟨v, rfl⟩ : ∃ v, vs = [v] := by
  match vs, q2 with
  | [v], _ => exact ⟨v, rfl⟩
 have q3 := q3 0 (by simp)
 have hrun : (results fn a.tmps).run P w = .ok v w := by
  have e : (fn.results.mapM (resV a.tmps)).run P w = .ok [v].toArray w := by
   rw [Array.mapM_eq_mapM_toList]
   simp [q1]
  show ((fn.results.mapM (resV a.tmps)) >>= fun vs => pure (if h : vs.size = 1 then vs[0] else .tuple vs)).run P w = _
  rw [Sem.run_bind, e]
  rfl
 have q4 : VD ρ S w d v := q3
 clear q3
 unfold mkGive at hf
 split at hf
 ·split at hf
  ·rename_i s es hs
   injection hf with hf; subst hf
   refine ⟨v, _, S, hrun, hc.give1 hB rfl hs, ?_⟩
   cases q4 with
   | mp q4 =>
    show VD _ S w (.mp (.out 0)) _
    exact .mp q4
  ·cases hf
 ·split at hf
  ·rename_i s n cs hs
   injection hf with hf; subst hf
   refine ⟨v, _, S, hrun, hc.give1 hB rfl hs, ?_⟩
   cases q4 with
   | ptr q4 =>
    show VD _ S w (.ptr (.out 0) 0) _
    exact .ptr q4
  ·cases hf
 ·split at hf
  ·rename_i s _ e z es hs
   injection hf with hf; subst hf
   refine ⟨v, _, S, hrun, hc.give1 hB rfl hs, ?_⟩
   cases q4 with
   | arr q4 =>
    have : VD (fun m => match m with | .out _ => ρ (.loc s) | .loc i => ρ (.loc i)) S w (.arr (.out 0)) (ρ (.loc s)).tip := .arr q4
    exact this
  ·cases hf
 ·cases hf
theorem thruPs_get : ∀ {c : List Pd}, thruPs c = true → ∀ j, thruP (c.getD j .undef) = true
 | [], _, j => by simp [thruP, scalPd]
 | x :: xs, h, 0 => by simp only [thruPs, Bool.and_eq_true] at h; exact h.1
 | x :: xs, h, j + 1 => by simp only [thruPs, Bool.and_eq_true] at h; simpa using thruPs_get h.2 j
theorem thruPss_get : ∀ {es : List (List Pd)}, thruPss es = true → ∀ i j, thruP ((es.getD i []).getD j .undef) = true
 | [], _, i, j => by simp [thruP, scalPd]
 | c :: cs, h, 0, j => by simp only [thruPss, Bool.and_eq_true] at h; exact thruPs_get h.1 j
 | c :: cs, h, i + 1, j => by simp only [thruPss, Bool.and_eq_true] at h; simpa using thruPss_get h.2 i j
theorem VO.toOwn {ok : Nat → Prop} {x : Pd} {v : Value} (h : VO S w ok x v) : thruP x = true → VO N0 w ok x v := by
 induction h with
 | @p ok x v h =>
  intro hx
  have hs : scalPd x = true := by cases h <;> exact hx
  exact .p (h.to0 hs)
 | ow xs f h0 h1 h2 h3 _ ih =>
  intro hx
  simp only [thruP] at hx
  exact .ow xs f h0 h1 h2 h3 fun i j hi hj => ih i j hi hj (thruPss_get hx i j)
theorem down1_sound (h : Rel cx ρ S st a w) (m : Nm) {k : St → Option Res} {r : Res} (hk : down1 m st k = some r) : ∃ ρ' st', Rel cx ρ' S st' a w ∧ k st' = some r := by
 unfold down1 at hk
 split at hk
 ·rename_i s e z es hm
  by_cases ho : thruPss es = true
  ·rw [if_pos ho] at hk
   have hl : getOb st.L st.O (.loc s) ≠ .none := by rw [hm]; exact fun q => by cases q
   have hO : isO (getOb st.L st.O (.loc s)) = true := by rw [hm]; rfl
   have hob := h.core.ob (.loc s)
   rw [hm] at hob
   obtain ⟨o1, o2, o3, _⟩ := hob
   have o3' := o3.toOwn (by simp only [thruP]; exact ho)
   let z' : Rz := ⟨(ρ (.loc s)).blk, (ρ (.loc s)).tip, (ρ (.loc s)).fp, fun k => ((ρ (.loc s)).blk.bind fun b => w.cell? ⟨b, k, none⟩).getD undef⟩
   have hcl : ∀ i j b, i < es.length → j < z → isOwP ((es.getD i []).getD j .undef) = true → (ρ (.loc s)).blk = some b → w.cell? ⟨b, i * z + j, none⟩ = some (z'.cl (i * z + j)) := by
    intro i j b hi hj _ hb
    cases o3 with
    | p q => cases q
    | ow xs f h0 h1 h2 h3 h4 =>
     obtain ⟨_, _, _, _, _, hg⟩ := own_cells h1
     obtain ⟨_, _, hc⟩ := hg b (o1.symm.trans hb)
     have hc := hc _ (idx_lt hi hj)
     show _ = some (((ρ (.loc s)).blk.bind fun b => w.cell? ⟨b, i * z + j, none⟩).getD undef)
     rw [hb, Option.bind_some, hc]
     rfl
   refine ⟨fun n => if n = .loc s then z' else ρ n, _, ⟨?_, ?_, h.df, fun t' => ?_⟩, hk⟩
   ·have := h.core.putO (m := .loc s) (w' := w) (e := e) (s := z) (es := es) rfl (ns := []) (fun n q => by cases q) (by simp) z' (scrubObS (.loc s)) (fun w o z q => q.scrubS_ (fun n hn => if_neg hn) (by simp [z']) (by simp [z'])) rfl (fun o q => by cases o <;> first | rfl | cases q) (fun o => by cases o <;> rfl) (fun o => by cases o <;> rfl) (fun o e s b es q => by subst q; rfl) (Nat.le_refl _) rfl rfl rfl (fun _ _ _ => rfl) (fun _ _ _ => rfl)
     ⟨o1, o2, o3', hcl⟩ (fun k q => .inr ⟨.loc s, .inl rfl, .inl ⟨hO, q⟩⟩)
    exact this
   ·exact h.nt
   ·show VD _ _ _ ((st.T.map (scrubS (.loc s))).getD t' ud) _
    rw [Tm.getD_map rfl]
    exact (h.tm t').scrubS_ (fun n hn => if_neg hn) (by simp [z']) (by simp [z'])
  ·rw [if_neg ho] at hk; exact ⟨ρ, _, h, hk⟩
 ·exact ⟨ρ, _, h, hk⟩
theorem downs_sound {k : St → Option Res} {r : Res} : ∀ (ms : List Nm) {ρ : Nm → Rz} {st : St}, Rel cx ρ S st a w → downs k ms st = some r → ∃ ρ' st', Rel cx ρ' S st' a w ∧ k st' = some r
 | [], ρ, st, h, hk => ⟨ρ, st, h, hk⟩
 | m :: ms, ρ, st, h, hk => by
  obtain ⟨ρ1, st1, h1, hk1⟩ := down1_sound h m hk
  exact downs_sound ms h1 hk1
theorem finishOwnM_sound {fn : Func} {r : Res} (h : Rel cx ρ S st a w) (hB : ∀ i, cx.B i = none) (hf : finishOwnM P fn st = some r) :
 ∃ v ρ' S', (results fn a.tmps).run P w = .ok v w ∧ Core cx ρ' S' [] r.2 w ∧ VD ρ' S' w (retV r.1) v := by
 unfold finishOwnM at hf
 split at hf
 ·split at hf
  ·obtain ⟨ρ1, _, h1⟩ := settles_sound _ h
   obtain ⟨ρ2, st2, h2, hf⟩ := downs_sound _ h1 hf
   exact finishOwn_sound h2 hB hf
  ·cases hf
 ·exact finishOwn_sound h hB hf
theorem finish_sound {fn : Func} {r : Res} (h : Rel cx ρ S st a w) (hB : (Cfg.cur || Cfg.makc) = true → ∀ i, cx.B i = none) (hf : finish P fn st = some r) :
 ∃ v ρ' S', (results fn a.tmps).run P w = .ok v w ∧ Core cx ρ' S' [] r.2 w ∧ VD ρ' S' w (retV r.1) v := by
 unfold finish at hf
 split at hf
 ·rename_i hmk
  exact finishMk_sound h (hB (by rw [hmk, Bool.or_true])) hf
 split at hf
 ·rename_i hcur
  exact finishOwnM_sound h (hB (by rw [hcur, Bool.true_or])) hf
 split at hf
 ·unfold finishMix at hf
  split at hf
  ·rename_i ds _
   obtain ⟨ρ', q1, h'⟩ := settles_sound (refsDs ds ++ outsN st.O.length) h
   obtain ⟨v, S', q⟩ := finishPlain_sound h' hf
   exact ⟨v, ρ', S', q⟩
  ·cases hf
 ·obtain ⟨v, S', q⟩ := finishPlain_sound h hf
  exact ⟨v, ρ, S', q⟩
theorem find_enum : ∀ (l : List Dv) (i j : Nat), findT (enumT i l) (i + j) = l.getD j ud
 | [], _, j => by simp [enumT, findT]
 | d :: l, i, 0 => by simp [enumT, findT]
 | d :: l, i, j + 1 => by
  simp only [enumT, findT, beq_eq]
  rw [decide_eq_false (by omega)]
  have := find_enum l (i + 1) j
  have e : i + 1 + j = i + (j + 1) := by omega
  rw [e] at this
  simpa using this
theorem Core.growS {cx : Cx} {ρ : Nm → Rz} {S S' : Nat → Nat → Prop} {L O : List Ob} {w w' : World} (h : Core cx ρ S L O w) (hb : ∀ b, b < w.heap.size → w'.heap[b]? = w.heap[b]?) (hz : w.heap.size ≤ w'.heap.size)
 (h1 : w'.os = w.os) (h2 : w'.tape = w.tape) (h3 : w'.output = w.output) (s1 : ∀ b o, S b o → S' b o) (s2 : ∀ b o, S' b o → S b o ∨ (w.heap.size ≤ b ∧ b < w'.heap.size)) : Core cx ρ S' L O w' where
 ob m := by
  by_cases hl : getOb L O m = .none
  ·rw [hl]; trivial
  ·exact (h.ob m).keep (fun _ => rfl) (fun b o q => s1 b o q) (fun b o q => cell_heap (hb b (h.sb b o q))) (fun b q => hb b (h.own m b hl q).1) (fun ho k q => hb k (h.fp m k ho q).1)
 ne := h.ne
 ss m b o hl q r := by
  rcases s2 b o r with r | r
  ·exact h.ss m b o hl q r
  ·have := (h.own m b hl q).1; omega
 own m b hl q := ⟨Nat.lt_of_lt_of_le (h.own m b hl q).1 hz, (h.own m b hl q).2⟩
 sb b o q := by
  rcases s2 b o q with r | r
  ·exact Nat.lt_of_lt_of_le (h.sb b o r) hz
  ·exact r.2
 s0 b o q := s1 b o (h.s0 b o q)
 sn b o q := by
  rcases s2 b o q with r | r
  ·exact h.sn b o r
  ·exact .inr (.inl (Nat.le_trans h.ws r.1))
 fr b hb0 hF := (hb b (Nat.lt_of_lt_of_le hb0 h.ws)).trans (h.fr b hb0 hF)
 sk b o q := (cell_heap (hb b (h.sb b o (h.s0 b o q)))).trans (h.sk b o q)
 ws := Nat.le_trans h.ws hz
 os := h1.trans h.os
 tape := h2.trans h.tape
 output := h3.trans h.output
 bx := h.bx
 fp m k ho q := ⟨Nat.lt_of_lt_of_le (h.fp m k ho q).1 hz, (h.fp m k ho q).2.1, fun o r => by
  rcases s2 k o r with r | r
  ·exact (h.fp m k ho q).2.2 o r
  ·have := (h.fp m k ho q).1; omega⟩
 fd := h.fd
def LibOK (E : Env) (κ : Kp) : Prop := ∀ f g, E.lib f = some g → ∀ (xs ys : List Pd), g xs = some ys → ∀ (w : World) (ρ : Nm → Rz) (S : Nat → Nat → Prop) (vs : Array Value), KOK κ w S → (∀ b o, S b o → b < w.heap.size) → vs.size = xs.length →
 (∀ j, j < xs.length → VP S w (xs.getD j .undef) (vs.getD j undef)) → Calls E.P f vs w fun e w' => ∃ v S', e = .returned v ∧ VD ρ S' w' (retV (ys.map .p)) v ∧ Below w.heap.size w w' ∧ (∀ b o, S b o → S' b o) ∧ ∀ b o, S' b o → S b o ∨ (w.heap.size ≤ b ∧ b < w'.heap.size)
theorem LibOK.none {E : Env} {κ : Kp} (h : ∀ f, E.lib f = .none) : LibOK E κ := fun f g q => by rw [h f] at q; cases q
theorem pures_get : ∀ {ds : List Dv} {xs : List Pd}, pures ds = some xs → ds = xs.map .p
 | [], xs, h => by simp only [pures] at h; injection h with h; subst h; rfl
 | .p x :: ds, xs, h => by
  simp only [pures] at h
  split at h
  ·rename_i ys hy
   injection h with h; subst h
   rw [pures_get hy]; rfl
  ·cases h
 | .nilsl _ :: _, _, h => by cases h
 | .ptr .. :: _, _, h => by cases h
 | .arr _ :: _, _, h => by cases h
 | .el .. :: _, _, h => by cases h
 | .ro .. :: _, _, h => by cases h
 | .agg .. :: _, _, h => by cases h
 | .fn .. :: _, _, h => by cases h
 | .tup _ :: _, _, h => by cases h
 | .mp _ :: _, _, h => by cases h
 | .sub .. :: _, _, h => by cases h
def QuietOK (P : Program) : Prop := ∀ f (cap : Array Value), Cfg.qf f = some cap.size → (∀ w, (invoke (.fn (.func f) cap) #[]).run P w = .ok (.enter f cap) w) ∧ ∀ w, CallsD P f cap .returning w fun e u' w' => (∃ v, e = .returned v) ∧ u' = .returning ∧ Below w.heap.size w w'
theorem Rel.grow (h : Rel cx ρ S st a w) {w' : World} (hb : Below w.heap.size w w') : Rel cx ρ S st a w' :=
 ⟨h.core.grow (fun b q => hb.block b q) hb.size hb.os hb.tape hb.output, h.nt, h.df, fun t => (h.tm t).keep (fun _ => rfl) (fun _ _ q => q) fun b o q => cell_heap (hb.block b (h.core.sb b o q))⟩
theorem leaves_quiet (hq : QuietOK P) {fn : Func} {R : Ending → World → Prop} (fin : ∀ (ρ : Nm → Rz) (S : Nat → Nat → Prop) (w : World), Rel cx ρ S st a w → ∃ v, (results fn a.tmps).run P w = .ok v w ∧ R (.returned v) w) : ∀ (ds : List Deferred), (∀ d ∈ ds, ∃ f cap, d = ⟨.fn (.func f) cap, #[]⟩ ∧ Cfg.qf f = some cap.size) → ∀ {ρ : Nm → Rz} {S : Nat → Nat → Prop} {w : World}, Rel cx ρ S st a w → Leaves P fn a.tmps R ds .returning w
 | [], _, ρ, S, w, h => fin ρ S w h
 | d :: ds, hd, ρ, S, w, h => by
  obtain ⟨f, cap, rfl, hf⟩ := hd d (List.mem_cons_self ..)
  obtain ⟨k1, k2⟩ := hq f cap hf
  refine leaves_cons (by intro q; cases q) (k1 w) ((k2 w).mono fun e u' w' hx => ?_)
  obtain ⟨⟨v', rfl⟩, rfl, hb⟩ := hx
  exact leaves_quiet hq fin ds (fun d q => hd d (List.mem_cons_of_mem _ q)) (h.grow hb)
theorem body_sound {E : Env} (hdr : ∀ C : Cfg, @DrOK C E.P) (hq : QuietOK E.P) {κ : Kp} (hlib : LibOK E κ) {call : CallF} (hcall : CallOK E.P κ call) : CallOK E.P κ (body E call) := by
 intro f as os r h w ρ S vs hk hc hsz hvs
 unfold body at h
 split at h
 ·rename_i g hg
  unfold libD at h
  split at h
  ·rename_i xs hx
   split at h
   ·rename_i y hy
    injection h with h; subst h
    have hx' := pures_get hx
    subst hx'
    rw [List.length_map] at hsz hvs
    refine (hlib f g hg xs y hy w ρ S vs hk hc.sb hsz fun j hj => ?_).mono ?_
    ·have := hvs j hj
     have e : (xs.map Dv.p).getD j ud = .p (xs.getD j .undef) := by
      rw [List.getD_eq_getElem?_getD, List.getElem?_map, List.getD_eq_getElem?_getD]
      cases xs[j]? <;> rfl
     rw [e] at this
     exact this.pd
    ·rintro e w' ⟨v, S', rfl, hv, hb, hs1, hs2⟩
     exact ⟨v, ρ, S', rfl, hc.growS (fun b q => hb.block b q) hb.size hb.os hb.tape hb.output hs1 hs2, hv⟩
   ·cases h
  ·cases h
 split at h
 ·cases h
 ·rename_i fn hfn
  split at h
  ·cases h
  ·rename_i c hb
   split at h
   ·cases h
   rename_i hoo
   refine calls_of_wp_defers hfn hb ?_
   have hrel : @Rel (Cfg.at_ inferInstance f) (cx0 w S ρ os) ρ S (start fn as os) { tmps := vs ++ Array.replicate (fn.ntmps - vs.size) undef, defers := [] } w := by
    refine @Rel.mk (Cfg.at_ inferInstance f) _ _ _ _ _ _ (hc.drop fun m => ?_) ?_ ?_ (fun t => ?_)
    ·cases m with
     | out i => left; rfl
     | loc s =>
      right
      refine ⟨?_, s, rfl⟩
      simp only [start, getOb, List.getD_eq_getElem?_getD, List.getElem?_replicate]
      split <;> rfl
    ·show (vs ++ Array.replicate (fn.ntmps - vs.size) undef).size = as.length + (fn.ntmps - as.length)
     simp [hsz]
    ·exact fun d hd => absurd hd List.not_mem_nil
    ·simp only [start]
     by_cases hlt : t < as.length
     ·have e1 : (Tm.of (as.length + (fn.ntmps - as.length)) (enumT 0 as)).getD t ud = as.getD t ud := by
       simp only [Tm.getD, Tm.of, blt_eq]
       rw [decide_eq_true (by omega), cond_true]
       have := find_enum as 0 t
       rw [Nat.zero_add] at this
       exact this
      have hlt' : t < vs.size := by rw [hsz]; exact hlt
      have e2 : (vs ++ Array.replicate (fn.ntmps - vs.size) undef).getD t undef = vs.getD t undef := by
       simp only [Array.getD_eq_getD_getElem?]
       rw [Array.getElem?_append_left hlt']
      rw [e1, e2]
      exact hvs t hlt
     ·have e1 : (Tm.of (as.length + (fn.ntmps - as.length)) (enumT 0 as)).getD t ud = ud := by
       simp only [Tm.getD, Tm.of]
       have := find_enum as 0 t
       rw [Nat.zero_add] at this
       rw [this, List.getD_eq_getElem?_getD, List.getElem?_eq_none (Nat.le_of_not_lt hlt)]
       cases Nat.blt t (as.length + (fn.ntmps - as.length)) <;> rfl
      rw [e1]; exact .un
   have hB : ((Cfg.at_ inferInstance f).cur || (Cfg.at_ inferInstance f).makc) = true → ∀ i, (cx0 w S ρ os).B i = none := by
    intro hcur i
    have hcur : (Cfg.own f || Cfg.mak f) = true := hcur
    have : os = [] := by
     cases os with
     | nil => rfl
     | cons _ _ => rw [hcur] at hoo; exact absurd rfl hoo
    subst this
    rfl
   refine @evalC_sound (Cfg.at_ inferInstance f) E.P (cx0 w S ρ os) _ (hdr (Cfg.at_ inferInstance f)) call κ hcall (hk.toCx hc) _ c (E.ann f) (@finish (Cfg.at_ inferInstance f) E.P fn) (fun _ _ => none) (@finish (Cfg.at_ inferInstance f) E.P fn) _ ?_ (fun i st hx => by cases hx) ?_ _ h ρ S _ w hrel
   all_goals
    intro st hfin ρ' S' a' w' hr
    refine @leaves_quiet (Cfg.at_ inferInstance f) E.P (cx0 w S ρ os) st a' hq fn _ (fun ρ1 S1 w1 hr1 => ?_) _ (@Rel.df (Cfg.at_ inferInstance f) _ _ _ _ _ _ hr) ρ' S' w' hr
    obtain ⟨v, ρ2, S2, q1, q2, q3⟩ := @finish_sound (Cfg.at_ inferInstance f) _ _ _ _ _ _ _ _ _ hr1 hB hfin
    exact ⟨v, q1, v, ρ2, S2, rfl, q2, q3⟩
theorem ev_sound {E : Env} (hdr : ∀ C : Cfg, @DrOK C E.P) (hq : QuietOK E.P) {κ : Kp} (hlib : LibOK E κ) : CallOK E.P κ (ev E) := by
 have hn : ∀ n, CallOK E.P κ (evalN E n) := by
  intro n
  induction n with
  | zero => intro f as os r h; cases h
  | succ n ih => exact body_sound hdr hq hlib ih
 intro f as os r h
 obtain ⟨n, hx⟩ := (ev_iff E f as os r).1 h
 exact hn n f as os r hx
end Go.Proofs.YtmnoibkdmeajpaaGreat.Dm
