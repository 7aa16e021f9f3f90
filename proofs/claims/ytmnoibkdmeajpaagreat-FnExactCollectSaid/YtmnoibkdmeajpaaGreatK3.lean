/- Groups: what is collected, by the reference. -/
import Derived.Test.YtmnoibkdmeajpaaGreatK2
namespace Go.Proofs.YtmnoibkdmeajpaaGreat.Dm
set_option maxRecDepth 4000
set_option linter.unusedSectionVars false
set_option linter.unusedVariables false
set_option linter.unusedSimpArgs false
variable {xs : List GDef} {vs : List GArg}
def fl (l : List GSel) : Prop := okL okSel l ∧ ∃ d, fine d l = true
theorem fl_mem {l : List GSel} (h : fl l) {x : GSel} (hx : x ∈ l) : okSel x ∧ selB x = true ∧ fl x.subs := by
 obtain ⟨h1, d, h2⟩ := h
 have ho := h1.2 x hx
 cases d with
 | zero => rw [fine, List.isEmpty_iff] at h2; subst h2; cases hx
 | succ d =>
  rw [fine, List.all_eq_true] at h2
  have := h2 x hx
  rw [Bool.and_eq_true] at this
  exact ⟨ho, this.1, subs_ok ho, d, this.2⟩
theorem fl_nil : fl [] := ⟨⟨Nat.zero_le _, fun x h => by cases h⟩, 0, rfl⟩
theorem fl_frag (hd : ∀ d ∈ xs, fl d.sels) (t : ByteArray) : fl (fragD t xs).sels := by
 unfold fragD
 cases h : fragL t xs with
 | none => exact fl_nil
 | some d => exact hd d (fragL_mem h)
theorem fl_docB (hx : okL okDef xs) (h : docB xs = true) : (∀ d ∈ xs, fl d.sels) ∧ total xs ≤ 60 := by
 unfold docB at h
 simp only [Bool.and_eq_true, List.all_eq_true, decide_eq_true_eq] at h
 refine ⟨fun d hd => ⟨(hx.2 d hd).2.2, 7, ?_⟩, h.2.2⟩
 have := h.2.1 d hd
 unfold defB at this
 simp only [Bool.and_eq_true] at this
 exact this.2
theorem name_le {s : ByteArray} (h : nameB s = true) : s.size ≤ 40 := by
 unfold nameB withinB at h
 simp only [Bool.and_eq_true, decide_eq_true_eq] at h
 omega
theorem value_le {v : GVal} (h : valueB v = true) : v.t.size ≤ 40 := by
 unfold valueB at h
 have e0 : (⟨#[]⟩ : ByteArray).size = 0 := rfl
 split at h
 ·simp only [Bool.and_eq_true, decide_eq_true_eq] at h; rw [h.2]; omega
 ·split at h
  ·simp only [Bool.and_eq_true, decide_eq_true_eq] at h; rw [h.2]; omega
  ·split at h
   ·simp only [Bool.and_eq_true, decide_eq_true_eq] at h; rw [h.2]; omega
   ·split at h
    ·rw [Bool.and_eq_true] at h; exact name_le h.2
    ·cases h
theorem args_w : ∀ {l : List GArg}, l.all argB = true → wEs (l.map GArg.enc) ≤ 80 * l.length
 | [], _ => Nat.le_refl _
 | a :: l, h => by
  rw [List.all_cons, Bool.and_eq_true] at h
  have ih := args_w h.2
  have h1 := h.1
  unfold argB at h1
  rw [Bool.and_eq_true] at h1
  have n1 := name_le h1.1
  have n2 := value_le h1.2
  simp only [List.map_cons, wEs, GArg.enc, wC, wP, List.length_cons]
  omega
theorem dirs_w : ∀ {l : List GDir}, l.all dirB = true → wEs (l.map GDir.enc) ≤ 40 * l.length
 | [], _ => Nat.le_refl _
 | a :: l, h => by
  rw [List.all_cons, Bool.and_eq_true] at h
  have ih := dirs_w h.2
  have n2 := value_le (v := a.val) h.1
  simp only [List.map_cons, wEs, GDir.enc, wC, wP, List.length_cons]
  omega
theorem kind_or {k : Int} {al nm : ByteArray} {na ns : Nat} (h : kindB k al nm na ns = true) : (k = 1 ∨ k = 2 ∨ k = 3) ∧ al.size ≤ 40 ∧ nm.size ≤ 40 := by
 have e0 : sNone.size = 0 := rfl
 unfold kindB at h
 by_cases h1 : k = 1
 ·rw [if_pos h1] at h
  simp only [Bool.and_eq_true, Bool.or_eq_true, decide_eq_true_eq] at h
  refine ⟨Or.inl h1, ?_, name_le h.1⟩
  rcases h.2 with q | q
  ·rw [q]; omega
  ·exact name_le q
 ·rw [if_neg h1] at h
  by_cases h2 : k = 2
  ·rw [if_pos h2] at h
   simp only [Bool.and_eq_true, decide_eq_true_eq] at h
   refine ⟨Or.inr (Or.inl h2), ?_, name_le h.1.1.1.1⟩
   rw [h.1.1.2]; omega
  ·rw [if_neg h2] at h
   by_cases h3 : k = 3
   ·rw [if_pos h3] at h
    simp only [Bool.and_eq_true, Bool.or_eq_true, decide_eq_true_eq] at h
    refine ⟨Or.inr (Or.inr h3), by rw [h.1.1.2]; omega, ?_⟩
    rcases h.1.1.1 with q | q
    ·rw [q]; omega
    ·exact name_le q
   ·rw [if_neg h3] at h; cases h
theorem sel_kd {x : GSel} (h : selB x = true) : (x.kd = 1 ∨ x.kd = 2 ∨ x.kd = 3) ∧ (keyOf x).size ≤ 40 := by
 cases x with
 | mk k a n ar ds ss =>
  unfold selB at h
  simp only [Bool.and_eq_true] at h
  obtain ⟨h1, h2, h3⟩ := kind_or h.2.2.2
  refine ⟨h1, ?_⟩
  unfold keyOf
  split
  ·exact h3
  ·exact h2
def cw (l : List GSel) : Nat := (l.map GSel.enc).length + wEs (l.map GSel.enc)
theorem cw_cons (x : GSel) (l : List GSel) : cw (x :: l) = 1 + wC x.enc + cw l := by
 simp only [cw, List.map_cons, wEs, List.length_cons]
 omega
theorem cw_subs (x : GSel) : cw x.subs ≤ wC x.enc := by
 cases x with
 | mk k a n ar ds ss =>
  unfold GSel.enc cw GSel.subs
  rw [GSel.encs_eq]
  simp only [wC, wP]
  omega
theorem cw_le : ∀ (d : Nat) (l : List GSel), fine d l = true → cw l ≤ 600 * cnts l
 | 0, l, h => by
  rw [fine, List.isEmpty_iff] at h
  subst h
  exact Nat.le_refl _
 | d + 1, l, h => by
  rw [fine] at h
  induction l with
  | nil => exact Nat.le_refl _
  | cons x l ih =>
   rw [List.all_cons, Bool.and_eq_true, Bool.and_eq_true] at h
   have i1 := ih h.2
   have i2 := cw_le d x.subs h.1.2
   have hs := h.1.1
   rw [cw_cons, cnts, cntS_eq]
   cases x with
   | mk k a n ar ds ss =>
    unfold selB at hs
    simp only [Bool.and_eq_true, decide_eq_true_eq] at hs
    obtain ⟨_, a1, a2⟩ := kind_or hs.2.2.2
    have a3 := args_w hs.2.1
    have a4 := dirs_w hs.1
    have a5 := hs.2.2.1.1
    have a6 := hs.2.2.1.2
    have e : wC (GSel.mk k a n ar ds ss).enc = a.size + n.size + ar.length + wEs (ar.map GArg.enc) + ds.length + wEs (ds.map GDir.enc) + cw ss := by
     unfold GSel.enc cw
     rw [GSel.encs_eq]
     simp only [wC, wP, List.length_map]
     omega
    have e2 : (GSel.mk k a n ar ds ss).subs = ss := rfl
    rw [e2] at i2 ⊢
    rw [e]
    omega
def gw : List Grp → Nat
 | [] => 0
 | g :: gs => cw g.2 + gw gs
theorem cw_app (l : List GSel) (x : GSel) : cw (l ++ [x]) = cw l + (1 + wC x.enc) := by
 induction l with
 | nil => rw [List.nil_append, cw_cons]; simp [cw, wEs]
 | cons y l ih => rw [List.cons_append, cw_cons, cw_cons, ih]; omega
theorem gw_add (x : GSel) : ∀ gs : List Grp, gw (addG gs x) = gw gs + (1 + wC x.enc)
 | [] => by simp only [addG, gw, cw_cons]; simp [cw, wEs]
 | g :: gs => by
  rw [addG]
  split
  ·simp only [gw, cw_app]; omega
  ·simp only [gw, gw_add x gs]; omega
def budw : List GDef → List ByteArray → Nat
 | [], _ => 0
 | d :: ds, S => (if d.kind = 3 ∧ inL S d.name = false then cw d.sels else 0) + budw ds S
theorem budw_sub (t : ByteArray) (S : List ByteArray) : ∀ ds : List GDef, budw ds (S ++ [t]) ≤ budw ds S
 | [] => Nat.le_refl _
 | d :: ds => by
  have ih := budw_sub t S ds
  simp only [budw]
  by_cases c1 : d.kind = 3 ∧ inL (S ++ [t]) d.name = false
  ·have c2 : d.kind = 3 ∧ inL S d.name = false := ⟨c1.1, by have := c1.2; rw [inL_snoc, Bool.or_eq_false_iff] at this; exact this.1⟩
   rw [if_pos c1, if_pos c2]; omega
  ·rw [if_neg c1]; split <;> omega
theorem budw_frag {t : ByteArray} {S : List ByteArray} (hn : inL S t = false) : ∀ ds : List GDef, budw ds (S ++ [t]) + cw (fragD t ds).sels ≤ budw ds S
 | [] => by simp [budw, fragD, fragL, zeroDef, cw, wEs]
 | d :: ds => by
  by_cases h : d.kind = 3 ∧ d.name = t
  ·rw [fragD_pos h]
   have := budw_sub t S ds
   simp only [budw, inL_snoc]
   rw [if_pos (show d.kind = 3 ∧ inL S d.name = false from ⟨h.1, by rw [h.2]; exact hn⟩), if_neg (by rw [h.2]; simp)]
   omega
  ·rw [fragD_neg h]
   have ih := budw_frag hn ds
   simp only [budw, inL_snoc]
   by_cases h3 : d.kind = 3
   ·have ht : ¬ t = d.name := fun q => h ⟨h3, q.symm⟩
    simp only [ht, decide_false, Bool.or_false]
    omega
   ·simp only [h3, false_and, if_false]
    omega
def gok (gs : List Grp) : Prop := ∀ g ∈ gs, g.1.size ≤ 40 ∧ ∀ x ∈ g.2, okSel x
theorem gok_add {x : GSel} (ho : okSel x) (hb : selB x = true) : ∀ {gs : List Grp}, gok gs → gok (addG gs x)
 | [], h => fun g hg => by
  rcases List.mem_cons.1 hg with rfl | hg
  ·exact ⟨(sel_kd hb).2, fun y hy => by rcases List.mem_cons.1 hy with rfl | hy; exact ho; cases hy⟩
  ·cases hg
 | g :: gs, h => by
  have h1 := h g (List.mem_cons_self ..)
  have h2 : gok gs := fun g' hg' => h g' (List.mem_cons_of_mem _ hg')
  rw [addG]
  split
  ·intro g' hg'
   rcases List.mem_cons.1 hg' with rfl | hg'
   ·refine ⟨h1.1, fun y hy => ?_⟩
    rcases List.mem_append.1 hy with hy | hy
    ·exact h1.2 y hy
    ·rcases List.mem_cons.1 hy with rfl | hy; exact ho; cases hy
   ·exact h2 g' hg'
  ·intro g' hg'
   rcases List.mem_cons.1 hg' with rfl | hg'
   ·exact h1
   ·exact gok_add ho hb h2 g' hg'
theorem coll_ok (hd : ∀ d ∈ xs, fl d.sels) : ∀ (n : Nat) (l : List GSel) (s r : Col), fl l → coll xs vs n l s = some r → (keys s.1).Nodup → gok s.1 → (keys r.1).Nodup ∧ gok r.1 ∧ gw r.1 + budw xs r.2 ≤ gw s.1 + cw l + budw xs s.2
 | 0, l, s, r, _, h, _, _ => by cases h
 | n + 1, [], s, r, _, h, hk, hg => by
  rw [coll] at h
  injection h with h; subst h
  exact ⟨hk, hg, by simp [cw, wEs]⟩
 | n + 1, x :: l, s, r, hl, h, hk, hg => by
  have ih := coll_ok hd n
  obtain ⟨ho, hb, hs⟩ := fl_mem hl (List.mem_cons_self ..)
  have hl2 : fl l := by
   obtain ⟨a, d, b⟩ := hl
   refine ⟨⟨by have := a.1; simp at this; omega, fun y hy => a.2 y (List.mem_cons_of_mem _ hy)⟩, d, ?_⟩
   cases d with
   | zero => cases b
   | succ d => rw [fine, List.all_cons, Bool.and_eq_true] at b; rw [fine]; exact b.2
  have hsw := cw_subs x
  rw [coll] at h
  rw [cw_cons]
  by_cases h1 : inB vs x.dirs = true
  ·rw [if_pos h1] at h
   by_cases h2 : x.kd = 1
   ·rw [if_pos h2] at h
    obtain ⟨q1, q2, q3⟩ := ih _ _ _ hl2 h (nodup_add x hk) (gok_add ho hb hg)
    rw [gw_add] at q3
    exact ⟨q1, q2, by dsimp only at q3; omega⟩
   ·rw [if_neg h2] at h
    by_cases h3 : x.kd = 3
    ·rw [if_pos h3] at h
     obtain ⟨m, e1, e2⟩ := Option.bind_eq_some_iff.1 h
     obtain ⟨p1, p2, p3⟩ := ih _ _ _ hs e1 hk hg
     obtain ⟨q1, q2, q3⟩ := ih _ _ _ hl2 e2 p1 p2
     exact ⟨q1, q2, by omega⟩
    ·rw [if_neg h3] at h
     cases h4 : inL s.2 x.nm with
     | true =>
      rw [h4, if_pos rfl] at h
      obtain ⟨q1, q2, q3⟩ := ih _ _ _ hl2 h hk hg
      exact ⟨q1, q2, by omega⟩
     | false =>
      rw [h4, if_neg (by simp)] at h
      obtain ⟨m, e1, e2⟩ := Option.bind_eq_some_iff.1 h
      obtain ⟨p1, p2, p3⟩ := ih _ _ _ (fl_frag hd x.nm) e1 hk hg
      obtain ⟨q1, q2, q3⟩ := ih _ _ _ hl2 e2 p1 p2
      have b := budw_frag h4 xs
      exact ⟨q1, q2, by dsimp only at p3; omega⟩
  ·rw [if_neg h1] at h
   obtain ⟨q1, q2, q3⟩ := ih _ _ _ hl2 h hk hg
   exact ⟨q1, q2, by omega⟩
abbrev rG (r : Col) : Option Res := some ([.p (.sl 2 (r.1.map gE)), .p (.sl 1 (r.2.map encS))], [])
theorem bG {R : Type} (r : Col) (K : List (List Pd) → List (List Pd) → Option R) : ((rG r).bind fun r => (asSl 2 (pAt 0 r.1)).bind fun l => (asSl 1 (pAt 1 r.1)).bind fun m => if r.1.length = 2 then K l m else none) = K (r.1.map gE) (r.2.map encS) := by simp [pAt, asSl]
theorem def_sels0 (d : GDef) : asSl 6 ((GDef.enc d).getD 3 .undef) = some (d.sels.map GSel.enc) := rfl
theorem spec_coll (hx : okL okDef xs) (hd : ∀ d ∈ xs, fl d.sels) (hv : vs.length ≤ 9223372036854775807) : ∀ (n : Nat) (L : List GSel) (i : Nat) (s r : Col), fl L → i ≤ L.length → coll xs vs n (L.drop i) s = some r → tot r ≤ 100000 → (keys s.1).Nodup → gok s.1 → zec_1 (L.map GSel.enc) (vs.map GArg.enc) (s.1.map gE) (s.2.map encS) i (xs.map GDef.enc) = rG r
 | 0, L, i, s, r, _, _, h, _, _, _ => by cases h
 | n + 1, L, i, s, r, hL, hi, h, ht, hk, hgo => by
  have hlen : (L.map GSel.enc).length = L.length := by simp
  have hLl := hL.1.1
  have hLIM : LIM = 140737488355328 := rfl
  have ih := spec_coll hx hd hv n
  have hcost := (coll_cost _ _ _ _ h).1
  have hts : nF s.1 + s.2.length ≤ 100000 := Nat.le_trans hcost ht
  have hsl : s.2.length ≤ 100000 := by omega
  have hnf : nF s.1 ≤ 100000 := by omega
  by_cases hlt : i < L.length
  ·have hg : L[i]? = some L[i] := List.getElem?_eq_getElem hlt
   have hmem : L[i] ∈ L := List.getElem_mem _
   rw [List.drop_eq_getElem_cons hlt] at h
   generalize L[i] = x at hg hmem h
   obtain ⟨ho, hb, hs⟩ := fl_mem hL hmem
   obtain ⟨dirs, hdirs, hin⟩ := spec_l05In_ev hv x ho
   have hde : dirs = x.dirs := by rw [hdirs]; cases x; rfl
   rw [hde] at hin
   have rest : ∀ s' : Col, coll xs vs n (L.drop (i + 1)) s' = some r → (keys s'.1).Nodup → gok s'.1 → zec_2 (L.map GSel.enc) (vs.map GArg.enc) (s'.1.map gE) (s'.2.map encS) i (xs.map GDef.enc) = rG r := by
    intro s' e k g
    rw [zec_2_eq, inc_i hlt hLl]
    exact ih L (i + 1) s' r hL (by omega) e ht k g
   have call : ∀ (L' : List GSel) (s' m : Col), fl L' → coll xs vs n L' s' = some m → tot m ≤ 100000 → (keys s'.1).Nodup → gok s'.1 → ev E0 F_zec [.p (.agg 1 [.sl 4 (xs.map GDef.enc)]), .p (.sl 6 (L'.map GSel.enc)), .p (.sl 4 (vs.map GArg.enc)), .p (.sl 2 (s'.1.map gE)), .p (.sl 1 (s'.2.map encS))] [] = rG m := by
    intro L' s' m f e t k g
    rw [zec_0_ev, zec_0_eq]
    exact ih L' 0 s' m f (Nat.zero_le _) e t k g
   have sub : ∀ (L' : List GSel) (s' m : Col), fl L' → coll xs vs n L' s' = some m → coll xs vs n (L.drop (i + 1)) m = some r → (keys s'.1).Nodup → gok s'.1 → (keys m.1).Nodup ∧ gok m.1 ∧ tot m ≤ 100000 := by
    intro L' s' m f e e2 k g
    obtain ⟨a, b, _⟩ := coll_ok hd n L' s' m f e k g
    exact ⟨a, b, by have := (coll_cost _ _ _ _ e2).1; omega⟩
   rw [coll] at h
   rw [zec_1_eq, hlen, decide_eq_true (by omega), cond_true, if_pos (by omega), getD_enc hg, hin, bB]
   by_cases h1 : inB vs x.dirs = true
   ·rw [if_pos h1] at h
    rw [h1, Bool.not_true, cond_false, enc_get0, Option.bind_some, beq_int]
    by_cases h2 : x.kd = 1
    ·rw [if_pos h2] at h
     rw [decide_eq_true h2, cond_true, l05Add_ev hnf x, bL, restG_add hk]
     exact rest (addG s.1 x, s.2) h (nodup_add x hk) (gok_add ho hb hgo)
    ·rw [if_neg h2] at h
     rw [decide_eq_false h2, cond_false, beq_int]
     by_cases h3 : x.kd = 3
     ·rw [if_pos h3] at h
      obtain ⟨m, e1, e2⟩ := Option.bind_eq_some_iff.1 h
      obtain ⟨a, b, c⟩ := sub _ _ _ hs e1 e2 hk hgo
      rw [decide_eq_true h3, cond_true, enc_get5, Option.bind_some, call _ s m hs e1 c hk hgo, bG]
      exact rest m e2 a b
     ·rw [if_neg h3] at h
      rw [decide_eq_false h3, cond_false, enc_get2, Option.bind_some, l04In_ev (by omega) x.nm, bB]
      cases h4 : inL s.2 x.nm with
      | true =>
       rw [h4, if_pos rfl] at h
       rw [cond_true]
       exact rest s h hk hgo
      | false =>
       rw [h4, if_neg (by simp)] at h
       obtain ⟨m, e1, e2⟩ := Option.bind_eq_some_iff.1 h
       obtain ⟨a, b, c⟩ := sub _ _ _ (fl_frag hd x.nm) e1 e2 hk hgo
       have es : (([] : List (List Pd)) ++ s.2.map encS) ++ [[.str x.nm]] = (s.2 ++ [x.nm]).map encS := by rw [List.nil_append, List.map_append]; rfl
       rw [cond_false, Option.bind_some, l02Fragment_ev hx.1, bDB, def_sels0, Option.bind_some, if_pos (by rw [hLIM]; simp; omega), Option.bind_some, if_pos (by rw [hLIM]; simp; omega), es, call _ (s.1, s.2 ++ [x.nm]) m (fl_frag hd x.nm) e1 c hk hgo, bG]
       exact rest m e2 a b
   ·rw [if_neg h1] at h
    rw [Bool.not_eq_true] at h1
    rw [h1, Bool.not_false, cond_true]
    exact rest s h hk hgo
  ·have : i = L.length := by omega
   subst this
   rw [List.drop_length, coll] at h
   injection h with h
   subst h
   rw [zec_1_eq, hlen, decide_eq_false (by omega), cond_false]
theorem gw_mem : ∀ {gs : List Grp} {g : Grp}, g ∈ gs → cw g.2 ≤ gw gs
 | g' :: gs, g, h => by
  rcases List.mem_cons.1 h with rfl | h
  ·simp [gw]
  ·have := gw_mem h; simp [gw]; omega
theorem gE_w : ∀ {gs : List Grp}, gok gs → wEs (gs.map gE) ≤ 40 * gs.length + gw gs
 | [], _ => Nat.le_refl _
 | g :: gs, h => by
  have ih := gE_w (gs := gs) fun g' hg' => h g' (List.mem_cons_of_mem _ hg')
  have h1 := (h g (List.mem_cons_self ..)).1
  simp only [List.map_cons, wEs, gE, wC, wP, List.length_cons, gw, cw]
  omega
theorem wf_G {gs : List Grp} (h : gok gs) (hw : gw gs ≤ 1000000) : wfEs T0 ckGroup (gs.map gE) := by
 refine wf_map (ok := fun g => g ∈ gs) (fun g hg => ?_) (fun _ h => h)
 have h1 := h g hg
 have h2 := gw_mem hg
 unfold cw at h2
 simp only [List.length_map] at h2
 refine ⟨(by show g.1.size ≤ 9223372036854775807; omega), ⟨rfl, (by rw [List.length_map]; omega), ?_⟩, trivial⟩
 exact wf_SelS ⟨by omega, h1.2⟩
theorem l05Own_ev {gs : List Grp} (h : gok gs) (hw : gw gs ≤ 1000000) (hl : gs.length ≤ 100000) : ev E0 F_zee [.p (.sl 2 (gs.map gE))] [] = rL 2 (gs.map gE) := by
 have hL : LIM = 140737488355328 := rfl
 have hlen : (gs.map gE).length = gs.length := by simp
 have main : ∀ (m i : Nat), i + m = gs.length → zee_1 (gs.map gE) i ((gs.take i).map gE) = rL 2 (gs.map gE) := by
  intro m
  induction m with
  | zero =>
   intro i e
   rw [zee_1_eq, hlen, decide_eq_false (by omega), cond_false, List.take_of_length_le (by omega)]
  | succ m ih =>
   intro i e
   have hlt : i < gs.length := by omega
   have hg : gs[i]? = some gs[i] := List.getElem?_eq_getElem hlt
   have hmem : gs[i] ∈ gs := List.getElem_mem _
   have step := ih (i + 1) (by omega)
   rw [List.take_add_one, hg, List.map_append] at step
   generalize gs[i] = g at hg hmem step
   have h1 := h g hmem
   have h2 := gw_mem hmem
   unfold cw at h2
   have hl2 : g.2.length ≤ 1000000 := by simp only [List.length_map] at h2; omega
   have g0 : asStr ((gE g).getD 0 .undef) = some g.1 := rfl
   have g1 : asSl 6 (((gE g).drop 1).getD 0 .undef) = some (g.2.map GSel.enc) := asSl_ _ _
   have ht : ((gs.take i).map gE).length ≤ gs.length := by simp; omega
   rw [zee_1_eq, hlen, decide_eq_true (by omega), cond_true, if_pos (by omega), getD_enc hg, g0, Option.bind_some, if_pos (by omega), g1, Option.bind_some, l02OwnSels_ev _ (by omega) (by omega) (wf_SelS ⟨by omega, h1.2⟩), bL, if_pos (by rw [hL, List.length_singleton]; omega), inc_i (n := gs.length) hlt (by omega)]
   exact step
 have := main gs.length 0 (by omega)
 rw [List.take_zero] at this
 rw [zee_0_ev, zee_0_eq]
 exact this
end Go.Proofs.YtmnoibkdmeajpaaGreat.Dm
