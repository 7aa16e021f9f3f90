/- The machine over plain data: where an order is drawn, two that do not meet may change places. -/
import Derived.Test.YtmnoibkdmeajpaaGreatDm16B
namespace Go.Proofs.YtmnoibkdmeajpaaGreat.Dm
set_option linter.unusedSectionVars false
open Go.RowKit
set_option linter.unusedVariables false
set_option linter.unusedSimpArgs false
variable [Cfg] {P : Program} {st st' st1 : St} {o : Oper} {d : Dv}
def fpG (ops : Array Oper) (P : Program) (o : Oper) (st : St) : Option Fp := match o.guard with
 | none => fpK P o st
 | some (j, want) => match gslot ops j with
  | none => none
  | some g => match st.T.getD g ud with
   | .p (.bool b) => if b = want then fpK P o st else some ⟨[], [], [], true, true⟩
   | .tup [] => some ⟨[], [], [], true, true⟩
   | _ => none
def opT (o : Oper) : List Tmp := o.op.operands.toList.filterMap fun | .tmp t => some t | _ => none
def guT (ops : Array Oper) (o : Oper) : List Tmp := match o.guard with
 | some (g, _) => (gslot ops g).toList
 | none => []
structure AgG (ops : Array Oper) (o : Oper) (f : Fp) (st st' : St) : Prop where
 n : st'.T.n = st.T.n
 g : ∀ t ∈ guT ops o, st'.T.getD t ud = st.T.getD t ud
 t : f.sk = false → ∀ t ∈ opT o, st'.T.getD t ud = st.T.getD t ud
 b : ∀ m, m ∈ f.rd ∨ m ∈ f.wr → getOb st'.L st'.O m = getOb st.L st.O m
 l : ownO o = true → st'.L.length = st.L.length
 m : ∀ n, n ∉ f.wr → ∀ m ∈ f.sc, mentOb m (getOb st'.L st'.O n) = false
structure PreS (o : Oper) (st : St) : Prop where
 fr : ownO o = true → Fresh st
 sz : st.T.n ≤ st.L.length
structure Tells (ops : Array Oper) (o : Oper) (f : Fp) (st : St) : Prop where
 nu : f.nu = true → f.sk = false → ∀ t ∈ opT o, nudD (st.T.getD t ud) = true
 gu : ∀ t ∈ guT ops o, nudD (st.T.getD t ud) = true ∧ ∀ m, mentD m (st.T.getD t ud) = false
 rd : f.sk = false → ∀ t ∈ opT o, ∀ m, mentD m (st.T.getD t ud) = true → m ∈ f.rd
 old : ∀ B, st.T.n ≤ B → (f.sk = false → ∀ t ∈ opT o, ∀ i, B ≤ i → mentD (.loc i) (st.T.getD t ud) = false) → (∀ n i, B ≤ i → mentOb (.loc i) (getOb st.L st.O n) = false) → (∀ i, B ≤ i → ∀ m, mentOb m (getOb st.L st.O (.loc i)) = false) →
  ∀ i, (.loc i ∈ f.rd ∨ .loc i ∈ f.wr) → i < B
def LocG (call : CallF) (P : Program) (ops : Array Oper) (o : Oper) (f : Fp) (st st1 : St) : Prop := ∃ u, Is u o st st1 ∧ Wf u f o st ∧ Tells ops o f st ∧
 ∀ st', AgG ops o f st st' → PreS o st' → ∃ st1', opS call P ops o st' = some st1' ∧ fpG ops P o st' = some f ∧ Is u o st' st1' ∧ Wf u f o st'
theorem disjN_iff {a b : List Nm} (h : disjN a b = true) {m : Nm} (hm : m ∈ a) : m ∉ b := by
 have := List.all_eq_true.1 h m hm
 simpa using this
theorem st_ext {a b : St} (h1 : a.T.n = b.T.n) (h2 : ∀ t, a.T.getD t ud = b.T.getD t ud) (h3 : a.L.length = b.L.length) (h4 : a.O.length = b.O.length) (h5 : ∀ m, getOb a.L a.O m = getOb b.L b.O m) : a = b := by
 obtain ⟨T, L, O⟩ := a
 obtain ⟨T', L', O'⟩ := b
 have e1 : T = T' := Tm.ext_ h1 h2
 have lx : ∀ {l l' : List Ob}, l.length = l'.length → (∀ i, l.getD i .none = l'.getD i .none) → l = l' := by
  intro l l' hl h
  refine List.ext_getElem hl fun i hi hi' => ?_
  have := h i
  rw [List.getD_eq_getElem?_getD, List.getD_eq_getElem?_getD, List.getElem?_eq_getElem hi, List.getElem?_eq_getElem hi'] at this
  exact this
 have e2 : L = L' := lx h3 fun i => h5 (.loc i)
 have e3 : O = O' := lx h4 fun i => h5 (.out i)
 rw [e1, e2, e3]
theorem off0 (b : Nat) (m : Nm) : offN b 0 m := fun s _ => by omega
theorem Is.keep {u : Upd} {f : Fp} (h : Is u o st st1) (w : Wf u f o st) {m : Nm} (hm : m ∉ f.wr) (ho : offN st.L.length u.new.length m) : getOb st1.L st1.O m = getOb st.L st.O m := by
 rw [h.b m ho]
 cases hu : upGet u.up m with
 | some ob => exact absurd (w.u1 _ (upGet_mem hu)) hm
 | none =>
  show scrubObAll u.sc (getOb st.L st.O m) = _
  refine scrubObAll_id _ _ fun n hn => ?_
  cases hx : mentOb n (getOb st.L st.O m) with
  | false => rfl
  | true => exact absurd (w.s2 n hn m hx) hm
theorem Is.at {u : Upd} {st2 st3 : St} (h : Is u o st st1) (h' : Is u o st2 st3) {m : Nm} (e : getOb st2.L st2.O m = getOb st.L st.O m) (ho : offN st.L.length u.new.length m) (ho' : offN st2.L.length u.new.length m) : getOb st3.L st3.O m = getOb st1.L st1.O m := by
 rw [h.b m ho, h'.b m ho', e]
theorem off_or (b k : Nat) (m : Nm) : offN b k m ∨ ∃ i, i < k ∧ m = .loc (b + i) := by
 cases m with
 | out i => exact .inl fun s e => by cases e
 | loc i =>
  rcases Nat.lt_or_ge i b with h | h
  ·exact .inl fun s e => by injection e with e; subst e; exact .inl h
  ·rcases Nat.lt_or_ge i (b + k) with h' | h'
   ·exact .inr ⟨i - b, by omega, by congr 1; omega⟩
   ·exact .inl fun s e => by injection e with e; subst e; exact .inr h'
mutual
theorem scrub_keeps {m n : Nm} : ∀ d : Dv, mentD m d = false → mentD m (scrub n d) = false
 | .ptr m' off, h => by unfold scrub; split <;> first | rfl | exact h
 | .arr m', h => by unfold scrub; split <;> first | rfl | exact h
 | .el m' j s off, h => by unfold scrub; split <;> first | rfl | exact h
 | .mp m', h => by unfold scrub; split <;> first | rfl | exact h
 | .sub m' j s off e s', h => by unfold scrub; split <;> first | rfl | exact h
 | .agg k ds, h => by simp only [scrub, mentD] at h ⊢; exact scrubs_keeps ds h
 | .fn f ds, h => by simp only [scrub, mentD] at h ⊢; exact scrubs_keeps ds h
 | .tup ds, h => by simp only [scrub, mentD] at h ⊢; exact scrubs_keeps ds h
 | .p x, h => rfl
 | .nilsl s, h => rfl
 | .ro s cs, h => rfl
theorem scrubs_keeps {m n : Nm} : ∀ ds : List Dv, mentDs m ds = false → mentDs m (scrub.scrubs n ds) = false
 | [], h => rfl
 | d :: ds, h => by
  simp only [mentDs, Bool.or_eq_false_iff] at h
  simp only [scrub.scrubs, mentDs, scrub_keeps d h.1, scrubs_keeps ds h.2, Bool.or_self]
end
theorem ment_scrubOb {m n : Nm} {ob : Ob} (h : mentOb m (scrubOb n ob) = true) : mentOb m ob = true := by
 cases ob with
 | mbox c ds =>
  simp only [scrubOb, mentOb] at h ⊢
  cases hx : mentDs m ds with
  | true => rfl
  | false =>
   have : mentDs m (ds.map (scrub n)) = false := mentDs_iff.2 fun d hd => by
    obtain ⟨d0, q1, rfl⟩ := List.mem_map.1 hd
    exact scrub_keeps d0 (mentDs_iff.1 hx d0 q1)
   rw [this] at h; cases h
 | marr e s es lk =>
  cases lk with
  | none => cases h
  | some l =>
   obtain ⟨j, off, k⟩ := l
   simp only [scrubOb, unlk] at h
   split at h
   ·cases h
   ·exact h
 | gmap e s es lk =>
  cases lk with
  | none => cases h
  | some l =>
   obtain ⟨j, k⟩ := l
   simp only [scrubOb, unlkG] at h
   split at h
   ·cases h
   ·exact h
 | _ => exact h
theorem ment_scrubObAll {m : Nm} : ∀ {sc : List Nm} {ob : Ob}, mentOb m (scrubObAll sc ob) = true → mentOb m ob = true
 | [], ob, h => h
 | n :: sc, ob, h => ment_scrubOb (ment_scrubObAll (sc := sc) (ob := scrubOb n ob) h)
theorem ment_none (m : Nm) {st : St} {i : Nat} (h : st.L.length ≤ i) : mentOb m (getOb st.L st.O (.loc i)) = false := by
 show mentOb m (st.L.getD i .none) = false
 rw [List.getD_eq_getElem?_getD, List.getElem?_eq_none h]
 rfl
theorem swap {call : CallF} {ops : Array Oper} {x y : Oper} {fx fy : Fp} {s s1 s2 : St} (lx : LocG call P ops x fx s s1) (ly : LocG call P ops y fy s1 s2) (px : PreS x s) (py : PreS y s)
 (px1 : ∀ s1', opS call P ops y s = some s1' → fpG ops P y s = some fy → PreS x s1') (hd1 : ∀ t, x.dst = some t → t ∉ y.looksAt ops ∧ y.dst ≠ some t) (hd2 : ∀ t, y.dst = some t → t ∉ x.looksAt ops) (hi : indep fx fy = true) (ho : ownO x = false ∨ ownO y = false) :
 ∃ s1', opS call P ops y s = some s1' ∧ fpG ops P y s = some fy ∧ opS call P ops x s1' = some s2 ∧ fpG ops P x s1' = some fx := by
 obtain ⟨ux, ix, wx, tx, rx⟩ := lx
 obtain ⟨uy, iy, wy, ty, ry⟩ := ly
 unfold indep at hi
 simp only [Bool.and_eq_true] at hi
 obtain ⟨i1, i2, i3, i4⟩ := hi
 have nx : ∀ m, m ∈ fy.rd ∨ m ∈ fy.wr → m ∉ fx.wr := fun m hm q => by
  rcases hm with p | p
  ·exact disjN_iff i2 q p
  ·exact disjN_iff i1 q p
 have ny : ∀ m, m ∈ fx.rd ∨ m ∈ fx.wr → m ∉ fy.wr := fun m hm q => by
  rcases hm with p | p
  ·exact disjN_iff i3 p q
  ·exact disjN_iff i1 p q
 have kwr : ∀ {o : Oper} {u : Upd} {f : Fp} {st : St} {m : Nm}, Wf u f o st → m ∈ f.wr → u.new = [] := fun {o u f st m} w hm => by
  cases hox : ownO o with
  | false => exact w.k hox
  | true => rw [w.kw hox] at hm; cases hm
 have ly1 : ∀ t ∈ opT y, t ∈ y.looksAt ops := fun t h => List.mem_append_left _ h
 have ly2 : ∀ t ∈ guT ops y, t ∈ y.looksAt ops := fun t h => List.mem_append_right _ h
 have lx1 : ∀ t ∈ opT x, t ∈ x.looksAt ops := fun t h => List.mem_append_left _ h
 have lx2 : ∀ t ∈ guT ops x, t ∈ x.looksAt ops := fun t h => List.mem_append_right _ h
 have e1 : ∀ t ∈ y.looksAt ops, s1.T.getD t ud = scrubAll ux.sc (s.T.getD t ud) := fun t ht => by
  rw [ix.t, if_neg fun q => (hd1 t q.1).1 ht]
 have gy : ∀ t ∈ guT ops y, s.T.getD t ud = s1.T.getD t ud := fun t ht => by
  have := (ty.gu t ht).1
  rw [e1 t (ly2 t ht)] at this ⊢
  exact (nud_scrubAll _ _ this).symm
 have oy : fy.sk = false → ∀ t ∈ opT y, s.T.getD t ud = s1.T.getD t ud := fun hsk t ht => by
  rw [e1 t (ly1 t ht)]
  cases hem : fx.sc.isEmpty with
  | true =>
   have : fx.sc = [] := by simpa using hem
   rw [← wx.sc, this]
   rfl
  | false =>
   rw [hem, Bool.false_or] at i4
   have := ty.nu i4 hsk t ht
   rw [e1 t (ly1 t ht)] at this
   exact (nud_scrubAll _ _ this).symm
 have obx : ∀ n, n ∉ fx.wr → (∀ i, i < ux.new.length → n ≠ .loc (s.L.length + i)) → getOb s1.L s1.O n = getOb s.L s.O n := fun n hn hnew => by
  rcases off_or s.L.length ux.new.length n with q | ⟨i, q1, q2⟩
  ·exact ix.keep wx hn q
  ·exact absurd q2 (hnew i q1)
 have oyo : ∀ m, m ∈ fy.rd ∨ m ∈ fy.wr → offN s.L.length ux.new.length m := by
  intro m hm
  cases hox : ownO x with
  | false => rw [wx.k hox]; exact off0 _ _
  | true =>
   have hfr := px.fr hox
   intro i e
   subst e
   left
   have hob : ∀ n i, s.L.length ≤ i → mentOb (.loc i) (getOb s1.L s1.O n) = false := fun n i hi => by
    rcases off_or s.L.length ux.new.length n with q | ⟨k, q1, q2⟩
    ·rw [ix.keep wx (by rw [wx.kw hox]; exact List.not_mem_nil) q]
     exact ment_getOb (hfr i hi) n
    ·rw [q2, ix.w k q1]
     rw [List.getD_eq_getElem?_getD, List.getElem?_eq_getElem q1]
     exact wx.nw _ (List.getElem_mem _) _
   refine ty.old s.L.length (by rw [ix.n]; exact px.sz) (fun hsk t ht i hi => ?_) hob (fun i hi m => ?_) i hm
   ·rw [← oy hsk t ht]
    exact (hfr i hi).T t
   ·rcases Nat.lt_or_ge i (s.L.length + ux.new.length) with q | q
    ·have : i = s.L.length + (i - s.L.length) := by omega
     rw [this, ix.w _ (by omega), List.getD_eq_getElem?_getD, List.getElem?_eq_getElem (by omega)]
     exact wx.nw _ (List.getElem_mem _) _
    ·exact ment_none m (by rw [ix.l]; exact q)
 have agy : AgG ops y fy s1 s := ⟨ix.n.symm, gy, oy, fun m hm => (ix.keep wx (nx m hm) (oyo m hm)).symm, fun q => by
  have : ownO x = false := ho.resolve_right fun q' => by rw [q] at q'; cases q'
  rw [ix.l, wx.k this]; rfl, fun n hn m hm => by
   cases hx : mentOb m (getOb s.L s.O n) with
   | false => rfl
   | true =>
    exfalso
    rw [wy.sc] at hm
    have hmw := wy.s1 m hm
    by_cases hnw : n ∈ fx.wr
    ·exact ny m (.inl (wx.od n hnw m hx)) hmw
    ·rcases off_or s.L.length ux.new.length n with q | ⟨i, q1, q2⟩
     ·rw [← ix.keep wx hnw q] at hx
      exact hn (wy.s2 m hm n hx)
     ·subst q2
      rw [ment_none m (by omega)] at hx
      cases hx⟩
 obtain ⟨s1', a1, a2, a3, a4⟩ := ry s agy py
 have oxo : ∀ m, m ∈ fx.rd ∨ m ∈ fx.wr → offN s.L.length uy.new.length m := by
  intro m hm
  cases hoy : ownO y with
  | false => rw [wy.k hoy]; exact off0 _ _
  | true =>
   have hfr := py.fr hoy
   intro i e
   subst e
   left
   exact tx.old s.L.length px.sz (fun _ t _ i hi => (hfr i hi).T t) (fun n i hi => ment_getOb (hfr i hi) n) (fun i hi m => ment_none m hi) i hm
 have e2 : ∀ t ∈ x.looksAt ops, s1'.T.getD t ud = scrubAll uy.sc (s.T.getD t ud) := fun t ht => by
  rw [a3.t, if_neg fun q => hd2 t q.1 ht]
 have mayY : ∀ m, m ∈ ux.sc → May fy s uy.new.length m → False := fun m hm hM => by
  have hmw := wx.s1 m hm
  rcases hM with q | q | ⟨n, q1, q2⟩ | ⟨i, q1, q2⟩
  ·exact nx m (.inl q) hmw
  ·exact nx m (.inr q) hmw
  ·exact nx n q1 (wx.s2 m hm n q2)
  ·rcases oxo m (.inr hmw) _ q2 with q | q <;> omega
 have mayX : ∀ m, m ∈ uy.sc → May fx s ux.new.length m → False := fun m hm hM => by
  have hmw := wy.s1 m hm
  rcases hM with q | q | ⟨n, q1, q2⟩ | ⟨i, q1, q2⟩
  ·exact ny m (.inl q) hmw
  ·exact ny m (.inr q) hmw
  ·exact ny n q1 (a4.s2 m hm n q2)
  ·rcases oyo m (.inr hmw) _ q2 with q | q <;> omega
 have agx : AgG ops x fx s s1' := ⟨a3.n, fun t ht => by
  rw [e2 t (lx2 t ht)]
  exact scrubAll_id _ _ fun m _ => (tx.gu t ht).2 m, fun hsk t ht => by
  rw [e2 t (lx1 t ht)]
  refine scrubAll_id _ _ fun m hm => ?_
  cases hx : mentD m (s.T.getD t ud) with
  | false => rfl
  | true => exact absurd (wy.s1 m hm) (ny m (.inl (tx.rd hsk t ht m hx))), fun m hm => a3.keep a4 (ny m hm) (oxo m hm), fun q => by
  have : ownO y = false := ho.resolve_left fun q' => by rw [q] at q'; cases q'
  rw [a3.l, wy.k this]; rfl, fun n hn m hm => by
  cases hx : mentOb m (getOb s1'.L s1'.O n) with
  | false => rfl
  | true =>
   exfalso
   rw [wx.sc] at hm
   rcases off_or s.L.length uy.new.length n with q | ⟨i, q1, q2⟩
   ·by_cases hnw : n ∈ fy.wr
    ·rw [a3.b n q] at hx
     cases hu : upGet uy.up n with
     | some ob =>
      rw [hu] at hx
      exact mayY m hm (a4.c _ (upGet_mem hu) m hx)
     | none =>
      rw [hu] at hx
      exact hn (wx.s2 m hm n (ment_scrubObAll hx))
    ·rw [a3.keep a4 hnw q] at hx
     exact hn (wx.s2 m hm n hx)
   ·subst q2
    rw [a3.w i q1, List.getD_eq_getElem?_getD, List.getElem?_eq_getElem q1] at hx
    have h9 := a4.nw _ (List.getElem_mem q1) m
    rw [show (some uy.new[i]).getD Ob.none = uy.new[i] from rfl, h9] at hx
    cases hx⟩
 obtain ⟨s2', b1, b2, b3, b4⟩ := rx s1' agx (px1 s1' a1 a2)
 have hk : ux.new = [] ∨ uy.new = [] := ho.imp wx.k wy.k
 have key : s2' = s2 := by
  refine st_ext (by rw [b3.n, a3.n, iy.n, ix.n]) (fun t => ?_) (by rw [b3.l, a3.l, iy.l, ix.l]; omega) (by rw [b3.o, a3.o, iy.o, ix.o]) (fun m => ?_)
  ·rw [b3.t, iy.t, a3.n, ix.n, a3.t, ix.t]
   by_cases hy : y.dst = some t ∧ t < s.T.n
   ·rw [if_pos hy, if_pos hy, if_neg fun q => (hd1 t q.1).2 hy.1]
    exact scrubAll_id _ _ fun m hm => by
     cases hx : mentD m uy.v with
     | false => rfl
     | true => exact (mayY m hm (a4.v m hx)).elim
   ·rw [if_neg hy, if_neg hy]
    by_cases hxx : x.dst = some t ∧ t < s.T.n
    ·rw [if_pos hxx, if_pos hxx]
     exact (scrubAll_id _ _ fun m hm => by
      cases hx : mentD m ux.v with
      | false => rfl
      | true => exact (mayX m hm (wx.v m hx)).elim).symm
    ·rw [if_neg hxx, if_neg hxx]
     exact scrubAll_comm _ _ _
  ·have l1 := ix.l
   have l2 := a3.l
   by_cases hmy : m ∈ fy.wr
   ·have hky := kwr wy hmy
    have o1 := oyo m (.inr hmy)
    rw [b3.keep b4 (nx m (.inr hmy)) (by rw [l2, hky]; exact o1)]
    exact iy.at a3 (ix.keep wx (nx m (.inr hmy)) o1).symm (by rw [hky]; exact off0 _ _) (by rw [hky]; exact off0 _ _)
   ·by_cases hmx : m ∈ fx.wr
    ·have hkx := kwr wx hmx
     have o1 := oxo m (.inr hmx)
     rw [iy.keep wy hmy (by rw [l1, hkx]; exact o1)]
     exact ix.at b3 (a3.keep a4 hmy o1) (by rw [hkx]; exact off0 _ _) (by rw [hkx]; exact off0 _ _)
    ·rcases hk with q | q
     ·have l1' : s1.L.length = s.L.length := by rw [l1, q]; rfl
      rw [b3.keep b4 hmx (by rw [q]; exact off0 _ _)]
      rcases off_or s.L.length uy.new.length m with p | ⟨i, p1, p2⟩
      ·rw [a3.keep a4 hmy p, iy.keep wy hmy (by rw [l1']; exact p), ix.keep wx hmx (by rw [q]; exact off0 _ _)]
      ·subst p2
       rw [a3.w i p1, ← l1', iy.w i p1]
     ·have l2' : s1'.L.length = s.L.length := by rw [l2, q]; rfl
      rw [iy.keep wy hmy (by rw [q]; exact off0 _ _)]
      rcases off_or s.L.length ux.new.length m with p | ⟨i, p1, p2⟩
      ·rw [ix.keep wx hmx p, b3.keep b4 hmx (by rw [l2']; exact p), a3.keep a4 hmy (by rw [q]; exact off0 _ _)]
      ·subst p2
       rw [ix.w i p1, ← l2', b3.w i p1]
 subst key
 exact ⟨s1', a1, a2, b1, b2⟩
end Go.Proofs.YtmnoibkdmeajpaaGreat.Dm
