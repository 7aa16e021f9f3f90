/- The machine over plain data: where an order is drawn, each order comes to the same. -/
import Derived.Test.YtakbdjdafcjglaaGreatDoorDm16C
namespace Go.Proofs.YtakbdjdafcjglaaGreatDoor.Dm
set_option linter.unusedSectionVars false
open Go.RowKit
set_option linter.unusedVariables false
set_option linter.unusedSimpArgs false
variable [Cfg] {P : Program} {st st' st1 : St} {o : Oper} {d : Dv}

/-! ### with guards -/
def fpG (ops : Array Oper) (P : Program) (o : Oper) (st : St) : Option Fp := match o.guard with
  | none => fpK P o st
  | some (j, want) => match gslot ops j with
    | none => none
    | some g => match st.T.getD g ud with
      | .p (.bool b) => if b = want then fpK P o st else some ([], [])
      | .tup [] => some ([], [])
      | _ => none
structure AgG (ops : Array Oper) (o : Oper) (f : Fp) (st st' : St) : Prop where
  n : st'.T.n = st.T.n
  t : ∀ t ∈ o.looksAt ops, st'.T.getD t ud = st.T.getD t ud
  b : ∀ m, m ∈ f.1 ∨ m ∈ f.2 → getOb st'.L st'.O m = getOb st.L st.O m
  l : ownO o = true → st'.L.length = st.L.length
theorem AgG.agF {ops : Array Oper} {f : Fp} (h : AgG ops o f st st') : AgF P o f st st' := ⟨h.n, fun x hx t => by
  cases x with
  | tmp y => exact h.t y (List.mem_append_left _ (List.mem_filterMap.2 ⟨.tmp y, hx, rfl⟩))
  | _ => rfl, h.b, h.l⟩
theorem locG {call : CallF} {ops : Array Oper} {f : Fp} (hf : fpG ops P o st = some f) (hp : Pre o st) (h : opS call P ops o st = some st1) :
    ∃ k, Eff o f st st1 k ∧ ∀ st', AgG ops o f st st' → Pre o st' → ∃ st1', opS call P ops o st' = some st1' ∧ fpG ops P o st' = some f ∧ Eff o f st' st1' k ∧ Same o f st st1 st' st1' k := by
  have skip : ∀ st0 : St, o.guard ≠ none → Eff o ([], []) st0 (st0.put o.dst nix) 0 := fun st0 hg => ⟨ch_put nix, fun m hc _ _ => clean_put hc rfl, (fun m hm => by cases hm), fun _ => rfl⟩
  have hap : o.guard ≠ none → appOf o = none := fun hg => by
    cases e : appOf o with
    | none => rfl
    | some q =>
      obtain ⟨c, y, _, _, h', _⟩ := appOf_inv (a := q.1) (d := q.2) (by rw [e])
      exact absurd h' hg
  unfold fpG at hf ⊢
  unfold opS at h ⊢
  cases hg : o.guard with
  | none =>
    simp only [hg] at hf h
    obtain ⟨k, e1, e2⟩ := loc hf hp h
    exact ⟨k, e1, fun st' hag hp' => e2 st' hag.agF hp'⟩
  | some jw =>
    obtain ⟨j, want⟩ := jw
    simp only [hg] at hf h
    cases hs : gslot ops j with
    | none => simp only [hs] at hf; cases hf
    | some g =>
      simp only [hs] at hf h
      have hgt : g ∈ o.looksAt ops := by
        have hs' : (ops[j]?).bind (·.dst) = some g := hs
        exact List.mem_append_right _ (by rw [hg]; simp [hs'])
      have hskip : f = ([], []) → st1 = st.put o.dst nix → ∀ X : Dv, st.T.getD g ud = X → ∃ k, Eff o f st st1 k ∧ ∀ st', AgG ops o f st st' → Pre o st' → st'.T.getD g ud = X ∧ Eff o f st' (st'.put o.dst nix) k ∧ Same o f st st1 st' (st'.put o.dst nix) k := by
        rintro rfl rfl X hX
        refine ⟨0, skip st (by rw [hg]; simp), fun st' hag _ => ⟨(hag.t g hgt).trans hX, skip st' (by rw [hg]; simp), fun t ht => ?_, (fun m hm => by cases hm), (fun s h1 h2 => by omega)⟩⟩
        have hd := wt_dst (hap (by rw [hg]; simp)) ht
        rw [put_at hd, put_at hd, hag.n]
      split at hf
      · rename_i b hb
        rw [hb] at h
        dsimp only at h
        split at hf
        · rename_i e
          rw [if_pos e] at h
          obtain ⟨k, e1, e2⟩ := loc hf hp h
          refine ⟨k, e1, fun st' hag hp' => ?_⟩
          obtain ⟨s1', q1, q2, q3⟩ := e2 st' hag.agF hp'
          refine ⟨s1', ?_, ?_, q3⟩
          · simp only [hs, (hag.t g hgt).trans hb]
            rw [if_pos e]
            exact q1
          · simp only [hs, (hag.t g hgt).trans hb]
            rw [if_pos e]
            exact q2
        · rename_i e
          rw [if_neg e] at h
          injection hf with hf
          injection h with h
          obtain ⟨k, e1, e2⟩ := hskip hf.symm h.symm _ hb
          refine ⟨k, e1, fun st' hag hp' => ?_⟩
          obtain ⟨q1, q2, q3⟩ := e2 st' hag hp'
          refine ⟨_, ?_, ?_, q2, q3⟩
          · simp only [hs, q1]
            rw [if_neg e]
          · simp only [hs, q1]
            rw [if_neg e, hf]
      · rename_i hb
        rw [hb] at h
        injection hf with hf
        injection h with h
        obtain ⟨k, e1, e2⟩ := hskip hf.symm h.symm _ hb
        refine ⟨k, e1, fun st' hag hp' => ?_⟩
        obtain ⟨q1, q2, q3⟩ := e2 st' hag hp'
        refine ⟨_, ?_, ?_, q2, q3⟩
        · simp only [hs, q1]
        · simp only [hs, q1]
          rw [hf]
      · cases hf

/-! ### names that an operation meets are there already -/
mutual
theorem refs_mentD {m : Nm} : ∀ d : Dv, m ∈ refsD d → mentD m d = true
  | .ptr m' off, h => by simp only [refsD, List.mem_singleton] at h; simp [mentD, h]
  | .arr m', h => by simp only [refsD, List.mem_singleton] at h; simp [mentD, h]
  | .el m' j s off, h => by simp only [refsD, List.mem_singleton] at h; simp [mentD, h]
  | .mp m', h => by simp only [refsD, List.mem_singleton] at h; simp [mentD, h]
  | .sub m' j s off e s', h => by simp only [refsD, List.mem_singleton] at h; simp [mentD, h]
  | .agg n ds, h => by simp only [refsD] at h; simp only [mentD]; exact refs_mentDs ds h
  | .fn f ds, h => by simp only [refsD] at h; simp only [mentD]; exact refs_mentDs ds h
  | .tup ds, h => by simp only [refsD] at h; simp only [mentD]; exact refs_mentDs ds h
  | .p x, h => by simp [refsD] at h
  | .nilsl s, h => by simp [refsD] at h
  | .ro s cs, h => by simp [refsD] at h
theorem refs_mentDs {m : Nm} : ∀ ds : List Dv, m ∈ refsDs ds → mentDs m ds = true
  | [], h => by simp [refsDs] at h
  | d :: ds, h => by
    simp only [refsDs, List.mem_append] at h
    simp only [mentDs, Bool.or_eq_true]
    exact h.imp (refs_mentD d) (refs_mentDs ds)
end
theorem boxNs_ment {L O : List Ob} {m : Nm} : ∀ (ds : List Dv) (ns : List Nm), boxNs L O ds = some ns → m ∈ ns → ∃ d ∈ ds, mentD m d = true
  | [], ns, h, hm => by
    simp only [boxNs] at h
    injection h with h; subst h; cases hm
  | .p x :: ds, ns, h, hm => by
    simp only [boxNs] at h
    obtain ⟨d, q1, q2⟩ := boxNs_ment ds ns h hm
    exact ⟨d, List.mem_cons_of_mem _ q1, q2⟩
  | .nilsl s :: ds, ns, h, hm => by
    simp only [boxNs] at h
    obtain ⟨d, q1, q2⟩ := boxNs_ment ds ns h hm
    exact ⟨d, List.mem_cons_of_mem _ q1, q2⟩
  | .ptr m' off :: ds, ns, h, hm => by
    simp only [boxNs] at h
    split at h
    · split at h
      · rename_i ns' hns
        injection h with h; subst h
        rcases List.mem_cons.1 hm with rfl | hm
        · exact ⟨_, List.mem_cons_self .., by simp [mentD]⟩
        · obtain ⟨d, q1, q2⟩ := boxNs_ment ds ns' hns hm
          exact ⟨d, List.mem_cons_of_mem _ q1, q2⟩
      · cases h
    · cases h
  | .arr _ :: _, _, h, _ => by cases h
  | .el .. :: _, _, h, _ => by cases h
  | .ro .. :: _, _, h, _ => by cases h
  | .agg .. :: _, _, h, _ => by cases h
  | .fn .. :: _, _, h, _ => by cases h
  | .tup _ :: _, _, h, _ => by cases h
  | .mp _ :: _, _, h, _ => by cases h
  | .sub .. :: _, _, h, _ => by cases h
theorem fp_ment {ops : Array Oper} {f : Fp} (hf : fpG ops P o st = some f) {m : Nm} (hm : m ∈ f.1 ∨ m ∈ f.2) : (isMk o = true ∧ m = .loc (nmOf o)) ∨ ∃ t ∈ o.looksAt ops, mentD m (st.T.getD t ud) = true := by
  have opn : ∀ x ∈ o.op.operands.toList, ∀ t, mentD m (opd P st t x) = true → ∃ t ∈ o.looksAt ops, mentD m (st.T.getD t ud) = true := fun x hx t h => by
    cases x with
    | tmp y => exact ⟨y, List.mem_append_left _ (List.mem_filterMap.2 ⟨.tmp y, hx, rfl⟩), h⟩
    | const v => simp only [opd, constD_ment] at h; cases h
    | func f => cases h
    | global g => cases h
  have hrefs : m ∈ refsO P o st → ∃ t ∈ o.looksAt ops, mentD m (st.T.getD t ud) = true := fun h => by
    obtain ⟨x, hx, h⟩ := List.mem_flatMap.1 h
    exact opn x hx 0 (refs_mentD _ h)
  have key : fpK P o st = some f → (isMk o = true ∧ m = .loc (nmOf o)) ∨ ∃ t ∈ o.looksAt ops, mentD m (st.T.getD t ud) = true := by
    intro hf
    unfold fpK at hf
    cases hno : ownO o with
    | true =>
      rw [hno] at hf
      injection hf with hf; subst hf
      exact .inr (hrefs (hm.resolve_right fun q => by cases q))
    | false =>
      rw [hno, cond_false] at hf
      cases hs : storeN P o st with
      | some m' =>
        rw [hs] at hf
        injection hf with hf; subst hf
        have hm : m = m' := by
          rcases hm with q | q
          · cases q
          · simpa using q
        subst hm
        unfold storeN at hs
        split at hs
        · rename_i t a v ho
          split at hs
          · rename_i m' off e
            injection hs with hs; subst hs
            exact .inr (opn a (by rw [ho]; simp [Op.operands]) 0 (by rw [e]; simp [mentD]))
          · cases hs
        · cases hs
      | none =>
        rw [hs] at hf
        dsimp only at hf
        cases hc : callN P o st with
        | some ns =>
          rw [hc] at hf
          injection hf with hf; subst hf
          have hm : m ∈ ns := hm.resolve_left fun q => by cases q
          obtain ⟨c, f, n, ns', ho, hcl, _, hb, e, _⟩ := callN_inv hc
          subst e
          obtain ⟨d, hd, h2⟩ := boxNs_ment _ _ hb hm
          obtain ⟨x, hx, t, rfl⟩ := opds_mem _ _ d hd
          exact .inr (opn x (args_mem ho hx) t h2)
        | none =>
          rw [hc] at hf
          dsimp only at hf
          cases hq : quietOK P o st with
          | false => rw [hq] at hf; cases hf
          | true =>
            rw [hq, cond_true] at hf
            cases hl : lookOp o.op with
            | true =>
              rw [hl, cond_true] at hf
              injection hf with hf; subst hf
              exact .inr (hrefs (hm.resolve_right fun q => by cases q))
            | false =>
              rw [hl, cond_false] at hf
              cases hmk : isMk o with
              | false => rw [hmk] at hf; cases hf
              | true =>
                rw [hmk] at hf
                injection hf with hf; subst hf
                have : m = .loc (nmOf o) := by
                  rcases hm with q | q
                  · cases q
                  · simpa using q
                exact .inl ⟨rfl, this⟩
  unfold fpG at hf
  have nil : f = ([], []) → False := fun e => by subst e; rcases hm with q | q <;> cases q
  split at hf
  · exact key hf
  · split at hf
    · cases hf
    · split at hf
      · split at hf
        · exact key hf
        · injection hf with hf; exact (nil hf.symm).elim
      · injection hf with hf; exact (nil hf.symm).elim
      · cases hf
theorem fp_old {ops : Array Oper} {f : Fp} (hf : fpG ops P o st = some f) (hp : Pre o st) (hfr : Fresh st) {m : Nm} (hm : m ∈ f.1 ∨ m ∈ f.2) (k : Nat) : offN st.L.length k m := by
  intro s e
  subst e
  left
  rcases fp_ment hf hm with ⟨q1, q2⟩ | ⟨t, _, q⟩
  · injection q2 with q2
    rw [q2]
    exact (hp.ma q1).2.1
  · rcases Nat.lt_or_ge s st.L.length with h | h
    · exact h
    · rw [(hfr s h).T t] at q; cases q

/-! ### two that do not meet -/
theorem disjN_iff {a b : List Nm} (h : disjN a b = true) {m : Nm} (hm : m ∈ a) : m ∉ b := by
  have := List.all_eq_true.1 h m hm
  simpa using this
theorem st_ext {a b : St} (h1 : a.T.n = b.T.n) (h2 : ∀ t, a.T.getD t ud = b.T.getD t ud) (h3 : a.L.length = b.L.length) (h4 : a.O.length = b.O.length) (h5 : ∀ m, getOb a.L a.O m = getOb b.L b.O m) : a = b := by
  obtain ⟨T, L, O⟩ := a
  obtain ⟨T', L', O'⟩ := b
  have e1 : T = T' := Tm.ext_ h1 h2
  have lx : ∀ {l l' : List Ob}, l.length = l'.length → (∀ i, l.getD i .none = l'.getD i .none) → l = l' := by
    intro l l' hl h
    refine List.ext_getElem hl fun i hi hi' => ?_
    have := h i
    rw [List.getD_eq_getElem?_getD, List.getD_eq_getElem?_getD, List.getElem?_eq_getElem hi, List.getElem?_eq_getElem hi'] at this
    exact this
  have e2 : L = L' := lx h3 fun i => h5 (.loc i)
  have e3 : O = O' := lx h4 fun i => h5 (.out i)
  rw [e1, e2, e3]
theorem off0 (b : Nat) (m : Nm) : offN b 0 m := fun s _ => by omega
theorem swap {call : CallF} {ops : Array Oper} {x y : Oper} {fx fy : Fp} {s s1 s2 : St} (gx : fpG ops P x s = some fx) (hx : opS call P ops x s = some s1) (gy : fpG ops P y s1 = some fy) (hy : opS call P ops y s1 = some s2)
    (px : Pre x s) (py1 : Pre y s1) (py : Pre y s) (px1 : ∀ s1', fpG ops P y s = some fy → opS call P ops y s = some s1' → Pre x s1') (ht1 : ∀ t ∈ wtO x, t ∉ y.looksAt ops ∧ t ∉ wtO y) (ht2 : ∀ t ∈ wtO y, t ∉ x.looksAt ops) (hi : indep fx fy = true) (ho : ownO x = false ∨ ownO y = false) :
    ∃ s1', opS call P ops y s = some s1' ∧ fpG ops P y s = some fy ∧ opS call P ops x s1' = some s2 ∧ fpG ops P x s1' = some fx := by
  unfold indep at hi
  simp only [Bool.and_eq_true] at hi
  obtain ⟨i1, i2, i3⟩ := hi
  obtain ⟨kx, ex, lx⟩ := locG gx px hx
  obtain ⟨ky, ey, ly⟩ := locG gy py1 hy
  have hk : kx = 0 ∨ ky = 0 := ho.imp ex.k0 ey.k0
  have nx : ∀ m, m ∈ fy.1 ∨ m ∈ fy.2 → m ∉ fx.2 := fun m hm q => by
    rcases hm with p | p
    · exact disjN_iff i2 q p
    · exact disjN_iff i1 q p
  have ny : ∀ m, m ∈ fx.1 ∨ m ∈ fx.2 → m ∉ fy.2 := fun m hm q => by
    rcases hm with p | p
    · exact disjN_iff i3 p q
    · exact disjN_iff i1 p q
  -- y's names at s: none of x's new ones
  have oy : ∀ m, m ∈ fy.1 ∨ m ∈ fy.2 → offN s.L.length kx m := by
    intro m hm
    cases hox : ownO x with
    | false => rw [ex.k0 hox]; exact off0 _ _
    | true =>
      have hfr := px.fr hox
      intro i e
      subst e
      left
      rcases fp_ment gy hm with ⟨q1, q2⟩ | ⟨t, q1, q2⟩
      · injection q2 with q2
        rw [q2]
        exact (py.ma q1).2.1
      · rw [ex.ch.t t (fun q => (ht1 t q).1 q1)] at q2
        rcases Nat.lt_or_ge i s.L.length with h | h
        · exact h
        · rw [(hfr i h).T t] at q2; cases q2
  have agy : AgG ops y fy s1 s := ⟨ex.ch.n.symm, fun t ht => (ex.ch.t t fun q => (ht1 t q).1 ht).symm, fun m hm => (ex.ch.b m (nx m hm) (oy m hm)).symm, fun q => by
    have : ownO x = false := ho.resolve_right fun q' => by rw [q] at q'; cases q'
    rw [ex.ch.l, ex.k0 this]; rfl⟩
  obtain ⟨s1', a1, a2, a3, a4⟩ := ly s agy py
  have ox : ∀ m, m ∈ fx.1 ∨ m ∈ fx.2 → offN s.L.length ky m := by
    intro m hm
    cases hoy : ownO y with
    | false => rw [ey.k0 hoy]; exact off0 _ _
    | true => exact fp_old gx px (py.fr hoy) hm ky
  have agx : AgG ops x fx s s1' := ⟨a3.ch.n, fun t ht => a3.ch.t t fun q => ht2 t q ht, fun m hm => a3.ch.b m (ny m hm) (ox m hm), fun q => by
    have : ownO y = false := ho.resolve_left fun q' => by rw [q] at q'; cases q'
    rw [a3.ch.l, a3.k0 this]; rfl⟩
  obtain ⟨s2', b1, b2, b3, b4⟩ := lx s1' agx (px1 s1' a2 a1)
  have key : s2' = s2 := by
    refine st_ext (by rw [b3.ch.n, a3.ch.n, ey.ch.n, ex.ch.n]) (fun t => ?_) (by rw [b3.ch.l, a3.ch.l, ey.ch.l, ex.ch.l]; omega) (by rw [b3.ch.o, a3.ch.o, ey.ch.o, ex.ch.o]) (fun m => ?_)
    · by_cases hty : t ∈ wtO y
      · rw [b3.ch.t t fun q => (ht1 t q).2 hty]
        exact a4.t t hty
      · by_cases htx : t ∈ wtO x
        · rw [b4.t t htx, ey.ch.t t hty]
        · rw [b3.ch.t t htx, a3.ch.t t hty, ey.ch.t t hty, ex.ch.t t htx]
    · have l1 := ex.ch.l
      have l2 := a3.ch.l
      by_cases hmy : m ∈ fy.2
      · rw [b3.ch.b m (nx m (.inr hmy)) (by
          rcases hk with q | q
          · rw [q]; exact off0 _ _
          · rw [l2, q]; exact oy m (.inr hmy))]
        exact a4.b m hmy
      · by_cases hmx : m ∈ fx.2
        · rw [b4.b m hmx, ey.ch.b m hmy (by
            rcases hk with q | q
            · rw [l1, q]; exact ox m (.inr hmx)
            · rw [q]; exact off0 _ _)]
        · rcases hk with q | q
          · subst q
            rw [b3.ch.b m hmx (off0 _ _)]
            by_cases hn : offN s.L.length ky m
            · rw [a3.ch.b m hmy hn, ey.ch.b m hmy (by rw [l1]; exact hn), ex.ch.b m hmx (off0 _ _)]
            · have : ∃ i, m = .loc i ∧ s.L.length ≤ i ∧ i < s.L.length + ky := by
                cases m with
                | out i => exact absurd (fun i e => by cases e) hn
                | loc i =>
                  refine ⟨i, rfl, ?_⟩
                  rcases Nat.lt_or_ge i s.L.length with h | h
                  · exact absurd (fun j e => by injection e with e; subst e; exact .inl h) hn
                  · rcases Nat.lt_or_ge i (s.L.length + ky) with h' | h'
                    · exact ⟨h, h'⟩
                    · exact absurd (fun j e => by injection e with e; subst e; exact .inr h') hn
              obtain ⟨i, rfl, h1, h2⟩ := this
              exact a4.w i (by rw [l1]; exact h1) (by rw [l1]; exact h2)
          · subst q
            rw [ey.ch.b m hmy (off0 _ _)]
            by_cases hn : offN s.L.length kx m
            · rw [b3.ch.b m hmx (by rw [l2]; exact hn), a3.ch.b m hmy (off0 _ _), ex.ch.b m hmx hn]
            · have : ∃ i, m = .loc i ∧ s.L.length ≤ i ∧ i < s.L.length + kx := by
                cases m with
                | out i => exact absurd (fun i e => by cases e) hn
                | loc i =>
                  refine ⟨i, rfl, ?_⟩
                  rcases Nat.lt_or_ge i s.L.length with h | h
                  · exact absurd (fun j e => by injection e with e; subst e; exact .inl h) hn
                  · rcases Nat.lt_or_ge i (s.L.length + kx) with h' | h'
                    · exact ⟨h, h'⟩
                    · exact absurd (fun j e => by injection e with e; subst e; exact .inr h') hn
              obtain ⟨i, rfl, h1, h2⟩ := this
              exact b4.w i h1 h2
  subst key
  exact ⟨s1', a1, a2, b1, b2⟩

/-! ### orders -/
def runV (V : Nat → St → St → Prop) : List Nat → St → St → Prop
  | [], s, s' => s = s'
  | i :: l, s, s' => ∃ s1, V i s s1 ∧ runV V l s1 s'
theorem preAll_len (ops : Array Oper) : ∀ n, (preAll ops n).length = n
  | 0 => rfl
  | n + 1 => by simp [preAll, preAll_len ops n]
theorem preAll_get (ops : Array Oper) (n : Nat) : ∀ k j, j < n → (preAll ops (n + k)).getD j [] = (preAll ops n).getD j []
  | 0, j, h => rfl
  | k + 1, j, h => by
    rw [← preAll_get ops n k j h, ← Nat.add_assoc]
    simp only [preAll, List.getD_eq_getElem?_getD]
    rw [List.getElem?_append_left (by rw [preAll_len]; omega)]
theorem mem_foldl1 : ∀ (l s : List Nat) (p : Nat), p ∈ l.foldl (fun s p => if s.contains p then s else p :: s) s → p ∈ l ∨ p ∈ s
  | [], s, p, h => .inr h
  | x :: l, s, p, h => by
    simp only [List.foldl_cons] at h
    rcases mem_foldl1 l _ p h with q | q
    · exact .inl (List.mem_cons_of_mem _ q)
    · split at q
      · exact .inr q
      · rcases List.mem_cons.1 q with q | q
        · exact .inl (q ▸ List.mem_cons_self ..)
        · exact .inr q
theorem mem_pre1 {acc : List (List Nat)} {p : Nat} : ∀ (l : List Edge) (s : List Nat), p ∈ l.foldl (fun s e => if Region.binds .any e then (acc.getD e.on []).foldl (fun s p => if s.contains p then s else p :: s) (if s.contains e.on then s else e.on :: s) else s) s →
    p ∈ s ∨ ∃ e ∈ l, Region.binds .any e = true ∧ (p = e.on ∨ p ∈ acc.getD e.on [])
  | [], s, h => .inl h
  | x :: l, s, h => by
    simp only [List.foldl_cons] at h
    rcases mem_pre1 l _ h with q | ⟨e, q1, q2⟩
    · split at q
      · rename_i hb
        rcases mem_foldl1 _ _ _ q with q | q
        · exact .inr ⟨x, List.mem_cons_self .., hb, .inr q⟩
        · split at q
          · exact .inl q
          · rcases List.mem_cons.1 q with q | q
            · exact .inr ⟨x, List.mem_cons_self .., hb, .inl q⟩
            · exact .inl q
      · exact .inl q
    · exact .inr ⟨e, List.mem_cons_of_mem _ q1, q2⟩
/-- what stands before is listed, where the list is closed under edges -/
theorem pre_listed {ops : Array Oper} {Ls : Nat → Prop} (hL : ∀ j o, Ls j → ops[j]? = some o → ∀ e ∈ o.after, Region.binds .any e = true → Ls e.on) :
    ∀ n j o, j < n → ops[j]? = some o → (∀ e ∈ o.after, Region.binds .any e = true → Ls e.on) → ∀ p ∈ (preAll ops n).getD j [], Ls p
  | 0, j, o, h, _, _, _, _ => by cases h
  | n + 1, j, o, h, ho, he, p, hp => by
    rcases Nat.lt_or_ge j n with hlt | hge
    · rw [preAll_get ops n 1 j hlt] at hp
      exact pre_listed hL n j o hlt ho he p hp
    · have : j = n := by omega
      subst this
      have hx : (preAll ops (j + 1)).getD j [] = pre1 (preAll ops j) o := by
        simp only [preAll, List.getD_eq_getElem?_getD, ho]
        rw [List.getElem?_append_right (by rw [preAll_len]; omega), preAll_len]
        simp
      rw [hx] at hp
      unfold pre1 at hp
      rcases mem_pre1 _ _ hp with q | ⟨e, q1, q2, q3⟩
      · cases q
      · have q1' : e ∈ o.after := by simpa using q1
        rcases q3 with q3 | q3
        · rw [q3]; exact he e q1' q2
        · -- one step further back
          rcases Nat.lt_or_ge e.on j with h2 | h2
          · cases hoe : ops[e.on]? with
            | none =>
              exfalso
              have hjlt := (Array.getElem?_eq_some_iff.1 ho).1
              rw [Array.getElem?_eq_none_iff] at hoe
              omega
            | some oe => exact pre_listed hL j e.on oe h2 hoe (hL e.on oe (he e q1' q2) hoe) p q3
          · exfalso
            rw [getD_ge (by rw [preAll_len]; omega)] at q3
            cases q3
/-- what stands before has a lesser number -/
theorem pre_lt {ops : Array Oper} (hback : ∀ j o, ops[j]? = some o → ∀ e ∈ o.after, Region.binds .any e = true → e.on < j) : ∀ n j p, j < n → p ∈ (preAll ops n).getD j [] → p < j
  | 0, j, p, h, _ => by cases h
  | n + 1, j, p, h, hp => by
    rcases Nat.lt_or_ge j n with hlt | hge
    · rw [preAll_get ops n 1 j hlt] at hp
      exact pre_lt hback n j p hlt hp
    · have : j = n := by omega
      subst this
      cases ho : ops[j]? with
      | none =>
        exfalso
        have hx : (preAll ops (j + 1)).getD j [] = [] := by
          simp only [preAll, List.getD_eq_getElem?_getD, ho]
          rw [List.getElem?_append_right (by rw [preAll_len]; omega), preAll_len]
          simp
        rw [hx] at hp
        cases hp
      | some o =>
        have hx : (preAll ops (j + 1)).getD j [] = pre1 (preAll ops j) o := by
          simp only [preAll, List.getD_eq_getElem?_getD, ho]
          rw [List.getElem?_append_right (by rw [preAll_len]; omega), preAll_len]
          simp
        rw [hx] at hp
        unfold pre1 at hp
        rcases mem_pre1 _ _ hp with q | ⟨e, q1, q2, q3⟩
        · cases q
        · have q1' : e ∈ o.after := by simpa using q1
          have hlt := hback j o ho e q1' q2
          rcases q3 with q3 | q3
          · omega
          · have := pre_lt hback j e.on p hlt q3
            omega
/-- all that stands before j is done -/
def doneFor (ops : Array Oper) (R : Nat → Prop) (j : Nat) : Prop := ∀ p ∈ (preAll ops ops.size).getD j [], ¬ R p
theorem move_front {ops : Array Oper} {V : Nat → St → St → Prop} {i : Nat} {l2 : List Nat} {st' : St} {J : (Nat → Prop) → St → Prop} (hmono : ∀ (R R' : Nat → Prop) st, (∀ k, R' k → R k) → (∀ k, k < ops.size → R k → R' k) → J R st → J R' st)
    {Good : Nat → Prop} (hstep : ∀ j (R : Nat → Prop) st st1, Good j → R j → doneFor ops R j → J R st → V j st st1 → J (fun k => R k ∧ k ≠ j) st1) : ∀ (l1 : List Nat) (R : Nat → Prop) (st : St), J R st → l1.Pairwise (· < ·) → i ∉ l1 → (∀ j ∈ l1, R j ∧ Good j) → (∀ j ∈ l1, ∀ p ∈ (preAll ops ops.size).getD j [], ¬ R p ∨ (p ∈ l1 ∧ p < j)) → R i → doneFor ops R i →
    (∀ j ∈ l1, ∀ (R : Nat → Prop) s s1 s2, R j → R i → doneFor ops R j → doneFor ops R i → J R s → V j s s1 → V i s1 s2 → ∃ s1', V i s s1' ∧ V j s1' s2) →
    runV V (l1 ++ i :: l2) st st' → ∃ st1, V i st st1 ∧ runV V (l1 ++ l2) st1 st'
  | [], R, st, _, _, _, _, _, _, _, _, h => by
    exact h
  | j :: l1, R, st, hJ, hnd, hi, hR, hpre, hRi, hDi, hsw, h => by
    obtain ⟨s1, h1, h2⟩ := h
    have hj := (hR j (List.mem_cons_self ..)).1
    have hg := (hR j (List.mem_cons_self ..)).2
    rw [List.pairwise_cons] at hnd
    have hij : i ≠ j := fun e => hi (by rw [e]; exact List.mem_cons_self ..)
    have hDj : doneFor ops R j := by
      intro p hp
      rcases hpre j (List.mem_cons_self ..) p hp with q | ⟨q1, q2⟩
      · exact q
      · exfalso
        rcases List.mem_cons.1 q1 with q1 | q1
        · omega
        · have := hnd.1 p q1; omega
    obtain ⟨s2, h3, h4⟩ := move_front hmono hstep l1 (fun k => R k ∧ k ≠ j) s1 (hstep j R st s1 hg hj hDj hJ h1) hnd.2 (fun q => hi (List.mem_cons_of_mem _ q)) (fun k hk => ⟨⟨(hR k (List.mem_cons_of_mem _ hk)).1, fun e => by have := hnd.1 k hk; omega⟩, (hR k (List.mem_cons_of_mem _ hk)).2⟩) (fun k hk p hp => by
      rcases hpre k (List.mem_cons_of_mem _ hk) p hp with q | ⟨q1, q2⟩
      · exact .inl fun q' => q q'.1
      · rcases List.mem_cons.1 q1 with q1 | q1
        · exact .inl fun q' => q'.2 q1
        · exact .inr ⟨q1, q2⟩) ⟨hRi, hij⟩ (fun p hp q => hDi p hp q.1) (fun k hk => hsw k (List.mem_cons_of_mem _ hk)) h2
    obtain ⟨s1', q1, q2⟩ := hsw j (List.mem_cons_self ..) R st s1 s2 hj hRi hDj hDi hJ h1 h3
    exact ⟨s1', q1, s2, q2, h4⟩
theorem order_ok {ops : Array Oper} {V : Nat → St → St → Prop} {J : (Nat → Prop) → St → Prop} (hm : P.follows .mixedOrders = true) (hback : drBack ops = true) (hmono : ∀ (R R' : Nat → Prop) st, (∀ k, R' k → R k) → (∀ k, k < ops.size → R k → R' k) → J R st → J R' st)
    {Good : Nat → Prop} (n : Nat) (hgood : ∀ j, j < n → Good j) (hsl : ∀ j, n ≤ j → j < ops.size → ∀ k, k < j → k ∈ (preAll ops ops.size).getD j []) (hempty : ∀ st (R : Nat → Prop), (∀ k, R k → n ≤ k) → J R st)
    (hstep : ∀ j (R : Nat → Prop) st st1, Good j → R j → doneFor ops R j → J R st → V j st st1 → J (fun k => R k ∧ k ≠ j) st1)
    (hswap : ∀ i j x y (R : Nat → Prop) s s1 s2, i < j → ops[i]? = some x → ops[j]? = some y → i ∉ (preAll ops ops.size).getD j [] → R i → R j → doneFor ops R i → doneFor ops R j → J R s → V i s s1 → V j s1 s2 → ∃ s1', V j s s1' ∧ V i s1' s2)
    {st st' : St} (h0 : J (fun _ => True) st) (hev : runV V (List.range ops.size) st st') (t : Nat) : runV V (Region.schedule (P.follows .mixedOrders) ops t) st st' := by
  simp only [Region.schedule, hm, Bool.true_or, if_true]
  have hback : ∀ j o, ops[j]? = some o → ∀ e ∈ o.after, Region.binds .any e = true → e.on < j := by
    intro j o ho e he hb
    unfold drBack at hback
    rw [List.all_eq_true] at hback
    have hmem : (o, j) ∈ ops.toList.zipIdx := by
      rw [List.mem_zipIdx_iff_getElem?]
      simpa using ho
    have := Array.all_eq_true_iff_forall_mem.1 (hback _ hmem) e he
    simpa [hb] using this
  have main : ∀ (fuel t : Nat) (listed : Array Bool) (st : St), J (fun k => listed.getD k true = false) st → listed.size = ops.size → ((List.range ops.size).filter fun i => !listed.getD i true).length ≤ fuel →
      (∀ j o, listed.getD j false = true → ops[j]? = some o → ∀ e ∈ o.after, Region.binds .any e = true → listed.getD e.on false = true) →
      runV V ((List.range ops.size).filter fun i => !listed.getD i true) st st' → runV V (Region.linearise.go .any ops fuel t listed []) st st' := by
    intro fuel
    induction fuel with
    | zero =>
      intro t listed st hJ hsz hf hcl h
      have : ((List.range ops.size).filter fun i => !listed.getD i true) = [] := List.eq_nil_of_length_eq_zero (by omega)
      rw [this] at h
      simpa [Region.linearise.go] using h
    | succ fuel ih =>
      intro t listed st hJ hsz hf hcl h
      simp only [Region.linearise.go]
      change runV V (match (Region.ready .any ops listed)[t % (Region.ready .any ops listed).length]? with
        | some i => Region.linearise.go .any ops fuel (t / (Region.ready .any ops listed).length) (listed.setIfInBounds i true) [i]
        | none => [].reverse) st st'
      cases hi : (Region.ready .any ops listed)[t % (Region.ready .any ops listed).length]? with
      | none =>
        have hnil : Region.ready .any ops listed = [] := by
          cases hr : Region.ready .any ops listed with
          | nil => rfl
          | cons x xs =>
            rw [hr] at hi
            have hlt : t % (x :: xs).length < (x :: xs).length := Nat.mod_lt _ (by simp)
            simp at hi
            simp at hlt
            omega
        have hrem : ((List.range ops.size).filter fun i => !listed.getD i true) = [] := by
          -- the first that isn't listed would be ready
          cases hrr : ((List.range ops.size).filter fun i => !listed.getD i true) with
          | nil => rfl
          | cons x xs =>
            exfalso
            obtain ⟨n, hn, hmin⟩ := least (p := fun i => i < ops.size ∧ listed.getD i true = false) ⟨x, by
              have : x ∈ ((List.range ops.size).filter fun i => !listed.getD i true) := by rw [hrr]; simp
              simpa [List.mem_filter] using this⟩
            have ho : ops[n]? = some ops[n] := Array.getElem?_eq_getElem hn.1
            have : n ∈ Region.ready .any ops listed := mem_ready.2 ⟨hn.2, ops[n], ho, fun e he hb => by
              have hlt := hback n _ ho e he hb
              cases hx : listed.getD e.on false with
              | true => rfl
              | false =>
                exfalso
                have hlt' : e.on < listed.size := by omega
                have h2 : listed.getD e.on true = false := by simpa [Array.getD_eq_getD_getElem?, hlt'] using hx
                have := hmin e.on ⟨by omega, h2⟩
                omega⟩
            rw [hnil] at this
            cases this
        rw [hrem] at h
        simpa using h
      | some i =>
        have hir : i ∈ Region.ready .any ops listed := List.mem_of_getElem? hi
        obtain ⟨hun, o, ho, hall⟩ := mem_ready.1 hir
        have hlt : i < ops.size := (Array.getElem?_eq_some_iff.1 ho).1
        simp only []
        rw [linearise_go_acc, List.reverse_singleton, List.singleton_append]
        have hsplit : ∀ p : Nat → Bool, (List.range ops.size).filter p = (List.range i).filter p ++ ((List.range' i (ops.size - i)).filter p) := by
          intro p
          rw [← List.filter_append, List.range_eq_range', List.range_eq_range']
          have := List.range'_append_1 (s := 0) (m := i) (n := ops.size - i)
          rw [Nat.zero_add, Nat.add_sub_cancel' (Nat.le_of_lt hlt)] at this
          rw [this]
        have hsplit2 : List.range' i (ops.size - i) = i :: List.range' (i + 1) (ops.size - i - 1) := by
          have : ops.size - i = (ops.size - i - 1) + 1 := by omega
          rw [this, List.range'_succ]
          rfl
        rw [hsplit, hsplit2, List.filter_cons_of_pos (by simp [hun])] at h
        have hun' : listed.getD i true = false := by simpa using hun
        have hDi : doneFor ops (fun k => listed.getD k true = false) i := by
          intro p hp q
          have := pre_listed (Ls := fun j => listed.getD j false = true) hcl ops.size i o hlt ho hall p hp
          have hps : p < listed.size := by
            rcases Nat.lt_or_ge p listed.size with h | h
            · exact h
            · rw [Array.getD_eq_getD_getElem?, Array.getElem?_eq_none h] at q
              cases q
          simp [Array.getD_eq_getD_getElem?, hps] at this q
          rw [this] at q
          cases q
        obtain ⟨st1, h1, h2⟩ := move_front hmono hstep ((List.range i).filter fun k => !listed.getD k true) (fun k => listed.getD k true = false) st hJ (List.pairwise_lt_range.filter _) (fun q => by
            rw [List.mem_filter, List.mem_range] at q
            omega) (fun j hj => by
            rw [List.mem_filter, List.mem_range] at hj
            refine ⟨by simpa using hj.2, ?_⟩
            rcases Nat.lt_or_ge j n with q | q
            · exact hgood j q
            · exfalso
              have hju : listed.getD j true = false := by simpa using hj.2
              have := pre_listed (Ls := fun j => listed.getD j false = true) hcl ops.size i o hlt ho hall j (hsl i (by omega) hlt j hj.1)
              have hjs : j < listed.size := by omega
              simp [Array.getD_eq_getD_getElem?, hjs] at this hju
              rw [this] at hju
              cases hju) (fun j hj p hp => by
            rw [List.mem_filter, List.mem_range] at hj
            have hpj : p < j := pre_lt hback ops.size j p (by omega) hp
            cases hx : listed.getD p true with
            | true => exact .inl (by simp)
            | false => exact .inr ⟨List.mem_filter.2 ⟨List.mem_range.2 (by omega), by simp [hx]⟩, hpj⟩) hun' hDi (fun j hj R s s1 s2 r1 r2 d1 d2 hJs q1 q2 => by
          rw [List.mem_filter, List.mem_range] at hj
          obtain ⟨hji, hju⟩ := hj
          have hju : listed.getD j true = false := by simpa using hju
          have hoj : ops[j]? = some (ops[j]'(by omega)) := Array.getElem?_eq_getElem (by omega)
          refine hswap j i _ _ R s s1 s2 hji hoj ho (fun q => ?_) r1 r2 d1 d2 hJs q1 q2
          have := pre_listed (Ls := fun j => listed.getD j false = true) hcl ops.size i o hlt ho hall j q
          have hjs : j < listed.size := by omega
          simp [Array.getD_eq_getD_getElem?, hjs] at this hju
          rw [this] at hju
          cases hju) h
        have hrest : ((List.range ops.size).filter fun k => !(listed.setIfInBounds i true).getD k true) = (List.range i).filter (fun k => !listed.getD k true) ++ (List.range' (i + 1) (ops.size - i - 1)).filter (fun k => !listed.getD k true) := by
          rw [hsplit, hsplit2, List.filter_cons_of_neg (by simp [hsz, hlt])]
          congr 1
          · refine List.filter_congr fun k hk => ?_
            rw [List.mem_range] at hk
            rw [getD_set_ne true (by omega)]
          · refine List.filter_congr fun k hk => ?_
            rw [List.mem_range'_1] at hk
            rw [getD_set_ne true (by omega)]
        refine ⟨st1, h1, ?_⟩
        have hk0 : ∀ k, (listed.setIfInBounds i true).getD k true = false → listed.getD k true = false ∧ k ≠ i := fun k hk => by
          by_cases e : i = k
          · subst e
            exfalso
            simp [hsz, hlt] at hk
          · rw [getD_set_ne true e] at hk
            exact ⟨hk, fun q => e q.symm⟩
        have hJ1 : J (fun k => (listed.setIfInBounds i true).getD k true = false) st1 := by
          rcases Nat.lt_or_ge i n with hg | hg
          · exact hmono _ _ _ hk0 (fun k hk q => (getD_set_ne true (fun e => q.2 e.symm)).trans q.1) (hstep i _ st st1 (hgood i hg) hun' hDi hJ h1)
          · refine hempty st1 _ (fun k hk => Nat.le_of_not_lt fun hkn => ?_)
            obtain ⟨e1, e2⟩ := hk0 k hk
            have hks : k < listed.size := by
              rcases Nat.lt_or_ge k listed.size with h | h
              · exact h
              · rw [Array.getD_eq_getD_getElem?, Array.getElem?_eq_none h] at e1
                cases e1
            have := pre_listed (Ls := fun j => listed.getD j false = true) hcl ops.size i o hlt ho hall k (hsl i hg hlt k (by omega))
            simp [Array.getD_eq_getD_getElem?, hks] at this e1
            rw [this] at e1
            cases e1
        refine ih _ _ st1 hJ1 (by simp [hsz]) ?_ ?_ (by rw [hrest]; exact h2)
        · have : ((List.range ops.size).filter fun k => !listed.getD k true).length = ((List.range ops.size).filter fun k => !(listed.setIfInBounds i true).getD k true).length + 1 := by
            rw [hrest, hsplit, hsplit2, List.filter_cons_of_pos (by simp [hun])]
            simp
            omega
          omega
        · intro j oj hj hoj e he hb
          by_cases hij : i = j
          · subst hij
            rw [ho] at hoj
            injection hoj with hoj
            subst hoj
            exact getD_set_true (hall e he hb)
          · rw [getD_set_ne false hij] at hj
            exact getD_set_true (hcl j oj hj hoj e he hb)
  unfold Region.linearise
  refine main ops.size t (Array.replicate ops.size false) st (hmono _ _ _ (fun _ _ => trivial) (fun k hk _ => by simp [hk]) h0) (by simp) (by
    refine Nat.le_trans (List.length_filter_le _ _) ?_
    simp) (fun j o hj => ?_) ?_
  · exfalso
    rw [Array.getD_eq_getD_getElem?, Array.getElem?_replicate] at hj
    split at hj <;> cases hj
  · have : ((List.range ops.size).filter fun i => !(Array.replicate ops.size false).getD i true) = List.range ops.size := by
      rw [List.filter_eq_self]
      intro i hi
      rw [List.mem_range] at hi
      simp [hi]
    rw [this]
    exact hev
