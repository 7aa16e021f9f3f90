/- The machine over plain data: drawn regions. -/
import Derived.Test.YtakbdjdafcjglaaGreatDoorDm16D
namespace Go.Proofs.YtakbdjdafcjglaaGreatDoor.Dm
set_option linter.unusedSectionVars false
open Go.RowKit
set_option linter.unusedVariables false
set_option linter.unusedSimpArgs false
variable [Cfg] {P : Program} {st st' st1 : St} {o : Oper} {d : Dv}

theorem runV_mono {V V' : Nat → St → St → Prop} : ∀ (l : List Nat) (s s' : St), (∀ i ∈ l, ∀ a b, V i a b → V' i a b) → runV V l s s' → runV V' l s s'
  | [], s, s', _, h => h
  | i :: l, s, s', hv, ⟨s1, h1, h2⟩ => ⟨s1, hv i (List.mem_cons_self ..) _ _ h1, runV_mono l s1 s' (fun j hj => hv j (List.mem_cons_of_mem _ hj)) h2⟩
/-- the steps of a region, each with what it meets -/
def VF (call : CallF) (P : Program) (ops : Array Oper) (n : Nat) (F : Nat → Fp) (i : Nat) (s s1 : St) : Prop := op1 call P ops i s = some s1 ∧ ∀ o, ops[i]? = some o → i < n → fpG ops P o s = some (F i)
theorem run_evalL {call : CallF} {ops : Array Oper} {n : Nat} {F : Nat → Fp} : ∀ (l : List Nat) (s s' : St), runV (VF call P ops n F) l s s' → evalL call P ops l s = some s'
  | [], s, s', h => by
    have h : s = s' := h
    subst h; rfl
  | i :: l, s, s', ⟨s1, h1, h2⟩ => by
    simp only [evalL, h1.1, Option.bind_some]
    exact run_evalL l s1 s' h2
theorem indep_nil (f : Fp) : indep f ([], []) = true := by
  unfold indep disjN
  simp
theorem nil_indep (f : Fp) : indep ([], []) f = true := by
  unfold indep disjN
  simp
theorem evalO_run {call : CallF} {ops : Array Oper} {n : Nat} {F : Nat → Fp} : ∀ (l : List Oper) (i : Nat) (st st' : St), n ≤ i → ops.toList.drop i = l → evalO call P ops l st = some st' → runV (VF call P ops n F) (List.range' i l.length) st st'
  | [], i, st, st', _, _, h => by
    simp only [evalO] at h
    injection h
  | o :: l, i, st, st', hn, hl, h => by
    simp only [evalO] at h
    obtain ⟨s1, h1, h2⟩ := Option.bind_eq_some_iff.1 h
    have ho : ops[i]? = some o := by
      have : ops.toList[i]? = some o := by
        have := congrArg (fun l => l[0]?) hl
        simpa using this
      simpa using this
    have hl' : ops.toList.drop (i + 1) = l := by
      have := congrArg List.tail hl
      rw [List.tail_drop] at this
      simpa using this
    rw [List.length_cons, List.range'_succ]
    refine ⟨s1, ⟨by unfold op1; rw [ho]; exact h1, fun _ _ q => by omega⟩, evalO_run l (i + 1) s1 st' (by omega) hl' h2⟩
theorem evalD_run {R : Type} {call : CallF} {ops : Array Oper} {n : Nat} {k : St → Option R} {r : R} : ∀ (l : List Oper) (i : Nat) (lg : List (Nat × Fp)) (st : St), ops.toList.drop i = l → evalD call P ops n i lg l st k = some r →
    ∃ (F : Nat → Fp) (st' : St), k st' = some r ∧ runV (VF call P ops n F) (List.range' i l.length) st st' ∧ (∀ j, i ≤ j → j < n → ∀ q ∈ lg, q.1 ∈ (preAll ops ops.size).getD j [] ∨ indep q.2 (F j) = true) ∧
      ∀ a b, i ≤ a → a < b → b < n → a ∈ (preAll ops ops.size).getD b [] ∨ indep (F a) (F b) = true
  | [], i, lg, st, hl, h => ⟨fun _ => ([], []), st, h, rfl, fun j _ _ q _ => .inr (indep_nil _), fun a b _ _ _ => .inr (indep_nil _)⟩
  | o :: l, i, lg, st, hl, h => by
    have ho : ops[i]? = some o := by
      have : ops.toList[i]? = some o := by
        have := congrArg (fun l => l[0]?) hl
        simpa using this
      simpa using this
    have hl' : ops.toList.drop (i + 1) = l := by
      have := congrArg List.tail hl
      rw [List.tail_drop] at this
      simpa using this
    -- one step ahead of a run
    have glue : ∀ (f : Fp) (lg' : List (Nat × Fp)) (st1 : St), opS call P ops o st = some st1 → (i < n → fpG ops P o st = some f) → (∀ q ∈ lg, q.1 ∈ (preAll ops ops.size).getD i [] ∨ indep q.2 f = true) → (∀ q ∈ lg, q ∈ lg') → (f = ([], []) ∨ (i, f) ∈ lg') →
        (∃ (F : Nat → Fp) (st' : St), k st' = some r ∧ runV (VF call P ops n F) (List.range' (i + 1) l.length) st1 st' ∧ (∀ j, i + 1 ≤ j → j < n → ∀ q ∈ lg', q.1 ∈ (preAll ops ops.size).getD j [] ∨ indep q.2 (F j) = true) ∧
          ∀ a b, i + 1 ≤ a → a < b → b < n → a ∈ (preAll ops ops.size).getD b [] ∨ indep (F a) (F b) = true) →
        ∃ (F : Nat → Fp) (st' : St), k st' = some r ∧ runV (VF call P ops n F) (List.range' i (o :: l).length) st st' ∧ (∀ j, i ≤ j → j < n → ∀ q ∈ lg, q.1 ∈ (preAll ops ops.size).getD j [] ∨ indep q.2 (F j) = true) ∧
          ∀ a b, i ≤ a → a < b → b < n → a ∈ (preAll ops ops.size).getD b [] ∨ indep (F a) (F b) = true := by
      rintro f lg' st1 hop hfp hok hsub hf ⟨F, st', q1, q2, q3, q4⟩
      obtain ⟨F2, g0, g1⟩ : ∃ F2 : Nat → Fp, F2 i = f ∧ ∀ j, j ≠ i → F2 j = F j := ⟨fun j => if j = i then f else F j, if_pos rfl, fun j h => if_neg h⟩
      refine ⟨F2, st', q1, ?_, fun j hij hjn q hq => ?_, fun a b ha hab hb => ?_⟩
      · rw [List.length_cons, List.range'_succ]
        refine ⟨st1, ⟨by unfold op1; rw [ho]; exact hop, fun o' ho' hin => ?_⟩, runV_mono _ _ _ (fun j hj a b hv => ⟨hv.1, fun o' ho' hjn => ?_⟩) q2⟩
        · rw [ho] at ho'; injection ho' with ho'; subst ho'
          rw [g0]; exact hfp hin
        · rw [List.mem_range'_1] at hj
          rw [g1 j (by omega)]
          exact hv.2 o' ho' hjn
      · by_cases e : j = i
        · subst e; rw [g0]; exact hok q hq
        · rw [g1 j e]; exact q3 j (by omega) hjn q (hsub q hq)
      · by_cases e : a = i
        · subst e
          rw [g0, g1 b (by omega)]
          rcases hf with rfl | hf
          · exact .inr (nil_indep _)
          · exact q3 b (by omega) hb _ hf
        · rw [g1 a e, g1 b (by omega)]
          exact q4 a b (by omega) hab hb
    unfold evalD at h
    cases hb : Nat.ble n i with
    | true =>
      rw [hb, cond_true, evalOps_eq] at h
      obtain ⟨st', h1, h2⟩ := Option.bind_eq_some_iff.1 h
      have hni := Nat.le_of_ble_eq_true hb
      exact ⟨fun _ => ([], []), st', h2, evalO_run (o :: l) i st st' hni hl h1, fun j _ _ q _ => .inr (indep_nil _), fun a b _ _ _ => .inr (indep_nil _)⟩
    | false =>
      rw [hb, cond_false] at h
      have stepK : (∀ st0 : St, st0 = st → (match fpK P o st0 with
          | some f => bif okLog ops i lg f then stepOp call P o st0 fun d st' => evalD call P ops n (i + 1) ((i, f) :: lg) l (st'.put o.dst d) k else none
          | none => none) = some r → (stp call P o st = opS call P ops o st) → (fpK P o st = fpG ops P o st) → ∃ (F : Nat → Fp) (st' : St), k st' = some r ∧ runV (VF call P ops n F) (List.range' i (o :: l).length) st st' ∧ (∀ j, i ≤ j → j < n → ∀ q ∈ lg, q.1 ∈ (preAll ops ops.size).getD j [] ∨ indep q.2 (F j) = true) ∧
          ∀ a b, i ≤ a → a < b → b < n → a ∈ (preAll ops ops.size).getD b [] ∨ indep (F a) (F b) = true) := by
        intro st0 e hh e1 e2
        subst e
        split at hh
        · rename_i f hf
          cases hx : okLog ops i lg f with
          | false => rw [hx] at hh; cases hh
          | true =>
            rw [hx, cond_true, stepOp_bind] at hh
            obtain ⟨q, h1, h2⟩ := Option.bind_eq_some_iff.1 hh
            refine glue f ((i, f) :: lg) (q.2.put o.dst q.1) (by rw [← e1]; unfold stp; rw [h1]; rfl) (fun _ => by rw [← e2]; exact hf) (fun q hq => ?_) (fun q hq => List.mem_cons_of_mem _ hq) (.inr (List.mem_cons_self ..)) (evalD_run l (i + 1) _ _ hl' h2)
            have := List.all_eq_true.1 hx q hq
            simpa using this
        · cases hh
      have skip : evalD call P ops n (i + 1) lg l (st.put o.dst nix) k = some r → opS call P ops o st = some (st.put o.dst nix) → fpG ops P o st = some ([], []) → ∃ (F : Nat → Fp) (st' : St), k st' = some r ∧ runV (VF call P ops n F) (List.range' i (o :: l).length) st st' ∧ (∀ j, i ≤ j → j < n → ∀ q ∈ lg, q.1 ∈ (preAll ops ops.size).getD j [] ∨ indep q.2 (F j) = true) ∧
          ∀ a b, i ≤ a → a < b → b < n → a ∈ (preAll ops ops.size).getD b [] ∨ indep (F a) (F b) = true := fun h e1 e2 =>
        glue ([], []) lg _ e1 (fun _ => e2) (fun q _ => .inr (indep_nil _)) (fun q hq => hq) (.inl rfl) (evalD_run l (i + 1) _ _ hl' h)
      cases hgd : o.guard with
      | none =>
        simp only [hgd] at h
        exact stepK st rfl h (by unfold opS; rw [hgd]; rfl) (by unfold fpG; rw [hgd])
      | some jw =>
        obtain ⟨j, want⟩ := jw
        simp only [hgd] at h
        cases hgs : gslot ops j with
        | none => simp only [hgs] at h; cases h
        | some g =>
          simp only [hgs] at h
          split at h
          · rename_i b hbv
            have e3 : st.put (some g) (.p (.bool b)) = st := put_same hbv
            have e4 : b = want → stp call P o st = opS call P ops o st := fun e => by
              unfold opS; simp only [hgd, hgs, hbv, if_pos e]; rfl
            have e5 : b = want → fpK P o st = fpG ops P o st := fun e => by
              unfold fpG; simp only [hgd, hgs, hbv, if_pos e]
            have e6 : b ≠ want → opS call P ops o st = some (st.put o.dst nix) := fun e => by
              unfold opS; simp only [hgd, hgs, hbv, if_neg e]
            have e7 : b ≠ want → fpG ops P o st = some ([], []) := fun e => by
              unfold fpG; simp only [hgd, hgs, hbv, if_neg e]
            cases b <;> cases want <;> simp only [cond_true, cond_false] at h
            · exact stepK _ e3 h (e4 rfl) (e5 rfl)
            · rw [e3] at h
              exact skip h (e6 (by simp)) (e7 (by simp))
            · rw [e3] at h
              exact skip h (e6 (by simp)) (e7 (by simp))
            · exact stepK _ e3 h (e4 rfl) (e5 rfl)
          · rename_i hbv
            exact skip h (by unfold opS; simp only [hgd, hgs, hbv]) (by unfold fpG; simp only [hgd, hgs, hbv])
          · cases h

/-! ### what is kept while a region runs -/
theorem statC_get {ops : Array Oper} {n k : Nat} (h : statC ops n = true) (hk : k < n) (ho : ops[k]? = some o) : statO ops n k o = true := by
  have := List.all_eq_true.1 h k (List.mem_range.2 hk)
  rw [ho] at this
  exact this
theorem statO_z {ops : Array Oper} {n k j : Nat} {z : Oper} (h : statO ops n k o = true) (hm : isMk o = true) (hj : j < n) (hz : ops[j]? = some z) (hne : j ≠ k) :
    (z.dst = some (nmOf o) → isBo z = true ∧ isBS z = true ∧ (appOf o).isSome = true ∧ j ∈ (preAll ops ops.size).getD k []) ∧ ((appOf o).isSome = true → nmOf o ∉ z.looksAt ops) := by
  unfold statO at h
  simp only [Bool.and_eq_true, Bool.or_eq_true, hm, Bool.not_true, Bool.false_eq_true, false_or] at h
  have h1 := List.all_eq_true.1 h.1 j (List.mem_range.2 hj)
  rw [hz] at h1
  simp only [Bool.or_eq_true, beq_iff_eq] at h1
  have h1 := h1.resolve_left hne
  unfold statZ at h1
  simp only [Bool.and_eq_true, Bool.or_eq_true, bne_iff_ne, ne_eq, List.contains_iff_mem, Bool.not_eq_true', List.contains_eq_mem, decide_eq_true_eq, decide_eq_false_iff_not] at h1
  refine ⟨fun q => ?_, fun q => ?_⟩
  · obtain ⟨p1, p2, p3, p4⟩ := h1.1.resolve_left fun q' => q' q
    exact ⟨p1, p2, p3, p4⟩
  · refine h1.2.resolve_left fun q' => ?_
    cases e : appOf o <;> simp [e] at q q'
theorem app_looks {ops : Array Oper} (h : (appOf o).isSome = true) : nmOf o ∈ o.looksAt ops := by
  obtain ⟨⟨a, d⟩, e⟩ := Option.isSome_iff_exists.1 h
  obtain ⟨c, y, ho, _, _, hcl, hargs, _⟩ := appOf_inv e
  rw [nmOf_app e]
  refine List.mem_append_left _ (List.mem_filterMap.2 ⟨.tmp a, ?_, rfl⟩)
  exact args_mem ho (by rw [hargs]; simp)
theorem Clean.setud {m : Nm} (h : Clean m st) (a : Nat) : Clean m ⟨st.T.set a ud, st.L, st.O⟩ := ⟨fun j => by
  show mentD m ((st.T.set a ud).getD j ud) = false
  rw [Tm.getD_set]
  split
  · split <;> rfl
  · exact h.T j, h.L, h.O⟩
theorem mk_bo (hm : isMk o = true) (ha : appOf o = none) : isBo o = true := by
  unfold isMk at hm
  rw [ha] at hm
  simpa using hm
/-- what is found stays where others work -/
theorem PreM.keep_ {call : CallF} {ops : Array Oper} {f : Fp} {z : Oper} (hm : isMk o = true) (h : PreM o st) (hsz : nmOf o < st.L.length) (hpz : Pre z st) (hf : fpG ops P z st = some f) (hz : opS call P ops z st = some st1)
    (n1 : nmOf o ∉ wtO z) (n2 : isMk z = true → nmOf z ≠ nmOf o) (n3 : (appOf o).isSome = true → nmOf o ∉ z.looksAt ops) : PreM o st1 := by
  obtain ⟨k, e1, e2⟩ := locG hf hpz hz
  have hne : isMk z = true → Nm.loc (nmOf o) ≠ .loc (nmOf z) := fun q e => by injection e with e; exact n2 q e.symm
  have hoff : ∀ b, offN st.L.length b (.loc (nmOf o)) := fun b s e => by injection e with e; subst e; exact .inl hsz
  cases ha : appOf o with
  | none =>
    unfold PreM at h ⊢
    rw [ha] at h ⊢
    dsimp only at h ⊢
    intro s hd
    have hs : nmOf o = s := nmOf_bo (mk_bo hm ha) hd
    subst hs
    exact e1.cl _ (h _ hd) hne (hoff k)
  | some q =>
    obtain ⟨a, d⟩ := q
    have hn := nmOf_app ha
    have n3 := n3 (by rw [ha]; rfl)
    unfold PreM at h ⊢
    rw [ha] at h ⊢
    dsimp only at h ⊢
    rw [hn] at hsz n1 n2 n3 hne hoff
    have hw : Nm.loc a ∉ f.2 := fun q => by
      rcases e1.wr _ q with ⟨q1, q2⟩ | ⟨q1, _⟩
      · exact hne q1 q2
      · obtain ⟨e, s, b, ro, es, hl⟩ := h.l
        have : getOb st.L st.O (.loc a) = .arr e s b ro es := hl
        rw [this] at q1
        cases q1
    have hl1 : getOb st1.L st1.O (.loc a) = getOb st.L st.O (.loc a) := e1.ch.b _ hw (hoff k)
    refine ⟨(e1.ch.t a n1).trans h.t, ?_, ?_⟩
    · obtain ⟨e, s, b, ro, es, hl⟩ := h.l
      exact ⟨e, s, b, ro, es, hl1.trans hl⟩
    · -- z where the row is not named at all
      have hp' : Pre z ⟨st.T.set a ud, st.L, st.O⟩ := by
        refine ⟨fun q s hs => (hpz.fr q s hs).setud a, fun q => ?_⟩
        obtain ⟨p1, p2, p3⟩ := hpz.ma q
        refine ⟨p1, p2, ?_⟩
        cases hz' : appOf z with
        | none =>
          unfold PreM at p3 ⊢
          rw [hz'] at p3 ⊢
          exact fun s hd => (p3 s hd).setud a
        | some q' =>
          obtain ⟨b, d'⟩ := q'
          have hb : b ≠ a := by rw [← nmOf_app hz']; exact n2 q
          unfold PreM at p3 ⊢
          rw [hz'] at p3 ⊢
          dsimp only at p3 ⊢
          refine ⟨?_, p3.l, ?_⟩
          · show (st.T.set a ud).getD b ud = _
            rw [Tm.getD_set, if_neg (fun e => hb e.symm)]
            exact p3.t
          · have := Clean.setud p3.x a
            show Clean (.loc b) ⟨(st.T.set a ud).set b ud, st.L, st.O⟩
            rw [Tm.set_comm _ _ _ (fun e => hb e.symm)]
            exact this
      obtain ⟨s1', b1, b2, b3, b4⟩ := e2 ⟨st.T.set a ud, st.L, st.O⟩ ⟨rfl, fun t ht => by
        show (st.T.set a ud).getD t ud = _
        rw [Tm.getD_set, if_neg (fun e => n3 (by rw [e]; exact ht))], fun _ _ => rfl, fun _ => rfl⟩ hp'
      have hc := b3.cl _ h.x hne (hoff k)
      show Clean (.loc a) ⟨st1.T.set a ud, st1.L, st1.O⟩
      rw [clean_iff] at hc ⊢
      refine ⟨fun j => ?_, fun n' => ?_⟩
      · show mentD _ ((st1.T.set a ud).getD j ud) = false
        rw [Tm.getD_set]
        split
        · split <;> rfl
        · rename_i hj
          by_cases hjw : j ∈ wtO z
          · rw [← b4.t j hjw]; exact hc.1 j
          · have q1 := hc.1 j
            rw [b3.ch.t j hjw] at q1
            have q2 : (st.T.set a ud).getD j ud = st.T.getD j ud := by rw [Tm.getD_set, if_neg hj]
            rw [e1.ch.t j hjw, ← q2]
            exact q1
      · show mentOb _ (getOb st1.L st1.O n') = false
        by_cases hw' : n' ∈ f.2
        · rw [← b4.b n' hw']; exact hc.2 n'
        · by_cases hn' : offN st.L.length k n'
          · have q1 := hc.2 n'
            rw [b3.ch.b n' hw' hn'] at q1
            rw [e1.ch.b n' hw' hn']
            exact q1
          · have : ∃ i, n' = .loc i ∧ st.L.length ≤ i ∧ i < st.L.length + k := by
              cases n' with
              | out i => exact absurd (fun i e => by cases e) hn'
              | loc i =>
                refine ⟨i, rfl, ?_⟩
                rcases Nat.lt_or_ge i st.L.length with h | h
                · exact absurd (fun j e => by injection e with e; subst e; exact .inl h) hn'
                · rcases Nat.lt_or_ge i (st.L.length + k) with h' | h'
                  · exact ⟨h, h'⟩
                  · exact absurd (fun j e => by injection e with e; subst e; exact .inr h') hn'
            obtain ⟨i, rfl, h1, h2⟩ := this
            rw [← b4.w i h1 h2]
            exact hc.2 _
def JP (ops : Array Oper) (n N M : Nat) (A : Prop) (R : Nat → Prop) (st : St) : Prop := (∃ k, R k ∧ k < n) → st.T.n = N ∧ M ≤ st.L.length ∧ (A → Fresh st) ∧
  ∀ k o, R k → k < n → ops[k]? = some o → isMk o = true → (∀ b z, b < n → ops[b]? = some z → isBo z = true → z.dst = some (nmOf o) → b ≠ k → ¬ R b) → PreM o st
/-- what is ready finds what it needs -/
theorem JP.pre {ops : Array Oper} {n N M : Nat} {A : Prop} {R : Nat → Prop} (hst : statC ops n = true) (hsz : ∀ k o, k < n → ops[k]? = some o → isMk o = true → nmOf o < N ∧ nmOf o < M) (hA : ∀ k o, k < n → ops[k]? = some o → ownO o = true → A)
    (h : JP ops n N M A R st) {k : Nat} (hR : R k) (hk : k < n) (hD : doneFor ops R k) (ho : ops[k]? = some o) : Pre o st := by
  obtain ⟨h1, h2, h3, h4⟩ := h ⟨k, hR, hk⟩
  refine ⟨fun q => h3 (hA k o hk ho q), fun hm => ⟨by rw [h1]; exact (hsz k o hk ho hm).1, Nat.lt_of_lt_of_le (hsz k o hk ho hm).2 h2, ?_⟩⟩
  exact h4 k o hR hk ho hm fun b z hb hz hbo hd hne => hD b ((statO_z (statC_get hst hk ho) hm hb hz hne).1 hd).2.2.2
theorem JP.step {call : CallF} {ops : Array Oper} {n N M : Nat} {A : Prop} (hst : statC ops n = true) (hsz : ∀ k o, k < n → ops[k]? = some o → isMk o = true → nmOf o < N ∧ nmOf o < M) (hA : ∀ k o, k < n → ops[k]? = some o → ownO o = true → A)
    {R : Nat → Prop} {j : Nat} {oj : Oper} {f : Fp} (hj : j < n) (hRj : R j) (hD : doneFor ops R j) (hJ : JP ops n N M A R st) (hoj : ops[j]? = some oj) (hf : fpG ops P oj st = some f) (h : opS call P ops oj st = some st1) : JP ops n N M A (fun k => R k ∧ k ≠ j) st1 := by
  have hpj := hJ.pre hst hsz hA hRj hj hD hoj
  obtain ⟨g1, g2, g3, g4⟩ := hJ ⟨j, hRj, hj⟩
  obtain ⟨kk, e1, _⟩ := locG hf hpj h
  rintro -
  refine ⟨e1.ch.n.trans g1, by rw [e1.ch.l]; omega, fun a s hs => ?_, fun k o hRk hk ho hm hprem => ?_⟩
  · rw [e1.ch.l] at hs
    refine e1.cl _ (g3 a s (by omega)) (fun q e => ?_) (fun i e => by injection e with e; subst e; exact .inr hs)
    injection e with e
    have := (hpj.ma q).2.1
    omega
  · obtain ⟨hRk, hkj⟩ := hRk
    have hsj := statC_get hst hj hoj
    have hz := statO_z (statC_get hst hk ho) hm hj hoj fun e => hkj e.symm
    by_cases hAc : isBo oj = true ∧ oj.dst = some (nmOf o)
    · obtain ⟨p1, p2, p3, p4⟩ := hz.1 hAc.2
      have hmj : isMk oj = true := by unfold isMk; rw [p1]; rfl
      have hnm : nmOf oj = nmOf o := nmOf_bo p1 hAc.2
      obtain ⟨⟨a, d⟩, ea⟩ := Option.isSome_iff_exists.1 p3
      obtain ⟨_, s', hd', hg'⟩ := isBo_inv p1
      have hop : stp call P oj st = some st1 := by
        have := h
        unfold opS at this
        rw [hg'] at this
        exact this
      have hfk : fpK P oj st = some f := by
        unfold fpG at hf
        rw [hg'] at hf
        exact hf
      have hq : quietOK P oj st = true := by
        cases hq : quietOK P oj st with
        | true => rfl
        | false =>
          exfalso
          have hno : ownO oj = false := by
            cases h : ownO oj with
            | false => rfl
            | true => rw [(own_look (P := P) h).1] at hmj; cases hmj
          obtain ⟨hopc, _⟩ := isBo_inv p1
          have hs0 : storeN P oj st = none := by
            unfold storeN
            rcases hopc with ⟨t, len, ps, h⟩ | ⟨t, h⟩ <;> rw [h]
          have hc0 : callN P oj st = none := by
            unfold callN
            rcases hopc with ⟨t, len, ps, h⟩ | ⟨t, h⟩ <;> rw [h]
          unfold fpK at hfk
          rw [hno, hs0, hc0, hq] at hfk
          cases hfk
      obtain ⟨dj, vj, hdj, _, _, _, hvj, hB⟩ := mk_eff (P := P) (call := call) hmj
      obtain ⟨ob, hob, e2, _⟩ := hB st st1 (hpj.ma hmj).2.2 hq hop
      obtain ⟨q1, q2, q3⟩ := hob.2 p2
      have hc : Clean (.loc (nmOf o)) st := by
        have := (hpj.ma hmj).2.2
        unfold PreM at this
        rw [appOf_none p1] at this
        exact this _ hAc.2
      obtain ⟨s1, s2, _⟩ := hpj.ma hmj
      have hna := nmOf_app ea
      unfold PreM
      rw [ea]
      dsimp only
      rw [e2]
      subst q1
      rw [hnm, hna] at s1 s2
      rw [hna] at hc
      rw [q2, hnm, hna]
      refine ⟨?_, ?_, ?_⟩
      · show ((st.T.set a ud).set a _).getD a ud = _
        rw [Tm.getD_set, if_pos rfl, if_pos (by show a < st.T.n; omega)]
      · obtain ⟨e2, e3, e4, e5, e6, q⟩ := q3
        refine ⟨e2, e3, e4, e5, e6, ?_⟩
        show (st.L.set a ob).getD a .none = _
        rw [List.getD_eq_getElem?_getD, List.getElem?_set_self (by omega), ← q]
        rfl
      · have h0 := hc.excl
        refine ⟨fun i => ?_, fun o' hm' => ?_, h0.O⟩
        · show mentD _ ((((st.T.set a ud).set a _).set a ud).getD i ud) = false
          rw [Tm.set_set, Tm.set_set]
          exact h0.T i
        · rcases List.mem_or_eq_of_mem_set hm' with q | q
          · exact hc.L o' q
          · rw [q]; exact hob.1 _
    · have hp : PreM o st := g4 k o hRk hk ho hm fun b z hb hbz hbo hd hne hRb => hprem b z hb hbz hbo hd hne ⟨hRb, fun e => by
        subst e
        rw [hoj] at hbz; injection hbz with hbz; subst hbz
        exact hAc ⟨hbo, hd⟩⟩
      have n0 : oj.dst ≠ some (nmOf o) := fun e => hAc ⟨(hz.1 e).1, e⟩
      have n2 : isMk oj = true → nmOf oj ≠ nmOf o := by
        intro hmj e
        cases hao : appOf o with
        | some q =>
          cases haj : appOf oj with
          | some q' =>
            have := hz.2 (by rw [hao]; rfl)
            rw [← e] at this
            exact this (app_looks (by rw [haj]; rfl))
          | none =>
            have hb := mk_bo hmj haj
            obtain ⟨_, s, hd, _⟩ := isBo_inv hb
            rw [nmOf_bo hb hd] at e
            exact n0 (by rw [hd, e])
        | none =>
          have hb := mk_bo hm hao
          obtain ⟨_, s, hd, _⟩ := isBo_inv hb
          cases haj : appOf oj with
          | some q' =>
            have hz' := statO_z hsj hmj hk ho hkj
            have := (hz'.1 (by rw [hd, e, nmOf_bo hb hd])).2.2.2
            exact hD k this hRk
          | none =>
            have hb' := mk_bo hmj haj
            obtain ⟨_, s', hd', _⟩ := isBo_inv hb'
            rw [nmOf_bo hb' hd'] at e
            exact n0 (by rw [hd', e])
      have n1 : nmOf o ∉ wtO oj := by
        intro q
        unfold wtO at q
        rcases List.mem_append.1 q with q | q
        · split at q
          · rename_i a d' e
            rw [List.mem_singleton] at q
            refine n2 ?_ ?_
            · unfold isMk; rw [e]; simp
            · rw [nmOf_app e, q]
          · cases q
        · exact n0 (by simpa using q)
      exact hp.keep_ hm (Nat.lt_of_lt_of_le (hsz k o hk ho hm).2 g2) hpj hf h n1 n2 hz.2
theorem apart_get {ops : Array Oper} {n : Nat} (h : apartAll ops n = true) {i j : Nat} {x y : Oper} (hij : i < j) (hjn : j < n) (hx : ops[i]? = some x) (hy : ops[j]? = some y) (hn : i ∉ (preAll ops ops.size).getD j []) : x.apart ops y = true ∧ (ownO x = false ∨ ownO y = false) := by
  have h1 := List.all_eq_true.1 (List.all_eq_true.1 h j (List.mem_range.2 hjn)) i (List.mem_range.2 hij)
  simp only [hx, hy, Bool.or_eq_true, List.contains_iff_mem, Bool.and_eq_true, Bool.not_eq_true', Bool.and_eq_false_iff] at h1
  exact h1.resolve_left hn
theorem tailM_sealed (ops : Array Oper) : ∀ m, tailM ops m = 0 ∨ sealed ops (tailM ops m) = true
  | 0 => .inl rfl
  | m + 1 => by
    unfold tailM
    cases h : sealed ops (m + 1) with
    | true => right; rw [cond_true]; exact h
    | false => rw [cond_false]; exact tailM_sealed ops m
theorem own_app_ops {ops : Array Oper} {n k : Nat} (hk : k < n) (ho : ops[k]? = some o) : o ∈ ops.toList.take n := by
  have : (ops.toList.take n)[k]? = some o := by rw [List.getElem?_take, if_pos hk]; simpa using ho
  exact List.mem_of_getElem? this
/-- WHERE AN ORDER IS DRAWN, EACH ORDER COMES TO THE SAME. -/
theorem drS_ok (hm : P.follows .mixedOrders = true) : DrOK P := by
  intro R call ops st k r hdr h
  unfold drS at hdr
  simp only [Bool.and_eq_true, Bool.or_eq_true, Bool.not_eq_true'] at hdr
  obtain ⟨hb, hap, hst, hcl, hsf, hun⟩ := hdr
  have hn : ∀ j, tailN ops ≤ j → j < ops.size → ∀ k, k < j → k ∈ (preAll ops ops.size).getD j [] := by
    intro j hj hjs k hk
    unfold tailN at hj
    rcases tailM_sealed ops 12 with q | hse
    · omega
    · unfold sealed at hse
      have e : ops.size - 1 - (ops.size - 1 - j) = j := by omega
      have := List.all_eq_true.1 (List.all_eq_true.1 hse (ops.size - 1 - j) (List.mem_range.2 (by omega))) k (List.mem_range.2 (by omega))
      rw [e] at this
      simpa using this
  generalize tailN ops = n at *
  have hsz : ∀ k o, k < n → ops[k]? = some o → isMk o = true → nmOf o < st.T.n ∧ nmOf o < st.L.length := by
    intro k o hk ho hmk
    have := List.all_eq_true.1 hsf o (own_app_ops hk ho)
    rw [hmk] at this
    simpa using this
  have hA : ∀ k o, k < n → ops[k]? = some o → ownO o = true → ((ops.toList.take n).any ownO) = true := fun k o hk ho q => List.any_eq_true.2 ⟨o, own_app_ops hk ho, q⟩
  obtain ⟨F, st', q1, q2, _, q4⟩ := evalD_run ops.toList 0 [] st (by simp) h
  refine ⟨st', q1, fun t => ?_⟩
  have base : JP ops n st.T.n st.L.length (((ops.toList.take n).any ownO) = true) (fun _ => True) st := by
    rintro -
    refine ⟨rfl, Nat.le_refl _, fun a => ?_, fun k o _ hkn ho hmk hprem => ?_⟩
    · rcases hun with q | q
      · rw [a] at q; cases q
      · exact fresh_of q
    · cases ha : appOf o with
      | some q =>
        exfalso
        have hso := statC_get hst hkn ho
        unfold statO at hso
        simp only [Bool.and_eq_true, Bool.or_eq_true, hmk, ha, Bool.not_true, Bool.false_eq_true, false_or, Option.isNone_some, List.any_eq_true] at hso
        obtain ⟨j, hj1, hj2, hj3⟩ := hso.2
        have hjn := List.mem_range.1 hj1
        cases hz : ops[j]? with
        | none => rw [hz] at hj3; cases hj3
        | some z =>
          rw [hz] at hj3
          simp only [Bool.and_eq_true, beq_iff_eq, bne_iff_ne, ne_eq] at hj2 hj3
          exact hprem j z hjn hz hj3.1 hj3.2 hj2 trivial
      | none =>
        unfold PreM
        rw [ha]
        intro s hd
        have hbo := mk_bo hmk ha
        have := List.all_eq_true.1 hcl o (own_app_ops hkn ho)
        rw [hbo, hd] at this
        exact clean_of (by simpa using this)
  have hrun : runV (VF call P ops n F) (List.range ops.size) st st' := by
    rw [List.range_eq_range']
    have := q2
    rw [show ops.toList.length = ops.size by simp] at this
    exact this
  refine run_evalL _ _ _ (order_ok (V := VF call P ops n F) (J := JP ops n st.T.n st.L.length (((ops.toList.take n).any ownO) = true)) (Good := fun j => j < n ∨ ops.size ≤ j) hm hb (fun R R' st h1 h2 hJ hk => ?_) n (fun j hj => .inl hj) hn (fun st R h hk => ?_) (fun j R s s1 hg hRj hD hJ hV => ?_) (fun i j x y R s s1 s2 hij hx hy hn' ri rj di dj hJ v1 v2 => ?_) base hrun t)
  · obtain ⟨k, hk1, hk2⟩ := hk
    obtain ⟨p1, p2, p3, p4⟩ := hJ ⟨k, h1 k hk1, hk2⟩
    refine ⟨p1, p2, p3, fun k o hk hkn ho hmk hprem => p4 k o (h1 k hk) hkn ho hmk fun b z hb' hz hbo hd hne hRb => ?_⟩
    exact hprem b z hb' hz hbo hd hne (h2 b (Array.getElem?_eq_some_iff.1 hz).1 hRb)
  · obtain ⟨k, hk1, hk2⟩ := hk
    exact absurd hk2 (Nat.not_lt.2 (h k hk1))
  · obtain ⟨v1, v2⟩ := hV
    unfold op1 at v1
    cases hoj : ops[j]? with
    | none =>
      rw [hoj] at v1
      injection v1 with v1
      subst v1
      rintro ⟨k, hk, hkn⟩
      obtain ⟨p1, p2, p3, p4⟩ := hJ ⟨k, hk.1, hkn⟩
      refine ⟨p1, p2, p3, fun k o hk hkn ho hmk hprem => p4 k o hk.1 hkn ho hmk fun b z hb' hz hbo hd hne hRb => hprem b z hb' hz hbo hd hne ⟨hRb, fun e => ?_⟩⟩
      rw [e, hoj] at hz; cases hz
    | some oj =>
      rw [hoj] at v1
      have hjs := (Array.getElem?_eq_some_iff.1 hoj).1
      have hjn : j < n := by rcases hg with q | q <;> omega
      exact hJ.step hst hsz hA hjn hRj hD hoj (v2 oj hoj hjn) v1
  · obtain ⟨v1, f1⟩ := v1
    obtain ⟨v2, f2⟩ := v2
    have hjs := (Array.getElem?_eq_some_iff.1 hy).1
    have hjn : j < n := by
      rcases Nat.lt_or_ge j n with q | q
      · exact q
      · exact absurd (hn j q hjs i hij) hn'
    have hin : i < n := by omega
    have f1 := f1 x hx hin
    have f2 := f2 y hy hjn
    unfold op1 at v1 v2
    rw [hx] at v1
    rw [hy] at v2
    obtain ⟨hapart, hown⟩ := apart_get hap hij hjn hx hy hn'
    obtain ⟨a1, a2, a3⟩ := Oper.apart_spec hapart
    have hni : j ∉ (preAll ops ops.size).getD i [] := fun q => by
      have := dj
      exact di j q rj
    have px := hJ.pre hst hsz hA ri hin di hx
    have py := hJ.pre hst hsz hA rj hjn dj hy
    have hJ1 := hJ.step hst hsz hA hin ri di hx f1 v1
    have py1 := hJ1.pre hst hsz hA (k := j) ⟨rj, by omega⟩ hjn (fun p hp q => dj p hp q.1) hy
    have mx : ∀ t ∈ wtO x, t ∉ y.looksAt ops ∧ t ∉ wtO y := by
      intro t ht
      unfold wtO at ht
      rcases List.mem_append.1 ht with ht | ht
      · split at ht
        · rename_i a d' e
          rw [List.mem_singleton] at ht
          subst ht
          have hmx : isMk x = true := by unfold isMk; rw [e]; simp
          have hz := statO_z (statC_get hst hin hx) hmx hjn hy (by omega)
          rw [nmOf_app e] at hz
          refine ⟨hz.2 (by rw [e]; rfl), fun q => ?_⟩
          unfold wtO at q
          rcases List.mem_append.1 q with q | q
          · split at q
            · rename_i b d'' e'
              rw [List.mem_singleton] at q
              subst q
              refine hz.2 (by rw [e]; rfl) ?_
              have := app_looks (ops := ops) (o := y) (by rw [e']; rfl)
              rw [nmOf_app e'] at this
              exact this
            · cases q
          · exact hni (hz.1 (by simpa using q)).2.2.2
        · cases ht
      · have hd : x.dst = some t := by simpa using ht
        refine ⟨a1 t hd, fun q => ?_⟩
        unfold wtO at q
        rcases List.mem_append.1 q with q | q
        · split at q
          · rename_i b d'' e'
            rw [List.mem_singleton] at q
            subst q
            refine a1 t hd ?_
            have := app_looks (ops := ops) (o := y) (by rw [e']; rfl)
            rw [nmOf_app e'] at this
            exact this
          · cases q
        · exact a2 t hd (by simpa using q)
    have my : ∀ t ∈ wtO y, t ∉ x.looksAt ops := by
      intro t ht
      unfold wtO at ht
      rcases List.mem_append.1 ht with ht | ht
      · split at ht
        · rename_i a d' e
          rw [List.mem_singleton] at ht
          subst ht
          have hmy : isMk y = true := by unfold isMk; rw [e]; simp
          have hz := statO_z (statC_get hst hjn hy) hmy hin hx (by omega)
          rw [nmOf_app e] at hz
          exact hz.2 (by rw [e]; rfl)
        · cases ht
      · exact a3 t (by simpa using ht)
    have hind : indep (F i) (F j) = true := (q4 i j (Nat.zero_le _) hij hjn).resolve_left hn'
    obtain ⟨s1', b1, b2, b3, b4⟩ := swap f1 v1 f2 v2 px py1 py (fun s1' g1 g2 => (hJ.step hst hsz hA hjn rj dj hy g1 g2).pre hst hsz hA (k := i) ⟨ri, by omega⟩ hin (fun p hp q => di p hp q.1) hx) mx my hind hown
    refine ⟨s1', ⟨by unfold op1; rw [hy]; exact b1, fun o ho _ => ?_⟩, ⟨by unfold op1; rw [hx]; exact b3, fun o ho _ => ?_⟩⟩
    · rw [hy] at ho; injection ho with ho; subst ho; exact b2
    · rw [hx] at ho; injection ho with ho; subst ho; exact b4
end Go.Proofs.YtakbdjdafcjglaaGreatDoor.Dm
