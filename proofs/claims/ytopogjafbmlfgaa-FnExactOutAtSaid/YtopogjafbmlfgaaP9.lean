/- For every value and key the law FnExactOutAt returns true. -/
import Derived.Test.YtopogjafbmlfgaaP8
namespace Go.Proofs.Ytopogjafbmlfgaa.Dm
set_option maxRecDepth 4000
set_option linter.unusedVariables false
set_option linter.unusedSimpArgs false

theorem asI (n : Int) : asInt .i64 (.int .i64 n) = some n := by simp [asInt]
theorem asS_ (v : ByteArray) : asStr (.str v) = some v := rfl
theorem zero_fine : okOut zeroO ∧ wOut zeroO ≤ 1048576 := by
  refine ⟨⟨?_, ⟨by simp, fun x hx => by cases hx⟩, by simp, trivial⟩, ?_⟩
  · show (0 : Nat) ≤ _; omega
  · show (0 : Nat) + (0 + 0) + (0 + 0) ≤ _; omega
theorem atKey_fine (key : ByteArray) : ∀ (ks : List ByteArray) (is : List GOut), okOuts is → wOuts is ≤ 1048576 → okOut (atKey key ks is).1 ∧ wOut (atKey key ks is).1 ≤ 1048576
  | [], [], _, _ => zero_fine
  | [], _ :: _, _, _ => zero_fine
  | _ :: _, [], _, _ => zero_fine
  | k :: ks, x :: is, h, hw => by
    unfold wOuts at hw
    unfold atKey
    by_cases hq : k = key
    · rw [if_pos hq]; exact ⟨h.1, by show wOut x ≤ _; omega⟩
    · rw [if_neg hq]; exact atKey_fine key ks is h.2 (by omega)
theorem atB_fine {o : GOut} (ho : okOut o) (hw : wOut o ≤ 1048576) (key : ByteArray) : okOut (atB o key).1 ∧ wOut (atB o key).1 ≤ 1048576 := by
  cases o with
  | mk k n t ks is =>
    have hB : atB (.mk k n t ks is) key = if key.size > 65536 then (zeroO, 2) else if outB (.mk k n t ks is) = true ∧ k = 4 then atKey key ks is else (zeroO, 1) := rfl
    unfold wOut at hw
    rw [hB]
    split
    · exact zero_fine
    · split
      · exact atKey_fine key ks is ho.2.2.2 (by omega)
      · exact zero_fine
theorem law_OutAt {o : GOut} (ho : okOut o) (key : ByteArray) : ev E0 F_laws_FnExactOutAt [.p (.agg 5 o.enc), .p (.str key)] [] = rB true := by
  have h1 := szOut_ev o ho 1048576 (by omega) (by omega)
  by_cases hks : key.size > 1048576
  · cases o with
    | mk k n t ks is =>
      rw [enc_mk, laws_FnExactOutAt_0_ev, laws_FnExactOutAt_0_eq, decide_eq_true (by omega)]
      rfl
  by_cases hw : (wOut o : Int) ≤ 1048576
  · have hwn : wOut o ≤ 1048576 := by omega
    have h2 := spec_OutAt_ev ho hwn key
    have h3 := impl_OutAt_ev ho hwn key
    have h4 := eqOut_ev o ho
    have h5 := toOut_ev o hwn
    have h6 := coldR_rOwn o
    obtain ⟨g1, g2⟩ := atB_fine ho hwn key
    generalize atB o key = gc at h2 h3 g1 g2
    obtain ⟨g, c⟩ := gc
    dsimp only at h2 h3 g1 g2
    have h7 := eqOut_ev g g1
    have hcc : (c != c) = false := by simp
    have hne : ∀ z : Int, (z != z) = false := fun z => by simp
    cases o with
    | mk k n t ks is =>
      cases g with
      | mk k' n' t' ks' is' =>
        have m1 := markOut_ev (a := k) (b := n) hwn
        have m2 := markOut_ev (a := k') (b := n') g2
        have d2 := heldOut_ev (a := k') (b := n') g2
        rw [enc_mk] at h1 h2 h3 h4 h5 h6 h7 ⊢
        rw [enc_mk] at h2
        unfold rOwn at h5 h6
        unfold rOwn2 at h3
        have hcold : ((ev E0 F_laws_toOut [.p (.agg 5 [.int .i64 k, .int .i64 n, .str t, .sl 1 (ks.map encS), .sl 5 (is.map GOut.enc)])] []).bind coldR) = rA 5 [.int .i64 k, .int .i64 n, .str t, .sl 1 (ks.map encS), .sl 5 (is.map GOut.enc)] := by rw [h5]; exact h6
        have ci : colds (GOut.owns is) = is.map GOut.enc := by rw [colds_owns, GOut.encs_eq]
        have ci' : colds (GOut.owns is') = is'.map GOut.enc := by rw [colds_owns, GOut.encs_eq]
        rw [laws_FnExactOutAt_0_ev, laws_FnExactOutAt_0_eq, decide_eq_false (by omega), cond_false, h1, bI, szV_pos hw, decide_eq_false (by omega), cond_false, h5, Option.bind_some, asOwn_O _ _ _ _ (okEs_enc ks), Option.bind_some]
        simp only [List.getD_cons_zero, List.getD_cons_succ, asI, asS_, Option.bind_some, ci]
        rw [h2, bAI, asOwn_O _ _ _ _ (okEs_enc ks), Option.bind_some]
        simp only [List.getD_cons_zero, List.getD_cons_succ, asI, asS_, Option.bind_some, ci]
        rw [h3, Option.bind_some, asOwn_O2 _ _ _ _ _ (okEs_enc ks'), Option.bind_some]
        simp only [List.getD_cons_zero, List.getD_cons_succ, asI, asS_, Option.bind_some, ci']
        rw [h7, bB, Bool.not_true, cond_false, hcc, laws_FnExactOutAt_1_eq, cond_false, hcold, bA, ci, h4, bB, Bool.not_true, cond_false, if_pos (okEs_enc ks), m1, bW2, decide_eq_false (by omega), cond_false, ci', h7, bB, Bool.not_true, cond_false, hcc,
          laws_FnExactOutAt_2_eq, cond_false, if_pos (okEs_enc ks'), m2, bW2, d2, bI, decide_eq_false (by omega), cond_false, hne, cond_false, h5, Option.bind_some, asOwn_O _ _ _ _ (okEs_enc ks), Option.bind_some]
        simp only [List.getD_cons_zero, List.getD_cons_succ, asI, asS_, Option.bind_some, ci]
        rw [h3, Option.bind_some, asOwn_O2 _ _ _ _ _ (okEs_enc ks'), Option.bind_some]
        simp only [List.getD_cons_zero, List.getD_cons_succ, asI, asS_, Option.bind_some, ci']
        rw [h7, bB, Bool.not_true, cond_false, hcc, laws_FnExactOutAt_3_eq, cond_false, d2, bI, decide_eq_false (by omega), cond_false, hne, cond_false]
  · cases o with
    | mk k n t ks is =>
      rw [enc_mk] at h1 ⊢
      rw [laws_FnExactOutAt_0_ev, laws_FnExactOutAt_0_eq, decide_eq_false (by omega), cond_false, h1, bI, szV_neg hw]
      rfl
end Go.Proofs.Ytopogjafbmlfgaa.Dm
