/- Answers' values: the value at a key, by the program. -/
import Derived.Test.YtopogjafbmlfgaaP5
namespace Go.Proofs.Ytopogjafbmlfgaa.Dm
set_option maxRecDepth 4000
set_option linter.unusedVariables false
set_option linter.unusedSimpArgs false

theorem isText_ev (key : ByteArray) : ev E0 F_impl_isText [.p (.sl 1 [[.str key]])] [] = rB (!decide ((key.size : Int) > 65536)) := by
  have e0 : asStr ((([[Pd.str key]] : List (List Pd)).getD ((0 : Int)).toNat []).getD 0 .undef) = some key := rfl
  have e1 : IntKind.i64.wrap ((0 : Int) + 1) = 1 := by decide
  have l1 : (([[Pd.str key]] : List (List Pd)).length : Int) = 1 := rfl
  rw [impl_isText_0_ev, impl_isText_0_eq, slices_ContainsFunc_string_string_0_ev, slices_ContainsFunc_string_string_0_eq, slices_IndexFunc_string_string_0_ev, slices_IndexFunc_string_string_0_eq, slices_IndexFunc_string_string_1_eq, l1, decide_eq_true (by omega), cond_true, if_pos (by omega), e0, Option.bind_some, impl_isText_1_0_ev, impl_isText_1_0_eq, bB, e1]
  cases h : decide ((key.size : Int) > 65536) with
  | true => rw [cond_true, bI, bB]; rfl
  | false => rw [cond_false, slices_IndexFunc_string_string_1_eq, decide_eq_false (by omega), cond_false, bI, bB]; rfl
def posK (key : ByteArray) : Nat → List ByteArray → Int
  | _, [] => -1
  | i, k :: ks => if k = key then (i : Int) else posK key (i + 1) ks
theorem index_loop (key : ByteArray) {ks : List ByteArray} (hk : ks.length ≤ 1048576) : ∀ (m i : Nat), i + m = ks.length → slices_Index_string_string_1 (ks.map encS) key ks.length i = rI (posK key i (ks.drop i))
  | 0, i, h => by
    rw [slices_Index_string_string_1_eq, decide_eq_false (by omega), cond_false, List.drop_of_length_le (by omega)]
    rfl
  | m + 1, i, h => by
    have hkl : (ks.map encS).length = ks.length := by simp
    have hg : ks[i]? = some (ks[i]'(by omega)) := List.getElem?_eq_getElem (by omega)
    have e2 : IntKind.i64.wrap ((i : Int) + 1) = ((i + 1 : Nat) : Int) := by rw [wrap_id (by omega)]; omega
    have e1 : asStr ((encS (ks[i]'(by omega))).getD 0 .undef) = some (ks[i]'(by omega)) := rfl
    rw [slices_Index_string_string_1_eq, decide_eq_true (by omega), cond_true, hkl, if_pos (by omega), getD_enc hg, e1, Option.bind_some, List.drop_eq_getElem_cons (by omega)]
    unfold posK
    by_cases hq : ks[i]'(by omega) = key
    · rw [decide_eq_true hq.symm, cond_true, if_pos hq]
    · rw [decide_eq_false (fun e => hq e.symm), cond_false, if_neg hq, e2]
      exact index_loop key hk m (i + 1) (by omega)
theorem index_ev (key : ByteArray) {ks : List ByteArray} (hk : ks.length ≤ 1048576) : ev E0 F_slices_Index_string_string [.p (.sl 1 (ks.map encS)), .p (.str key)] [] = rI (posK key 0 ks) := by
  have hkl : (ks.map encS).length = ks.length := by simp
  have h := index_loop key hk ks.length 0 (by omega)
  rw [List.drop_zero] at h
  rw [slices_Index_string_string_0_ev, slices_Index_string_string_0_eq, hkl]
  exact h
theorem atKey_pos (key : ByteArray) : ∀ (ks : List ByteArray) (is : List GOut) (i : Nat), ks.length = is.length → (posK key i ks = -1 ∧ atKey key ks is = (zeroO, 5)) ∨ ∃ j x, is[j]? = some x ∧ posK key i ks = ((i + j : Nat) : Int) ∧ atKey key ks is = (x, 0)
  | [], is, i, h => .inl ⟨rfl, by cases is <;> rfl⟩
  | k :: ks, [], i, h => by cases h
  | k :: ks, x :: is, i, h => by
    unfold posK atKey
    by_cases hq : k = key
    · exact .inr ⟨0, x, rfl, by rw [if_pos hq]; rfl, by rw [if_pos hq]⟩
    · rw [if_neg hq, if_neg hq]
      rcases atKey_pos key ks is (i + 1) (by simpa using h) with q | ⟨j, y, q1, q2, q3⟩
      · exact .inl q
      · exact .inr ⟨j + 1, y, by simpa using q1, by rw [q2]; congr 1; omega, q3⟩
def rOwn2 : GOut → Int → Option Res
  | .mk k n t ks is, c => some ([.agg 5 [.p (.int .i64 k), .p (.int .i64 n), .p (.str t), .arr (.out 0), .arr (.out 1)], .p (.int .i64 c)], [.arr 9 1 16 false (ks.map encS), .oarr 29 5 (GOut.owns is)])
theorem asOwn_O2 (k n c : Int) (t : ByteArray) {es : List (List Pd)} (es' : List (List Pd)) (h : okEs es = true) : asOwn E0.P [29, 3] ([.agg 5 [.p (.int .i64 k), .p (.int .i64 n), .p (.str t), .arr (.out 0), .arr (.out 1)], .p (.int .i64 c)], [.arr 9 1 16 false es, .oarr 29 5 es']) = some ([.int .i64 k, .int .i64 n, .str t, .undef, .undef, .int .i64 c], [es, es']) := by
  have e : asOwn E0.P [29, 3] ([.agg 5 [.p (.int .i64 k), .p (.int .i64 n), .p (.str t), .arr (.out 0), .arr (.out 1)], .p (.int .i64 c)], [.arr 9 1 16 false es, .oarr 29 5 es']) = (match (match (match (match (if okEs es = true then some es else none : Option (List (List Pd))) with | some es => some ([Pd.undef, Pd.undef, Pd.int .i64 c], [es, es']) | none => none) with | some (xs, rows) => some (Pd.str t :: xs, rows) | none => none : Option (List Pd × List (List (List Pd)))) with | some (xs, rows) => some (Pd.int .i64 n :: xs, rows) | none => none : Option (List Pd × List (List (List Pd)))) with | some (xs, rows) => some (Pd.int .i64 k :: xs, rows) | none => none) := by kernel_rfl
  rw [e, if_pos h]
theorem impl_OutAt_ev {o : GOut} (ho : okOut o) (hw : wOut o ≤ 1048576) (key : ByteArray) : ev E0 F_impl_OutAt [.p (.agg 5 o.enc), .p (.str key)] [] = rOwn2 (atB o key).1 (atB o key).2 := by
  have h1 := impl_OutOK_ev ho
  cases o with
  | mk k n t ks is =>
    have hB : atB (.mk k n t ks is) key = if key.size > 65536 then (zeroO, 2) else if outB (.mk k n t ks is) = true ∧ k = 4 then atKey key ks is else (zeroO, 1) := rfl
    rw [enc_mk] at h1 ⊢
    rw [impl_OutAt_0_ev, impl_OutAt_0_eq, isText_ev, bB, h1, bB, hB]
    by_cases hs : key.size > 65536
    · rw [decide_eq_true (by omega), Bool.not_true, Bool.not_false, cond_true, if_pos hs]
      rfl
    rw [decide_eq_false (by omega), Bool.not_false, Bool.not_true, cond_false, if_neg hs]
    cases hb : outB (.mk k n t ks is) with
    | false =>
      rw [Bool.not_false, cond_true, impl_OutAt_1_eq, cond_true]
      simp [zeroO, rOwn2, GOut.owns]
    | true =>
      rw [Bool.not_true, cond_false, impl_OutAt_1_eq]
      by_cases h4 : k = 4
      · subst h4
        unfold wOut at hw
        have hk := wL_len (f := ByteArray.size) (xs := ks) (n := 1048576) (by omega)
        have hne : ((4 : Int) != 4) = false := by decide
        have hil : (is.map GOut.enc).length = is.length := by simp
        rw [hne, cond_false, if_pos ⟨rfl, rfl⟩, index_ev key hk, bI]
        rcases atKey_pos key ks is 0 (out4_len hb) with ⟨q1, q2⟩ | ⟨j, x, q0, q1, q2⟩
        · rw [q1, q2, decide_eq_true (by omega), cond_true]
          rfl
        · have hj := (List.getElem?_eq_some_iff.1 q0).1
          have hc := copyOuts_ev is (by omega) x (List.mem_of_getElem? q0)
          rw [q1, q2, Nat.zero_add, decide_eq_false (by omega), cond_false, hil, if_pos (by omega), getD_enc q0, hc]
          cases x with
          | mk k' n' t' ks' is' =>
            unfold rOwn rOwn2
            rw [Option.bind_some, asOwn_O _ _ _ _ (okEs_enc ks'), Option.bind_some]
            simp only [List.getD_cons_zero, List.getD_cons_succ, asInt, asStr, if_true, Option.bind_some]
            exact if_pos (okEs_enc ks')
      · have hne : (k != 4) = true := by simpa using h4
        rw [hne, cond_true, if_neg (fun q => h4 q.2)]
        rfl
end Go.Proofs.Ytopogjafbmlfgaa.Dm
