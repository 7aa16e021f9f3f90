/- Answers' values: copies that share nothing, the value at a key. -/
import Derived.Test.YtopogjafbmlfgaaP4
namespace Go.Proofs.Ytopogjafbmlfgaa.Dm
set_option maxRecDepth 4000
set_option linter.unusedVariables false
set_option linter.unusedSimpArgs false

theorem agree_self {R : Type} (r : R) : agree (some r) (some r) = some r := agree_some.2 ⟨rfl, rfl⟩
theorem clone_ev {xs : List ByteArray} (h : xs.length ≤ 1048576) : ev E0 F_slices_Clone_string_string [.p (.sl 1 (xs.map encS))] [] = rOwnS xs := by
  have hl : (xs.map encS).length = xs.length := by simp
  have hL : LIM = 140737488355328 := rfl
  rw [slices_Clone_string_string_0_ev, slices_Clone_string_string_0_eq, List.nil_append, if_pos (c := (([] : List (List Pd)).length + (xs.map encS).length) * 16 ≤ LIM) (by rw [hl, hL]; simp; omega), if_pos (okEs_enc xs)]
  cases xs with
  | nil => exact agree_self _
  | cons x xs => rfl
theorem copyOut_of {k n : Int} {t : ByteArray} {ks : List ByteArray} {is : List GOut} (hk : ks.length ≤ 1048576) (hi : is.length ≤ 1048576) (ih : ∀ x ∈ is, ev E0 F_impl_copyOut [.p (.agg 5 x.enc)] [] = rOwn x) :
    ev E0 F_impl_copyOut [.p (.agg 5 (GOut.mk k n t ks is).enc)] [] = rOwn (.mk k n t ks is) := by
  have hl : (is.map GOut.enc).length = is.length := by simp
  have hL : LIM = 140737488355328 := rfl
  have main : ∀ (m i : Nat), i + m = is.length → impl_copyOut_1 (is.map GOut.enc) is.length i k n t (ks.map encS) (is.map GOut.enc) 0 0 (⟨#[]⟩ : ByteArray) ((is.take i).map GOut.own) = rOwn (.mk k n t ks is) := by
    intro m
    induction m with
    | zero =>
      intro i h
      rw [impl_copyOut_1_eq, decide_eq_false (by omega), cond_false, clone_ev hk, Option.bind_some, asOwn_S (okEs_enc ks), Option.bind_some]
      rw [show (is.take i) = is from List.take_of_length_le (by omega), ← GOut.owns_eq]
      exact if_pos (okEs_enc ks)
    | succ m ihm =>
      intro i h
      have hx : is[i]? = some (is[i]'(by omega)) := List.getElem?_eq_getElem (by omega)
      have ht : is.take (i + 1) = is.take i ++ [is[i]'(by omega)] := by rw [List.take_add_one, hx]; rfl
      generalize is[i]'(by omega) = x at hx ht
      have hm : x ∈ is := List.mem_of_getElem? hx
      have e2 : IntKind.i64.wrap ((i : Int) + 1) = (i : Int) + 1 := wrap_id (by omega)
      have step := ihm (i + 1) (by omega)
      have ihx := ih x hm
      rw [ht, List.map_append] at step
      cases x with
      | mk k' n' t' ks' is' =>
        unfold rOwn at ihx
        rw [impl_copyOut_1_eq, hl, decide_eq_true (by omega), cond_true, if_pos (by omega), getD_enc hx, ihx, Option.bind_some, asOwn_O _ _ _ _ (okEs_enc ks'), Option.bind_some]
        simp only [List.getD_cons_zero, List.getD_cons_succ, asInt, asStr, if_true, Option.bind_some]
        rw [if_pos ⟨trivial, trivial, okEs_enc ks'⟩, if_pos (by rw [hL, List.length_map, List.length_take]; simp; omega), e2]
        exact step
  have := main is.length 0 (by omega)
  unfold GOut.enc
  rw [impl_copyOut_0_ev, impl_copyOut_0_eq, GOut.encs_eq, hl]
  exact this
mutual
theorem copyOut_ev : ∀ (x : GOut), wOut x ≤ 1048576 → ev E0 F_impl_copyOut [.p (.agg 5 x.enc)] [] = rOwn x
  | .mk k n t ks is, hx => by
    unfold wOut at hx
    have h1 := wL_len (f := ByteArray.size) (xs := ks) (n := 1048576) (by omega)
    exact copyOut_of h1 (by omega) (copyOuts_ev is (by omega))
theorem copyOuts_ev : ∀ (xs : List GOut), wOuts xs ≤ 1048576 → ∀ x ∈ xs, ev E0 F_impl_copyOut [.p (.agg 5 x.enc)] [] = rOwn x
  | [], _, x, hx => by cases hx
  | y :: ys, h, x, hx => by
    unfold wOuts at h
    rcases List.mem_cons.1 hx with q | q
    · rw [q]; exact copyOut_ev y (by omega)
    · exact copyOuts_ev ys (by omega) x q
end
theorem l08Own_of {k n : Int} {t : ByteArray} {ks : List ByteArray} {is : List GOut} (hk : ks.length ≤ 1048576) (hi : is.length ≤ 1048576) (ih : ∀ x ∈ is, ev E0 F_spec_l08Own [.p (.agg 5 x.enc)] [] = rA 5 x.enc) :
    ev E0 F_spec_l08Own [.p (.agg 5 (GOut.mk k n t ks is).enc)] [] = rA 5 (GOut.mk k n t ks is).enc := by
  have hl : (is.map GOut.enc).length = is.length := by simp
  have hkl : (ks.map encS).length = ks.length := by simp
  have hL : LIM = 140737488355328 := rfl
  have main : ∀ (m i : Nat), i + m = is.length → spec_l08Own_1 i k n t (ks.map encS) (is.map GOut.enc) 0 0 (⟨#[]⟩ : ByteArray) k n t (ks.map encS) ((is.take i).map GOut.enc) = rA 5 [.int .i64 k, .int .i64 n, .str t, .sl 1 (ks.map encS), .sl 5 (is.map GOut.enc)] := by
    intro m
    induction m with
    | zero =>
      intro i h
      rw [spec_l08Own_1_eq, hl, decide_eq_false (by omega), cond_false, show (is.take i) = is from List.take_of_length_le (by omega)]
    | succ m ihm =>
      intro i h
      have hx : is[i]? = some (is[i]'(by omega)) := List.getElem?_eq_getElem (by omega)
      have ht : is.take (i + 1) = is.take i ++ [is[i]'(by omega)] := by rw [List.take_add_one, hx]; rfl
      generalize is[i]'(by omega) = x at hx ht
      have hm : x ∈ is := List.mem_of_getElem? hx
      have e2 : IntKind.i64.wrap ((i : Int) + 1) = (i : Int) + 1 := wrap_id (by omega)
      have step := ihm (i + 1) (by omega)
      rw [ht, List.map_append] at step
      rw [spec_l08Own_1_eq, hl, decide_eq_true (by omega), cond_true, if_pos (by omega), getD_enc hx, ih x hm, bA, if_pos (by rw [hL, List.length_map, List.length_take]; simp; omega), e2]
      exact step
  have := main is.length 0 (by omega)
  unfold GOut.enc
  rw [spec_l08Own_0_ev, spec_l08Own_0_eq, GOut.encs_eq, List.nil_append, if_pos (by rw [hkl, hL]; simp; omega)]
  exact this
mutual
theorem l08Own_ev : ∀ (x : GOut), wOut x ≤ 1048576 → ev E0 F_spec_l08Own [.p (.agg 5 x.enc)] [] = rA 5 x.enc
  | .mk k n t ks is, hx => by
    unfold wOut at hx
    have h1 := wL_len (f := ByteArray.size) (xs := ks) (n := 1048576) (by omega)
    exact l08Own_of h1 (by omega) (l08Owns_ev is (by omega))
theorem l08Owns_ev : ∀ (xs : List GOut), wOuts xs ≤ 1048576 → ∀ x ∈ xs, ev E0 F_spec_l08Own [.p (.agg 5 x.enc)] [] = rA 5 x.enc
  | [], _, x, hx => by cases hx
  | y :: ys, h, x, hx => by
    unfold wOuts at h
    rcases List.mem_cons.1 hx with q | q
    · rw [q]; exact l08Own_ev y (by omega)
    · exact l08Owns_ev ys (by omega) x q
end
theorem enc_mk (k n : Int) (t : ByteArray) (ks : List ByteArray) (is : List GOut) : (GOut.mk k n t ks is).enc = [.int .i64 k, .int .i64 n, .str t, .sl 1 (ks.map encS), .sl 5 (is.map GOut.enc)] := by rw [← GOut.encs_eq]; rfl
/-! ### the value at a key -/
def zeroO : GOut := .mk 0 0 (⟨#[]⟩ : ByteArray) [] []
def atKey (key : ByteArray) : List ByteArray → List GOut → GOut × Int
  | k :: ks, x :: xs => if k = key then (x, 0) else atKey key ks xs
  | _, _ => (zeroO, 5)
def atB : GOut → ByteArray → GOut × Int
  | .mk k n t ks is, key => if key.size > 65536 then (zeroO, 2) else if outB (.mk k n t ks is) = true ∧ k = 4 then atKey key ks is else (zeroO, 1)
abbrev rAI (c : List Pd) (n : Int) : Option Res := some ([.p (.agg 5 c), .p (.int .i64 n)], [])
theorem bAI {R : Type} (c : List Pd) (n : Int) (K : List Pd → Int → Option R) : ((rAI c n).bind fun r => (asAgg 5 (pAt 0 r.1)).bind fun c => (asInt .i64 (pAt 1 r.1)).bind fun n => if r.1.length = 2 then K c n else none) = K c n := by simp [pAt, asAgg, asInt]
theorem out4_len {n : Int} {t : ByteArray} {ks : List ByteArray} {is : List GOut} (h : outB (.mk 4 n t ks is) = true) : ks.length = is.length := by
  simp only [outB, fineO, Bool.and_eq_true] at h
  have := h.1.1
  unfold rightB at this
  simp at this
  omega
theorem spec_OutAt_loop (key : ByteArray) {k n : Int} {t : ByteArray} {ks : List ByteArray} {is : List GOut} (hk : ks.length ≤ 1048576) (hlen : ks.length = is.length) (hw : wOuts is ≤ 1048576) : ∀ (m i : Nat), i + m = ks.length →
    spec_OutAt_2 key i k n t (ks.map encS) (is.map GOut.enc) 0 0 (⟨#[]⟩ : ByteArray) = rAI (atKey key (ks.drop i) (is.drop i)).1.enc (atKey key (ks.drop i) (is.drop i)).2
  | 0, i, h => by
    have hkl : (ks.map encS).length = ks.length := by simp
    rw [spec_OutAt_2_eq, hkl, decide_eq_false (by omega), cond_false, List.drop_of_length_le (by omega)]
    rfl
  | m + 1, i, h => by
    have hkl : (ks.map encS).length = ks.length := by simp
    have hil : (is.map GOut.enc).length = is.length := by simp
    have hg : ks[i]? = some (ks[i]'(by omega)) := List.getElem?_eq_getElem (by omega)
    have hg2 : is[i]? = some (is[i]'(by omega)) := List.getElem?_eq_getElem (by omega)
    have e2 : IntKind.i64.wrap ((i : Int) + 1) = ((i + 1 : Nat) : Int) := by rw [wrap_id (by omega)]; omega
    have e1 : asStr ((encS (ks[i]'(by omega))).getD 0 .undef) = some (ks[i]'(by omega)) := rfl
    rw [spec_OutAt_2_eq, hkl, decide_eq_true (by omega), cond_true, if_pos (by omega), getD_enc hg, e1, Option.bind_some, List.drop_eq_getElem_cons (by omega), List.drop_eq_getElem_cons (l := is) (by omega)]
    unfold atKey
    by_cases hq : ks[i]'(by omega) = key
    · rw [decide_eq_true hq, cond_true, hil, if_pos (by omega), getD_enc hg2, l08Owns_ev is hw _ (List.getElem_mem _), bA, if_pos hq]
    · rw [decide_eq_false hq, cond_false, if_neg hq, e2]
      exact spec_OutAt_loop key hk hlen hw m (i + 1) (by omega)
theorem spec_OutAt_ev {o : GOut} (ho : okOut o) (hw : wOut o ≤ 1048576) (key : ByteArray) : ev E0 F_spec_OutAt [.p (.agg 5 o.enc), .p (.str key)] [] = rAI (atB o key).1.enc (atB o key).2 := by
  have h1 := spec_OutOK_ev ho
  cases o with
  | mk k n t ks is =>
    have hB : atB (.mk k n t ks is) key = if key.size > 65536 then (zeroO, 2) else if outB (.mk k n t ks is) = true ∧ k = 4 then atKey key ks is else (zeroO, 1) := rfl
    rw [enc_mk] at h1 ⊢
    rw [spec_OutAt_0_ev, spec_OutAt_0_eq, h1, bB, hB]
    by_cases hs : key.size > 65536
    · rw [decide_eq_true (by omega), cond_true, if_pos hs]
      rfl
    rw [decide_eq_false (by omega), cond_false, if_neg hs]
    cases hb : outB (.mk k n t ks is) with
    | false =>
      rw [Bool.not_false, cond_true, spec_OutAt_1_eq, cond_true]
      simp [zeroO, GOut.enc, GOut.encs]
    | true =>
      rw [Bool.not_true, cond_false, spec_OutAt_1_eq]
      by_cases h4 : k = 4
      · subst h4
        unfold wOut at hw
        have hk := wL_len (f := ByteArray.size) (xs := ks) (n := 1048576) (by omega)
        have hlp := spec_OutAt_loop key (k := 4) (n := n) (t := t) hk (out4_len hb) (by omega) ks.length 0 (by omega)
        rw [List.drop_zero, List.drop_zero] at hlp
        have hne : ((4 : Int) != 4) = false := by decide
        rw [hne, cond_false, if_pos ⟨rfl, rfl⟩]
        exact hlp
      · have hne : (k != 4) = true := by simpa using h4
        rw [hne, cond_true, if_neg (fun q => h4 q.2)]
        rfl
end Go.Proofs.Ytopogjafbmlfgaa.Dm
