/- Answers' values: marks, and whether they are held. -/
import Derived.Test.YtopogjafbmlfgaaP6
namespace Go.Proofs.Ytopogjafbmlfgaa.Dm
set_option maxRecDepth 4000
set_option linter.unusedVariables false
set_option linter.unusedSimpArgs false

abbrev rS' (v : ByteArray) : Option Res := some ([.p (.str v)], [])
theorem bS' {R : Type} (v : ByteArray) (K : ByteArray → Option R) : ((rS' v).bind fun r => (asStr (pAt 0 r.1)).bind fun v => if r.1.length = 1 then K v else none) = K v := by simp [pAt, asStr]
theorem markText_loop : ∀ (m : Nat), m ≤ 20 → ∀ (n : Nat), n < 10 ^ m → (n : Int) ≤ 9223372036854775807 → ∀ s : ByteArray, s.size + m ≤ 1000 → ∃ r, laws_markText_1 n s = rS' r
  | 0, _, n, hn, _, s, hs => by
    have : n = 0 := by simpa using hn
    subst this
    have hL : LIM = 140737488355328 := rfl
    rw [laws_markText_1_eq, decide_eq_false (by omega), cond_false, if_pos (by rw [hL]; show 1 + s.size ≤ _; omega)]
    exact ⟨_, rfl⟩
  | m + 1, hm, n, hn, hb, s, hs => by
    have hL : LIM = 140737488355328 := rfl
    rw [laws_markText_1_eq]
    by_cases h0 : n = 0
    · subst h0
      rw [decide_eq_false (by omega), cond_false, if_pos (by rw [hL]; show 1 + s.size ≤ _; omega)]
      exact ⟨_, rfl⟩
    · rw [decide_eq_true (by omega), cond_true]
      have e1 : ∀ x : Int, bytesOf [[.int .u8 x]] = some [UInt8.ofNat x.toNat] := fun _ => rfl
      have e2 : ((n : Int).tdiv 10) = ((n / 10 : Nat) : Int) := by rw [Int.tdiv_eq_ediv_of_nonneg (by omega)]; omega
      have e3 : IntKind.i64.wrap ((n / 10 : Nat) : Int) = ((n / 10 : Nat) : Int) := wrap_id (by omega)
      rw [e1, Option.bind_some, e2, e3, if_pos (by rw [hL]; show 1 + s.size ≤ _; omega)]
      refine markText_loop m (by omega) (n / 10) (by rw [Nat.pow_succ] at hn; omega) (by omega) _ ?_
      rw [ByteArray.size_append]
      show 1 + s.size + m ≤ 1000
      omega
theorem markText_ex {k : Int} (h : 0 ≤ k ∧ k ≤ 1000000000) : ∃ s, ev E0 F_laws_markText [.p (.int .i64 k)] [] = rS' s := by
  rw [laws_markText_0_ev, laws_markText_0_eq]
  by_cases h0 : k ≤ 0
  · rw [decide_eq_true h0]; exact ⟨_, rfl⟩
  · rw [decide_eq_false h0, cond_false]
    have e : k = ((k.toNat : Nat) : Int) := by omega
    rw [e]
    exact markText_loop 10 (by omega) k.toNat (by omega) (by omega) _ (by show 0 + 10 ≤ 1000; omega)
open Classical in
/-- the mark's text -/
noncomputable def mt (k : Int) : ByteArray := if h : ∃ s, ev E0 F_laws_markText [.p (.int .i64 k)] [] = rS' s then Classical.choose h else ⟨#[]⟩
theorem mt_ev {k : Int} (h : 0 ≤ k ∧ k ≤ 1000000000) : ev E0 F_laws_markText [.p (.int .i64 k)] [] = rS' (mt k) := by
  have := markText_ex h
  unfold mt
  rw [dif_pos this]
  exact Classical.choose_spec this
/-! ### marked things -/
noncomputable def mkS : Int → List ByteArray → List ByteArray
  | _, [] => []
  | k, _ :: ks => mt k :: mkS (k + 1) ks
mutual
def cM : GOut → Nat
  | .mk _ _ _ ks is => 3 + ks.length + cMs is
def cMs : List GOut → Nat
  | [] => 0
  | x :: xs => cM x + cMs xs
end
mutual
noncomputable def mkO : Int → GOut → GOut
  | k, .mk _ _ _ ks is => .mk k (k + 1) (mt (k + 2)) (mkS (k + 3) ks) (mkOs (k + 3 + ks.length) is)
noncomputable def mkOs : Int → List GOut → List GOut
  | _, [] => []
  | k, x :: xs => mkO k x :: mkOs (k + cM x) xs
end
theorem mkS_len : ∀ (ks : List ByteArray) (k : Int), (mkS k ks).length = ks.length
  | [], _ => rfl
  | _ :: ks, k => by simp only [mkS, List.length_cons, mkS_len ks]
theorem mkS_get : ∀ (ks : List ByteArray) (k : Int) (j : Nat), j < ks.length → (mkS k ks)[j]? = some (mt (k + j))
  | [], _, j, h => by cases h
  | _ :: ks, k, 0, h => by simp [mkS]
  | _ :: ks, k, j + 1, h => by
    simp only [mkS, List.getElem?_cons_succ]
    rw [mkS_get ks (k + 1) j (by simpa using h)]
    congr 2
    omega
theorem mkOs_len : ∀ (xs : List GOut) (k : Int), (mkOs k xs).length = xs.length
  | [], _ => rfl
  | _ :: xs, k => by simp only [mkOs, List.length_cons, mkOs_len xs]
theorem mkOs_get : ∀ (xs : List GOut) (k : Int) (j : Nat) (x : GOut), xs[j]? = some x → (mkOs k xs)[j]? = some (mkO (k + cMs (xs.take j)) x)
  | [], _, j, x, h => by simp at h
  | y :: xs, k, 0, x, h => by
    simp at h; subst h
    simp [mkOs, cMs]
  | y :: xs, k, j + 1, x, h => by
    simp only [mkOs, List.getElem?_cons_succ, List.take_succ_cons, cMs]
    rw [mkOs_get xs (k + cM y) j x (by simpa using h)]
    congr 2
    omega
theorem cMs_take : ∀ (xs : List GOut) (j : Nat) (x : GOut), xs[j]? = some x → cMs (xs.take (j + 1)) = cMs (xs.take j) + cM x
  | [], j, x, h => by simp at h
  | y :: xs, 0, x, h => by simp at h; subst h; simp [cMs]
  | y :: xs, j + 1, x, h => by
    simp only [List.take_succ_cons, cMs]
    rw [cMs_take xs j x (by simpa using h)]
    omega
mutual
theorem cM_le : ∀ x : GOut, cM x ≤ 3 + 3 * wOut x
  | .mk k n t ks is => by
    have h1 := cMs_le is
    have h2 : ks.length ≤ wL ByteArray.size ks := wL_len (Nat.le_refl _)
    simp only [cM, wOut]
    omega
theorem cMs_le : ∀ xs : List GOut, cMs xs ≤ 3 * (xs.length + wOuts xs)
  | [] => Nat.le_refl _
  | x :: xs => by
    have h1 := cM_le x
    have h2 := cMs_le xs
    simp only [cMs, wOuts, List.length_cons]
    omega
end
abbrev rW (n : Int) (o : Ob) : Option Res := some ([.p (.int .i64 n)], [o])
theorem markStringS_ev {ks : List ByteArray} {k : Int} (h0 : 0 ≤ k) (hk : k + ks.length ≤ 1000000000) : ev E0 F_laws_markStringS [.arr (.out 0), .p (.int .i64 k)] [.oarr 9 1 (ks.map encS)] = rW (k + ks.length) (.oarr 9 1 ((mkS k ks).map encS)) := by
  have main : ∀ (m i : Nat) (es : List (List Pd)), i + m = ks.length → es.length = ks.length → (∀ j, j < i → es[j]? = ((mkS k ks).map encS)[j]?) → laws_markStringS_1 (k + i) i es = rW (k + ks.length) (.oarr 9 1 ((mkS k ks).map encS)) := by
    intro m
    induction m with
    | zero =>
      intro i es hi hes hpre
      have : es = (mkS k ks).map encS := by
        refine List.ext_getElem? fun j => ?_
        rcases Nat.lt_or_ge j i with q | q
        · exact hpre j q
        · rw [List.getElem?_eq_none (by omega), List.getElem?_eq_none (by rw [List.length_map, mkS_len]; omega)]
      have hii : i = ks.length := by omega
      rw [laws_markStringS_1_eq, decide_eq_false (by omega), cond_false, this, hii]
    | succ m ih =>
      intro i es hi hes hpre
      have e2 : IntKind.i64.wrap ((i : Int) + 1) = ((i + 1 : Nat) : Int) := by rw [wrap_id (by omega)]; omega
      have e3 : IntKind.i64.wrap (k + (i : Int) + 1) = k + ((i + 1 : Nat) : Int) := by rw [wrap_id (by omega)]; omega
      rw [laws_markStringS_1_eq, decide_eq_true (by omega), cond_true, mt_ev (by omega), bS', if_pos (by omega), if_pos ⟨rfl, by omega, by omega⟩, e2, e3, setCs_all]
      refine ih (i + 1) _ (by omega) (by simpa using hes) fun j hj => ?_
      by_cases q : j = i
      · subst q
        rw [show ((j : Int)).toNat = j from by omega, List.getElem?_set_self (by omega), List.getElem?_map, mkS_get ks k j (by omega)]
        rfl
      · rw [show ((i : Int)).toNat = i from by omega, List.getElem?_set_ne (fun e => q e.symm)]
        exact hpre j (by omega)
  have := main ks.length 0 (ks.map encS) (by omega) (by simp) (fun j hj => by omega)
  rw [laws_markStringS_0_ev, laws_markStringS_0_eq]
  have e0 : k + ((0 : Nat) : Int) = k := by omega
  rw [e0] at this
  exact this
theorem heldStringS_ev {ks : List ByteArray} {k : Int} (h0 : 0 ≤ k) (hk : k + ks.length ≤ 1000000000) : ev E0 F_laws_heldStringS [.p (.sl 1 ((mkS k ks).map encS)), .p (.int .i64 k)] [] = rI (k + ks.length) := by
  have hl : ((mkS k ks).map encS).length = ks.length := by rw [List.length_map, mkS_len]
  have main : ∀ (m i : Nat), i + m = ks.length → laws_heldStringS_1 ((mkS k ks).map encS) (k + i) i = rI (k + ks.length) := by
    intro m
    induction m with
    | zero =>
      intro i hi
      have hii : i = ks.length := by omega
      rw [laws_heldStringS_1_eq, hl, decide_eq_false (by omega), cond_false, hii]
    | succ m ih =>
      intro i hi
      have e2 : IntKind.i64.wrap ((i : Int) + 1) = ((i + 1 : Nat) : Int) := by rw [wrap_id (by omega)]; omega
      have e3 : IntKind.i64.wrap (k + (i : Int) + 1) = k + ((i + 1 : Nat) : Int) := by rw [wrap_id (by omega)]; omega
      have e1 : asStr ((encS (mt (k + i))).getD 0 .undef) = some (mt (k + i)) := rfl
      rw [laws_heldStringS_1_eq, hl, decide_eq_true (by omega), cond_true, if_pos (by omega), getD_enc (mkS_get ks k i (by omega)), e1, Option.bind_some, mt_ev (by omega), bS', decide_eq_true rfl, Bool.not_true, cond_false, e2, e3]
      exact ih (i + 1) (by omega)
  have := main ks.length 0 (by omega)
  rw [laws_heldStringS_0_ev, laws_heldStringS_0_eq]
  have e0 : k + ((0 : Nat) : Int) = k := by omega
  rw [e0] at this
  exact this
end Go.Proofs.Ytopogjafbmlfgaa.Dm
