/- Answers' values: marks on rows of values. -/
import Derived.Test.YtopogjafbmlfgaaP7
namespace Go.Proofs.Ytopogjafbmlfgaa.Dm
set_option maxRecDepth 4000
set_option linter.unusedVariables false
set_option linter.unusedSimpArgs false

theorem bW {R : Type} (n : Int) (e s : Nat) (es : List (List Pd)) (K : Int → List (List Pd) → Option R) : ((rW n (.oarr e s es)).bind fun r => (asInt .i64 (pAt 0 r.1)).bind fun n => if r.1.length = 1 then ((asOarr e s (r.2.getD 0 .none)).bind fun l => if r.2.length = 1 then K n l else none) else none) = K n es := by simp [pAt, asInt, asOarr]
theorem row5 {es : List (List Pd)} {i off : Nat} {c : List Pd} {y : Pd} (hc : es.getD i [] = c) : setCs es i 5 off 1 [y] = es.set i (mixP 5 off 1 c [y]) := by simp only [setCs, hc]; rfl
theorem getD_set_self {es : List (List Pd)} {i : Nat} (h : i < es.length) (c : List Pd) : (es.set i c).getD i [] = c := by
  rw [List.getD_eq_getElem?_getD, List.getElem?_set_self h]; rfl
theorem mark_row {es : List (List Pd)} {i : Nat} {k a b : Int} {t s : ByteArray} {l l1 l' l2 : List (List Pd)} {n1 n2 : Int} (hi : i < es.length) (hsm : es.length ≤ 1048576) (hrow : es.getD i [] = [.int .i64 a, .int .i64 b, .str t, .ow 9 1 l, .ow 29 5 l'])
    (h0 : 0 ≤ k) (hk : k ≤ 1000000000) (hs : ev E0 F_laws_markText [.p (.int .i64 (k + 2))] [] = rS' s) (h1 : ev E0 F_laws_markStringS [.arr (.out 0), .p (.int .i64 (k + 3))] [.oarr 9 1 l] = rW n1 (.oarr 9 1 l1)) (h2 : ev E0 F_laws_markOutS [.arr (.out 0), .p (.int .i64 n1)] [.oarr 29 5 l'] = rW n2 (.oarr 29 5 l2)) :
    laws_markOutS_1 k i es = laws_markOutS_1 n2 ((i + 1 : Nat) : Int) (es.set i [.int .i64 k, .int .i64 (k + 1), .str s, .ow 9 1 l1, .ow 29 5 l2]) := by
  have e1 : IntKind.i64.wrap (k + 1) = k + 1 := wrap_id (by omega)
  have e2 : IntKind.i64.wrap (k + 1 + 1) = k + 2 := by rw [wrap_id (by omega)]; omega
  have e3 : IntKind.i64.wrap (k + 2 + 1) = k + 3 := by rw [wrap_id (by omega)]; omega
  have e4 : IntKind.i64.wrap ((i : Int) + 1) = ((i + 1 : Nat) : Int) := by rw [wrap_id (by omega)]; omega
  have en : ((i : Int)).toNat = i := by omega
  have r0 : setCs es i 5 0 1 [.int .i64 k] = es.set i [.int .i64 k, .int .i64 b, .str t, .ow 9 1 l, .ow 29 5 l'] := row5 hrow
  have r1 : setCs (es.set i [.int .i64 k, .int .i64 b, .str t, .ow 9 1 l, .ow 29 5 l']) i 5 1 1 [.int .i64 (k + 1)] = es.set i [.int .i64 k, .int .i64 (k + 1), .str t, .ow 9 1 l, .ow 29 5 l'] := (row5 (getD_set_self hi _)).trans (List.set_set ..)
  have r2 : setCs (es.set i [.int .i64 k, .int .i64 (k + 1), .str t, .ow 9 1 l, .ow 29 5 l']) i 5 2 1 [.str s] = es.set i [.int .i64 k, .int .i64 (k + 1), .str s, .ow 9 1 l, .ow 29 5 l'] := (row5 (getD_set_self hi _)).trans (List.set_set ..)
  have r3 : setCs (es.set i [.int .i64 k, .int .i64 (k + 1), .str s, .ow 9 1 l, .ow 29 5 l']) i 5 3 1 [.ow 9 1 l1] = es.set i [.int .i64 k, .int .i64 (k + 1), .str s, .ow 9 1 l1, .ow 29 5 l'] := (row5 (getD_set_self hi _)).trans (List.set_set ..)
  have r4 : setCs (es.set i [.int .i64 k, .int .i64 (k + 1), .str s, .ow 9 1 l1, .ow 29 5 l']) i 5 4 1 [.ow 29 5 l2] = es.set i [.int .i64 k, .int .i64 (k + 1), .str s, .ow 9 1 l1, .ow 29 5 l2] := (row5 (getD_set_self hi _)).trans (List.set_set ..)
  have ln : ∀ c, (es.set i c).length = es.length := fun c => by simp
  have a1 : ∀ c0 c1 c2 x y, asOw 9 1 (((es.set i [c0, c1, c2, .ow 9 1 x, y]).getD i []).getD 3 .undef) = some x := fun c0 c1 c2 x y => by rw [getD_set_self hi]; rfl
  have a2 : ∀ c0 c1 c2 x y, asOw 29 5 (((es.set i [c0, c1, c2, x, .ow 29 5 y]).getD i []).getD 4 .undef) = some y := fun c0 c1 c2 x y => by rw [getD_set_self hi]; rfl
  have p1 : (0 ≤ (i : Int) ∧ (i : Int) < (es.length : Int)) := by omega
  rw [laws_markOutS_1_eq, e1, e2, e3, e4, en]
  simp only [r0, r1, ln, hs]
  rw [decide_eq_true (by omega), cond_true, if_pos p1, if_pos ⟨trivial, hi, by omega⟩, if_pos p1, if_pos ⟨trivial, hi, by omega⟩, bS']
  simp only [r2, ln, a1, Option.bind_some]
  rw [if_pos p1, if_pos ⟨trivial, hi, by omega⟩, if_pos p1, if_pos ⟨trivial, hi, by omega⟩, if_pos ⟨trivial, hi, by omega⟩, h1, bW]
  simp only [r3, ln, a2, Option.bind_some]
  rw [if_pos p1, if_pos ⟨trivial, hi, by omega⟩, if_pos ⟨trivial, hi, by omega⟩, h2, bW, r4]
def itemsO : GOut → List GOut
  | .mk _ _ _ _ is => is
def MKs (is : List GOut) : Prop := ∀ k : Int, 0 ≤ k → k + cMs is ≤ 1000000000 → ev E0 F_laws_markOutS [.arr (.out 0), .p (.int .i64 k)] [.oarr 29 5 (GOut.owns is)] = rW (k + cMs is) (.oarr 29 5 (GOut.owns (mkOs k is)))
def HDs (is : List GOut) : Prop := ∀ k : Int, 0 ≤ k → k + cMs is ≤ 1000000000 → ev E0 F_laws_heldOutS [.p (.sl 5 ((mkOs k is).map GOut.enc)), .p (.int .i64 k)] [] = rI (k + cMs is)
theorem cMs_take_le : ∀ (xs : List GOut) (j : Nat), cMs (xs.take j) ≤ cMs xs
  | [], j => by simp [cMs]
  | x :: xs, 0 => by simp [cMs]
  | x :: xs, j + 1 => by simp only [List.take_succ_cons, cMs]; have := cMs_take_le xs j; omega
theorem cM_items (x : GOut) : cMs (itemsO x) ≤ cM x := by cases x; simp only [itemsO, cM]; omega
theorem markOuts_of {is : List GOut} (hi : is.length ≤ 1048576) (ih : ∀ x ∈ is, MKs (itemsO x)) : MKs is := by
  intro k h0 hk
  have main : ∀ (m i : Nat) (es : List (List Pd)), i + m = is.length → es.length = is.length → (∀ j, j < i → es[j]? = ((mkOs k is).map GOut.own)[j]?) → (∀ j, i ≤ j → es[j]? = (is.map GOut.own)[j]?) →
      laws_markOutS_1 (k + cMs (is.take i)) i es = rW (k + cMs is) (.oarr 29 5 (GOut.owns (mkOs k is))) := by
    intro m
    induction m with
    | zero =>
      intro i es h hes hpre _
      have : es = (mkOs k is).map GOut.own := by
        refine List.ext_getElem? fun j => ?_
        rcases Nat.lt_or_ge j i with q | q
        · exact hpre j q
        · rw [List.getElem?_eq_none (by omega), List.getElem?_eq_none (by rw [List.length_map, mkOs_len]; omega)]
      rw [laws_markOutS_1_eq, decide_eq_false (by omega), cond_false, this, ← GOut.owns_eq, show is.take i = is from List.take_of_length_le (by omega)]
    | succ m ihm =>
      intro i es h hes hpre hpost
      have hx : is[i]? = some (is[i]'(by omega)) := List.getElem?_eq_getElem (by omega)
      generalize is[i]'(by omega) = x at hx
      have hm : x ∈ is := List.mem_of_getElem? hx
      have ihx := ih x hm
      have ht := cMs_take is i x hx
      have htl := cMs_take_le is (i + 1)
      have hg := mkOs_get is k i x hx
      cases x with
      | mk k' n' t' ks' is' =>
        have hrow : es.getD i [] = [.int .i64 k', .int .i64 n', .str t', .ow 9 1 (ks'.map encS), .ow 29 5 (GOut.owns is')] := by
          rw [List.getD_eq_getElem?_getD, hpost i (Nat.le_refl _), List.getElem?_map, hx]
          rfl
        have hc : cM (.mk k' n' t' ks' is') = 3 + ks'.length + cMs is' := rfl
        rw [hc] at ht
        have q1 := markStringS_ev (ks := ks') (k := k + cMs (is.take i) + 3) (by omega) (by omega)
        have q2 := ihx (k + cMs (is.take i) + 3 + ks'.length) (by omega) (by show _ + ((cMs is' : Nat) : Int) ≤ _; omega)
        rw [mark_row (es := es) (i := i) (k := k + cMs (is.take i)) (by omega) (by omega) hrow (by omega) (by omega) (mt_ev (by omega)) q1 q2]
        have e5 : k + cMs (is.take i) + 3 + ks'.length + ((cMs (itemsO (.mk k' n' t' ks' is')) : Nat) : Int) = k + ((cMs (is.take (i + 1)) : Nat) : Int) := by
          show k + cMs (is.take i) + 3 + ks'.length + ((cMs is' : Nat) : Int) = _
          omega
        rw [e5]
        refine ihm (i + 1) _ (by omega) (by simpa using hes) (fun j hj => ?_) (fun j hj => ?_)
        · by_cases q : j = i
          · subst q
            rw [List.getElem?_set_self (by omega), List.getElem?_map, hg]
            rfl
          · rw [List.getElem?_set_ne (fun e => q e.symm)]
            exact hpre j (by omega)
        · rw [List.getElem?_set_ne (by omega)]
          exact hpost j (by omega)
  have := main is.length 0 (is.map GOut.own) (by omega) (by simp) (fun j hj => by omega) (fun j _ => rfl)
  rw [laws_markOutS_0_ev, laws_markOutS_0_eq]
  have e0 : k + ((cMs (is.take 0) : Nat) : Int) = k := by simp [cMs]
  rw [e0, ← GOut.owns_eq] at this
  exact this
mutual
theorem markItems : ∀ x : GOut, wOut x ≤ 1048576 → MKs (itemsO x)
  | .mk k n t ks is, h => by
    unfold wOut at h
    exact markOuts_of (is := is) (by omega) (markItemss is (by omega))
theorem markItemss : ∀ xs : List GOut, wOuts xs ≤ 1048576 → ∀ x ∈ xs, MKs (itemsO x)
  | [], _, x, hx => by cases hx
  | y :: ys, h, x, hx => by
    unfold wOuts at h
    rcases List.mem_cons.1 hx with q | q
    · rw [q]; exact markItems y (by omega)
    · exact markItemss ys (by omega) x q
end
theorem heldOuts_of {is : List GOut} (hi : is.length ≤ 1048576) (ih : ∀ x ∈ is, HDs (itemsO x)) : HDs is := by
  intro k h0 hk
  have hl : ((mkOs k is).map GOut.enc).length = is.length := by rw [List.length_map, mkOs_len]
  have main : ∀ (m i : Nat), i + m = is.length → laws_heldOutS_1 ((mkOs k is).map GOut.enc) (k + cMs (is.take i)) i = rI (k + cMs is) := by
    intro m
    induction m with
    | zero =>
      intro i h
      rw [laws_heldOutS_1_eq, hl, decide_eq_false (by omega), cond_false, show is.take i = is from List.take_of_length_le (by omega)]
    | succ m ihm =>
      intro i h
      have hx : is[i]? = some (is[i]'(by omega)) := List.getElem?_eq_getElem (by omega)
      generalize is[i]'(by omega) = x at hx
      have hm : x ∈ is := List.mem_of_getElem? hx
      have ihx := ih x hm
      have ht := cMs_take is i x hx
      have htl := cMs_take_le is (i + 1)
      have hg := mkOs_get is k i x hx
      have e4 : IntKind.i64.wrap ((i : Int) + 1) = ((i + 1 : Nat) : Int) := by rw [wrap_id (by omega)]; omega
      have step := ihm (i + 1) (by omega)
      cases x with
      | mk k' n' t' ks' is' =>
        have hc : cM (.mk k' n' t' ks' is') = 3 + ks'.length + cMs is' := rfl
        rw [hc] at ht
        generalize hK : k + ((cMs (is.take i) : Nat) : Int) = K at *
        have e1 : IntKind.i64.wrap (K + 1) = K + 1 := wrap_id (by omega)
        have e2 : IntKind.i64.wrap (K + 1 + 1) = K + 2 := by rw [wrap_id (by omega)]; omega
        have e3 : IntKind.i64.wrap (K + 2 + 1) = K + 3 := by rw [wrap_id (by omega)]; omega
        have q1 := heldStringS_ev (ks := ks') (k := K + 3) (by omega) (by omega)
        have q2 : ev E0 F_laws_heldOutS [.p (.sl 5 ((mkOs (K + 3 + ks'.length) is').map GOut.enc)), .p (.int .i64 (K + 3 + ks'.length))] [] = rI (K + 3 + ks'.length + cMs is') := ihx (K + 3 + ks'.length) (by omega) (by show _ + ((cMs is' : Nat) : Int) ≤ _; omega)
        have hne : ∀ z : Int, (z != z) = false := fun z => by simp
        have hrow : ((mkOs k is).map GOut.enc).getD ((i : Int)).toNat [] = [.int .i64 K, .int .i64 (K + 1), .str (mt (K + 2)), .sl 1 ((mkS (K + 3) ks').map encS), .sl 5 ((mkOs (K + 3 + ks'.length) is').map GOut.enc)] := by
          rw [getD_enc hg]
          exact enc_mk ..
        have a0 : asInt .i64 ([Pd.int .i64 K, .int .i64 (K + 1), .str (mt (K + 2)), .sl 1 ((mkS (K + 3) ks').map encS), .sl 5 ((mkOs (K + 3 + ks'.length) is').map GOut.enc)].getD 0 .undef) = some K := rfl
        have a1 : asInt .i64 (([Pd.int .i64 K, .int .i64 (K + 1), .str (mt (K + 2)), .sl 1 ((mkS (K + 3) ks').map encS), .sl 5 ((mkOs (K + 3 + ks'.length) is').map GOut.enc)].drop 1).getD 0 .undef) = some (K + 1) := rfl
        have a2 : asStr (([Pd.int .i64 K, .int .i64 (K + 1), .str (mt (K + 2)), .sl 1 ((mkS (K + 3) ks').map encS), .sl 5 ((mkOs (K + 3 + ks'.length) is').map GOut.enc)].drop 2).getD 0 .undef) = some (mt (K + 2)) := rfl
        have a3 : asSl 1 (([Pd.int .i64 K, .int .i64 (K + 1), .str (mt (K + 2)), .sl 1 ((mkS (K + 3) ks').map encS), .sl 5 ((mkOs (K + 3 + ks'.length) is').map GOut.enc)].drop 3).getD 0 .undef) = some ((mkS (K + 3) ks').map encS) := rfl
        have a4 : asSl 5 (([Pd.int .i64 K, .int .i64 (K + 1), .str (mt (K + 2)), .sl 1 ((mkS (K + 3) ks').map encS), .sl 5 ((mkOs (K + 3 + ks'.length) is').map GOut.enc)].drop 4).getD 0 .undef) = some ((mkOs (K + 3 + ks'.length) is').map GOut.enc) := rfl
        rw [laws_heldOutS_1_eq, hl, decide_eq_true (by omega), cond_true, if_pos (by omega), hrow, a0, Option.bind_some, hne, cond_false, if_pos (by omega), a1, Option.bind_some, e1, hne, cond_false, if_pos (by omega), a2, Option.bind_some, e2, mt_ev (by omega), bS', decide_eq_true rfl, Bool.not_true, cond_false, if_pos (by omega), a3, Option.bind_some, e3, q1, bI,
          decide_eq_false (by omega), cond_false, if_pos (by omega), a4, Option.bind_some, q2, bI, decide_eq_false (by omega), cond_false, e4]
        have e5 : K + 3 + ks'.length + ((cMs is' : Nat) : Int) = k + ((cMs (is.take (i + 1)) : Nat) : Int) := by omega
        rw [e5]
        exact step
  have := main is.length 0 (by omega)
  rw [laws_heldOutS_0_ev, laws_heldOutS_0_eq]
  have e0 : k + ((cMs (is.take 0) : Nat) : Int) = k := by simp [cMs]
  rw [e0] at this
  exact this
mutual
theorem heldItems : ∀ x : GOut, wOut x ≤ 1048576 → HDs (itemsO x)
  | .mk k n t ks is, h => by
    unfold wOut at h
    exact heldOuts_of (is := is) (by omega) (heldItemss is (by omega))
theorem heldItemss : ∀ xs : List GOut, wOuts xs ≤ 1048576 → ∀ x ∈ xs, HDs (itemsO x)
  | [], _, x, hx => by cases hx
  | y :: ys, h, x, hx => by
    unfold wOuts at h
    rcases List.mem_cons.1 hx with q | q
    · rw [q]; exact heldItems y (by omega)
    · exact heldItemss ys (by omega) x q
end
/-! ### a value -/
abbrev rW2 (n : Int) (o o' : Ob) : Option Res := some ([.p (.int .i64 n)], [o, o'])
theorem bW2 {R : Type} (n : Int) (e s e' s' : Nat) (es es' : List (List Pd)) (K : Int → List (List Pd) → List (List Pd) → Option R) : ((rW2 n (.oarr e s es) (.oarr e' s' es')).bind fun r => (asInt .i64 (pAt 0 r.1)).bind fun n => if r.1.length = 1 then ((asOarr e s (r.2.getD 0 .none)).bind fun l => (asOarr e' s' (r.2.getD 1 .none)).bind fun l' => if r.2.length = 2 then K n l l' else none) else none) = K n es es' := by simp [pAt, asInt, asOarr]
theorem markOut_ev {a b : Int} {t : ByteArray} {ks : List ByteArray} {is : List GOut} (hw : wOut (.mk a b t ks is) ≤ 1048576) : ev E0 F_laws_markOut [.agg 5 [.p (.int .i64 a), .p (.int .i64 b), .p (.str t), .arr (.out 0), .arr (.out 1)], .p (.int .i64 1)] [.oarr 9 1 (ks.map encS), .oarr 29 5 (GOut.owns is)] =
    rW2 (1 + ks.length + cMs is) (.oarr 9 1 ((mkS 1 ks).map encS)) (.oarr 29 5 (GOut.owns (mkOs (1 + ks.length) is))) := by
  have hb := cMs_le is
  have hm : MKs is := markItems _ hw
  unfold wOut at hw
  have hk := wL_len (f := ByteArray.size) (xs := ks) (n := 1048576) (by omega)
  rw [laws_markOut_0_ev, laws_markOut_0_eq, markStringS_ev (by omega) (by omega), bW, hm (1 + ks.length) (by omega) (by omega), bW]
theorem heldOut_ev {a b : Int} {t : ByteArray} {ks : List ByteArray} {is : List GOut} (hw : wOut (.mk a b t ks is) ≤ 1048576) : ev E0 F_laws_heldOut [.p (.agg 5 [.int .i64 a, .int .i64 b, .str t, .sl 1 (colds ((mkS 1 ks).map encS)), .sl 5 (colds (GOut.owns (mkOs (1 + ks.length) is)))]), .p (.int .i64 1)] [] = rI (1 + ks.length + cMs is) := by
  have hb := cMs_le is
  have hm : HDs is := heldItems _ hw
  unfold wOut at hw
  have hk := wL_len (f := ByteArray.size) (xs := ks) (n := 1048576) (by omega)
  have hh : ev E0 F_laws_heldOutS [.p (.sl 5 ((mkOs (1 + ks.length) is).map GOut.enc)), .p (.int .i64 (1 + ks.length))] [] = rI (1 + ks.length + cMs is) := hm (1 + ks.length) (by omega) (by omega)
  rw [colds_enc, colds_owns, GOut.encs_eq, laws_heldOut_0_ev, laws_heldOut_0_eq, heldStringS_ev (by omega) (by omega), bI, decide_eq_false (by omega), cond_false, hh, bI, decide_eq_false (by omega), cond_false]
end Go.Proofs.Ytopogjafbmlfgaa.Dm
