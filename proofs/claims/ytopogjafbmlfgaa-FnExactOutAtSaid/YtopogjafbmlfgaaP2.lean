/- Answers' values as data: sizes, copies, comparisons; out of memory. -/
import Derived.Test.YtopogjafbmlfgaaP1
namespace Go.Proofs.Ytopogjafbmlfgaa.Dm
set_option linter.unusedVariables false
set_option linter.unusedSimpArgs false

inductive GOut where
  | mk (kind n : Int) (t : ByteArray) (keys : List ByteArray) (items : List GOut)
def encS (s : ByteArray) : List Pd := [.str s]
mutual
def GOut.enc : GOut → List Pd
  | .mk k n t ks is => [.int .i64 k, .int .i64 n, .str t, .sl 1 (ks.map encS), .sl 5 (GOut.encs is)]
def GOut.encs : List GOut → List (List Pd)
  | [] => []
  | x :: xs => GOut.enc x :: GOut.encs xs
end
theorem GOut.encs_eq : ∀ xs : List GOut, GOut.encs xs = xs.map GOut.enc
  | [] => rfl
  | x :: xs => by rw [GOut.encs, GOut.encs_eq xs]; rfl
def okS (s : ByteArray) : Prop := s.size ≤ 9223372036854775807
mutual
def wOut : GOut → Nat
  | .mk _ _ t ks is => t.size + wL ByteArray.size ks + (is.length + wOuts is)
def wOuts : List GOut → Nat
  | [] => 0
  | x :: xs => wOut x + wOuts xs
end
theorem wOuts_eq : ∀ xs : List GOut, wOuts xs = (xs.map wOut).sum
  | [] => rfl
  | x :: xs => by rw [wOuts, wOuts_eq xs]; rfl
mutual
def okOut : GOut → Prop
  | .mk _ _ t ks is => okS t ∧ okL okS ks ∧ is.length ≤ 9223372036854775807 ∧ okOuts is
def okOuts : List GOut → Prop
  | [] => True
  | x :: xs => okOut x ∧ okOuts xs
end
theorem okOuts_mem : ∀ {xs : List GOut}, okOuts xs → ∀ x ∈ xs, okOut x
  | x :: xs, h, y, hy => by
    rcases List.mem_cons.1 hy with q | q
    · exact q ▸ h.1
    · exact okOuts_mem h.2 y q
theorem okOuts_of : ∀ {xs : List GOut}, (∀ x ∈ xs, okOut x) → okOuts xs
  | [], _ => trivial
  | x :: xs, h => ⟨h x (List.mem_cons_self ..), okOuts_of fun y hy => h y (List.mem_cons_of_mem _ hy)⟩

/-! ### sizes -/
theorem szStringS_ev {xs : List ByteArray} (h : okL okS xs) {left : Int} (h0 : 0 ≤ left) (h1 : left ≤ 1048576) : ev E0 F_laws_szStringS [.p (.sl 1 (xs.map encS)), .p (.int .i64 left)] [] = rI (szV (wL ByteArray.size xs) left) := by
  rw [laws_szStringS_0_ev, laws_szStringS_0_eq]
  have hlen : (xs.map encS).length = (xs.map ByteArray.size).length := by simp
  rw [hlen]
  have := szRow (L := fun left i => laws_szStringS_1 (xs.map encS) left i) (ws := xs.map ByteArray.size) (by simpa using h.1) h0 h1 (fun i w hw left h0 h1 => by
    rw [List.getElem?_map] at hw
    obtain ⟨x, hx, rfl⟩ := Option.map_eq_some_iff.1 hw
    have hlt := lt_of_get hx
    have hxl := h.1
    have hxs : x.size ≤ 9223372036854775807 := h.2 x (List.mem_of_getElem? hx)
    have e1 : asStr ((encS x).getD 0 .undef) = some x := rfl
    have e2 : IntKind.i64.wrap ((i : Int) + 1) = (i : Int) + 1 := wrap_id (by omega)
    rw [laws_szStringS_1_eq, hlen, List.length_map, decide_eq_true (by omega), cond_true, if_pos (by omega), getD_enc hx, e1, Option.bind_some, e2]
    exact szStr hxs h0 h1 (K := fun n => laws_szStringS_1 (xs.map encS) n ((i : Int) + 1))) (fun left => by
    rw [laws_szStringS_1_eq, hlen]
    exact szDone)
  rw [this]
  simp [wL]
theorem szOutS_of {xs : List GOut} (hlen0 : xs.length ≤ 9223372036854775807) (ih : ∀ x ∈ xs, ∀ left : Int, 0 ≤ left → left ≤ 1048576 → ev E0 F_laws_szOut [.p (.agg 5 x.enc), .p (.int .i64 left)] [] = rI (szV (wOut x) left)) {left : Int} (h0 : 0 ≤ left) (h1 : left ≤ 1048576) :
    ev E0 F_laws_szOutS [.p (.sl 5 (xs.map GOut.enc)), .p (.int .i64 left)] [] = rI (szV (wL wOut xs) left) := by
  rw [laws_szOutS_0_ev, laws_szOutS_0_eq]
  have hlen : (xs.map GOut.enc).length = (xs.map wOut).length := by simp
  rw [hlen]
  have := szRow (L := fun left i => laws_szOutS_1 (xs.map GOut.enc) left i) (ws := xs.map wOut) (by simpa using hlen0) h0 h1 (fun i w hw left h0 h1 => by
    rw [List.getElem?_map] at hw
    obtain ⟨x, hx, rfl⟩ := Option.map_eq_some_iff.1 hw
    rw [laws_szOutS_1_eq, hlen]
    refine szStep (by simpa using lt_of_get hx) (by simpa using hlen0) ?_ h0 (fun left i => laws_szOutS_1 (xs.map GOut.enc) left i)
    rw [getD_enc hx]
    exact ih x (List.mem_of_getElem? hx) left h0 h1) (fun left => by
    rw [laws_szOutS_1_eq, hlen]
    exact szDone)
  rw [this]
  simp [wL]
mutual
theorem szOut_ev : ∀ (x : GOut), okOut x → ∀ left : Int, 0 ≤ left → left ≤ 1048576 → ev E0 F_laws_szOut [.p (.agg 5 x.enc), .p (.int .i64 left)] [] = rI (szV (wOut x) left)
  | .mk k n t ks is, hx, left, h0, h1 => by
    obtain ⟨x1, x2, x3, x4⟩ := hx
    have x1 : t.size ≤ 9223372036854775807 := x1
    have ihs := szOuts_ev is x4
    unfold GOut.enc
    rw [laws_szOut_0_ev, laws_szOut_0_eq]
    by_cases c1 : (t.size : Int) ≤ left
    · rw [wrap_id (n := left - (t.size : Int)) (by omega), decide_eq_false (by omega), cond_false, szStringS_ev x2 (by omega) (by omega), bI]
      by_cases c3 : (wL ByteArray.size ks : Int) ≤ left - t.size
      · rw [szV_pos c3, decide_eq_false (by omega), cond_false, GOut.encs_eq, szOutS_of x3 ihs (by omega) (by omega), bI]
        refine szPart0.trans ?_
        unfold wOut
        rw [wOuts_eq]
        have e : wL wOut is = is.length + (is.map wOut).sum := rfl
        rw [← e]
        have e2 : szV (wL wOut is) (left - t.size - wL ByteArray.size ks) = szV (t.size + wL ByteArray.size ks + wL wOut is) left := by
          unfold szV
          split <;> split <;> omega
        rw [e2]
      · rw [szV_neg c3, decide_eq_true (by omega), cond_true]
        unfold szV wOut
        rw [if_neg (by omega)]
    · rw [wrap_id (n := left - (t.size : Int)) (by omega), decide_eq_true (by omega), cond_true]
      unfold szV wOut
      rw [if_neg (by omega)]
theorem szOuts_ev : ∀ (xs : List GOut), okOuts xs → ∀ x ∈ xs, ∀ left : Int, 0 ≤ left → left ≤ 1048576 → ev E0 F_laws_szOut [.p (.agg 5 x.enc), .p (.int .i64 left)] [] = rI (szV (wOut x) left)
  | [], _, x, hx => by cases hx
  | y :: ys, h, x, hx => by
    rcases List.mem_cons.1 hx with q | q
    · rw [q]; exact szOut_ev y h.1
    · exact szOuts_ev ys h.2 x q
end

/-! ### copies: rows of one's own -/
mutual
/-- a value as the content of an owned row -/
def GOut.own : GOut → List Pd
  | .mk k n t ks is => [.int .i64 k, .int .i64 n, .str t, .ow 9 1 (ks.map encS), .ow 29 5 (GOut.owns is)]
def GOut.owns : List GOut → List (List Pd)
  | [] => []
  | x :: xs => x.own :: GOut.owns xs
end
theorem GOut.owns_eq : ∀ xs : List GOut, GOut.owns xs = xs.map GOut.own
  | [] => rfl
  | x :: xs => by simp only [GOut.owns, List.map_cons, GOut.owns_eq xs]
theorem okEs_enc (xs : List ByteArray) : okEs (xs.map encS) = true := by
  unfold okEs
  rw [List.all_map]
  exact List.all_eq_true.2 fun x _ => rfl
theorem colds_enc : ∀ xs : List ByteArray, colds (xs.map encS) = xs.map encS
  | [] => rfl
  | x :: xs => by simp only [List.map_cons, colds, colds_enc xs]; rfl
mutual
theorem coldc_own : ∀ x : GOut, coldc x.own = x.enc
  | .mk k n t ks is => by
    unfold GOut.own GOut.enc
    simp only [coldc, cold, colds_enc, colds_owns is]
theorem colds_owns : ∀ xs : List GOut, colds (GOut.owns xs) = GOut.encs xs
  | [] => rfl
  | x :: xs => by simp only [GOut.owns, GOut.encs, colds, coldc_own x, colds_owns xs]
end
/-- texts as a result that is one's own -/
abbrev rOwnS (ks : List ByteArray) : Option Res := some ([.arr (.out 0)], [.arr 9 1 16 false (ks.map encS)])
abbrev rOwnOs (is : List GOut) : Option Res := some ([.arr (.out 0)], [.oarr 29 5 (GOut.owns is)])
def rOwn : GOut → Option Res
  | .mk k n t ks is => some ([.agg 5 [.p (.int .i64 k), .p (.int .i64 n), .p (.str t), .arr (.out 0), .arr (.out 1)]], [.arr 9 1 16 false (ks.map encS), .oarr 29 5 (GOut.owns is)])
theorem asOwn_S {es : List (List Pd)} (h : okEs es = true) : asOwn E0.P [22] ([.arr (.out 0)], [.arr 9 1 16 false es]) = some ([.undef], [es]) := by
  have e : asOwn E0.P [22] ([.arr (.out 0)], [.arr 9 1 16 false es]) = (match (if okEs es = true then some es else none : Option (List (List Pd))) with | some es => some ([Pd.undef], [es]) | none => none) := by kernel_rfl
  rw [e, if_pos h]
theorem asOwn_Os (es : List (List Pd)) : asOwn E0.P [27] ([.arr (.out 0)], [.oarr 29 5 es]) = some ([.undef], [es]) := by kernel_rfl
theorem asOwn_O (k n : Int) (t : ByteArray) {es : List (List Pd)} (es' : List (List Pd)) (h : okEs es = true) : asOwn E0.P [29] ([.agg 5 [.p (.int .i64 k), .p (.int .i64 n), .p (.str t), .arr (.out 0), .arr (.out 1)]], [.arr 9 1 16 false es, .oarr 29 5 es']) = some ([.int .i64 k, .int .i64 n, .str t, .undef, .undef], [es, es']) := by
  have e : asOwn E0.P [29] ([.agg 5 [.p (.int .i64 k), .p (.int .i64 n), .p (.str t), .arr (.out 0), .arr (.out 1)]], [.arr 9 1 16 false es, .oarr 29 5 es']) = (match (match (match (match (if okEs es = true then some es else none : Option (List (List Pd))) with | some es => some ([Pd.undef, Pd.undef], [es, es']) | none => none) with | some (xs, rows) => some (Pd.str t :: xs, rows) | none => none : Option (List Pd × List (List (List Pd)))) with | some (xs, rows) => some (Pd.int .i64 n :: xs, rows) | none => none : Option (List Pd × List (List (List Pd)))) with | some (xs, rows) => some (Pd.int .i64 k :: xs, rows) | none => none) := by kernel_rfl
  rw [e, if_pos h]
theorem toStringS_ev {xs : List ByteArray} (h : xs.length ≤ 1048576) : ev E0 F_laws_toStringS [.p (.sl 1 (xs.map encS))] [] = rOwnS xs := by
  rw [laws_toStringS_0_ev, laws_toStringS_0_eq, toFront (by simp; omega) (by omega)]
  have hl : (xs.map encS).length = xs.length := by simp
  have main : ∀ (m i : Nat) (es : List (List Pd)), i + m = xs.length → es.length = xs.length → (∀ j, j < i → es[j]? = (xs.map encS)[j]?) → laws_toStringS_1 (xs.map encS) i es = rOwnS xs := by
    intro m
    induction m with
    | zero =>
      intro i es hi hes hpre
      have : es = xs.map encS := by
        refine List.ext_getElem? fun j => ?_
        rcases Nat.lt_or_ge j i with q | q
        · exact hpre j q
        · rw [List.getElem?_eq_none (by omega), List.getElem?_eq_none (by omega)]
      rw [laws_toStringS_1_eq, hl, decide_eq_false (by omega), cond_false, this, if_pos (okEs_enc xs)]
    | succ m ih =>
      intro i es hi hes hpre
      have hx : xs[i]? = some (xs[i]'(by omega)) := List.getElem?_eq_getElem (by omega)
      generalize xs[i]'(by omega) = x at hx
      have e1 : asStr ((encS x).getD 0 .undef) = some x := rfl
      have e2 : IntKind.i64.wrap ((i : Int) + 1) = (i : Int) + 1 := wrap_id (by omega)
      rw [laws_toStringS_1_eq, hl, hes, decide_eq_true (by omega), cond_true, if_pos (by omega), getD_enc hx, e1, Option.bind_some, e2]
      rw [if_pos (by omega), if_pos ⟨rfl, by omega⟩, if_pos (by omega)]
      refine ih (i + 1) _ (by omega) (by simp [setEl, hes]) fun j hj => ?_
      have es_ : setEl es ((i : Int)).toNat 1 0 1 (.str x) = es.set i (encS x) := by simp [setEl, pcells, encS]
      rw [es_]
      by_cases q : j = i
      · subst q
        rw [List.getElem?_set_self (by omega), List.getElem?_map, hx]
        rfl
      · rw [List.getElem?_set_ne (fun e => q e.symm)]
        exact hpre j (by omega)
  exact main xs.length 0 _ (by omega) (by simp) (fun j hj => by omega)

theorem own_cells_mk (k n : Int) (t : ByteArray) (ks : List ByteArray) (is : List GOut) : [Pd.int .i64 k, .int .i64 n, .str t, .ow 9 1 (ks.map encS), .ow 29 5 (GOut.owns is)] = (GOut.mk k n t ks is).own := rfl
theorem setCs_all {es : List (List Pd)} {i s : Nat} {c : List Pd} : setCs es i s 0 s c = es.set i c := by simp [setCs]
theorem toOutS_of {xs : List GOut} (h : xs.length ≤ 1048576) (ih : ∀ x ∈ xs, ev E0 F_laws_toOut [.p (.agg 5 x.enc)] [] = rOwn x) : ev E0 F_laws_toOutS [.p (.sl 5 (xs.map GOut.enc))] [] = rOwnOs xs := by
  rw [laws_toOutS_0_ev, laws_toOutS_0_eq, toFront (by simp; omega) (by omega)]
  have hl : (xs.map GOut.enc).length = xs.length := by simp
  have main : ∀ (m i : Nat) (es : List (List Pd)), i + m = xs.length → es.length = xs.length → (∀ j, j < i → es[j]? = (xs.map GOut.own)[j]?) → laws_toOutS_1 (xs.map GOut.enc) i es = rOwnOs xs := by
    intro m
    induction m with
    | zero =>
      intro i es hi hes hpre
      have : es = xs.map GOut.own := by
        refine List.ext_getElem? fun j => ?_
        rcases Nat.lt_or_ge j i with q | q
        · exact hpre j q
        · rw [List.getElem?_eq_none (by omega), List.getElem?_eq_none (by simp; omega)]
      rw [laws_toOutS_1_eq, hl, decide_eq_false (by omega), cond_false, this, ← GOut.owns_eq]
    | succ m ihm =>
      intro i es hi hes hpre
      have hx : xs[i]? = some (xs[i]'(by omega)) := List.getElem?_eq_getElem (by omega)
      generalize xs[i]'(by omega) = x at hx
      have hm : x ∈ xs := List.mem_of_getElem? hx
      have e2 : IntKind.i64.wrap ((i : Int) + 1) = (i : Int) + 1 := wrap_id (by omega)
      have step := ihm (i + 1) (es.set i x.own) (by omega) (by simpa using hes) fun j hj => by
        by_cases q : j = i
        · subst q
          rw [List.getElem?_set_self (by omega), List.getElem?_map, hx]
          rfl
        · rw [List.getElem?_set_ne (fun e => q e.symm)]
          exact hpre j (by omega)
      have ihx := ih x hm
      cases x with
      | mk k n t ks is =>
        unfold rOwn at ihx
        rw [laws_toOutS_1_eq, hl, hes, decide_eq_true (by omega), cond_true, if_pos (by omega), getD_enc hx, ihx, Option.bind_some, asOwn_O _ _ _ _ (okEs_enc ks), Option.bind_some]
        simp only [List.getD_cons_zero, List.getD_cons_succ, asInt, asStr, if_true, Option.bind_some]
        rw [if_pos (by omega), if_pos ⟨trivial, by omega, by omega⟩, if_pos ⟨trivial, trivial, okEs_enc ks⟩, e2, setCs_all]
        exact step
  exact main xs.length 0 _ (by omega) (by simp) (fun j hj => by omega)
mutual
theorem toOut_ev : ∀ (x : GOut), wOut x ≤ 1048576 → ev E0 F_laws_toOut [.p (.agg 5 x.enc)] [] = rOwn x
  | .mk k n t ks is, hx => by
    unfold wOut at hx
    unfold GOut.enc rOwn
    rw [laws_toOut_0_ev, laws_toOut_0_eq, toStringS_ev (wL_len (f := ByteArray.size) (by omega)), Option.bind_some, asOwn_S (okEs_enc ks), Option.bind_some, GOut.encs_eq, toOutS_of (by omega) (toOuts_ev is (by omega)), Option.bind_some, asOwn_Os, Option.bind_some]
    exact if_pos (okEs_enc ks)
theorem toOuts_ev : ∀ (xs : List GOut), wOuts xs ≤ 1048576 → ∀ x ∈ xs, ev E0 F_laws_toOut [.p (.agg 5 x.enc)] [] = rOwn x
  | [], _, x, hx => by cases hx
  | y :: ys, h, x, hx => by
    unfold wOuts at h
    rcases List.mem_cons.1 hx with q | q
    · rw [q]; exact toOut_ev y (by omega)
    · exact toOuts_ev ys (by omega) x q
end
/-- results of one's own, read as data -/
theorem coldR_rOwn (x : GOut) : (rOwn x).bind coldR = rA 5 x.enc := by
  cases x with
  | mk k n t ks is =>
    have h1 := colds_owns is
    unfold rOwn GOut.enc
    rw [Option.bind_some]
    have e : coldR ([.agg 5 [.p (.int .i64 k), .p (.int .i64 n), .p (.str t), .arr (.out 0), .arr (.out 1)]], [.arr 9 1 16 false (ks.map encS), .oarr 29 5 (GOut.owns is)]) = some ([.p (.agg 5 [.int .i64 k, .int .i64 n, .str t, .sl 1 (ks.map encS), .sl 5 (colds (GOut.owns is))])], []) := by kernel_rfl
    rw [e, h1]

/-! ### what is equal to itself -/
theorem eqStringS_ev {xs : List ByteArray} (h : xs.length ≤ 9223372036854775807) : ev E0 F_laws_eqStringS [.p (.sl 1 (xs.map encS)), .p (.sl 1 (xs.map encS))] [] = rB true := by
  have hl : (xs.map encS).length = xs.length := by simp
  rw [laws_eqStringS_0_ev, laws_eqStringS_0_eq, ne_self, cond_false]
  exact eqLoop (L := fun i => laws_eqStringS_1 (xs.map encS) (xs.map encS) i) (n := (xs.map encS).length) (fun i hi => by
    have hi' : i < xs.length := by simpa using hi
    have e1 : asStr ((encS xs[i]).getD 0 .undef) = some xs[i] := rfl
    have e2 : IntKind.i64.wrap ((i : Int) + 1) = (i : Int) + 1 := wrap_id (by omega)
    rw [laws_eqStringS_1_eq, hl, decide_eq_true (by omega), cond_true, if_pos (by omega), getD_enc (List.getElem?_eq_getElem hi'), e1, Option.bind_some, if_pos (by omega), Option.bind_some, nd_self, cond_false, e2]) (by
    rw [laws_eqStringS_1_eq]; exact szDone) (xs.map encS).length 0 (by omega)
theorem eqOutS_of {xs : List GOut} (h : xs.length ≤ 9223372036854775807) (ih : ∀ x ∈ xs, ev E0 F_laws_eqOut [.p (.agg 5 x.enc), .p (.agg 5 x.enc)] [] = rB true) : ev E0 F_laws_eqOutS [.p (.sl 5 (xs.map GOut.enc)), .p (.sl 5 (xs.map GOut.enc))] [] = rB true := by
  rw [laws_eqOutS_0_ev, laws_eqOutS_0_eq, ne_self, cond_false]
  exact eqLoop (L := fun i => laws_eqOutS_1 (xs.map GOut.enc) (xs.map GOut.enc) i) (n := (xs.map GOut.enc).length) (fun i hi => by
    have hi' : i < xs.length := by simpa using hi
    rw [laws_eqOutS_1_eq]
    exact eqStep hi (by simpa using h) (by rw [getD_enc (List.getElem?_eq_getElem hi')]; exact ih _ (List.getElem_mem _)) (fun i => laws_eqOutS_1 (xs.map GOut.enc) (xs.map GOut.enc) i)) (by
    rw [laws_eqOutS_1_eq]; exact szDone) (xs.map GOut.enc).length 0 (by omega)
mutual
theorem eqOut_ev : ∀ (x : GOut), okOut x → ev E0 F_laws_eqOut [.p (.agg 5 x.enc), .p (.agg 5 x.enc)] [] = rB true
  | .mk k n t ks is, hx => by
    obtain ⟨x1, x2, x5, x6⟩ := hx
    unfold GOut.enc
    rw [laws_eqOut_0_ev, laws_eqOut_0_eq, ne_self, ne_self, nd_self, cond_false, cond_false, cond_false, eqStringS_ev x2.1, bB, GOut.encs_eq]
    show ((ev E0 F_laws_eqOutS _ _).bind _) = _
    rw [eqOutS_of x5 (eqOuts_ev is x6), bB]
    rfl
theorem eqOuts_ev : ∀ (xs : List GOut), okOuts xs → ∀ x ∈ xs, ev E0 F_laws_eqOut [.p (.agg 5 x.enc), .p (.agg 5 x.enc)] [] = rB true
  | [], _, x, hx => by cases hx
  | y :: ys, h, x, hx => by
    rcases List.mem_cons.1 hx with q | q
    · rw [q]; exact eqOut_ev y h.1
    · exact eqOuts_ev ys h.2 x q
end

/-! ### out of memory -/
theorem len5 {l : List Pd} (h : l.length = 5) : ∃ a b c d e, l = [a, b, c, d, e] := by
  match l, h with
  | [a, b, c, d, e], _ => exact ⟨a, b, c, d, e, rfl⟩
theorem c_int : Try.prog.cellsOf 3 = 1 := by kernel_rfl
theorem c_string : Try.prog.cellsOf 9 = 1 := by kernel_rfl
theorem c_Out : Try.prog.cellsOf 25 = 5 := by kernel_rfl
theorem c_StrS : Try.prog.cellsOf 22 = 1 := by kernel_rfl
theorem c_OutS : Try.prog.cellsOf 23 = 1 := by kernel_rfl
theorem dec_Str {xs : List Pd} (h : WT Try.prog 9 xs) : ∃ s : ByteArray, xs = encS s ∧ okS s := by
  obtain ⟨s, e, w⟩ := h.str_inv Try.underlying9
  exact ⟨s, e, w⟩
theorem dec_Out : ∀ (n : Nat) (xs : List Pd), SizeOf.sizeOf xs ≤ n → WT Try.prog 25 xs → ∃ v : GOut, xs = v.enc ∧ okOut v
  | n, xs, hn, h => by
    obtain ⟨hl, hf⟩ := h.struct_inv Try.underlying25
    rw [c_Out] at hl
    obtain ⟨a, b, c, d, e, rfl⟩ := len5 hl
    simp only [List.mem_cons, List.not_mem_nil, or_false, forall_eq_or_imp, forall_eq, c_int, c_string, c_StrS, c_OutS] at hf
    obtain ⟨h1, h2, h3, h4, h5⟩ := hf
    obtain ⟨k, e1, _⟩ := h1.int_inv Try.underlying3
    obtain ⟨nn, e2, _⟩ := h2.int_inv Try.underlying3
    obtain ⟨tt, e3, w3⟩ := h3.str_inv Try.underlying9
    obtain ⟨es4, e4, l4, _, x4⟩ := h4.sl_inv Try.underlying22
    obtain ⟨es5, e5, l5, _, x5⟩ := h5.sl_inv Try.underlying23
    rw [c_string] at e4
    rw [c_Out] at e5
    simp at e1 e2 e3 e4 e5
    subst e1 e2 e3 e4 e5
    obtain ⟨ks, q4, o4⟩ := list_dec (f := encS) (ok := okS) (fun x hx => dec_Str (x4 x hx))
    have hrec : ∀ x ∈ es5, ∃ v, x = GOut.enc v ∧ okOut v := fun x hx => by
      have hlt := List.sizeOf_lt_of_mem hx
      cases n with
      | zero => simp at hn
      | succ n => exact dec_Out n x (by simp at hn; omega) (x5 x hx)
    obtain ⟨ss, q5, o5⟩ := list_dec (f := GOut.enc) (ok := okOut) hrec
    subst q4 q5
    refine ⟨.mk k nn tt ks ss, ?_, w3, ⟨by simpa using l4, o4⟩, by simpa using l5, okOuts_of o5⟩
    unfold GOut.enc
    rw [GOut.encs_eq]
def outTypes : List TypeId := [3, 9, 25, 22, 23]
theorem outTypes_ok : dataSet Try.prog outTypes = true := by kernel_rfl
end Go.Proofs.Ytopogjafbmlfgaa.Dm
