/- Answers' values as data: sizes, copies, comparisons; out of memory. -/
import Derived.Test.YtgbohielfiighaaGreatDoorO1
namespace Go.Proofs.YtgbohielfiighaaGreatDoor.Dm
set_option linter.unusedVariables false
set_option linter.unusedSimpArgs false

inductive GOut where
  | mk (kind n : Int) (t : ByteArray) (keys : List ByteArray) (items : List GOut)
def encS (s : ByteArray) : List Pd := [.str s]
mutual
def GOut.enc : GOut → List Pd
  | .mk k n t ks is => [.int .i64 k, .int .i64 n, .str t, .sl 1 (ks.map encS), .sl 5 (GOut.encs is)]
def GOut.encs : List GOut → List (List Pd)
  | [] => []
  | x :: xs => GOut.enc x :: GOut.encs xs
end
theorem GOut.encs_eq : ∀ xs : List GOut, GOut.encs xs = xs.map GOut.enc
  | [] => rfl
  | x :: xs => by rw [GOut.encs, GOut.encs_eq xs]; rfl
def okS (s : ByteArray) : Prop := s.size ≤ 9223372036854775807
mutual
def wOut : GOut → Nat
  | .mk _ _ t ks is => t.size + wL ByteArray.size ks + (is.length + wOuts is)
def wOuts : List GOut → Nat
  | [] => 0
  | x :: xs => wOut x + wOuts xs
end
theorem wOuts_eq : ∀ xs : List GOut, wOuts xs = (xs.map wOut).sum
  | [] => rfl
  | x :: xs => by rw [wOuts, wOuts_eq xs]; rfl
mutual
def okOut : GOut → Prop
  | .mk _ _ t ks is => okS t ∧ okL okS ks ∧ is.length ≤ 9223372036854775807 ∧ okOuts is
def okOuts : List GOut → Prop
  | [] => True
  | x :: xs => okOut x ∧ okOuts xs
end
theorem okOuts_mem : ∀ {xs : List GOut}, okOuts xs → ∀ x ∈ xs, okOut x
  | x :: xs, h, y, hy => by
    rcases List.mem_cons.1 hy with q | q
    · exact q ▸ h.1
    · exact okOuts_mem h.2 y q
theorem okOuts_of : ∀ {xs : List GOut}, (∀ x ∈ xs, okOut x) → okOuts xs
  | [], _ => trivial
  | x :: xs, h => ⟨h x (List.mem_cons_self ..), okOuts_of fun y hy => h y (List.mem_cons_of_mem _ hy)⟩

/-! ### sizes -/
theorem szStringS_ev {xs : List ByteArray} (h : okL okS xs) {left : Int} (h0 : 0 ≤ left) (h1 : left ≤ 1048576) : ev E0 F_laws_szStringS [.p (.sl 1 (xs.map encS)), .p (.int .i64 left)] [] = rI (szV (wL ByteArray.size xs) left) := by
  rw [laws_szStringS_0_ev, laws_szStringS_0_eq]
  have hlen : (xs.map encS).length = (xs.map ByteArray.size).length := by simp
  rw [hlen]
  have := szRow (L := fun left i => laws_szStringS_1 (xs.map encS) left i) (ws := xs.map ByteArray.size) (by simpa using h.1) h0 h1 (fun i w hw left h0 h1 => by
    rw [List.getElem?_map] at hw
    obtain ⟨x, hx, rfl⟩ := Option.map_eq_some_iff.1 hw
    have hlt := lt_of_get hx
    have hxl := h.1
    have hxs : x.size ≤ 9223372036854775807 := h.2 x (List.mem_of_getElem? hx)
    have e1 : asStr ((encS x).getD 0 .undef) = some x := rfl
    have e2 : IntKind.i64.wrap ((i : Int) + 1) = (i : Int) + 1 := wrap_id (by omega)
    rw [laws_szStringS_1_eq, hlen, List.length_map, decide_eq_true (by omega), cond_true, if_pos (by omega), getD_enc hx, e1, Option.bind_some, e2]
    exact szStr hxs h0 h1 (K := fun n => laws_szStringS_1 (xs.map encS) n ((i : Int) + 1))) (fun left => by
    rw [laws_szStringS_1_eq, hlen]
    exact szDone)
  rw [this]
  simp [wL]
theorem szOutS_of {xs : List GOut} (hlen0 : xs.length ≤ 9223372036854775807) (ih : ∀ x ∈ xs, ∀ left : Int, 0 ≤ left → left ≤ 1048576 → ev E0 F_laws_szOut [.p (.agg 5 x.enc), .p (.int .i64 left)] [] = rI (szV (wOut x) left)) {left : Int} (h0 : 0 ≤ left) (h1 : left ≤ 1048576) :
    ev E0 F_laws_szOutS [.p (.sl 5 (xs.map GOut.enc)), .p (.int .i64 left)] [] = rI (szV (wL wOut xs) left) := by
  rw [laws_szOutS_0_ev, laws_szOutS_0_eq]
  have hlen : (xs.map GOut.enc).length = (xs.map wOut).length := by simp
  rw [hlen]
  have := szRow (L := fun left i => laws_szOutS_1 (xs.map GOut.enc) left i) (ws := xs.map wOut) (by simpa using hlen0) h0 h1 (fun i w hw left h0 h1 => by
    rw [List.getElem?_map] at hw
    obtain ⟨x, hx, rfl⟩ := Option.map_eq_some_iff.1 hw
    rw [laws_szOutS_1_eq, hlen]
    refine szStep (by simpa using lt_of_get hx) (by simpa using hlen0) ?_ h0 (fun left i => laws_szOutS_1 (xs.map GOut.enc) left i)
    rw [getD_enc hx]
    exact ih x (List.mem_of_getElem? hx) left h0 h1) (fun left => by
    rw [laws_szOutS_1_eq, hlen]
    exact szDone)
  rw [this]
  simp [wL]
mutual
theorem szOut_ev : ∀ (x : GOut), okOut x → ∀ left : Int, 0 ≤ left → left ≤ 1048576 → ev E0 F_laws_szOut [.p (.agg 5 x.enc), .p (.int .i64 left)] [] = rI (szV (wOut x) left)
  | .mk k n t ks is, hx, left, h0, h1 => by
    obtain ⟨x1, x2, x3, x4⟩ := hx
    have x1 : t.size ≤ 9223372036854775807 := x1
    have ihs := szOuts_ev is x4
    unfold GOut.enc
    rw [laws_szOut_0_ev, laws_szOut_0_eq]
    by_cases c1 : (t.size : Int) ≤ left
    · rw [wrap_id (n := left - (t.size : Int)) (by omega), decide_eq_false (by omega), cond_false, szStringS_ev x2 (by omega) (by omega), bI]
      by_cases c3 : (wL ByteArray.size ks : Int) ≤ left - t.size
      · rw [szV_pos c3, decide_eq_false (by omega), cond_false, GOut.encs_eq, szOutS_of x3 ihs (by omega) (by omega), bI]
        refine szPart0.trans ?_
        unfold wOut
        rw [wOuts_eq]
        have e : wL wOut is = is.length + (is.map wOut).sum := rfl
        rw [← e]
        have e2 : szV (wL wOut is) (left - t.size - wL ByteArray.size ks) = szV (t.size + wL ByteArray.size ks + wL wOut is) left := by
          unfold szV
          split <;> split <;> omega
        rw [e2]
      · rw [szV_neg c3, decide_eq_true (by omega), cond_true]
        unfold szV wOut
        rw [if_neg (by omega)]
    · rw [wrap_id (n := left - (t.size : Int)) (by omega), decide_eq_true (by omega), cond_true]
      unfold szV wOut
      rw [if_neg (by omega)]
theorem szOuts_ev : ∀ (xs : List GOut), okOuts xs → ∀ x ∈ xs, ∀ left : Int, 0 ≤ left → left ≤ 1048576 → ev E0 F_laws_szOut [.p (.agg 5 x.enc), .p (.int .i64 left)] [] = rI (szV (wOut x) left)
  | [], _, x, hx => by cases hx
  | y :: ys, h, x, hx => by
    rcases List.mem_cons.1 hx with q | q
    · rw [q]; exact szOut_ev y h.1
    · exact szOuts_ev ys h.2 x q
end

/-! ### copies -/
theorem toStringS_ev {xs : List ByteArray} (h : xs.length ≤ 1048576) : ev E0 F_laws_toStringS [.p (.sl 1 (xs.map encS))] [] = rL 1 (xs.map encS) := by
  rw [laws_toStringS_0_ev, laws_toStringS_0_eq, toFront (by simp; omega) (by omega)]
  have := toLoop (L := fun i es => laws_toStringS_1 (xs.map encS) i es) (ys := xs.map encS) (s := 1) (fun i y hy es hes => by
    rw [List.getElem?_map] at hy
    obtain ⟨x, hx, rfl⟩ := Option.map_eq_some_iff.1 hy
    have hlt := lt_of_get hx
    have e1 : asStr ((encS x).getD 0 .undef) = some x := rfl
    have e2 : IntKind.i64.wrap ((i : Int) + 1) = (i : Int) + 1 := wrap_id (by omega)
    have hl : (xs.map encS).length = xs.length := by simp
    have hel : es.length = xs.length := by rw [hes, hl]
    rw [laws_toStringS_1_eq, hl, hel, decide_eq_true (by omega), cond_true, if_pos (by omega), getD_enc hx, e1, Option.bind_some, e2]
    rw [if_pos (by omega)]
    rw [if_pos ⟨rfl, by omega⟩]
    rw [if_pos (by omega)]
    rfl) (fun es hes => by
    rw [laws_toStringS_1_eq]
    exact szDone)
  exact this (xs.map encS).length 0 _ (by omega) (by simp) (fun j hj => by omega)
theorem toOutS_of {xs : List GOut} (h : xs.length ≤ 1048576) (ih : ∀ x ∈ xs, ev E0 F_laws_toOut [.p (.agg 5 x.enc)] [] = rA 5 x.enc) : ev E0 F_laws_toOutS [.p (.sl 5 (xs.map GOut.enc))] [] = rL 5 (xs.map GOut.enc) := by
  rw [laws_toOutS_0_ev, laws_toOutS_0_eq, toFront (by simp; omega) (by omega)]
  have := toLoop (L := fun i es => laws_toOutS_1 (xs.map GOut.enc) i es) (ys := xs.map GOut.enc) (s := 5) (fun i y hy es hes => by
    rw [List.getElem?_map] at hy
    obtain ⟨x, hx, rfl⟩ := Option.map_eq_some_iff.1 hy
    rw [laws_toOutS_1_eq]
    exact toStep (by simpa using lt_of_get hx) (by simp; omega) (by rw [getD_enc hx]; exact ih x (List.mem_of_getElem? hx)) es hes (fun i es => laws_toOutS_1 (xs.map GOut.enc) i es)) (fun es hes => by
    rw [laws_toOutS_1_eq]
    exact szDone)
  exact this (xs.map GOut.enc).length 0 _ (by omega) (by simp) (fun j hj => by omega)
mutual
theorem toOut_ev : ∀ (x : GOut), wOut x ≤ 1048576 → ev E0 F_laws_toOut [.p (.agg 5 x.enc)] [] = rA 5 x.enc
  | .mk k n t ks is, hx => by
    unfold wOut at hx
    unfold GOut.enc
    rw [laws_toOut_0_ev, laws_toOut_0_eq, toStringS_ev (wL_len (f := ByteArray.size) (by omega)), bL, GOut.encs_eq, toOutS_of (by omega) (toOuts_ev is (by omega)), bL]
theorem toOuts_ev : ∀ (xs : List GOut), wOuts xs ≤ 1048576 → ∀ x ∈ xs, ev E0 F_laws_toOut [.p (.agg 5 x.enc)] [] = rA 5 x.enc
  | [], _, x, hx => by cases hx
  | y :: ys, h, x, hx => by
    unfold wOuts at h
    rcases List.mem_cons.1 hx with q | q
    · rw [q]; exact toOut_ev y (by omega)
    · exact toOuts_ev ys (by omega) x q
end

/-! ### what is equal to itself -/
theorem eqStringS_ev {xs : List ByteArray} (h : xs.length ≤ 9223372036854775807) : ev E0 F_laws_eqStringS [.p (.sl 1 (xs.map encS)), .p (.sl 1 (xs.map encS))] [] = rB true := by
  have hl : (xs.map encS).length = xs.length := by simp
  rw [laws_eqStringS_0_ev, laws_eqStringS_0_eq, ne_self, cond_false]
  exact eqLoop (L := fun i => laws_eqStringS_1 (xs.map encS) (xs.map encS) i) (n := (xs.map encS).length) (fun i hi => by
    have hi' : i < xs.length := by simpa using hi
    have e1 : asStr ((encS xs[i]).getD 0 .undef) = some xs[i] := rfl
    have e2 : IntKind.i64.wrap ((i : Int) + 1) = (i : Int) + 1 := wrap_id (by omega)
    rw [laws_eqStringS_1_eq, hl, decide_eq_true (by omega), cond_true, if_pos (by omega), getD_enc (List.getElem?_eq_getElem hi'), e1, Option.bind_some, if_pos (by omega), Option.bind_some, nd_self, cond_false, e2]) (by
    rw [laws_eqStringS_1_eq]; exact szDone) (xs.map encS).length 0 (by omega)
theorem eqOutS_of {xs : List GOut} (h : xs.length ≤ 9223372036854775807) (ih : ∀ x ∈ xs, ev E0 F_laws_eqOut [.p (.agg 5 x.enc), .p (.agg 5 x.enc)] [] = rB true) : ev E0 F_laws_eqOutS [.p (.sl 5 (xs.map GOut.enc)), .p (.sl 5 (xs.map GOut.enc))] [] = rB true := by
  rw [laws_eqOutS_0_ev, laws_eqOutS_0_eq, ne_self, cond_false]
  exact eqLoop (L := fun i => laws_eqOutS_1 (xs.map GOut.enc) (xs.map GOut.enc) i) (n := (xs.map GOut.enc).length) (fun i hi => by
    have hi' : i < xs.length := by simpa using hi
    rw [laws_eqOutS_1_eq]
    exact eqStep hi (by simpa using h) (by rw [getD_enc (List.getElem?_eq_getElem hi')]; exact ih _ (List.getElem_mem _)) (fun i => laws_eqOutS_1 (xs.map GOut.enc) (xs.map GOut.enc) i)) (by
    rw [laws_eqOutS_1_eq]; exact szDone) (xs.map GOut.enc).length 0 (by omega)
mutual
theorem eqOut_ev : ∀ (x : GOut), okOut x → ev E0 F_laws_eqOut [.p (.agg 5 x.enc), .p (.agg 5 x.enc)] [] = rB true
  | .mk k n t ks is, hx => by
    obtain ⟨x1, x2, x5, x6⟩ := hx
    unfold GOut.enc
    rw [laws_eqOut_0_ev, laws_eqOut_0_eq, ne_self, ne_self, nd_self, cond_false, cond_false, cond_false, eqStringS_ev x2.1, bB, GOut.encs_eq]
    show ((ev E0 F_laws_eqOutS _ _).bind _) = _
    rw [eqOutS_of x5 (eqOuts_ev is x6), bB]
    rfl
theorem eqOuts_ev : ∀ (xs : List GOut), okOuts xs → ∀ x ∈ xs, ev E0 F_laws_eqOut [.p (.agg 5 x.enc), .p (.agg 5 x.enc)] [] = rB true
  | [], _, x, hx => by cases hx
  | y :: ys, h, x, hx => by
    rcases List.mem_cons.1 hx with q | q
    · rw [q]; exact eqOut_ev y h.1
    · exact eqOuts_ev ys h.2 x q
end

/-! ### out of memory -/
theorem len5 {l : List Pd} (h : l.length = 5) : ∃ a b c d e, l = [a, b, c, d, e] := by
  match l, h with
  | [a, b, c, d, e], _ => exact ⟨a, b, c, d, e, rfl⟩
theorem c_int : Tryz.prog.cellsOf 3 = 1 := by kernel_rfl
theorem c_string : Tryz.prog.cellsOf 9 = 1 := by kernel_rfl
theorem c_Out : Tryz.prog.cellsOf 25 = 5 := by kernel_rfl
theorem c_StrS : Tryz.prog.cellsOf 22 = 1 := by kernel_rfl
theorem c_OutS : Tryz.prog.cellsOf 23 = 1 := by kernel_rfl
theorem dec_Str {xs : List Pd} (h : WT Tryz.prog 9 xs) : ∃ s : ByteArray, xs = encS s ∧ okS s := by
  obtain ⟨s, e, w⟩ := h.str_inv Tryz.underlying9
  exact ⟨s, e, w⟩
theorem dec_Out : ∀ (n : Nat) (xs : List Pd), SizeOf.sizeOf xs ≤ n → WT Tryz.prog 25 xs → ∃ v : GOut, xs = v.enc ∧ okOut v
  | n, xs, hn, h => by
    obtain ⟨hl, hf⟩ := h.struct_inv Tryz.underlying25
    rw [c_Out] at hl
    obtain ⟨a, b, c, d, e, rfl⟩ := len5 hl
    simp only [List.mem_cons, List.not_mem_nil, or_false, forall_eq_or_imp, forall_eq, c_int, c_string, c_StrS, c_OutS] at hf
    obtain ⟨h1, h2, h3, h4, h5⟩ := hf
    obtain ⟨k, e1, _⟩ := h1.int_inv Tryz.underlying3
    obtain ⟨nn, e2, _⟩ := h2.int_inv Tryz.underlying3
    obtain ⟨tt, e3, w3⟩ := h3.str_inv Tryz.underlying9
    obtain ⟨es4, e4, l4, _, x4⟩ := h4.sl_inv Tryz.underlying22
    obtain ⟨es5, e5, l5, _, x5⟩ := h5.sl_inv Tryz.underlying23
    rw [c_string] at e4
    rw [c_Out] at e5
    simp at e1 e2 e3 e4 e5
    subst e1 e2 e3 e4 e5
    obtain ⟨ks, q4, o4⟩ := list_dec (f := encS) (ok := okS) (fun x hx => dec_Str (x4 x hx))
    have hrec : ∀ x ∈ es5, ∃ v, x = GOut.enc v ∧ okOut v := fun x hx => by
      have hlt := List.sizeOf_lt_of_mem hx
      cases n with
      | zero => simp at hn
      | succ n => exact dec_Out n x (by simp at hn; omega) (x5 x hx)
    obtain ⟨ss, q5, o5⟩ := list_dec (f := GOut.enc) (ok := okOut) hrec
    subst q4 q5
    refine ⟨.mk k nn tt ks ss, ?_, w3, ⟨by simpa using l4, o4⟩, by simpa using l5, okOuts_of o5⟩
    unfold GOut.enc
    rw [GOut.encs_eq]
def outTypes : List TypeId := [3, 9, 25, 22, 23]
theorem outTypes_ok : dataSet Tryz.prog outTypes = true := by kernel_rfl
end Go.Proofs.YtgbohielfiighaaGreatDoor.Dm
