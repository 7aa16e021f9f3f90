/- Schemas as data: what their sizes, copies and comparisons come to. -/
import Derived.Test.YtlmmimhjfajhdaaGreatT6
namespace Go.Proofs.YtlmmimhjfajhdaaGreat.Dm
set_option linter.unusedVariables false
set_option linter.unusedSimpArgs false

structure GAD where
  name : ByteArray
  need : Bool
structure GFD where
  name : ByteArray
  args : List GAD
  type : ByteArray
  list : Bool
  bang : Bool
structure GTD where
  name : ByteArray
  fields : List GFD
def GAD.enc (a : GAD) : List Pd := [.str a.name, .bool a.need]
def GFD.enc (a : GFD) : List Pd := [.str a.name, .sl 2 (a.args.map GAD.enc), .str a.type, .bool a.list, .bool a.bang]
def GTD.enc (a : GTD) : List Pd := [.str a.name, .sl 5 (a.fields.map GFD.enc)]
def wAD (a : GAD) : Nat := a.name.size
def wFD (a : GFD) : Nat := a.name.size + wL wAD a.args + a.type.size
def wTD (a : GTD) : Nat := a.name.size + wL wFD a.fields
def okAD (a : GAD) : Prop := a.name.size ≤ 9223372036854775807
def okFD (a : GFD) : Prop := a.name.size ≤ 9223372036854775807 ∧ okL okAD a.args ∧ a.type.size ≤ 9223372036854775807
def okTD (a : GTD) : Prop := a.name.size ≤ 9223372036854775807 ∧ okL okFD a.fields
theorem szAD_ev {a : GAD} (ha : okAD a) {left : Int} (h0 : 0 ≤ left) (h1 : left ≤ 1048576) : ev E0 F_laws_szArgDef [.p (.agg 2 a.enc), .p (.int .i64 left)] [] = rI (szV (wAD a) left) := by
  unfold GAD.enc
  rw [laws_szArgDef_0_ev, laws_szArgDef_0_eq, szStr ha h0 h1 (K := fun v => rI v)]
  exact szEnd
theorem szADS_ev {xs : List GAD} (h : okL okAD xs) {left : Int} (h0 : 0 ≤ left) (h1 : left ≤ 1048576) : ev E0 F_laws_szArgDefS [.p (.sl 2 (xs.map GAD.enc)), .p (.int .i64 left)] [] = rI (szV (wL wAD xs) left) := by
  rw [laws_szArgDefS_0_ev, laws_szArgDefS_0_eq]
  have hlen : (xs.map GAD.enc).length = (xs.map wAD).length := by simp
  rw [hlen]
  have := szRow (L := fun left i => laws_szArgDefS_1 (xs.map GAD.enc) left i) (ws := xs.map wAD) (by simpa using h.1) h0 h1 (fun i w hw left h0 h1 => by
    rw [List.getElem?_map] at hw
    obtain ⟨x, hx, rfl⟩ := Option.map_eq_some_iff.1 hw
    rw [laws_szArgDefS_1_eq, hlen]
    refine szStep (by simpa using lt_of_get hx) (by simpa using h.1) ?_ h0 (fun left i => laws_szArgDefS_1 (xs.map GAD.enc) left i)
    rw [getD_enc hx]
    exact szAD_ev (h.2 x (List.mem_of_getElem? hx)) h0 h1) (fun left => by
    rw [laws_szArgDefS_1_eq, hlen]
    exact szDone)
  rw [this]
  simp [wL]
theorem szFD_ev {a : GFD} (ha : okFD a) {left : Int} (h0 : 0 ≤ left) (h1 : left ≤ 1048576) : ev E0 F_laws_szFieldDef [.p (.agg 5 a.enc), .p (.int .i64 left)] [] = rI (szV (wFD a) left) := by
  obtain ⟨x1, x2, x3⟩ := ha
  unfold GFD.enc
  rw [laws_szFieldDef_0_ev, laws_szFieldDef_0_eq]
  by_cases c1 : (a.name.size : Int) ≤ left
  · rw [wrap_id (n := left - (a.name.size : Int)) (by omega), decide_eq_false (by omega), cond_false, szADS_ev x2 (by omega) (by omega), bI]
    by_cases c2 : (wL wAD a.args : Int) ≤ left - a.name.size
    · rw [szV_pos c2, decide_eq_false (by omega), cond_false, wrap_id (by omega)]
      by_cases c3 : (a.type.size : Int) ≤ left - a.name.size - wL wAD a.args
      · rw [decide_eq_false (by omega), cond_false]
        unfold szV wFD
        have e : left - (a.name.size : Int) - (wL wAD a.args : Nat) - (a.type.size : Nat) = left - ((a.name.size + wL wAD a.args + a.type.size : Nat) : Int) := by omega
        rw [if_pos (by omega), e]
      · rw [decide_eq_true (by omega), cond_true]
        unfold szV wFD
        rw [if_neg (by omega)]
    · rw [szV_neg c2, decide_eq_true (by omega), cond_true]
      unfold szV wFD
      rw [if_neg (by omega)]
  · rw [wrap_id (n := left - (a.name.size : Int)) (by omega), decide_eq_true (by omega), cond_true]
    unfold szV wFD
    rw [if_neg (by omega)]
theorem szFDS_ev {xs : List GFD} (h : okL okFD xs) {left : Int} (h0 : 0 ≤ left) (h1 : left ≤ 1048576) : ev E0 F_laws_szFieldDefS [.p (.sl 5 (xs.map GFD.enc)), .p (.int .i64 left)] [] = rI (szV (wL wFD xs) left) := by
  rw [laws_szFieldDefS_0_ev, laws_szFieldDefS_0_eq]
  have hlen : (xs.map GFD.enc).length = (xs.map wFD).length := by simp
  rw [hlen]
  have := szRow (L := fun left i => laws_szFieldDefS_1 (xs.map GFD.enc) left i) (ws := xs.map wFD) (by simpa using h.1) h0 h1 (fun i w hw left h0 h1 => by
    rw [List.getElem?_map] at hw
    obtain ⟨x, hx, rfl⟩ := Option.map_eq_some_iff.1 hw
    rw [laws_szFieldDefS_1_eq, hlen]
    refine szStep (by simpa using lt_of_get hx) (by simpa using h.1) ?_ h0 (fun left i => laws_szFieldDefS_1 (xs.map GFD.enc) left i)
    rw [getD_enc hx]
    exact szFD_ev (h.2 x (List.mem_of_getElem? hx)) h0 h1) (fun left => by
    rw [laws_szFieldDefS_1_eq, hlen]
    exact szDone)
  rw [this]
  simp [wL]
theorem szTD_ev {a : GTD} (ha : okTD a) {left : Int} (h0 : 0 ≤ left) (h1 : left ≤ 1048576) : ev E0 F_laws_szTypeDef [.p (.agg 2 a.enc), .p (.int .i64 left)] [] = rI (szV (wTD a) left) := by
  obtain ⟨x1, x2⟩ := ha
  unfold GTD.enc
  rw [laws_szTypeDef_0_ev, laws_szTypeDef_0_eq]
  by_cases c1 : (a.name.size : Int) ≤ left
  · rw [wrap_id (n := left - (a.name.size : Int)) (by omega), decide_eq_false (by omega), cond_false, szFDS_ev x2 (by omega) (by omega), bI]
    refine szPart0.trans ?_
    have e2 : szV (wL wFD a.fields) (left - a.name.size) = szV (wTD a) left := by
      unfold szV wTD
      split <;> split <;> omega
    rw [e2]
  · rw [wrap_id (n := left - (a.name.size : Int)) (by omega), decide_eq_true (by omega), cond_true]
    unfold szV wTD
    rw [if_neg (by omega)]
theorem szTDS_ev {xs : List GTD} (h : okL okTD xs) {left : Int} (h0 : 0 ≤ left) (h1 : left ≤ 1048576) : ev E0 F_laws_szTypeDefS [.p (.sl 2 (xs.map GTD.enc)), .p (.int .i64 left)] [] = rI (szV (wL wTD xs) left) := by
  rw [laws_szTypeDefS_0_ev, laws_szTypeDefS_0_eq]
  have hlen : (xs.map GTD.enc).length = (xs.map wTD).length := by simp
  rw [hlen]
  have := szRow (L := fun left i => laws_szTypeDefS_1 (xs.map GTD.enc) left i) (ws := xs.map wTD) (by simpa using h.1) h0 h1 (fun i w hw left h0 h1 => by
    rw [List.getElem?_map] at hw
    obtain ⟨x, hx, rfl⟩ := Option.map_eq_some_iff.1 hw
    rw [laws_szTypeDefS_1_eq, hlen]
    refine szStep (by simpa using lt_of_get hx) (by simpa using h.1) ?_ h0 (fun left i => laws_szTypeDefS_1 (xs.map GTD.enc) left i)
    rw [getD_enc hx]
    exact szTD_ev (h.2 x (List.mem_of_getElem? hx)) h0 h1) (fun left => by
    rw [laws_szTypeDefS_1_eq, hlen]
    exact szDone)
  rw [this]
  simp [wL]
theorem szSchema_ev {xs : List GTD} (h : okL okTD xs) {left : Int} (h0 : 0 ≤ left) (h1 : left ≤ 1048576) : ev E0 F_laws_szSchema [.p (.agg 1 [.sl 2 (xs.map GTD.enc)]), .p (.int .i64 left)] [] = rI (szV (wL wTD xs) left) := by
  rw [laws_szSchema_0_ev, laws_szSchema_0_eq, szTDS_ev h (by omega) (by omega), bI]
  exact szPart0
theorem toAD_ev {a : GAD} (h : wAD a ≤ 1048576) : ev E0 F_laws_toArgDef [.p (.agg 2 a.enc)] [] = rA 2 a.enc := by
  unfold GAD.enc
  rw [laws_toArgDef_0_ev, laws_toArgDef_0_eq]
theorem toADS_ev {xs : List GAD} (h : wL wAD xs ≤ 1048576) : ev E0 F_laws_toArgDefS [.p (.sl 2 (xs.map GAD.enc))] [] = rL 2 (xs.map GAD.enc) := by
  have hlen := wL_len h
  rw [laws_toArgDefS_0_ev, laws_toArgDefS_0_eq, toFront (by simp; omega) (by omega)]
  have := toLoop (L := fun i es => laws_toArgDefS_1 (xs.map GAD.enc) i es) (ys := xs.map GAD.enc) (s := 2) (fun i y hy es hes => by
    rw [List.getElem?_map] at hy
    obtain ⟨x, hx, rfl⟩ := Option.map_eq_some_iff.1 hy
    rw [laws_toArgDefS_1_eq]
    exact toStep (by simpa using lt_of_get hx) (by simp; omega) (by rw [getD_enc hx]; exact toAD_ev (wL_mem h (List.mem_of_getElem? hx))) es hes (fun i es => laws_toArgDefS_1 (xs.map GAD.enc) i es)) (fun es hes => by
    rw [laws_toArgDefS_1_eq]
    exact szDone)
  exact this (xs.map GAD.enc).length 0 _ (by omega) (by simp) (fun j hj => by omega)
theorem toFD_ev {a : GFD} (h : wFD a ≤ 1048576) : ev E0 F_laws_toFieldDef [.p (.agg 5 a.enc)] [] = rA 5 a.enc := by
  unfold wFD at h
  unfold GFD.enc
  rw [laws_toFieldDef_0_ev, laws_toFieldDef_0_eq, toADS_ev (by omega), bL]
theorem toFDS_ev {xs : List GFD} (h : wL wFD xs ≤ 1048576) : ev E0 F_laws_toFieldDefS [.p (.sl 5 (xs.map GFD.enc))] [] = rL 5 (xs.map GFD.enc) := by
  have hlen := wL_len h
  rw [laws_toFieldDefS_0_ev, laws_toFieldDefS_0_eq, toFront (by simp; omega) (by omega)]
  have := toLoop (L := fun i es => laws_toFieldDefS_1 (xs.map GFD.enc) i es) (ys := xs.map GFD.enc) (s := 5) (fun i y hy es hes => by
    rw [List.getElem?_map] at hy
    obtain ⟨x, hx, rfl⟩ := Option.map_eq_some_iff.1 hy
    rw [laws_toFieldDefS_1_eq]
    exact toStep (by simpa using lt_of_get hx) (by simp; omega) (by rw [getD_enc hx]; exact toFD_ev (wL_mem h (List.mem_of_getElem? hx))) es hes (fun i es => laws_toFieldDefS_1 (xs.map GFD.enc) i es)) (fun es hes => by
    rw [laws_toFieldDefS_1_eq]
    exact szDone)
  exact this (xs.map GFD.enc).length 0 _ (by omega) (by simp) (fun j hj => by omega)
theorem toTD_ev {a : GTD} (h : wTD a ≤ 1048576) : ev E0 F_laws_toTypeDef [.p (.agg 2 a.enc)] [] = rA 2 a.enc := by
  unfold wTD at h
  unfold GTD.enc
  rw [laws_toTypeDef_0_ev, laws_toTypeDef_0_eq, toFDS_ev (by omega), bL]
theorem toTDS_ev {xs : List GTD} (h : wL wTD xs ≤ 1048576) : ev E0 F_laws_toTypeDefS [.p (.sl 2 (xs.map GTD.enc))] [] = rL 2 (xs.map GTD.enc) := by
  have hlen := wL_len h
  rw [laws_toTypeDefS_0_ev, laws_toTypeDefS_0_eq, toFront (by simp; omega) (by omega)]
  have := toLoop (L := fun i es => laws_toTypeDefS_1 (xs.map GTD.enc) i es) (ys := xs.map GTD.enc) (s := 2) (fun i y hy es hes => by
    rw [List.getElem?_map] at hy
    obtain ⟨x, hx, rfl⟩ := Option.map_eq_some_iff.1 hy
    rw [laws_toTypeDefS_1_eq]
    exact toStep (by simpa using lt_of_get hx) (by simp; omega) (by rw [getD_enc hx]; exact toTD_ev (wL_mem h (List.mem_of_getElem? hx))) es hes (fun i es => laws_toTypeDefS_1 (xs.map GTD.enc) i es)) (fun es hes => by
    rw [laws_toTypeDefS_1_eq]
    exact szDone)
  exact this (xs.map GTD.enc).length 0 _ (by omega) (by simp) (fun j hj => by omega)
theorem toSchema_ev {xs : List GTD} (h : wL wTD xs ≤ 1048576) : ev E0 F_laws_toSchema [.p (.agg 1 [.sl 2 (xs.map GTD.enc)])] [] = rA 1 [.sl 2 (xs.map GTD.enc)] := by
  rw [laws_toSchema_0_ev, laws_toSchema_0_eq, toTDS_ev h, bL]
theorem eqAD_ev {a : GAD} (h : okAD a) : ev E0 F_laws_eqArgDef [.p (.agg 2 a.enc), .p (.agg 2 a.enc)] [] = rB true := by
  unfold GAD.enc
  rw [laws_eqArgDef_0_ev, laws_eqArgDef_0_eq, nd_self, nb_self]
  rfl
theorem eqADS_ev {xs : List GAD} (h : okL okAD xs) : ev E0 F_laws_eqArgDefS [.p (.sl 2 (xs.map GAD.enc)), .p (.sl 2 (xs.map GAD.enc))] [] = rB true := by
  rw [laws_eqArgDefS_0_ev, laws_eqArgDefS_0_eq, ne_self, cond_false]
  exact eqLoop (L := fun i => laws_eqArgDefS_1 (xs.map GAD.enc) (xs.map GAD.enc) i) (n := (xs.map GAD.enc).length) (fun i hi => by
    have hi' : i < xs.length := by simpa using hi
    rw [laws_eqArgDefS_1_eq]
    exact eqStep hi (by simpa using h.1) (by rw [getD_enc (List.getElem?_eq_getElem hi')]; exact eqAD_ev (h.2 _ (List.getElem_mem _))) (fun i => laws_eqArgDefS_1 (xs.map GAD.enc) (xs.map GAD.enc) i)) (by
    rw [laws_eqArgDefS_1_eq]; exact szDone) (xs.map GAD.enc).length 0 (by omega)
theorem eqFD_ev {a : GFD} (h : okFD a) : ev E0 F_laws_eqFieldDef [.p (.agg 5 a.enc), .p (.agg 5 a.enc)] [] = rB true := by
  unfold GFD.enc
  rw [laws_eqFieldDef_0_ev, laws_eqFieldDef_0_eq, nd_self, cond_false, eqADS_ev h.2.1, bB, nd_self, nb_self, nb_self]
  rfl
theorem eqFDS_ev {xs : List GFD} (h : okL okFD xs) : ev E0 F_laws_eqFieldDefS [.p (.sl 5 (xs.map GFD.enc)), .p (.sl 5 (xs.map GFD.enc))] [] = rB true := by
  rw [laws_eqFieldDefS_0_ev, laws_eqFieldDefS_0_eq, ne_self, cond_false]
  exact eqLoop (L := fun i => laws_eqFieldDefS_1 (xs.map GFD.enc) (xs.map GFD.enc) i) (n := (xs.map GFD.enc).length) (fun i hi => by
    have hi' : i < xs.length := by simpa using hi
    rw [laws_eqFieldDefS_1_eq]
    exact eqStep hi (by simpa using h.1) (by rw [getD_enc (List.getElem?_eq_getElem hi')]; exact eqFD_ev (h.2 _ (List.getElem_mem _))) (fun i => laws_eqFieldDefS_1 (xs.map GFD.enc) (xs.map GFD.enc) i)) (by
    rw [laws_eqFieldDefS_1_eq]; exact szDone) (xs.map GFD.enc).length 0 (by omega)
theorem eqTD_ev {a : GTD} (h : okTD a) : ev E0 F_laws_eqTypeDef [.p (.agg 2 a.enc), .p (.agg 2 a.enc)] [] = rB true := by
  unfold GTD.enc
  rw [laws_eqTypeDef_0_ev, laws_eqTypeDef_0_eq, nd_self, cond_false, eqFDS_ev h.2, bB]
  rfl
theorem eqTDS_ev {xs : List GTD} (h : okL okTD xs) : ev E0 F_laws_eqTypeDefS [.p (.sl 2 (xs.map GTD.enc)), .p (.sl 2 (xs.map GTD.enc))] [] = rB true := by
  rw [laws_eqTypeDefS_0_ev, laws_eqTypeDefS_0_eq, ne_self, cond_false]
  exact eqLoop (L := fun i => laws_eqTypeDefS_1 (xs.map GTD.enc) (xs.map GTD.enc) i) (n := (xs.map GTD.enc).length) (fun i hi => by
    have hi' : i < xs.length := by simpa using hi
    rw [laws_eqTypeDefS_1_eq]
    exact eqStep hi (by simpa using h.1) (by rw [getD_enc (List.getElem?_eq_getElem hi')]; exact eqTD_ev (h.2 _ (List.getElem_mem _))) (fun i => laws_eqTypeDefS_1 (xs.map GTD.enc) (xs.map GTD.enc) i)) (by
    rw [laws_eqTypeDefS_1_eq]; exact szDone) (xs.map GTD.enc).length 0 (by omega)
theorem eqSchema_ev {xs : List GTD} (h : okL okTD xs) : ev E0 F_laws_eqSchema [.p (.agg 1 [.sl 2 (xs.map GTD.enc)]), .p (.agg 1 [.sl 2 (xs.map GTD.enc)])] [] = rB true := by
  rw [laws_eqSchema_0_ev, laws_eqSchema_0_eq, eqTDS_ev h, bB]
  rfl

/-! ### out of memory -/
theorem c_ArgDef : Tryz.prog.cellsOf 158 = 2 := by kernel_rfl
theorem c_FieldDef : Tryz.prog.cellsOf 115 = 5 := by kernel_rfl
theorem c_TypeDef : Tryz.prog.cellsOf 55 = 2 := by kernel_rfl
theorem c_Schema : Tryz.prog.cellsOf 24 = 1 := by kernel_rfl
theorem c_ArgDefS : Tryz.prog.cellsOf 113 = 1 := by kernel_rfl
theorem c_FieldDefS : Tryz.prog.cellsOf 53 = 1 := by kernel_rfl
theorem c_TypeDefS : Tryz.prog.cellsOf 22 = 1 := by kernel_rfl
theorem len2 {l : List Pd} (h : l.length = 2) : ∃ a b, l = [a, b] := by
  match l, h with
  | [a, b], _ => exact ⟨a, b, rfl⟩
theorem len5 {l : List Pd} (h : l.length = 5) : ∃ a b c d e, l = [a, b, c, d, e] := by
  match l, h with
  | [a, b, c, d, e], _ => exact ⟨a, b, c, d, e, rfl⟩
theorem dec_AD {xs : List Pd} (h : WT Tryz.prog 158 xs) : ∃ v : GAD, xs = v.enc ∧ okAD v := by
  obtain ⟨hl, hf⟩ := h.struct_inv Tryz.underlying158
  rw [c_ArgDef] at hl
  obtain ⟨a, b, rfl⟩ := len2 hl
  simp only [List.mem_cons, List.not_mem_nil, or_false, forall_eq_or_imp, forall_eq, c_string, c_bool] at hf
  obtain ⟨h1, h2⟩ := hf
  obtain ⟨s, e1, w⟩ := h1.str_inv Tryz.underlying9
  obtain ⟨v, e2⟩ := h2.bool_inv Tryz.underlying4
  simp at e1 e2
  subst e1 e2
  exact ⟨⟨s, v⟩, rfl, w⟩
theorem dec_FD {xs : List Pd} (h : WT Tryz.prog 115 xs) : ∃ v : GFD, xs = v.enc ∧ okFD v := by
  obtain ⟨hl, hf⟩ := h.struct_inv Tryz.underlying115
  rw [c_FieldDef] at hl
  obtain ⟨a, b, c, d, e, rfl⟩ := len5 hl
  simp only [List.mem_cons, List.not_mem_nil, or_false, forall_eq_or_imp, forall_eq, c_string, c_bool, c_ArgDefS] at hf
  obtain ⟨h1, h2, h3, h4, h5⟩ := hf
  obtain ⟨s1, e1, w1⟩ := h1.str_inv Tryz.underlying9
  obtain ⟨es, e2, l2, _, x2⟩ := h2.sl_inv Tryz.underlying113
  obtain ⟨s3, e3, w3⟩ := h3.str_inv Tryz.underlying9
  obtain ⟨v4, e4⟩ := h4.bool_inv Tryz.underlying4
  obtain ⟨v5, e5⟩ := h5.bool_inv Tryz.underlying4
  rw [c_ArgDef] at e2
  simp at e1 e2 e3 e4 e5
  subst e1 e2 e3 e4 e5
  obtain ⟨ss, q, o⟩ := list_dec (f := GAD.enc) (ok := okAD) (fun x hx => dec_AD (x2 x hx))
  subst q
  exact ⟨⟨s1, ss, s3, v4, v5⟩, rfl, w1, ⟨by simpa using l2, o⟩, w3⟩
theorem dec_TD {xs : List Pd} (h : WT Tryz.prog 55 xs) : ∃ v : GTD, xs = v.enc ∧ okTD v := by
  obtain ⟨hl, hf⟩ := h.struct_inv Tryz.underlying55
  rw [c_TypeDef] at hl
  obtain ⟨a, b, rfl⟩ := len2 hl
  simp only [List.mem_cons, List.not_mem_nil, or_false, forall_eq_or_imp, forall_eq, c_string, c_FieldDefS] at hf
  obtain ⟨h1, h2⟩ := hf
  obtain ⟨s1, e1, w1⟩ := h1.str_inv Tryz.underlying9
  obtain ⟨es, e2, l2, _, x2⟩ := h2.sl_inv Tryz.underlying53
  rw [c_FieldDef] at e2
  simp at e1 e2
  subst e1 e2
  obtain ⟨ss, q, o⟩ := list_dec (f := GFD.enc) (ok := okFD) (fun x hx => dec_FD (x2 x hx))
  subst q
  exact ⟨⟨s1, ss⟩, rfl, w1, by simpa using l2, o⟩
theorem dec_Schema {xs : List Pd} (h : WT Tryz.prog 24 xs) : ∃ l : List GTD, xs = [.sl 2 (l.map GTD.enc)] ∧ okL okTD l := by
  obtain ⟨hl, hf⟩ := h.struct_inv Tryz.underlying24
  rw [c_Schema] at hl
  obtain ⟨a, rfl⟩ := len1 hl
  simp only [List.mem_cons, List.not_mem_nil, or_false, forall_eq_or_imp, forall_eq, c_TypeDefS] at hf
  obtain ⟨es, e, l, _, x⟩ := hf.sl_inv Tryz.underlying22
  rw [c_TypeDef] at e
  simp at e
  subst e
  obtain ⟨ss, q, o⟩ := list_dec (f := GTD.enc) (ok := okTD) (fun y hy => dec_TD (x y hy))
  subst q
  exact ⟨ss, rfl, by simpa using l, o⟩
def schemaTypes : List TypeId := 158 :: 115 :: 55 :: 24 :: 113 :: 53 :: 22 :: docTypes
theorem schemaTypes_ok : dataSet Tryz.prog schemaTypes = true := by kernel_rfl
end Go.Proofs.YtlmmimhjfajhdaaGreat.Dm
