/- Requests: how they are laid, when they are right. -/
import Derived.Test.YtlmmimhjfajhdaaGreatDoorT6
namespace Go.Proofs.YtlmmimhjfajhdaaGreatDoor.Dm
set_option linter.unusedVariables false
set_option linter.unusedSimpArgs false

/-! bindings are laid as arguments are -/
theorem szBinding_ev {a : GArg} (ha : okArg a) {left : Int} (h0 : 0 ≤ left) (h1 : left ≤ 1048576) : ev E0 F_laws_szBinding [.p (.agg 4 a.enc), .p (.int .i64 left)] [] = rI (szV (wArg a) left) := by
  unfold GArg.enc
  rw [laws_szBinding_0_ev, laws_szBinding_0_eq]
  refine (szStr ha.1 h0 h1 (K := fun n => (ev E0 F_laws_szValue [.p (.agg 3 [.int .i64 a.val.kind, .int .i64 a.val.n, .str a.val.t]), .p (.int .i64 n)] []).bind fun r => (asInt .i64 (pAt 0 r.1)).bind fun n => if r.1.length = 1 then (bif decide ((n : Int) < 0) then rI (-1) else rI n) else none)).trans (szThen fun hs => ?_)
  rw [szValue_ev ha.2 (by omega) (by omega), bI]
  exact szPart0
theorem szBindingS_ev {xs : List GArg} (h : okL okArg xs) {left : Int} (h0 : 0 ≤ left) (h1 : left ≤ 1048576) : ev E0 F_laws_szBindingS [.p (.sl 4 (xs.map GArg.enc)), .p (.int .i64 left)] [] = rI (szV (wL wArg xs) left) := by
  rw [laws_szBindingS_0_ev, laws_szBindingS_0_eq]
  have hlen : (xs.map GArg.enc).length = (xs.map wArg).length := by simp
  rw [hlen]
  have := szRow (L := fun left i => laws_szBindingS_1 (xs.map GArg.enc) left i) (ws := xs.map wArg) (by simpa using h.1) h0 h1 (fun i w hw left h0 h1 => by
    rw [List.getElem?_map] at hw
    obtain ⟨x, hx, rfl⟩ := Option.map_eq_some_iff.1 hw
    rw [laws_szBindingS_1_eq, hlen]
    refine szStep (by simpa using lt_of_get hx) (by simpa using h.1) ?_ h0 (fun left i => laws_szBindingS_1 (xs.map GArg.enc) left i)
    rw [getD_enc hx]
    exact szBinding_ev (h.2 x (List.mem_of_getElem? hx)) h0 h1) (fun left => by
    rw [laws_szBindingS_1_eq, hlen]
    exact szDone)
  rw [this]
  simp [wL]
theorem toBinding_ev (a : GArg) : ev E0 F_laws_toBinding [.p (.agg 4 a.enc)] [] = rA 4 a.enc := by
  unfold GArg.enc
  rw [laws_toBinding_0_ev, laws_toBinding_0_eq, toValue_ev, bA]
  rfl
theorem toBindingS_ev {xs : List GArg} (h : xs.length ≤ 1048576) : ev E0 F_laws_toBindingS [.p (.sl 4 (xs.map GArg.enc))] [] = rL 4 (xs.map GArg.enc) := by
  rw [laws_toBindingS_0_ev, laws_toBindingS_0_eq, toFront (by simp; omega) (by omega)]
  have := toLoop (L := fun i es => laws_toBindingS_1 (xs.map GArg.enc) i es) (ys := xs.map GArg.enc) (s := 4) (fun i y hy es hes => by
    rw [List.getElem?_map] at hy
    obtain ⟨x, hx, rfl⟩ := Option.map_eq_some_iff.1 hy
    rw [laws_toBindingS_1_eq]
    exact toStep (by simpa using lt_of_get hx) (by simp; omega) (by rw [getD_enc hx]; exact toBinding_ev x) es hes (fun i es => laws_toBindingS_1 (xs.map GArg.enc) i es)) (fun es hes => by
    rw [laws_toBindingS_1_eq]
    exact szDone)
  exact this (xs.map GArg.enc).length 0 _ (by omega) (by simp) (fun j hj => by omega)
theorem eqBinding_ev (a : GArg) : ev E0 F_laws_eqBinding [.p (.agg 4 a.enc), .p (.agg 4 a.enc)] [] = rB true := by
  unfold GArg.enc
  rw [laws_eqBinding_0_ev, laws_eqBinding_0_eq, nd_self, cond_false, eqValue_ev, bB]
  rfl
theorem eqBindingS_ev {xs : List GArg} (h : xs.length ≤ 9223372036854775807) : ev E0 F_laws_eqBindingS [.p (.sl 4 (xs.map GArg.enc)), .p (.sl 4 (xs.map GArg.enc))] [] = rB true := by
  rw [laws_eqBindingS_0_ev, laws_eqBindingS_0_eq, ne_self, cond_false]
  exact eqLoop (L := fun i => laws_eqBindingS_1 (xs.map GArg.enc) (xs.map GArg.enc) i) (n := (xs.map GArg.enc).length) (fun i hi => by
    have hi' : i < xs.length := by simpa using hi
    rw [laws_eqBindingS_1_eq]
    exact eqStep hi (by simpa using h) (by rw [getD_enc (List.getElem?_eq_getElem hi')]; exact eqBinding_ev _) (fun i => laws_eqBindingS_1 (xs.map GArg.enc) (xs.map GArg.enc) i)) (by
    rw [laws_eqBindingS_1_eq]; exact szDone) (xs.map GArg.enc).length 0 (by omega)
theorem c_Bind : Tryz.prog.cellsOf 57 = 4 := by kernel_rfl
theorem dec_Bind {xs : List Pd} (h : WT Tryz.prog 57 xs) : ∃ v : GArg, xs = v.enc ∧ okArg v := by
  obtain ⟨hl, hf⟩ := h.struct_inv Tryz.underlying57
  rw [c_Bind] at hl
  obtain ⟨a, b, c, d, rfl⟩ := len4 hl
  simp only [List.mem_cons, List.not_mem_nil, or_false, forall_eq_or_imp, forall_eq, c_Value, c_string] at hf
  obtain ⟨h1, h2⟩ := hf
  obtain ⟨s, e1, w⟩ := h1.str_inv Tryz.underlying9
  obtain ⟨v, e2, w2⟩ := dec_Value h2
  unfold GVal.enc at e2
  simp at e1 e2
  obtain ⟨e2, e3, e4⟩ := e2
  subst e1 e2 e3 e4
  exact ⟨⟨s, v⟩, rfl, w, w2⟩
theorem dec_BindS {xs : List Pd} (h : WT Tryz.prog 25 xs) : ∃ l : List GArg, xs = [.sl 4 (l.map GArg.enc)] ∧ okL okArg l := by
  obtain ⟨es, e, l, _, x⟩ := h.sl_inv Tryz.underlying25
  rw [c_Bind] at e
  obtain ⟨ss, q, o⟩ := list_dec (f := GArg.enc) (ok := okArg) (fun y hy => dec_Bind (x y hy))
  subst q
  exact ⟨ss, e, by simpa using l, o⟩

theorem enc_name (a : GArg) : asStr (a.enc.getD 0 .undef) = some a.name := rfl
theorem enc_drop (a : GArg) : a.enc.drop 1 = [.int .i64 a.val.kind, .int .i64 a.val.n, .str a.val.t] := rfl
theorem bBoxI {R : Type} (s : Nat) (c : List Pd) (n : Int) (K : Int → List Pd → Option R) : ((some ([.p (.int .i64 n)], [.box s c]) : Option Res).bind fun r => (asInt .i64 (pAt 0 r.1)).bind fun b => if r.1.length = 1 then ((asBox s (r.2.getD 0 .none)).bind fun c => if r.2.length = 1 then K b c else none) else none) = K n c := by simp [pAt, asInt, asBox]
theorem bBoxB {R : Type} (s : Nat) (c : List Pd) (n : Bool) (K : Bool → List Pd → Option R) : ((some ([.p (.bool n)], [.box s c]) : Option Res).bind fun r => (asBool (pAt 0 r.1)).bind fun b => if r.1.length = 1 then ((asBox s (r.2.getD 0 .none)).bind fun c => if r.2.length = 1 then K b c else none) else none) = K n c := by simp [pAt, asBool, asBox]
/-! ### rows of bindings -/
def okB (pre : List GArg) : List GArg → Bool
  | [] => true
  | b :: bs => (nameB b.name && valueB b.val && !decide (b.val.kind = 4)) && (!(pre.any fun a => decide (a.name = b.name)) && okB (pre ++ [b]) bs)
def bindsB (vs : List GArg) : Bool := okB [] vs && decide (vs.length ≤ 8)
theorem enc_kind (a : GArg) : asInt .i64 ((a.enc.drop 1).getD 0 .undef) = some a.val.kind := rfl
theorem enc_kind' (a : GArg) : asInt .i64 (a.enc.getD 1 .undef) = some a.val.kind := rfl
theorem spec_inner {vs : List GArg} (hl : vs.length ≤ 9223372036854775807) {i : Nat} {b : GArg} (hb : vs[i]? = some b) : ∀ (m k : Nat), k + m = i → spec_BindingsOK_3 (vs.map GArg.enc) i k = bif ((vs.drop k).take m).any (fun a => decide (a.name = b.name)) then rB false else spec_BindingsOK_1 (vs.map GArg.enc) ((i + 1 : Nat) : Int)
  | 0, k, h => by
    have : k = i := by omega
    subst this
    have hlt := lt_of_get hb
    have e2 : IntKind.i64.wrap ((k : Int) + 1) = ((k + 1 : Nat) : Int) := by rw [wrap_id (by omega)]; omega
    rw [spec_BindingsOK_3_eq, decide_eq_false (by omega), cond_false, e2, List.take_zero, List.any_nil, cond_false]
  | m + 1, k, h => by
    have hlen : (vs.map GArg.enc).length = vs.length := by simp
    have hlt := lt_of_get hb
    have hk : k < vs.length := by omega
    have hg : vs[k]? = some vs[k] := List.getElem?_eq_getElem hk
    have e2 : IntKind.i64.wrap ((k : Int) + 1) = ((k + 1 : Nat) : Int) := by rw [wrap_id (by omega)]; omega
    rw [spec_BindingsOK_3_eq, hlen, decide_eq_true (by omega), cond_true, if_pos (by omega), getD_enc hg, enc_name, Option.bind_some, if_pos (by omega), getD_enc hb, enc_name, Option.bind_some, List.drop_eq_getElem_cons hk, List.take_succ_cons, List.any_cons, e2, spec_inner hl hb m (k + 1) (by omega)]
    cases decide (vs[k].name = b.name) <;> simp only [cond_true, cond_false, Bool.true_or, Bool.false_or]
theorem spec_binds {vs : List GArg} (hx : okL okArg vs) : ∀ (m i : Nat), i + m = vs.length → spec_BindingsOK_1 (vs.map GArg.enc) i = rB (okB (vs.take i) (vs.drop i) && decide (vs.length ≤ 8))
  | 0, i, h => by
    have : i = vs.length := by omega
    subst this
    have hlen : (vs.map GArg.enc).length = vs.length := by simp
    rw [spec_BindingsOK_1_eq, hlen, List.drop_length, decide_eq_false (by omega), cond_false]
    have : decide ((vs.length : Int) ≤ 8) = decide (vs.length ≤ 8) := by
      by_cases q : vs.length ≤ 8
      · rw [decide_eq_true q, decide_eq_true (by omega)]
      · rw [decide_eq_false q, decide_eq_false (by omega)]
    rw [this, okB, Bool.true_and]
  | m + 1, i, h => by
    have hlen : (vs.map GArg.enc).length = vs.length := by simp
    have hxl := hx.1
    have hlt : i < vs.length := by omega
    have hg : vs[i]? = some vs[i] := List.getElem?_eq_getElem hlt
    have hok := hx.2 vs[i] (List.getElem_mem _)
    have ht : vs.take (i + 1) = vs.take i ++ [vs[i]] := (List.take_append_getElem hlt).symm
    have ih := spec_binds hx m (i + 1) (by omega)
    have hin := spec_inner hxl hg i 0 (Nat.zero_add i)
    have e0 : ((0 : Nat) : Int) = 0 := rfl
    rw [e0, List.drop_zero, ih] at hin
    rw [spec_BindingsOK_1_eq, hlen, decide_eq_true (by omega), cond_true, if_pos (by omega), getD_enc hg, enc_name, Option.bind_some, spec_NameOK_ev hok.1, bB, if_pos (by omega), enc_drop, spec_ValueOK_ev hok.2, bB, if_pos (by omega)]
    have ek : asInt .i64 (([.int .i64 vs[i].val.kind, .int .i64 vs[i].val.n, .str vs[i].val.t] : List Pd).getD 0 .undef) = some vs[i].val.kind := rfl
    rw [ek, Option.bind_some, List.drop_eq_getElem_cons hlt, okB, beq_int]
    simp only [spec_BindingsOK_2_eq, hin, ht]
    cases nameB vs[i].name <;> cases valueB vs[i].val <;> cases decide (vs[i].val.kind = 4) <;> cases (vs.take i).any (fun a => decide (a.name = vs[i].name)) <;> simp
theorem spec_BindingsOK_ev {vs : List GArg} (hx : okL okArg vs) : ev E0 F_spec_BindingsOK [.p (.sl 4 (vs.map GArg.enc))] [] = rB (bindsB vs) := by
  have hlen : (vs.map GArg.enc).length = vs.length := by simp
  have := spec_binds hx vs.length 0 (by omega)
  have e0 : ((0 : Nat) : Int) = 0 := rfl
  rw [e0, List.drop_zero, List.take_zero] at this
  rw [spec_BindingsOK_0_ev, spec_BindingsOK_0_eq, hlen, this]
  unfold bindsB
  by_cases h : (vs.length : Int) > 4096
  · have : decide (vs.length ≤ 8) = false := decide_eq_false (by omega)
    rw [decide_eq_true h, cond_true, this, Bool.and_false]
  · rw [decide_eq_false h, cond_false]
theorem bind_fn (a b : GArg) : ev E0 F_impl_BindingsOK_1 [.p (.agg 4 a.enc), .ptr (.out 0) 0] [.box 4 b.enc] = some ([.p (.bool (decide (a.name = b.name)))], [.box 4 b.enc]) := by
  rw [impl_BindingsOK_1_0_ev, impl_BindingsOK_1_0_eq, enc_name, enc_name]
  rfl
theorem idx_bind {ws : List GArg} (hl : ws.length ≤ 9223372036854775807) (b : GArg) : ∀ (m i : Nat), i + m = ws.length → ∃ q : Int, slices_IndexFunc_impl_Binding_impl_Binding_1 (ws.map GArg.enc) ws.length i b.enc = some ([.p (.int .i64 q)], [.box 4 b.enc]) ∧ decide (q ≥ 0) = (ws.drop i).any fun a => decide (a.name = b.name)
  | 0, i, h => by
    have : i = ws.length := by omega
    subst this
    rw [slices_IndexFunc_impl_Binding_impl_Binding_1_eq, List.drop_length, decide_eq_false (by omega), cond_false]
    exact ⟨-1, rfl, rfl⟩
  | m + 1, i, h => by
    have hlen : (ws.map GArg.enc).length = ws.length := by simp
    have hlt : i < ws.length := by omega
    have hg : ws[i]? = some ws[i] := List.getElem?_eq_getElem hlt
    rw [slices_IndexFunc_impl_Binding_impl_Binding_1_eq, hlen, decide_eq_true (by omega), cond_true, if_pos (by omega), getD_enc hg, bind_fn, bBoxB, List.drop_eq_getElem_cons hlt, List.any_cons]
    cases hd : decide (ws[i].name = b.name) with
    | true => exact ⟨i, rfl, by simp⟩
    | false =>
      have e2 : IntKind.i64.wrap ((i : Int) + 1) = ((i + 1 : Nat) : Int) := by rw [wrap_id (by omega)]; omega
      rw [cond_false, e2, Bool.false_or]
      exact idx_bind hl b m (i + 1) (by omega)
theorem contains_bind {ws : List GArg} (hl : ws.length ≤ 9223372036854775807) (b : GArg) : ev E0 F_slices_ContainsFunc_impl_Binding_impl_Binding [.p (.sl 4 (ws.map GArg.enc)), .fn F_impl_BindingsOK_1 [.ptr (.out 0) 0]] [.box 4 b.enc] = some ([.p (.bool (ws.any fun a => decide (a.name = b.name)))], [.box 4 b.enc]) := by
  have hlen : (ws.map GArg.enc).length = ws.length := by simp
  obtain ⟨q, q1, q2⟩ := idx_bind hl b ws.length 0 (by omega)
  have e0 : ((0 : Nat) : Int) = 0 := rfl
  rw [e0] at q1
  rw [List.drop_zero] at q2
  rw [slices_ContainsFunc_impl_Binding_impl_Binding_0_ev, slices_ContainsFunc_impl_Binding_impl_Binding_0_eq, slices_IndexFunc_impl_Binding_impl_Binding_0_ev, slices_IndexFunc_impl_Binding_impl_Binding_0_eq, hlen, q1, bBoxI, q2]
theorem impl_binds {vs : List GArg} (hx : okL okArg vs) : ∀ (m i : Nat), i + m = vs.length → impl_BindingsOK_1 (vs.map GArg.enc) (vs.map GArg.enc) vs.length i = rB (okB (vs.take i) (vs.drop i) && decide (vs.length ≤ 8))
  | 0, i, h => by
    have : i = vs.length := by omega
    subst this
    have hlen : (vs.map GArg.enc).length = vs.length := by simp
    rw [impl_BindingsOK_1_eq, hlen, List.drop_length, decide_eq_false (by omega), cond_false]
    have : decide ((vs.length : Int) ≤ 8) = decide (vs.length ≤ 8) := by
      by_cases q : vs.length ≤ 8
      · rw [decide_eq_true q, decide_eq_true (by omega)]
      · rw [decide_eq_false q, decide_eq_false (by omega)]
    rw [this, okB, Bool.true_and]
  | m + 1, i, h => by
    have hlen : (vs.map GArg.enc).length = vs.length := by simp
    have hxl := hx.1
    have hlt : i < vs.length := by omega
    have hg : vs[i]? = some vs[i] := List.getElem?_eq_getElem hlt
    have hok := hx.2 vs[i] (List.getElem_mem _)
    have ht : vs.take (i + 1) = vs.take i ++ [vs[i]] := (List.take_append_getElem hlt).symm
    have ih := impl_binds hx m (i + 1) (by omega)
    have e2 : IntKind.i64.wrap ((i : Int) + 1) = ((i + 1 : Nat) : Int) := by rw [wrap_id (by omega)]; omega
    have hs : (((vs.map GArg.enc).drop (0 : Int).toNat).take ((i : Int).toNat - (0 : Int).toNat)) = (vs.take i).map GArg.enc := by
      have e0 : (0 : Int).toNat = 0 := rfl
      rw [e0, List.drop_zero, Int.toNat_natCast, Nat.sub_zero, List.map_take]
    have hc := contains_bind (ws := vs.take i) (by rw [List.length_take]; omega) vs[i]
    rw [impl_BindingsOK_1_eq, hlen, decide_eq_true (by omega), cond_true, if_pos (by omega), if_pos (by omega), hs, getD_enc hg, hc, bBoxB, enc_name, Option.bind_some, impl_NameOK_ev hok.1, bB, enc_drop, impl_ValueOK_ev hok.2, bB, enc_kind', Option.bind_some, List.drop_eq_getElem_cons hlt, okB, beq_int]
    simp only [impl_BindingsOK_2_eq, e2, ih, ht]
    cases nameB vs[i].name <;> cases valueB vs[i].val <;> cases decide (vs[i].val.kind = 4) <;> cases (vs.take i).any (fun a => decide (a.name = vs[i].name)) <;> simp
theorem impl_BindingsOK_ev {vs : List GArg} (hx : okL okArg vs) : ev E0 F_impl_BindingsOK [.p (.sl 4 (vs.map GArg.enc))] [] = rB (bindsB vs) := by
  have hlen : (vs.map GArg.enc).length = vs.length := by simp
  have := impl_binds hx vs.length 0 (by omega)
  have e0 : ((0 : Nat) : Int) = 0 := rfl
  rw [e0, List.drop_zero, List.take_zero] at this
  rw [impl_BindingsOK_0_ev, impl_BindingsOK_0_eq, hlen, this]
  rfl
theorem c_BindS : Tryz.prog.cellsOf 25 = 1 := by kernel_rfl
theorem c_Request : Tryz.prog.cellsOf 27 = 2 := by kernel_rfl
theorem len2 {l : List Pd} (h : l.length = 2) : ∃ a b, l = [a, b] := by
  match l, h with
  | [a, b], _ => exact ⟨a, b, rfl⟩
theorem dec_Request {xs : List Pd} (h : WT Tryz.prog 27 xs) : ∃ (l : List GDef) (v : List GArg), xs = [.sl 4 (l.map GDef.enc), .sl 4 (v.map GArg.enc)] ∧ okL okDef l ∧ okL okArg v := by
  obtain ⟨hl, hf⟩ := h.struct_inv Tryz.underlying27
  rw [c_Request] at hl
  obtain ⟨a, b, rfl⟩ := len2 hl
  simp only [List.mem_cons, List.not_mem_nil, or_false, forall_eq_or_imp, forall_eq, c_Doc, c_BindS] at hf
  obtain ⟨h1, h2⟩ := hf
  obtain ⟨l, e1, o1⟩ := dec_Doc h1
  obtain ⟨v, e2, o2⟩ := dec_BindS h2
  simp at e1 e2
  subst e1 e2
  exact ⟨l, v, rfl, o1, o2⟩
abbrev reqD (l : List GDef) (v : List GArg) : List Pd := [.sl 4 (l.map GDef.enc), .sl 4 (v.map GArg.enc)]
/-- the size of a request -/
def szR (l : List GDef) (v : List GArg) (left : Int) : Int := if (wL wDef l : Int) ≤ left then szV (wL wArg v) (left - wL wDef l) else -1
theorem szRequest_ev {l : List GDef} (hl : okL okDef l) {v : List GArg} (hv : okL okArg v) {left : Int} (h0 : 0 ≤ left) (h1 : left ≤ 1048576) : ev E0 F_laws_szRequest [.p (.agg 2 (reqD l v)), .p (.int .i64 left)] [] = rI (szR l v left) := by
  rw [laws_szRequest_0_ev, laws_szRequest_0_eq, szDoc_ev hl h0 h1, bI]
  unfold szR
  by_cases h : (wL wDef l : Int) ≤ left
  · rw [szV_pos h, decide_eq_false (by omega), cond_false, szBindingS_ev hv (by omega) (by omega), bI, if_pos h]
    by_cases h2 : (wL wArg v : Int) ≤ left - wL wDef l
    · rw [szV_pos h2, decide_eq_false (by omega), cond_false]
    · rw [szV_neg h2, decide_eq_true (by omega), cond_true]
  · rw [szV_neg h, decide_eq_true (by omega), cond_true, if_neg h]
theorem toRequest_ev {l : List GDef} (hl : wL wDef l ≤ 1048576) {v : List GArg} (hv : v.length ≤ 1048576) : ev E0 F_laws_toRequest [.p (.agg 2 (reqD l v))] [] = rA 2 (reqD l v) := by
  rw [laws_toRequest_0_ev, laws_toRequest_0_eq, toDoc_ev hl, bA, toBindingS_ev hv, bL]
  rfl
theorem eqRequest_ev {l : List GDef} (hl : okL okDef l) {v : List GArg} (hv : v.length ≤ 9223372036854775807) : ev E0 F_laws_eqRequest [.p (.agg 2 (reqD l v)), .p (.agg 2 (reqD l v))] [] = rB true := by
  rw [laws_eqRequest_0_ev, laws_eqRequest_0_eq, eqDoc_ev hl, bB, eqBindingS_ev hv, bB]
  rfl
theorem spec_RequestOK_ev {l : List GDef} (hl : okL okDef l) {v : List GArg} (hv : okL okArg v) : ev E0 F_spec_RequestOK [.p (.agg 2 (reqD l v))] [] = rB (docB l && bindsB v) := by
  rw [spec_RequestOK_0_ev, spec_RequestOK_0_eq, spec_DocOK_ev hl, bB, spec_BindingsOK_ev hv, bB]
  cases docB l <;> rfl
theorem impl_RequestOK_ev {l : List GDef} (hl : okL okDef l) {v : List GArg} (hv : okL okArg v) : ev E0 F_impl_RequestOK [.p (.agg 2 (reqD l v))] [] = rB (docB l && bindsB v) := by
  rw [impl_RequestOK_0_ev, impl_RequestOK_0_eq, impl_DocOK_ev hl, bB, impl_BindingsOK_ev hv, bB]
  cases docB l <;> rfl
theorem szR_nonneg {l : List GDef} {v : List GArg} {left : Int} (h : ¬ szR l v left < 0) : wL wDef l + wL wArg v ≤ left ∧ szR l v left = left - wL wDef l - wL wArg v := by
  unfold szR at h ⊢
  split
  · rename_i h1
    rw [if_pos h1] at h
    unfold szV at h ⊢
    split
    · omega
    · rename_i h2
      rw [if_neg h2] at h
      omega
  · rename_i h1
    rw [if_neg h1] at h
    omega
end Go.Proofs.YtlmmimhjfajhdaaGreatDoor.Dm
