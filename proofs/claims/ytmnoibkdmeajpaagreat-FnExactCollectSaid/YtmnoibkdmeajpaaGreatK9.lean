/- Bindings: what is bound, what is included. -/
import Derived.Test.YtmnoibkdmeajpaaGreatT6
namespace Go.Proofs.YtmnoibkdmeajpaaGreat.Dm
set_option linter.unusedVariables false
set_option linter.unusedSectionVars false
set_option linter.unusedSimpArgs false
theorem c_Bind : Tryz.prog.cellsOf 80 = 4 := by kernel_rfl
theorem dec_Bind {xs : List Pd} (h : WT Tryz.prog 80 xs) : ∃ v : GArg, xs = v.enc ∧ okArg v := by
 obtain ⟨hl, hf⟩ := h.struct_inv Tryz.underlying80
 rw [c_Bind] at hl
 obtain ⟨a, b, c, d, rfl⟩ := len4 hl
 simp only [List.mem_cons, List.not_mem_nil, or_false, forall_eq_or_imp, forall_eq, c_Value, c_string] at hf
 obtain ⟨h1, h2⟩ := hf
 obtain ⟨s, e1, w⟩ := h1.str_inv Tryz.underlying9
 obtain ⟨v, e2, w2⟩ := dec_Value h2
 unfold GVal.enc at e2
 simp at e1 e2
 obtain ⟨e2, e3, e4⟩ := e2
 subst e1 e2 e3 e4
 exact ⟨⟨s, v⟩, rfl, w, w2⟩
theorem dec_BindS {xs : List Pd} (h : WT Tryz.prog 26 xs) : ∃ l : List GArg, xs = [.sl 4 (l.map GArg.enc)] ∧ okL okArg l := by
 obtain ⟨es, e, l, _, x⟩ := h.sl_inv Tryz.underlying26
 rw [c_Bind] at e
 obtain ⟨ss, q, o⟩ := list_dec (f := GArg.enc) (ok := okArg) (fun y hy => dec_Bind (x y hy))
 subst q
 exact ⟨ss, e, by simpa using l, o⟩
def look (t : ByteArray) : List GArg → Option GVal
 | [] => none
 | a :: as_ => bif decide (a.name = t) then some a.val else look t as_
def valOf (vs : List GArg) (v : GVal) : GVal × Bool := if v.kind = 4 then (match look v.t vs with | some w => (w, true) | none => (⟨0, 0, ⟨#[]⟩⟩, false)) else (v, true)
abbrev rV (p : GVal × Bool) : Option Res := some ([.p (.agg 3 [.int .i64 p.1.kind, .int .i64 p.1.n, .str p.1.t]), .p (.bool p.2)], [])
theorem bV {R : Type} (p : GVal × Bool) (K : List Pd → Bool → Option R) : ((rV p).bind fun r => (asAgg 3 (pAt 0 r.1)).bind fun c => (asBool (pAt 1 r.1)).bind fun b => if r.1.length = 2 then K c b else none) = K [.int .i64 p.1.kind, .int .i64 p.1.n, .str p.1.t] p.2 := by simp [pAt, asAgg, asBool]
theorem enc_name (a : GArg) : asStr (a.enc.getD 0 .undef) = some a.name := rfl
theorem enc_drop (a : GArg) : a.enc.drop 1 = [.int .i64 a.val.kind, .int .i64 a.val.n, .str a.val.t] := rfl
theorem spec_value_loop {vs : List GArg} (hl : vs.length ≤ 9223372036854775807) (k n : Int) (t : ByteArray) (z1 z2 : Int) (z3 : ByteArray) : ∀ (m i : Nat), i + m = vs.length → zef_1 (vs.map GArg.enc) i k n t z1 z2 z3 = rV (match look t (vs.drop i) with | some w => (w, true) | none => (⟨0, 0, ⟨#[]⟩⟩, false))
 | 0, i, h => by
  have : i = vs.length := by omega
  subst this
  have hlen : (vs.map GArg.enc).length = vs.length := by simp
  rw [zef_1_eq, hlen, List.drop_length, decide_eq_false (by omega), cond_false]
  rfl
 | m + 1, i, h => by
  have hlen : (vs.map GArg.enc).length = vs.length := by simp
  have hlt : i < vs.length := by omega
  have hg : vs[i]? = some vs[i] := List.getElem?_eq_getElem hlt
  rw [zef_1_eq, hlen, decide_eq_true (by omega), cond_true, if_pos (by omega), getD_enc hg, enc_name, Option.bind_some, List.drop_eq_getElem_cons hlt, look]
  cases hd : decide (vs[i].name = t) with
  | true => rw [cond_true, if_pos (by omega), enc_drop]; rfl
  | false =>
   have e2 : IntKind.i64.wrap ((i : Int) + 1) = ((i + 1 : Nat) : Int) := by rw [wrap_id (by omega)]; omega
   rw [cond_false, e2, spec_value_loop hl k n t z1 z2 z3 m (i + 1) (by omega), cond_false]
theorem spec_l05Value_ev {vs : List GArg} (hl : vs.length ≤ 9223372036854775807) (v : GVal) : ev E0 F_zef [.p (.agg 3 [.int .i64 v.kind, .int .i64 v.n, .str v.t]), .p (.sl 4 (vs.map GArg.enc))] [] = rV (valOf vs v) := by
 rw [zef_0_ev, zef_0_eq]
 unfold valOf
 by_cases h4 : v.kind = 4
 ·have : (v.kind != 4) = false := by simp [h4]
  have hl0 := spec_value_loop hl v.kind v.n v.t 0 0 ⟨#[]⟩ vs.length 0 (by omega)
  have e0 : ((0 : Nat) : Int) = 0 := rfl
  rw [e0, List.drop_zero] at hl0
  rw [this, cond_false, if_pos h4, hl0]
 ·have : (v.kind != 4) = true := by simp [h4]
  rw [this, cond_true, if_neg h4]
theorem fnSame_self : ∀ c : List Pd, fnSame c c = true
 | [] => rfl
 | x :: xs => by
  have ih := fnSame_self xs
  cases x <;> simp [fnSame, ih]
theorem fillF_self : ∀ c : List Pd, fillF c c = c
 | [] => rfl
 | x :: xs => by
  show fill1 x x :: fillF xs xs = _
  rw [fillF_self xs]
  cases x <;> rfl
theorem bBoxI {R : Type} (s : Nat) (c : List Pd) (n : Int) (K : Int → List Pd → Option R) : ((some ([.p (.int .i64 n)], [.box s c]) : Option Res).bind fun r => (asInt .i64 (pAt 0 r.1)).bind fun b => if r.1.length = 1 then ((asFbox s c (r.2.getD 0 .none)).bind fun c => if r.2.length = 1 then K b c else none) else none) = K n c := by simp [pAt, asInt, asFbox, fnSame_self]
theorem bBoxB {R : Type} (s : Nat) (c : List Pd) (n : Bool) (K : Bool → List Pd → Option R) : ((some ([.p (.bool n)], [.box s c]) : Option Res).bind fun r => (asBool (pAt 0 r.1)).bind fun b => if r.1.length = 1 then ((asFbox s c (r.2.getD 0 .none)).bind fun c => if r.2.length = 1 then K b c else none) else none) = K n c := by simp [pAt, asBool, asFbox, fnSame_self]
theorem bound_fn (a : GArg) (k n : Int) (t : ByteArray) : ev E0 F_zat [.p (.agg 4 a.enc), .ptr (.out 0) 0] [.box 3 [.int .i64 k, .int .i64 n, .str t]] = some ([.p (.bool (decide (a.name = t)))], [.box 3 [.int .i64 k, .int .i64 n, .str t]]) := by
 rw [zat_0_ev, zat_0_eq, enc_name]
 rfl
theorem idx_fold (l : List (List Pd)) (m i k n : Int) (t : ByteArray) : zdi_4 l m i [.int .i64 k, .int .i64 n, .str t] = zdi_3 l m i k n t := rfl
theorem idx_bound {vs : List GArg} (hl : vs.length ≤ 9223372036854775807) (k n : Int) (t : ByteArray) : ∀ (m i : Nat), i + m = vs.length → ∃ q : Int, zdi_3 (vs.map GArg.enc) vs.length i k n t = some ([.p (.int .i64 q)], [.box 3 [.int .i64 k, .int .i64 n, .str t]]) ∧
 ((look t (vs.drop i) = none ∧ q = -1) ∨ ∃ (j : Nat) (a : GArg), q = j ∧ vs[j]? = some a ∧ look t (vs.drop i) = some a.val)
 | 0, i, h => by
  have : i = vs.length := by omega
  subst this
  rw [zdi_3_eq, List.drop_length, decide_eq_false (by omega), cond_false]
  exact ⟨-1, rfl, .inl ⟨rfl, rfl⟩⟩
 | m + 1, i, h => by
  have hlen : (vs.map GArg.enc).length = vs.length := by simp
  have hlt : i < vs.length := by omega
  have hg : vs[i]? = some vs[i] := List.getElem?_eq_getElem hlt
  rw [zdi_3_eq, hlen, decide_eq_true (by omega), cond_true, if_pos (by omega), getD_enc hg, bound_fn, bBoxB, fillF_self, List.drop_eq_getElem_cons hlt, look]
  cases hd : decide (vs[i].name = t) with
  | true => exact ⟨i, rfl, .inr ⟨i, vs[i], rfl, hg, rfl⟩⟩
  | false =>
   have e2 : IntKind.i64.wrap ((i : Int) + 1) = ((i + 1 : Nat) : Int) := by rw [wrap_id (by omega)]; omega
   rw [cond_false, e2, idx_fold]
   exact idx_bound hl k n t m (i + 1) (by omega)
theorem impl_bound_ev {vs : List GArg} (hl : vs.length ≤ 9223372036854775807) (v : GVal) : ev E0 F_zas [.p (.agg 3 [.int .i64 v.kind, .int .i64 v.n, .str v.t]), .p (.sl 4 (vs.map GArg.enc))] [] = rV (valOf vs v) := by
 rw [zas_0_ev, zas_0_eq]
 unfold valOf
 have hlen : (vs.map GArg.enc).length = vs.length := by simp
 by_cases h4 : v.kind = 4
 ·have : (v.kind != 4) = false := by simp [h4]
  obtain ⟨q, q1, q2⟩ := idx_bound hl v.kind v.n v.t vs.length 0 (by omega)
  have e0 : ((0 : Nat) : Int) = 0 := rfl
  rw [e0] at q1
  rw [List.drop_zero] at q2
  rw [this, cond_false, if_pos h4, zdi_1_ev, zdi_1_eq, hlen, q1, bBoxI]
  rcases q2 with ⟨h1, rfl⟩ | ⟨j, a, rfl, h2, h3⟩
  ·rw [h1, decide_eq_true (by omega), cond_true]
  ·have := lt_of_get h2
   rw [h3, decide_eq_false (by omega), cond_false, if_pos (by omega), getD_enc h2, enc_drop]
 ·have : (v.kind != 4) = true := by simp [h4]
  rw [this, cond_true, if_neg h4]
def okB (pre : List GArg) : List GArg → Bool
 | [] => true
 | b :: bs => (nameB b.name && valueB b.val && !decide (b.val.kind = 4)) && (!(pre.any fun a => decide (a.name = b.name)) && okB (pre ++ [b]) bs)
def bindsB (vs : List GArg) : Bool := okB [] vs && decide (vs.length ≤ 8)
theorem enc_kind' (a : GArg) : asInt .i64 (a.enc.getD 1 .undef) = some a.val.kind := rfl
theorem spec_inner {vs : List GArg} (hl : vs.length ≤ 9223372036854775807) {i : Nat} {b : GArg} (hb : vs[i]? = some b) : ∀ (m k : Nat), k + m = i → zdl_3 (vs.map GArg.enc) i k = bif ((vs.drop k).take m).any (fun a => decide (a.name = b.name)) then rB false else zdl_1 (vs.map GArg.enc) ((i + 1 : Nat) : Int)
 | 0, k, h => by
  have : k = i := by omega
  subst this
  have hlt := lt_of_get hb
  have e2 : IntKind.i64.wrap ((k : Int) + 1) = ((k + 1 : Nat) : Int) := by rw [wrap_id (by omega)]; omega
  rw [zdl_3_eq, decide_eq_false (by omega), cond_false, e2, List.take_zero, List.any_nil, cond_false]
 | m + 1, k, h => by
  have hlen : (vs.map GArg.enc).length = vs.length := by simp
  have hlt := lt_of_get hb
  have hk : k < vs.length := by omega
  have hg : vs[k]? = some vs[k] := List.getElem?_eq_getElem hk
  have e2 : IntKind.i64.wrap ((k : Int) + 1) = ((k + 1 : Nat) : Int) := by rw [wrap_id (by omega)]; omega
  rw [zdl_3_eq, hlen, decide_eq_true (by omega), cond_true, if_pos (by omega), getD_enc hg, enc_name, Option.bind_some, if_pos (by omega), getD_enc hb, enc_name, Option.bind_some, List.drop_eq_getElem_cons hk, List.take_succ_cons, List.any_cons, e2, spec_inner hl hb m (k + 1) (by omega)]
  cases decide (vs[k].name = b.name) <;> simp only [cond_true, cond_false, Bool.true_or, Bool.false_or]
theorem spec_binds {vs : List GArg} (hx : okL okArg vs) : ∀ (m i : Nat), i + m = vs.length → zdl_1 (vs.map GArg.enc) i = rB (okB (vs.take i) (vs.drop i) && decide (vs.length ≤ 8))
 | 0, i, h => by
  have : i = vs.length := by omega
  subst this
  have hlen : (vs.map GArg.enc).length = vs.length := by simp
  rw [zdl_1_eq, hlen, List.drop_length, decide_eq_false (by omega), cond_false]
  have : decide ((vs.length : Int) ≤ 8) = decide (vs.length ≤ 8) := by
   by_cases q : vs.length ≤ 8
   ·rw [decide_eq_true q, decide_eq_true (by omega)]
   ·rw [decide_eq_false q, decide_eq_false (by omega)]
  rw [this, okB, Bool.true_and]
 | m + 1, i, h => by
  have hlen : (vs.map GArg.enc).length = vs.length := by simp
  have hxl := hx.1
  have hlt : i < vs.length := by omega
  have hg : vs[i]? = some vs[i] := List.getElem?_eq_getElem hlt
  have hok := hx.2 vs[i] (List.getElem_mem _)
  have ht : vs.take (i + 1) = vs.take i ++ [vs[i]] := (List.take_append_getElem hlt).symm
  have ih := spec_binds hx m (i + 1) (by omega)
  have hin := spec_inner hxl hg i 0 (Nat.zero_add i)
  have e0 : ((0 : Nat) : Int) = 0 := rfl
  rw [e0, List.drop_zero, ih] at hin
  rw [zdl_1_eq, hlen, decide_eq_true (by omega), cond_true, if_pos (by omega), getD_enc hg, enc_name, Option.bind_some, spec_NameOK_ev hok.1, bB, if_pos (by omega), enc_drop, spec_ValueOK_ev hok.2, bB, if_pos (by omega)]
  have ek : asInt .i64 (([.int .i64 vs[i].val.kind, .int .i64 vs[i].val.n, .str vs[i].val.t] : List Pd).getD 0 .undef) = some vs[i].val.kind := rfl
  rw [ek, Option.bind_some, List.drop_eq_getElem_cons hlt, okB, beq_int]
  simp only [zdl_2_eq, hin, ht]
  cases nameB vs[i].name <;> cases valueB vs[i].val <;> cases decide (vs[i].val.kind = 4) <;> cases (vs.take i).any (fun a => decide (a.name = vs[i].name)) <;> simp
theorem spec_BindingsOK_ev {vs : List GArg} (hx : okL okArg vs) : ev E0 F_zdl [.p (.sl 4 (vs.map GArg.enc))] [] = rB (bindsB vs) := by
 have hlen : (vs.map GArg.enc).length = vs.length := by simp
 have := spec_binds hx vs.length 0 (by omega)
 have e0 : ((0 : Nat) : Int) = 0 := rfl
 rw [e0, List.drop_zero, List.take_zero] at this
 rw [zdl_0_ev, zdl_0_eq, hlen, this]
 unfold bindsB
 by_cases h : (vs.length : Int) > 4096
 ·have : decide (vs.length ≤ 8) = false := decide_eq_false (by omega)
  rw [decide_eq_true h, cond_true, this, Bool.and_false]
 ·rw [decide_eq_false h, cond_false]
theorem bind_fn (a b : GArg) : ev E0 F_zab [.p (.agg 4 a.enc), .ptr (.out 0) 0] [.box 4 b.enc] = some ([.p (.bool (decide (a.name = b.name)))], [.box 4 b.enc]) := by
 rw [zab_0_ev, zab_0_eq, enc_name, enc_name]
 rfl
theorem idx_bind {ws : List GArg} (hl : ws.length ≤ 9223372036854775807) (b : GArg) : ∀ (m i : Nat), i + m = ws.length → ∃ q : Int, zdi_2 (ws.map GArg.enc) ws.length i b.enc = some ([.p (.int .i64 q)], [.box 4 b.enc]) ∧ decide (q ≥ 0) = (ws.drop i).any fun a => decide (a.name = b.name)
 | 0, i, h => by
  have : i = ws.length := by omega
  subst this
  rw [zdi_2_eq, List.drop_length, decide_eq_false (by omega), cond_false]
  exact ⟨-1, rfl, rfl⟩
 | m + 1, i, h => by
  have hlen : (ws.map GArg.enc).length = ws.length := by simp
  have hlt : i < ws.length := by omega
  have hg : ws[i]? = some ws[i] := List.getElem?_eq_getElem hlt
  rw [zdi_2_eq, hlen, decide_eq_true (by omega), cond_true, if_pos (by omega), getD_enc hg, bind_fn, bBoxB, fillF_self, List.drop_eq_getElem_cons hlt, List.any_cons]
  cases hd : decide (ws[i].name = b.name) with
  | true => exact ⟨i, rfl, by simp⟩
  | false =>
   have e2 : IntKind.i64.wrap ((i : Int) + 1) = ((i + 1 : Nat) : Int) := by rw [wrap_id (by omega)]; omega
   rw [cond_false, e2, Bool.false_or]
   exact idx_bind hl b m (i + 1) (by omega)
theorem contains_bind {ws : List GArg} (hl : ws.length ≤ 9223372036854775807) (b : GArg) : ev E0 F_zdf [.p (.sl 4 (ws.map GArg.enc)), .fn F_zab [.ptr (.out 0) 0]] [.box 4 b.enc] = some ([.p (.bool (ws.any fun a => decide (a.name = b.name)))], [.box 4 b.enc]) := by
 have hlen : (ws.map GArg.enc).length = ws.length := by simp
 obtain ⟨q, q1, q2⟩ := idx_bind hl b ws.length 0 (by omega)
 have e0 : ((0 : Nat) : Int) = 0 := rfl
 rw [e0] at q1
 rw [List.drop_zero] at q2
 rw [zdf_0_ev, zdf_0_eq, zdi_0_ev, zdi_0_eq, hlen, q1, bBoxI, fillF_self, q2]
theorem impl_binds {vs : List GArg} (hx : okL okArg vs) : ∀ (m i : Nat), i + m = vs.length → zaa_1 (vs.map GArg.enc) (vs.map GArg.enc) vs.length i = rB (okB (vs.take i) (vs.drop i) && decide (vs.length ≤ 8))
 | 0, i, h => by
  have : i = vs.length := by omega
  subst this
  have hlen : (vs.map GArg.enc).length = vs.length := by simp
  rw [zaa_1_eq, hlen, List.drop_length, decide_eq_false (by omega), cond_false]
  have : decide ((vs.length : Int) ≤ 8) = decide (vs.length ≤ 8) := by
   by_cases q : vs.length ≤ 8
   ·rw [decide_eq_true q, decide_eq_true (by omega)]
   ·rw [decide_eq_false q, decide_eq_false (by omega)]
  rw [this, okB, Bool.true_and]
 | m + 1, i, h => by
  have hlen : (vs.map GArg.enc).length = vs.length := by simp
  have hxl := hx.1
  have hlt : i < vs.length := by omega
  have hg : vs[i]? = some vs[i] := List.getElem?_eq_getElem hlt
  have hok := hx.2 vs[i] (List.getElem_mem _)
  have ht : vs.take (i + 1) = vs.take i ++ [vs[i]] := (List.take_append_getElem hlt).symm
  have ih := impl_binds hx m (i + 1) (by omega)
  have e2 : IntKind.i64.wrap ((i : Int) + 1) = ((i + 1 : Nat) : Int) := by rw [wrap_id (by omega)]; omega
  have hs : (((vs.map GArg.enc).drop (0 : Int).toNat).take ((i : Int).toNat - (0 : Int).toNat)) = (vs.take i).map GArg.enc := by
   have e0 : (0 : Int).toNat = 0 := rfl
   rw [e0, List.drop_zero, Int.toNat_natCast, Nat.sub_zero, List.map_take]
  have hc := contains_bind (ws := vs.take i) (by rw [List.length_take]; omega) vs[i]
  rw [zaa_1_eq, hlen, decide_eq_true (by omega), cond_true, if_pos (by omega), if_pos (by omega), hs, getD_enc hg, hc, bBoxB, fillF_self, enc_name, Option.bind_some, impl_NameOK_ev hok.1, bB, enc_drop, impl_ValueOK_ev hok.2, bB, enc_kind', Option.bind_some, List.drop_eq_getElem_cons hlt, okB, beq_int]
  simp only [zaa_2_eq, e2, ih, ht]
  cases nameB vs[i].name <;> cases valueB vs[i].val <;> cases decide (vs[i].val.kind = 4) <;> cases (vs.take i).any (fun a => decide (a.name = vs[i].name)) <;> simp
theorem impl_BindingsOK_ev {vs : List GArg} (hx : okL okArg vs) : ev E0 F_zaa [.p (.sl 4 (vs.map GArg.enc))] [] = rB (bindsB vs) := by
 have hlen : (vs.map GArg.enc).length = vs.length := by simp
 have := impl_binds hx vs.length 0 (by omega)
 have e0 : ((0 : Nat) : Int) = 0 := rfl
 rw [e0, List.drop_zero, List.take_zero] at this
 rw [zaa_0_ev, zaa_0_eq, hlen, this]
 rfl
def yesB (vs : List GArg) (d : GDir) : Bool := decide ((valOf vs d.val).1.kind = 2) && decide ((valOf vs d.val).1.n = 1)
def inB (vs : List GArg) (dirs : List GDir) : Bool := dirs.all fun d => !(yesB vs d == d.skip)
theorem dir_skip (d : GDir) : asBool (d.enc.getD 0 .undef) = some d.skip := rfl
theorem dir_drop (d : GDir) : d.enc.drop 1 = [.int .i64 d.val.kind, .int .i64 d.val.n, .str d.val.t] := rfl
theorem spec_in_loop {vs : List GArg} (hv : vs.length ≤ 9223372036854775807) {dirs : List GDir} (hd : dirs.length ≤ 9223372036854775807) (k : Int) (al nm : ByteArray) (l5 l7 : List (List Pd)) : ∀ (m i : Nat), i + m = dirs.length → zed_1 (vs.map GArg.enc) i k al nm l5 (dirs.map GDir.enc) l7 = rB (inB vs (dirs.drop i))
 | 0, i, h => by
  have : i = dirs.length := by omega
  subst this
  have hlen : (dirs.map GDir.enc).length = dirs.length := by simp
  rw [zed_1_eq, hlen, List.drop_length, decide_eq_false (by omega), cond_false]
  rfl
 | m + 1, i, h => by
  have hlen : (dirs.map GDir.enc).length = dirs.length := by simp
  have hlt : i < dirs.length := by omega
  have hg : dirs[i]? = some dirs[i] := List.getElem?_eq_getElem hlt
  have e2 : IntKind.i64.wrap ((i : Int) + 1) = ((i + 1 : Nat) : Int) := by rw [wrap_id (by omega)]; omega
  have ih := spec_in_loop hv hd k al nm l5 l7 m (i + 1) (by omega)
  have k1 : ∀ p : GVal, asInt .i64 (([.int .i64 p.kind, .int .i64 p.n, .str p.t] : List Pd).getD 0 .undef) = some p.kind := fun _ => rfl
  have k2 : ∀ p : GVal, asInt .i64 (([.int .i64 p.kind, .int .i64 p.n, .str p.t] : List Pd).getD 1 .undef) = some p.n := fun _ => rfl
  rw [zed_1_eq, hlen, decide_eq_true (by omega), cond_true, if_pos (by omega), getD_enc hg, dir_drop, spec_l05Value_ev hv, bV, k1, Option.bind_some, k2, Option.bind_some, List.drop_eq_getElem_cons hlt]
  have key : ∀ b, zed_2 (vs.map GArg.enc) i b k al nm l5 (dirs.map GDir.enc) l7 = bif b == dirs[i].skip then rB false else rB (inB vs (dirs.drop (i + 1))) := by
   intro b
   rw [zed_2_eq, hlen, if_pos (by omega), getD_enc hg, dir_skip, Option.bind_some, e2, ih]
  rw [key, key, beq_int, beq_int]
  unfold inB
  rw [List.all_cons]
  unfold yesB
  cases decide ((valOf vs dirs[i].val).1.kind = 2) <;> cases decide ((valOf vs dirs[i].val).1.n = 1) <;> cases dirs[i].skip <;> simp
theorem spec_l05In_ev {vs : List GArg} (hv : vs.length ≤ 9223372036854775807) : ∀ (x : GSel), okSel x → ∃ dirs, dirs = (match x with | .mk _ _ _ _ ds _ => ds) ∧ ev E0 F_zed [.p (.agg 6 x.enc), .p (.sl 4 (vs.map GArg.enc))] [] = rB (inB vs dirs)
 | .mk k al nm args dirs sels, hx => by
  obtain ⟨x1, x2, x3, x4, x5, x6⟩ := hx
  refine ⟨dirs, rfl, ?_⟩
  have := spec_in_loop hv x4.1 k al nm (args.map GArg.enc) (GSel.encs sels) dirs.length 0 (by omega)
  have e0 : ((0 : Nat) : Int) = 0 := rfl
  rw [e0, List.drop_zero] at this
  unfold GSel.enc
  rw [zed_0_ev, zed_0_eq, this]
def plainV (v : GVal) : Prop := v.kind = 2 → v.t = sNone
theorem valueB_plain {v : GVal} (h : valueB v = true) : plainV v := by
 intro h2
 unfold valueB at h
 rw [if_neg (by omega), if_pos h2] at h
 simp only [Bool.and_eq_true, decide_eq_true_eq] at h
 exact h.2
theorem included_fn {vs : List GArg} (hv : vs.length ≤ 9223372036854775807) (d : GDir) (hp : plainV (valOf vs d.val).1) : ev E0 F_zaw [.p (.agg 4 d.enc), .ptr (.out 0) 0] [.box 1 [.sl 4 (vs.map GArg.enc)]] = some ([.p (.bool (yesB vs d == d.skip))], [.box 1 [.sl 4 (vs.map GArg.enc)]]) := by
 have k1 : ∀ p : GVal, asInt .i64 (([.int .i64 p.kind, .int .i64 p.n, .str p.t] : List Pd).getD 0 .undef) = some p.kind := fun _ => rfl
 have k2 : ∀ p : GVal, asInt .i64 ((([.int .i64 p.kind, .int .i64 p.n, .str p.t] : List Pd).drop 1).getD 0 .undef) = some p.n := fun _ => rfl
 have k3 : ∀ p : GVal, asStr ((([.int .i64 p.kind, .int .i64 p.n, .str p.t] : List Pd).drop 2).getD 0 .undef) = some p.t := fun _ => rfl
 rw [zaw_0_ev, zaw_0_eq, dir_drop, impl_bound_ev hv, bV, k1, Option.bind_some, k2, Option.bind_some, k3, Option.bind_some, dir_skip, beq_int, beq_int]
 simp only [Option.bind_some]
 unfold yesB
 by_cases h2 : (valOf vs d.val).1.kind = 2
 ·rw [hp h2, decide_eq_true h2]
  cases decide ((valOf vs d.val).1.n = 1) <;> simp
 ·rw [decide_eq_false h2]
  simp
theorem dirs_fold (l : List (List Pd)) (m i : Int) (v : List (List Pd)) : zdk_4 l m i [.sl 4 v] = zdk_3 l m i v := rfl
theorem idx_dirs {vs : List GArg} (hv : vs.length ≤ 9223372036854775807) {dirs : List GDir} (hl : dirs.length ≤ 9223372036854775807) (hp : ∀ d ∈ dirs, plainV (valOf vs d.val).1) : ∀ (m i : Nat), i + m = dirs.length → ∃ q : Int, zdk_3 (dirs.map GDir.enc) dirs.length i (vs.map GArg.enc) = some ([.p (.int .i64 q)], [.box 1 [.sl 4 (vs.map GArg.enc)]]) ∧ decide (q ≥ 0) = (dirs.drop i).any fun d => yesB vs d == d.skip
 | 0, i, h => by
  have : i = dirs.length := by omega
  subst this
  rw [zdk_3_eq, List.drop_length, decide_eq_false (by omega), cond_false]
  exact ⟨-1, rfl, rfl⟩
 | m + 1, i, h => by
  have hlen : (dirs.map GDir.enc).length = dirs.length := by simp
  have hlt : i < dirs.length := by omega
  have hg : dirs[i]? = some dirs[i] := List.getElem?_eq_getElem hlt
  rw [zdk_3_eq, hlen, decide_eq_true (by omega), cond_true, if_pos (by omega), getD_enc hg, included_fn hv _ (hp _ (List.getElem_mem _)), bBoxB, fillF_self, List.drop_eq_getElem_cons hlt, List.any_cons]
  cases hd : (yesB vs dirs[i] == dirs[i].skip) with
  | true => exact ⟨i, rfl, by simp⟩
  | false =>
   have e2 : IntKind.i64.wrap ((i : Int) + 1) = ((i + 1 : Nat) : Int) := by rw [wrap_id (by omega)]; omega
   rw [cond_false, e2, Bool.false_or, dirs_fold]
   exact idx_dirs hv hl hp m (i + 1) (by omega)
theorem contains_dirs2 {vs : List GArg} (hv : vs.length ≤ 9223372036854775807) {dirs : List GDir} (hl : dirs.length ≤ 9223372036854775807) (hp : ∀ d ∈ dirs, plainV (valOf vs d.val).1) : ev E0 F_zdg [.p (.sl 4 (dirs.map GDir.enc)), .fn F_zaw [.ptr (.out 0) 0]] [.box 1 [.sl 4 (vs.map GArg.enc)]] = some ([.p (.bool (dirs.any fun d => yesB vs d == d.skip))], [.box 1 [.sl 4 (vs.map GArg.enc)]]) := by
 have hlen : (dirs.map GDir.enc).length = dirs.length := by simp
 obtain ⟨q, q1, q2⟩ := idx_dirs hv hl hp dirs.length 0 (by omega)
 have e0 : ((0 : Nat) : Int) = 0 := rfl
 rw [e0] at q1
 rw [List.drop_zero] at q2
 rw [zdg_1_ev, zdg_1_eq, zdk_1_ev, zdk_1_eq, hlen, q1, bBoxI, fillF_self, q2]
theorem look_mem {t : ByteArray} : ∀ {vs : List GArg} {w : GVal}, look t vs = some w → ∃ a ∈ vs, a.val = w
 | [], w, h => by cases h
 | a :: vs, w, h => by
  unfold look at h
  cases hd : decide (a.name = t) with
  | true =>
   rw [hd, cond_true] at h
   injection h with h
   exact ⟨a, List.mem_cons_self .., h⟩
  | false =>
   rw [hd, cond_false] at h
   obtain ⟨b, h1, h2⟩ := look_mem h
   exact ⟨b, List.mem_cons_of_mem _ h1, h2⟩
theorem okB_vals : ∀ {vs pre : List GArg}, okB pre vs = true → ∀ a ∈ vs, valueB a.val = true
 | [], _, _, a, ha => by cases ha
 | b :: bs, pre, h, a, ha => by
  unfold okB at h
  simp only [Bool.and_eq_true] at h
  rcases List.mem_cons.1 ha with q | q
  ·rw [q]; exact h.1.1.2
  ·exact okB_vals h.2.2 a q
theorem valOf_plain {vs : List GArg} (hv : bindsB vs = true) {v : GVal} (h : valueB v = true) : plainV (valOf vs v).1 := by
 unfold bindsB at hv
 simp only [Bool.and_eq_true] at hv
 unfold valOf
 by_cases h4 : v.kind = 4
 ·rw [if_pos h4]
  cases hl : look v.t vs with
  | none => exact fun q => by cases q
  | some w =>
   obtain ⟨a, h1, h2⟩ := look_mem hl
   exact valueB_plain (h2 ▸ okB_vals hv.1 a h1)
 ·rw [if_neg h4]
  exact valueB_plain h
end Go.Proofs.YtmnoibkdmeajpaaGreat.Dm
