/- For every selection and its bindings the law FnExactIncluded returns true: bindings of the program, what is included. -/
import Derived.Test.YtlmmimhjfajhdaaT9
namespace Go.Proofs.Ytlmmimhjfajhdaa.Dm
set_option linter.unusedVariables false
set_option linter.unusedSimpArgs false

theorem impl_binds {vs : List GArg} (hx : okL okArg vs) : ∀ (m i : Nat), i + m = vs.length → impl_BindingsOK_1 (vs.map GArg.enc) (vs.map GArg.enc) vs.length i = rB (okB (vs.take i) (vs.drop i) && decide (vs.length ≤ 8))
  | 0, i, h => by
    have : i = vs.length := by omega
    subst this
    have hlen : (vs.map GArg.enc).length = vs.length := by simp
    rw [impl_BindingsOK_1_eq, hlen, List.drop_length, decide_eq_false (by omega), cond_false]
    have : decide ((vs.length : Int) ≤ 8) = decide (vs.length ≤ 8) := by
      by_cases q : vs.length ≤ 8
      · rw [decide_eq_true q, decide_eq_true (by omega)]
      · rw [decide_eq_false q, decide_eq_false (by omega)]
    rw [this, okB, Bool.true_and]
  | m + 1, i, h => by
    have hlen : (vs.map GArg.enc).length = vs.length := by simp
    have hxl := hx.1
    have hlt : i < vs.length := by omega
    have hg : vs[i]? = some vs[i] := List.getElem?_eq_getElem hlt
    have hok := hx.2 vs[i] (List.getElem_mem _)
    have ht : vs.take (i + 1) = vs.take i ++ [vs[i]] := (List.take_append_getElem hlt).symm
    have ih := impl_binds hx m (i + 1) (by omega)
    have e2 : IntKind.i64.wrap ((i : Int) + 1) = ((i + 1 : Nat) : Int) := by rw [wrap_id (by omega)]; omega
    have hs : (((vs.map GArg.enc).drop (0 : Int).toNat).take ((i : Int).toNat - (0 : Int).toNat)) = (vs.take i).map GArg.enc := by
      have e0 : (0 : Int).toNat = 0 := rfl
      rw [e0, List.drop_zero, Int.toNat_natCast, Nat.sub_zero, List.map_take]
    have hc := contains_bind (ws := vs.take i) (by rw [List.length_take]; omega) vs[i]
    rw [impl_BindingsOK_1_eq, hlen, decide_eq_true (by omega), cond_true, if_pos (by omega), if_pos (by omega), hs, getD_enc hg, hc, bBoxB, enc_name, Option.bind_some, impl_NameOK_ev hok.1, bB, enc_drop, impl_ValueOK_ev hok.2, bB, enc_kind', Option.bind_some, List.drop_eq_getElem_cons hlt, okB, beq_int]
    simp only [impl_BindingsOK_2_eq, e2, ih, ht]
    cases nameB vs[i].name <;> cases valueB vs[i].val <;> cases decide (vs[i].val.kind = 4) <;> cases (vs.take i).any (fun a => decide (a.name = vs[i].name)) <;> simp
theorem impl_BindingsOK_ev {vs : List GArg} (hx : okL okArg vs) : ev E0 F_impl_BindingsOK [.p (.sl 4 (vs.map GArg.enc))] [] = rB (bindsB vs) := by
  have hlen : (vs.map GArg.enc).length = vs.length := by simp
  have := impl_binds hx vs.length 0 (by omega)
  have e0 : ((0 : Nat) : Int) = 0 := rfl
  rw [e0, List.drop_zero, List.take_zero] at this
  rw [impl_BindingsOK_0_ev, impl_BindingsOK_0_eq, hlen, this]
  rfl
/-! ### what is included -/
def yesB (vs : List GArg) (d : GDir) : Bool := decide ((valOf vs d.val).1.kind = 2) && decide ((valOf vs d.val).1.n = 1)
def inB (vs : List GArg) (dirs : List GDir) : Bool := dirs.all fun d => !(yesB vs d == d.skip)
theorem dir_skip (d : GDir) : asBool (d.enc.getD 0 .undef) = some d.skip := rfl
theorem dir_drop (d : GDir) : d.enc.drop 1 = [.int .i64 d.val.kind, .int .i64 d.val.n, .str d.val.t] := rfl
theorem spec_in_loop {vs : List GArg} (hv : vs.length ≤ 9223372036854775807) {dirs : List GDir} (hd : dirs.length ≤ 9223372036854775807) (k : Int) (al nm : ByteArray) (l5 l7 : List (List Pd)) : ∀ (m i : Nat), i + m = dirs.length → spec_l05In_1 (vs.map GArg.enc) i k al nm l5 (dirs.map GDir.enc) l7 = rB (inB vs (dirs.drop i))
  | 0, i, h => by
    have : i = dirs.length := by omega
    subst this
    have hlen : (dirs.map GDir.enc).length = dirs.length := by simp
    rw [spec_l05In_1_eq, hlen, List.drop_length, decide_eq_false (by omega), cond_false]
    rfl
  | m + 1, i, h => by
    have hlen : (dirs.map GDir.enc).length = dirs.length := by simp
    have hlt : i < dirs.length := by omega
    have hg : dirs[i]? = some dirs[i] := List.getElem?_eq_getElem hlt
    have e2 : IntKind.i64.wrap ((i : Int) + 1) = ((i + 1 : Nat) : Int) := by rw [wrap_id (by omega)]; omega
    have ih := spec_in_loop hv hd k al nm l5 l7 m (i + 1) (by omega)
    have k1 : ∀ p : GVal, asInt .i64 (([.int .i64 p.kind, .int .i64 p.n, .str p.t] : List Pd).getD 0 .undef) = some p.kind := fun _ => rfl
    have k2 : ∀ p : GVal, asInt .i64 (([.int .i64 p.kind, .int .i64 p.n, .str p.t] : List Pd).getD 1 .undef) = some p.n := fun _ => rfl
    rw [spec_l05In_1_eq, hlen, decide_eq_true (by omega), cond_true, if_pos (by omega), getD_enc hg, dir_drop, spec_l05Value_ev hv, bV, k1, Option.bind_some, k2, Option.bind_some, List.drop_eq_getElem_cons hlt]
    have key : ∀ b, spec_l05In_2 (vs.map GArg.enc) i b k al nm l5 (dirs.map GDir.enc) l7 = bif b == dirs[i].skip then rB false else rB (inB vs (dirs.drop (i + 1))) := by
      intro b
      rw [spec_l05In_2_eq, hlen, if_pos (by omega), getD_enc hg, dir_skip, Option.bind_some, e2, ih]
    rw [key, key, beq_int, beq_int]
    unfold inB
    rw [List.all_cons]
    unfold yesB
    cases decide ((valOf vs dirs[i].val).1.kind = 2) <;> cases decide ((valOf vs dirs[i].val).1.n = 1) <;> cases dirs[i].skip <;> simp
theorem spec_l05In_ev {vs : List GArg} (hv : vs.length ≤ 9223372036854775807) : ∀ (x : GSel), okSel x → ∃ dirs, dirs = (match x with | .mk _ _ _ _ ds _ => ds) ∧ ev E0 F_spec_l05In [.p (.agg 6 x.enc), .p (.sl 4 (vs.map GArg.enc))] [] = rB (inB vs dirs)
  | .mk k al nm args dirs sels, hx => by
    obtain ⟨x1, x2, x3, x4, x5, x6⟩ := hx
    refine ⟨dirs, rfl, ?_⟩
    have := spec_in_loop hv x4.1 k al nm (args.map GArg.enc) (GSel.encs sels) dirs.length 0 (by omega)
    have e0 : ((0 : Nat) : Int) = 0 := rfl
    rw [e0, List.drop_zero] at this
    unfold GSel.enc
    rw [spec_l05In_0_ev, spec_l05In_0_eq, this]
/-- what stands for a value is right, too: a yes or no has no text -/
def plainV (v : GVal) : Prop := v.kind = 2 → v.t = sNone
theorem valueB_plain {v : GVal} (h : valueB v = true) : plainV v := by
  intro h2
  unfold valueB at h
  rw [if_neg (by omega), if_pos h2] at h
  simp only [Bool.and_eq_true, decide_eq_true_eq] at h
  exact h.2
theorem included_fn {vs : List GArg} (hv : vs.length ≤ 9223372036854775807) (d : GDir) (hp : plainV (valOf vs d.val).1) : ev E0 F_impl_included_1 [.p (.agg 4 d.enc), .ptr (.out 0) 0] [.box 1 [.sl 4 (vs.map GArg.enc)]] = some ([.p (.bool (yesB vs d == d.skip))], [.box 1 [.sl 4 (vs.map GArg.enc)]]) := by
  have k1 : ∀ p : GVal, asInt .i64 (([.int .i64 p.kind, .int .i64 p.n, .str p.t] : List Pd).getD 0 .undef) = some p.kind := fun _ => rfl
  have k2 : ∀ p : GVal, asInt .i64 ((([.int .i64 p.kind, .int .i64 p.n, .str p.t] : List Pd).drop 1).getD 0 .undef) = some p.n := fun _ => rfl
  have k3 : ∀ p : GVal, asStr ((([.int .i64 p.kind, .int .i64 p.n, .str p.t] : List Pd).drop 2).getD 0 .undef) = some p.t := fun _ => rfl
  rw [impl_included_1_0_ev, impl_included_1_0_eq, dir_drop, impl_bound_ev hv, bV, k1, Option.bind_some, k2, Option.bind_some, k3, Option.bind_some, dir_skip, beq_int, beq_int]
  simp only [Option.bind_some]
  unfold yesB
  by_cases h2 : (valOf vs d.val).1.kind = 2
  · rw [hp h2, decide_eq_true h2]
    cases decide ((valOf vs d.val).1.n = 1) <;> simp
  · rw [decide_eq_false h2]
    simp
theorem dirs_fold (l : List (List Pd)) (m i : Int) (v : List (List Pd)) : slices_IndexFunc_impl_Dir_impl_Dir_4 l m i [.sl 4 v] = slices_IndexFunc_impl_Dir_impl_Dir_3 l m i v := rfl
theorem idx_dirs {vs : List GArg} (hv : vs.length ≤ 9223372036854775807) {dirs : List GDir} (hl : dirs.length ≤ 9223372036854775807) (hp : ∀ d ∈ dirs, plainV (valOf vs d.val).1) : ∀ (m i : Nat), i + m = dirs.length → ∃ q : Int, slices_IndexFunc_impl_Dir_impl_Dir_3 (dirs.map GDir.enc) dirs.length i (vs.map GArg.enc) = some ([.p (.int .i64 q)], [.box 1 [.sl 4 (vs.map GArg.enc)]]) ∧ decide (q ≥ 0) = (dirs.drop i).any fun d => yesB vs d == d.skip
  | 0, i, h => by
    have : i = dirs.length := by omega
    subst this
    rw [slices_IndexFunc_impl_Dir_impl_Dir_3_eq, List.drop_length, decide_eq_false (by omega), cond_false]
    exact ⟨-1, rfl, rfl⟩
  | m + 1, i, h => by
    have hlen : (dirs.map GDir.enc).length = dirs.length := by simp
    have hlt : i < dirs.length := by omega
    have hg : dirs[i]? = some dirs[i] := List.getElem?_eq_getElem hlt
    rw [slices_IndexFunc_impl_Dir_impl_Dir_3_eq, hlen, decide_eq_true (by omega), cond_true, if_pos (by omega), getD_enc hg, included_fn hv _ (hp _ (List.getElem_mem _)), bBoxB, List.drop_eq_getElem_cons hlt, List.any_cons]
    cases hd : (yesB vs dirs[i] == dirs[i].skip) with
    | true => exact ⟨i, rfl, by simp⟩
    | false =>
      have e2 : IntKind.i64.wrap ((i : Int) + 1) = ((i + 1 : Nat) : Int) := by rw [wrap_id (by omega)]; omega
      rw [cond_false, e2, Bool.false_or, dirs_fold]
      exact idx_dirs hv hl hp m (i + 1) (by omega)
theorem contains_dirs2 {vs : List GArg} (hv : vs.length ≤ 9223372036854775807) {dirs : List GDir} (hl : dirs.length ≤ 9223372036854775807) (hp : ∀ d ∈ dirs, plainV (valOf vs d.val).1) : ev E0 F_slices_ContainsFunc_impl_Dir_impl_Dir [.p (.sl 4 (dirs.map GDir.enc)), .fn F_impl_included_1 [.ptr (.out 0) 0]] [.box 1 [.sl 4 (vs.map GArg.enc)]] = some ([.p (.bool (dirs.any fun d => yesB vs d == d.skip))], [.box 1 [.sl 4 (vs.map GArg.enc)]]) := by
  have hlen : (dirs.map GDir.enc).length = dirs.length := by simp
  obtain ⟨q, q1, q2⟩ := idx_dirs hv hl hp dirs.length 0 (by omega)
  have e0 : ((0 : Nat) : Int) = 0 := rfl
  rw [e0] at q1
  rw [List.drop_zero] at q2
  rw [slices_ContainsFunc_impl_Dir_impl_Dir_1_ev, slices_ContainsFunc_impl_Dir_impl_Dir_1_eq, slices_IndexFunc_impl_Dir_impl_Dir_1_ev, slices_IndexFunc_impl_Dir_impl_Dir_1_eq, hlen, q1, bBoxI, q2]
theorem look_mem {t : ByteArray} : ∀ {vs : List GArg} {w : GVal}, look t vs = some w → ∃ a ∈ vs, a.val = w
  | [], w, h => by cases h
  | a :: vs, w, h => by
    unfold look at h
    cases hd : decide (a.name = t) with
    | true =>
      rw [hd, cond_true] at h
      injection h with h
      exact ⟨a, List.mem_cons_self .., h⟩
    | false =>
      rw [hd, cond_false] at h
      obtain ⟨b, h1, h2⟩ := look_mem h
      exact ⟨b, List.mem_cons_of_mem _ h1, h2⟩
theorem okB_vals : ∀ {vs pre : List GArg}, okB pre vs = true → ∀ a ∈ vs, valueB a.val = true
  | [], _, _, a, ha => by cases ha
  | b :: bs, pre, h, a, ha => by
    unfold okB at h
    simp only [Bool.and_eq_true] at h
    rcases List.mem_cons.1 ha with q | q
    · rw [q]; exact h.1.1.2
    · exact okB_vals h.2.2 a q
theorem valOf_plain {vs : List GArg} (hv : bindsB vs = true) {v : GVal} (h : valueB v = true) : plainV (valOf vs v).1 := by
  unfold bindsB at hv
  simp only [Bool.and_eq_true] at hv
  unfold valOf
  by_cases h4 : v.kind = 4
  · rw [if_pos h4]
    cases hl : look v.t vs with
    | none => exact fun q => by cases q
    | some w =>
      obtain ⟨a, h1, h2⟩ := look_mem hl
      exact valueB_plain (h2 ▸ okB_vals hv.1 a h1)
  · rw [if_neg h4]
    exact valueB_plain h
end Go.Proofs.Ytlmmimhjfajhdaa.Dm
