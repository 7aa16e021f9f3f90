/- For every document and its bindings the law FnExactVarsFit returns true. -/
import Derived.Test.YtlmmimhjfajhdaaT12
namespace Go.Proofs.Ytlmmimhjfajhdaa.Dm
set_option linter.unusedVariables false
set_option linter.unusedSimpArgs false

/-- what is used is bound to what it must be -/
def useB (vs : List GArg) (d : Bool) (v : GVal) : Bool := (valOf vs v).2 && (decide ((valOf vs v).1.kind = 2) == d)
mutual
def fitS (vs : List GArg) : GSel → Bool
  | .mk _ _ _ args dirs sels => args.all (fun a => useB vs false a.val) && (dirs.all (fun d => useB vs true d.val) && fitSs vs sels)
def fitSs (vs : List GArg) : List GSel → Bool
  | [] => true
  | x :: xs => fitS vs x && fitSs vs xs
end
theorem fitSs_drop (vs : List GArg) : ∀ (xs : List GSel), fitSs vs xs = xs.all (fitS vs)
  | [] => rfl
  | x :: xs => by rw [fitSs, List.all_cons, fitSs_drop vs xs]
theorem uses_fn {vs : List GArg} (hv : vs.length ≤ 9223372036854775807) (v : GVal) (d b : Bool) : ev E0 F_impl_Doc_varsFit_1 [.p (.agg 3 [.int .i64 v.kind, .int .i64 v.n, .str v.t]), .p (.bool d), .ptr (.out 0) 0, .ptr (.out 1) 0] [.box 1 [.sl 4 (vs.map GArg.enc)], .box 1 [.bool b]] = some ([], [.box 1 [.sl 4 (vs.map GArg.enc)], .box 1 [.bool (b && useB vs d v)]]) := by
  have k1 : ∀ p : GVal, asInt .i64 (([.int .i64 p.kind, .int .i64 p.n, .str p.t] : List Pd).getD 0 .undef) = some p.kind := fun _ => rfl
  rw [impl_Doc_varsFit_1_0_ev, impl_Doc_varsFit_1_0_eq, impl_bound_ev hv, bV, k1, Option.bind_some, beq_int]
  unfold useB
  cases b <;> cases (valOf vs v).2 <;> rfl
theorem bUse {R : Type} (l : List (List Pd)) (b : Bool) (K : List Pd → List Pd → Option R) : ((some ([], [.box 1 [.sl 4 l], .box 1 [.bool b]]) : Option Res).bind fun r => if r.1.length = 0 then ((asBox 1 (r.2.getD 0 .none)).bind fun c => (asBox 1 (r.2.getD 1 .none)).bind fun d => if r.2.length = 2 then K c d else none) else none) = K [.sl 4 l] [.bool b] := by simp [asBox]
theorem fold5 (l0 : List (List Pd)) (n1 n2 : Int) (l3 : List (List Pd)) (n4 n5 : Int) (c6 : List Pd) (l7 : List (List Pd)) (b8 : Bool) : impl_usesIn_5 l0 n1 n2 l3 n4 n5 c6 [.sl 4 l7] [.bool b8] = impl_usesIn_4 l0 n1 n2 l3 n4 n5 c6 l7 b8 := rfl
theorem fold7 (l0 : List (List Pd)) (n1 n2 : Int) (l3 : List (List Pd)) (n4 n5 : Int) (c6 : List Pd) (l7 : List (List Pd)) (b8 : Bool) : impl_usesIn_7 l0 n1 n2 l3 n4 n5 c6 [.sl 4 l7] [.bool b8] = impl_usesIn_6 l0 n1 n2 l3 n4 n5 c6 l7 b8 := rfl
theorem fold3 (l0 : List (List Pd)) (n1 n2 : Int) (l7 : List (List Pd)) (b8 : Bool) : impl_usesIn_3 l0 n1 n2 [.sl 4 l7] [.bool b8] = impl_usesIn_2 l0 n1 n2 l7 b8 := rfl
theorem fold2 (l0 : List (List Pd)) (n1 n2 : Int) (l7 : List (List Pd)) (b8 : Bool) : impl_Doc_uses_2 l0 n1 n2 [.sl 4 l7] [.bool b8] = impl_Doc_uses_1 l0 n1 n2 l7 b8 := rfl
theorem uses_args {vs : List GArg} (hv : vs.length ≤ 9223372036854775807) {args : List GArg} (ha : args.length ≤ 9223372036854775807) {dl : List (List Pd)} (l0 : List (List Pd)) (n1 n2 : Int) (c6 : List Pd) (hd : asSl 4 (c6.getD 4 .undef) = some dl) : ∀ (k i : Nat) (b : Bool), i + k = args.length →
    impl_usesIn_4 l0 n1 n2 (args.map GArg.enc) args.length i c6 (vs.map GArg.enc) b = impl_usesIn_6 l0 n1 n2 dl dl.length 0 c6 (vs.map GArg.enc) (b && (args.drop i).all fun a => useB vs false a.val)
  | 0, i, b, h => by
    have : i = args.length := by omega
    subst this
    rw [impl_usesIn_4_eq, List.drop_length, decide_eq_false (by omega), cond_false, hd, Option.bind_some, List.all_nil, Bool.and_true]
  | k + 1, i, b, h => by
    have hlen : (args.map GArg.enc).length = args.length := by simp
    have hlt : i < args.length := by omega
    have hg : args[i]? = some args[i] := List.getElem?_eq_getElem hlt
    have e2 : IntKind.i64.wrap ((i : Int) + 1) = ((i + 1 : Nat) : Int) := by rw [wrap_id (by omega)]; omega
    rw [impl_usesIn_4_eq, decide_eq_true (by omega), cond_true, hlen, if_pos (by omega), getD_enc hg, enc_drop, uses_fn hv, bUse, fold5, e2, uses_args hv ha l0 n1 n2 c6 hd k (i + 1) _ (by omega), List.drop_eq_getElem_cons hlt, List.all_cons, Bool.and_assoc]
theorem uses_dirs {vs : List GArg} (hv : vs.length ≤ 9223372036854775807) {dirs : List GDir} (ha : dirs.length ≤ 9223372036854775807) (l0 : List (List Pd)) (n1 n2 : Int) (c6 : List Pd) : ∀ (k i : Nat) (b : Bool), i + k = dirs.length →
    impl_usesIn_6 l0 n1 n2 (dirs.map GDir.enc) dirs.length i c6 (vs.map GArg.enc) b = impl_usesIn_6 l0 n1 n2 (dirs.map GDir.enc) dirs.length dirs.length c6 (vs.map GArg.enc) (b && (dirs.drop i).all fun a => useB vs true a.val)
  | 0, i, b, h => by
    have : i = dirs.length := by omega
    subst this
    rw [List.drop_length, List.all_nil, Bool.and_true]
  | k + 1, i, b, h => by
    have hlen : (dirs.map GDir.enc).length = dirs.length := by simp
    have hlt : i < dirs.length := by omega
    have hg : dirs[i]? = some dirs[i] := List.getElem?_eq_getElem hlt
    have e2 : IntKind.i64.wrap ((i : Int) + 1) = ((i + 1 : Nat) : Int) := by rw [wrap_id (by omega)]; omega
    rw [impl_usesIn_6_eq, decide_eq_true (by omega), cond_true, hlen, if_pos (by omega), getD_enc hg, dir_drop, uses_fn hv, bUse, fold7, e2, uses_dirs hv ha l0 n1 n2 c6 k (i + 1) _ (by omega), List.drop_eq_getElem_cons hlt, List.all_cons, Bool.and_assoc]
theorem usesIn_ev {vs : List GArg} (hv : vs.length ≤ 9223372036854775807) : ∀ (n : Nat) (xs : List GSel) (b : Bool), SizeOf.sizeOf xs ≤ n → okL okSel xs → ev E0 F_impl_usesIn [.p (.sl 6 (xs.map GSel.enc)), .fn F_impl_Doc_varsFit_1 [.ptr (.out 0) 0, .ptr (.out 1) 0]] [.box 1 [.sl 4 (vs.map GArg.enc)], .box 1 [.bool b]] = some ([], [.box 1 [.sl 4 (vs.map GArg.enc)], .box 1 [.bool (b && fitSs vs xs)]])
  | n, xs, b, hn, hok => by
    have hlen : (xs.map GSel.enc).length = xs.length := by simp
    have hxl := hok.1
    have loop : ∀ (k i : Nat) (b : Bool), i + k = xs.length → impl_usesIn_2 (xs.map GSel.enc) xs.length i (vs.map GArg.enc) b = some ([], [.box 1 [.sl 4 (vs.map GArg.enc)], .box 1 [.bool (b && fitSs vs (xs.drop i))]]) := by
      intro k
      induction k with
      | zero =>
        intro i b h
        have : i = xs.length := by omega
        subst this
        rw [impl_usesIn_2_eq, List.drop_length, decide_eq_false (by omega), cond_false, fitSs, Bool.and_true]
      | succ k ih =>
        intro i b h
        have hlt : i < xs.length := by omega
        have hg : xs[i]? = some xs[i] := List.getElem?_eq_getElem hlt
        have e2 : IntKind.i64.wrap ((i : Int) + 1) = ((i + 1 : Nat) : Int) := by rw [wrap_id (by omega)]; omega
        have hm := List.getElem_mem hlt
        have hokx := hok.2 _ hm
        have hsz := List.sizeOf_lt_of_mem hm
        rw [impl_usesIn_2_eq, decide_eq_true (by omega), cond_true, hlen, if_pos (by omega), getD_enc hg, List.drop_eq_getElem_cons hlt, fitSs]
        cases hx : xs[i] with
        | mk kk al nm args dirs sels =>
          rw [hx] at hokx hsz
          obtain ⟨_, _, o3, o4, o5, o6⟩ := hokx
          have e3 : asSl 4 ((GSel.mk kk al nm args dirs sels).enc.getD 3 .undef) = some (args.map GArg.enc) := by unfold GSel.enc; rfl
          have e4 : asSl 4 ((GSel.mk kk al nm args dirs sels).enc.getD 4 .undef) = some (dirs.map GDir.enc) := by unfold GSel.enc; rfl
          have e5 : asSl 6 ((GSel.mk kk al nm args dirs sels).enc.getD 5 .undef) = some (sels.map GSel.enc) := enc_get5 _
          have e0 : ((0 : Nat) : Int) = 0 := rfl
          have hla : (args.map GArg.enc).length = args.length := by simp
          have hld : (dirs.map GDir.enc).length = dirs.length := by simp
          have ta := uses_args hv o3.1 (xs.map GSel.enc) xs.length i _ e4 args.length 0 b (by omega)
          rw [e0, List.drop_zero, hld] at ta
          have td := uses_dirs hv o4.1 (xs.map GSel.enc) xs.length i (GSel.mk kk al nm args dirs sels).enc dirs.length 0 (b && args.all fun a => useB vs false a.val) (by omega)
          rw [e0, List.drop_zero] at td
          have hrec : ∀ b, ev E0 F_impl_usesIn [.p (.sl 6 (sels.map GSel.enc)), .fn F_impl_Doc_varsFit_1 [.ptr (.out 0) 0, .ptr (.out 1) 0]] [.box 1 [.sl 4 (vs.map GArg.enc)], .box 1 [.bool b]] = some ([], [.box 1 [.sl 4 (vs.map GArg.enc)], .box 1 [.bool (b && fitSs vs sels)]]) := fun b => by
            cases n with
            | zero => omega
            | succ n => exact usesIn_ev hv n sels b (by simp at hsz; omega) ⟨o5, okSels_mem o6⟩
          rw [e3, Option.bind_some, hla, ta, td, impl_usesIn_6_eq, decide_eq_false (by omega), cond_false, e5, Option.bind_some, hrec, bUse, fold3, e2, ih (i + 1) _ (by omega)]
          simp only [fitS, Bool.and_assoc]
    have e0 : ((0 : Nat) : Int) = 0 := rfl
    have := loop xs.length 0 b (by omega)
    rw [e0, List.drop_zero] at this
    rw [impl_usesIn_0_ev, impl_usesIn_0_eq, hlen, this]
def fitD (vs : List GArg) (xs : List GDef) : Bool := xs.all fun d => fitSs vs d.sels
theorem varsFit_ev {vs : List GArg} (hv : vs.length ≤ 9223372036854775807) {xs : List GDef} (hx : okL okDef xs) : ev E0 F_impl_Doc_varsFit [.p (.agg 1 [.sl 4 (xs.map GDef.enc)]), .p (.sl 4 (vs.map GArg.enc))] [] = rB (fitD vs xs) := by
  have hlen : (xs.map GDef.enc).length = xs.length := by simp
  have hxl := hx.1
  have loop : ∀ (k i : Nat) (b : Bool), i + k = xs.length → impl_Doc_uses_1 (xs.map GDef.enc) xs.length i (vs.map GArg.enc) b = some ([], [.box 1 [.sl 4 (vs.map GArg.enc)], .box 1 [.bool (b && fitD vs (xs.drop i))]]) := by
    intro k
    induction k with
    | zero =>
      intro i b h
      have : i = xs.length := by omega
      subst this
      rw [impl_Doc_uses_1_eq, List.drop_length, decide_eq_false (by omega), cond_false, fitD, List.all_nil, Bool.and_true]
    | succ k ih =>
      intro i b h
      have hlt : i < xs.length := by omega
      have hg : xs[i]? = some xs[i] := List.getElem?_eq_getElem hlt
      have e2 : IntKind.i64.wrap ((i : Int) + 1) = ((i + 1 : Nat) : Int) := by rw [wrap_id (by omega)]; omega
      have hm := List.getElem_mem hlt
      have e3 : asSl 6 (xs[i].enc.getD 3 .undef) = some (xs[i].sels.map GSel.enc) := rfl
      rw [impl_Doc_uses_1_eq, decide_eq_true (by omega), cond_true, hlen, if_pos (by omega), getD_enc hg, e3, Option.bind_some, usesIn_ev hv _ _ _ (Nat.le_refl _) (hx.2 _ hm).2.2, bUse, fold2, e2, ih (i + 1) _ (by omega), List.drop_eq_getElem_cons hlt]
      simp only [fitD, List.all_cons, Bool.and_assoc]
  have e0 : ((0 : Nat) : Int) = 0 := rfl
  have := loop xs.length 0 true (by omega)
  rw [e0, List.drop_zero, Bool.true_and] at this
  have e4 : asBool (([.bool (fitD vs xs)] : List Pd).getD 0 .undef) = some (fitD vs xs) := rfl
  rw [impl_Doc_varsFit_0_ev, impl_Doc_varsFit_0_eq, impl_Doc_uses_0_ev, impl_Doc_uses_0_eq, hlen, this, bUse, e4]
  rfl
/-! ### the reference -/
theorem sfit_args {vs : List GArg} (hv : vs.length ≤ 9223372036854775807) {l0 : List (List Pd)} {n2 : Nat} {args : List GArg} (ha : args.length ≤ 9223372036854775807) (hn : n2 < l0.length) (h3 : asSl 4 (((l0.getD (n2 : Int).toNat []).drop 3).getD 0 .undef) = some (args.map GArg.enc)) : ∀ (k i : Nat), i + k = args.length →
    spec_l05Fit_2 l0 (vs.map GArg.enc) n2 i = bif (args.drop i).all (fun a => useB vs false a.val) then spec_l05Fit_4 l0 (vs.map GArg.enc) n2 0 else rB false
  | 0, i, h => by
    have : i = args.length := by omega
    subst this
    have hlen : (args.map GArg.enc).length = args.length := by simp
    rw [spec_l05Fit_2_eq, if_pos (by omega), h3, Option.bind_some, hlen, decide_eq_false (by omega), List.drop_length]
    rfl
  | k + 1, i, h => by
    have hlen : (args.map GArg.enc).length = args.length := by simp
    have hlt : i < args.length := by omega
    have hg : args[i]? = some args[i] := List.getElem?_eq_getElem hlt
    have e2 : IntKind.i64.wrap ((i : Int) + 1) = ((i + 1 : Nat) : Int) := by rw [wrap_id (by omega)]; omega
    have k1 : ∀ p : GVal, asInt .i64 (([.int .i64 p.kind, .int .i64 p.n, .str p.t] : List Pd).getD 0 .undef) = some p.kind := fun _ => rfl
    rw [spec_l05Fit_2_eq, if_pos (by omega), h3, Option.bind_some, hlen, decide_eq_true (by omega), cond_true, if_pos (by omega), Option.bind_some, hlen, if_pos (by omega), getD_enc hg, enc_drop, spec_l05Value_ev hv, bV, k1, Option.bind_some, List.drop_eq_getElem_cons hlt, List.all_cons]
    simp only [spec_l05Fit_3_eq, e2, sfit_args hv ha hn h3 k (i + 1) (by omega), beq_int]
    unfold useB
    cases (valOf vs args[i].val).2 <;> cases decide ((valOf vs args[i].val).1.kind = 2) <;> simp
theorem sfit_dirs {vs : List GArg} (hv : vs.length ≤ 9223372036854775807) {l0 : List (List Pd)} {n2 : Nat} {dirs : List GDir} (ha : dirs.length ≤ 9223372036854775807) (hn : n2 < l0.length) (h4 : asSl 4 (((l0.getD (n2 : Int).toNat []).drop 4).getD 0 .undef) = some (dirs.map GDir.enc)) {sl : List (List Pd)} (h5 : asSl 6 (((l0.getD (n2 : Int).toNat []).drop 5).getD 0 .undef) = some sl) {f : Bool} (hf : ev E0 F_spec_l05Fit [.p (.sl 6 sl), .p (.sl 4 (vs.map GArg.enc))] [] = rB f) : ∀ (k i : Nat), i + k = dirs.length →
    spec_l05Fit_4 l0 (vs.map GArg.enc) n2 i = bif (dirs.drop i).all (fun a => useB vs true a.val) && f then spec_l05Fit_1 l0 (vs.map GArg.enc) (IntKind.i64.wrap ((n2 : Int) + 1)) else rB false
  | 0, i, h => by
    have : i = dirs.length := by omega
    subst this
    have hlen : (dirs.map GDir.enc).length = dirs.length := by simp
    rw [spec_l05Fit_4_eq, if_pos (by omega), h4, Option.bind_some, hlen, decide_eq_false (by omega), cond_false, if_pos (by omega), h5, Option.bind_some, hf, bB, List.drop_length, List.all_nil, Bool.true_and]
    cases f <;> rfl
  | k + 1, i, h => by
    have hlen : (dirs.map GDir.enc).length = dirs.length := by simp
    have hlt : i < dirs.length := by omega
    have hg : dirs[i]? = some dirs[i] := List.getElem?_eq_getElem hlt
    have e2 : IntKind.i64.wrap ((i : Int) + 1) = ((i + 1 : Nat) : Int) := by rw [wrap_id (by omega)]; omega
    have k1 : ∀ p : GVal, asInt .i64 (([.int .i64 p.kind, .int .i64 p.n, .str p.t] : List Pd).getD 0 .undef) = some p.kind := fun _ => rfl
    rw [spec_l05Fit_4_eq, if_pos (by omega), h4, Option.bind_some, hlen, decide_eq_true (by omega), cond_true, if_pos (by omega), Option.bind_some, hlen, if_pos (by omega), getD_enc hg, dir_drop, spec_l05Value_ev hv, bV, k1, Option.bind_some, List.drop_eq_getElem_cons hlt, List.all_cons]
    simp only [spec_l05Fit_5_eq, e2, sfit_dirs hv ha hn h4 h5 hf k (i + 1) (by omega), bne, beq_int]
    unfold useB
    cases (valOf vs dirs[i].val).2 <;> cases decide ((valOf vs dirs[i].val).1.kind = 2) <;> simp
theorem sfit_ev {vs : List GArg} (hv : vs.length ≤ 9223372036854775807) : ∀ (n : Nat) (xs : List GSel), SizeOf.sizeOf xs ≤ n → okL okSel xs → ev E0 F_spec_l05Fit [.p (.sl 6 (xs.map GSel.enc)), .p (.sl 4 (vs.map GArg.enc))] [] = rB (fitSs vs xs)
  | n, xs, hn, hok => by
    have hlen : (xs.map GSel.enc).length = xs.length := by simp
    have hxl := hok.1
    have loop : ∀ (k i : Nat), i + k = xs.length → spec_l05Fit_1 (xs.map GSel.enc) (vs.map GArg.enc) i = rB (fitSs vs (xs.drop i)) := by
      intro k
      induction k with
      | zero =>
        intro i h
        have : i = xs.length := by omega
        subst this
        rw [spec_l05Fit_1_eq, hlen, List.drop_length, decide_eq_false (by omega), cond_false, fitSs]
      | succ k ih =>
        intro i h
        have hlt : i < xs.length := by omega
        have hg : xs[i]? = some xs[i] := List.getElem?_eq_getElem hlt
        have e2 : IntKind.i64.wrap ((i : Int) + 1) = ((i + 1 : Nat) : Int) := by rw [wrap_id (by omega)]; omega
        have hm := List.getElem_mem hlt
        have hokx := hok.2 _ hm
        have hsz := List.sizeOf_lt_of_mem hm
        have hge := getD_enc (f := GSel.enc) hg
        rw [spec_l05Fit_1_eq, hlen, decide_eq_true (by omega), cond_true, List.drop_eq_getElem_cons hlt, fitSs]
        cases hx : xs[i] with
        | mk kk al nm args dirs sels =>
          rw [hx] at hokx hsz hge
          obtain ⟨_, _, o3, o4, o5, o6⟩ := hokx
          have e3 : asSl 4 ((((xs.map GSel.enc).getD (i : Int).toNat []).drop 3).getD 0 .undef) = some (args.map GArg.enc) := by rw [hge]; unfold GSel.enc; rfl
          have e4 : asSl 4 ((((xs.map GSel.enc).getD (i : Int).toNat []).drop 4).getD 0 .undef) = some (dirs.map GDir.enc) := by rw [hge]; unfold GSel.enc; rfl
          have e5 : asSl 6 ((((xs.map GSel.enc).getD (i : Int).toNat []).drop 5).getD 0 .undef) = some (sels.map GSel.enc) := by rw [hge]; unfold GSel.enc; rw [GSel.encs_eq]; rfl
          have hrec : ev E0 F_spec_l05Fit [.p (.sl 6 (sels.map GSel.enc)), .p (.sl 4 (vs.map GArg.enc))] [] = rB (fitSs vs sels) := by
            cases n with
            | zero => omega
            | succ n => exact sfit_ev hv n sels (by simp at hsz; omega) ⟨o5, okSels_mem o6⟩
          have e0 : ((0 : Nat) : Int) = 0 := rfl
          have ta := sfit_args hv o3.1 (n2 := i) (by rw [hlen]; exact hlt) e3 args.length 0 (by omega)
          rw [e0, List.drop_zero] at ta
          have td := sfit_dirs hv o4.1 (n2 := i) (by rw [hlen]; exact hlt) e4 e5 hrec dirs.length 0 (by omega)
          rw [e0, List.drop_zero, e2, ih (i + 1) (by omega)] at td
          rw [ta, td, fitS]
          cases args.all (fun a => useB vs false a.val) <;> cases dirs.all (fun d => useB vs true d.val) <;> cases fitSs vs sels <;> rfl
    have e0 : ((0 : Nat) : Int) = 0 := rfl
    have := loop xs.length 0 (by omega)
    rw [e0, List.drop_zero] at this
    rw [spec_l05Fit_0_ev, spec_l05Fit_0_eq, this]
def fitN (b : Bool) : Int := if b = true then 0 else 14
theorem fits_ev {vs : List GArg} (hv : vs.length ≤ 9223372036854775807) {xs : List GDef} (hx : okL okDef xs) : ev E0 F_spec_l05Fits [.p (.agg 1 [.sl 4 (xs.map GDef.enc)]), .p (.sl 4 (vs.map GArg.enc))] [] = rI (fitN (fitD vs xs)) := by
  have hlen : (xs.map GDef.enc).length = xs.length := by simp
  have hxl := hx.1
  have loop : ∀ (k i : Nat), i + k = xs.length → spec_l05Fits_1 (vs.map GArg.enc) i (xs.map GDef.enc) = rI (fitN (fitD vs (xs.drop i))) := by
    intro k
    induction k with
    | zero =>
      intro i h
      have : i = xs.length := by omega
      subst this
      rw [spec_l05Fits_1_eq, hlen, List.drop_length, decide_eq_false (by omega), cond_false]
      rfl
    | succ k ih =>
      intro i h
      have hlt : i < xs.length := by omega
      have hg : xs[i]? = some xs[i] := List.getElem?_eq_getElem hlt
      have e2 : IntKind.i64.wrap ((i : Int) + 1) = ((i + 1 : Nat) : Int) := by rw [wrap_id (by omega)]; omega
      have hm := List.getElem_mem hlt
      have e3 : asSl 6 ((xs[i].enc.drop 3).getD 0 .undef) = some (xs[i].sels.map GSel.enc) := rfl
      rw [spec_l05Fits_1_eq, hlen, decide_eq_true (by omega), cond_true, if_pos (by omega), getD_enc hg, e3, Option.bind_some, sfit_ev hv _ _ (Nat.le_refl _) (hx.2 _ hm).2.2, bB, e2, ih (i + 1) (by omega), List.drop_eq_getElem_cons hlt]
      simp only [fitD, List.all_cons]
      cases fitSs vs xs[i].sels <;> rfl
  have e0 : ((0 : Nat) : Int) = 0 := rfl
  have := loop xs.length 0 (by omega)
  rw [e0, List.drop_zero] at this
  rw [spec_l05Fits_0_ev, spec_l05Fits_0_eq, this]
abbrev rII (a b : Int) : Option Res := some ([.p (.int .i64 a), .p (.int .i64 b)], [])
theorem bII {R : Type} (a b : Int) (K : Int → Int → Option R) : ((rII a b).bind fun r => (asInt .i64 (pAt 0 r.1)).bind fun a => (asInt .i64 (pAt 1 r.1)).bind fun b => if r.1.length = 2 then K a b else none) = K a b := by simp [pAt, asInt]
def vfR (vs : List GArg) (xs : List GDef) : Int × Int := if vs.length ≤ 4096 then (if (docB xs && bindsB vs) = true then (fitN (fitD vs xs), 0) else (0, 1)) else (0, 2)
theorem spec_VarsFit_ev {vs : List GArg} (hv : okL okArg vs) {xs : List GDef} (hx : okL okDef xs) : ev E0 F_spec_VarsFit [.p (.agg 1 [.sl 4 (xs.map GDef.enc)]), .p (.sl 4 (vs.map GArg.enc))] [] = rII (vfR vs xs).1 (vfR vs xs).2 := by
  have hlen : (vs.map GArg.enc).length = vs.length := by simp
  rw [spec_VarsFit_0_ev, spec_VarsFit_0_eq, hlen, spec_DocOK_ev hx, bB, spec_BindingsOK_ev hv, bB]
  simp only [spec_VarsFit_1_eq, fits_ev hv.1 hx, bI]
  unfold vfR
  by_cases h : vs.length ≤ 4096
  · rw [decide_eq_false (by omega), cond_false, if_pos h]
    cases docB xs <;> cases bindsB vs <;> rfl
  · rw [decide_eq_true (by omega), cond_true, if_neg h]
theorem impl_VarsFit_ev {vs : List GArg} (hv : okL okArg vs) {xs : List GDef} (hx : okL okDef xs) : ev E0 F_impl_VarsFit [.p (.agg 1 [.sl 4 (xs.map GDef.enc)]), .p (.sl 4 (vs.map GArg.enc))] [] = rII (vfR vs xs).1 (vfR vs xs).2 := by
  have hlen : (vs.map GArg.enc).length = vs.length := by simp
  have hlist : ev E0 F_impl_isList_impl_Binding [.p (.sl 4 (vs.map GArg.enc))] [] = rB (decide ((vs.length : Int) ≤ 4096)) := by
    rw [impl_isList_impl_Binding_0_ev, impl_isList_impl_Binding_0_eq, hlen]
  rw [impl_VarsFit_0_ev, impl_VarsFit_0_eq, hlist, bB, impl_DocOK_ev hx, bB, impl_BindingsOK_ev hv, bB]
  simp only [impl_VarsFit_1_eq, varsFit_ev hv.1 hx, bB]
  unfold vfR
  by_cases h : vs.length ≤ 4096
  · rw [decide_eq_true (by omega), Bool.not_true, cond_false, if_pos h]
    cases docB xs <;> cases bindsB vs <;> cases fitD vs xs <;> rfl
  · rw [decide_eq_false (by omega), Bool.not_false, cond_true, if_neg h]
theorem law_VarsFit {xs : List GDef} (hx : okL okDef xs) {vs : List GArg} (hv : okL okArg vs) : ev E0 F_laws_FnExactVarsFit [.p (.agg 1 [.sl 4 (xs.map GDef.enc)]), .p (.sl 4 (vs.map GArg.enc))] [] = rB true := by
  rw [laws_FnExactVarsFit_0_ev, laws_FnExactVarsFit_0_eq, szDoc_ev hx (by omega) (by omega), bI]
  by_cases hw : (wL wDef xs : Int) ≤ 1048576
  · rw [szV_pos hw, decide_eq_false (by omega), cond_false, szBindingS_ev hv (by omega) (by omega), bI]
    by_cases hw2 : (wL wArg vs : Int) ≤ 1048576 - wL wDef xs
    · have hb := toBindingS_ev (xs := vs) (wL_len (f := wArg) (by omega))
      have ne : ∀ a : Int, (a != a) = false := fun a => by simp
      rw [szV_pos hw2, decide_eq_false (by omega), cond_false, toDoc_ev (by omega), bA, hb, bL, spec_VarsFit_ev hv hx, bII, bA, bL, impl_VarsFit_ev hv hx, bII, ne, cond_false, ne, laws_FnExactVarsFit_1_eq, cond_false, toDoc_ev (by omega), bA, eqDoc_ev hx, bB, Bool.not_true, cond_false, hb, bL, eqBindingS_ev hv.1, bB]
      rfl
    · rw [szV_neg hw2]
      rfl
  · rw [szV_neg hw]
    rfl
end Go.Proofs.Ytlmmimhjfajhdaa.Dm
