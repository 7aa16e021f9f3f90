/- The variables of documents: by the program; both answer alike. -/
import Derived.Test.YtgbohielfiighaaV2
namespace Go.Proofs.Ytgbohielfiighaa.Dm
set_option maxRecDepth 4000
set_option linter.unusedVariables false
set_option linter.unusedSimpArgs false

abbrev rLI (n : Nat) (v : List (List Pd)) (c : Int) : Option Res := some ([.p (.sl n v), .p (.int .i64 c)], [])
theorem bLI {R : Type} (n : Nat) (v : List (List Pd)) (c : Int) (K : List (List Pd) → Int → Option R) : ((rLI n v c).bind fun r => (asSl n (pAt 0 r.1)).bind fun v => (asInt .i64 (pAt 1 r.1)).bind fun c => if r.1.length = 2 then K v c else none) = K v c := by simp [pAt, asSl, asInt]
theorem def_subs (d : GDef) : asSl 6 (((GDef.enc d).drop 3).getD 0 .undef) = some (d.sels.map GSel.enc) := rfl
theorem def_subs0 (d : GDef) : asSl 6 ((GDef.enc d).getD 3 .undef) = some (d.sels.map GSel.enc) := rfl
def varsR (xs : List GDef) : List ByteArray := if docB xs = true then addVs [] (vDoc xs) else []
def varsC (xs : List GDef) : Int := if docB xs = true then 0 else 1
section
variable {xs : List GDef} (hx : okL okDef xs)
include hx
theorem spec_Used_more {i : Nat} (hi : i < xs.length) (ms : List ByteArray) (hms : ms.length ≤ 4000000000) : ∀ (m j : Nat) (e : List ByteArray), j + m = ms.length → e.length + (ms.length - j) ≤ 4000000000 →
    spec_UsedVars_2 i (ms.map encS) j (xs.map GDef.enc) (e.map encS) = spec_UsedVars_1 ((i + 1 : Nat) : Int) (xs.map GDef.enc) ((addVs e (ms.drop j)).map encS) := by
  have hml : (ms.map encS).length = ms.length := by simp
  have hxl := hx.1
  intro m
  induction m with
  | zero =>
    intro j e h _
    have : j = ms.length := by omega
    subst this
    rw [spec_UsedVars_2_eq, hml, decide_eq_false (by omega), cond_false, List.drop_length, inc_i hi hxl]
    rfl
  | succ m ih =>
    intro j e h hb
    have hlt : j < ms.length := by omega
    have hga : ms[j]? = some ms[j] := List.getElem?_eq_getElem hlt
    rw [List.drop_eq_getElem_cons hlt]
    generalize ms[j] = t at hga ⊢
    rw [spec_UsedVars_2_eq, hml, decide_eq_true (by omega), cond_true, if_pos (by omega), getD_enc hga, encS_get, Option.bind_some, l04In_ev (by omega), bB]
    have e1 : addVs e (t :: ms.drop (j + 1)) = addVs (addV e t) (ms.drop (j + 1)) := rfl
    have step : ∀ e' : List ByteArray, e'.length + (ms.length - (j + 1)) ≤ 4000000000 → spec_UsedVars_3 i (ms.map encS) j (xs.map GDef.enc) (e'.map encS) = spec_UsedVars_1 ((i + 1 : Nat) : Int) (xs.map GDef.enc) ((addVs e' (ms.drop (j + 1))).map encS) := by
      intro e' he'
      rw [spec_UsedVars_3_eq, inc_i hlt (by omega)]
      exact ih (j + 1) e' (by omega) he'
    rw [e1]
    cases hin : inL e t with
    | true =>
      rw [Bool.not_true, cond_false, addV_pos hin]
      exact step e (by omega)
    | false =>
      rw [Bool.not_false, cond_true, if_pos (by omega), Option.bind_some, if_pos (lim_app (by omega)), app_map, addV_neg hin]
      exact step _ (by rw [List.length_append, List.length_singleton]; omega)
theorem spec_UsedVars_ev (hb : (vDoc xs).length ≤ 2000000000) : ev E0 F_spec_UsedVars [.p (.agg 1 [.sl 4 (xs.map GDef.enc)])] [] = rLI 1 ((varsR xs).map encS) (varsC xs) := by
  have hlen : (xs.map GDef.enc).length = xs.length := by simp
  have main : ∀ (m i : Nat) (e : List ByteArray), i + m = xs.length → e.length + (vDoc (xs.drop i)).length ≤ 2000000000 → spec_UsedVars_1 i (xs.map GDef.enc) (e.map encS) = rLI 1 ((addVs e (vDoc (xs.drop i))).map encS) 0 := by
    intro m
    induction m with
    | zero =>
      intro i e h _
      have : i = xs.length := by omega
      subst this
      rw [spec_UsedVars_1_eq, hlen, decide_eq_false (by omega), cond_false, List.drop_length]
      rfl
    | succ m ih =>
      intro i e h hb
      have hlt : i < xs.length := by omega
      have hxl := hx.1
      have hg : xs[i]? = some xs[i] := List.getElem?_eq_getElem hlt
      rw [List.drop_eq_getElem_cons hlt] at hb ⊢
      generalize xs[i] = d at hg hb ⊢
      have hok := hx.2 d (List.mem_of_getElem? hg)
      rw [vDoc] at hb ⊢
      rw [List.length_append] at hb
      have c3 := addVs_len (vSs d.sels) []
      have c4 := addVs_len (addVs [] (vSs d.sels)) e
      have h3 := spec_Used_more hx hlt (addVs [] (vSs d.sels)) (by simp at c3; omega) (addVs [] (vSs d.sels)).length 0 e (by omega) (by simp at c3; omega)
      rw [List.drop_zero] at h3
      have e0 : ((0 : Nat) : Int) = 0 := rfl
      rw [e0] at h3
      have hd : addVs e (addVs [] (vSs d.sels)) = addVs e (vSs d.sels) := addVs_dedup e [] (vSs d.sels)
      have c5 := addVs_len (vSs d.sels) e
      rw [spec_UsedVars_1_eq, hlen, decide_eq_true (by omega), cond_true, if_pos (by omega), getD_enc hg, def_subs, Option.bind_some, l04Vars_ev hok.2.2 (by omega), bL, h3, ih (i + 1) _ (by omega) (by rw [hd]; omega), hd, addVs_append]
  have := main xs.length 0 [] (by omega) (by simpa using hb)
  rw [List.drop_zero] at this
  rw [spec_UsedVars_0_ev, spec_UsedVars_0_eq, spec_DocOK_ev hx, bB]
  unfold varsR varsC
  cases docB xs with
  | false => rfl
  | true => exact this
end
/-! ### the program: a row that a closure fills -/
abbrev rU (e : List ByteArray) : Option Res := some ([], [.mbox 1 [.arr (.out 1)], .arr 9 1 16 false (e.map encS)])
theorem bU {R : Type} (e : List ByteArray) (K : List (List Pd) → Option R) : ((rU e).bind fun r => if r.1.length = 0 then ((asMbox 1 [.arr (.out 1)] (r.2.getD 0 .none)).bind fun _ => (asArr 9 1 16 false (r.2.getD 1 .none)).bind fun l => if r.2.length = 2 then K l else none) else none) = K (e.map encS) := by
  simp [asMbox, asArr, likeD]
  rfl
theorem uses1_ev (v : GVal) (b : Bool) {e : List ByteArray} (hb : e.length + (vV v).length ≤ 4000000000) : ev E0 F_impl_UsedVars_1 [.p (.agg 3 v.enc), .p (.bool b), .ptr (.out 0) 0] [.mbox 1 [.arr (.out 1)], .arr 9 1 16 false (e.map encS)] = rU (addVs e (vV v)) := by
  have ea : asInt .i64 ((GVal.enc v).getD 0 .undef) = some v.kind := asI _
  have et : asStr ((GVal.enc v).getD 2 .undef) = some v.t := rfl
  rw [impl_UsedVars_1_0_ev, impl_UsedVars_1_0_eq, ea, Option.bind_some, beq_int]
  by_cases hk : v.kind = 4
  · have hv : vV v = [v.t] := if_pos hk
    rw [hv] at hb ⊢
    rw [List.length_singleton] at hb
    have e1 : addVs e [v.t] = addV e v.t := rfl
    rw [decide_eq_true hk, cond_true, et, Option.bind_some, contains_ev (by omega), bB, impl_UsedVars_1_1_eq, e1]
    cases hin : inL e v.t with
    | true => rw [Bool.not_true, cond_false, addV_pos hin]
    | false => rw [Bool.not_false, cond_true, et, Option.bind_some, if_pos (lim_app (by omega)), app_map, addV_neg hin]
  · have hv : vV v = [] := if_neg hk
    rw [hv, decide_eq_false hk, cond_false, impl_UsedVars_1_1_eq, cond_false]
    rfl
def PV (xs : List GSel) : Prop := ∀ e : List ByteArray, e.length + (vSs xs).length ≤ 2000000000 → ev E0 F_impl_usesIn [.p (.sl 6 (xs.map GSel.enc)), .fn F_impl_UsedVars_1 [.ptr (.out 0) 0]] [.mbox 1 [.arr (.out 1)], .arr 9 1 16 false (e.map encS)] = rU (addVs e (vSs xs))
theorem arg_val (a : GArg) : (GArg.enc a).drop 1 = a.val.enc := rfl
theorem dir_val (a : GDir) : (GDir.enc a).drop 1 = a.val.enc := rfl
section
variable {xs : List GSel} (hx : okL okSel xs)
include hx
theorem uses_args {i : Nat} {x : GSel} (hg : xs[i]? = some x) : ∀ (m j : Nat) (e : List ByteArray), j + m = x.args.length → e.length + (vA (x.args.drop j)).length ≤ 4000000000 →
    impl_usesIn_2 (xs.map GSel.enc) xs.length i (x.args.map GArg.enc) x.args.length j x.enc (e.map encS) = impl_usesIn_3 (xs.map GSel.enc) xs.length i (x.dirs.map GDir.enc) x.dirs.length 0 x.enc ((addVs e (vA (x.args.drop j))).map encS) := by
  have hal : (x.args.map GArg.enc).length = x.args.length := by simp
  have hdl : (x.dirs.map GDir.enc).length = x.dirs.length := by simp
  have hok := sel_args_ok (hx.2 x (List.mem_of_getElem? hg))
  have hol := hok.1
  intro m
  induction m with
  | zero =>
    intro j e h _
    have : j = x.args.length := by omega
    subst this
    rw [impl_usesIn_2_eq, decide_eq_false (by omega), cond_false, List.drop_length, enc_dirs0, Option.bind_some, hdl]
    rfl
  | succ m ih =>
    intro j e h hb
    have hlt : j < x.args.length := by omega
    have hga : x.args[j]? = some x.args[j] := List.getElem?_eq_getElem hlt
    rw [List.drop_eq_getElem_cons hlt] at hb ⊢
    generalize x.args[j] = a at hga hb ⊢
    rw [vA] at hb ⊢
    rw [List.length_append] at hb
    have c1 := addVs_len (vV a.val) e
    rw [impl_usesIn_2_eq, decide_eq_true (by omega), cond_true, hal, if_pos (by omega), getD_enc hga, arg_val, uses1_ev _ _ (by omega), bU, inc_i hlt hol, ih (j + 1) _ (by omega) (by omega), addVs_append]
theorem uses_dirs (sv : ∀ x ∈ xs, PV x.subs) {i : Nat} {x : GSel} (hg : xs[i]? = some x) : ∀ (m j : Nat) (e : List ByteArray), j + m = x.dirs.length → e.length + (vD (x.dirs.drop j)).length + (vSs x.subs).length ≤ 2000000000 →
    impl_usesIn_3 (xs.map GSel.enc) xs.length i (x.dirs.map GDir.enc) x.dirs.length j x.enc (e.map encS) = impl_usesIn_1 (xs.map GSel.enc) xs.length ((i + 1 : Nat) : Int) ((addVs e (vD (x.dirs.drop j) ++ vSs x.subs)).map encS) := by
  have hal : (x.dirs.map GDir.enc).length = x.dirs.length := by simp
  have hok := sel_dirs_ok (hx.2 x (List.mem_of_getElem? hg))
  have hol := hok.1
  have hxl := hx.1
  intro m
  induction m with
  | zero =>
    intro j e h hb
    have : j = x.dirs.length := by omega
    subst this
    rw [impl_usesIn_3_eq, decide_eq_false (by omega), cond_false, List.drop_length, enc_get5, Option.bind_some, sv x (List.mem_of_getElem? hg) e (by omega), bU, inc_i (lt_of_get hg) hxl]
    rfl
  | succ m ih =>
    intro j e h hb
    have hlt : j < x.dirs.length := by omega
    have hga : x.dirs[j]? = some x.dirs[j] := List.getElem?_eq_getElem hlt
    rw [List.drop_eq_getElem_cons hlt] at hb ⊢
    generalize x.dirs[j] = a at hga hb ⊢
    rw [vD] at hb ⊢
    rw [List.length_append] at hb
    have c1 := addVs_len (vV a.val) e
    rw [impl_usesIn_3_eq, decide_eq_true (by omega), cond_true, hal, if_pos (by omega), getD_enc hga, dir_val, uses1_ev _ _ (by omega), bU, inc_i hlt hol, ih (j + 1) _ (by omega) (by omega), List.append_assoc, addVs_append e]
theorem usesIn_of (sv : ∀ x ∈ xs, PV x.subs) : PV xs := by
  intro e0 hb0
  have hlen : (xs.map GSel.enc).length = xs.length := by simp
  have main : ∀ (m i : Nat) (e : List ByteArray), i + m = xs.length → e.length + (vSs (xs.drop i)).length ≤ 2000000000 → impl_usesIn_1 (xs.map GSel.enc) xs.length i (e.map encS) = rU (addVs e (vSs (xs.drop i))) := by
    intro m
    induction m with
    | zero =>
      intro i e h _
      have : i = xs.length := by omega
      subst this
      rw [impl_usesIn_1_eq, decide_eq_false (by omega), cond_false, List.drop_length]
      rfl
    | succ m ih =>
      intro i e h hb
      have hlt : i < xs.length := by omega
      have hg : xs[i]? = some xs[i] := List.getElem?_eq_getElem hlt
      rw [List.drop_eq_getElem_cons hlt] at hb ⊢
      generalize xs[i] = x at hg hb ⊢
      have hal : (x.args.map GArg.enc).length = x.args.length := by simp
      rw [vSs, vS_eq] at hb ⊢
      simp only [List.length_append] at hb
      have c1 := addVs_len (vA x.args) e
      have c2 := addVs_len (vD x.dirs ++ vSs x.subs) (addVs e (vA x.args))
      rw [List.length_append] at c2
      have h1 := uses_args hx hg x.args.length 0 e (by omega) (by rw [List.drop_zero]; omega)
      have h2 := uses_dirs hx sv hg x.dirs.length 0 (addVs e (vA x.args)) (by omega) (by rw [List.drop_zero]; omega)
      rw [List.drop_zero] at h1 h2
      have e0 : ((0 : Nat) : Int) = 0 := rfl
      rw [e0] at h1 h2
      rw [impl_usesIn_1_eq, decide_eq_true (by omega), cond_true, hlen, if_pos (by omega), getD_enc hg, enc_args0, Option.bind_some, hal, h1, h2, ih (i + 1) _ (by omega) (by omega), addVs_append e, addVs_append e]
  have := main xs.length 0 e0 (by omega) (by simpa using hb0)
  rw [List.drop_zero] at this
  rw [impl_usesIn_0_ev, impl_usesIn_0_eq, hlen]
  exact this
end
mutual
theorem usesIn_sub : ∀ x : GSel, okSel x → PV x.subs
  | .mk k a n args dirs sels, h => usesIn_of (xs := sels) ⟨h.2.2.2.2.1, okSels_mem h.2.2.2.2.2⟩ (usesIn_subs sels h.2.2.2.2.2)
theorem usesIn_subs : ∀ xs : List GSel, okSels xs → ∀ x ∈ xs, PV x.subs
  | [], _, x, hx => by cases hx
  | y :: ys, h, x, hx => by
    rcases List.mem_cons.1 hx with q | q
    · rw [q]; exact usesIn_sub y h.1
    · exact usesIn_subs ys h.2 x q
end
theorem usesIn_ev {xs : List GSel} (h : okL okSel xs) : PV xs := usesIn_of h (fun x hx => usesIn_sub x (h.2 x hx))
theorem Doc_uses_ev {xs : List GDef} (hx : okL okDef xs) (hb : (vDoc xs).length ≤ 2000000000) : ev E0 F_impl_Doc_uses [.p (.agg 1 [.sl 4 (xs.map GDef.enc)]), .fn F_impl_UsedVars_1 [.ptr (.out 0) 0]] [.mbox 1 [.arr (.out 1)], .arr 9 1 16 false []] = rU (addVs [] (vDoc xs)) := by
  have hlen : (xs.map GDef.enc).length = xs.length := by simp
  have hxl := hx.1
  have main : ∀ (m i : Nat) (e : List ByteArray), i + m = xs.length → e.length + (vDoc (xs.drop i)).length ≤ 2000000000 → impl_Doc_uses_1 (xs.map GDef.enc) xs.length i (e.map encS) = rU (addVs e (vDoc (xs.drop i))) := by
    intro m
    induction m with
    | zero =>
      intro i e h _
      have : i = xs.length := by omega
      subst this
      rw [impl_Doc_uses_1_eq, decide_eq_false (by omega), cond_false, List.drop_length]
      rfl
    | succ m ih =>
      intro i e h hb
      have hlt : i < xs.length := by omega
      have hg : xs[i]? = some xs[i] := List.getElem?_eq_getElem hlt
      rw [List.drop_eq_getElem_cons hlt] at hb ⊢
      generalize xs[i] = d at hg hb ⊢
      have hok := hx.2 d (List.mem_of_getElem? hg)
      rw [vDoc] at hb ⊢
      rw [List.length_append] at hb
      have c5 := addVs_len (vSs d.sels) e
      rw [impl_Doc_uses_1_eq, decide_eq_true (by omega), cond_true, hlen, if_pos (by omega), getD_enc hg, def_subs0, Option.bind_some, usesIn_ev hok.2.2 e (by omega), bU, inc_i hlt hxl, ih (i + 1) _ (by omega) (by omega), addVs_append]
  have := main xs.length 0 [] (by omega) (by simpa using hb)
  rw [List.drop_zero] at this
  rw [impl_Doc_uses_0_ev, impl_Doc_uses_0_eq, hlen]
  exact this
theorem okEs_S (xs : List ByteArray) : okEs (xs.map encS) = true := by
  unfold okEs
  rw [List.all_map]
  exact List.all_eq_true.2 fun x _ => rfl
theorem impl_UsedVars_ev {xs : List GDef} (hx : okL okDef xs) (hb : (vDoc xs).length ≤ 2000000000) : ev E0 F_impl_UsedVars [.p (.agg 1 [.sl 4 (xs.map GDef.enc)])] [] = some ([.arr (.out 0), .p (.int .i64 (varsC xs))], [.arr 9 1 16 false ((varsR xs).map encS)]) := by
  rw [impl_UsedVars_0_ev, impl_UsedVars_0_eq, impl_DocOK_ev hx, bB]
  unfold varsR varsC
  cases docB xs with
  | false => rfl
  | true =>
    rw [Bool.not_true, cond_false, Doc_uses_ev hx hb]
    refine (bU (R := Res) _ _).trans ?_
    exact if_pos (okEs_S _)
end Go.Proofs.Ytgbohielfiighaa.Dm
