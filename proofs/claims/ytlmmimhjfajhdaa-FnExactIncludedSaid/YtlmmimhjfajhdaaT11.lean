/- For every selection and its bindings the law FnExactIncluded returns true. -/
import Derived.Test.YtlmmimhjfajhdaaT10
namespace Go.Proofs.Ytlmmimhjfajhdaa.Dm
set_option linter.unusedVariables false
set_option linter.unusedSimpArgs false

def GSel.dirs : GSel → List GDir
  | .mk _ _ _ _ ds _ => ds
abbrev r2b (b : Bool) (n : Int) : Option Res := some ([.p (.bool b), .p (.int .i64 n)], [])
theorem b2b {R : Type} (b : Bool) (n : Int) (K : Bool → Int → Option R) : ((r2b b n).bind fun r => (asBool (pAt 0 r.1)).bind fun b => (asInt .i64 (pAt 1 r.1)).bind fun n => if r.1.length = 2 then K b n else none) = K b n := by simp [pAt, asInt, asBool]
theorem selB_dirs {x : GSel} (h : selB x = true) : ∀ d ∈ x.dirs, valueB d.val = true := by
  cases x with
  | mk k a n ar ds ss =>
    unfold selB at h
    simp only [Bool.and_eq_true, List.all_eq_true] at h
    exact fun d hd => h.1 d hd
theorem impl_included_ev {vs : List GArg} (hv : vs.length ≤ 9223372036854775807) (hb : bindsB vs = true) : ∀ (x : GSel), okSel x → selB x = true → ev E0 F_impl_included [.p (.agg 6 x.enc), .p (.sl 4 (vs.map GArg.enc))] [] = rB (inB vs x.dirs)
  | .mk k al nm args dirs sels, hx, hs => by
    have hd := selB_dirs hs
    obtain ⟨x1, x2, x3, x4, x5, x6⟩ := hx
    unfold GSel.enc
    rw [impl_included_0_ev, impl_included_0_eq, contains_dirs2 hv x4.1 (fun d h => valOf_plain hb (hd d h)), bBoxB]
    unfold inB
    simp [GSel.dirs, List.all_eq_not_any_not]
theorem spec_inc_loop {vs : List GArg} (hv : vs.length ≤ 9223372036854775807) {k : Int} {al nm : ByteArray} {args : List GArg} {dirs : List GDir} {sels : List GSel} (hx : okSel (.mk k al nm args dirs sels)) : ∀ (m i : Nat), i + m = dirs.length →
    spec_Included_2 (vs.map GArg.enc) i k al nm (args.map GArg.enc) (dirs.map GDir.enc) (sels.map GSel.enc) = bif (dirs.drop i).all (fun d => (valOf vs d.val).2) then r2b (inB vs dirs) 0 else r2b false 14
  | 0, i, h => by
    have : i = dirs.length := by omega
    subst this
    have hlen : (dirs.map GDir.enc).length = dirs.length := by simp
    obtain ⟨ds, e, h1⟩ := spec_l05In_ev hv _ hx
    have e : ds = dirs := e
    subst e
    unfold GSel.enc at h1
    rw [GSel.encs_eq] at h1
    rw [spec_Included_2_eq, hlen, List.drop_length, decide_eq_false (by omega), cond_false, h1, bB]
    rfl
  | m + 1, i, h => by
    have hxl := hx.2.2.2.1.1
    have hlen : (dirs.map GDir.enc).length = dirs.length := by simp
    have hlt : i < dirs.length := by omega
    have hg : dirs[i]? = some dirs[i] := List.getElem?_eq_getElem hlt
    have e2 : IntKind.i64.wrap ((i : Int) + 1) = ((i + 1 : Nat) : Int) := by rw [wrap_id (by omega)]; omega
    rw [spec_Included_2_eq, hlen, decide_eq_true (by omega), cond_true, if_pos (by omega), getD_enc hg, dir_drop, spec_l05Value_ev hv, bV, List.drop_eq_getElem_cons hlt, List.all_cons]
    cases (valOf vs dirs[i].val).2 with
    | false => rfl
    | true => rw [Bool.not_true, cond_false, e2, spec_inc_loop hv hx m (i + 1) (by omega), Bool.true_and]
theorem impl_inc_loop {vs : List GArg} (hv : vs.length ≤ 9223372036854775807) (hb : bindsB vs = true) {k : Int} {al nm : ByteArray} {args : List GArg} {dirs : List GDir} {sels : List GSel} (hx : okSel (.mk k al nm args dirs sels)) (hs : selB (.mk k al nm args dirs sels) = true) : ∀ (m i : Nat), i + m = dirs.length →
    impl_Included_2 (vs.map GArg.enc) (dirs.map GDir.enc) dirs.length i k al nm (args.map GArg.enc) (dirs.map GDir.enc) (sels.map GSel.enc) = bif (dirs.drop i).all (fun d => (valOf vs d.val).2) then r2b (inB vs dirs) 0 else r2b false 14
  | 0, i, h => by
    have : i = dirs.length := by omega
    subst this
    have h1 := impl_included_ev hv hb _ hx hs
    unfold GSel.enc at h1
    rw [GSel.encs_eq] at h1
    rw [impl_Included_2_eq, List.drop_length, decide_eq_false (by omega), cond_false, h1, bB]
    rfl
  | m + 1, i, h => by
    have hxl := hx.2.2.2.1.1
    have hlen : (dirs.map GDir.enc).length = dirs.length := by simp
    have hlt : i < dirs.length := by omega
    have hg : dirs[i]? = some dirs[i] := List.getElem?_eq_getElem hlt
    have e2 : IntKind.i64.wrap ((i : Int) + 1) = ((i + 1 : Nat) : Int) := by rw [wrap_id (by omega)]; omega
    rw [impl_Included_2_eq, hlen, decide_eq_true (by omega), cond_true, if_pos (by omega), getD_enc hg, dir_drop, impl_bound_ev hv, bV, List.drop_eq_getElem_cons hlt, List.all_cons]
    cases (valOf vs dirs[i].val).2 with
    | false => rfl
    | true => rw [Bool.not_true, cond_false, e2, impl_inc_loop hv hb hx hs m (i + 1) (by omega), Bool.true_and]
def incR (vs : List GArg) (x : GSel) : Bool × Int := if vs.length ≤ 4096 then (if (selB x && bindsB vs) = true then (if x.dirs.all (fun d => (valOf vs d.val).2) = true then (inB vs x.dirs, 0) else (false, 14)) else (false, 1)) else (false, 2)
theorem spec_Included_ev {vs : List GArg} (hv : okL okArg vs) : ∀ (x : GSel), okSel x → ev E0 F_spec_Included [.p (.agg 6 x.enc), .p (.sl 4 (vs.map GArg.enc))] [] = r2b (incR vs x).1 (incR vs x).2
  | .mk k al nm args dirs sels, hx => by
    have hlen : (vs.map GArg.enc).length = vs.length := by simp
    have hs := spec_l02Sel_ev _ hx
    have hl := spec_inc_loop hv.1 hx dirs.length 0 (by omega)
    have e0 : ((0 : Nat) : Int) = 0 := rfl
    rw [e0, List.drop_zero] at hl
    unfold GSel.enc at hs ⊢
    rw [GSel.encs_eq] at hs ⊢
    rw [spec_Included_0_ev, spec_Included_0_eq, hlen, hs, bB, spec_BindingsOK_ev hv, bB]
    simp only [spec_Included_1_eq, hl]
    unfold incR
    by_cases h : vs.length ≤ 4096
    · rw [decide_eq_false (by omega), cond_false, if_pos h]
      have ed : (GSel.mk k al nm args dirs sels).dirs = dirs := rfl
      rw [ed]
      cases selB (.mk k al nm args dirs sels) <;> cases bindsB vs <;> rcases Bool.eq_false_or_eq_true (dirs.all (fun d => (valOf vs d.val).2)) with q | q <;> simp only [q, cond_true, cond_false, Bool.not_true, Bool.not_false, Bool.and_self, Bool.true_and, Bool.false_and, Bool.and_false, if_true, if_false, Bool.false_eq_true]
    · rw [decide_eq_true (by omega), cond_true, if_neg h]
theorem impl_Included_ev {vs : List GArg} (hv : okL okArg vs) : ∀ (x : GSel), okSel x → ev E0 F_impl_Included [.p (.agg 6 x.enc), .p (.sl 4 (vs.map GArg.enc))] [] = r2b (incR vs x).1 (incR vs x).2
  | .mk k al nm args dirs sels, hx => by
    have hlen : (vs.map GArg.enc).length = vs.length := by simp
    have hdl : (dirs.map GDir.enc).length = dirs.length := by simp
    have hs := impl_isRight_ev _ hx
    have e0 : ((0 : Nat) : Int) = 0 := rfl
    have hlist : ev E0 F_impl_isList_impl_Binding [.p (.sl 4 (vs.map GArg.enc))] [] = rB (decide ((vs.length : Int) ≤ 4096)) := by
      rw [impl_isList_impl_Binding_0_ev, impl_isList_impl_Binding_0_eq, hlen]
    have hs' : selB (.mk k al nm args dirs sels) = selB (.mk k al nm args dirs sels) := rfl
    unfold GSel.enc at hs ⊢
    rw [GSel.encs_eq] at hs ⊢
    rw [impl_Included_0_ev, impl_Included_0_eq, hlist, bB, hs, bB, impl_BindingsOK_ev hv, bB]
    unfold incR
    have ed : (GSel.mk k al nm args dirs sels).dirs = dirs := rfl
    rw [ed]
    by_cases h : vs.length ≤ 4096
    · rw [decide_eq_true (by omega), Bool.not_true, cond_false, if_pos h]
      cases h1 : selB (.mk k al nm args dirs sels) with
      | false => simp only [Bool.not_false, cond_true, impl_Included_1_eq, Bool.false_and, Bool.false_eq_true, if_false]
      | true =>
        cases h2 : bindsB vs with
        | false => simp only [Bool.not_true, Bool.not_false, cond_true, cond_false, impl_Included_1_eq, Bool.and_false, Bool.false_eq_true, if_false]
        | true =>
          have hl := impl_inc_loop hv.1 h2 hx h1 dirs.length 0 (by omega)
          rw [e0, List.drop_zero] at hl
          simp only [Bool.not_true, cond_false, impl_Included_1_eq, hdl, hl, Bool.and_self, if_true]
          rcases Bool.eq_false_or_eq_true (dirs.all (fun d => (valOf vs d.val).2)) with q | q <;> simp only [q, cond_true, cond_false, if_true, if_false, Bool.false_eq_true]
    · rw [decide_eq_false (by omega), Bool.not_false, cond_true, if_neg h]
theorem law_Included {x : GSel} (hx : okSel x) {vs : List GArg} (hv : okL okArg vs) : ev E0 F_laws_FnExactIncluded [.p (.agg 6 x.enc), .p (.sl 4 (vs.map GArg.enc))] [] = rB true := by
  have h1 := szSel_ev x hx 1048576 (by omega) (by omega)
  have h3 := spec_Included_ev hv x hx
  have h4 := impl_Included_ev hv x hx
  have h5 := eqSel_ev x hx
  have h6 := eqBindingS_ev hv.1
  by_cases hw : (wSel x : Int) ≤ 1048576
  · rw [szV_pos hw] at h1
    have h2 := szBindingS_ev hv (left := 1048576 - (wSel x : Int)) (by omega) (by omega)
    have ht := toSel_ev x (by omega)
    cases x with
    | mk k al nm args dirs sels =>
      unfold GSel.enc at h1 h3 h4 h5 ht ⊢
      rw [laws_FnExactIncluded_0_ev, laws_FnExactIncluded_0_eq, h1, bI, decide_eq_false (by omega), cond_false, h2, bI]
      by_cases hw2 : (wL wArg vs : Int) ≤ 1048576 - (wSel (.mk k al nm args dirs sels) : Int)
      · have hb := toBindingS_ev (xs := vs) (wL_len (f := wArg) (by omega))
        rw [szV_pos hw2, decide_eq_false (by omega), cond_false, ht, bA, hb, bL, h3, b2b, bA, bL, h4, b2b, nb_self, cond_false, ne_self, laws_FnExactIncluded_1_eq, cond_false, ht, bA, h5, bB]
        simp only [Bool.not_true, cond_false]
        rw [hb, bL, h6, bB]
        rfl
      · rw [szV_neg hw2]
        rfl
  · rw [szV_neg hw] at h1
    cases x with
    | mk k al nm args dirs sels =>
      unfold GSel.enc at h1 ⊢
      rw [laws_FnExactIncluded_0_ev, laws_FnExactIncluded_0_eq, h1, bI]
      rfl
end Go.Proofs.Ytlmmimhjfajhdaa.Dm
