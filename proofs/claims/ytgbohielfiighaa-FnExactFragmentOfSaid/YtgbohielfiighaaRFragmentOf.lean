/- The row of the law FnExactFragmentOf: for all arguments it returns true, and its arguments read as before. -/
import Derived.Test.YtgbohielfiighaaRows
import Derived.Test.YtgbohielfiighaaV6
namespace Go.Proofs.Ytgbohielfiighaa.RFragmentOf
open Go.ChangeShapes Go.WideShapes Go.ChangeAt Go.RowKit Go.Proofs.Ytgbohielfiighaa.Dm
set_option linter.unusedVariables false
theorem own : ownKnob Try.prog.godebug = none := by kernel_rfl
theorem laidOut : laidOutB Try.prog = true := by kernel_rfl
theorem mixed : Try.prog.follows .mixedOrders = true := by kernel_rfl
def types : List TypeId := docTypes
theorem types_ok : dataSet Try.prog types = true := by kernel_rfl
theorem walk (W : World) (v0 v1 : Value) (xs0 xs1 : List Pd) (hw0 : WT Try.prog 24 xs0) (hv0 : VP (SW W) W (argP Try.prog 24 xs0) v0) (hw1 : WT Try.prog 9 xs1) (hv1 : VP (SW W) W (argP Try.prog 9 xs1) v1) :
    Calls Try.prog 4 #[v0, v1] W fun e w' => e = .returned (.bool true) ∧ Below W.heap.size W w' := by
  obtain ⟨l0, rfl, hl0⟩ := dec_Doc hw0
  obtain ⟨s1, rfl, hs1⟩ := WT.str_inv Try.underlying9 hw1
  have e0 : argP Try.prog 24 [.sl 4 (l0.map GDef.enc)] = .agg 1 [.sl 4 (l0.map GDef.enc)] := by kernel_rfl
  rw [e0] at hv0
  have e1 : argP Try.prog 9 [.str s1] = .str s1 := by kernel_rfl
  rw [e1] at hv1
  refine ev_true (E := E0) (fun C => @dr2_ok C _ mixed) (fun _ => rfl) (args := [.agg 1 [.sl 4 (l0.map GDef.enc)], .str s1]) (law_FragmentOf hl0 s1) (by simp) (fun j hj => ?_)
  have hj : j < 2 := hj
  match j, hj with
  | 0, _ => exact hv0
  | 1, _ => exact hv1
set_option maxRecDepth 100000 in
theorem lifted (os : Os) (started : os.Started) (H : Type) (enc : TypeId × Value → H) :
    ReturnsInHanded {} Try.checked os 4 .any (Rows.fnExactFragmentOfSpec.pre6 enc Try.prog Try.f4 Rows.fnExactFragmentOfRow.domain false) (Rows.fnExactFragmentOfSpec.post enc Try.prog Try.f4 false true false false) := by
  refine returnsInHanded_of_change_sized (C := Try.checked) own started (by kernel_rfl) Try.func4
    (ChangeSpec.witness6 (enc := enc) (C := Try.checked) false ⟨#[], #[.agg #[.slice none 0 0], .string ByteArray.empty], []⟩ 8 (by kernel_rfl) (by kernel_rfl) (by kernel_rfl) (by kernel_rfl)) ?_
  intro W base args ds gs before hval0 hW hcnd hsz0 _
  have hval : ∀ (j : Nat) t v, Try.f4.params[j]? = some t → args[j]? = some v → Value.okWide Try.prog W .any base t v := hval0
  have hW' := hW
  obtain ⟨p, q, hA0, hV, rfl, hfz, hnd⟩ := hW
  have hA : DataW.TrodAll enc Try.prog W 0 (fun _ => true) true Try.f4.params.toList args.toList ds p := hA0
  rw [Try.params4] at hA hval
  obtain ⟨v0, vs0, d0, ds0, p0, q0, hargs, rfl, rfl, h0, r0⟩ := trodAll_cons hA
  obtain ⟨v1, vs1, d1, ds1, p1, q1, rfl, rfl, rfl, h1, r1⟩ := trodAll_cons r0
  obtain ⟨rfl, rfl, rfl⟩ := trodAll_nil r1
  obtain rfl : args = #[v0, v1] := by cases args; simp_all
  obtain ⟨rfl, rfl⟩ := trodVars_none hV
  have k0 := h0
  have lt0 : ∀ x ∈ p0, x.block < W.heap.size := by obtain ⟨m, hm⟩ := k0; exact DataW.trod_lt m _ _ _ hm
  have k1 := h1
  have lt1 : ∀ x ∈ p1, x.block < W.heap.size := by obtain ⟨m, hm⟩ := k1; exact DataW.trod_lt m _ _ _ hm
  obtain ⟨xs0, w0, _, y0⟩ := arg_vd types_ok (t := 24) (by decide) (hval 0 24 v0 rfl rfl) h0
  obtain ⟨xs1, w1, _, y1⟩ := arg_vd types_ok (t := 9) (by decide) (hval 1 9 v1 rfl rfl) h1
  clear hA0 hval0 hsz0
  refine (walk W v0 v1 xs0 xs1 w0 y0 w1 y1).mono fun e W' ⟨he, bel⟩ => ?_
  subst he
  exact ⟨_, rfl, _, _, _, [], _, [], hW', trodAll_mk1 (shut_bool Try.underlying4 _), (trodAll_cons_mk (Below.trod laidOut (by kernel_rfl) (of_decide_eq_true (by kernel_rfl)) k0 bel lt0) (trodAll_cons_mk (Below.trod laidOut (by kernel_rfl) (of_decide_eq_true (by kernel_rfl)) k1 bel lt1) trodAll_mk0)), rfl, bel.frame _, fun h => by cases h⟩
theorem over : Rows.fnExactFragmentOfRow.holds Try.pinned (OpenSpec.ofChange Rows.fnExactFragmentOfSpec) :=
  OpenClaim.holds_of_wide 4 Try.f4 rfl rfl rfl rfl rfl rfl rfl ⟨rfl, rfl, rfl, rfl, rfl⟩ rfl rfl rfl rfl rfl (by kernel_rfl) Try.func4 (by kernel_rfl)
    (of_decide_eq_true (by kernel_rfl)) (by unfold Func.isWrapper; first | (rw [if_pos (by decide +kernel)]; kernel_rfl) | (rw [if_neg (by decide +kernel)]; exact ⟨rfl, rfl⟩))
    (fun os started H enc _ => lifted os started H enc)
end Go.Proofs.Ytgbohielfiighaa.RFragmentOf
namespace Go.Proofs.Ytgbohielfiighaa
/-- The row, under a short name, for the claim. -/
theorem fragmentOf_holds : Rows.FnExactFragmentOfSaid := RFragmentOf.over
end Go.Proofs.Ytgbohielfiighaa
