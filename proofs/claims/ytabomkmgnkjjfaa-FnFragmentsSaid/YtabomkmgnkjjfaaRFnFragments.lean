/- The row of the law FnFragments: for all arguments it returns true, and its arguments read as before. -/
import Derived.Test.YtabomkmgnkjjfaaRows
import Derived.Test.YtabomkmgnkjjfaaH7
namespace Go.Proofs.Ytabomkmgnkjjfaa.RLFragments
open Go.ChangeShapes Go.WideShapes Go.ChangeAt Go.RowKit Go.Proofs.Ytabomkmgnkjjfaa.Dm
set_option linter.unusedVariables false
theorem own : ownKnob Try.prog.godebug = none := by kernel_rfl
theorem laidOut : laidOutB Try.prog = true := by kernel_rfl
theorem mixed : Try.prog.follows .mixedOrders = true := by kernel_rfl
def types : List TypeId := byteTypes
theorem types_ok : dataSet Try.prog types = true := by kernel_rfl
theorem walk (W : World) (v0 : Value) (xs0 : List Pd) (hw0 : WT Try.prog 22 xs0) (hv0 : VP (SW W) W (argP Try.prog 22 xs0) v0) :
    Calls Try.prog 4 #[v0] W fun e w' => e = .returned (.bool true) ∧ Below W.heap.size W w' := by
  obtain ⟨l0, rfl, hl0⟩ := dec_Bytes hw0
  have e0 : argP Try.prog 22 [.sl 1 (l0.map encB)] = .sl 1 (l0.map encB) := by kernel_rfl
  rw [e0] at hv0
  refine ev_true (E := E0) (fun C => @drS_ok C _ mixed) (fun _ => rfl) (args := [.sl 1 (l0.map encB)]) (law_Fragments hl0) (by simp) (fun j hj => ?_)
  have hj : j < 1 := hj
  match j, hj with
  | 0, _ => exact hv0
set_option maxRecDepth 100000 in
theorem lifted (os : Os) (started : os.Started) (H : Type) (enc : TypeId × Value → H) :
    ReturnsInHanded {} Try.checked os 4 .any (Rows.fnFragmentsSpec.pre6 enc Try.prog Try.f4 Rows.fnFragmentsRow.domain false) (Rows.fnFragmentsSpec.post enc Try.prog Try.f4 false true false false) := by
  refine returnsInHanded_of_change_sized (C := Try.checked) own started (by kernel_rfl) Try.func4
    (ChangeSpec.witness6 (enc := enc) (C := Try.checked) false ⟨#[], #[.slice none 0 0], []⟩ 8 (by kernel_rfl) (by kernel_rfl) (by kernel_rfl) (by kernel_rfl)) ?_
  intro W base args ds gs before hval0 hW hcnd hsz0 _
  have hval : ∀ (j : Nat) t v, Try.f4.params[j]? = some t → args[j]? = some v → Value.okWide Try.prog W .any base t v := hval0
  have hW' := hW
  obtain ⟨p, q, hA0, hV, rfl, hfz, hnd⟩ := hW
  have hA : DataW.TrodAll enc Try.prog W 0 (fun _ => true) true Try.f4.params.toList args.toList ds p := hA0
  rw [Try.params4] at hA hval
  obtain ⟨v0, vs0, d0, ds0, p0, q0, hargs, rfl, rfl, h0, r0⟩ := trodAll_cons hA
  obtain ⟨rfl, rfl, rfl⟩ := trodAll_nil r0
  obtain rfl : args = #[v0] := by cases args; simp_all
  obtain ⟨rfl, rfl⟩ := trodVars_none hV
  have k0 := h0
  have lt0 : ∀ x ∈ p0, x.block < W.heap.size := by obtain ⟨m, hm⟩ := k0; exact DataW.trod_lt m _ _ _ hm
  obtain ⟨xs0, w0, _, y0⟩ := arg_vd types_ok (t := 22) (by decide) (hval 0 22 v0 rfl rfl) h0
  clear hA0 hval0 hsz0
  refine (walk W v0 xs0 w0 y0).mono fun e W' ⟨he, bel⟩ => ?_
  subst he
  exact ⟨_, rfl, _, _, _, [], _, [], hW', trodAll_mk1 (shut_bool Try.underlying4 _), (trodAll_cons_mk (Below.trod laidOut (by kernel_rfl) (of_decide_eq_true (by kernel_rfl)) k0 bel lt0) trodAll_mk0), rfl, bel.frame _, fun h => by cases h⟩
theorem over : Rows.fnFragmentsRow.holds Try.pinned (OpenSpec.ofChange Rows.fnFragmentsSpec) :=
  OpenClaim.holds_of_wide 4 Try.f4 rfl rfl rfl rfl rfl rfl rfl ⟨rfl, rfl, rfl, rfl, rfl⟩ rfl rfl rfl rfl rfl (by kernel_rfl) Try.func4 (by kernel_rfl)
    (of_decide_eq_true (by kernel_rfl)) (by unfold Func.isWrapper; first | (rw [if_pos (by decide +kernel)]; kernel_rfl) | (rw [if_neg (by decide +kernel)]; exact ⟨rfl, rfl⟩))
    (fun os started H enc _ => lifted os started H enc)
end Go.Proofs.Ytabomkmgnkjjfaa.RLFragments
namespace Go.Proofs.Ytabomkmgnkjjfaa
/-- The row, under a short name, for the claim. -/
theorem fragments_holds : Rows.FnFragmentsSaid := RLFragments.over
end Go.Proofs.Ytabomkmgnkjjfaa
