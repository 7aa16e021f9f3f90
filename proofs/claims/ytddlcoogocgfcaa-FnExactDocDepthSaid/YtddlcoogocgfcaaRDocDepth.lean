/- The row of the law FnExactDocDepth: for every document it returns true, and its argument reads as before. -/
import Derived.Test.YtddlcoogocgfcaaRows
import Derived.Test.YtddlcoogocgfcaaT8
namespace Go.Proofs.Ytddlcoogocgfcaa.RDocDepth
open Go.ChangeShapes Go.WideShapes Go.ChangeAt Go.RowKit Go.Proofs.Ytddlcoogocgfcaa.Dm
set_option linter.unusedVariables false
theorem own : ownKnob Try.prog.godebug = none := by kernel_rfl
theorem laidOut : laidOutB Try.prog = true := by kernel_rfl
theorem mixed : Try.prog.follows .mixedOrders = true := by kernel_rfl
theorem walk (W : World) (v : Value) (xs : List Pd) (hw : WT Try.prog 98 xs) (hv : VP (SW W) W (argP Try.prog 98 xs) v) :
    Calls Try.prog 9 #[v] W fun e w' => e = .returned (.bool true) ∧ Below W.heap.size W w' := by
  obtain ⟨l, rfl, hok⟩ := dec_Doc hw
  have e : argP Try.prog 98 [.sl 4 (l.map GDef.enc)] = .agg 1 [.sl 4 (l.map GDef.enc)] := by kernel_rfl
  rw [e] at hv
  refine ev_true (E := E0) (dr1_ok mixed) (args := [.agg 1 [.sl 4 (l.map GDef.enc)]]) (law_DocDepth hok) (by simp) (fun j hj => ?_)
  have hj : j < 1 := hj
  have : j = 0 := by omega
  subst this
  exact hv
set_option maxRecDepth 100000 in
theorem lifted (os : Os) (started : os.Started) (H : Type) (enc : TypeId × Value → H) :
    ReturnsInHanded {} Try.checked os 9 .any (Rows.fnExactDocDepthSpec.pre6 enc Try.prog Try.f9 Rows.fnExactDocDepthRow.domain false) (Rows.fnExactDocDepthSpec.post enc Try.prog Try.f9 false true false false) := by
  refine returnsInHanded_of_change_sized (C := Try.checked) own started (by kernel_rfl) Try.func9
    (ChangeSpec.witness6 (enc := enc) (C := Try.checked) false ⟨#[], #[.agg #[.slice none 0 0]], []⟩ 8 (by kernel_rfl) (by kernel_rfl) (by kernel_rfl) (by kernel_rfl)) ?_
  intro W base args ds gs before hval0 hW hcnd hsz0 _
  have hval : ∀ (j : Nat) t v, Try.f9.params[j]? = some t → args[j]? = some v → Value.okWide Try.prog W .any base t v := hval0
  have hW' := hW
  obtain ⟨p, q, hA0, hV, rfl, hfz, hnd⟩ := hW
  have hA : DataW.TrodAll enc Try.prog W 0 (fun _ => true) true Try.f9.params.toList args.toList ds p := hA0
  rw [Try.params9] at hA hval
  obtain ⟨v0, vs0, d0, ds0, p0, q0, hargs, rfl, rfl, h0, r0⟩ := trodAll_cons hA
  obtain ⟨rfl, rfl, rfl⟩ := trodAll_nil r0
  obtain rfl : args = #[v0] := by cases args; simp_all
  obtain ⟨rfl, rfl⟩ := trodVars_none hV
  have k0 := h0
  have lt0 : ∀ x ∈ p0, x.block < W.heap.size := by obtain ⟨m, hm⟩ := k0; exact DataW.trod_lt m _ _ _ hm
  obtain ⟨xs0, w0, _, y0⟩ := arg_vd docTypes_ok (t := 98) (by decide) (hval 0 98 v0 rfl rfl) h0
  clear hA0 hval0 hsz0
  refine (walk W v0 xs0 w0 y0).mono fun e W' ⟨he, bel⟩ => ?_
  subst he
  exact ⟨_, rfl, _, _, _, [], _, [], hW', trodAll_mk1 (shut_bool Try.underlying4 _), (trodAll_cons_mk (Below.trod laidOut (by kernel_rfl) (of_decide_eq_true (by kernel_rfl)) k0 bel lt0) trodAll_mk0), rfl, bel.frame _, fun h => by cases h⟩
theorem over : Rows.fnExactDocDepthRow.holds Try.pinned (OpenSpec.ofChange Rows.fnExactDocDepthSpec) :=
  OpenClaim.holds_of_wide 9 Try.f9 rfl rfl rfl rfl rfl rfl rfl ⟨rfl, rfl, rfl, rfl, rfl⟩ rfl rfl rfl rfl rfl (by kernel_rfl) Try.func9 (by kernel_rfl)
    (of_decide_eq_true (by kernel_rfl)) (by unfold Func.isWrapper; first | (rw [if_pos (by decide +kernel)]; kernel_rfl) | (rw [if_neg (by decide +kernel)]; exact ⟨rfl, rfl⟩))
    (fun os started H enc _ => lifted os started H enc)
end Go.Proofs.Ytddlcoogocgfcaa.RDocDepth
namespace Go.Proofs.Ytddlcoogocgfcaa
/-- The row, under a short name, for the claim. -/
theorem docDepth_holds : Rows.FnExactDocDepthSaid := RDocDepth.over
end Go.Proofs.Ytddlcoogocgfcaa
