/- The row of the law FnExactCollect: for all arguments it returns true, and its arguments read as before. -/
import Derived.Test.YtmnoibkdmeajpaaGreatRows
import Derived.Test.YtmnoibkdmeajpaaGreatK7
namespace Go.Proofs.YtmnoibkdmeajpaaGreat.RCollect
open Go.ChangeShapes Go.WideShapes Go.ChangeAt Go.RowKit Go.Proofs.YtmnoibkdmeajpaaGreat.Dm
set_option linter.unusedVariables false
theorem own : ownKnob Tryz.prog.godebug = none := by kernel_rfl
theorem laidOut : laidOutB Tryz.prog = true := by kernel_rfl
theorem mixed : Tryz.prog.follows .mixedOrders = true := by kernel_rfl
def types : List TypeId := 80 :: 26 :: docTypes
theorem types_ok : dataSet Tryz.prog types = true := by kernel_rfl
theorem walk (W : World) (v0 v1 v2 : Value) (xs0 xs1 xs2 : List Pd) (hw0 : WT Tryz.prog 24 xs0) (hv0 : VP (SW W) W (argP Tryz.prog 24 xs0) v0) (hw1 : WT Tryz.prog 25 xs1) (hv1 : VP (SW W) W (argP Tryz.prog 25 xs1) v1) (hw2 : WT Tryz.prog 26 xs2) (hv2 : VP (SW W) W (argP Tryz.prog 26 xs2) v2) :
 Calls Tryz.prog 3 #[v0, v1, v2] W fun e w' => e = .returned (.bool true) ∧ Below W.heap.size W w' := by
 obtain ⟨l0, rfl, hl0⟩ := dec_Doc hw0
 obtain ⟨s1, rfl, hs1⟩ := dec_SelS hw1
 obtain ⟨b2, rfl, hb2⟩ := dec_BindS hw2
 have e0 : argP Tryz.prog 24 [.sl 4 (l0.map GDef.enc)] = .agg 1 [.sl 4 (l0.map GDef.enc)] := by kernel_rfl
 rw [e0] at hv0
 have e1 : argP Tryz.prog 25 [.sl 6 (s1.map GSel.enc)] = .sl 6 (s1.map GSel.enc) := by kernel_rfl
 rw [e1] at hv1
 have e2 : argP Tryz.prog 26 [.sl 4 (b2.map GArg.enc)] = .sl 4 (b2.map GArg.enc) := by kernel_rfl
 rw [e2] at hv2
 refine ev_true (E := E0) (fun C => @drS_ok C _ mixed) (fun f cap h => by cases (show (none : Option Nat) = some cap.size from h)) (fun _ => rfl) (args := [.agg 1 [.sl 4 (l0.map GDef.enc)], .sl 6 (s1.map GSel.enc), .sl 4 (b2.map GArg.enc)]) (law_Collect hl0 hs1 hb2) (by simp) (fun j hj => ?_)
 have hj : j < 3 := hj
 match j, hj with
 | 0, _ => exact hv0
 | 1, _ => exact hv1
 | 2, _ => exact hv2
set_option maxRecDepth 100000 in
theorem lifted (os : Os) (started : os.Started) (H : Type) (enc : TypeId × Value → H) :
 ReturnsInHanded {} Tryz.checked os 3 .any (Rows.fnExactCollectSpec.pre6 enc Tryz.prog Tryz.f3 Rows.fnExactCollectRow.domain false) (Rows.fnExactCollectSpec.post enc Tryz.prog Tryz.f3 false true false false) := by
 refine returnsInHanded_of_change_sized (C := Tryz.checked) own started (by kernel_rfl) Tryz.func3
  (ChangeSpec.witness6 (enc := enc) (C := Tryz.checked) false ⟨#[], #[.agg #[.slice none 0 0], .slice none 0 0, .slice none 0 0], []⟩ 8 (by kernel_rfl) (by kernel_rfl) (by kernel_rfl) (by kernel_rfl)) ?_
 intro W base args ds gs before hval0 hW hcnd hsz0 _
 have hval : ∀ (j : Nat) t v, Tryz.f3.params[j]? = some t → args[j]? = some v → Value.okWide Tryz.prog W .any base t v := hval0
 have hW' := hW
 obtain ⟨p, q, hA0, hV, rfl, hfz, hnd⟩ := hW
 have hA : DataW.TrodAll enc Tryz.prog W 0 (fun _ => true) true Tryz.f3.params.toList args.toList ds p := hA0
 rw [Tryz.params3] at hA hval
 obtain ⟨v0, vs0, d0, ds0, p0, q0, hargs, rfl, rfl, h0, r0⟩ := trodAll_cons hA
 obtain ⟨v1, vs1, d1, ds1, p1, q1, rfl, rfl, rfl, h1, r1⟩ := trodAll_cons r0
 obtain ⟨v2, vs2, d2, ds2, p2, q2, rfl, rfl, rfl, h2, r2⟩ := trodAll_cons r1
 obtain ⟨rfl, rfl, rfl⟩ := trodAll_nil r2
 obtain rfl : args = #[v0, v1, v2] := by cases args; simp_all
 obtain ⟨rfl, rfl⟩ := trodVars_none hV
 have k0 := h0
 have lt0 : ∀ x ∈ p0, x.block < W.heap.size := by obtain ⟨m, hm⟩ := k0; exact DataW.trod_lt m _ _ _ hm
 have k1 := h1
 have lt1 : ∀ x ∈ p1, x.block < W.heap.size := by obtain ⟨m, hm⟩ := k1; exact DataW.trod_lt m _ _ _ hm
 have k2 := h2
 have lt2 : ∀ x ∈ p2, x.block < W.heap.size := by obtain ⟨m, hm⟩ := k2; exact DataW.trod_lt m _ _ _ hm
 obtain ⟨xs0, w0, _, y0⟩ := arg_vd types_ok (t := 24) (by decide) (hval 0 24 v0 rfl rfl) h0
 obtain ⟨xs1, w1, _, y1⟩ := arg_vd types_ok (t := 25) (by decide) (hval 1 25 v1 rfl rfl) h1
 obtain ⟨xs2, w2, _, y2⟩ := arg_vd types_ok (t := 26) (by decide) (hval 2 26 v2 rfl rfl) h2
 clear hA0 hval0 hsz0
 refine (walk W v0 v1 v2 xs0 xs1 xs2 w0 y0 w1 y1 w2 y2).mono fun e W' ⟨he, bel⟩ => ?_
 subst he
 exact ⟨_, rfl, _, _, _, [], _, [], hW', trodAll_mk1 (shut_bool Tryz.underlying4 _), (trodAll_cons_mk (Below.trod laidOut (by kernel_rfl) (of_decide_eq_true (by kernel_rfl)) k0 bel lt0) (trodAll_cons_mk (Below.trod laidOut (by kernel_rfl) (of_decide_eq_true (by kernel_rfl)) k1 bel lt1) (trodAll_cons_mk (Below.trod laidOut (by kernel_rfl) (of_decide_eq_true (by kernel_rfl)) k2 bel lt2) trodAll_mk0))), rfl, bel.frame _, fun h => by cases h⟩
theorem over : Rows.fnExactCollectRow.holds Tryz.pinned (OpenSpec.ofChange Rows.fnExactCollectSpec) :=
 OpenClaim.holds_of_wide 3 Tryz.f3 rfl rfl rfl rfl rfl rfl rfl ⟨rfl, rfl, rfl, rfl, rfl⟩ rfl rfl rfl rfl rfl (by kernel_rfl) Tryz.func3 (by kernel_rfl)
  (of_decide_eq_true (by kernel_rfl)) (by unfold Func.isWrapper; first | (rw [if_pos (by decide +kernel)]; kernel_rfl) | (rw [if_neg (by decide +kernel)]; exact ⟨rfl, rfl⟩))
  (fun os started H enc _ => lifted os started H enc)
end Go.Proofs.YtmnoibkdmeajpaaGreat.RCollect
namespace Go.Proofs.YtmnoibkdmeajpaaGreat
theorem collect_holds : Rows.FnExactCollectSaid := RCollect.over
end Go.Proofs.YtmnoibkdmeajpaaGreat
