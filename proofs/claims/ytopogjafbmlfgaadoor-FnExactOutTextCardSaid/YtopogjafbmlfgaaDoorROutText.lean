/- The row of the law FnExactOutText: for all arguments it returns true, and its arguments read as before. -/
import Derived.Test.YtopogjafbmlfgaaDoorRows
import Derived.Test.YtopogjafbmlfgaaDoorO6
import Derived.Test.YtopogjafbmlfgaaDoorL1
import Derived.Test.YtopogjafbmlfgaaDoorCards
import Derived.Test.YtopogjafbmlfgaaDoorTie
import Derived.LaidLaws
import Derived.Handed
import Derived.SevenTiedAt
namespace Go.Proofs.YtopogjafbmlfgaaDoor.ROutText
open Go.ChangeShapes Go.WideShapes Go.ChangeAt Go.RowKit Go.Proofs.YtopogjafbmlfgaaDoor.Dm
set_option linter.unusedVariables false
theorem own : ownKnob Tryd.prog.godebug = none := by kernel_rfl
theorem laidOut : laidOutB Tryd.prog = true := by kernel_rfl
theorem mixed : Tryd.prog.follows .mixedOrders = true := by kernel_rfl
theorem tab_of_laid {W : World} (h : laidMetH Tryd.prog Rows.fnExactOutTextRow.laid W) : Lib.TabIs Tryd.prog W "internal/strconv.uint64pow10" .u64 Lib.pow10Tab := by
  have h' : laidMet Tryd.prog [("math/bits.deBruijn32tab", Rows.laid_math_bits_deBruijn32tab), ("math/bits.deBruijn64tab", Rows.laid_math_bits_deBruijn64tab), ("internal/strconv.uint64pow10", Lib.tabData .u64 Lib.pow10Tab)] W := h
  obtain ⟨ps, hs0, _⟩ := h'
  obtain ⟨_, _, _, _, _, _, _, _, _, _, hs1, _⟩ := hs0
  obtain ⟨_, _, _, _, _, _, _, _, _, _, hs2, _⟩ := hs1
  obtain ⟨g, t, cs, f, p, q, hg, ht, hvar, hd, _, _⟩ := hs2
  obtain rfl := Option.some.inj ((show Tryd.prog.globalNamed "internal/strconv.uint64pow10" = some 0 by kernel_rfl).symm.trans hg)
  obtain rfl := Option.some.inj ((show (Tryd.prog.globals[0]?).map (·.type) = some 79 by kernel_rfl).symm.trans ht)
  unfold Lib.TabIs
  rw [hvar, ← Lib.cells_of_tab (P := Tryd.prog) (e := 69) (n := 20) (by kernel_rfl) (by kernel_rfl) (by kernel_rfl) (by kernel_rfl) hd]
def cellsOf : DataW Unit → Array Value
  | .agg l => (l.map fun x => match x with | .lit (.int k n) => Value.int k n | _ => undef).toArray
  | _ => #[]
/-- A world that holds the listed tables. -/
noncomputable def laidWorld (os : Os) : World :=
  let w0 := World.holding Tryd.prog os ⟨#[], #[], []⟩
  { w0 with heap := ((w0.heap.modify 2 fun | .cells _ t fr => .cells (cellsOf Rows.laid_math_bits_deBruijn32tab) t fr | o => o).modify 3 fun | .cells _ t fr => .cells (cellsOf Rows.laid_math_bits_deBruijn64tab) t fr | o => o).modify 0 fun | .cells _ t fr => .cells (cellsOf Rows.laid_internal_strconv_uint64pow10) t fr | o => o }
theorem laidWorld_met (os : Os) (args : Array Value) : laidMetH Tryd.prog Rows.fnExactOutTextRow.laid ((laidWorld os).forCall (fun _ _ => 0) ⟨#[], args, []⟩).memory :=
  laidMet_of_run' 8 (by kernel_rfl) (by kernel_rfl)
def types : List TypeId := outTypes
theorem types_ok : dataSet Tryd.prog types = true := by kernel_rfl
theorem walk (W : World) (hT : Lib.TabIs Tryd.prog W "internal/strconv.uint64pow10" .u64 Lib.pow10Tab) (v0 : Value) (xs0 : List Pd) (hw0 : WT Tryd.prog 25 xs0) (hv0 : VP (SW W) W (argP Tryd.prog 25 xs0) v0) :
    Calls Tryd.prog 3 #[v0] W fun e w' => e = .returned (.bool true) ∧ Below W.heap.size W w' := by
  obtain ⟨o0, rfl, ho0⟩ := dec_Out _ _ (Nat.le_refl _) hw0
  have e0 : argP Tryd.prog 25 o0.enc = .agg 5 o0.enc := by kernel_rfl
  rw [e0] at hv0
  refine ev_trueK (E := E0) (dr1_ok mixed) libs (args := [.agg 5 o0.enc]) (law_OutText ho0) hT (fun b hb => by have hb : b = tabG := hb; subst hb; exact tabLt hT) (by simp) (fun j hj => ?_)
  have hj : j < 1 := hj
  match j, hj with
  | 0, _ => exact hv0
set_option maxRecDepth 100000 in
theorem lifted (os : Os) (started : os.Started) (H : Type) (enc : TypeId × Value → H) :
    ReturnsInHanded {} Tryd.checked os 3 .any (fun w args => (Rows.fnExactOutTextSpec.pre enc Tryd.prog Tryd.f3 Rows.fnExactOutTextRow.domain false w args ∧ laidMetH Tryd.prog Rows.fnExactOutTextRow.laid w) ∧ sizedMet enc Tryd.prog Tryd.f3 (OpenSpec.ofChange Rows.fnExactOutTextSpec) false w args) (Rows.fnExactOutTextSpec.post enc Tryd.prog Tryd.f3 false true false false) := by
  refine returnsInHanded_of_change_and (C := Tryd.checked) (X := fun w _ => laidMetH Tryd.prog Rows.fnExactOutTextRow.laid w) (fun _ _ _ hh h => laidMet.of_heap hh h) own started (by kernel_rfl) Tryd.func3
    (ChangeSpec.witness_at (enc := enc) (C := Tryd.checked) (os := os) (X := fun w _ => laidMetH Tryd.prog Rows.fnExactOutTextRow.laid w) false (laidWorld os) #[.agg #[.int .i64 0, .int .i64 0, .string ⟨#[]⟩, .slice none 0 0, .slice none 0 0]] 8 rfl (by kernel_rfl) (by kernel_rfl) (by kernel_rfl) (by kernel_rfl) (by kernel_rfl) (laidWorld_met os _)) ?_
  intro W base args ds gs before hval0 hW hcnd hsz0 hL _
  have hval : ∀ (j : Nat) t v, Tryd.f3.params[j]? = some t → args[j]? = some v → Value.okWide Tryd.prog W .any base t v := hval0
  have hW' := hW
  obtain ⟨p, q, hA0, hV, rfl, hfz, hnd⟩ := hW
  have hA : DataW.TrodAll enc Tryd.prog W 0 (fun _ => true) true Tryd.f3.params.toList args.toList ds p := hA0
  rw [Tryd.params3] at hA hval
  obtain ⟨v0, vs0, d0, ds0, p0, q0, hargs, rfl, rfl, h0, r0⟩ := trodAll_cons hA
  obtain ⟨rfl, rfl, rfl⟩ := trodAll_nil r0
  obtain rfl : args = #[v0] := by cases args; simp_all
  obtain ⟨rfl, rfl⟩ := trodVars_none hV
  have k0 := h0
  have lt0 : ∀ x ∈ p0, x.block < W.heap.size := by obtain ⟨m, hm⟩ := k0; exact DataW.trod_lt m _ _ _ hm
  obtain ⟨xs0, w0, _, y0⟩ := arg_vd types_ok (t := 25) (by decide) (hval 0 25 v0 rfl rfl) h0
  clear hA0 hval0 hsz0
  refine (walk W (tab_of_laid hL) v0 xs0 w0 y0).mono fun e W' ⟨he, bel⟩ => ?_
  subst he
  exact ⟨_, rfl, _, _, _, [], _, [], hW', trodAll_mk1 (shut_bool Tryd.underlying4 _), (trodAll_cons_mk (Below.trod laidOut (by kernel_rfl) (of_decide_eq_true (by kernel_rfl)) k0 bel lt0) trodAll_mk0), rfl, bel.frame _, fun h => by cases h⟩
theorem over : Rows.fnExactOutTextRow.holds Tryd.pinned (OpenSpec.ofChange Rows.fnExactOutTextSpec) :=
  OpenClaim.holds_of_wide 3 Tryd.f3 rfl rfl rfl rfl rfl rfl rfl ⟨rfl, rfl, rfl, rfl, rfl⟩ rfl rfl rfl rfl rfl (by kernel_rfl) Tryd.func3 (by kernel_rfl)
    (of_decide_eq_true (by kernel_rfl)) (by unfold Func.isWrapper; first | (rw [if_pos (by decide +kernel)]; kernel_rfl) | (rw [if_neg (by decide +kernel)]; exact ⟨rfl, rfl⟩))
    (fun os started H enc _ => lifted os started H enc)
/-- THE TIED CARD. -/
theorem card : Rows.FnExactOutTextCardSaid :=
  Claim7.holds_tied_plain_at .later [] [.data, .data, .data] true Rows.fnExactOutTextCard.stood.harness Rows.fnExactOutTextCard.stood.looks
    over (fun _ h => by cases h) (by kernel_rfl) (fun _ h => by cases h) fnExactOutText_row_tie rfl ⟨rfl, rfl⟩ (by kernel_rfl) rfl
    (fun f fn hf hfn => by
      obtain rfl : f = 3 := (Option.some.inj ((show Tryd.prog.funcNamed "loop.example/g00540/laws.FnExactOutText" = some 3 by kernel_rfl).symm.trans hf)).symm
      obtain rfl : fn = Tryd.f3 := (Option.some.inj (Tryd.func3.symm.trans hfn)).symm
      refine ⟨by kernel_rfl, fun j t ht => ?_⟩
      rw [Tryd.params3] at ht
      match j, ht with
      | 0, ht => exact (Option.some.inj (show some 25 = some t from ht)) ▸ (show Tryd.prog.wantsStandIn 25 = false by kernel_rfl)
      | j + 1, ht => simp at ht)
    (by kernel_rfl)
end Go.Proofs.YtopogjafbmlfgaaDoor.ROutText
namespace Go.Proofs.YtopogjafbmlfgaaDoor
/-- The row, under a short name, for the claim. -/
theorem outText_holds : Rows.FnExactOutTextCardSaid := ROutText.card
end Go.Proofs.YtopogjafbmlfgaaDoor
