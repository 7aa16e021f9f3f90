/- The row of the law FnMerge: for all arguments it returns true, and its arguments read as before. -/
import Derived.Test.YtambpnaakfodhaaGreatDoorRows
import Derived.Test.YtambpnaakfodhaaGreatDoorC3M
import Derived.Test.YtambpnaakfodhaaGreatDoorC2W
import Derived.Test.YtambpnaakfodhaaGreatDoorL1
import Derived.Test.YtambpnaakfodhaaGreatDoorCards
import Derived.Test.YtambpnaakfodhaaGreatDoorTie
import Derived.LaidLaws
import Derived.Handed
import Derived.Lay
import Derived.Stop.LaidErr
import Derived.SevenTiedAt
namespace Go.Proofs.YtambpnaakfodhaaGreatDoor.RFnMerge
open Go.ChangeShapes Go.WideShapes Go.ChangeAt Go.RowKit Go.Proofs.YtambpnaakfodhaaGreatDoor.Dm
set_option linter.unusedVariables false
theorem own : ownKnob Tryz.prog.godebug = none := by kernel_rfl
theorem laidOut : laidOutB Tryz.prog = true := by kernel_rfl
theorem mixed : Tryz.prog.follows .mixedOrders = true := by kernel_rfl
theorem star : "*" ++ "errors.errorString" = "*errors.errorString" := by decide
theorem sentRow (u : TypeId) (h : Tryz.prog.typeName? 3 u = some "*errors.errorString") : u = 322 :=
  typeName_ptr_named (nm := "errors.errorString") (by rw [star]; kernel_rfl) (by kernel_rfl) (by decide) u (by rw [star]; exact h)
abbrev laidL := Rows.fnMergeRow.laid
theorem laid_plain {W : World} (h : laidMetH Tryz.prog laidL W) : laidMet Tryz.prog laidL W := by
  rw [MakeChecks.laidMetH_plain _ _ _ (by kernel_rfl)] at h
  exact h
theorem kept_of_laid {W : World} (h : laidMetH Tryz.prog laidL W) (hs : W.ShapedOpen Tryz.prog) : Kept W where
  tab := by
    obtain ⟨ps, hs0, _⟩ := laid_plain h
    obtain ⟨_, _, _, _, _, _, _, _, _, _, hs1, _⟩ := hs0
    obtain ⟨_, _, _, _, _, _, _, _, _, _, hs2, _⟩ := hs1
    obtain ⟨g, t, cs, f, p, q, hg, ht, hvar, hd, _, _⟩ := hs2
    obtain rfl := Option.some.inj ((show Tryz.prog.globalNamed "internal/strconv.uint64pow10" = some 3 by kernel_rfl).symm.trans hg)
    obtain rfl := Option.some.inj ((show (Tryz.prog.globals[3]?).map (·.type) = some 319 by kernel_rfl).symm.trans ht)
    unfold Lib.TabIs
    rw [hvar, ← Lib.cells_of_tab (P := Tryz.prog) (e := 281) (n := 20) (by kernel_rfl) (by kernel_rfl) (by kernel_rfl) (by kernel_rfl) hd]
  ran := by
    have h4 := (laid_plain h).tail.tail.tail
    obtain ⟨a, s, hv, -, -, -⟩ := laid_sentinel h4 (g := ranG) (ti := 251) (tp := 322) (te := 324) (ts := 9) (by kernel_rfl) (by kernel_rfl) Tryz.underlying251 sentRow Tryz.underlying322 Tryz.underlying324 rfl rfl Tryz.underlying9 (by kernel_rfl) (by kernel_rfl)
    have h0 := World.var?_cell (g := ranG) (by kernel_rfl) hv 0
    exact ⟨_, _, by simpa using h0⟩
  syn := by
    have h4 := (laid_plain h).tail.tail.tail.tail
    obtain ⟨a, s, hv, -, -, -⟩ := laid_sentinel h4 (g := synG) (ti := 251) (tp := 322) (te := 324) (ts := 9) (by kernel_rfl) (by kernel_rfl) Tryz.underlying251 sentRow Tryz.underlying322 Tryz.underlying324 rfl rfl Tryz.underlying9 (by kernel_rfl) (by kernel_rfl)
    have h0 := World.var?_cell (g := synG) (by kernel_rfl) hv 0
    exact ⟨_, _, by simpa using h0⟩
theorem returns_shaped {H : Type} {enc : TypeId × Value → H} {a : Assume} {C : Checked} {os : Os} {f : FuncId} {fn : Func} {s : ChangeSpec} {conds : List PathCond} {apart fresh handsOn again : Bool} {X : World → Array Value → Prop}
    (hX : ∀ (w w' : World) (args : Array Value), w.heap = w'.heap → X w args → X w' args)
    (own : ownKnob C.prog.godebug = none) (started : os.Started) (noInit : C.prog.inits.idxOf? f = none) (hfn : C.prog.funcs[f]? = some fn)
    (witness : ∃ (w : World) (tape : Tape) (i : Input), w.os = os ∧ (w.forCall tape i).Shaped C.prog ∧ i.vars = [] ∧ Input.okWide C.prog (w.forCall tape i) .any w.heap.size f i ∧
      ((s.pre enc C.prog fn conds apart (w.forCall tape i).memory i.args ∧ X (w.forCall tape i).memory i.args) ∧ sizedMet enc C.prog fn (OpenSpec.ofChange s) apart (w.forCall tape i).memory i.args) ∧ a.holds C.prog (lone (Frame.enter C.prog f i.args .normal) [] (w.forCall tape i)))
    (contract : ∀ (W : World) (base : Nat) (args : Array Value) (ds gs : List (DataW H)) (before : List MemPlace),
      (∀ (j : Nat) t v, fn.params[j]? = some t → args[j]? = some v → Value.okWide C.prog W .any base t v) →
      DataW.Whole enc C.prog fn.params.toList s.vars apart W args.toList ds gs before → X W args → W.ShapedOpen C.prog →
      Calls C.prog f args W fun e W' => ∃ v, e = .returned v ∧ s.post enc C.prog fn apart fresh handsOn again W args v W') :
    ReturnsInHanded a C os f .any (fun w args => (s.pre enc C.prog fn conds apart w args ∧ X w args) ∧ sizedMet enc C.prog fn (OpenSpec.ofChange s) apart w args) (s.post enc C.prog fn apart fresh handsOn again) := by
  refine returnsInHanded_of_calls own started noInit witness ?_
  intro w tape i _ hsh _ hok hpre hholds
  obtain ⟨_, _, _, fn', hfn', _, _, _, _, hval⟩ := hok
  have e : fn' = fn := Option.some.inj (hfn'.symm.trans hfn)
  subst e
  obtain ⟨⟨⟨ds, gs, before, hw, hc⟩, hx⟩, hz⟩ := hpre
  have hw' := DataW.Whole.of_heap (w' := w.forCall tape i) (by rfl) hw
  refine (contract (w.forCall tape i) w.heap.size i.args ds gs before hval hw' (hX _ _ _ (by rfl) hx) hsh).mono fun e W' ⟨v, he, hp⟩ => ?_
  subst he
  exact ChangeSpec.post_blind hp
def types : List TypeId := [22, 5]
theorem types_ok : dataSet Tryz.prog types = true := by kernel_rfl
theorem c_u8 : Tryz.prog.cellsOf 5 = 1 := by kernel_rfl
theorem dec_Bytes {xs : List Pd} (h : WT Tryz.prog 22 xs) : ∃ l : List Int, xs = [.sl 1 (l.map encB)] ∧ byteOK l ∧ l.length ≤ 9223372036854775807 := by
  obtain ⟨es, rfl, h1, h2, h3⟩ := WT.sl_inv Tryz.underlying22 h
  obtain ⟨l, rfl, hl⟩ := list_dec (f := encB) (ok := fun n => 0 ≤ n ∧ n < 256) (es := es) fun x hx => by
    obtain ⟨n, e, w⟩ := (h3 x hx).int_inv Tryz.underlying5
    refine ⟨n, e, ?_⟩
    have w : (decide ((0 : Int) ≤ n) && decide (n ≤ 255)) = true := w
    simp only [Bool.and_eq_true, decide_eq_true_eq] at w
    omega
  rw [List.length_map] at h1
  exact ⟨l, by rw [c_u8], hl, h1⟩
theorem walk (W : World) (hK : Kept W) (v0 v1 : Value) (xs0 xs1 : List Pd) (hw0 : WT Tryz.prog 22 xs0) (hv0 : VP (SW W) W (argP Tryz.prog 22 xs0) v0) (hw1 : WT Tryz.prog 22 xs1) (hv1 : VP (SW W) W (argP Tryz.prog 22 xs1) v1) :
    Calls Tryz.prog 3 #[v0, v1] W fun e w' => e = .returned (.bool true) ∧ Below W.heap.size W w' := by
  obtain ⟨c0, rfl, hc0, l0⟩ := dec_Bytes hw0
  obtain ⟨c1, rfl, hc1, l1⟩ := dec_Bytes hw1
  have e : ∀ l, argP Tryz.prog 22 [.sl 1 l] = .sl 1 l := fun l => by kernel_rfl
  rw [e] at hv0 hv1
  refine ev_trueK (E := E0) (fun C => @drS_ok C _ mixed) (quiet fun f n h => quiet_only h) libs (args := [.sl 1 (c0.map encB), .sl 1 (c1.map encB)]) (law_FnMerge hc0 hc1 l0 l1) hK hK.lt (by simp) (fun j hj => ?_)
  have hj : j < 2 := hj
  match j, hj with
  | 0, _ => exact hv0
  | 1, _ => exact hv1
set_option maxRecDepth 100000 in
theorem lifted (os : Os) (started : os.Started) (H : Type) (enc : TypeId × Value → H) :
    ReturnsInHanded {} Tryz.checked os 3 .any (fun w args => (Rows.fnMergeSpec.pre enc Tryz.prog Tryz.f3 Rows.fnMergeRow.domain false w args ∧ laidMetH Tryz.prog laidL w) ∧ sizedMet enc Tryz.prog Tryz.f3 (OpenSpec.ofChange Rows.fnMergeSpec) false w args) (Rows.fnMergeSpec.post enc Tryz.prog Tryz.f3 false true false false) := by
  refine returns_shaped (C := Tryz.checked) (X := fun w _ => laidMetH Tryz.prog laidL w) (fun _ _ _ hh h => laidMet.of_heap hh h) own started (by kernel_rfl) Tryz.func3
    (ChangeSpec.witness_shaped (enc := enc) (C := Tryz.checked) (os := os) (X := fun w _ => laidMetH Tryz.prog laidL w) false (World.laidAll Tryz.prog os laidL) #[.slice none 0 0, .slice none 0 0] 8 (World.laidAll_os _ _ _)
      (World.shaped_of_ZipB (by kernel_rfl) (by kernel_rfl)) (by kernel_rfl) (by kernel_rfl) (by kernel_rfl)
      (by rw [MakeChecks.laidMetH_plain _ _ _ (by kernel_rfl)]; exact laidMet_laidAll _ (by kernel_rfl) (by kernel_rfl))) ?_
  intro W base args ds gs before hval0 hW hL hsh
  have hval : ∀ (j : Nat) t v, Tryz.f3.params[j]? = some t → args[j]? = some v → Value.okWide Tryz.prog W .any base t v := hval0
  have hW' := hW
  obtain ⟨p, q, hA0, hV, rfl, hfz, hnd⟩ := hW
  have hA : DataW.TrodAll enc Tryz.prog W 0 (fun _ => true) true Tryz.f3.params.toList args.toList ds p := hA0
  rw [Tryz.params3] at hA hval
  obtain ⟨v0, vs0, d0, ds0, p0, q0, hargs, rfl, rfl, h0, r0⟩ := trodAll_cons hA
  obtain ⟨v1, vs1, d1, ds1, p1, q1, rfl, rfl, rfl, h1, r1⟩ := trodAll_cons r0
  obtain ⟨rfl, rfl, rfl⟩ := trodAll_nil r1
  obtain rfl : args = #[v0, v1] := by cases args; simp_all
  obtain ⟨rfl, rfl⟩ := trodVars_none hV
  have k0 := h0
  have lt0 : ∀ x ∈ p0, x.block < W.heap.size := by obtain ⟨m, hm⟩ := k0; exact DataW.trod_lt m _ _ _ hm
  have k1 := h1
  have lt1 : ∀ x ∈ p1, x.block < W.heap.size := by obtain ⟨m, hm⟩ := k1; exact DataW.trod_lt m _ _ _ hm
  obtain ⟨xs0, w0, _, y0⟩ := arg_vd types_ok (t := 22) (by decide) (hval 0 22 v0 rfl rfl) h0
  obtain ⟨xs1, w1, _, y1⟩ := arg_vd types_ok (t := 22) (by decide) (hval 1 22 v1 rfl rfl) h1
  clear hA0 hval0
  refine (walk W (kept_of_laid hL hsh) v0 v1 xs0 xs1 w0 y0 w1 y1).mono fun e W' ⟨he, bel⟩ => ?_
  subst he
  exact ⟨_, rfl, _, _, _, [], _, [], hW', trodAll_mk1 (shut_bool Tryz.underlying4 _), (trodAll_cons_mk (Below.trod laidOut (by kernel_rfl) (of_decide_eq_true (by kernel_rfl)) k0 bel lt0) (trodAll_cons_mk (Below.trod laidOut (by kernel_rfl) (of_decide_eq_true (by kernel_rfl)) k1 bel lt1) trodAll_mk0)), rfl, bel.frame _, fun h => by cases h⟩
theorem over : Rows.fnMergeRow.holds Tryz.pinned (OpenSpec.ofChange Rows.fnMergeSpec) :=
  OpenClaim.holds_of_wide 3 Tryz.f3 rfl rfl rfl rfl rfl rfl rfl ⟨rfl, rfl, rfl, rfl, rfl⟩ rfl rfl rfl rfl rfl (by kernel_rfl) Tryz.func3 (by kernel_rfl)
    (of_decide_eq_true (by kernel_rfl)) (by unfold Func.isWrapper; first | (rw [if_pos (by decide +kernel)]; kernel_rfl) | (rw [if_neg (by decide +kernel)]; exact ⟨rfl, rfl⟩))
    (fun os started H enc _ => lifted os started H enc)
theorem card : Rows.FnMergeCardSaid :=
  Claim7.holds_tied_plain_at .later [] [.data, .data, .data, .sentinel, .sentinel] true Rows.fnMergeCard.stood.harness Rows.fnMergeCard.stood.looks
    over (fun _ h => by cases h) (by kernel_rfl) (fun _ h => by cases h) fnMerge_row_tie rfl ⟨rfl, rfl⟩ (by kernel_rfl) rfl
    (fun f fn hf hfn => by
      obtain rfl : f = 3 := (Option.some.inj ((show Tryz.prog.funcNamed "loop.example/g00540/laws.FnMerge" = some 3 by kernel_rfl).symm.trans hf)).symm
      obtain rfl : fn = Tryz.f3 := (Option.some.inj (Tryz.func3.symm.trans hfn)).symm
      refine ⟨by kernel_rfl, fun j t ht => ?_⟩
      rw [Tryz.params3] at ht
      match j, ht with
      | 0, ht => exact (Option.some.inj (show some 22 = some t from ht)) ▸ (show Tryz.prog.wantsStandIn 22 = false by kernel_rfl)
      | 1, ht => exact (Option.some.inj (show some 22 = some t from ht)) ▸ (show Tryz.prog.wantsStandIn 22 = false by kernel_rfl)
      | j + 2, ht => simp at ht)
    (by kernel_rfl)
end Go.Proofs.YtambpnaakfodhaaGreatDoor.RFnMerge
namespace Go.Proofs.YtambpnaakfodhaaGreatDoor
theorem fnMerge_holds : Rows.FnMergeCardSaid := RFnMerge.card
end Go.Proofs.YtambpnaakfodhaaGreatDoor
