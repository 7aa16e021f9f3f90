/- The row of the law FnExactAnswerOf: for all arguments it returns true, and its arguments read as before. -/
import Derived.Test.YtbadompnhhhfpaaGreatDoorRows
import Derived.Test.YtbadompnhhhfpaaGreatDoorAF3A
import Derived.Test.YtbadompnhhhfpaaGreatDoorAL1
import Derived.Test.YtbadompnhhhfpaaGreatDoorCards
import Derived.Test.YtbadompnhhhfpaaGreatDoorTie
import Derived.LaidLaws
import Derived.Handed
import Derived.Lay
import Derived.Stop.LaidErr
import Derived.SevenTiedAt
namespace Go.Proofs.YtbadompnhhhfpaaGreatDoor.RAnswerOf
open Go.ChangeShapes Go.WideShapes Go.ChangeAt Go.RowKit Go.Proofs.YtbadompnhhhfpaaGreatDoor.Dm
set_option linter.unusedVariables false
theorem own : ownKnob Tryz.prog.godebug = none := by kernel_rfl
theorem laidOut : laidOutB Tryz.prog = true := by kernel_rfl
theorem mixed : Tryz.prog.follows .mixedOrders = true := by kernel_rfl
theorem star : "*" ++ "errors.errorString" = "*errors.errorString" := by decide
theorem sentRow (u : TypeId) (h : Tryz.prog.typeName? 3 u = some "*errors.errorString") : u = 262 :=
  typeName_ptr_named (nm := "errors.errorString") (by rw [star]; kernel_rfl) (by kernel_rfl) (by decide) u (by rw [star]; exact h)
abbrev laidL := Rows.fnExactAnswerOfRow.laid
theorem laid_plain {W : World} (h : laidMetH Tryz.prog laidL W) : laidMet Tryz.prog laidL W := by
  rw [MakeChecks.laidMetH_plain _ _ _ (by kernel_rfl)] at h
  exact h
theorem kept_of_laid {W : World} (h : laidMetH Tryz.prog laidL W) (hs : W.ShapedOpen Tryz.prog) : Kept W where
  tab := by
    obtain ⟨ps, hs0, _⟩ := laid_plain h
    obtain ⟨_, _, _, _, _, _, _, _, _, _, hs1, _⟩ := hs0
    obtain ⟨_, _, _, _, _, _, _, _, _, _, hs2, _⟩ := hs1
    obtain ⟨g, t, cs, f, p, q, hg, ht, hvar, hd, _, _⟩ := hs2
    obtain rfl := Option.some.inj ((show Tryz.prog.globalNamed "internal/strconv.uint64pow10" = some 0 by kernel_rfl).symm.trans hg)
    obtain rfl := Option.some.inj ((show (Tryz.prog.globals[0]?).map (·.type) = some 226 by kernel_rfl).symm.trans ht)
    unfold Lib.TabIs
    rw [hvar, ← Lib.cells_of_tab (P := Tryz.prog) (e := 202) (n := 20) (by kernel_rfl) (by kernel_rfl) (by kernel_rfl) (by kernel_rfl) hd]
  max := cell_of_shapedOpen_int hs (of_decide_eq_true (by kernel_rfl)) (t := 3) (zero := #[.int .i64 0]) (by kernel_rfl) rfl (by kernel_rfl) (by kernel_rfl) Tryz.underlying3
  ran := by
    have h4 := (laid_plain h).tail.tail.tail.tail
    obtain ⟨a, s, hv, -, -, -⟩ := laid_sentinel h4 (g := ranG) (ti := 164) (tp := 262) (te := 264) (ts := 9) (by kernel_rfl) (by kernel_rfl) Tryz.underlying164 sentRow Tryz.underlying262 Tryz.underlying264 rfl rfl Tryz.underlying9 (by kernel_rfl) (by kernel_rfl)
    have h0 := World.var?_cell (g := ranG) (by kernel_rfl) hv 0
    exact ⟨_, _, by simpa using h0⟩
  syn := by
    have h4 := (laid_plain h).tail.tail.tail.tail.tail
    obtain ⟨a, s, hv, -, -, -⟩ := laid_sentinel h4 (g := synG) (ti := 164) (tp := 262) (te := 264) (ts := 9) (by kernel_rfl) (by kernel_rfl) Tryz.underlying164 sentRow Tryz.underlying262 Tryz.underlying264 rfl rfl Tryz.underlying9 (by kernel_rfl) (by kernel_rfl)
    have h0 := World.var?_cell (g := synG) (by kernel_rfl) hv 0
    exact ⟨_, _, by simpa using h0⟩
/-- The wrap, with what a row lists and the world's shape. -/
theorem returns_shaped {H : Type} {enc : TypeId × Value → H} {a : Assume} {C : Checked} {os : Os} {f : FuncId} {fn : Func} {s : ChangeSpec} {conds : List PathCond} {apart fresh handsOn again : Bool} {X : World → Array Value → Prop}
    (hX : ∀ (w w' : World) (args : Array Value), w.heap = w'.heap → X w args → X w' args)
    (own : ownKnob C.prog.godebug = none) (started : os.Started) (noInit : C.prog.inits.idxOf? f = none) (hfn : C.prog.funcs[f]? = some fn)
    (witness : ∃ (w : World) (tape : Tape) (i : Input), w.os = os ∧ (w.forCall tape i).Shaped C.prog ∧ i.vars = [] ∧ Input.okWide C.prog (w.forCall tape i) .any w.heap.size f i ∧
      ((s.pre enc C.prog fn conds apart (w.forCall tape i).memory i.args ∧ X (w.forCall tape i).memory i.args) ∧ sizedMet enc C.prog fn (OpenSpec.ofChange s) apart (w.forCall tape i).memory i.args) ∧ a.holds C.prog (lone (Frame.enter C.prog f i.args .normal) [] (w.forCall tape i)))
    (contract : ∀ (W : World) (base : Nat) (args : Array Value) (ds gs : List (DataW H)) (before : List MemPlace),
      (∀ (j : Nat) t v, fn.params[j]? = some t → args[j]? = some v → Value.okWide C.prog W .any base t v) →
      DataW.Whole enc C.prog fn.params.toList s.vars apart W args.toList ds gs before → X W args → W.ShapedOpen C.prog →
      Calls C.prog f args W fun e W' => ∃ v, e = .returned v ∧ s.post enc C.prog fn apart fresh handsOn again W args v W') :
    ReturnsInHanded a C os f .any (fun w args => (s.pre enc C.prog fn conds apart w args ∧ X w args) ∧ sizedMet enc C.prog fn (OpenSpec.ofChange s) apart w args) (s.post enc C.prog fn apart fresh handsOn again) := by
  refine returnsInHanded_of_calls own started noInit witness ?_
  intro w tape i _ hsh _ hok hpre hholds
  obtain ⟨_, _, _, fn', hfn', _, _, _, _, hval⟩ := hok
  have e : fn' = fn := Option.some.inj (hfn'.symm.trans hfn)
  subst e
  obtain ⟨⟨⟨ds, gs, before, hw, hc⟩, hx⟩, hz⟩ := hpre
  have hw' := DataW.Whole.of_heap (w' := w.forCall tape i) (by rfl) hw
  refine (contract (w.forCall tape i) w.heap.size i.args ds gs before hval hw' (hX _ _ _ (by rfl) hx) hsh).mono fun e W' ⟨v, he, hp⟩ => ?_
  subst he
  exact ChangeSpec.post_blind hp
def types : List TypeId := docTypes ++ [30, 27, 28, 25, 121, 26, 32]
theorem types_ok : dataSet Tryz.prog types = true := by kernel_rfl
theorem c_IntS : Tryz.prog.cellsOf 25 = 1 := by kernel_rfl
theorem c_Put : Tryz.prog.cellsOf 121 = 2 := by kernel_rfl
theorem c_PutS : Tryz.prog.cellsOf 26 = 1 := by kernel_rfl
theorem c_Run : Tryz.prog.cellsOf 32 = 9 := by kernel_rfl
theorem len2 {l : List Pd} (h : l.length = 2) : ∃ a b, l = [a, b] := by
  match l, h with
  | [a, b], _ => exact ⟨a, b, rfl⟩
theorem len9 {l : List Pd} (h : l.length = 9) : ∃ a b c d e f g h i, l = [a, b, c, d, e, f, g, h, i] := by
  match l, h with
  | [a, b, c, d, e, f, g, h, i], _ => exact ⟨a, b, c, d, e, f, g, h, i, rfl⟩
theorem dec_Put {xs : List Pd} (h : WT Tryz.prog 121 xs) : ∃ p : GPut, xs = p.enc ∧ True := by
  obtain ⟨hl, hf⟩ := h.struct_inv Tryz.underlying121
  rw [c_Put] at hl
  obtain ⟨a, b, rfl⟩ := len2 hl
  simp only [List.mem_cons, List.not_mem_nil, or_false, forall_eq_or_imp, forall_eq, c_int] at hf
  obtain ⟨h1, h2⟩ := hf
  obtain ⟨k, e1, _⟩ := h1.int_inv Tryz.underlying3
  obtain ⟨v, e2, _⟩ := h2.int_inv Tryz.underlying3
  simp at e1 e2
  subst e1 e2
  exact ⟨⟨k, v⟩, rfl, trivial⟩
/-- A run as data. -/
theorem dec_Run {xs : List Pd} (h : WT Tryz.prog 32 xs) : ∃ (need : Int) (rs : List (List Pd)) (ps : List GPut) (k n : Int) (t : ByteArray) (ks : List ByteArray) (is : List GOut) (es : List ByteArray),
    xs = [.int .i64 need, .sl 1 rs, .sl 2 (ps.map GPut.enc), .int .i64 k, .int .i64 n, .str t, .sl 1 (ks.map encS), .sl 5 (GOut.encs is), .sl 1 (es.map encS)] ∧ rs.length ≤ 9223372036854775807 ∧ wfEs T0 ckInt rs ∧ ps.length ≤ 9223372036854775807 ∧ okOut (.mk k n t ks is) ∧ okL okS es := by
  obtain ⟨hl, hf⟩ := h.struct_inv Tryz.underlying32
  rw [c_Run] at hl
  obtain ⟨a, b, c, d, e, f, g, hh, i, rfl⟩ := len9 hl
  simp only [List.mem_cons, List.not_mem_nil, or_false, forall_eq_or_imp, forall_eq, c_int, c_IntS, c_PutS, c_Out, c_StrS] at hf
  obtain ⟨h1, h2, h3, h4, h5⟩ := hf
  obtain ⟨need, e1, _⟩ := h1.int_inv Tryz.underlying3
  obtain ⟨rs, e2, l2, _, x2⟩ := h2.sl_inv Tryz.underlying25
  obtain ⟨qs, e3, l3, _, x3⟩ := h3.sl_inv Tryz.underlying26
  obtain ⟨o, e4, ho⟩ := dec_Out _ _ (Nat.le_refl _) h4
  obtain ⟨zs, e5, l5, _, x5⟩ := h5.sl_inv Tryz.underlying27
  obtain ⟨k, n, t, ks, is⟩ := o
  unfold GOut.enc at e4
  rw [c_int] at e2
  rw [c_Put] at e3
  rw [c_string] at e5
  simp at e1 e2 e3 e4 e5
  obtain ⟨e4a, e4b, e4c, e4d, e4e⟩ := e4
  subst e1 e2 e3 e4a e4b e4c e4d e4e e5
  obtain ⟨ps, q3, _⟩ := list_dec (f := GPut.enc) (ok := fun _ => True) (fun x hx => dec_Put (x3 x hx))
  obtain ⟨es, q5, o5⟩ := list_dec (f := encS) (ok := okS) (fun x hx => dec_Str (x5 x hx))
  subst q3 q5
  refine ⟨need, rs, ps, k, n, t, ks, is, es, rfl, l2, wfEs_of fun y hy => ?_, by simpa using l3, ho, by simpa using l5, o5⟩
  obtain ⟨m, rfl, _⟩ := (x2 y hy).int_inv Tryz.underlying3
  exact wfC_mk (wfP_int _) wfC_mk0
theorem walk (W : World) (hK : Kept W) (v0 v1 : Value) (xs0 xs1 : List Pd) (hw0 : WT Tryz.prog 24 xs0) (hv0 : VP (SW W) W (argP Tryz.prog 24 xs0) v0) (hw1 : WT Tryz.prog 32 xs1) (hv1 : VP (SW W) W (argP Tryz.prog 32 xs1) v1) :
    Calls Tryz.prog 4 #[v0, v1] W fun e w' => e = .returned (.bool true) ∧ Below W.heap.size W w' := by
  obtain ⟨l0, rfl, hl0⟩ := dec_Doc hw0
  obtain ⟨need, rs, ps, k, n, t, ks, is, es, rfl, q1, q2, q3, q4, q5⟩ := dec_Run hw1
  have e0 : argP Tryz.prog 24 [.sl 4 (l0.map GDef.enc)] = .agg 1 [.sl 4 (l0.map GDef.enc)] := by kernel_rfl
  rw [e0] at hv0
  have e1 : argP Tryz.prog 32 [.int .i64 need, .sl 1 rs, .sl 2 (ps.map GPut.enc), .int .i64 k, .int .i64 n, .str t, .sl 1 (ks.map encS), .sl 5 (GOut.encs is), .sl 1 (es.map encS)] = .agg 9 [.int .i64 need, .sl 1 rs, .sl 2 (ps.map GPut.enc), .int .i64 k, .int .i64 n, .str t, .sl 1 (ks.map encS), .sl 5 (GOut.encs is), .sl 1 (es.map encS)] := by kernel_rfl
  rw [e1] at hv1
  refine ev_trueK (E := E0) (fun C => @dr2_ok C _ mixed) libs (args := [.agg 1 [.sl 4 (l0.map GDef.enc)], .agg 9 [.int .i64 need, .sl 1 rs, .sl 2 (ps.map GPut.enc), .int .i64 k, .int .i64 n, .str t, .sl 1 (ks.map encS), .sl 5 (GOut.encs is), .sl 1 (es.map encS)]]) (law_AnswerOf hl0 q1 q2 q3 q4 q5) hK hK.lt (by simp) (fun j hj => ?_)
  have hj : j < 2 := hj
  match j, hj with
  | 0, _ => exact hv0
  | 1, _ => exact hv1
set_option maxRecDepth 100000 in
theorem lifted (os : Os) (started : os.Started) (H : Type) (enc : TypeId × Value → H) :
    ReturnsInHanded {} Tryz.checked os 4 .any (fun w args => (Rows.fnExactAnswerOfSpec.pre enc Tryz.prog Tryz.f4 Rows.fnExactAnswerOfRow.domain false w args ∧ laidMetH Tryz.prog laidL w) ∧ sizedMet enc Tryz.prog Tryz.f4 (OpenSpec.ofChange Rows.fnExactAnswerOfSpec) false w args) (Rows.fnExactAnswerOfSpec.post enc Tryz.prog Tryz.f4 false true false false) := by
  refine returns_shaped (C := Tryz.checked) (X := fun w _ => laidMetH Tryz.prog laidL w) (fun _ _ _ hh h => laidMet.of_heap hh h) own started (by kernel_rfl) Tryz.func4
    (ChangeSpec.witness_shaped (enc := enc) (C := Tryz.checked) (os := os) (X := fun w _ => laidMetH Tryz.prog laidL w) false (World.laidAll Tryz.prog os laidL) #[.agg #[.slice none 0 0], .agg #[.int .i64 0, .slice none 0 0, .slice none 0 0, .int .i64 0, .int .i64 0, .string ⟨#[]⟩, .slice none 0 0, .slice none 0 0, .slice none 0 0]] 8 (World.laidAll_os _ _ _)
      (World.shaped_of_ZipB (by kernel_rfl) (by kernel_rfl)) (by kernel_rfl) (by kernel_rfl) (by kernel_rfl)
      (by rw [MakeChecks.laidMetH_plain _ _ _ (by kernel_rfl)]; exact laidMet_laidAll _ (by kernel_rfl) (by kernel_rfl))) ?_
  intro W base args ds gs before hval0 hW hL hsh
  have hval : ∀ (j : Nat) t v, Tryz.f4.params[j]? = some t → args[j]? = some v → Value.okWide Tryz.prog W .any base t v := hval0
  have hW' := hW
  obtain ⟨p, q, hA0, hV, rfl, hfz, hnd⟩ := hW
  have hA : DataW.TrodAll enc Tryz.prog W 0 (fun _ => true) true Tryz.f4.params.toList args.toList ds p := hA0
  rw [Tryz.params4] at hA hval
  obtain ⟨v0, vs0, d0, ds0, p0, q0, hargs, rfl, rfl, h0, r0⟩ := trodAll_cons hA
  obtain ⟨v1, vs1, d1, ds1, p1, q1, rfl, rfl, rfl, h1, r1⟩ := trodAll_cons r0
  obtain ⟨rfl, rfl, rfl⟩ := trodAll_nil r1
  obtain rfl : args = #[v0, v1] := by cases args; simp_all
  obtain ⟨rfl, rfl⟩ := trodVars_none hV
  have k0 := h0
  have lt0 : ∀ x ∈ p0, x.block < W.heap.size := by obtain ⟨m, hm⟩ := k0; exact DataW.trod_lt m _ _ _ hm
  have k1 := h1
  have lt1 : ∀ x ∈ p1, x.block < W.heap.size := by obtain ⟨m, hm⟩ := k1; exact DataW.trod_lt m _ _ _ hm
  obtain ⟨xs0, w0, _, y0⟩ := arg_vd types_ok (t := 24) (by decide) (hval 0 24 v0 rfl rfl) h0
  obtain ⟨xs1, w1, _, y1⟩ := arg_vd types_ok (t := 32) (by decide) (hval 1 32 v1 rfl rfl) h1
  clear hA0 hval0
  refine (walk W (kept_of_laid hL hsh) v0 v1 xs0 xs1 w0 y0 w1 y1).mono fun e W' ⟨he, bel⟩ => ?_
  subst he
  exact ⟨_, rfl, _, _, _, [], _, [], hW', trodAll_mk1 (shut_bool Tryz.underlying4 _), (trodAll_cons_mk (Below.trod laidOut (by kernel_rfl) (of_decide_eq_true (by kernel_rfl)) k0 bel lt0) (trodAll_cons_mk (Below.trod laidOut (by kernel_rfl) (of_decide_eq_true (by kernel_rfl)) k1 bel lt1) trodAll_mk0)), rfl, bel.frame _, fun h => by cases h⟩
theorem over : Rows.fnExactAnswerOfRow.holds Tryz.pinned (OpenSpec.ofChange Rows.fnExactAnswerOfSpec) :=
  OpenClaim.holds_of_wide 4 Tryz.f4 rfl rfl rfl rfl rfl rfl rfl ⟨rfl, rfl, rfl, rfl, rfl⟩ rfl rfl rfl rfl rfl (by kernel_rfl) Tryz.func4 (by kernel_rfl)
    (of_decide_eq_true (by kernel_rfl)) (by unfold Func.isWrapper; first | (rw [if_pos (by decide +kernel)]; kernel_rfl) | (rw [if_neg (by decide +kernel)]; exact ⟨rfl, rfl⟩))
    (fun os started H enc _ => lifted os started H enc)
/-- THE TIED CARD. -/
theorem card : Rows.FnExactAnswerOfCardSaid :=
  Claim7.holds_tied_plain_at .later [] [.data, .data, .data, .data, .sentinel, .sentinel, .pinned] true Rows.fnExactAnswerOfCard.stood.harness Rows.fnExactAnswerOfCard.stood.looks
    over (fun _ h => by cases h) (by kernel_rfl) (fun _ h => by cases h) fnExactAnswerOf_row_tie rfl ⟨rfl, rfl⟩ (by kernel_rfl) rfl
    (fun f fn hf hfn => by
      obtain rfl : f = 4 := (Option.some.inj ((show Tryz.prog.funcNamed "loop.example/g00540/laws.FnExactAnswerOf" = some 4 by kernel_rfl).symm.trans hf)).symm
      obtain rfl : fn = Tryz.f4 := (Option.some.inj (Tryz.func4.symm.trans hfn)).symm
      refine ⟨by kernel_rfl, fun j t ht => ?_⟩
      rw [Tryz.params4] at ht
      match j, ht with
      | 0, ht => exact (Option.some.inj (show some 24 = some t from ht)) ▸ (show Tryz.prog.wantsStandIn 24 = false by kernel_rfl)
      | 1, ht => exact (Option.some.inj (show some 32 = some t from ht)) ▸ (show Tryz.prog.wantsStandIn 32 = false by kernel_rfl)
      | j + 2, ht => simp at ht)
    (by kernel_rfl)
end Go.Proofs.YtbadompnhhhfpaaGreatDoor.RAnswerOf
namespace Go.Proofs.YtbadompnhhhfpaaGreatDoor
/-- The row, under a short name, for the claim. -/
theorem answerOf_holds : Rows.FnExactAnswerOfCardSaid := RAnswerOf.card
end Go.Proofs.YtbadompnhhhfpaaGreatDoor
