/- For any two documents the law FnExactSameDoc returns true. -/
import Derived.Test.YtlmmimhjfajhdaaT15
namespace Go.Proofs.Ytlmmimhjfajhdaa.Dm
set_option linter.unusedVariables false
set_option linter.unusedSimpArgs false

/-! ### alike, element by element -/
def sameL {α : Type} (e : α → α → Bool) : List α → List α → Bool
  | [], [] => true
  | x :: xs, y :: ys => e x y && sameL e xs ys
  | _, _ => false
theorem sameL_len {α : Type} {e : α → α → Bool} : ∀ {xs ys : List α}, sameL e xs ys = true → xs.length = ys.length
  | [], [], _ => rfl
  | [], _ :: _, h => by cases h
  | _ :: _, [], h => by cases h
  | x :: xs, y :: ys, h => by
    unfold sameL at h
    rw [Bool.and_eq_true] at h
    rw [List.length_cons, List.length_cons, sameL_len h.2]
theorem sameL_iff {α : Type} {e : α → α → Bool} : ∀ {xs ys : List α}, (∀ x ∈ xs, ∀ y, e x y = true ↔ x = y) → (sameL e xs ys = true ↔ xs = ys)
  | [], [], _ => by simp [sameL]
  | [], _ :: _, _ => by simp [sameL]
  | _ :: _, [], _ => by simp [sameL]
  | x :: xs, y :: ys, h => by
    unfold sameL
    rw [Bool.and_eq_true, h x (List.mem_cons_self ..) y, sameL_iff (fun z hz => h z (List.mem_cons_of_mem _ hz)), List.cons.injEq]
theorem sameLoop {α : Type} {e : α → α → Bool} {L : Int → Option Res} {xs ys : List α} (hl : xs.length = ys.length) (step : ∀ (i : Nat) (x y : α), xs[i]? = some x → ys[i]? = some y → L i = bif e x y then L ((i : Int) + 1) else rB false) (done : L xs.length = rB true) :
    ∀ (k i : Nat), i + k = xs.length → L i = rB (sameL e (xs.drop i) (ys.drop i))
  | 0, i, h => by
    have : i = xs.length := by omega
    subst this
    rw [done, List.drop_length, hl, List.drop_length]
    rfl
  | k + 1, i, h => by
    have hlt : i < xs.length := by omega
    have hlt' : i < ys.length := by omega
    have ih := sameLoop hl step done k (i + 1) (by omega)
    have e2 : ((i + 1 : Nat) : Int) = (i : Int) + 1 := by omega
    rw [e2] at ih
    rw [step i xs[i] ys[i] (List.getElem?_eq_getElem hlt) (List.getElem?_eq_getElem hlt'), List.drop_eq_getElem_cons hlt, List.drop_eq_getElem_cons hlt', sameL, ih]
    cases e xs[i] ys[i] <;> rfl
theorem len_bne (a b : Nat) : ((a : Int) != (b : Int)) = !decide (a = b) := by
  by_cases h : a = b
  · simp [h]
  · have : ¬ (a : Int) = (b : Int) := by omega
    simp [h, this]
def sameVal (v w : GVal) : Bool := decide (v.kind = w.kind) && (decide (v.n = w.n) && decide (v.t = w.t))
theorem sameVal_iff (v w : GVal) : sameVal v w = true ↔ v = w := by
  unfold sameVal
  cases v; cases w
  simp
def sameArg (a b : GArg) : Bool := decide (a.name = b.name) && sameVal a.val b.val
theorem sameArg_iff (v w : GArg) : sameArg v w = true ↔ v = w := by
  unfold sameArg
  rw [Bool.and_eq_true, sameVal_iff]
  cases v; cases w
  simp
def sameDir (a b : GDir) : Bool := (a.skip == b.skip) && sameVal a.val b.val
theorem sameDir_iff (v w : GDir) : sameDir v w = true ↔ v = w := by
  unfold sameDir
  rw [Bool.and_eq_true, sameVal_iff]
  cases v; cases w
  simp
theorem argK1 (a : GArg) : asInt .i64 ((a.enc.drop 1).getD 0 .undef) = some a.val.kind := rfl
theorem argK2 (a : GArg) : asInt .i64 (((a.enc.drop 1).drop 1).getD 0 .undef) = some a.val.n := rfl
theorem argK3 (a : GArg) : asStr (((a.enc.drop 1).drop 2).getD 0 .undef) = some a.val.t := rfl
theorem argK0 (a : GArg) : asStr (a.enc.getD 0 .undef) = some a.name := rfl
theorem dirK1 (a : GDir) : asInt .i64 ((a.enc.drop 1).getD 0 .undef) = some a.val.kind := rfl
theorem dirK2 (a : GDir) : asInt .i64 (((a.enc.drop 1).drop 1).getD 0 .undef) = some a.val.n := rfl
theorem dirK3 (a : GDir) : asStr (((a.enc.drop 1).drop 2).getD 0 .undef) = some a.val.t := rfl
theorem equal_args {xs ys : List GArg} (hx : xs.length ≤ 9223372036854775807) : ev E0 F_slices_Equal_impl_Arg_impl_Arg [.p (.sl 4 (xs.map GArg.enc)), .p (.sl 4 (ys.map GArg.enc))] [] = rB (sameL sameArg xs ys) := by
  have hl : (xs.map GArg.enc).length = xs.length := by simp
  have hl' : (ys.map GArg.enc).length = ys.length := by simp
  rw [slices_Equal_impl_Arg_impl_Arg_0_ev, slices_Equal_impl_Arg_impl_Arg_0_eq, hl, hl', len_bne]
  by_cases h : xs.length = ys.length
  · rw [decide_eq_true h, Bool.not_true, cond_false]
    have := sameLoop (e := sameArg) (L := fun i => slices_Equal_impl_Arg_impl_Arg_1 (xs.map GArg.enc) (ys.map GArg.enc) xs.length i) h (fun i x y e1 e2 => by
      have hlt := lt_of_get e1
      have e3 : IntKind.i64.wrap ((i : Int) + 1) = (i : Int) + 1 := by rw [wrap_id (by omega)]
      rw [slices_Equal_impl_Arg_impl_Arg_1_eq, hl, hl', decide_eq_true (by omega), cond_true, if_pos (by omega), if_pos (by omega), getD_enc e1, getD_enc e2, argK0, argK0, argK1, argK1, argK2, argK2, argK3, argK3]
      simp only [Option.bind_some, slices_Equal_impl_Arg_impl_Arg_2_eq, beq_int, e3]
      unfold sameArg sameVal
      cases decide (x.name = y.name) <;> cases decide (x.val.kind = y.val.kind) <;> cases decide (x.val.n = y.val.n) <;> cases decide (x.val.t = y.val.t) <;> simp only [Bool.true_and, Bool.false_and, Bool.and_self, Bool.and_false, Bool.and_true, cond_true, cond_false, Bool.not_true, Bool.not_false]) (by
      rw [slices_Equal_impl_Arg_impl_Arg_1_eq, decide_eq_false (by omega), cond_false]) xs.length 0 (by omega)
    have e0 : ((0 : Nat) : Int) = 0 := rfl
    rw [e0, List.drop_zero, List.drop_zero] at this
    exact this
  · rw [decide_eq_false h, Bool.not_false, cond_true]
    cases hs : sameL sameArg xs ys with
    | false => rfl
    | true => exact absurd (sameL_len hs) h
theorem equal_dirs {xs ys : List GDir} (hx : xs.length ≤ 9223372036854775807) : ev E0 F_slices_Equal_impl_Dir_impl_Dir [.p (.sl 4 (xs.map GDir.enc)), .p (.sl 4 (ys.map GDir.enc))] [] = rB (sameL sameDir xs ys) := by
  have hl : (xs.map GDir.enc).length = xs.length := by simp
  have hl' : (ys.map GDir.enc).length = ys.length := by simp
  rw [slices_Equal_impl_Dir_impl_Dir_0_ev, slices_Equal_impl_Dir_impl_Dir_0_eq, hl, hl', len_bne]
  by_cases h : xs.length = ys.length
  · rw [decide_eq_true h, Bool.not_true, cond_false]
    have := sameLoop (e := sameDir) (L := fun i => slices_Equal_impl_Dir_impl_Dir_1 (xs.map GDir.enc) (ys.map GDir.enc) xs.length i) h (fun i x y e1 e2 => by
      have hlt := lt_of_get e1
      have e3 : IntKind.i64.wrap ((i : Int) + 1) = (i : Int) + 1 := by rw [wrap_id (by omega)]
      rw [slices_Equal_impl_Dir_impl_Dir_1_eq, hl, hl', decide_eq_true (by omega), cond_true, if_pos (by omega), if_pos (by omega), getD_enc e1, getD_enc e2, dskip, dskip, dirK1, dirK1, dirK2, dirK2, dirK3, dirK3]
      simp only [Option.bind_some, slices_Equal_impl_Dir_impl_Dir_2_eq, beq_int, e3]
      unfold sameDir sameVal
      cases (x.skip == y.skip) <;> cases decide (x.val.kind = y.val.kind) <;> cases decide (x.val.n = y.val.n) <;> cases decide (x.val.t = y.val.t) <;> simp only [Bool.true_and, Bool.false_and, Bool.and_self, Bool.and_false, Bool.and_true, cond_true, cond_false, Bool.not_true, Bool.not_false]) (by
      rw [slices_Equal_impl_Dir_impl_Dir_1_eq, decide_eq_false (by omega), cond_false]) xs.length 0 (by omega)
    have e0 : ((0 : Nat) : Int) = 0 := rfl
    rw [e0, List.drop_zero, List.drop_zero] at this
    exact this
  · rw [decide_eq_false h, Bool.not_false, cond_true]
    cases hs : sameL sameDir xs ys with
    | false => rfl
    | true => exact absurd (sameL_len hs) h
/-! ### alike selections: of right ones, so deep -/
def sameS : Nat → GSel → GSel → Bool
  | d, .mk k a n ar ds ss, .mk k' a' n' ar' ds' ss' => decide (k = k') && (decide (a = a') && (decide (n = n') && (sameL sameArg ar ar' && (sameL sameDir ds ds' && (match d with
    | 0 => sameL (fun _ _ => true) ss ss'
    | d + 1 => sameL (sameS d) ss ss')))))
theorem sameS_iff : ∀ (d : Nat) (x y : GSel), fine d x.subs = true → (sameS d x y = true ↔ x = y)
  | d, .mk k a n ar ds ss, .mk k' a' n' ar' ds' ss', hf => by
    have h1 : sameL sameArg ar ar' = true ↔ ar = ar' := sameL_iff fun x _ y => sameArg_iff x y
    have h2 : sameL sameDir ds ds' = true ↔ ds = ds' := sameL_iff fun x _ y => sameDir_iff x y
    cases d with
    | zero =>
      have hs : ss = [] := by simpa [fine, GSel.subs] using hf
      subst hs
      have h3 : sameL (fun _ _ : GSel => true) [] ss' = true ↔ [] = ss' := sameL_iff fun x hx => by cases hx
      unfold sameS
      simp only [Bool.and_eq_true, decide_eq_true_eq, h1, h2, h3, GSel.mk.injEq]
    | succ d =>
      simp only [fine, GSel.subs, List.all_eq_true, Bool.and_eq_true] at hf
      have h3 : sameL (sameS d) ss ss' = true ↔ ss = ss' := sameL_iff fun x hx y => sameS_iff d x y (hf x hx).2
      unfold sameS
      simp only [Bool.and_eq_true, decide_eq_true_eq, h1, h2, h3, GSel.mk.injEq]
theorem sameSels_ev : ∀ (d : Nat) (xs ys : List GSel), fine d xs = true → okL okSel xs → ∃ e : GSel → GSel → Bool, (∀ x ∈ xs, ∀ y, e x y = true ↔ x = y) ∧ ev E0 F_impl_sameSels [.p (.sl 6 (xs.map GSel.enc)), .p (.sl 6 (ys.map GSel.enc))] [] = rB (sameL e xs ys)
  | d, xs, ys, hf, hok => by
    have hxl := hok.1
    have hl : (xs.map GSel.enc).length = xs.length := by simp
    have hl' : (ys.map GSel.enc).length = ys.length := by simp
    open Classical in
    refine ⟨fun x y => decide (x = y), fun x _ y => by simp, ?_⟩
    rw [impl_sameSels_0_ev, impl_sameSels_0_eq, slices_EqualFunc_impl_Sel_impl_Sel_impl_Sel_impl_Sel_0_ev, slices_EqualFunc_impl_Sel_impl_Sel_impl_Sel_impl_Sel_0_eq, hl, hl', len_bne]
    by_cases h : xs.length = ys.length
    · rw [decide_eq_true h, Bool.not_true, cond_false]
      have := sameLoop (e := fun x y : GSel => decide (x = y)) (L := fun i => slices_EqualFunc_impl_Sel_impl_Sel_impl_Sel_impl_Sel_1 (ys.map GSel.enc) (xs.map GSel.enc) xs.length i) h (fun i x y e1 e2 => by
        have hlt := lt_of_get e1
        have e3 : IntKind.i64.wrap ((i : Int) + 1) = (i : Int) + 1 := by rw [wrap_id (by omega)]
        rw [slices_EqualFunc_impl_Sel_impl_Sel_impl_Sel_impl_Sel_1_eq, hl, hl', decide_eq_true (by omega), cond_true, if_pos (by omega), if_pos (by omega), getD_enc e1, getD_enc e2]
        have hxm : x ∈ xs := List.mem_of_getElem? e1
        have hokx := hok.2 x hxm
        have hone : ev E0 F_impl_sameSels_1 [.p (.agg 6 x.enc), .p (.agg 6 y.enc)] [] = rB (decide (x = y)) := by
          cases d with
          | zero =>
            simp only [fine, List.isEmpty_iff] at hf
            rw [hf] at hxm
            cases hxm
          | succ d =>
            simp only [fine, List.all_eq_true, Bool.and_eq_true] at hf
            have h1 := (hf x hxm).2
            cases x with
            | mk k a n ar ds ss =>
              cases y with
              | mk k' a' n' ar' ds' ss' =>
                obtain ⟨e, q1, q2⟩ := sameSels_ev d ss ss' h1 (subs_ok hokx)
                obtain ⟨_, _, o3, o4, _, _⟩ := hokx
                have s1 : sameL sameArg ar ar' = true ↔ ar = ar' := sameL_iff fun x _ y => sameArg_iff x y
                have s2 : sameL sameDir ds ds' = true ↔ ds = ds' := sameL_iff fun x _ y => sameDir_iff x y
                have s3 : sameL e ss ss' = true ↔ ss = ss' := sameL_iff q1
                unfold GSel.enc
                rw [GSel.encs_eq, GSel.encs_eq, impl_sameSels_1_0_ev, impl_sameSels_1_0_eq, equal_args o3.1, bB, equal_dirs o4.1, bB, q2, bB, beq_int]
                have fin : (decide (k = k') && (decide (a = a') && (decide (n = n') && (sameL sameArg ar ar' && (sameL sameDir ds ds' && sameL e ss ss'))))) = decide (GSel.mk k a n ar ds ss = GSel.mk k' a' n' ar' ds' ss') := by
                  rw [Bool.eq_iff_iff]
                  simp only [Bool.and_eq_true, decide_eq_true_eq, s1, s2, s3, GSel.mk.injEq]
                rw [← fin]
                cases decide (k = k') <;> cases decide (a = a') <;> cases decide (n = n') <;> cases sameL sameArg ar ar' <;> cases sameL sameDir ds ds' <;> cases sameL e ss ss' <;> rfl
        rw [hone, bB, e3]
        cases decide (x = y) <;> simp only [cond_true, cond_false, Bool.not_true, Bool.not_false]) (by
        rw [slices_EqualFunc_impl_Sel_impl_Sel_impl_Sel_impl_Sel_1_eq, decide_eq_false (by omega), cond_false]) xs.length 0 (by omega)
      have e0 : ((0 : Nat) : Int) = 0 := rfl
      rw [e0, List.drop_zero, List.drop_zero] at this
      rw [this, bB]
    · rw [decide_eq_false h, Bool.not_false, cond_true]
      cases hs : sameL (fun x y : GSel => decide (x = y)) xs ys with
      | false => rfl
      | true => exact absurd (sameL_len hs) h
  termination_by d => d
open Classical in
theorem sameDoc_ev {xs ys : List GDef} (hx : okL okDef xs) (hall : xs.all defB = true) : ev E0 F_impl_sameDoc [.p (.agg 1 [.sl 4 (xs.map GDef.enc)]), .p (.agg 1 [.sl 4 (ys.map GDef.enc)])] [] = rB (decide (xs = ys)) := by
  have hxl := hx.1
  have hl : (xs.map GDef.enc).length = xs.length := by simp
  have hl' : (ys.map GDef.enc).length = ys.length := by simp
  have hiff : sameL (fun x y : GDef => decide (x = y)) xs ys = decide (xs = ys) := by
    rw [Bool.eq_iff_iff, decide_eq_true_eq]
    exact sameL_iff fun x _ y => by simp
  rw [impl_sameDoc_0_ev, impl_sameDoc_0_eq, slices_EqualFunc_impl_Def_impl_Def_impl_Def_impl_Def_0_ev, slices_EqualFunc_impl_Def_impl_Def_impl_Def_impl_Def_0_eq, hl, hl', len_bne, ← hiff]
  by_cases h : xs.length = ys.length
  · rw [decide_eq_true h, Bool.not_true, cond_false]
    have := sameLoop (e := fun x y : GDef => decide (x = y)) (L := fun i => slices_EqualFunc_impl_Def_impl_Def_impl_Def_impl_Def_1 (ys.map GDef.enc) (xs.map GDef.enc) xs.length i) h (fun i x y e1 e2 => by
      have hlt := lt_of_get e1
      have e3 : IntKind.i64.wrap ((i : Int) + 1) = (i : Int) + 1 := by rw [wrap_id (by omega)]
      rw [slices_EqualFunc_impl_Def_impl_Def_impl_Def_impl_Def_1_eq, hl, hl', decide_eq_true (by omega), cond_true, if_pos (by omega), if_pos (by omega), getD_enc e1, getD_enc e2]
      have hxm : x ∈ xs := List.mem_of_getElem? e1
      have hokx := hx.2 x hxm
      have hdb := List.all_eq_true.1 hall x hxm
      unfold defB at hdb
      simp only [Bool.and_eq_true] at hdb
      have hone : ev E0 F_impl_sameDoc_1 [.p (.agg 4 x.enc), .p (.agg 4 y.enc)] [] = rB (decide (x = y)) := by
        obtain ⟨e, q1, q2⟩ := sameSels_ev 7 x.sels y.sels hdb.2 hokx.2.2
        have s3 : sameL e x.sels y.sels = true ↔ x.sels = y.sels := sameL_iff q1
        unfold GDef.enc
        rw [impl_sameDoc_1_0_ev, impl_sameDoc_1_0_eq, q2, bB, beq_int]
        have fin : (decide (x.kind = y.kind) && (decide (x.name = y.name) && (decide (x.on = y.on) && sameL e x.sels y.sels))) = decide (x = y) := by
          rw [Bool.eq_iff_iff]
          simp only [Bool.and_eq_true, decide_eq_true_eq, s3]
          cases x; cases y
          simp
        rw [← fin]
        cases decide (x.kind = y.kind) <;> cases decide (x.name = y.name) <;> cases decide (x.on = y.on) <;> cases sameL e x.sels y.sels <;> rfl
      rw [hone, bB, e3]
      cases decide (x = y) <;> simp only [cond_true, cond_false, Bool.not_true, Bool.not_false]) (by
      rw [slices_EqualFunc_impl_Def_impl_Def_impl_Def_impl_Def_1_eq, decide_eq_false (by omega), cond_false]) xs.length 0 (by omega)
    have e0 : ((0 : Nat) : Int) = 0 := rfl
    rw [e0, List.drop_zero, List.drop_zero] at this
    rw [this, bB]
  · rw [decide_eq_false h, Bool.not_false, cond_true]
    cases hs : sameL (fun x y : GDef => decide (x = y)) xs ys with
    | false => rfl
    | true => exact absurd (sameL_len hs) h
open Classical in
theorem docT_iff {xs ys : List GDef} (hx : docB xs = true) (hy : docB ys = true) : decide (S (docT xs) = S (docT ys)) = decide (xs = ys) := by
  obtain ⟨x1, x2, _⟩ := docB_cases hx
  obtain ⟨y1, y2, _⟩ := docB_cases hy
  rw [Bool.eq_iff_iff, decide_eq_true_eq, decide_eq_true_eq]
  refine ⟨fun h => docT_inj x2 y2 (fun e => by rw [e] at x1; simp at x1) (fun e => by rw [e] at y1; simp at y1) (S_inj h), fun h => by rw [h]⟩
open Classical in
theorem spec_SameDoc_ev {xs ys : List GDef} (hx : okL okDef xs) (hy : okL okDef ys) : ev E0 F_spec_SameDoc [.p (.agg 1 [.sl 4 (xs.map GDef.enc)]), .p (.agg 1 [.sl 4 (ys.map GDef.enc)])] [] = rB (docB xs && (docB ys && decide (xs = ys))) := by
  rw [spec_SameDoc_0_ev, spec_SameDoc_0_eq, spec_DocOK_ev hx, bB, spec_DocOK_ev hy, bB]
  cases h1 : docB xs with
  | false => rfl
  | true =>
    cases h2 : docB ys with
    | false => rfl
    | true =>
      rw [cond_true, cond_true, print_ev hx h1, bS, print_ev hy h2, bS, Bool.true_and, Bool.true_and, ← docT_iff h1 h2]
open Classical in
theorem impl_SameDoc_ev {xs ys : List GDef} (hx : okL okDef xs) (hy : okL okDef ys) : ev E0 F_impl_SameDoc [.p (.agg 1 [.sl 4 (xs.map GDef.enc)]), .p (.agg 1 [.sl 4 (ys.map GDef.enc)])] [] = rB (docB xs && (docB ys && decide (xs = ys))) := by
  rw [impl_SameDoc_0_ev, impl_SameDoc_0_eq, impl_DocOK_ev hx, bB, impl_DocOK_ev hy, bB]
  cases h1 : docB xs with
  | false => rfl
  | true =>
    cases h2 : docB ys with
    | false => rfl
    | true => rw [cond_true, cond_true, sameDoc_ev hx (docB_cases h1).2.1, bB]; rfl
theorem law_SameDoc {xs : List GDef} (hx : okL okDef xs) {ys : List GDef} (hy : okL okDef ys) : ev E0 F_laws_FnExactSameDoc [.p (.agg 1 [.sl 4 (xs.map GDef.enc)]), .p (.agg 1 [.sl 4 (ys.map GDef.enc)])] [] = rB true := by
  rw [laws_FnExactSameDoc_0_ev, laws_FnExactSameDoc_0_eq, szDoc_ev hx (by omega) (by omega), bI]
  by_cases hw : (wL wDef xs : Int) ≤ 1048576
  · rw [szV_pos hw, decide_eq_false (by omega), cond_false, szDoc_ev hy (by omega) (by omega), bI]
    by_cases hw2 : (wL wDef ys : Int) ≤ 1048576 - wL wDef xs
    · rw [szV_pos hw2, decide_eq_false (by omega), cond_false, toDoc_ev (by omega), bA, toDoc_ev (by omega), bA, spec_SameDoc_ev hx hy, bB, bA, bA, impl_SameDoc_ev hx hy, bB, nb_self, cond_false, bA, eqDoc_ev hx, bB, Bool.not_true, cond_false, bA, eqDoc_ev hy, bB]
      rfl
    · rw [szV_neg hw2]
      rfl
  · rw [szV_neg hw]
    rfl
end Go.Proofs.Ytlmmimhjfajhdaa.Dm
