/- FnOut: what answers' functions give of a drawn value. -/
import Derived.Test.YtakbdjdafcjglaaGreatDoorG2
namespace Go.Proofs.YtakbdjdafcjglaaGreatDoor.Dm
set_option linter.unusedVariables false
set_option linter.unusedSimpArgs false

theorem fineO_mono : ∀ (d : Nat) (o : GOut), fineO d o = true → fineO (d + 1) o = true
  | 0, o, h => by cases o; cases h
  | d + 1, .mk k n t ks is, h => by
    simp only [fineO, Bool.and_eq_true] at h ⊢
    refine ⟨h.1, h.2.1, List.all_eq_true.2 fun x hx => ?_⟩
    have := fineO_mono d x (List.all_eq_true.1 h.2.2 x hx)
    simpa only [fineO] using this
theorem fineO_add {d : Nat} {o : GOut} (h : fineO d o = true) : ∀ k, fineO (d + k) o = true
  | 0 => h
  | k + 1 => fineO_mono _ _ (fineO_add h k)
theorem Drawn.outB {o : GOut} (h : Drawn 3 o) : outB o = true := by
  have h1 := fineO_add h.fine 16
  have h2 := h.cnt
  have : dN 3 = 40 := rfl
  unfold Dm.outB
  rw [h1, decide_eq_true (by omega)]
  rfl
/-- what the law looks at -/
def lawO (x : GOut) : GOut := .mk 4 0 ⟨#[]⟩ [⟨#[112]⟩, ⟨#[113]⟩] [x, .mk 1 3 ⟨#[]⟩ [] []]
theorem lawO_ok {x : GOut} (h : Drawn 3 x) : okOut (lawO x) ∧ outB (lawO x) = true := by
  have e0 : ∀ b, okS ⟨#[b]⟩ := fun b => by show (1 : Nat) ≤ 9223372036854775807; omega
  have ee : okS ⟨#[]⟩ := by unfold okS; decide
  refine ⟨⟨ee, ⟨by simp, fun s hs => ?_⟩, by simp, h.ok, ⟨ee, ⟨by simp, fun s hs => by cases hs⟩, by simp, trivial⟩, trivial⟩, ?_⟩
  · rcases List.mem_cons.1 hs with rfl | hs
    · exact e0 _
    · rw [List.mem_singleton.1 hs]; exact e0 _
  · have h1 := fineO_add h.fine 15
    have h2 := h.cnt
    have h3 : dN 3 = 40 := rfl
    have h4 : fineO 19 (.mk 1 3 ⟨#[]⟩ [] []) = true := rfl
    have h5 : keysB [] [⟨#[112]⟩, ⟨#[113]⟩] = true := by decide
    unfold outB lawO
    simp only [fineO, h5, Bool.true_and, Bool.and_eq_true, decide_eq_true_eq]
    refine ⟨⟨rfl, ?_⟩, ?_⟩
    · simp only [List.all_cons, List.all_nil, Bool.and_true, Bool.and_eq_true]
      exact ⟨h1, h4⟩
    · simp only [cntO, cntOs]; omega
theorem w_i1 {i : Nat} (h : i ≤ 1000000000000) : IntKind.i64.wrap ((i : Int) + 1) = (i : Int) + 1 := wrap64 (by omega)
theorem encS_at {ks : List ByteArray} {i : Nat} (h : i < ks.length) : asStr (((ks.map encS).getD (i : Int).toNat []).getD 0 .undef) = some ks[i] := by
  rw [getD_enc (List.getElem?_eq_getElem h)]; rfl
theorem encO_at {is : List GOut} {i : Nat} (h : i < is.length) : (is.map GOut.enc).getD (i : Int).toNat [] = is[i].enc := getD_enc (List.getElem?_eq_getElem h)
theorem bne_len {n : Nat} : (((n : Nat) : Int) != (n : Int)) = false := by simp
/-! ### copies -/
theorem clone_ev {ks : List ByteArray} (h : ks.length ≤ 10000) : ev E0 F_slices_Clone_string_string [.p (.sl 1 (ks.map encS))] [] = rL 1 (ks.map encS) := by
  rw [slices_Clone_string_string_0_ev, slices_Clone_string_string_0_eq]
  have hl : (ks.map encS).length = ks.length := by simp
  have e : (if (([] : List (List Pd)).length + (ks.map encS).length) * 16 ≤ LIM then (some ([.p (.sl 1 (([] : List (List Pd)) ++ ks.map encS))], []) : Option Res) else none) = rL 1 (ks.map encS) := by
    rw [limK (by rw [hl]; simp; omega), List.nil_append]
  rw [e]
  split
  · rfl
  · have : ks = [] := by
      cases ks with
      | nil => rfl
      | cons k ks => rename_i q; exact absurd (by simp) q
    subst this
    exact agree_some.2 ⟨rfl, rfl⟩
theorem keys_len {d : Nat} {k n : Int} {t : ByteArray} {ks : List ByteArray} {is : List GOut} (h : fineO d (.mk k n t ks is) = true) (hc : cntO (.mk k n t ks is) ≤ 4000) : ks.length ≤ 4000 ∧ is.length ≤ 4000 := by
  have hl := cntOs_length is
  have : cntOs is ≤ 4000 := by simp only [cntO] at hc; omega
  refine ⟨?_, by omega⟩
  cases d with
  | zero => cases h
  | succ d =>
    obtain ⟨h1, _⟩ := fineO_parts h
    rcases rightB_kind h1 with rfl | rfl | rfl | rfl | rfl
    · have : ks = [] := by simp [rightB] at h1; first | exact h1.2.2.1 | exact h1.2.2
      rw [this]; simp
    · have : ks = [] := by simp [rightB] at h1; first | exact h1.2.2.1 | exact h1.2.2
      rw [this]; simp
    · have : ks = [] := by simp [rightB] at h1; first | exact h1.2.2.1 | exact h1.2.2
      rw [this]; simp
    · have : ks = [] := by simp [rightB] at h1; first | exact h1.2.2.1 | exact h1.2.2
      rw [this]; simp
    · have := rightB_obj h1; omega
theorem items_fine {d : Nat} {k n : Int} {t : ByteArray} {ks : List ByteArray} {is : List GOut} (h : fineO (d + 1) (.mk k n t ks is) = true) (hc : cntO (.mk k n t ks is) ≤ 4000) : ∀ x ∈ is, fineO d x = true ∧ cntO x ≤ 4000 := by
  intro x hx
  simp only [fineO, Bool.and_eq_true] at h
  have := cntOs_mem hx
  simp only [cntO] at hc
  exact ⟨List.all_eq_true.1 h.2.2 x hx, by omega⟩
theorem copyOut_ev : ∀ (d : Nat) (x : GOut), fineO d x = true → cntO x ≤ 4000 → ev E0 F_impl_copyOut [.p (.agg 5 x.enc)] [] = rA 5 x.enc
  | 0, x, h, _ => by cases x; cases h
  | d + 1, .mk k n t ks is, h, hc => by
    obtain ⟨hk, hi⟩ := keys_len h hc
    have hf := items_fine h hc
    have ih : ∀ x ∈ is, ev E0 F_impl_copyOut [.p (.agg 5 x.enc)] [] = rA 5 x.enc := fun x hx => copyOut_ev d x (hf x hx).1 (hf x hx).2
    have hl : (is.map GOut.enc).length = is.length := by simp
    have loop : ∀ (j i : Nat), i + j = is.length → impl_copyOut_1 (is.map GOut.enc) (is.length : Int) i k n t (ks.map encS) (is.map GOut.enc) 0 0 ⟨#[]⟩ ((is.take i).map GOut.enc) = rA 5 (GOut.enc (.mk k n t ks is)) := by
      intro j
      induction j with
      | zero =>
        intro i hij
        have : i = is.length := by omega
        subst this
        rw [impl_copyOut_1_eq, decide_eq_false (by omega), cond_false, clone_ev (by omega), bL, List.take_length]
        simp only [GOut.enc, GOut.encs_eq]
      | succ j ihj =>
        intro i hij
        have hlt : i < is.length := by omega
        rw [impl_copyOut_1_eq, decide_eq_true (by omega), cond_true, if_pos (by rw [hl]; omega), encO_at hlt, ih _ (List.getElem_mem hlt), bA, limK (by simp; omega), w_i1 (by omega)]
        have := ihj (i + 1) (by omega)
        rw [← List.take_append_getElem hlt, List.map_append] at this
        exact this
    have := loop is.length 0 (by omega)
    have g : GOut.enc (.mk k n t ks is) = [.int .i64 k, .int .i64 n, .str t, .sl 1 (ks.map encS), .sl 5 (is.map GOut.enc)] := by simp only [GOut.enc, GOut.encs_eq]
    rw [g, impl_copyOut_0_ev, impl_copyOut_0_eq, hl]
    rw [g] at this
    exact this
/-! ### what is equal to itself -/
theorem equal_self {ks : List ByteArray} (h : ks.length ≤ 10000) : ev E0 F_slices_Equal_string_string [.p (.sl 1 (ks.map encS)), .p (.sl 1 (ks.map encS))] [] = rB true := by
  have hl : (ks.map encS).length = ks.length := by simp
  rw [slices_Equal_string_string_0_ev, slices_Equal_string_string_0_eq, hl, bne_len, cond_false]
  exact eqLoop (L := fun i => slices_Equal_string_string_1 (ks.map encS) (ks.map encS) ks.length i) (n := ks.length) (fun i hi => by
    show slices_Equal_string_string_1 _ _ _ (i : Int) = slices_Equal_string_string_1 _ _ _ ((i : Int) + 1)
    conv => lhs; rw [slices_Equal_string_string_1_eq]
    rw [decide_eq_true (by omega), cond_true, hl, if_pos (by omega), encS_at hi, Option.bind_some, if_pos (by omega), Option.bind_some, nd_self, cond_false, w_i1 (by omega)]) (by
    show slices_Equal_string_string_1 _ _ _ ((ks.length : Nat) : Int) = _
    rw [slices_Equal_string_string_1_eq, decide_eq_false (by omega), cond_false]) ks.length 0 (by omega)
theorem texts_self {ks : List ByteArray} (h : ks.length ≤ 10000) : ev E0 F_laws_sameTexts [.p (.sl 1 (ks.map encS)), .p (.sl 1 (ks.map encS))] [] = rB true := by
  have hl : (ks.map encS).length = ks.length := by simp
  rw [laws_sameTexts_0_ev, laws_sameTexts_0_eq, hl, bne_len, cond_false]
  exact eqLoop (L := fun i => laws_sameTexts_1 (ks.map encS) (ks.map encS) i) (n := ks.length) (fun i hi => by
    show laws_sameTexts_1 _ _ (i : Int) = laws_sameTexts_1 _ _ ((i : Int) + 1)
    conv => lhs; rw [laws_sameTexts_1_eq]
    rw [hl, decide_eq_true (by omega), cond_true, if_pos (by omega), encS_at hi, Option.bind_some, if_pos (by omega), Option.bind_some, nd_self, cond_false, w_i1 (by omega)]) (by
    show laws_sameTexts_1 _ _ ((ks.length : Nat) : Int) = _
    rw [laws_sameTexts_1_eq, hl, decide_eq_false (by omega), cond_false]) ks.length 0 (by omega)
theorem same_self : ∀ (d : Nat) (x : GOut), fineO d x = true → cntO x ≤ 4000 → ev E0 F_impl_sameOut [.p (.agg 5 x.enc), .p (.agg 5 x.enc)] [] = rB true ∧ ev E0 F_laws_sameOut [.p (.agg 5 x.enc), .p (.agg 5 x.enc)] [] = rB true
  | 0, x, h, _ => by cases x; cases h
  | d + 1, .mk k n t ks is, h, hc => by
    obtain ⟨hk, hi⟩ := keys_len h hc
    have hf := items_fine h hc
    have ih := fun x hx => same_self d x (hf x hx).1 (hf x hx).2
    have hl : (is.map GOut.enc).length = is.length := by simp
    have g : GOut.enc (.mk k n t ks is) = [.int .i64 k, .int .i64 n, .str t, .sl 1 (ks.map encS), .sl 5 (is.map GOut.enc)] := by simp only [GOut.enc, GOut.encs_eq]
    rw [g]
    constructor
    · rw [impl_sameOut_0_ev, impl_sameOut_0_eq, beq_self_eq_true, cond_true, beq_self_eq_true, cond_true, decide_eq_true rfl, cond_true, equal_self (by omega), bB, cond_true,
        slices_EqualFunc_impl_Out_impl_Out_impl_Out_impl_Out_0_ev, slices_EqualFunc_impl_Out_impl_Out_impl_Out_impl_Out_0_eq, hl, bne_len, cond_false]
      have := eqLoop (L := fun i => slices_EqualFunc_impl_Out_impl_Out_impl_Out_impl_Out_1 (is.map GOut.enc) (is.map GOut.enc) is.length i) (n := is.length) (fun i hi' => by
        show slices_EqualFunc_impl_Out_impl_Out_impl_Out_impl_Out_1 _ _ _ (i : Int) = slices_EqualFunc_impl_Out_impl_Out_impl_Out_impl_Out_1 _ _ _ ((i : Int) + 1)
        conv => lhs; rw [slices_EqualFunc_impl_Out_impl_Out_impl_Out_impl_Out_1_eq]
        rw [decide_eq_true (by omega), cond_true, hl, if_pos (by omega), if_pos (by omega), encO_at hi', (ih _ (List.getElem_mem hi')).1, bB, Bool.not_true, cond_false, w_i1 (by omega)]) (by
        show slices_EqualFunc_impl_Out_impl_Out_impl_Out_impl_Out_1 _ _ _ ((is.length : Nat) : Int) = _
        rw [slices_EqualFunc_impl_Out_impl_Out_impl_Out_impl_Out_1_eq, decide_eq_false (by omega), cond_false]) is.length 0 (by omega)
      have this : slices_EqualFunc_impl_Out_impl_Out_impl_Out_impl_Out_1 (is.map GOut.enc) (is.map GOut.enc) is.length 0 = rB true := this
      rw [this, bB]
    · rw [laws_sameOut_0_ev, laws_sameOut_0_eq, bne_self_eq_false, cond_false, bne_self_eq_false, cond_false, nd_self, cond_false, texts_self (by omega), bB, Bool.not_true, cond_false, bne_self_eq_false, laws_sameOut_1_eq, cond_false]
      exact eqLoop (L := fun i => laws_sameOut_2 i k n t (ks.map encS) (is.map GOut.enc) k n t (ks.map encS) (is.map GOut.enc)) (n := is.length) (fun i hi' => by
        show laws_sameOut_2 (i : Int) _ _ _ _ _ _ _ _ _ _ = laws_sameOut_2 ((i : Int) + 1) _ _ _ _ _ _ _ _ _ _
        conv => lhs; rw [laws_sameOut_2_eq]
        rw [hl, decide_eq_true (by omega), cond_true, if_pos (by omega), if_pos (by omega), encO_at hi', (ih _ (List.getElem_mem hi')).2, bB, Bool.not_true, cond_false, w_i1 (by omega)]) (by
        show laws_sameOut_2 ((is.length : Nat) : Int) _ _ _ _ _ _ _ _ _ _ = _
        rw [laws_sameOut_2_eq, hl, decide_eq_false (by omega), cond_false]) is.length 0 (by omega)
theorem GOut.enc_mk (k n : Int) (t : ByteArray) (ks : List ByteArray) (is : List GOut) : GOut.enc (.mk k n t ks is) = [.int .i64 k, .int .i64 n, .str t, .sl 1 (ks.map encS), .sl 5 (is.map GOut.enc)] := by simp only [GOut.enc, GOut.encs_eq]
theorem equal_other {ks : List ByteArray} (h : ∀ s ∈ ks, s ∈ keyN) : ev E0 F_slices_Equal_string_string [.p (.sl 1 (([⟨#[112]⟩, ⟨#[113]⟩] : List ByteArray).map encS)), .p (.sl 1 (ks.map encS))] [] = rB false := by
  have hl : (ks.map encS).length = ks.length := by simp
  have hp : (([⟨#[112]⟩, ⟨#[113]⟩] : List ByteArray).map encS).length = 2 := rfl
  rw [slices_Equal_string_string_0_ev, slices_Equal_string_string_0_eq, hl, hp]
  by_cases h2 : ks.length = 2
  · have h0 : 0 < ks.length := by omega
    have e1 := encS_at (ks := ([⟨#[112]⟩, ⟨#[113]⟩] : List ByteArray)) (i := 0) (by simp)
    have e2 := encS_at (ks := ks) (i := 0) h0
    have hne : (⟨#[112]⟩ : ByteArray) ≠ ks[0] := fun q => by
      have := h _ (List.getElem_mem h0)
      rw [← q] at this
      rcases List.mem_cons.1 this with q | this
      · exact absurd q (by decide)
      · rcases List.mem_cons.1 this with q | this
        · exact absurd q (by decide)
        · exact absurd (List.mem_singleton.1 this) (by decide)
    rw [h2, bne_len, cond_false]
    show slices_Equal_string_string_1 _ _ ((2 : Nat) : Int) ((0 : Nat) : Int) = _
    rw [slices_Equal_string_string_1_eq, decide_eq_true (by omega), cond_true, hp, if_pos (by omega), e1, Option.bind_some, hl, if_pos (by omega), e2, Option.bind_some]
    rw [show decide (([⟨#[112]⟩, ⟨#[113]⟩] : List ByteArray)[0] = ks[0]) = false from decide_eq_false hne]
    rfl
  · have : (((2 : Nat) : Int) != (ks.length : Int)) = true := by rw [bne, beq_int, decide_eq_false (by omega)]; rfl
    rw [this, cond_true]
/-- the law's value is another one than the drawn one -/
theorem same_other {x : GOut} (h : Drawn 3 x) : ev E0 F_impl_sameOut [.p (.agg 5 (lawO x).enc), .p (.agg 5 x.enc)] [] = rB false := by
  obtain ⟨hfine, _, _, hky⟩ := h
  unfold lawO
  rw [GOut.enc_mk]
  cases x with
  | mk k n t ks is =>
    rw [GOut.enc_mk, impl_sameOut_0_ev, impl_sameOut_0_eq]
    by_cases h4 : k = 4
    · subst h4
      obtain ⟨h1, _⟩ := fineO_parts hfine
      have hn : n = 0 ∧ t = ⟨#[]⟩ := by simp [rightB] at h1; exact ⟨h1.1, h1.2.1⟩
      obtain ⟨rfl, rfl⟩ := hn
      rw [beq_self_eq_true, cond_true, beq_self_eq_true, cond_true, decide_eq_true rfl, cond_true, equal_other (hky _ _ _ _ _ rfl), bB, cond_false]
    · rw [show ((4 : Int) == k) = false by rw [beq_int]; exact decide_eq_false (by omega), cond_false]
end Go.Proofs.YtakbdjdafcjglaaGreatDoor.Dm
