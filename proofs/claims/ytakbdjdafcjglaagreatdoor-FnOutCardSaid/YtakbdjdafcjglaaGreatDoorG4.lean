/- FnOut: the law. -/
import Derived.Test.YtakbdjdafcjglaaGreatDoorG3
namespace Go.Proofs.YtakbdjdafcjglaaGreatDoor.Dm
set_option linter.unusedVariables false
set_option linter.unusedSimpArgs false

/-! ### choices -/
theorem at_ev {code : List Int} (hb : ∀ n ∈ code, 0 ≤ n ∧ n < 256) (hl : code.length ≤ 1152921504606846976) {i n : Int} (hi : 0 ≤ i ∧ i ≤ 1000000) (hn : 1 ≤ n ∧ n ≤ 1000000) :
    ∃ v, ev E0 F_laws_at [.p (.sl 1 (code.map encB)), .p (.int .i64 i), .p (.int .i64 n)] [] = rI v ∧ 0 ≤ v ∧ v < n := by
  have hlen : (code.map encB).length = code.length := by simp
  rw [laws_at_0_ev, laws_at_0_eq, hlen]
  by_cases h1 : n ≤ 1
  · rw [decide_eq_true h1, cond_true]
    exact ⟨0, rfl, by omega, by omega⟩
  · rw [decide_eq_false h1, cond_false]
    by_cases h0 : code.length = 0
    · rw [h0, show (((0 : Nat) : Int) == 0) = true from rfl, cond_true, if_neg (by omega), wrap64 (by omega)]
      have := tmod_pos (a := i * 7) (b := n) (by omega) (by omega)
      exact ⟨_, rfl, this⟩
    · rw [show ((code.length : Int) == 0) = false by rw [beq_int]; exact decide_eq_false (by omega), cond_false, if_neg (by omega)]
      have t1 := tmod_pos (a := i) (b := (code.length : Int)) (by omega) (by omega)
      have t2 := tmod_pos (a := i + 1) (b := (code.length : Int)) (by omega) (by omega)
      have gx : ∀ j : Int, 0 ≤ j → j < code.length → ∃ b, asInt .u8 (((code.map encB).getD j.toNat []).getD 0 .undef) = some b ∧ 0 ≤ b ∧ b < 256 := by
        intro j j0 j1
        have hj : j.toNat < code.length := by omega
        refine ⟨code[j.toNat], ?_, hb _ (List.getElem_mem hj)⟩
        simp [List.getD_eq_getElem?_getD, hj, encB, asInt]
      rw [wrap64 (n := i + 1) (by omega), if_pos (by omega)]
      obtain ⟨b1, e1, r1⟩ := gx _ t1.1 t1.2
      obtain ⟨b2, e2, r2⟩ := gx _ t2.1 t2.2
      rw [e1, Option.bind_some, if_neg (by omega), if_pos (by omega), e2, Option.bind_some, if_neg (by omega), if_neg (by omega)]
      have q1 : 0 ≤ i.tdiv (code.length : Int) ∧ i.tdiv (code.length : Int) ≤ i := by
        rw [Int.tdiv_eq_ediv_of_nonneg hi.1]
        exact ⟨Int.ediv_nonneg hi.1 (by omega), Int.ediv_le_self _ hi.1⟩
      generalize i.tdiv (code.length : Int) = q at q1
      rw [wrap64 (n := b1) (by omega), wrap64 (n := b2) (by omega), wrap64 (n := b1 * 31) (by omega), wrap64 (n := b1 * 31 + b2) (by omega), wrap64 (n := q) (by omega), wrap64 (n := b1 * 31 + b2 + q) (by omega)]
      have := tmod_pos (a := b1 * 31 + b2 + q) (b := n) (by omega) (by omega)
      exact ⟨_, rfl, this⟩
/-! ### codes' words -/
def wordsX : List ByteArray := [⟨#[111, 107]⟩, ⟨#[98, 97, 100]⟩, ⟨#[108, 111, 110, 103]⟩, ⟨#[102, 111, 114, 109]⟩, ⟨#[114, 97, 110, 103, 101]⟩, ⟨#[110, 111, 110, 101]⟩, ⟨#[109, 97, 110, 121]⟩, ⟨#[102, 117, 108, 108]⟩, ⟨#[100, 101, 101, 112]⟩, ⟨#[102, 105, 101, 108, 100]⟩, ⟨#[97, 114, 103]⟩, ⟨#[108, 101, 97, 102]⟩, ⟨#[102, 114, 97, 103, 109, 101, 110, 116]⟩, ⟨#[99, 121, 99, 108, 101]⟩, ⟨#[118, 97, 114, 105, 97, 98, 108, 101]⟩, ⟨#[109, 101, 114, 103, 101]⟩, ⟨#[99, 111, 110, 102, 108, 105, 99, 116]⟩, ⟨#[99, 97, 110, 99, 101, 108, 108, 101, 100]⟩, ⟨#[115, 112, 101, 110, 116]⟩, ⟨#[116, 119, 105, 99, 101]⟩]
theorem words_len : wordsX.length = 20 := rfl
theorem words_size : ∀ w ∈ wordsX, w.size ≤ 20 := by
  have : wordsX.all (fun w => decide (w.size ≤ 20)) = true := rfl
  intro w hw
  simpa using List.all_eq_true.1 this w hw
theorem impl_word {c : Nat} (h : c < 20) : ev E0 F_impl_CodeWord [.p (.int .i64 c)] [] = rS (wordsX[c]'h) := by
  have hl : (wordsX.map encS).length = 20 := rfl
  have e : ev E0 F_impl_codeWords [] [] = rL 1 (wordsX.map encS) := impl_codeWords_0_ev.trans impl_codeWords_0_eq
  rw [impl_CodeWord_0_ev, impl_CodeWord_0_eq, within_ev, bB, show withinB (c : Int) 0 19 = true from withinB_iff.2 (by omega), Bool.not_true, cond_false, e, bL, if_pos (by rw [hl]; omega), encS_at h]
  rfl
theorem spec_word {c : Nat} (h : c < 20) : ev E0 F_spec_CodeWord [.p (.int .i64 c)] [] = rS (wordsX[c]'h) := by
  have hl : (wordsX.map encS).length = 20 := rfl
  have e : spec_CodeWord_0 (c : Int) = spec_CodeWord_1 c (decide ((c : Int) ≥ ((wordsX.map encS).length : Int))) (wordsX.map encS) := by
    rw [spec_CodeWord_0_eq, decide_eq_false (by omega), cond_false]
    rfl
  rw [spec_CodeWord_0_ev, e, hl, decide_eq_false (by omega), spec_CodeWord_1_eq, cond_false, hl, if_pos (by omega), if_pos (by omega), encS_at h]
  rfl
theorem errors_ev {n : Int} (h : 1 ≤ n ∧ n ≤ 19) : ∃ t, ev E0 F_impl_ErrorText [.p (.int .i64 n)] [] = rSI t 0 ∧ ev E0 F_spec_ErrorText [.p (.int .i64 n)] [] = rSI t 0 := by
  obtain ⟨c, rfl⟩ : ∃ c : Nat, n = c := ⟨n.toNat, by omega⟩
  have hc : c < 20 := by omega
  have hw := words_size _ (List.getElem_mem (l := wordsX) (n := c) hc)
  have hin : withinB (c : Int) 1 19 = true := withinB_iff.2 (by omega)
  have l1 : (⟨#[123, 34, 101, 114, 114, 111, 114, 34, 58, 34]⟩ : ByteArray).size = 10 := rfl
  have l2 : (⟨#[34, 125]⟩ : ByteArray).size = 2 := rfl
  refine ⟨((⟨#[123, 34, 101, 114, 114, 111, 114, 34, 58, 34]⟩ : ByteArray) ++ wordsX[c]'hc) ++ (⟨#[34, 125]⟩ : ByteArray), ?_, ?_⟩
  · rw [impl_ErrorText_0_ev, impl_ErrorText_0_eq, within_ev, hin, bB, Bool.not_true, cond_false, impl_errorText_0_ev, impl_errorText_0_eq, impl_word hc, bS, if_pos (by unfold LIM; rw [l1]; omega), if_pos (by unfold LIM; rw [ByteArray.size_append, l1, l2]; omega), bS]
  · rw [spec_ErrorText_0_ev, spec_ErrorText_0_eq, l01In_ev, hin, bB, Bool.not_true, cond_false, spec_l08Error_0_ev, spec_l08Error_0_eq, spec_word hc, bS, if_pos (by unfold LIM; rw [l1]; omega), if_pos (by unfold LIM; rw [ByteArray.size_append, l1, l2]; omega), bS]
/-! ### texts, parts, comparisons -/
theorem impl_OutText_ev {o : GOut} (ho : okOut o) (hB : outB o = true) : ev E0 F_impl_OutText [.p (.agg 5 o.enc)] [] = rSI (S (outT o)) 0 := by
  have h1 := impl_OutOK_ev ho
  have h2 := itext_ev 20 o (outB_parts hB).1 ho (outB_parts hB).2
  cases o
  rw [GOut.enc_mk] at h1 h2 ⊢
  rw [impl_OutText_0_ev, impl_OutText_0_eq, h1, hB, bB, Bool.not_true, cond_false, h2, bS]
theorem spec_OutText_ev {o : GOut} (ho : okOut o) (hB : outB o = true) : ev E0 F_spec_OutText [.p (.agg 5 o.enc)] [] = rSI (S (outT o)) 0 := by
  have h1 := spec_OutOK_ev ho
  have h2 := stext_ev 20 o (outB_parts hB).1 ho (outB_parts hB).2
  cases o
  rw [GOut.enc_mk] at h1 h2 ⊢
  rw [spec_OutText_0_ev, spec_OutText_0_eq, h1, hB, bB, Bool.not_true, cond_false, h2, bS]
theorem isText_ev {s : ByteArray} (h : s.size ≤ 65536) : ev E0 F_impl_isText [.p (.sl 1 [[.str s]])] [] = rB true := by
  have e0 : ev E0 F_impl_isText_1 [.p (.str s)] [] = rB false := by
    rw [impl_isText_1_0_ev, impl_isText_1_0_eq, decide_eq_false (by omega)]
  have e1 : ev E0 F_slices_IndexFunc_string_string [.p (.sl 1 [[.str s]]), .p (.fn F_impl_isText_1)] [] = rI (-1) := by
    rw [slices_IndexFunc_string_string_0_ev, slices_IndexFunc_string_string_0_eq]
    show slices_IndexFunc_string_string_3 [[.str s]] 1 0 = _
    rw [slices_IndexFunc_string_string_3_eq, decide_eq_true (by omega), cond_true, if_pos (by simp)]
    show ((asStr (.str s)).bind _) = _
    rw [asS, Option.bind_some, e0, bB, cond_false]
    show slices_IndexFunc_string_string_3 [[.str s]] 1 1 = _
    rw [slices_IndexFunc_string_string_3_eq, decide_eq_false (by omega), cond_false]
  rw [impl_isText_0_ev, impl_isText_0_eq, slices_ContainsFunc_string_string_0_ev, slices_ContainsFunc_string_string_0_eq, e1, bI, bB]
  rfl
theorem index_p : ev E0 F_slices_Index_string_string [.p (.sl 1 (([⟨#[112]⟩, ⟨#[113]⟩] : List ByteArray).map encS)), .p (.str ⟨#[112]⟩)] [] = rI 0 := by
  rw [slices_Index_string_string_0_ev, slices_Index_string_string_0_eq, slices_Index_string_string_1_eq]
  rfl
theorem index_r : ev E0 F_slices_Index_string_string [.p (.sl 1 (([⟨#[112]⟩, ⟨#[113]⟩] : List ByteArray).map encS)), .p (.str ⟨#[114]⟩)] [] = rI (-1) := by
  have s0 : slices_Index_string_string_1 (([⟨#[112]⟩, ⟨#[113]⟩] : List ByteArray).map encS) ⟨#[114]⟩ 2 0 = slices_Index_string_string_1 (([⟨#[112]⟩, ⟨#[113]⟩] : List ByteArray).map encS) ⟨#[114]⟩ 2 1 := by
    conv => lhs; rw [slices_Index_string_string_1_eq]
    kernel_rfl
  have s1 : slices_Index_string_string_1 (([⟨#[112]⟩, ⟨#[113]⟩] : List ByteArray).map encS) ⟨#[114]⟩ 2 1 = slices_Index_string_string_1 (([⟨#[112]⟩, ⟨#[113]⟩] : List ByteArray).map encS) ⟨#[114]⟩ 2 2 := by
    conv => lhs; rw [slices_Index_string_string_1_eq]
    kernel_rfl
  rw [slices_Index_string_string_0_ev, slices_Index_string_string_0_eq]
  refine s0.trans (s1.trans ?_)
  rw [slices_Index_string_string_1_eq]
  rfl
abbrev rOI (v : List Pd) (n : Int) : Option Res := some ([.p (.agg 5 v), .p (.int .i64 n)], [])
theorem bOI {R : Type} (v : List Pd) (n : Int) (K : List Pd → Int → Option R) : ((rOI v n).bind fun r => (asAgg 5 (pAt 0 r.1)).bind fun v => (asInt .i64 (pAt 1 r.1)).bind fun n => if r.1.length = 2 then K v n else none) = K v n := by simp [pAt, asAgg, asInt]
theorem outAt_p {x : GOut} (h : Drawn 3 x) : ev E0 F_impl_OutAt [.p (.agg 5 (lawO x).enc), .p (.str ⟨#[112]⟩)] [] = rOI x.enc 0 := by
  obtain ⟨ho, hB⟩ := lawO_ok h
  have h1 := impl_OutOK_ev ho
  have hc : cntO x ≤ 4000 := by have := h.cnt; have : dN 3 = 40 := rfl; omega
  have h2 := copyOut_ev 4 x h.fine hc
  unfold lawO at h1 hB ⊢
  rw [GOut.enc_mk] at h1 ⊢
  rw [impl_OutAt_0_ev, impl_OutAt_0_eq, isText_ev (by show (1 : Nat) ≤ _; omega), bB, Bool.not_true, cond_false, h1, hB, bB, Bool.not_true, cond_false]
  rw [show ((4 : Int) != 4) = false from rfl, impl_OutAt_1_eq, cond_false, index_p, bI, show decide ((0 : Int) < 0) = false from rfl, cond_false, if_pos (by simp)]
  show ((ev E0 F_impl_copyOut [.p (.agg 5 x.enc)] []).bind _) = _
  rw [h2, bA]
theorem outAt_r {x : GOut} (h : Drawn 3 x) : ∃ v, ev E0 F_impl_OutAt [.p (.agg 5 (lawO x).enc), .p (.str ⟨#[114]⟩)] [] = rOI v 5 := by
  obtain ⟨ho, hB⟩ := lawO_ok h
  have h1 := impl_OutOK_ev ho
  unfold lawO at h1 hB ⊢
  rw [GOut.enc_mk] at h1 ⊢
  rw [impl_OutAt_0_ev, impl_OutAt_0_eq, isText_ev (by show (1 : Nat) ≤ _; omega), bB, Bool.not_true, cond_false, h1, hB, bB, Bool.not_true, cond_false]
  rw [show ((4 : Int) != 4) = false from rfl, impl_OutAt_1_eq, cond_false, index_r, bI, show decide ((-1 : Int) < 0) = true from rfl, cond_true]
  exact ⟨_, rfl⟩
theorem SameOut_ev {a b : GOut} (ha : okOut a) (hb : okOut b) (hA : outB a = true) (hB : outB b = true) {v : Bool} (h : ev E0 F_impl_sameOut [.p (.agg 5 a.enc), .p (.agg 5 b.enc)] [] = rB v) : ev E0 F_impl_SameOut [.p (.agg 5 a.enc), .p (.agg 5 b.enc)] [] = rB v := by
  have h1 := impl_OutOK_ev ha
  have h2 := impl_OutOK_ev hb
  cases a
  cases b
  rw [GOut.enc_mk] at h1 h2 h ⊢
  rw [GOut.enc_mk] at h ⊢
  rw [impl_SameOut_0_ev, impl_SameOut_0_eq, h1, hA, bB, cond_true, h2, hB, bB, cond_true, h, bB]
/-! ### the paths that are handed in -/
def pathL : ByteArray := ⟨#[97, 46, 48, 46, 98]⟩
theorem pathL_ok : pathB pathL = true := by
  have e : cutX 46 (bl pathL) = [[97], [48], [98]] := by decide
  unfold pathB
  rw [e]
  simp only [List.all_cons, List.all_nil, Bool.and_true, Bool.and_eq_true]
  have n1 : nameB (S [97]) = true := by decide
  have n2 : nameB (S [98]) = true := by decide
  refine ⟨?_, ?_, ?_⟩
  · unfold partB; rw [n1]; rfl
  · simp only [partB, Bool.or_eq_true, decide_eq_true_eq]
    have : ∃ n : Int, numAt (S [48]) n ∧ 0 ≤ n := ⟨0, ⟨by rw [bl_S]; unfold digI; rw [if_neg (by omega)]; exact digN_zero.symm, rfl⟩, by omega⟩
    exact .inr this
  · unfold partB; rw [n2]; rfl
theorem data_ev {x : GOut} (h : Drawn 3 x) {ps : List ByteArray} (hps : ps = [] ∨ ps = [pathL]) : ∃ t, ev E0 F_impl_DataText [.p (.agg 5 (lawO x).enc), .p (.sl 1 (ps.map encS))] [] = rSI t 0 ∧ ev E0 F_spec_DataText [.p (.agg 5 (lawO x).enc), .p (.sl 1 (ps.map encS))] [] = rSI t 0 := by
  obtain ⟨ho, hB⟩ := lawO_ok h
  have hlen : ps.length ≤ 1 := by rcases hps with rfl | rfl <;> simp
  have hall : ps.all pathB = true := by
    rcases hps with rfl | rfl
    · rfl
    · simp only [List.all_cons, List.all_nil, pathL_ok, Bool.and_self]
  have hz : ∀ s ∈ ps, s.size ≤ 1000000000 := by
    rcases hps with rfl | rfl
    · intro s hs; cases hs
    · intro s hs; rw [List.mem_singleton.1 hs]; show (5 : Nat) ≤ _; omega
  have hp : okPaths ps := by
    rcases hps with rfl | rfl
    · exact ⟨by simp, by simp⟩
    · exact ⟨by simp, by simp [bl, pathL]⟩
  have e : dataB (lawO x) ps = rSI (S (dataX (outT (lawO x)) (ps.map bl))) 0 := by
    unfold dataB
    rw [decide_eq_true (by omega), cond_true, hB, cond_true, hall, cond_true]
  exact ⟨_, (impl_DataText_ev ho (fun _ => hp) (by omega) hz).trans e, (spec_DataText_ev ho (fun _ => hp) (by omega) hz).trans e⟩
/-! ### the law -/
theorem outT_pos {x : GOut} : 0 < (S (outT (lawO x))).size := by
  rw [S_size]
  unfold lawO
  simp only [outT]
  simp
def byteOK (l : List Int) : Prop := ∀ n ∈ l, 0 ≤ n ∧ n < 256
theorem law_FnOut {code more : List Int} (hc : byteOK code) (hm : byteOK more) (lc : code.length ≤ 9223372036854775807) (lm : more.length ≤ 9223372036854775807) :
    ev E0 F_laws_FnOut [.p (.sl 1 (code.map encB)), .p (.sl 1 (more.map encB))] [] = rB true := by
  have h1 : (code.map encB).length = code.length := by simp
  have h2 : (more.map encB).length = more.length := by simp
  rw [laws_FnOut_0_ev, laws_FnOut_0_eq, h1, h2]
  by_cases q1 : (code.length : Int) > 1048576
  · rw [decide_eq_true q1, cond_true, laws_FnOut_1_eq]; rfl
  rw [decide_eq_false q1, cond_false]
  by_cases q2 : (more.length : Int) > 1048576
  · rw [decide_eq_true q2, laws_FnOut_1_eq]; rfl
  rw [decide_eq_false q2, laws_FnOut_1_eq, cond_false]
  obtain ⟨x, e1, hx⟩ := OutDrawn_ev hc (by omega)
  have fold : (.agg 5 [.int .i64 (4), .int .i64 (0), .str (⟨#[]⟩ : ByteArray), .sl 1 (([[.str (⟨#[112]⟩ : ByteArray)], [.str (⟨#[113]⟩ : ByteArray)]] : List (List Pd))), .sl 5 (([x.enc, [.int .i64 (1), .int .i64 (3), .str (⟨#[]⟩ : ByteArray), .sl 1 (([] : List (List Pd))), .sl 5 (([] : List (List Pd)))]] : List (List Pd)))] : Pd) = .agg 5 (lawO x).enc := by
    unfold lawO
    rw [GOut.enc_mk]
    simp only [List.map_cons, List.map_nil, GOut.enc_mk, encS]
  obtain ⟨ho, hB⟩ := lawO_ok hx
  have hcx : cntO x ≤ 4000 := by have := hx.cnt; have : dN 3 = 40 := rfl; omega
  obtain ⟨v1, a1, a2, a3⟩ := at_ev hm (by omega) (i := 0) (n := 2) (by omega) (by omega)
  obtain ⟨v2, c1, c2, c3⟩ := at_ev hm (by omega) (i := 1) (n := 19) (by omega) (by omega)
  obtain ⟨t, d1, d2⟩ := errors_ev (n := 1 + v2) (by omega)
  obtain ⟨w, o1⟩ := outAt_r hx
  have ps : ∃ ps : List ByteArray, (ps = [] ∨ ps = [pathL]) ∧ asSl 1 (((([[.sl 1 (([] : List (List Pd)))], [.sl 1 (([[.str (⟨#[97, 46, 48, 46, 98]⟩ : ByteArray)]] : List (List Pd)))]] : List (List Pd))).getD (v1.toNat) []).getD 0 .undef) = some (ps.map encS) := by
    by_cases hv : v1 = 0
    · subst hv; exact ⟨[], .inl rfl, rfl⟩
    · have : v1 = 1 := by omega
      subst this
      exact ⟨[pathL], .inr rfl, rfl⟩
  obtain ⟨ps, hps, hpe⟩ := ps
  obtain ⟨u, f1, f2⟩ := data_ev hx hps
  rw [e1, bA]
  simp only [fold]
  rw [impl_OutText_ev ho hB, bSI, spec_OutText_ev ho hB, bSI, outAt_p hx, bOI, o1, bOI, a1, bI, if_pos (by simp; omega), if_pos (by simp; omega), hpe, Option.bind_some, f1, bSI, f2, bSI, c1, bI, wrap64 (n := 1 + v2) (by omega), d1, bSI, bI, wrap64 (n := 1 + v2) (by omega), d2, bSI]
  have sl := (same_self 4 x hx.fine hcx).2
  have si := (same_self 20 (lawO x) (outB_parts hB).1 (outB_parts hB).2).1
  have hpos : decide (((S (outT (lawO x))).size : Int) > 0) = true := decide_eq_true (by have := outT_pos (x := x); omega)
  rw [beq_self_eq_true, cond_true, decide_eq_true rfl, cond_true, hpos, cond_true, beq_self_eq_true, cond_true, sl, bB]
  simp only [beq_self_eq_true, cond_true, decide_true]
  rw [
    impl_OutOK_ev ho, hB, bB, cond_true, SameOut_ev ho ho hB hB si, bB, cond_true, SameOut_ev ho hx.ok hB hx.outB (same_other hx), bB]
  rfl
end Go.Proofs.YtakbdjdafcjglaaGreatDoor.Dm
