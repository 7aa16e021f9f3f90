/- Drawn selections of a root. -/
import Derived.Test.YtabomkmgnkjjfaaH1
namespace Go.Proofs.Ytabomkmgnkjjfaa.Dm
set_option maxRecDepth 4000
set_option linter.unusedSectionVars false
set_option linter.unusedVariables false
set_option linter.unusedSimpArgs false

theorem bit_ev (b : Bool) : ev E0 F_spec_l01Bit [.p (.bool b)] [] = rI (bif b then 1 else 0) := by
  rw [spec_l01Bit_0_ev, spec_l01Bit_0_eq]
  cases b <;> rfl
theorem argW {t : ByteArray} (ht : t ∈ [(⟨#[115, 101, 116]⟩ : ByteArray), ⟨#[97, 100, 100]⟩, ⟨#[108, 105, 110, 107]⟩]) : ∃ i : Nat, i < 3 ∧ IntKind.i64.wrap ((bif decide (t = (⟨#[97, 100, 100]⟩ : ByteArray)) then 1 else 0) + IntKind.i64.wrap (2 * (bif decide (t = (⟨#[108, 105, 110, 107]⟩ : ByteArray)) then 1 else 0))) = (i : Int) := by
  rcases List.mem_cons.1 ht with rfl | ht
  · exact ⟨0, by omega, by decide⟩
  · rcases List.mem_cons.1 ht with rfl | ht
    · exact ⟨1, by omega, by decide⟩
    · rw [List.mem_singleton.1 ht]
      exact ⟨2, by omega, by decide⟩
theorem argN (i : Nat) (h : i < 3) : ∃ t : ByteArray, asStr (((([[.str (⟨#[118, 97, 108, 117, 101]⟩ : ByteArray)], [.str (⟨#[98, 121]⟩ : ByteArray)], [.str (⟨#[116, 111]⟩ : ByteArray)]] : List (List Pd)).getD ((i : Int)).toNat [])).getD 0 .undef) = some t ∧ t.size ≤ 9223372036854775807 := by
  match i, h with
  | 0, _ => exact ⟨_, rfl, short_of (ws := [⟨#[118, 97, 108, 117, 101]⟩]) (by decide) (List.mem_singleton.2 rfl)⟩
  | 1, _ => exact ⟨_, rfl, short_of (ws := [⟨#[98, 121]⟩]) (by decide) (List.mem_singleton.2 rfl)⟩
  | 2, _ => exact ⟨_, rfl, short_of (ws := [⟨#[116, 111]⟩]) (by decide) (List.mem_singleton.2 rfl)⟩
theorem arg_snoc (xs : List GArg) (t : ByteArray) (v : GVal) : xs.map GArg.enc ++ [[.str t, v.enc.getD 0 .undef, v.enc.getD 1 .undef, v.enc.getD 2 .undef]] = (xs ++ [GArg.mk t v]).map GArg.enc := by
  rw [List.map_append, List.map_singleton]
  rfl
theorem rootSels_loop (kd : Int) : ∀ (k m : Nat) (s : Src) (xs : List GSel), xs.length + k ≤ 3 → (∀ x ∈ xs, okSel x) → okSrc (m + k * (11 + nC 2)) s → ∃ xs' s', spec_l00Src_rootSels_1 kd k (xs.map GSel.enc) s.enc = rGX xs' s' ∧ ((∀ x ∈ xs', okSel x) ∧ xs'.length = xs.length + k) ∧ okSrc m s' := by
  intro k
  induction k with
  | zero =>
    intro m s xs hl hx h
    rw [spec_l00Src_rootSels_1_eq, decide_eq_false (by omega), cond_false]
    exact ⟨xs, s, rfl, ⟨hx, by omega⟩, h.le (by omega)⟩
  | succ k ihk =>
    intro m s xs hl hx h
    generalize hM : m + k * (11 + nC 2) = M
    have h : okSrc (M + 11 + nC 2) s := h.le (by rw [Nat.succ_mul]; omega)
    have ew : IntKind.i64.wrap (((k + 1 : Nat) : Int) - 1) = (k : Int) := by rw [wrap_id (by omega)]; omega
    have fin : ∀ (q : Int) (a n : ByteArray) (args : List GArg) (dirs : List GDir) (sels : List GSel) (s' : Src), okSel (.mk q a n args dirs sels) → okSrc M s' →
        ∃ xs' s'', (if ((xs.map GSel.enc).length + ([[.int .i64 q, .str a, .str n, .sl 4 (args.map GArg.enc), .sl 4 (dirs.map GDir.enc), .sl 6 (sels.map GSel.enc)]] : List (List Pd)).length) * 112 ≤ LIM then spec_l00Src_rootSels_1 kd (IntKind.i64.wrap (((k + 1 : Nat) : Int) - 1)) (xs.map GSel.enc ++ [[.int .i64 q, .str a, .str n, .sl 4 (args.map GArg.enc), .sl 4 (dirs.map GDir.enc), .sl 6 (sels.map GSel.enc)]]) s'.enc else none) = rGX xs' s'' ∧ ((∀ x ∈ xs', okSel x) ∧ xs'.length = xs.length + (k + 1)) ∧ okSrc m s'' := by
      intro q a n args dirs sels s' ho hs
      rw [limK (by simp; omega), ew, sel_snoc]
      obtain ⟨xs', s'', q1, ⟨q2, q3⟩, q4⟩ := ihk m s' (xs ++ [.mk q a n args dirs sels]) (by simp; omega) (snoc_mem hx ho) (hM ▸ hs)
      exact ⟨xs', s'', q1, ⟨q2, by rw [q3]; simp; omega⟩, q4⟩
    obtain ⟨al, s1, e1, hal, h1⟩ := pick4_ev (m := M + 10 + nC 2) (⟨#[]⟩ : ByteArray) (⟨#[97]⟩ : ByteArray) (⟨#[98]⟩ : ByteArray) (⟨#[99]⟩ : ByteArray) (h.le (by omega))
    have hal := short_of (by decide) hal
    obtain ⟨nm, s2, e2, hnm, h2⟩ := pick4_ev (m := M + 9 + nC 2) (⟨#[110, 111, 100, 101]⟩ : ByteArray) (⟨#[110, 111, 100, 101]⟩ : ByteArray) (⟨#[109, 117, 115, 116]⟩ : ByteArray) (⟨#[110, 111, 100, 101, 115]⟩ : ByteArray) (h1.le (by omega))
    have hnm := short_of (by decide) hnm
    obtain ⟨v, s3, e3, hv, h3⟩ := value_ev (m := M + 7 + nC 2) (h2.le (by omega))
    obtain ⟨ds, s4, e4, hds, h4⟩ := dirs_ev (m := M + 3 + nC 2) (h3.le (by omega))
    obtain ⟨ys, s5, e5, hy, h5⟩ := nodeSels_ev 2 (m := M + 3) (by omega) (h4.le (by omega))
    have ed : ((2 : Nat) : Int) = 2 := rfl
    rw [ed] at e5
    rw [spec_l00Src_rootSels_1_eq, decide_eq_true (by omega), cond_true, e1, gS, fill_enc, e2, gS, fill_enc, e3, gV, fill_enc, e4, gL, fill_enc, e5, gL, fill_enc]
    have z : (0 : Nat) ≤ 9223372036854775807 := by omega
    have hid : okL okArg [⟨(⟨#[105, 100]⟩ : ByteArray), v⟩] := ok_one ⟨short_of (ws := [⟨#[105, 100]⟩]) (by decide) (List.mem_singleton.2 rfl), hv⟩
    have hr : ∀ {t : ByteArray}, t ∈ [(⟨#[115, 101, 116]⟩ : ByteArray), ⟨#[97, 100, 100]⟩, ⟨#[108, 105, 110, 107]⟩] → t.size ≤ 9223372036854775807 := short_of (by decide)
    by_cases hn : nm = (⟨#[110, 111, 100, 101, 115]⟩ : ByteArray)
    · have ht : ((ys.map GSel.enc).drop (0 : Int).toNat).take ((1 : Int).toNat - (0 : Int).toNat) = (ys.take 1).map GSel.enc := by
        rw [show (0 : Int).toNat = 0 from rfl, show (1 : Int).toNat - 0 = 1 from rfl, List.drop_zero, List.map_take]
      have hy1 : okL okSel (ys.take 1) := ⟨by rw [List.length_take]; omega, fun x hx => hy.1.2 x (List.mem_of_mem_take hx)⟩
      rw [decide_eq_true hn, cond_true, if_pos (by rw [List.length_map]; omega), ht, spec_l00Src_rootSels_2_eq, beq_int]
      by_cases c2 : kd = 2
      · obtain ⟨t, s6, e6, htm, h6⟩ := pick3_ev (m := M + 2) (⟨#[115, 101, 116]⟩ : ByteArray) (⟨#[97, 100, 100]⟩ : ByteArray) (⟨#[108, 105, 110, 107]⟩ : ByteArray) (h5.le (by omega))
        obtain ⟨v2, s7, e7, hv2, h7⟩ := value_ev (m := M) h6
        obtain ⟨i, hi, hw⟩ := argW htm
        obtain ⟨w, hw1, hw2⟩ := argN i hi
        rw [decide_eq_true c2, cond_true, e6, gS, fill_enc, bit_ev, bI, bit_ev, bI, hw, if_pos (by simp; omega), if_pos (by simp; omega), hw1, Option.bind_some, e7, gV, fill_enc, limK (by simp), spec_l00Src_rootSels_4_eq, List.nil_append, byArg_enc]
        exact fin 1 al t [⟨w, v2⟩] ds (ys.take 1) s7 (mkSel_ok hal (hr htm) (ok_one ⟨hw2, hv2⟩) hds hy1) h7
      · obtain ⟨b, s6, e6, h6⟩ := chance_ev (m := M + 1) (n := 7) (by omega) (h5.le (by omega))
        rw [decide_eq_false c2, cond_false, e6, gB, fill_enc]
        cases b with
        | true =>
          obtain ⟨t, s7, e7, ht7, h7⟩ := pick2_ev (m := M) (⟨#[115, 105, 122, 101]⟩ : ByteArray) (⟨#[95, 95, 116, 121, 112, 101, 110, 97, 109, 101]⟩ : ByteArray) h6
          rw [cond_true, e7, gS, fill_enc, spec_l00Src_rootSels_5_eq]
          exact fin 1 al t [] ds [] s7 (mkSel_ok hal (short_of (by decide) ht7) ok_nil hds ok_nil) h7
        | false =>
          rw [cond_false, spec_l00Src_rootSels_4_eq]
          exact fin 1 al nm [] ds (ys.take 1) s6 (mkSel_ok hal hnm ok_nil hds hy1) (h6.le (by omega))
    · rw [decide_eq_false hn, cond_false, spec_l00Src_rootSels_3_eq, beq_int, byArg_enc]
      by_cases c2 : kd = 2
      · obtain ⟨t, s6, e6, htm, h6⟩ := pick3_ev (m := M + 2) (⟨#[115, 101, 116]⟩ : ByteArray) (⟨#[97, 100, 100]⟩ : ByteArray) (⟨#[108, 105, 110, 107]⟩ : ByteArray) (h5.le (by omega))
        obtain ⟨v2, s7, e7, hv2, h7⟩ := value_ev (m := M) h6
        obtain ⟨i, hi, hw⟩ := argW htm
        obtain ⟨w, hw1, hw2⟩ := argN i hi
        rw [decide_eq_true c2, cond_true, e6, gS, fill_enc, bit_ev, bI, bit_ev, bI, hw, if_pos (by simp; omega), if_pos (by simp; omega), hw1, Option.bind_some, e7, gV, fill_enc, limK (by simp), spec_l00Src_rootSels_6_eq, arg_snoc]
        exact fin 1 al t [⟨_, v⟩, ⟨w, v2⟩] ds ys s7 (mkSel_ok hal (hr htm) ⟨by show (2 : Nat) ≤ _; omega, fun x hx => by
          rcases List.mem_cons.1 hx with rfl | hx
          · exact hid.2 _ (List.mem_singleton.2 rfl)
          · rw [List.mem_singleton.1 hx]; exact ⟨hw2, hv2⟩⟩ hds hy.1) h7
      · obtain ⟨b, s6, e6, h6⟩ := chance_ev (m := M + 1) (n := 7) (by omega) (h5.le (by omega))
        rw [decide_eq_false c2, cond_false, e6, gB, fill_enc]
        cases b with
        | true =>
          obtain ⟨t, s7, e7, ht7, h7⟩ := pick2_ev (m := M) (⟨#[115, 105, 122, 101]⟩ : ByteArray) (⟨#[95, 95, 116, 121, 112, 101, 110, 97, 109, 101]⟩ : ByteArray) h6
          rw [cond_true, e7, gS, fill_enc, spec_l00Src_rootSels_7_eq]
          exact fin 1 al t [] ds [] s7 (mkSel_ok hal (short_of (by decide) ht7) ok_nil hds ok_nil) h7
        | false =>
          rw [cond_false, spec_l00Src_rootSels_6_eq]
          exact fin 1 al nm [⟨_, v⟩] ds ys s6 (mkSel_ok hal hnm hid hds hy.1) (h6.le (by omega))
def rC : Nat := 1 + 3 * (11 + nC 2)
theorem rootSels_ev (kd : Int) {m : Nat} {s : Src} (h : okSrc (m + rC) s) : ∃ xs s', ev E0 F_spec_l00Src_rootSels [.ptr (.out 0) 0, .p (.int .i64 kd)] [.box 3 s.enc] = rGX xs s' ∧ (okL okSel xs ∧ 1 ≤ xs.length ∧ xs.length ≤ 3) ∧ okSrc m s' := by
  unfold rC at h
  obtain ⟨n, s1, e1, hn, h1⟩ := next_ev (m := m + 3 * (11 + nC 2)) (n := 3) (by omega) (h.le (by omega))
  rw [spec_l00Src_rootSels_0_ev, spec_l00Src_rootSels_0_eq, e1, gI, fill_enc]
  have ew : IntKind.i64.wrap (1 + n) = ((n.toNat + 1 : Nat) : Int) := by rw [wrap_id (by omega)]; omega
  have hk : (n.toNat + 1) * (11 + nC 2) ≤ 3 * (11 + nC 2) := Nat.mul_le_mul_right _ (by omega)
  obtain ⟨xs, s2, q1, ⟨q2, q3⟩, q4⟩ := rootSels_loop kd (n.toNat + 1) m s1 [] (by simp; omega) (fun x hx => by cases hx) (h1.le (by omega))
  rw [ew]
  simp only [List.length_nil] at q3
  exact ⟨xs, s2, q1, ⟨⟨by omega, q2⟩, by omega, by omega⟩, q4⟩
end Go.Proofs.Ytabomkmgnkjjfaa.Dm
