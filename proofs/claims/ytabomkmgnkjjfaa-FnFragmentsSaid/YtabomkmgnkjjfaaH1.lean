/- Drawn selections. -/
import Derived.Test.YtabomkmgnkjjfaaG1
namespace Go.Proofs.Ytabomkmgnkjjfaa.Dm
set_option maxRecDepth 4000
set_option linter.unusedSectionVars false
set_option linter.unusedVariables false
set_option linter.unusedSimpArgs false

theorem pick2_ev {m : Nat} {s : Src} (a b : ByteArray) (h : okSrc (m + 1) s) : ∃ v s', ev E0 F_spec_l00Src_pick [.ptr (.out 0) 0, .p (.sl 1 [[.str a], [.str b]])] [.box 3 s.enc] = rGS v s' ∧ v ∈ [a, b] ∧ okSrc m s' :=
  pick_ev (ws := [a, b]) (by simp) (by simp) h
theorem pick3_ev {m : Nat} {s : Src} (a b c : ByteArray) (h : okSrc (m + 1) s) : ∃ v s', ev E0 F_spec_l00Src_pick [.ptr (.out 0) 0, .p (.sl 1 [[.str a], [.str b], [.str c]])] [.box 3 s.enc] = rGS v s' ∧ v ∈ [a, b, c] ∧ okSrc m s' :=
  pick_ev (ws := [a, b, c]) (by simp) (by simp) h
theorem pick4_ev {m : Nat} {s : Src} (a b c d : ByteArray) (h : okSrc (m + 1) s) : ∃ v s', ev E0 F_spec_l00Src_pick [.ptr (.out 0) 0, .p (.sl 1 [[.str a], [.str b], [.str c], [.str d]])] [.box 3 s.enc] = rGS v s' ∧ v ∈ [a, b, c, d] ∧ okSrc m s' :=
  pick_ev (ws := [a, b, c, d]) (by simp) (by simp) h
abbrev rGV (v : GVal) (s : Src) : Option Res := some ([.p (.agg 3 v.enc)], [.box 3 s.enc])
theorem gV {R : Type} (v : GVal) (s s' : Src) (K : List Pd → List Pd → Option R) : ((rGV v s').bind fun r => (asAgg 3 (pAt 0 r.1)).bind fun n => if r.1.length = 1 then ((asFbox 3 s.enc (r.2.getD 0 .none)).bind fun c => if r.2.length = 1 then K n c else none) else none) = K v.enc s'.enc := by
  simp [pAt, asAgg, fbox_enc]
abbrev rGL (n : Nat) (l : List (List Pd)) (s : Src) : Option Res := some ([.p (.sl n l)], [.box 3 s.enc])
theorem gL {R : Type} (n : Nat) (l : List (List Pd)) (s s' : Src) (K : List (List Pd) → List Pd → Option R) : ((rGL n l s').bind fun r => (asSl n (pAt 0 r.1)).bind fun n => if r.1.length = 1 then ((asFbox 3 s.enc (r.2.getD 0 .none)).bind fun c => if r.2.length = 1 then K n c else none) else none) = K l s'.enc := by
  simp [pAt, asSl, fbox_enc]
/-- no longer than some words -/
def shortAll (ws : List ByteArray) : Bool := ws.all fun w => decide (w.size ≤ 100)
theorem short_of {ws : List ByteArray} (h : shortAll ws = true) {v : ByteArray} (hv : v ∈ ws) : v.size ≤ 9223372036854775807 := by
  have := of_decide_eq_true (List.all_eq_true.1 h v hv)
  omega
theorem value_ev {m : Nat} {s : Src} (h : okSrc (m + 2) s) : ∃ v s', ev E0 F_spec_l00Src_value [.ptr (.out 0) 0] [.box 3 s.enc] = rGV v s' ∧ okVal v ∧ okSrc m s' := by
  obtain ⟨n, s1, e1, hn, h1⟩ := next_ev (n := 6) (by omega) h
  rw [spec_l00Src_value_0_ev, spec_l00Src_value_0_eq, e1, gI, fill_enc, beq_int, beq_int]
  by_cases c0 : n = 0
  · obtain ⟨t, s2, e2, ht, h2⟩ := pick2_ev (⟨#[120]⟩ : ByteArray) (⟨#[121]⟩ : ByteArray) h1
    rw [decide_eq_true c0, cond_true, e2, gS, fill_enc]
    exact ⟨⟨4, 0, t⟩, s2, rfl, short_of (by decide) ht, h2⟩
  · rw [decide_eq_false c0, cond_false]
    by_cases c1 : n = 1
    · rw [decide_eq_true c1, cond_true]
      exact ⟨⟨3, 0, ⟨#[]⟩⟩, s1, rfl, (by show (0 : Nat) ≤ _; omega), h1.le (by omega)⟩
    · obtain ⟨k, s2, e2, hk, h2⟩ := next_ev (n := 9) (by omega) h1
      rw [decide_eq_false c1, cond_false, e2, gI, fill_enc]
      exact ⟨⟨1, k, ⟨#[]⟩⟩, s2, rfl, (by show (0 : Nat) ≤ _; omega), h2⟩
theorem bool_ev {m : Nat} {s : Src} (h : okSrc (m + 2) s) : ∃ v s', ev E0 F_spec_l00Src_bool [.ptr (.out 0) 0] [.box 3 s.enc] = rGV v s' ∧ okVal v ∧ okSrc m s' := by
  obtain ⟨b, s1, e1, h1⟩ := chance_ev (n := 4) (by omega) h
  rw [spec_l00Src_bool_0_ev, spec_l00Src_bool_0_eq, e1, gB, fill_enc]
  cases b with
  | true => exact ⟨⟨4, 0, ⟨#[98]⟩⟩, s1, rfl, short_of (ws := [⟨#[98]⟩]) (by decide) (List.mem_singleton.2 rfl), h1.le (by omega)⟩
  | false =>
    obtain ⟨k, s2, e2, hk, h2⟩ := next_ev (n := 2) (by omega) h1
    rw [cond_false, e2, gI, fill_enc]
    exact ⟨⟨2, k, ⟨#[]⟩⟩, s2, rfl, (by show (0 : Nat) ≤ _; omega), h2⟩
theorem dirs_ev {m : Nat} {s : Src} (h : okSrc (m + 4) s) : ∃ ds s', ev E0 F_spec_l00Src_dirs [.ptr (.out 0) 0] [.box 3 s.enc] = rGL 4 (ds.map GDir.enc) s' ∧ okL okDir ds ∧ okSrc m s' := by
  obtain ⟨b, s1, e1, h1⟩ := chance_ev (n := 7) (by omega) h
  rw [spec_l00Src_dirs_0_ev, spec_l00Src_dirs_0_eq, e1, gB, fill_enc]
  cases b with
  | false => exact ⟨[], s1, by rw [cond_false, spec_l00Src_dirs_1_eq]; rfl, ⟨by show (0 : Nat) ≤ _; omega, fun x hx => by cases hx⟩, h1.le (by omega)⟩
  | true =>
    obtain ⟨k, s2, e2, h2⟩ := chance_ev (n := 2) (by omega) h1
    obtain ⟨v, s3, e3, hv, h3⟩ := bool_ev h2
    rw [cond_true, e2, gB, fill_enc, e3, gV, fill_enc, limK (by simp), spec_l00Src_dirs_1_eq]
    exact ⟨[⟨k, v⟩], s3, rfl, ⟨by show (1 : Nat) ≤ _; omega, fun x hx => by rw [List.mem_singleton.1 hx]; exact hv⟩, h3⟩
theorem mkSel_ok {k : Int} {a n : ByteArray} {args : List GArg} {dirs : List GDir} {sels : List GSel} (h1 : a.size ≤ 9223372036854775807) (h2 : n.size ≤ 9223372036854775807) (h3 : okL okArg args) (h4 : okL okDir dirs) (h5 : okL okSel sels) : okSel (.mk k a n args dirs sels) :=
  ⟨h1, h2, h3, h4, h5.1, okSels_of' h5.2⟩
theorem ok_nil {α : Type} {f : α → Prop} : okL f ([] : List α) := ⟨by show (0 : Nat) ≤ _; omega, fun x hx => by cases hx⟩
theorem ok_one {α : Type} {f : α → Prop} {x : α} (h : f x) : okL f [x] := ⟨by show (1 : Nat) ≤ _; omega, fun y hy => by rw [List.mem_singleton.1 hy]; exact h⟩
theorem sel_snoc (xs : List GSel) (k : Int) (a n : ByteArray) (args : List GArg) (dirs : List GDir) (sels : List GSel) : xs.map GSel.enc ++ [[.int .i64 k, .str a, .str n, .sl 4 (args.map GArg.enc), .sl 4 (dirs.map GDir.enc), .sl 6 (sels.map GSel.enc)]] = (xs ++ [GSel.mk k a n args dirs sels]).map GSel.enc := by
  rw [List.map_append, List.map_singleton]
  unfold GSel.enc
  rw [GSel.encs_eq]
theorem snoc_mem {P : GSel → Prop} {xs : List GSel} {x : GSel} (h : ∀ y ∈ xs, P y) (hx : P x) : ∀ y ∈ xs ++ [x], P y := fun y hy => by
  rcases List.mem_append.1 hy with q | q
  · exact h y q
  · rw [List.mem_singleton.1 q]; exact hx
/-- how many choices selections of a node take -/
def nC : Nat → Nat
  | 0 => 40
  | d + 1 => 40 + 3 * nC d
def nB : Nat → Nat
  | 0 => 0
  | d + 1 => nC d
theorem nC_eq (d : Nat) : nC d = 40 + 3 * nB d := by cases d <;> rfl
theorem byArg_enc (t : ByteArray) (v : GVal) : ([[.str t, v.enc.getD 0 .undef, v.enc.getD 1 .undef, v.enc.getD 2 .undef]] : List (List Pd)) = [GArg.mk t v].map GArg.enc := rfl
theorem nilA : ([] : List (List Pd)) = ([] : List GArg).map GArg.enc := rfl
theorem nilS : ([] : List (List Pd)) = ([] : List GSel).map GSel.enc := rfl
abbrev rGX (xs : List GSel) (s : Src) : Option Res := rGL 6 (xs.map GSel.enc) s
theorem nodeSels_loop {d : Nat} (hd : d ≤ 100) (ih : ∀ d', d = d' + 1 → ∀ {m : Nat} {s : Src}, okSrc (m + nC d') s → ∃ xs s', ev E0 F_spec_l00Src_nodeSels [.ptr (.out 0) 0, .p (.int .i64 (d' : Int))] [.box 3 s.enc] = rGX xs s' ∧ (okL okSel xs ∧ 1 ≤ xs.length ∧ xs.length ≤ 3) ∧ okSrc m s') :
    ∀ (k m : Nat) (s : Src) (xs : List GSel), xs.length + k ≤ 3 → (∀ x ∈ xs, okSel x) → okSrc (m + k * (13 + nB d)) s → ∃ xs' s', spec_l00Src_nodeSels_1 d k (xs.map GSel.enc) s.enc = rGX xs' s' ∧ ((∀ x ∈ xs', okSel x) ∧ xs'.length = xs.length + k) ∧ okSrc m s' := by
  intro k
  induction k with
  | zero =>
    intro m s xs hl hx h
    rw [spec_l00Src_nodeSels_1_eq, decide_eq_false (by omega), cond_false]
    exact ⟨xs, s, rfl, ⟨hx, by omega⟩, h.le (by omega)⟩
  | succ k ihk =>
    intro m s xs hl hx h
    generalize hM : m + k * (13 + nB d) = M
    have h : okSrc (M + 13 + nB d) s := h.le (by rw [Nat.succ_mul]; omega)
    have ew : IntKind.i64.wrap (((k + 1 : Nat) : Int) - 1) = (k : Int) := by rw [wrap_id (by omega)]; omega
    -- one more
    have fin : ∀ (kd : Int) (a n : ByteArray) (args : List GArg) (dirs : List GDir) (sels : List GSel) (s' : Src), okSel (.mk kd a n args dirs sels) → okSrc M s' →
        ∃ xs' s'', (if ((xs.map GSel.enc).length + ([[.int .i64 kd, .str a, .str n, .sl 4 (args.map GArg.enc), .sl 4 (dirs.map GDir.enc), .sl 6 (sels.map GSel.enc)]] : List (List Pd)).length) * 112 ≤ LIM then spec_l00Src_nodeSels_1 d (IntKind.i64.wrap (((k + 1 : Nat) : Int) - 1)) (xs.map GSel.enc ++ [[.int .i64 kd, .str a, .str n, .sl 4 (args.map GArg.enc), .sl 4 (dirs.map GDir.enc), .sl 6 (sels.map GSel.enc)]]) s'.enc else none) = rGX xs' s'' ∧ ((∀ x ∈ xs', okSel x) ∧ xs'.length = xs.length + (k + 1)) ∧ okSrc m s'' := by
      intro kd a n args dirs sels s' ho hs
      rw [limK (by simp; omega), ew, sel_snoc]
      obtain ⟨xs', s'', q1, ⟨q2, q3⟩, q4⟩ := ihk m s' (xs ++ [.mk kd a n args dirs sels]) (by simp; omega) (snoc_mem hx ho) (hM ▸ hs)
      exact ⟨xs', s'', q1, ⟨q2, by rw [q3]; simp; omega⟩, q4⟩
    obtain ⟨nm, s1, e1, hnm, h1⟩ := pick4_ev (m := M + 12 + nB d) (⟨#[105, 100]⟩ : ByteArray) (⟨#[118, 97, 108, 117, 101]⟩ : ByteArray) (⟨#[118, 97, 108, 117, 101]⟩ : ByteArray) (⟨#[95, 95, 116, 121, 112, 101, 110, 97, 109, 101]⟩ : ByteArray) (h.le (by omega))
    have hnm := short_of (by decide) hnm
    obtain ⟨ds, s2, e2, hds, h2⟩ := dirs_ev (m := M + 8 + nB d) (h1.le (by omega))
    obtain ⟨n, s3, e3, hn, h3⟩ := next_ev (m := M + 7 + nB d) (n := 9) (by omega) (h2.le (by omega))
    rw [spec_l00Src_nodeSels_1_eq, decide_eq_true (by omega), cond_true, e1, gS, fill_enc, e2, gL, fill_enc, e3, gI, fill_enc]
    have z : (0 : Nat) ≤ 9223372036854775807 := by omega
    -- what is drawn
    have plain : ∀ (al : ByteArray) (s' : Src), al.size ≤ 9223372036854775807 → okSrc M s' → ∃ xs' s'', spec_l00Src_nodeSels_4 d ((k + 1 : Nat) : Int) 1 al nm (ds.map GDir.enc) (xs.map GSel.enc) [] [] s'.enc = rGX xs' s'' ∧ ((∀ x ∈ xs', okSel x) ∧ xs'.length = xs.length + (k + 1)) ∧ okSrc m s'' := by
      intro al s' hal hs
      rw [spec_l00Src_nodeSels_4_eq]
      exact fin 1 al nm [] ds [] s' (mkSel_ok hal hnm ok_nil hds ok_nil) hs
    have two : ∀ b : Bool, b = decide (n = 0 ∨ n = 1) → ∃ xs' s'', spec_l00Src_nodeSels_2 d ((k + 1 : Nat) : Int) n b 1 (⟨#[]⟩ : ByteArray) nm (ds.map GDir.enc) (xs.map GSel.enc) [] [] s3.enc = rGX xs' s'' ∧ ((∀ x ∈ xs', okSel x) ∧ xs'.length = xs.length + (k + 1)) ∧ okSrc m s'' := by
      intro b hb
      rw [spec_l00Src_nodeSels_2_eq]
      cases b with
      | true =>
        rw [cond_true]
        cases d with
        | zero =>
          rw [decide_eq_false (by omega), cond_false]
          exact plain _ _ z (h3.le (by omega))
        | succ d' =>
          have hB : nB (d' + 1) = nC d' := rfl
          rw [decide_eq_true (by omega), cond_true]
          obtain ⟨t, s4, e4, ht, h4⟩ := pick3_ev (m := M + 6 + nC d') (⟨#[110, 101, 120, 116]⟩ : ByteArray) (⟨#[110, 101, 120, 116]⟩ : ByteArray) (⟨#[110, 101, 101, 100]⟩ : ByteArray) (h3.le (by omega))
          have ew2 : IntKind.i64.wrap (((d' + 1 : Nat) : Int) - 1) = (d' : Int) := by rw [wrap_id (by omega)]; omega
          obtain ⟨ys, s5, e5, hy, h5⟩ := ih d' rfl (m := M) (h4.le (by omega))
          rw [e4, gS, fill_enc, ew2, e5, gL, fill_enc, spec_l00Src_nodeSels_3_eq]
          exact fin 1 _ t [] ds ys s5 (mkSel_ok z (short_of (by decide) ht) ok_nil hds hy.1) h5
      | false =>
        rw [cond_false, beq_int, beq_int, beq_int, beq_int]
        by_cases c2 : n = 2
        · obtain ⟨v, s4, e4, hv, h4⟩ := value_ev (m := M + 5 + nB d) (h3.le (by omega))
          obtain ⟨t, s5, e5, ht, h5⟩ := pick3_ev (m := M) (⟨#[]⟩ : ByteArray) (⟨#[115, 117, 109]⟩ : ByteArray) (⟨#[109, 111, 114, 101]⟩ : ByteArray) (h4.le (by omega))
          rw [decide_eq_true c2, cond_true, e4, gV, fill_enc, e5, gS, fill_enc, spec_l00Src_nodeSels_5_eq, byArg_enc]
          exact fin 1 t _ [⟨_, v⟩] ds [] s5 (mkSel_ok (short_of (by decide) ht) (short_of (ws := [⟨#[112, 108, 117, 115]⟩]) (by decide) (List.mem_singleton.2 rfl)) (ok_one ⟨short_of (ws := [⟨#[98, 121]⟩]) (by decide) (List.mem_singleton.2 rfl), hv⟩) hds ok_nil) h5
        · rw [decide_eq_false c2, cond_false]
          by_cases c3 : n = 3
          · rw [decide_eq_true c3, cond_true]
            cases d with
            | zero =>
              rw [decide_eq_false (by omega), cond_false]
              exact plain _ _ z (h3.le (by omega))
            | succ d' =>
              have hB : nB (d' + 1) = nC d' := rfl
              rw [decide_eq_true (by omega), cond_true]
              obtain ⟨t, s4, e4, ht, h4⟩ := pick4_ev (m := M + 6 + nC d') (⟨#[]⟩ : ByteArray) (⟨#[78, 111, 100, 101]⟩ : ByteArray) (⟨#[78, 111, 100, 101]⟩ : ByteArray) (⟨#[81, 117, 101, 114, 121]⟩ : ByteArray) (h3.le (by omega))
              obtain ⟨ds2, s5, e5, hd2, h5⟩ := dirs_ev (m := M + 2 + nC d') (h4.le (by omega))
              have ew2 : IntKind.i64.wrap (((d' + 1 : Nat) : Int) - 1) = (d' : Int) := by rw [wrap_id (by omega)]; omega
              obtain ⟨ys, s6, e6, hy, h6⟩ := ih d' rfl (m := M) (h5.le (by omega))
              rw [e4, gS, fill_enc, e5, gL, fill_enc, ew2, e6, gL, fill_enc, spec_l00Src_nodeSels_6_eq]
              exact fin 3 _ t [] ds2 ys s6 (mkSel_ok z (short_of (by decide) ht) ok_nil hd2 hy.1) h6
          · rw [decide_eq_false c3, cond_false]
            by_cases c4 : n = 4
            · obtain ⟨t, s4, e4, ht, h4⟩ := pick2_ev (m := M + 5 + nB d) (⟨#[102]⟩ : ByteArray) (⟨#[103]⟩ : ByteArray) (h3.le (by omega))
              obtain ⟨ds2, s5, e5, hd2, h5⟩ := dirs_ev (m := M) (h4.le (by omega))
              rw [decide_eq_true c4, cond_true, e4, gS, fill_enc, e5, gL, fill_enc, spec_l00Src_nodeSels_7_eq]
              exact fin 2 _ t [] ds2 [] s5 (mkSel_ok z (short_of (by decide) ht) ok_nil hd2 ok_nil) h5
            · rw [decide_eq_false c4, cond_false]
              by_cases c5 : n = 5
              · obtain ⟨t, s4, e4, ht, h4⟩ := pick3_ev (m := M) (⟨#[97]⟩ : ByteArray) (⟨#[118]⟩ : ByteArray) (⟨#[105, 100]⟩ : ByteArray) (h3.le (by omega))
                rw [decide_eq_true c5, cond_true, e4, gS, fill_enc]
                exact plain t s4 (short_of (by decide) ht) h4
              · rw [decide_eq_false c5, cond_false]
                exact plain _ _ z (h3.le (by omega))
    rw [beq_int, beq_int]
    by_cases c0 : n = 0
    · rw [decide_eq_true c0, cond_true]
      exact two true (by simp [c0])
    · rw [decide_eq_false c0, cond_false]
      exact two _ (by simp [c0])
theorem nodeSels_one {d : Nat} (hd : d ≤ 100) (ih : ∀ d', d = d' + 1 → ∀ {m : Nat} {s : Src}, okSrc (m + nC d') s → ∃ xs s', ev E0 F_spec_l00Src_nodeSels [.ptr (.out 0) 0, .p (.int .i64 (d' : Int))] [.box 3 s.enc] = rGX xs s' ∧ (okL okSel xs ∧ 1 ≤ xs.length ∧ xs.length ≤ 3) ∧ okSrc m s') {m : Nat} {s : Src} (h : okSrc (m + nC d) s) :
    ∃ xs s', ev E0 F_spec_l00Src_nodeSels [.ptr (.out 0) 0, .p (.int .i64 d)] [.box 3 s.enc] = rGX xs s' ∧ (okL okSel xs ∧ 1 ≤ xs.length ∧ xs.length ≤ 3) ∧ okSrc m s' := by
  rw [nC_eq] at h
  obtain ⟨n, s1, e1, hn, h1⟩ := next_ev (m := m + 39 + 3 * nB d) (n := 3) (by omega) (h.le (by omega))
  rw [spec_l00Src_nodeSels_0_ev, spec_l00Src_nodeSels_0_eq, e1, gI, fill_enc]
  have ew : IntKind.i64.wrap (1 + n) = ((n.toNat + 1 : Nat) : Int) := by rw [wrap_id (by omega)]; omega
  have hk : (n.toNat + 1) * (13 + nB d) ≤ 3 * (13 + nB d) := Nat.mul_le_mul_right _ (by omega)
  obtain ⟨xs, s2, q1, ⟨q2, q3⟩, q4⟩ := nodeSels_loop hd ih (n.toNat + 1) m s1 [] (by simp; omega) (fun x hx => by cases hx) (h1.le (by omega))
  rw [ew]
  simp only [List.length_nil] at q3
  exact ⟨xs, s2, q1, ⟨⟨by omega, q2⟩, by omega, by omega⟩, q4⟩
theorem nodeSels_ev : ∀ (d : Nat) {m : Nat} {s : Src}, d ≤ 100 → okSrc (m + nC d) s → ∃ xs s', ev E0 F_spec_l00Src_nodeSels [.ptr (.out 0) 0, .p (.int .i64 d)] [.box 3 s.enc] = rGX xs s' ∧ (okL okSel xs ∧ 1 ≤ xs.length ∧ xs.length ≤ 3) ∧ okSrc m s' := by
  intro d
  induction d with
  | zero =>
    intro m s hd h
    exact nodeSels_one (by omega) (fun d' e => by omega) h
  | succ d ih =>
    intro m s hd h
    refine nodeSels_one hd ?_ h
    intro d' e m' s' h'
    have : d' = d := by omega
    subst this
    exact ih (by omega) h'
end Go.Proofs.Ytabomkmgnkjjfaa.Dm
