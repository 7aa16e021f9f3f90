/- A drawn value is right. -/
import Derived.Test.YtakbdjdafcjglaaGreatDoorG1
namespace Go.Proofs.YtakbdjdafcjglaaGreatDoor.Dm
set_option linter.unusedVariables false
set_option linter.unusedSimpArgs false

def dC : Nat → Nat
  | 0 => 3
  | d + 1 => 4 + 3 * dC d
def dN : Nat → Nat
  | 0 => 1
  | d + 1 => 1 + 3 * dN d
def keyN : List ByteArray := [⟨#[98]⟩, ⟨#[97]⟩, ⟨#[99]⟩]
structure Drawn (d : Nat) (o : GOut) : Prop where
  fine : fineO (d + 1) o = true
  cnt : cntO o ≤ dN d
  ok : okOut o
  ky : ∀ k n t ks is, o = .mk k n t ks is → ∀ s ∈ ks, s ∈ keyN
abbrev rGO (o : GOut) (s : Src) : Option Res := some ([.p (.agg 5 o.enc)], [.box 3 s.enc])
theorem gO {R : Type} (o : GOut) (s s' : Src) (K : List Pd → List Pd → Option R) : ((rGO o s').bind fun r => (asAgg 5 (pAt 0 r.1)).bind fun c => if r.1.length = 1 then ((asFbox 3 s.enc (r.2.getD 0 .none)).bind fun c' => if r.2.length = 1 then K c c' else none) else none) = K o.enc s'.enc := by
  simp [pAt, asAgg, fbox_enc]
theorem limK {R : Type} {n b : Nat} {X : Option R} (h : n * b ≤ 1000000) : (if n * b ≤ LIM then X else none) = X := if_pos (by unfold LIM; omega)
theorem keyN_get {i : Nat} (h : i < 3) : asStr (((keyN.map encS).getD ((i : Int).toNat) []).getD 0 .undef) = some (keyN.getD i ⟨#[]⟩) := by
  match i, h with
  | 0, _ => rfl
  | 1, _ => rfl
  | 2, _ => rfl
theorem keyN_name {i : Nat} (h : i < 3) : nameB (keyN.getD i ⟨#[]⟩) = true ∧ okS (keyN.getD i ⟨#[]⟩) := by
  match i, h with
  | 0, _ => exact ⟨by decide, by unfold okS; decide⟩
  | 1, _ => exact ⟨by decide, by unfold okS; decide⟩
  | 2, _ => exact ⟨by decide, by unfold okS; decide⟩
theorem keyN_inj {i j : Nat} (h : i < 3) (h' : j < i) : keyN.getD j ⟨#[]⟩ ≠ keyN.getD i ⟨#[]⟩ := by
  match i, h, j, h' with
  | 1, _, 0, _ => decide
  | 2, _, 0, _ => decide
  | 2, _, 1, _ => decide
theorem keyN_mem {i : Nat} (h : i < 3) : keyN.getD i ⟨#[]⟩ ∈ keyN := by
  match i, h with
  | 0, _ => simp [keyN]
  | 1, _ => simp [keyN]
  | 2, _ => simp [keyN]
theorem keysB_snoc : ∀ (ks pre : List ByteArray) (k : ByteArray), keysB pre ks = true → nameB k = true → k ∉ pre → k ∉ ks → keysB pre (ks ++ [k]) = true
  | [], pre, k, _, h1, h2, _ => by
    have : (pre.any fun x => decide (x = k)) = false := by
      cases e : pre.any fun x => decide (x = k) with
      | false => rfl
      | true =>
        obtain ⟨x, hx, q⟩ := List.any_eq_true.1 e
        exact absurd (of_decide_eq_true q ▸ hx) h2
    simp [keysB, h1, this]
  | a :: ks, pre, k, h, h1, h2, h3 => by
    simp only [keysB, List.cons_append, Bool.and_eq_true] at h ⊢
    refine ⟨h.1, h.2.1, keysB_snoc ks (pre ++ [a]) k h.2.2 h1 (fun q => ?_) (fun q => h3 (List.mem_cons_of_mem _ q))⟩
    rcases List.mem_append.1 q with q | q
    · exact h2 q
    · exact h3 (by rw [List.mem_singleton.1 q]; exact List.mem_cons_self ..)
theorem cntOs_snoc (xs : List GOut) (x : GOut) : cntOs (xs ++ [x]) = cntOs xs + cntO x := by
  induction xs with
  | nil => simp [cntOs]
  | cons y ys ih => simp only [List.cons_append, cntOs, ih]; omega
/-- what is gathered so far -/
structure Inv (d k i : Nat) (ks : List ByteArray) (is : List GOut) : Prop where
  k3 : k = 3 → ks = []
  k4 : k = 4 → ks.length = is.length
  kb : keysB [] ks = true
  ko : ∀ s ∈ ks, ∃ j, j < i ∧ s = keyN.getD j ⟨#[]⟩
  io : ∀ x ∈ is, Drawn d x
  ic : cntOs is ≤ i * dN d
  il : is.length ≤ i
  i3 : i ≤ 3
theorem Inv.skip {d k i : Nat} {ks : List ByteArray} {is : List GOut} (h : Inv d k i ks is) (hi : i < 3) : Inv d k (i + 1) ks is :=
  ⟨h.k3, h.k4, h.kb, fun s hs => by obtain ⟨j, q1, q2⟩ := h.ko s hs; exact ⟨j, by omega, q2⟩, h.io, by have := h.ic; rw [Nat.succ_mul]; omega, by have := h.il; omega, by omega⟩
theorem Inv.item {d i : Nat} {is : List GOut} (h : Inv d 3 i [] is) (hi : i < 3) {x : GOut} (hx : Drawn d x) : Inv d 3 (i + 1) [] (is ++ [x]) :=
  ⟨fun _ => rfl, fun q => by omega, rfl, (fun s hs => by cases hs), fun y hy => by
    rcases List.mem_append.1 hy with q | q
    · exact h.io y q
    · rw [List.mem_singleton.1 q]; exact hx, by have := h.ic; have := hx.cnt; rw [cntOs_snoc, Nat.succ_mul]; omega, by have := h.il; simp; omega, by omega⟩
theorem Inv.both {d i : Nat} {ks : List ByteArray} {is : List GOut} (h : Inv d 4 i ks is) (hi : i < 3) {x : GOut} (hx : Drawn d x) : Inv d 4 (i + 1) (ks ++ [keyN.getD i ⟨#[]⟩]) (is ++ [x]) :=
  ⟨fun q => by omega, fun _ => by simp [h.k4 rfl], keysB_snoc ks [] _ h.kb (keyN_name hi).1 (fun q => by cases q) (fun q => by
    obtain ⟨j, q1, q2⟩ := h.ko _ q
    exact keyN_inj hi q1 q2.symm), fun s hs => by
    rcases List.mem_append.1 hs with q | q
    · obtain ⟨j, q1, q2⟩ := h.ko s q; exact ⟨j, by omega, q2⟩
    · exact ⟨i, by omega, List.mem_singleton.1 q⟩, fun y hy => by
    rcases List.mem_append.1 hy with q | q
    · exact h.io y q
    · rw [List.mem_singleton.1 q]; exact hx, by have := h.ic; have := hx.cnt; rw [cntOs_snoc, Nat.succ_mul]; omega, by have := h.il; simp; omega, by omega⟩
theorem Inv.done {d k : Nat} {ks : List ByteArray} {is : List GOut} (hk : k = 3 ∨ k = 4) (h : Inv d k 3 ks is) : Drawn (d + 1) (.mk k 0 ⟨#[]⟩ ks is) := by
  refine ⟨?_, ?_, ⟨?_, ⟨?_, fun s hs => ?_⟩, ?_, okOuts_of fun x hx => (h.io x hx).ok⟩, fun k' n t ks' is' e s hs => ?_⟩
  · simp only [fineO, Bool.and_eq_true, h.kb, true_and]
    refine ⟨?_, List.all_eq_true.2 fun x hx => (h.io x hx).fine⟩
    rcases hk with rfl | rfl
    · simp [rightB, h.k3 rfl]
    · simp [rightB, h.k4 rfl]
  · have := h.ic
    simp only [cntO, dN]
    omega
  · show okS ⟨#[]⟩
    unfold okS; decide
  · have := h.il
    rcases hk with rfl | rfl
    · rw [h.k3 rfl]; simp
    · rw [h.k4 rfl]; omega
  · obtain ⟨j, q1, q2⟩ := h.ko s hs
    rw [q2]; exact (keyN_name q1).2
  · have := h.il; omega
  · injection e with _ _ _ e4 _
    subst e4
    obtain ⟨j, q1, q2⟩ := h.ko s hs
    rw [q2]; exact keyN_mem q1
section
variable {d : Nat} {j3 j4 : Int} {j5 : ByteArray}
theorem w_i {i : Nat} (h : i < 1000) : IntKind.i64.wrap ((i : Int) + 1) = ((i + 1 : Nat) : Int) := by
  rw [wrap64 (by omega)]; rfl
theorem w_d : IntKind.i64.wrap (((d + 1 : Nat) : Int) - 1) = (d : Int) ∨ 1000 ≤ d := by
  rcases Nat.lt_or_ge d 1000 with h | h
  · left; rw [wrap64 (by omega)]; omega
  · right; exact h
theorem index3 {R : Type} {i : Nat} (h : i < 3) (K : ByteArray → Option R) : (if 0 ≤ (i : Int) ∧ (i : Int) < (((keyN.map encS).length : Nat) : Int) then (if 1 = 1 ∧ ((i : Int).toNat) < (keyN.map encS).length ∧ 0 + 1 ≤ 1 then ((asStr (((keyN.map encS).getD ((i : Int).toNat) []).getD 0 .undef)).bind K) else none) else none) = K (keyN.getD i ⟨#[]⟩) := by
  have hl : (keyN.map encS).length = 3 := rfl
  rw [hl, if_pos (by omega), if_pos (by omega), keyN_get h, Option.bind_some]
variable (rec_ : ∀ (m : Nat) (s : Src), okSrc (m + dC d) s → ∃ o s', ev E0 F_spec_l00Src_out [.ptr (.out 0) 0, .p (.int .i64 d)] [.box 3 s.enc] = rGO o s' ∧ Drawn d o ∧ okSrc m s') (hd : d < 1000)
include rec_ hd
/-- a list's items, once there is one -/
theorem loop9 : ∀ (j i : Nat) (is : List GOut) (m : Nat) (s : Src), i + j = 3 → Inv d 3 i [] is → okSrc (m + j * (1 + dC d)) s →
    ∃ o s', spec_l00Src_out_9 ((d + 1 : Nat) : Int) 3 i j3 j4 j5 3 0 ⟨#[]⟩ (is.map GOut.enc) s.enc = rGO o s' ∧ Drawn (d + 1) o ∧ okSrc m s'
  | 0, i, is, m, s, h, hi, ho => by
    have : i = 3 := by omega
    subst this
    rw [spec_l00Src_out_9_eq, decide_eq_false (by omega), cond_false]
    refine ⟨.mk 3 0 ⟨#[]⟩ [] is, s, ?_, hi.done (.inl rfl), ho.le (by omega)⟩
    simp only [rGO, GOut.enc, GOut.encs_eq, List.map_nil]
  | j + 1, i, is, m, s, h, hi, ho => by
    have hwd := (w_d (d := d)).resolve_right (by omega)
    rw [spec_l00Src_out_9_eq, decide_eq_true (by omega), cond_true]
    obtain ⟨b, s1, e1, o1⟩ := chance_ev (m := m + j * (1 + dC d) + dC d) (n := 2) (by omega) (ho.le (by rw [Nat.succ_mul]; omega))
    rw [e1, gB, fill_enc]
    cases b with
    | false =>
      rw [cond_false, spec_l00Src_out_7_eq, w_i (by omega)]
      exact loop9 j (i + 1) is m s1 (by omega) (hi.skip (by omega)) (o1.le (by omega))
    | true =>
      rw [cond_true, show (((3 : Int) == 4)) = false from rfl, cond_false, spec_l00Src_out_11_eq, hwd]
      obtain ⟨x, s2, e2, hx, o2⟩ := rec_ (m + j * (1 + dC d)) s1 o1
      have hl := hi.il
      rw [e2, gO, limK (by simp; omega), fill_enc, spec_l00Src_out_7_eq, w_i (by omega)]
      have := loop9 j (i + 1) (is ++ [x]) m s2 (by omega) (hi.item (by omega) hx) o2
      rw [List.map_append] at this
      exact this
/-- a list's items -/
theorem loop2l : ∀ (j i : Nat) (m : Nat) (s : Src), i + j = 3 → okSrc (m + j * (1 + dC d)) s →
    ∃ o s', spec_l00Src_out_2 ((d + 1 : Nat) : Int) 3 i j3 j4 j5 3 0 ⟨#[]⟩ s.enc = rGO o s' ∧ Drawn (d + 1) o ∧ okSrc m s' := by
  have inv : ∀ i, i ≤ 3 → Inv d 3 i [] [] := fun i h => ⟨fun _ => rfl, fun q => by omega, rfl, (fun s hs => by cases hs), (fun x hx => by cases hx), by simp [cntOs], by simp, h⟩
  intro j
  induction j with
  | zero =>
    intro i m s h ho
    have : i = 3 := by omega
    subst this
    rw [spec_l00Src_out_2_eq, decide_eq_false (by omega), cond_false]
    exact ⟨.mk 3 0 ⟨#[]⟩ [] [], s, rfl, (inv 3 (by omega)).done (.inl rfl), ho.le (by omega)⟩
  | succ j ih =>
    intro i m s h ho
    have hwd := (w_d (d := d)).resolve_right (by omega)
    rw [spec_l00Src_out_2_eq, decide_eq_true (by omega), cond_true]
    obtain ⟨b, s1, e1, o1⟩ := chance_ev (m := m + j * (1 + dC d) + dC d) (n := 2) (by omega) (ho.le (by rw [Nat.succ_mul]; omega))
    rw [e1, gB, fill_enc]
    cases b with
    | false =>
      rw [cond_false, spec_l00Src_out_5_eq, w_i (by omega)]
      exact ih (i + 1) m s1 (by omega) (o1.le (by omega))
    | true =>
      rw [cond_true, show (((3 : Int) == 4)) = false from rfl, cond_false, spec_l00Src_out_4_eq, hwd]
      obtain ⟨x, s2, e2, hx, o2⟩ := rec_ (m + j * (1 + dC d)) s1 o1
      rw [e2, gO, limK (by simp), fill_enc, spec_l00Src_out_7_eq, w_i (by omega)]
      exact loop9 rec_ hd j (i + 1) [x] m s2 (by omega) ((inv i (by omega)).item (by omega) hx) o2
/-- an object's, once there is one -/
theorem loop8 : ∀ (j i : Nat) (ks : List ByteArray) (is : List GOut) (m : Nat) (s : Src), i + j = 3 → Inv d 4 i ks is → okSrc (m + j * (1 + dC d)) s →
    ∃ o s', spec_l00Src_out_8 ((d + 1 : Nat) : Int) 4 i j3 j4 j5 4 0 ⟨#[]⟩ (ks.map encS) (is.map GOut.enc) s.enc = rGO o s' ∧ Drawn (d + 1) o ∧ okSrc m s'
  | 0, i, ks, is, m, s, h, hi, ho => by
    have : i = 3 := by omega
    subst this
    rw [spec_l00Src_out_8_eq, decide_eq_false (by omega), cond_false]
    refine ⟨.mk 4 0 ⟨#[]⟩ ks is, s, ?_, hi.done (.inr rfl), ho.le (by omega)⟩
    simp only [rGO, GOut.enc, GOut.encs_eq]
  | j + 1, i, ks, is, m, s, h, hi, ho => by
    have hwd := (w_d (d := d)).resolve_right (by omega)
    rw [spec_l00Src_out_8_eq, decide_eq_true (by omega), cond_true]
    obtain ⟨b, s1, e1, o1⟩ := chance_ev (m := m + j * (1 + dC d) + dC d) (n := 2) (by omega) (ho.le (by rw [Nat.succ_mul]; omega))
    rw [e1, gB, fill_enc]
    cases b with
    | false =>
      rw [cond_false, spec_l00Src_out_6_eq, w_i (by omega)]
      exact loop8 j (i + 1) ks is m s1 (by omega) (hi.skip (by omega)) (o1.le (by omega))
    | true =>
      have hl := hi.il
      have hkl := hi.k4 rfl
      rw [cond_true, show (((4 : Int) == 4)) = true from rfl, cond_true]
      obtain ⟨x, s2, e2, hx, o2⟩ := rec_ (m + j * (1 + dC d)) s1 o1
      obtain ⟨o, s', q1, q2, q3⟩ := loop8 j (i + 1) (ks ++ [keyN.getD i ⟨#[]⟩]) (is ++ [x]) m s2 (by omega) (hi.both (by omega) hx) o2
      refine ⟨o, s', (index3 (i := i) (by omega) _).trans ?_, q2, q3⟩
      rw [limK (by simp; omega), spec_l00Src_out_10_eq, hwd, e2, gO, limK (by simp; omega), fill_enc, spec_l00Src_out_6_eq, w_i (by omega)]
      rw [List.map_append, List.map_append] at q1
      exact q1
theorem loop2o : ∀ (j i : Nat) (m : Nat) (s : Src), i + j = 3 → okSrc (m + j * (1 + dC d)) s →
    ∃ o s', spec_l00Src_out_2 ((d + 1 : Nat) : Int) 4 i j3 j4 j5 4 0 ⟨#[]⟩ s.enc = rGO o s' ∧ Drawn (d + 1) o ∧ okSrc m s' := by
  have inv : ∀ i, i ≤ 3 → Inv d 4 i [] [] := fun i h => ⟨fun _ => rfl, fun _ => rfl, rfl, (fun s hs => by cases hs), (fun x hx => by cases hx), by simp [cntOs], by simp, h⟩
  intro j
  induction j with
  | zero =>
    intro i m s h ho
    have : i = 3 := by omega
    subst this
    rw [spec_l00Src_out_2_eq, decide_eq_false (by omega), cond_false]
    exact ⟨.mk 4 0 ⟨#[]⟩ [] [], s, rfl, (inv 3 (by omega)).done (.inr rfl), ho.le (by omega)⟩
  | succ j ih =>
    intro i m s h ho
    have hwd := (w_d (d := d)).resolve_right (by omega)
    rw [spec_l00Src_out_2_eq, decide_eq_true (by omega), cond_true]
    obtain ⟨b, s1, e1, o1⟩ := chance_ev (m := m + j * (1 + dC d) + dC d) (n := 2) (by omega) (ho.le (by rw [Nat.succ_mul]; omega))
    rw [e1, gB, fill_enc]
    cases b with
    | false =>
      rw [cond_false, spec_l00Src_out_5_eq, w_i (by omega)]
      exact ih (i + 1) m s1 (by omega) (o1.le (by omega))
    | true =>
      rw [cond_true, show (((4 : Int) == 4)) = true from rfl, cond_true]
      obtain ⟨x, s2, e2, hx, o2⟩ := rec_ (m + j * (1 + dC d)) s1 o1
      obtain ⟨o, s', q1, q2, q3⟩ := loop8 rec_ hd j (i + 1) [keyN.getD i ⟨#[]⟩] [x] m s2 (by omega) ((inv i (by omega)).both (by omega) hx) o2
      refine ⟨o, s', (index3 (i := i) (by omega) _).trans ?_, q2, q3⟩
      rw [limK (by simp), spec_l00Src_out_3_eq, hwd, e2, gO, limK (by simp), fill_enc, spec_l00Src_out_6_eq, w_i (by omega)]
      exact q1
end
/-- a value without parts -/
theorem plain_ev {d : Nat} {n0 : Int} {j3 j4 : Int} {j5 : ByteArray} {k : Int} (hk : k = 0 ∨ k = 1 ∨ k = 2) {m : Nat} {s : Src} (h : okSrc (m + 1) s) : ∃ o s', spec_l00Src_out_1 n0 k j3 j4 j5 s.enc = rGO o s' ∧ Drawn d o ∧ okSrc m s' := by
  have h1 : 1 ≤ dN d := by cases d <;> simp [dN]
  have e0 : okS ⟨#[]⟩ := by unfold okS; decide
  have enil : okL okS [] := ⟨by simp, (fun s hs => by cases hs)⟩
  have mk : ∀ (k n : Int) (t : ByteArray), rightB k n t 0 0 = true → okS t → Drawn d (.mk k n t [] []) := fun k n t q1 q2 =>
    ⟨by simp [fineO, q1, keysB], by simpa [cntO, cntOs] using h1, ⟨q2, enil, by simp, trivial⟩, fun k' n' t' ks' is' e s hs => by
      injection e with _ _ _ e4 _
      subst e4; cases hs⟩
  rw [spec_l00Src_out_1_eq]
  rcases hk with rfl | rfl | rfl
  · rw [show ((0 : Int) == 0) = true from rfl, cond_true]
    exact ⟨.mk 0 0 ⟨#[]⟩ [] [], s, rfl, mk 0 0 _ rfl e0, h.le (by omega)⟩
  · rw [show ((1 : Int) == 0) = false from rfl, cond_false, show ((1 : Int) == 1) = true from rfl, cond_true]
    obtain ⟨v, s', e, hv, ho⟩ := next_ev (n := 20) (by omega) h
    rw [e, gI, fill_enc, wrap64 (by omega)]
    refine ⟨.mk 1 (v - 5) ⟨#[]⟩ [] [], s', rfl, mk 1 (v - 5) _ ?_ e0, ho⟩
    simp only [rightB]
    simp [withinB]
    omega
  · rw [show ((2 : Int) == 0) = false from rfl, cond_false, show ((2 : Int) == 1) = false from rfl, cond_false, show ((2 : Int) == 2) = true from rfl, cond_true]
    obtain ⟨v, s', e, hv, ho⟩ := pick_ev (ws := [⟨#[78, 111, 100, 101]⟩, ⟨#[81, 117, 101, 114, 121]⟩]) (by simp) (by simp) h
    have e : ev E0 F_spec_l00Src_pick [.ptr (.out 0) 0, .p (.sl 1 ([[.str (⟨#[78, 111, 100, 101]⟩ : ByteArray)], [.str (⟨#[81, 117, 101, 114, 121]⟩ : ByteArray)]] : List (List Pd)))] [.box 3 s.enc] = rGS v s' := e
    rw [e, gS, fill_enc]
    refine ⟨.mk 2 0 v [] [], s', rfl, mk 2 0 v ?_ ?_, ho⟩
    · have : nameB v = true := by
        rcases List.mem_cons.1 hv with rfl | hv
        · decide
        · rw [List.mem_singleton.1 hv]; decide
      simp [rightB, this]
    · rcases List.mem_cons.1 hv with rfl | hv
      · unfold okS; decide
      · rw [List.mem_singleton.1 hv]; unfold okS; decide
/-- WHAT IS DRAWN IS RIGHT. -/
theorem out_ev : ∀ (d : Nat), d < 1000 → ∀ (m : Nat) (s : Src), okSrc (m + dC d) s → ∃ o s', ev E0 F_spec_l00Src_out [.ptr (.out 0) 0, .p (.int .i64 d)] [.box 3 s.enc] = rGO o s' ∧ Drawn d o ∧ okSrc m s'
  | 0, _, m, s, h => by
    rw [spec_l00Src_out_0_ev, spec_l00Src_out_0_eq]
    obtain ⟨v, s1, e1, _, o1⟩ := next_ev (m := m + 2) (n := 5) (by omega) (h.le (by simp [dC]))
    rw [e1, gI, fill_enc, show (((0 : Nat) : Int) == 0) = true from rfl, cond_true]
    obtain ⟨k, s2, e2, hk, o2⟩ := next_ev (m := m + 1) (n := 3) (by omega) o1
    rw [e2, gI, fill_enc]
    exact plain_ev (by omega) o2
  | d + 1, hd, m, s, h => by
    rw [spec_l00Src_out_0_ev, spec_l00Src_out_0_eq]
    obtain ⟨k, s1, e1, hk, o1⟩ := next_ev (m := m + 3 * (1 + dC d)) (n := 5) (by omega) (h.le (by simp [dC]; omega))
    rw [e1, gI, fill_enc, show (((d + 1 : Nat) : Int) == 0) = false by rw [beq_int]; exact decide_eq_false (by omega), cond_false]
    have rc := out_ev d (by omega)
    by_cases h3 : k = 3
    · subst h3
      rw [spec_l00Src_out_1_eq, show ((3 : Int) == 0) = false from rfl, cond_false, show ((3 : Int) == 1) = false from rfl, cond_false, show ((3 : Int) == 2) = false from rfl, cond_false]
      exact loop2l rc (by omega) 3 0 m s1 rfl o1
    · by_cases h4 : k = 4
      · subst h4
        rw [spec_l00Src_out_1_eq, show ((4 : Int) == 0) = false from rfl, cond_false, show ((4 : Int) == 1) = false from rfl, cond_false, show ((4 : Int) == 2) = false from rfl, cond_false]
        exact loop2o rc (by omega) 3 0 m s1 rfl o1
      · exact plain_ev (by omega) (o1.le (by omega))
theorem OutDrawn_ev {code : List Int} (h : ∀ n ∈ code, 0 ≤ n ∧ n < 256) (hl : code.length ≤ 1152921504606846976) : ∃ o, ev E0 F_spec_OutDrawn [.p (.sl 1 (code.map encB))] [] = rA 5 o.enc ∧ Drawn 3 o := by
  rw [spec_OutDrawn_0_ev, spec_OutDrawn_0_eq, source_ev, Option.bind_some]
  obtain ⟨o, s', e, hd, _⟩ := out_ev 3 (by omega) 0 _ (source_ok h hl (m := 0 + dC 3) (by decide))
  refine ⟨o, ?_, hd⟩
  have a1 : asBoxN 3 (([.box 3 (Src.enc ⟨code, 0, (code.length : Int).tmod 1000⟩)] : List Ob).getD 0 .none) = some (Src.enc ⟨code, 0, (code.length : Int).tmod 1000⟩) := rfl
  dsimp only
  rw [a1, Option.bind_some, if_pos (by simp [isPtr0])]
  have e : ev E0 F_spec_l00Src_out [.ptr (.out 0) 0, .p (.int .i64 3)] [.box 3 (Src.enc ⟨code, 0, (code.length : Int).tmod 1000⟩)] = rGO o s' := e
  rw [e, gO]
end Go.Proofs.YtakbdjdafcjglaaGreatDoor.Dm
