/- For every document the laws FnExactDocSize and FnExactDocDepth return true. -/
import Derived.Test.YtddlcoogocgfcaaT6
namespace Go.Proofs.Ytddlcoogocgfcaa.Dm
set_option linter.unusedVariables false
set_option linter.unusedSimpArgs false

theorem cnts_drop {xs : List GSel} {i : Nat} {x : GSel} (h : xs[i]? = some x) : cnts (xs.drop i) = 1 + cnts x.subs + cnts (xs.drop (i + 1)) := by
  have hlt := lt_of_get h
  rw [List.drop_eq_getElem_cons hlt]
  have : xs[i] = x := by
    have := List.getElem?_eq_getElem hlt
    rw [h] at this
    injection this with this
    exact this.symm
  rw [this, cnts, cntS_eq]
theorem cnts_le_drop : ∀ (xs : List GSel) (i : Nat), cnts (xs.drop i) ≤ cnts xs
  | [], i => by simp [cnts]
  | x :: xs, 0 => Nat.le_refl _
  | x :: xs, i + 1 => by
    have := cnts_le_drop xs i
    simp only [List.drop_succ_cons, cnts]
    omega
theorem cnts_len : ∀ (xs : List GSel), xs.length ≤ cnts xs
  | [] => by simp [cnts]
  | x :: xs => by
    have := cnts_len xs
    simp only [List.length_cons, cnts, cntS_eq]
    omega
/-! how deep -/
mutual
def depS : GSel → Nat
  | .mk _ _ _ _ _ ss => 1 + depL ss
def depL : List GSel → Nat
  | [] => 0
  | x :: xs => max (depS x) (depL xs)
end
theorem depS_eq (x : GSel) : depS x = 1 + depL x.subs := by cases x; simp [depS, GSel.subs]
theorem dep_le : ∀ (m : Nat) (xs : List GSel), cnts xs ≤ m → depL xs ≤ m
  | m, [], h => by simp [depL]
  | 0, x :: xs, h => by simp [cnts, cntS_eq] at h
  | m + 1, x :: xs, h => by
    simp only [cnts, cntS_eq] at h
    have h1 := dep_le m x.subs (by omega)
    have h2 := dep_le m xs (by omega)
    simp only [depL, depS_eq]
    omega
theorem depL_get : ∀ {xs : List GSel} {i : Nat} {x : GSel}, xs[i]? = some x → depL (xs.drop i) = max (1 + depL x.subs) (depL (xs.drop (i + 1))) := by
  intro xs i x h
  have hlt := lt_of_get h
  rw [List.drop_eq_getElem_cons hlt]
  have : xs[i] = x := by
    have := List.getElem?_eq_getElem hlt
    rw [h] at this
    injection this with this
    exact this.symm
  rw [this, depL, depS_eq]
theorem enc_get5' (x : GSel) : asSl 6 (((GSel.enc x).drop 5).getD 0 .undef) = some (x.subs.map GSel.enc) := by
  cases x with
  | mk k a n ar ds ss =>
    unfold GSel.enc
    rw [GSel.encs_eq]
    rfl
theorem ifmax (a b : Nat) : (if (a : Int) > (b : Int) then (a : Int) else (b : Int)) = ((max b a : Nat) : Int) := by
  split <;> omega
theorem sizeOf_ev : ∀ (m : Nat) (xs : List GSel), cnts xs ≤ m → m ≤ 60 → ev E0 F_impl_sizeOf [.p (.sl 6 (xs.map GSel.enc))] [] = rI (cnts xs) := by
  intro m
  induction m with
  | zero =>
    intro xs h hm
    have : xs = [] := cnts_zero.1 (by omega)
    subst this
    rw [impl_sizeOf_0_ev, impl_sizeOf_0_eq, impl_sizeOf_1_eq]
    simp [cnts]
  | succ m ihm =>
    intro xs h hm
    have hlen : (xs.map GSel.enc).length = xs.length := by simp
    have hcl := cnts_len xs
    have loop : ∀ (k i n : Nat), i + k = xs.length → n + (cnts (xs.drop i) - k) ≤ 200 → impl_sizeOf_1 n (xs.map GSel.enc) xs.length i = rI ((n + (cnts (xs.drop i) - k) : Nat)) := by
      intro k
      induction k with
      | zero =>
        intro i n h hn
        have : i = xs.length := by omega
        subst this
        rw [impl_sizeOf_1_eq, List.drop_length, decide_eq_false (by omega), cond_false]
        simp [cnts]
      | succ k ih =>
        intro i n h' hn
        have hlt : i < xs.length := by omega
        have hg : xs[i]? = some xs[i] := List.getElem?_eq_getElem hlt
        rw [impl_sizeOf_1_eq, hlen, decide_eq_true (by omega), cond_true, if_pos (by omega), getD_enc hg]
        generalize xs[i] = x at hg ⊢
        have hc := cnts_drop hg
        have hd := cnts_le_drop xs i
        have hl := cnts_len (xs.drop (i + 1))
        rw [List.length_drop] at hl
        rw [enc_get5, Option.bind_some, ihm x.subs (by omega) (by omega), bI]
        have e1 : IntKind.i64.wrap ((n : Int) + (cnts x.subs : Int)) = ((n + cnts x.subs : Nat) : Int) := by rw [wrap_id (by omega)]; omega
        have e2 : IntKind.i64.wrap ((i : Int) + 1) = ((i + 1 : Nat) : Int) := by rw [wrap_id (by omega)]; omega
        rw [e1, e2, ih (i + 1) (n + cnts x.subs) (by omega) (by omega)]
        have : n + cnts x.subs + (cnts (xs.drop (i + 1)) - k) = n + (cnts (xs.drop i) - (k + 1)) := by omega
        rw [this]
    have := loop xs.length 0 xs.length (by omega) (by rw [List.drop_zero]; omega)
    rw [List.drop_zero] at this
    have e0 : ((0 : Nat) : Int) = 0 := rfl
    rw [e0] at this
    rw [impl_sizeOf_0_ev, impl_sizeOf_0_eq, hlen, this]
    have : xs.length + (cnts xs - xs.length) = cnts xs := by omega
    rw [this]
theorem spec_depth_ev : ∀ (m : Nat) (xs : List GSel), cnts xs ≤ m → m ≤ 60 → ev E0 F_spec_l02Depth [.p (.sl 6 (xs.map GSel.enc))] [] = rI (depL xs) := by
  intro m
  induction m with
  | zero =>
    intro xs h hm
    have : xs = [] := cnts_zero.1 (by omega)
    subst this
    rw [spec_l02Depth_0_ev, spec_l02Depth_0_eq, spec_l02Depth_1_eq]
    simp [depL]
  | succ m ihm =>
    intro xs h hm
    have hlen : (xs.map GSel.enc).length = xs.length := by simp
    have hcl := cnts_len xs
    have loop : ∀ (k i n : Nat), i + k = xs.length → spec_l02Depth_1 (xs.map GSel.enc) n i = rI ((max n (depL (xs.drop i)) : Nat)) := by
      intro k
      induction k with
      | zero =>
        intro i n h
        have : i = xs.length := by omega
        subst this
        rw [spec_l02Depth_1_eq, hlen, List.drop_length, decide_eq_false (by omega), cond_false]
        simp [depL]
      | succ k ih =>
        intro i n h'
        have hlt : i < xs.length := by omega
        have hg : xs[i]? = some xs[i] := List.getElem?_eq_getElem hlt
        rw [spec_l02Depth_1_eq, hlen, decide_eq_true (by omega), cond_true, if_pos (by omega), getD_enc hg]
        generalize xs[i] = x at hg ⊢
        have hc := cnts_drop hg
        have hd := cnts_le_drop xs i
        have hdp := dep_le m x.subs (by omega)
        rw [enc_get5', Option.bind_some, ihm x.subs (by omega) (by omega), bI]
        have e1 : IntKind.i64.wrap (1 + (depL x.subs : Int)) = ((1 + depL x.subs : Nat) : Int) := by rw [wrap_id (by omega)]; omega
        have e2 : IntKind.i64.wrap ((i : Int) + 1) = ((i + 1 : Nat) : Int) := by rw [wrap_id (by omega)]; omega
        rw [e1, e2, ifmax, ih (i + 1) _ (by omega), depL_get hg, Nat.max_assoc]
    have := loop xs.length 0 0 (by omega)
    rw [List.drop_zero] at this
    have e0 : ((0 : Nat) : Int) = 0 := rfl
    rw [e0] at this
    rw [spec_l02Depth_0_ev, spec_l02Depth_0_eq, this]
    simp
theorem impl_depth_ev : ∀ (m : Nat) (xs : List GSel), cnts xs ≤ m → m ≤ 60 → ev E0 F_impl_depthOf [.p (.sl 6 (xs.map GSel.enc))] [] = rI (depL xs) := by
  intro m
  induction m with
  | zero =>
    intro xs h hm
    have : xs = [] := cnts_zero.1 (by omega)
    subst this
    rw [impl_depthOf_0_ev, impl_depthOf_0_eq]
    simp [depL]
  | succ m ihm =>
    intro xs h hm
    have hlen : (xs.map GSel.enc).length = xs.length := by simp
    have hcl := cnts_len xs
    have hdx := dep_le (m + 1) xs h
    have loop : ∀ (k i n : Nat), i + k = xs.length → n ≤ 60 → impl_depthOf_1 n (xs.map GSel.enc) xs.length i = rI ((max (n + 1) (depL (xs.drop i)) : Nat)) := by
      intro k
      induction k with
      | zero =>
        intro i n h hn
        have : i = xs.length := by omega
        subst this
        rw [impl_depthOf_1_eq, List.drop_length, decide_eq_false (by omega), cond_false, wrap_id (by omega)]
        simp [depL]
      | succ k ih =>
        intro i n h' hn
        have hlt : i < xs.length := by omega
        have hg : xs[i]? = some xs[i] := List.getElem?_eq_getElem hlt
        rw [impl_depthOf_1_eq, hlen, decide_eq_true (by omega), cond_true, if_pos (by omega), getD_enc hg]
        generalize xs[i] = x at hg ⊢
        have hc := cnts_drop hg
        have hd := cnts_le_drop xs i
        have hdp := dep_le m x.subs (by omega)
        rw [enc_get5, Option.bind_some, ihm x.subs (by omega) (by omega), bI]
        have e2 : IntKind.i64.wrap ((i : Int) + 1) = ((i + 1 : Nat) : Int) := by rw [wrap_id (by omega)]; omega
        rw [e2, ifmax, ih (i + 1) _ (by omega) (by omega), depL_get hg]
        have : max (max n (depL x.subs) + 1) (depL (xs.drop (i + 1))) = max (n + 1) (max (1 + depL x.subs) (depL (xs.drop (i + 1)))) := by omega
        rw [this]
    rw [impl_depthOf_0_ev, impl_depthOf_0_eq, hlen, int_eq0]
    cases xs with
    | nil => simp [depL]
    | cons x xs =>
      have := loop (x :: xs).length 0 0 (by omega) (by omega)
      rw [List.drop_zero] at this
      have e0 : ((0 : Nat) : Int) = 0 := rfl
      rw [e0] at this
      rw [decide_eq_false (by simp), cond_false, this]
      have : max (0 + 1) (depL (x :: xs)) = depL (x :: xs) := by simp only [depL, depS_eq]; omega
      rw [this]
abbrev r2i (n c : Int) : Option Res := some ([.p (.int .i64 n), .p (.int .i64 c)], [])
theorem b2i {R : Type} (n c : Int) (K : Int → Int → Option R) : ((r2i n c).bind fun r => (asInt .i64 (pAt 0 r.1)).bind fun n => (asInt .i64 (pAt 1 r.1)).bind fun b => if r.1.length = 2 then K n b else none) = K n c := by simp [pAt, asInt]
theorem total_drop {xs : List GDef} {i : Nat} {d : GDef} (h : xs[i]? = some d) : total (xs.drop i) = cnts d.sels + total (xs.drop (i + 1)) := by
  have hlt := lt_of_get h
  rw [List.drop_eq_getElem_cons hlt]
  have : xs[i] = d := by
    have := List.getElem?_eq_getElem hlt
    rw [h] at this
    injection this with this
    exact this.symm
  rw [this]
  simp [total]
theorem total_mem {xs : List GDef} {d : GDef} (h : d ∈ xs) : cnts d.sels ≤ total xs := le_sum (List.mem_map_of_mem (f := fun d => cnts d.sels) h)
def depT : List GDef → Nat
  | [] => 0
  | d :: ds => max (depL d.sels) (depT ds)
theorem depT_drop {xs : List GDef} {i : Nat} {d : GDef} (h : xs[i]? = some d) : depT (xs.drop i) = max (depL d.sels) (depT (xs.drop (i + 1))) := by
  have hlt := lt_of_get h
  rw [List.drop_eq_getElem_cons hlt]
  have : xs[i] = d := by
    have := List.getElem?_eq_getElem hlt
    rw [h] at this
    injection this with this
    exact this.symm
  rw [this, depT]
theorem docB_facts {xs : List GDef} (h : docB xs = true) : total xs ≤ 60 ∧ ∀ d ∈ xs, fine 7 d.sels = true ∧ cnts d.sels ≤ 60 := by
  unfold docB at h
  simp only [Bool.and_eq_true, decide_eq_true_eq, List.all_eq_true] at h
  obtain ⟨_, h1, h2⟩ := h
  refine ⟨h2, fun d hd => ⟨?_, Nat.le_trans (total_mem hd) h2⟩⟩
  have := h1 d hd
  unfold defB at this
  simp only [Bool.and_eq_true] at this
  exact this.2
theorem sels_drop3 (d : GDef) : asSl 6 ((d.enc.drop 3).getD 0 .undef) = some (d.sels.map GSel.enc) := rfl
theorem sels_get3 (d : GDef) : asSl 6 (d.enc.getD 3 .undef) = some (d.sels.map GSel.enc) := rfl
theorem spec_DocSize_ev {xs : List GDef} (hx : okL okDef xs) : ev E0 F_spec_DocSize [.p (.agg 1 [.sl 4 (xs.map GDef.enc)])] [] = if docB xs = true then r2i (total xs) 0 else r2i 0 1 := by
  have hlen : (xs.map GDef.enc).length = xs.length := by simp
  have hxl := hx.1
  rw [spec_DocSize_0_ev, spec_DocSize_0_eq, spec_DocOK_ev hx, bB]
  cases hb : docB xs with
  | false => rfl
  | true =>
    obtain ⟨ht, hf⟩ := docB_facts hb
    rw [Bool.not_true, cond_false, if_pos rfl]
    have loop : ∀ (k i n : Nat), i + k = xs.length → n + total (xs.drop i) ≤ 60 → spec_DocSize_1 n i (xs.map GDef.enc) = r2i ((n + total (xs.drop i) : Nat)) 0 := by
      intro k
      induction k with
      | zero =>
        intro i n h hn
        have : i = xs.length := by omega
        subst this
        rw [spec_DocSize_1_eq, hlen, List.drop_length, decide_eq_false (by omega), cond_false]
        simp [total]
      | succ k ih =>
        intro i n h hn
        have hlt : i < xs.length := by omega
        have hg : xs[i]? = some xs[i] := List.getElem?_eq_getElem hlt
        have hd := hf xs[i] (List.getElem_mem _)
        have hok := hx.2 xs[i] (List.getElem_mem _)
        rw [spec_DocSize_1_eq, hlen, decide_eq_true (by omega), cond_true, if_pos (by omega), getD_enc hg]
        generalize xs[i] = d at hg hd hok ⊢
        have hl := l02Sels_ev 7 d.sels (by omega) hok.2.2
        have e7 : ((7 : Nat) : Int) = 7 := rfl
        rw [e7, if_pos hd] at hl
        have htd := total_drop hg
        rw [sels_drop3, Option.bind_some, hl, b2]
        have e1 : IntKind.i64.wrap ((n : Int) + (cnts d.sels : Int)) = ((n + cnts d.sels : Nat) : Int) := by rw [wrap_id (by omega)]; omega
        have e2 : IntKind.i64.wrap ((i : Int) + 1) = ((i + 1 : Nat) : Int) := by rw [wrap_id (by omega)]; omega
        rw [e1, e2, ih (i + 1) (n + cnts d.sels) (by omega) (by omega), htd, Nat.add_assoc]
    have := loop xs.length 0 0 (by omega) (by rw [List.drop_zero]; omega)
    have e0 : ((0 : Nat) : Int) = 0 := rfl
    rw [e0, List.drop_zero, Nat.zero_add] at this
    exact this
theorem impl_DocSize_ev {xs : List GDef} (hx : okL okDef xs) : ev E0 F_impl_DocSize [.p (.agg 1 [.sl 4 (xs.map GDef.enc)])] [] = if docB xs = true then r2i (total xs) 0 else r2i 0 1 := by
  have hlen : (xs.map GDef.enc).length = xs.length := by simp
  have hxl := hx.1
  rw [impl_DocSize_0_ev, impl_DocSize_0_eq, impl_DocOK_ev hx, bB]
  cases hb : docB xs with
  | false => rfl
  | true =>
    obtain ⟨ht, hf⟩ := docB_facts hb
    rw [Bool.not_true, cond_false, if_pos rfl, hlen]
    have loop : ∀ (k i n : Nat), i + k = xs.length → n + total (xs.drop i) ≤ 60 → impl_DocSize_1 n (xs.map GDef.enc) xs.length i = r2i ((n + total (xs.drop i) : Nat)) 0 := by
      intro k
      induction k with
      | zero =>
        intro i n h hn
        have : i = xs.length := by omega
        subst this
        rw [impl_DocSize_1_eq, List.drop_length, decide_eq_false (by omega), cond_false]
        simp [total]
      | succ k ih =>
        intro i n h hn
        have hlt : i < xs.length := by omega
        have hg : xs[i]? = some xs[i] := List.getElem?_eq_getElem hlt
        have hd := hf xs[i] (List.getElem_mem _)
        rw [impl_DocSize_1_eq, hlen, decide_eq_true (by omega), cond_true, if_pos (by omega), getD_enc hg]
        generalize xs[i] = d at hg hd ⊢
        have htd := total_drop hg
        rw [sels_get3, Option.bind_some, sizeOf_ev 60 d.sels hd.2 (by omega), bI]
        have e1 : IntKind.i64.wrap ((n : Int) + (cnts d.sels : Int)) = ((n + cnts d.sels : Nat) : Int) := by rw [wrap_id (by omega)]; omega
        have e2 : IntKind.i64.wrap ((i : Int) + 1) = ((i + 1 : Nat) : Int) := by rw [wrap_id (by omega)]; omega
        rw [e1, e2, ih (i + 1) (n + cnts d.sels) (by omega) (by omega), htd, Nat.add_assoc]
    have := loop xs.length 0 0 (by omega) (by rw [List.drop_zero]; omega)
    have e0 : ((0 : Nat) : Int) = 0 := rfl
    rw [e0, List.drop_zero, Nat.zero_add] at this
    exact this
theorem spec_DocDepth_ev {xs : List GDef} (hx : okL okDef xs) : ev E0 F_spec_DocDepth [.p (.agg 1 [.sl 4 (xs.map GDef.enc)])] [] = if docB xs = true then r2i (depT xs) 0 else r2i 0 1 := by
  have hlen : (xs.map GDef.enc).length = xs.length := by simp
  have hxl := hx.1
  rw [spec_DocDepth_0_ev, spec_DocDepth_0_eq, spec_DocOK_ev hx, bB]
  cases hb : docB xs with
  | false => rfl
  | true =>
    obtain ⟨ht, hf⟩ := docB_facts hb
    rw [Bool.not_true, cond_false, if_pos rfl]
    have loop : ∀ (k i n : Nat), i + k = xs.length → spec_DocDepth_1 n i (xs.map GDef.enc) = r2i ((max n (depT (xs.drop i)) : Nat)) 0 := by
      intro k
      induction k with
      | zero =>
        intro i n h
        have : i = xs.length := by omega
        subst this
        rw [spec_DocDepth_1_eq, hlen, List.drop_length, decide_eq_false (by omega), cond_false]
        simp [depT]
      | succ k ih =>
        intro i n h
        have hlt : i < xs.length := by omega
        have hg : xs[i]? = some xs[i] := List.getElem?_eq_getElem hlt
        have hd := hf xs[i] (List.getElem_mem _)
        rw [spec_DocDepth_1_eq, hlen, decide_eq_true (by omega), cond_true, if_pos (by omega), getD_enc hg]
        generalize xs[i] = d at hg hd ⊢
        have e2 : IntKind.i64.wrap ((i : Int) + 1) = ((i + 1 : Nat) : Int) := by rw [wrap_id (by omega)]; omega
        rw [sels_drop3, Option.bind_some, spec_depth_ev 60 d.sels hd.2 (by omega), bI, e2, ifmax, ih (i + 1) _ (by omega), depT_drop hg, Nat.max_assoc]
    have := loop xs.length 0 0 (by omega)
    have e0 : ((0 : Nat) : Int) = 0 := rfl
    rw [e0, List.drop_zero, Nat.zero_max] at this
    exact this
theorem impl_DocDepth_ev {xs : List GDef} (hx : okL okDef xs) : ev E0 F_impl_DocDepth [.p (.agg 1 [.sl 4 (xs.map GDef.enc)])] [] = if docB xs = true then r2i (depT xs) 0 else r2i 0 1 := by
  have hlen : (xs.map GDef.enc).length = xs.length := by simp
  have hxl := hx.1
  rw [impl_DocDepth_0_ev, impl_DocDepth_0_eq, impl_DocOK_ev hx, bB]
  cases hb : docB xs with
  | false => rfl
  | true =>
    obtain ⟨ht, hf⟩ := docB_facts hb
    rw [Bool.not_true, cond_false, if_pos rfl, hlen]
    have loop : ∀ (k i n : Nat), i + k = xs.length → impl_DocDepth_1 n (xs.map GDef.enc) xs.length i = r2i ((max n (depT (xs.drop i)) : Nat)) 0 := by
      intro k
      induction k with
      | zero =>
        intro i n h
        have : i = xs.length := by omega
        subst this
        rw [impl_DocDepth_1_eq, List.drop_length, decide_eq_false (by omega), cond_false]
        simp [depT]
      | succ k ih =>
        intro i n h
        have hlt : i < xs.length := by omega
        have hg : xs[i]? = some xs[i] := List.getElem?_eq_getElem hlt
        have hd := hf xs[i] (List.getElem_mem _)
        rw [impl_DocDepth_1_eq, hlen, decide_eq_true (by omega), cond_true, if_pos (by omega), getD_enc hg]
        generalize xs[i] = d at hg hd ⊢
        have e2 : IntKind.i64.wrap ((i : Int) + 1) = ((i + 1 : Nat) : Int) := by rw [wrap_id (by omega)]; omega
        rw [sels_get3, Option.bind_some, impl_depth_ev 60 d.sels hd.2 (by omega), bI, e2, ifmax, ih (i + 1) _ (by omega), depT_drop hg, Nat.max_assoc]
    have := loop xs.length 0 0 (by omega)
    have e0 : ((0 : Nat) : Int) = 0 := rfl
    rw [e0, List.drop_zero, Nat.zero_max] at this
    exact this
theorem law_DocSize {xs : List GDef} (hx : okL okDef xs) : ev E0 F_laws_FnExactDocSize [.p (.agg 1 [.sl 4 (xs.map GDef.enc)])] [] = rB true := by
  rw [laws_FnExactDocSize_0_ev, laws_FnExactDocSize_0_eq, szDoc_ev hx (by omega) (by omega), bI]
  by_cases hw : (wL wDef xs : Int) ≤ 1048576
  · rw [szV_pos hw, decide_eq_false (by omega), cond_false, toDoc_ev (by omega), bA, spec_DocSize_ev hx]
    have fin : laws_FnExactDocSize_1 false (xs.map GDef.enc) [.sl 4 (xs.map GDef.enc)] = rB true := by
      rw [laws_FnExactDocSize_1_eq, cond_false, toDoc_ev (by omega), bA, eqDoc_ev hx, bB]
      rfl
    cases hb : docB xs with
    | true => rw [if_pos rfl, b2i, bA, impl_DocSize_ev hx, hb, if_pos rfl, b2i, ne_self, cond_false, ne_self, fin]
    | false => rw [if_neg (by simp), b2i, bA, impl_DocSize_ev hx, hb, if_neg (by simp), b2i, ne_self, cond_false, ne_self, fin]
  · rw [szV_neg hw]
    rfl
theorem law_DocDepth {xs : List GDef} (hx : okL okDef xs) : ev E0 F_laws_FnExactDocDepth [.p (.agg 1 [.sl 4 (xs.map GDef.enc)])] [] = rB true := by
  rw [laws_FnExactDocDepth_0_ev, laws_FnExactDocDepth_0_eq, szDoc_ev hx (by omega) (by omega), bI]
  by_cases hw : (wL wDef xs : Int) ≤ 1048576
  · rw [szV_pos hw, decide_eq_false (by omega), cond_false, toDoc_ev (by omega), bA, spec_DocDepth_ev hx]
    have fin : laws_FnExactDocDepth_1 false (xs.map GDef.enc) [.sl 4 (xs.map GDef.enc)] = rB true := by
      rw [laws_FnExactDocDepth_1_eq, cond_false, toDoc_ev (by omega), bA, eqDoc_ev hx, bB]
      rfl
    cases hb : docB xs with
    | true => rw [if_pos rfl, b2i, bA, impl_DocDepth_ev hx, hb, if_pos rfl, b2i, ne_self, cond_false, ne_self, fin]
    | false => rw [if_neg (by simp), b2i, bA, impl_DocDepth_ev hx, hb, if_neg (by simp), b2i, ne_self, cond_false, ne_self, fin]
  · rw [szV_neg hw]
    rfl
end Go.Proofs.Ytddlcoogocgfcaa.Dm
