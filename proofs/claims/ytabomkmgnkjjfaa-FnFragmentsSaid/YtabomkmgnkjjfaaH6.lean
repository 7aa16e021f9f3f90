/- Fragments that come to themselves: the program and the reference. -/
import Derived.Test.YtabomkmgnkjjfaaH5
namespace Go.Proofs.Ytabomkmgnkjjfaa.Dm
set_option maxRecDepth 4000
set_option linter.unusedSectionVars false
set_option linter.unusedVariables false
set_option linter.unusedSimpArgs false

variable {xs : List GDef}
abbrev rBX (b : Bool) (l : List (List Pd)) : Option Res := some ([.p (.bool b)], [.box 1 [.sl 4 l]])
abbrev rIX (n : Int) (l : List (List Pd)) : Option Res := some ([.p (.int .i64 n)], [.box 1 [.sl 4 l]])
theorem bBX {R : Type} (b : Bool) (l : List (List Pd)) (K : Bool → List Pd → Option R) : ((rBX b l).bind fun x => (asBool (pAt 0 x.1)).bind fun b => if x.1.length = 1 then ((asFbox 1 [.sl 4 l] (x.2.getD 0 .none)).bind fun c => if x.2.length = 1 then K b c else none) else none) = K b [.sl 4 l] := by simp [pAt, asBool, asFbox, fnSame]
theorem bIX {R : Type} (n : Int) (l : List (List Pd)) (K : Int → List Pd → Option R) : ((rIX n l).bind fun x => (asInt .i64 (pAt 0 x.1)).bind fun n => if x.1.length = 1 then ((asFbox 1 [.sl 4 l] (x.2.getD 0 .none)).bind fun c => if x.2.length = 1 then K n c else none) else none) = K n [.sl 4 l] := by simp [pAt, asInt, asFbox, fnSame]
theorem bM {R : Type} (m : List (ByteArray × Pd)) (K : List (ByteArray × Pd) → Option R) : ((some ([.mp (.out 0)], [.map m]) : Option Res).bind fun r => (asMap (r.2.getD 0 .none)).bind fun m => if isMp0 r.1 = true ∧ r.2.length = 1 then K m else none) = K m := by simp [asMap, isMp0]
/-- the one at hand comes to itself -/
def Self (xs : List GDef) (ss : List GSel) (d : GDef) : Prop := d.kind = 3 ∧ Rch xs (sps ss) d.name
theorem hc1_ev (hx : okL okDef xs) {d : GDef} (hd : d ∈ xs) : ∃ b, ev E0 F_impl_Doc_hasCycle_1 [.p (.agg 4 d.enc), .ptr (.out 0) 0] [.box 1 [.sl 4 (xs.map GDef.enc)]] = rBX b (xs.map GDef.enc) ∧ (b = true ↔ Self xs (fragD d.name xs).sels d) := by
  rw [impl_Doc_hasCycle_1_0_ev, impl_Doc_hasCycle_1_0_eq, def_name0, Option.bind_some, Doc_fragment_ev hx.1, bDB, def_kind0, Option.bind_some, beq_int]
  unfold Self
  by_cases h3 : d.kind = 3
  · have hf : fnd xs d.name = true := fnd_iff.2 ⟨d, hd, h3, rfl⟩
    have hf' : (fragL d.name xs).isSome = true := hf
    obtain ⟨S, e, hS⟩ := reaches_ev hx (fragD_ok hx d.name).2.2
    have e3 : asSl 6 ((fragD d.name xs).enc.getD 3 .undef) = some ((fragD d.name xs).sels.map GSel.enc) := asSl_ _ _
    rw [decide_eq_true h3, cond_true, hf', cond_true, e3, Option.bind_some, e, bM, Option.bind_some, findM_seen, asB_, Option.bind_some]
    refine ⟨_, rfl, ?_⟩
    rw [inL_mem, hS]
    exact ⟨fun h => ⟨h3, h.2⟩, fun h => ⟨hf, h.2⟩⟩
  · rw [decide_eq_false h3, cond_false]
    exact ⟨false, rfl, (fun h => by cases h), fun h => absurd h.1 h3⟩
theorem idx_5 (l : List (List Pd)) (n i : Int) (l3 : List (List Pd)) : slices_IndexFunc_impl_Def_impl_Def_5 l n i [.sl 4 l3] = slices_IndexFunc_impl_Def_impl_Def_3 l n i l3 := rfl
theorem hasCycle_ev (hx : okL okDef xs) : ∃ b, ev E0 F_impl_Doc_hasCycle [.p (.agg 1 [.sl 4 (xs.map GDef.enc)])] [] = rB b ∧ (b = true ↔ ∃ d ∈ xs, Self xs (fragD d.name xs).sels d) := by
  have hlen : (xs.map GDef.enc).length = xs.length := by simp
  have hl := hx.1
  have main : ∀ (m i : Nat), i + m = xs.length → ∃ n : Int, slices_IndexFunc_impl_Def_impl_Def_3 (xs.map GDef.enc) xs.length i (xs.map GDef.enc) = rIX n (xs.map GDef.enc) ∧ (n ≥ 0 ↔ ∃ d ∈ xs.drop i, Self xs (fragD d.name xs).sels d) := by
    intro m
    induction m with
    | zero =>
      intro i h
      rw [slices_IndexFunc_impl_Def_impl_Def_3_eq, decide_eq_false (by omega), cond_false, List.drop_of_length_le (by omega)]
      exact ⟨-1, rfl, (fun h => by omega), (fun h => by obtain ⟨d, h, _⟩ := h; cases h)⟩
    | succ m ih =>
      intro i h
      have hlt : i < xs.length := by omega
      have hg : xs[i]? = some xs[i] := List.getElem?_eq_getElem hlt
      rw [List.drop_eq_getElem_cons hlt]
      have hmem := List.getElem_mem hlt
      generalize xs[i] = d at hg hmem ⊢
      obtain ⟨b, e, hb⟩ := hc1_ev hx hmem
      rw [slices_IndexFunc_impl_Def_impl_Def_3_eq, decide_eq_true (by omega), cond_true, hlen, if_pos (by omega), getD_enc hg, e, bBX, fill_sl4, idx_5, inc_i hlt hl]
      cases b with
      | true => exact ⟨i, rfl, fun _ => ⟨d, List.mem_cons_self .., hb.1 rfl⟩, fun _ => by omega⟩
      | false =>
        obtain ⟨n, q1, q2⟩ := ih (i + 1) (by omega)
        rw [cond_false]
        refine ⟨n, q1, q2.trans ⟨fun h => ?_, fun h => ?_⟩⟩
        · obtain ⟨e, he, hs⟩ := h
          exact ⟨e, List.mem_cons_of_mem _ he, hs⟩
        · obtain ⟨e, he, hs⟩ := h
          rcases List.mem_cons.1 he with rfl | he
          · have := hb.2 hs; cases this
          · exact ⟨e, he, hs⟩
  obtain ⟨n, q1, q2⟩ := main xs.length 0 (by omega)
  rw [List.drop_zero] at q2
  have e0 : ((0 : Nat) : Int) = 0 := rfl
  rw [e0] at q1
  rw [impl_Doc_hasCycle_0_ev, impl_Doc_hasCycle_0_eq, slices_ContainsFunc_impl_Def_impl_Def_0_ev, slices_ContainsFunc_impl_Def_impl_Def_0_eq, slices_IndexFunc_impl_Def_impl_Def_1_ev, slices_IndexFunc_impl_Def_impl_Def_1_eq, hlen, q1, bIX, fill_sl4, bBX]
  exact ⟨_, rfl, by rw [decide_eq_true_iff]; exact q2⟩
/-! ### the reference -/
theorem okEs_S (l : List ByteArray) : okEs (l.map encS) = true := by
  unfold okEs
  rw [List.all_map]
  exact List.all_eq_true.2 fun x _ => rfl
abbrev rSS (l : List ByteArray) : Option Res := some ([.arr (.out 0)], [.arr 9 1 16 false (l.map encS)])
theorem asOwn_SS (l : List ByteArray) : asOwn E0.P [116] ([.arr (.out 0)], [.arr 9 1 16 false (l.map encS)]) = some ([.undef], [l.map encS]) := by
  have h1 : flatRs E0.P [116] [.arr (.out 0)] = some [.arr (.out 0)] := by kernel_rfl
  have h2 : rowsOfTs E0.P [116] = [some (9, 1)] := by kernel_rfl
  have h3 : rowful E0.P 9 = false := by kernel_rfl
  have h4 : E0.P.bytesOf 9 = 16 := by kernel_rfl
  unfold asOwn
  rw [h1, h2]
  simp [takeOwn, asRow, h3, h4, asArr, okEs_S]
theorem sps_le60 {ss : List GSel} (h : cnts ss ≤ 60) : (sps ss).length ≤ 60 := Nat.le_trans (sps_len _ ss (Nat.le_refl _)) h
theorem l04Spreads_ev : ∀ (n : Nat) (ss : List GSel), cnts ss ≤ n → cnts ss ≤ 60 → okL okSel ss → ev E0 F_spec_l04Spreads [.p (.sl 6 (ss.map GSel.enc))] [] = rSS (sps ss) := by
  intro n
  induction n using Nat.strongRecOn with
  | _ n ihn =>
  intro ss hn hc ho
  have hlen : (ss.map GSel.enc).length = ss.length := by simp
  have hl := ho.1
  rw [spec_l04Spreads_0_ev, spec_l04Spreads_0_eq]
  have h60 := sps_le60 hc
  have main : ∀ (m i : Nat), i + m = ss.length → spec_l04Spreads_1 (ss.map GSel.enc) i ((sps (ss.take i)).map encS) = rSS (sps ss) := by
    intro m
    induction m with
    | zero =>
      intro i h
      rw [spec_l04Spreads_1_eq, hlen, decide_eq_false (by omega), cond_false, List.take_of_length_le (by omega), if_pos (okEs_S _)]
    | succ m ihm =>
      intro i h
      have hlt : i < ss.length := by omega
      have hg : ss[i]? = some ss[i] := List.getElem?_eq_getElem hlt
      have hmem := List.getElem_mem hlt
      have step := ihm (i + 1) (by omega)
      have hsp : ss = ss.take i ++ (ss[i] :: ss.drop (i + 1)) := by
        rw [← List.drop_eq_getElem_cons hlt, List.take_append_drop]
      have htk : sps (ss.take (i + 1)) = sps (ss.take i) ++ spS ss[i] := by
        rw [List.take_add_one, hg, sps_app]
        simp [sps]
      have hle : (sps (ss.take i)).length + (spS ss[i]).length ≤ 60 := by
        have e := congrArg (fun l => (sps l).length) hsp
        simp only [sps_app, sps, List.length_append] at e
        omega
      rw [htk] at step
      generalize ss[i] = x at hg hmem step hle
      have hcx := subs_cnts hmem
      have hox := subs_ok (ho.2 x hmem)
      have ih := ihn (cnts x.subs) (by omega) x.subs (Nat.le_refl _) (by omega) hox
      have g0 := enc_get0 x
      have g2 : asStr (((GSel.enc x).drop 2).getD 0 .undef) = some x.nm := by cases x; unfold GSel.enc; rfl
      have g5 : asSl 6 (((GSel.enc x).drop 5).getD 0 .undef) = some (x.subs.map GSel.enc) := by
        cases x
        unfold GSel.enc
        rw [GSel.encs_eq]
        rfl
      rw [spS_eq, List.length_append] at hle
      rw [spS_eq, List.map_append, List.map_append, ← List.append_assoc] at step
      have rest : ∀ e : List ByteArray, e.length + (sps x.subs).length ≤ 60 → e.map encS = (sps (ss.take i)).map encS ++ (if x.kd = 2 then [x.nm] else []).map encS → spec_l04Spreads_2 (ss.map GSel.enc) i (e.map encS) = rSS (sps ss) := by
        intro e he1 he2
        rw [spec_l04Spreads_2_eq, hlen, if_pos (by omega), getD_enc hg, g5, Option.bind_some, ih, Option.bind_some, asOwn_SS, Option.bind_some]
        simp only [List.getD_cons_zero]
        rw [limK (by simp; omega), inc_i hlt hl, he2]
        exact step
      rw [spec_l04Spreads_1_eq, hlen, decide_eq_true (by omega), cond_true, if_pos (by omega), getD_enc hg, g0, Option.bind_some, beq_int]
      by_cases h2 : x.kd = 2
      · rw [if_pos h2] at hle rest
        simp only [List.length_singleton] at hle
        rw [decide_eq_true h2, cond_true, if_pos (by omega), g2, Option.bind_some, limK (by simp; omega)]
        have := rest (sps (ss.take i) ++ [x.nm]) (by simp; omega) (by rw [List.map_append])
        rw [List.map_append] at this
        exact this
      · rw [if_neg h2] at hle rest
        simp only [List.length_nil] at hle
        rw [decide_eq_false h2, cond_false]
        exact rest _ (by omega) (by simp)
  have := main ss.length 0 (by omega)
  rw [List.take_zero] at this
  exact this
theorem getD_S {l : List ByteArray} {i : Nat} {t : ByteArray} (h : l[i]? = some t) : asStr (((l.map encS).getD ((i : Int)).toNat []).getD 0 .undef) = some t := by
  rw [getD_enc h]; rfl
theorem l04In_ev {l : List ByteArray} (hl : l.length ≤ 1000) (s : ByteArray) : ev E0 F_spec_l04In [.p (.sl 1 (l.map encS)), .p (.str s)] [] = rB (inL l s) := by
  have hlen : (l.map encS).length = l.length := by simp
  rw [spec_l04In_0_ev, spec_l04In_0_eq]
  have main : ∀ (m i : Nat), i + m = l.length → spec_l04In_1 (l.map encS) s i = rB (inL (l.drop i) s) := by
    intro m
    induction m with
    | zero =>
      intro i h
      rw [spec_l04In_1_eq, hlen, decide_eq_false (by omega), cond_false, List.drop_of_length_le (by omega)]
      rfl
    | succ m ih =>
      intro i h
      have hlt : i < l.length := by omega
      have hg : l[i]? = some l[i] := List.getElem?_eq_getElem hlt
      rw [spec_l04In_1_eq, hlen, decide_eq_true (by omega), cond_true, if_pos (by omega), getD_S hg, Option.bind_some, List.drop_eq_getElem_cons hlt, inL_cons, inc_i hlt (by omega), ih (i + 1) (by omega)]
      cases decide (l[i] = s) <;> rfl
  have := main l.length 0 (by omega)
  rw [List.drop_zero] at this
  exact this
/-- all names that are spread -/
def allSp (xs : List GDef) : List ByteArray := xs.flatMap fun d => sps d.sels
theorem ch_all {t u : ByteArray} (h : u ∈ ch xs t) : u ∈ allSp xs := by
  unfold ch fragD at h
  cases e : fragL t xs with
  | none => rw [e] at h; cases h
  | some d => rw [e] at h; exact List.mem_flatMap.2 ⟨d, fragL_mem e, h⟩
theorem allSp_len : ∀ (xs : List GDef), (allSp xs).length ≤ total xs
  | [] => Nat.le_refl _
  | d :: xs => by
    have h1 := allSp_len xs
    have h2 := sps_len _ d.sels (Nat.le_refl _)
    have e : allSp (d :: xs) = sps d.sels ++ allSp xs := by unfold allSp; rw [List.flatMap_cons]
    rw [e, List.length_append]
    have : total (d :: xs) = cnts d.sels + total xs := by simp [total]
    omega
theorem cnts_total {d : GDef} : ∀ {xs : List GDef}, d ∈ xs → cnts d.sels ≤ total xs
  | y :: xs, h => by
    have e : total (y :: xs) = cnts y.sels + total xs := by simp [total]
    rcases List.mem_cons.1 h with q | q
    · rw [q, e]; omega
    · have := cnts_total q; omega
theorem frag_cnts (t : ByteArray) : cnts (fragD t xs).sels ≤ total xs := by
  unfold fragD
  cases e : fragL t xs with
  | none => exact Nat.zero_le _
  | some d => exact cnts_total (fragL_mem e)
/-- names not seen -/
def unU (xs : List GDef) (W : List ByteArray) : Nat := ((allSp xs).filter fun u => !inL W u).length
theorem unU_lt {W : List ByteArray} {u : ByteArray} (h : u ∈ allSp xs) (hn : inL W u = false) : unU xs (W ++ [u]) < unU xs W := by
  refine filter_len_lt (fun x _ q => ?_) ⟨u, h, by rw [hn]; rfl, ?_⟩
  · rw [inL_app] at q
    simp only [Bool.not_eq_true', Bool.or_eq_false_iff] at q ⊢
    exact q.1
  · rw [inL_app, inL_mem.2 (List.mem_singleton.2 rfl), Bool.or_true]; rfl
section
variable (hx : okL okDef xs) (ht : total xs ≤ 60)
include hx ht
/-- what is spread by one that was seen is seen -/
theorem add_ev (n k : Int) (M : List ByteArray) (hM : M.length ≤ 60) (hMs : ∀ u ∈ M, u ∈ allSp xs) : ∀ (m i : Nat) (W : List ByteArray), i + m = M.length → W.length + unU xs W ≤ 120 →
    ∃ W', spec_l04Cycle_4 n k i (xs.map GDef.enc) (W.map encS) (M.map encS) = spec_l04Cycle_3 n (IntKind.i64.wrap (k + 1)) (xs.map GDef.enc) (W'.map encS) ∧ (∃ A, W' = W ++ A ∧ ∀ u ∈ A, u ∈ M) ∧ (∀ u ∈ M.drop i, u ∈ W') ∧ W'.length + unU xs W' ≤ 120 := by
  intro m
  induction m with
  | zero =>
    intro i W h hW
    have hlen : (M.map encS).length = M.length := by simp
    rw [spec_l04Cycle_4_eq, hlen, decide_eq_false (by omega), cond_false, List.drop_of_length_le (by omega)]
    exact ⟨W, rfl, ⟨[], by simp, (fun u hu => by cases hu)⟩, (fun u hu => by cases hu), hW⟩
  | succ m ih =>
    intro i W h hW
    have hlen : (M.map encS).length = M.length := by simp
    have hlt : i < M.length := by omega
    have hg : M[i]? = some M[i] := List.getElem?_eq_getElem hlt
    have hmem := List.getElem_mem hlt
    rw [List.drop_eq_getElem_cons hlt]
    rw [spec_l04Cycle_4_eq, hlen, decide_eq_true (by omega), cond_true, if_pos (by omega), if_pos ⟨rfl, by omega, by omega⟩, getD_S hg, Option.bind_some, l04In_ev (by omega), bB]
    generalize M[i] = u at hg hmem ⊢
    cases hn : inL W u with
    | true =>
      rw [Bool.not_true, cond_false, spec_l04Cycle_5_eq, inc_i hlt (by omega)]
      obtain ⟨W', q1, ⟨A, q2, q3⟩, q4, q5⟩ := ih (i + 1) W (by omega) hW
      refine ⟨W', q1, ⟨A, q2, q3⟩, fun v hv => ?_, q5⟩
      rcases List.mem_cons.1 hv with rfl | hv
      · rw [q2]; exact List.mem_append_left _ (inL_mem.1 hn)
      · exact q4 v hv
    | false =>
      have hlt2 := unU_lt (hMs u hmem) hn
      rw [Bool.not_false, cond_true, if_pos (by omega), if_pos ⟨rfl, by omega, by omega⟩, Option.bind_some, limK (by simp; omega), spec_l04Cycle_5_eq, inc_i hlt (by omega)]
      obtain ⟨W', q1, ⟨A, q2, q3⟩, q4, q5⟩ := ih (i + 1) (W ++ [u]) (by omega) (by rw [List.length_append, List.length_singleton]; omega)
      rw [List.map_append] at q1
      refine ⟨W', q1, ⟨[u] ++ A, by rw [q2, List.append_assoc], fun v hv => ?_⟩, fun v hv => ?_, q5⟩
      · rcases List.mem_append.1 hv with hv | hv
        · rw [List.mem_singleton.1 hv]; exact hmem
        · exact q3 v hv
      · rcases List.mem_cons.1 hv with rfl | hv
        · rw [q2]; exact List.mem_append_left _ (List.mem_append_right _ (List.mem_singleton.2 rfl))
        · exact q4 v hv
theorem seek_ev {n : Nat} {d : GDef} (hd : xs[n]? = some d) : ∀ (m k : Nat) (W : List ByteArray), 121 ≤ k + m → k ≤ W.length → W.length + unU xs W ≤ 120 → (∀ t ∈ sps d.sels, t ∈ W) → (∀ t ∈ W, Rch xs (sps d.sels) t) → (∀ j t, j < k → W[j]? = some t → t ≠ d.name ∧ ∀ u ∈ ch xs t, u ∈ W) →
    (Rch xs (sps d.sels) d.name ∧ spec_l04Cycle_3 n k (xs.map GDef.enc) (W.map encS) = rB true) ∨ (¬Rch xs (sps d.sels) d.name ∧ spec_l04Cycle_3 n k (xs.map GDef.enc) (W.map encS) = spec_l04Cycle_2 n (xs.map GDef.enc)) := by
  have hnl := lt_of_get hd
  have hlen : (xs.map GDef.enc).length = xs.length := by simp
  have hxl := hx.1
  intro m
  induction m with
  | zero => intro k W h1 h2 h3; omega
  | succ m ih =>
    intro k W h1 h2 h3 i1 i2 i3
    have hW : (W.map encS).length = W.length := by simp
    by_cases hk : k = W.length
    · right
      refine ⟨fun hr => ?_, ?_⟩
      · have : ∀ t, Rch xs (sps d.sels) t → t ∈ W := by
          intro t hr
          induction hr with
          | base q => exact i1 _ q
          | @step t u _ q ih2 =>
            obtain ⟨j, hj⟩ := List.getElem?_of_mem ih2
            exact (i3 j t (by rw [hk]; exact lt_of_get hj) hj).2 u q
        obtain ⟨j, hj⟩ := List.getElem?_of_mem (this _ hr)
        exact (i3 j _ (by rw [hk]; exact lt_of_get hj) hj).1 rfl
      · rw [spec_l04Cycle_3_eq, hW, decide_eq_false (by omega), cond_false]
    · have hlt : k < W.length := by omega
      have hg : W[k]? = some W[k] := List.getElem?_eq_getElem hlt
      have hmem := List.getElem_mem hlt
      rw [spec_l04Cycle_3_eq, hW, decide_eq_true (by omega), cond_true, if_pos (by omega), if_pos ⟨rfl, by omega, by omega⟩, getD_S hg, Option.bind_some, hlen, if_pos (by omega), getD_enc hd, def_name1, Option.bind_some]
      generalize W[k] = t at hg hmem ⊢
      by_cases he : t = d.name
      · left
        rw [decide_eq_true he, cond_true]
        exact ⟨he ▸ i2 t hmem, rfl⟩
      · have e3 : asSl 6 ((fragD t xs).enc.getD 3 .undef) = some ((fragD t xs).sels.map GSel.enc) := asSl_ _ _
        have hfc := frag_cnts (xs := xs) t
        have hsp := l04Spreads_ev _ (fragD t xs).sels (Nat.le_refl _) (by omega) (fragD_ok hx t).2.2
        obtain ⟨W', q1, ⟨A, q2, q3⟩, q4, q5⟩ := add_ev hx ht n k (ch xs t) (sps_le60 (by omega)) (fun u hu => ch_all hu) (ch xs t).length 0 W (by omega) h3
        have e0 : ((0 : Nat) : Int) = 0 := rfl
        rw [e0] at q1
        rw [decide_eq_false he, cond_false, if_pos (by omega), if_pos ⟨rfl, by omega, by omega⟩, Option.bind_some, l02Fragment_ev hx.1, bDB, e3, Option.bind_some, hsp, Option.bind_some, asOwn_SS, Option.bind_some]
        simp only [List.getD_cons_zero]
        rw [show sps (fragD t xs).sels = ch xs t from rfl, q1, inc_i hlt (by omega)]
        refine ih (k + 1) W' (by omega) (by rw [q2, List.length_append]; omega) q5 (fun t ht => by rw [q2]; exact List.mem_append_left _ (i1 t ht)) (fun u hu => ?_) fun j u hj hu => ?_
        · rw [q2] at hu
          rcases List.mem_append.1 hu with hu | hu
          · exact i2 u hu
          · exact .step (i2 t hmem) (q3 u hu)
        · rw [q2, List.getElem?_append_left (by omega)] at hu
          by_cases hjk : j = k
          · subst hjk
            rw [hg] at hu
            injection hu with hu
            subst hu
            exact ⟨he, fun v hv => q4 v (by rw [List.drop_zero]; exact hv)⟩
          · obtain ⟨a, b⟩ := i3 j u (by omega) hu
            exact ⟨a, fun v hv => by rw [q2]; exact List.mem_append_left _ (b v hv)⟩
theorem l04Cycle_ev : ∃ b, ev E0 F_spec_l04Cycle [.p (.agg 1 [.sl 4 (xs.map GDef.enc)])] [] = rB b ∧ (b = true ↔ ∃ d ∈ xs, Self xs d.sels d) := by
  have hlen : (xs.map GDef.enc).length = xs.length := by simp
  have hxl := hx.1
  have main : ∀ (m i : Nat), i + m = xs.length → ∃ b, spec_l04Cycle_1 i (xs.map GDef.enc) = rB b ∧ (b = true ↔ ∃ d ∈ xs.drop i, Self xs d.sels d) := by
    intro m
    induction m with
    | zero =>
      intro i h
      rw [spec_l04Cycle_1_eq, hlen, decide_eq_false (by omega), cond_false, List.drop_of_length_le (by omega)]
      exact ⟨false, rfl, (fun h => by cases h), (fun h => by obtain ⟨d, h, _⟩ := h; cases h)⟩
    | succ m ih =>
      intro i h
      have hlt : i < xs.length := by omega
      have hg : xs[i]? = some xs[i] := List.getElem?_eq_getElem hlt
      rw [List.drop_eq_getElem_cons hlt]
      have hmem := List.getElem_mem hlt
      generalize xs[i] = d at hg hmem ⊢
      obtain ⟨b, q1, q2⟩ := ih (i + 1) (by omega)
      have rest : ¬Self xs d.sels d → ∃ b, spec_l04Cycle_2 i (xs.map GDef.enc) = rB b ∧ (b = true ↔ ∃ e ∈ d :: xs.drop (i + 1), Self xs e.sels e) := by
        intro hn
        rw [spec_l04Cycle_2_eq, inc_i hlt hxl]
        refine ⟨b, q1, q2.trans ⟨fun h => ?_, fun h => ?_⟩⟩
        · obtain ⟨e, he, hs⟩ := h; exact ⟨e, List.mem_cons_of_mem _ he, hs⟩
        · obtain ⟨e, he, hs⟩ := h
          rcases List.mem_cons.1 he with rfl | he
          · exact absurd hs hn
          · exact ⟨e, he, hs⟩
      rw [spec_l04Cycle_1_eq, hlen, decide_eq_true (by omega), cond_true, if_pos (by omega), getD_enc hg, def_kind0, Option.bind_some, show (d.kind != 3) = !decide (d.kind = 3) by rw [bne, beq_int]]
      by_cases h3 : d.kind = 3
      · have e3 : asSl 6 ((d.enc.drop 3).getD 0 .undef) = some (d.sels.map GSel.enc) := asSl_ _ _
        have hct := cnts_total hmem
        have hsp := l04Spreads_ev _ d.sels (Nat.le_refl _) (by omega) (hx.2 d hmem).2.2
        have hls := sps_le60 (ss := d.sels) (by omega)
        have hul : unU xs (sps d.sels) ≤ 60 := by
          have := allSp_len xs
          have h2 : unU xs (sps d.sels) ≤ (allSp xs).length := List.length_filter_le _ _
          omega
        rw [decide_eq_true h3, Bool.not_true, cond_false, if_pos (by omega), e3, Option.bind_some, hsp, Option.bind_some, asOwn_SS, Option.bind_some]
        simp only [List.getD_cons_zero]
        have := seek_ev hx ht hg 121 0 (sps d.sels) (by omega) (by omega) (by omega) (fun t h => h) (fun t h => .base h) (fun j t h _ => by omega)
        have e0 : ((0 : Nat) : Int) = 0 := rfl
        rw [e0] at this
        rcases this with ⟨a, e⟩ | ⟨a, e⟩
        · rw [e]
          exact ⟨true, rfl, fun _ => ⟨d, List.mem_cons_self .., h3, a⟩, fun _ => rfl⟩
        · rw [e]
          exact rest fun q => a q.2
      · rw [decide_eq_false h3, Bool.not_false, cond_true]
        exact rest fun q => h3 q.1
  obtain ⟨b, q1, q2⟩ := main xs.length 0 (by omega)
  rw [List.drop_zero] at q2
  rw [spec_l04Cycle_0_ev, spec_l04Cycle_0_eq]
  exact ⟨b, q1, q2⟩
end
/-- where fragments' names are distinct, both are one -/
theorem frag_self {d : GDef} : ∀ {xs : List GDef}, d ∈ xs → d.kind = 3 → (frN xs).Nodup → fragD d.name xs = d
  | y :: xs, h, h3, hn => by
    by_cases hy : y.kind = 3
    · have hf : frN (y :: xs) = y.name :: frN xs := if_pos hy
      rw [hf, List.nodup_cons] at hn
      rcases List.mem_cons.1 h with rfl | h
      · exact fragD_pos ⟨h3, rfl⟩
      · have hm : d.name ∈ frN xs := by
          clear hn hf
          induction xs with
          | nil => cases h
          | cons z xs ih =>
            by_cases hz : z.kind = 3
            · have hf : frN (z :: xs) = z.name :: frN xs := if_pos hz
              rw [hf]
              rcases List.mem_cons.1 h with rfl | h
              · exact List.mem_cons_self ..
              · exact List.mem_cons_of_mem _ (ih (List.mem_cons_of_mem _ h) h)
            · have hf : frN (z :: xs) = frN xs := if_neg hz
              rw [hf]
              rcases List.mem_cons.1 h with rfl | h
              · exact absurd h3 hz
              · exact ih (List.mem_cons_of_mem _ h) h
        rw [fragD_neg (fun q => hn.1 (q.2 ▸ hm))]
        exact frag_self h h3 hn.2
    · have hf : frN (y :: xs) = frN xs := if_neg hy
      rw [hf] at hn
      rcases List.mem_cons.1 h with rfl | h
      · exact absurd h3 hy
      · rw [fragD_neg (fun q => hy q.1)]
        exact frag_self h h3 hn
theorem cycle_same (hx : okL okDef xs) (ht : total xs ≤ 60) (hn : (frN xs).Nodup) : ∃ b, ev E0 F_impl_Doc_hasCycle [.p (.agg 1 [.sl 4 (xs.map GDef.enc)])] [] = rB b ∧ ev E0 F_spec_l04Cycle [.p (.agg 1 [.sl 4 (xs.map GDef.enc)])] [] = rB b := by
  obtain ⟨b, e1, h1⟩ := hasCycle_ev hx
  obtain ⟨c, e2, h2⟩ := l04Cycle_ev hx ht
  have : b = c := by
    have hi : b = true ↔ c = true := by
      rw [h1, h2]
      constructor
      · rintro ⟨d, hd, h3, hr⟩
        rw [frag_self hd h3 hn] at hr
        exact ⟨d, hd, h3, hr⟩
      · rintro ⟨d, hd, h3, hr⟩
        refine ⟨d, hd, h3, ?_⟩
        rw [frag_self hd h3 hn]
        exact hr
    cases b <;> cases c <;> simp_all
  subst this
  exact ⟨b, e1, e2⟩
end Go.Proofs.Ytabomkmgnkjjfaa.Dm
