/- Paths: a text cut at points, each part a name or a number. -/
import Derived.Test.YtakbdjdafcjglaaGreatDoorE7
import Derived.Lib.SplitLaws
namespace Go.Proofs.YtakbdjdafcjglaaGreatDoor.Dm
set_option linter.unusedVariables false
set_option linter.unusedSimpArgs false
/-- a text's parts between the bytes c -/
def cutX (c : UInt8) : Tx → List Tx
  | [] => [[]]
  | b :: l => if b = c then [] :: cutX c l else match cutX c l with
    | [] => [[b]]
    | p :: ps => (b :: p) :: ps
/-- with p ahead of the first one -/
def preC (p : Tx) : List Tx → List Tx
  | [] => [p]
  | q :: qs => (p ++ q) :: qs
theorem cutX_ne (c : UInt8) : ∀ l : Tx, cutX c l ≠ []
  | [] => by simp [cutX]
  | b :: l => by
    unfold cutX
    split
    · simp
    · split <;> simp
theorem cutX_pre {b c : UInt8} (h : b ≠ c) (l : Tx) : cutX c (b :: l) = preC [b] (cutX c l) := by
  rw [cutX, if_neg h]
  cases cutX c l <;> rfl
theorem preC_preC (p q : Tx) {ps : List Tx} (h : ps ≠ []) : preC p (preC q ps) = preC (p ++ q) ps := by
  cases ps with
  | nil => exact absurd rfl h
  | cons a ps => simp [preC]
theorem preC_nil {ps : List Tx} (h : ps ≠ []) : preC [] ps = ps := by
  cases ps with
  | nil => exact absurd rfl h
  | cons a ps => rfl
theorem split_cut (c : UInt8) : ∀ l : Tx, Lib.splitK [c] 0 (Lib.count l [c]) l = cutX c l
  | [] => by
    rw [Lib.count_one]
    rfl
  | b :: l => by
    have ih := split_cut c l
    by_cases h : b = c
    · subst h
      have hix : Lib.index (b :: l) [b] = 0 := by rw [Lib.index]; simp [List.isPrefixOf]
      rw [Lib.count_cons_eq, Nat.add_comm, Lib.splitK, hix, cutX, if_pos rfl, ← ih]
      rfl
    · have hp : ([c] : List UInt8).isPrefixOf (b :: l) = false := by simp [List.isPrefixOf, Ne.symm h]
      have hix : Lib.index (b :: l) [c] = if Lib.index l [c] == -1 then -1 else Lib.index l [c] + 1 := by rw [Lib.index, hp]; simp
      rw [Lib.count_cons_ne b c l h, cutX_pre h, ← ih]
      cases hk : Lib.count l [c] with
      | zero => rfl
      | succ k =>
        have hm : Lib.index l [c] ≠ -1 := fun q => by rw [Lib.count_miss q] at hk; cases hk
        have hge := Lib.index_ge l [c]
        obtain ⟨j, hj⟩ : ∃ j : Nat, Lib.index l [c] = j := ⟨(Lib.index l [c]).toNat, by omega⟩
        have n1 : ¬ ((j : Int) == -1) = true := by rw [beq_iff_eq]; omega
        have n2 : ¬ (((j : Int) + 1) == -1) = true := by rw [beq_iff_eq]; omega
        rw [Lib.splitK, Lib.splitK, hix, hj, if_neg n1, if_neg n2, if_neg n1]
        have e1 : ((j : Int) + 1).toNat = j + 1 := by omega
        rw [e1, Int.toNat_natCast]
        simp only [preC, Nat.add_zero, List.length_singleton, List.take_succ_cons, List.drop_succ_cons, List.singleton_append]
theorem preC_length (p : Tx) {ps : List Tx} (h : ps ≠ []) : (preC p ps).length = ps.length := by
  cases ps with
  | nil => exact absurd rfl h
  | cons a ps => rfl
/-- texts as a row -/
abbrev rowX (ws : List Tx) : List (List Pd) := ws.map fun w => [.str (S w)]
theorem extract_bl (s : ByteArray) (a b : Nat) : s.extract a b = S (((bl s).drop a).take (b - a)) := Lib.extract_eq s a b
theorem cut_loop {s : ByteArray} (hs : s.size ≤ 1000000000) (c : UInt8) : ∀ (k i a : Nat) (e : List (List Pd)), i + k = s.size → a ≤ i → e.length ≤ i →
    spec_l00Cut_1 s (c.toNat : Int) a i e = rL 1 (e ++ rowX (preC (((bl s).drop a).take (i - a)) (cutX c ((bl s).drop i))))
  | 0, i, a, e, h, ha, he => by
    have hlim : (2 : Nat) ^ 40 ≤ LIM := by decide
    have hl : (bl s).length = i := by rw [← bl_size]; omega
    have hlen : (e.length + ([[.str (s.extract (a : Int).toNat ((s.size : Int) : Int).toNat)]] : List (List Pd)).length) * 16 ≤ LIM := by
      show (e.length + 1) * 16 ≤ LIM
      omega
    rw [spec_l00Cut_1_eq, decide_eq_false (by omega), cond_false, if_pos (by omega), if_pos hlen, List.drop_of_length_le (by omega : (bl s).length ≤ i), Int.toNat_natCast, Int.toNat_natCast, extract_bl]
    have : s.size = i := by omega
    rw [this]
    simp [cutX, preC, rowX]
  | k + 1, i, a, e, h, ha, he => by
    have hlim : (2 : Nat) ^ 40 ≤ LIM := by decide
    have hl : i < (bl s).length := by rw [← bl_size]; omega
    have e2 : (bl s).getD i 0 = (bl s)[i] := by rw [List.getD_eq_getElem?_getD, List.getElem?_eq_getElem hl]; rfl
    have e3 : bt s i = ((bl s)[i].toNat : Int) := by rw [bt_bl, e2]
    have hw : IntKind.i64.wrap ((i : Int) + 1) = ((i + 1 : Nat) : Int) := by rw [wrap_id (by omega)]; omega
    have hlen : (e.length + ([[.str (s.extract (a : Int).toNat (i : Int).toNat)]] : List (List Pd)).length) * 16 ≤ LIM := by
      show (e.length + 1) * 16 ≤ LIM
      omega
    rw [spec_l00Cut_1_eq, decide_eq_true (by omega), cond_true, if_pos (by omega), Int.toNat_natCast, e3, List.drop_eq_getElem_cons hl, beq_int]
    by_cases hc : (bl s)[i] = c
    · rw [decide_eq_true (by rw [hc]), cond_true, if_pos (by omega)]
      rw [Int.toNat_natCast, Int.toNat_natCast] at hlen
      simp only [Int.toNat_natCast]
      rw [if_pos hlen, spec_l00Cut_2_eq, hw, cut_loop hs c k (i + 1) (i + 1) _ (by omega) (by omega) (by simp; omega), Nat.sub_self, List.take_zero, preC_nil (cutX_ne _ _), hc, cutX, if_pos rfl, extract_bl]
      simp [preC, rowX]
    · have hn : ¬ ((bl s)[i].toNat : Int) = (c.toNat : Int) := fun q => hc (UInt8.toNat_inj.1 (by omega))
      rw [decide_eq_false hn, cond_false, spec_l00Cut_2_eq, hw, cut_loop hs c k (i + 1) a _ (by omega) (by omega) (by omega), cutX_pre hc, preC_preC _ _ (cutX_ne _ _)]
      have e4 : ((bl s).drop a).take (i + 1 - a) = ((bl s).drop a).take (i - a) ++ [(bl s)[i]] := by
        have e5 : i + 1 - a = (i - a) + 1 := by omega
        have h6 : i - a < ((bl s).drop a).length := by rw [List.length_drop]; omega
        have h7 : ((bl s).drop a)[i - a] = (bl s)[i] := by
          rw [List.getElem_drop]
          congr 1
          omega
        rw [e5, ← h7]
        exact (List.take_append_getElem h6).symm
      rw [e4]
theorem cut_ev {s : ByteArray} (hs : s.size ≤ 1000000000) : ev E0 F_spec_l00Cut [.p (.str s), .p (.int .u8 46)] [] = rL 1 (rowX (cutX 46 (bl s))) := by
  have := cut_loop hs 46 s.size 0 0 [] (by omega) (by omega) (by simp)
  rw [spec_l00Cut_0_ev, spec_l00Cut_0_eq]
  have e46 : ((46 : UInt8).toNat : Int) = 46 := rfl
  rw [e46, Nat.sub_self, List.take_zero, List.drop_zero, preC_nil (cutX_ne _ _)] at this
  exact this
theorem split_lib (s t : ByteArray) : ev E0 F_strings_Split [.p (.str s), .p (.str t)] [] = libD splitL [.p (.str s), .p (.str t)] [] := (ev_eq _ _ _ _).trans (by kernel_rfl)
theorem split_ev {s : ByteArray} (hs : s.size ≤ 1000000000) : ev E0 F_strings_Split [.p (.str s), .p (.str (⟨#[46]⟩ : ByteArray))] [] = rL 1 (rowX (cutX 46 (bl s))) := by
  have h1 : s.size < 4294967281 ∧ 1 ≤ (⟨#[46]⟩ : ByteArray).size := ⟨by omega, by decide⟩
  rw [split_lib]
  simp only [libD, pures, splitL, if_pos h1]
  have e : (Lib.splitB ⟨#[46]⟩ 0 (Lib.countB s ⟨#[46]⟩) s).map (fun t => ([.str t] : List Pd)) = rowX (cutX 46 (bl s)) := by
    have e1 : Lib.splitB ⟨#[46]⟩ 0 (Lib.countB s ⟨#[46]⟩) s = (cutX 46 (bl s)).map S := by
      rw [← split_cut 46 (bl s)]
      have := Lib.splitB_data ⟨#[46]⟩ 0 (Lib.countB s ⟨#[46]⟩) s
      have h2 : ∀ xs : List ByteArray, (xs.map (·.data.toList)).map S = xs := fun xs => by
        rw [List.map_map]
        have : (S ∘ fun x : ByteArray => x.data.toList) = id := funext fun x => S_bl x
        rw [this, List.map_id]
      rw [← h2 (Lib.splitB _ _ _ _), this]
      rfl
    rw [e1, List.map_map]
    rfl
  rw [e]
  rfl
open Classical in
/-- a path's part -/
noncomputable def partB (s : ByteArray) : Bool := nameB s || decide (∃ n : Int, numAt s n ∧ 0 ≤ n)
noncomputable def pathB (s : ByteArray) : Bool := (cutX 46 (bl s)).all fun w => partB (S w)
theorem part_of {s : ByteArray} {m : Int} {b : Bool} (h1 : b = true → numAt s m) (h2 : ∀ n, numAt s n → b = true ∧ m = n) :
    (!nameB s && (!b || decide (m < 0))) = !partB s := by
  unfold partB
  cases nameB s with
  | true => rfl
  | false =>
    simp only [Bool.not_false, Bool.true_and, Bool.false_or]
    cases b with
    | false =>
      have : ¬ ∃ n : Int, numAt s n ∧ 0 ≤ n := fun ⟨n, hn, _⟩ => absurd (h2 n hn).1 (by decide)
      simp [this]
    | true =>
      have hm := h1 rfl
      by_cases h0 : m < 0
      · have : ¬ ∃ n : Int, numAt s n ∧ 0 ≤ n := fun ⟨n, hn, q⟩ => by have := (h2 n hn).2; omega
        simp [this, h0]
      · have : ∃ n : Int, numAt s n ∧ 0 ≤ n := ⟨m, hm, by omega⟩
        simp [this, h0]
theorem rowX_get {ws : List Tx} {i : Nat} (h : i < ws.length) : asStr (((rowX ws).getD (i : Int).toNat []).getD 0 .undef) = some (S ws[i]) := by
  have hg : ws[i]? = some ws[i] := List.getElem?_eq_getElem h
  rw [getD_enc (f := fun w : Tx => ([.str (S w)] : List Pd)) hg]
  rfl
theorem cut_size (c : UInt8) : ∀ (l : Tx), ∀ w ∈ cutX c l, w.length ≤ l.length
  | [], w, h => by
    have : w = [] := by simpa [cutX] using h
    rw [this]; simp
  | b :: l, w, h => by
    have ih := cut_size c l
    by_cases hb : b = c
    · rw [cutX, if_pos hb] at h
      rcases List.mem_cons.1 h with q | q
      · rw [q]; simp
      · have := ih w q; simp; omega
    · rw [cutX_pre hb] at h
      cases hq : cutX c l with
      | nil => exact absurd hq (cutX_ne _ _)
      | cons p ps =>
        rw [hq] at h ih
        rcases List.mem_cons.1 h with q | q
        · have := ih p (by simp); rw [q]; simp; omega
        · have := ih w (by simp [q]); simp; omega
theorem cut_len (c : UInt8) : ∀ (l : Tx), (cutX c l).length ≤ l.length + 1
  | [] => by simp [cutX]
  | b :: l => by
    have ih := cut_len c l
    by_cases hb : b = c
    · rw [cutX, if_pos hb]; simp; omega
    · rw [cutX_pre hb, preC_length _ (cutX_ne _ _)]; simp; omega
theorem spec_path_ev {s : ByteArray} (hs : s.size ≤ 1000000000) : ev E0 F_spec_l08Path [.p (.str s)] [] = rB (pathB s) := by
  rw [spec_l08Path_0_ev, spec_l08Path_0_eq, cut_ev hs, bL]
  unfold pathB
  have hsz : ∀ w ∈ cutX 46 (bl s), (S w).size ≤ 1000000000 := fun w hw => by have := cut_size 46 _ w hw; rw [S_size]; rw [bl_size] at hs; omega
  have hlen : (cutX 46 (bl s)).length ≤ 1000000001 := by have := cut_len 46 (bl s); rw [bl_size] at hs; omega
  generalize cutX 46 (bl s) = ws at hsz hlen
  have hl : (rowX ws).length = ws.length := by simp
  have loop : ∀ (k i : Nat), i + k = ws.length → spec_l08Path_1 (rowX ws) i = rB ((ws.drop i).all fun w => partB (S w)) := by
    intro k
    induction k with
    | zero =>
      intro i h
      rw [spec_l08Path_1_eq, hl, decide_eq_false (by omega), cond_false, List.drop_of_length_le (by omega)]
      rfl
    | succ k ih =>
      intro i h
      have hlt : i < ws.length := by omega
      have hw : IntKind.i64.wrap ((i : Int) + 1) = ((i + 1 : Nat) : Int) := by rw [wrap_id (by omega)]; omega
      have hz := hsz ws[i] (List.getElem_mem hlt)
      obtain ⟨m, b, q1, q2, q3⟩ := spec_l01Int_ev (S ws[i])
      have hp := part_of q2 q3
      rw [spec_l08Path_1_eq, hl, decide_eq_true (by omega), cond_true, if_pos (by omega), rowX_get hlt, Option.bind_some, q1, bIB, if_pos (by omega), Option.bind_some, spec_NameOK_ev (by omega), bB, List.drop_eq_getElem_cons hlt, List.all_cons]
      have fin : ∀ x : Bool, spec_l08Path_2 (rowX ws) i x = rB (!x && ((ws.drop (i + 1)).all fun w => partB (S w))) := fun x => by
        rw [spec_l08Path_2_eq]
        cases x
        · rw [cond_false, hw, ih (i + 1) (by omega)]; rfl
        · rfl
      rw [fin, fin, fin]
      cases hn : nameB (S ws[i]) with
      | true =>
        rw [hn] at hp
        have : partB (S ws[i]) = true := by simpa using hp.symm
        rw [this]; rfl
      | false =>
        rw [hn] at hp
        cases b with
        | false =>
          have : partB (S ws[i]) = false := by simpa using hp.symm
          rw [this]; rfl
        | true =>
          have e : (!decide (m < 0)) = partB (S ws[i]) := by
            have : decide (m < 0) = !partB (S ws[i]) := by simpa using hp
            rw [this, Bool.not_not]
          rw [← e]; rfl
  have := loop ws.length 0 (by omega)
  rw [List.drop_zero] at this
  exact this
theorem impl_isPath1_ev {s : ByteArray} (hs : s.size ≤ 1000000000) : ev E0 F_impl_isPath_1 [.p (.str s)] [] = rB (!partB s) := by
  obtain ⟨m, b, q1, q2, q3⟩ := intOf_ev hs
  have hp := part_of q2 q3
  rw [impl_isPath_1_0_ev, impl_isPath_1_0_eq, q1, bIB, impl_NameOK_ev (by omega), bB, ← hp]
  cases nameB s <;> cases b <;> rfl
/-- where the first one that does not fit stands -/
theorem index_loop {n : Nat} {L : Int → Option Res} {f : Nat → Bool} (hn : n ≤ 1000000000000) (step : ∀ i : Nat, i < n → L i = bif f i then rI i else L (IntKind.i64.wrap ((i : Int) + 1))) (done : L n = rI (-1)) :
    ∀ k i : Nat, i + k = n → ∃ r, L i = rI r ∧ (decide (r ≥ 0) = (List.range k).any fun j => f (i + j))
  | 0, i, h => by
    have : i = n := by omega
    subst this
    exact ⟨-1, done, rfl⟩
  | k + 1, i, h => by
    rw [step i (by omega)]
    have e : (List.range (k + 1)).any (fun j => f (i + j)) = (f i || (List.range k).any fun j => f (i + 1 + j)) := by
      rw [List.range_succ_eq_map, List.any_cons, List.any_map]
      congr 1
      refine congrArg (fun g : Nat → Bool => (List.range k).any g) (funext fun j => ?_)
      show f (i + (j + 1)) = f (i + 1 + j)
      congr 1; omega
    cases hf : f i with
    | true =>
      rw [cond_true, e, hf]
      exact ⟨i, rfl, by simp⟩
    | false =>
      have hw : IntKind.i64.wrap ((i : Int) + 1) = ((i + 1 : Nat) : Int) := by rw [wrap_id (by omega)]; omega
      rw [cond_false, hw, e, hf, Bool.false_or]
      exact index_loop hn step done k (i + 1) (by omega)
theorem any_range {α : Type} {ws : List α} {f : α → Bool} {g : Nat → Bool} (h : ∀ i (hi : i < ws.length), g i = f ws[i]) : ((List.range ws.length).any fun j => g (0 + j)) = ws.any f := by
  rw [Bool.eq_iff_iff, List.any_eq_true, List.any_eq_true]
  constructor
  · rintro ⟨j, hj, q⟩
    have hj := List.mem_range.1 hj
    exact ⟨ws[j], List.getElem_mem hj, by rw [← h j hj]; simpa using q⟩
  · rintro ⟨x, hx, q⟩
    obtain ⟨j, hj, rfl⟩ := List.getElem_of_mem hx
    exact ⟨j, List.mem_range.2 hj, by rw [Nat.zero_add, h j hj]; exact q⟩
theorem impl_path_ev {s : ByteArray} (hs : s.size ≤ 1000000000) : ev E0 F_impl_isPath [.p (.str s)] [] = rB (pathB s) := by
  rw [impl_isPath_0_ev, impl_isPath_0_eq, split_ev hs, bL]
  unfold pathB
  have hsz : ∀ w ∈ cutX 46 (bl s), (S w).size ≤ 1000000000 := fun w hw => by have := cut_size 46 _ w hw; rw [S_size]; rw [bl_size] at hs; omega
  have hlen : (cutX 46 (bl s)).length ≤ 1000000001 := by have := cut_len 46 (bl s); rw [bl_size] at hs; omega
  generalize cutX 46 (bl s) = ws at hsz hlen
  have hl : (rowX ws).length = ws.length := by simp
  obtain ⟨r, h1, h2⟩ := index_loop (n := ws.length) (L := fun i => slices_IndexFunc_string_string_5 (rowX ws) (ws.length : Int) i) (f := fun i => !partB (S (ws.getD i []))) (by omega) (fun i hi => by
      have e : ws.getD i [] = ws[i] := by rw [List.getD_eq_getElem?_getD, List.getElem?_eq_getElem hi]; rfl
      show slices_IndexFunc_string_string_5 (rowX ws) (ws.length : Int) i = _
      rw [slices_IndexFunc_string_string_5_eq, decide_eq_true (by omega), cond_true, hl, if_pos (by omega), rowX_get hi, Option.bind_some, impl_isPath1_ev (hsz _ (List.getElem_mem hi)), bB, e])
    (by show slices_IndexFunc_string_string_5 (rowX ws) (ws.length : Int) (ws.length : Int) = _
        rw [slices_IndexFunc_string_string_5_eq, decide_eq_false (by omega), cond_false]) ws.length 0 (by omega)
  have h1 : slices_IndexFunc_string_string_5 (rowX ws) (ws.length : Int) 0 = rI r := h1
  have hany : ((List.range ws.length).any fun j => !partB (S (ws.getD (0 + j) []))) = ws.any fun w => !partB (S w) := any_range (f := fun w => !partB (S w)) (g := fun i => !partB (S (ws.getD i []))) fun i hi => by
    have e : ws.getD i [] = ws[i] := by rw [List.getD_eq_getElem?_getD, List.getElem?_eq_getElem hi]; rfl
    show (!partB (S (ws.getD i []))) = !partB (S ws[i])
    rw [e]
  rw [slices_ContainsFunc_string_string_2_ev, slices_ContainsFunc_string_string_2_eq, slices_IndexFunc_string_string_2_ev, slices_IndexFunc_string_string_2_eq, hl, h1, bI, h2, hany, bB]
  have : (!ws.any fun w => !partB (S w)) = ws.all fun w => partB (S w) := by
    rw [List.any_eq_not_all_not, Bool.not_not]
    simp
  rw [this]
theorem impl_arePaths_ev {ps : List ByteArray} (hps : ∀ s ∈ ps, s.size ≤ 1000000000) (hlen : ps.length ≤ 1000000000) : ev E0 F_impl_arePaths [.p (.sl 1 (ps.map encS))] [] = rB (ps.all pathB) := by
  have hl : (ps.map encS).length = ps.length := by simp
  have clo : ∀ s : ByteArray, s.size ≤ 1000000000 → ev E0 F_impl_arePaths_1 [.p (.str s)] [] = rB (!pathB s) := fun s hs => by
    rw [impl_arePaths_1_0_ev, impl_arePaths_1_0_eq, impl_path_ev hs, bB]
  obtain ⟨r, h1, h2⟩ := index_loop (n := ps.length) (L := fun i => slices_IndexFunc_string_string_4 (ps.map encS) (ps.length : Int) i) (f := fun i => !pathB (ps.getD i ⟨#[]⟩)) (by omega) (fun i hi => by
      have e : ps.getD i ⟨#[]⟩ = ps[i] := by rw [List.getD_eq_getElem?_getD, List.getElem?_eq_getElem hi]; rfl
      have hg : ps[i]? = some ps[i] := List.getElem?_eq_getElem hi
      have e1 : asStr ((encS ps[i]).getD 0 .undef) = some ps[i] := rfl
      show slices_IndexFunc_string_string_4 (ps.map encS) (ps.length : Int) i = _
      rw [slices_IndexFunc_string_string_4_eq, decide_eq_true (by omega), cond_true, hl, if_pos (by omega), getD_enc hg, e1, Option.bind_some, clo _ (hps _ (List.getElem_mem hi)), bB, e])
    (by show slices_IndexFunc_string_string_4 (ps.map encS) (ps.length : Int) (ps.length : Int) = _
        rw [slices_IndexFunc_string_string_4_eq, decide_eq_false (by omega), cond_false]) ps.length 0 (by omega)
  have h1 : slices_IndexFunc_string_string_4 (ps.map encS) (ps.length : Int) 0 = rI r := h1
  have hany : ((List.range ps.length).any fun j => !pathB (ps.getD (0 + j) ⟨#[]⟩)) = ps.any fun w => !pathB w := any_range (f := fun w => !pathB w) (g := fun i => !pathB (ps.getD i ⟨#[]⟩)) fun i hi => by
    have e : ps.getD i ⟨#[]⟩ = ps[i] := by rw [List.getD_eq_getElem?_getD, List.getElem?_eq_getElem hi]; rfl
    show (!pathB (ps.getD i ⟨#[]⟩)) = !pathB ps[i]
    rw [e]
  rw [impl_arePaths_0_ev, impl_arePaths_0_eq, slices_ContainsFunc_string_string_1_ev, slices_ContainsFunc_string_string_1_eq, slices_IndexFunc_string_string_1_ev, slices_IndexFunc_string_string_1_eq, hl, h1, bI, h2, hany, bB]
  have : (!ps.any fun w => !pathB w) = ps.all pathB := by
    rw [List.any_eq_not_all_not, Bool.not_not]
    simp
  rw [this]
end Go.Proofs.YtakbdjdafcjglaaGreatDoor.Dm
