/- The text of data and paths; the law FnExactDataText returns true. -/
import Derived.Test.YtakbdjdafcjglaaGreatDoorE8
namespace Go.Proofs.YtakbdjdafcjglaaGreatDoor.Dm
set_option linter.unusedVariables false
set_option linter.unusedSimpArgs false
set_option maxRecDepth 4000
def headX : Tx := [123, 34, 100, 97, 116, 97, 34, 58]
def errsX : Tx := [44, 34, 101, 114, 114, 111, 114, 115, 34, 58, 91]
def quoX (p : Tx) : Tx := 34 :: (p ++ [34])
/-- what stands between `data` and the end, b: something stands ahead -/
def itemsX : Bool → List Tx → Tx
  | _, [] => []
  | b, p :: ps => (if b = true then [44] else errsX) ++ (quoX p ++ itemsX true ps)
def dataX (w : Tx) (ps : List Tx) : Tx := headX ++ (w ++ (itemsX false ps ++ ((if ps = [] then [] else [93]) ++ [125])))
theorem items_join (p : Tx) (ps : List Tx) : itemsX false (p :: ps) = errsX ++ (34 :: (Lib.join (p :: ps) [34, 44, 34] ++ [34])) := by
  have tail : ∀ qs : List Tx, 34 :: itemsX true qs = Lib.joinTail [34, 44, 34] qs ++ [34] := by
    intro qs
    induction qs with
    | nil => rfl
    | cons q qs ih =>
      have e : Lib.joinTail [34, 44, 34] (q :: qs) = [34, 44, 34] ++ q ++ Lib.joinTail [34, 44, 34] qs := by simp [Lib.joinTail]
      rw [e, List.append_assoc, ← ih]
      simp [itemsX, quoX]
  rw [Lib.join_cons, itemsX, List.append_assoc, ← tail]
  simp [quoX]
theorem bl_len (s : ByteArray) : (bl s).length = s.size := (bl_size s).symm
theorem S_of (s : ByteArray) : ∃ l, s = S l ∧ bl s = l := ⟨bl s, (S_bl s).symm, rfl⟩
theorem bit_ev (b : Bool) : ev E0 F_spec_l01Bit [.p (.bool b)] [] = rI (if b = true then 1 else 0) := by
  rw [spec_l01Bit_0_ev, spec_l01Bit_0_eq]
  cases b <;> rfl
theorem data_loop {ps : List ByteArray} (hlen : ps.length ≤ 1000000) : ∀ (k i : Nat) (acc : Tx), i + k = ps.length → acc.length + (itemsX (decide (0 < i)) ((ps.map bl).drop i)).length ≤ 100000000000 →
    spec_l08Data_1 (ps.map encS) (S acc) i = rS (S (acc ++ (itemsX (decide (0 < i)) ((ps.map bl).drop i) ++ ((if ps.map bl = [] then [] else [93]) ++ [125]))))
  | 0, i, acc, h, hb => by
    have hlim : (2 : Nat) ^ 40 ≤ LIM := by decide
    have hl : (ps.map encS).length = ps.length := by simp
    have hd : (ps.map bl).drop i = [] := List.drop_of_length_le (by simp; omega)
    rw [hd] at hb ⊢
    simp only [itemsX, List.length_nil, List.nil_append] at hb ⊢
    have e93 : (⟨#[93]⟩ : ByteArray) = S [93] := rfl
    have e125 : (⟨#[125]⟩ : ByteArray) = S [125] := rfl
    rw [spec_l08Data_1_eq, hl, decide_eq_false (by omega), cond_false, e93]
    by_cases h0 : ps = []
    · subst h0
      rw [decide_eq_false (by simp), cond_false, spec_l08Data_2_eq, e125, lim_pos (by simp; omega), S_append]
      rfl
    · have hp : 0 < ps.length := List.length_pos_iff.2 h0
      have hm : ¬ ps.map bl = [] := by simpa using h0
      rw [decide_eq_true (by omega), cond_true, lim_pos (by simp; omega), spec_l08Data_2_eq, S_append, e125, lim_pos (by simp; omega), S_append, if_neg hm, List.append_assoc]
  | k + 1, i, acc, h, hb => by
    have hlim : (2 : Nat) ^ 40 ≤ LIM := by decide
    have hl : (ps.map encS).length = ps.length := by simp
    have hlt : i < ps.length := by omega
    have hg : ps[i]? = some ps[i] := List.getElem?_eq_getElem hlt
    have e1 : asStr ((encS ps[i]).getD 0 .undef) = some ps[i] := rfl
    have hw : IntKind.i64.wrap ((i : Int) + 1) = ((i + 1 : Nat) : Int) := by rw [wrap_id (by omega)]; omega
    have e34 : (⟨#[34]⟩ : ByteArray) = S [34] := rfl
    obtain ⟨p, hp, hbp⟩ := S_of ps[i]
    have hdr : (ps.map bl).drop i = p :: (ps.map bl).drop (i + 1) := by
      rw [List.drop_eq_getElem_cons (by simpa using hlt), List.getElem_map, hbp]
    rw [hdr] at hb ⊢
    have hi : decide (0 < i + 1) = true := decide_eq_true (by omega)
    have gi : decide ((i : Int) > 0) = decide (0 < i) := int_gt0 i
    obtain ⟨hd, hhd, hpick⟩ : ∃ hd : Tx, (if decide (0 < i) = true then ([44] : Tx) else errsX) = hd ∧ hd.length ≤ 11 ∧
        ∀ K : ByteArray → Option Res, (if 0 ≤ (if decide (0 < i) = true then (1 : Int) else 0) ∧ (if decide (0 < i) = true then (1 : Int) else 0) < ((([[.str (⟨#[44, 34, 101, 114, 114, 111, 114, 115, 34, 58, 91]⟩ : ByteArray)], [.str (⟨#[44]⟩ : ByteArray)]] : List (List Pd))).length : Int) then (if 1 = 1 ∧ ((if decide (0 < i) = true then (1 : Int) else 0).toNat) < (([[.str (⟨#[44, 34, 101, 114, 114, 111, 114, 115, 34, 58, 91]⟩ : ByteArray)], [.str (⟨#[44]⟩ : ByteArray)]] : List (List Pd))).length ∧ 0 + 1 ≤ 1 then ((asStr (((((([[.str (⟨#[44, 34, 101, 114, 114, 111, 114, 115, 34, 58, 91]⟩ : ByteArray)], [.str (⟨#[44]⟩ : ByteArray)]] : List (List Pd))).getD ((if decide (0 < i) = true then (1 : Int) else 0).toNat) [])).getD 0 .undef))).bind fun s106 => K s106) else none) else none) = K (S hd) := by
      by_cases h0 : 0 < i
      · rw [decide_eq_true h0]
        exact ⟨[44], rfl, by decide, fun K => rfl⟩
      · rw [decide_eq_false h0]
        exact ⟨errsX, rfl, by decide, fun K => rfl⟩
    have hits : itemsX (decide (0 < i)) (p :: (ps.map bl).drop (i + 1)) = hd ++ (quoX p ++ itemsX true ((ps.map bl).drop (i + 1))) := by rw [itemsX, hhd]
    rw [hits] at hb ⊢
    have hb' : acc.length + (hd.length + (p.length + 2 + (itemsX true ((ps.map bl).drop (i + 1))).length)) ≤ 100000000000 := by
      have : (quoX p).length = p.length + 2 := by simp [quoX]
      simp only [List.length_append, this] at hb
      omega
    rw [spec_l08Data_1_eq, hl, decide_eq_true (by omega), cond_true, gi, bit_ev, bI, hpick.2, e34, lim_pos (by simp only [List.length_singleton]; omega), if_pos (by omega), getD_enc hg, e1, Option.bind_some, hp, S_append, lim_pos (by simp only [List.length_append, List.length_singleton]; omega), S_append, lim_pos (by simp only [List.length_append, List.length_singleton]; omega), S_append, lim_pos (by simp only [List.length_append, List.length_singleton]; omega), S_append, hw]
    have ih := data_loop hlen k (i + 1) (acc ++ (hd ++ [34] ++ p ++ [34])) (by omega) (by
      rw [hi]
      simp only [List.length_append, List.length_singleton]
      omega)
    rw [ih, hi]
    refine congrArg rS (congrArg S ?_)
    simp [quoX]
theorem items_len : ∀ (b : Bool) (ps : List Tx), (itemsX b ps).length ≤ (ps.map fun p => p.length + 13).sum
  | _, [] => by simp [itemsX]
  | b, p :: ps => by
    have := items_len true ps
    have h2 : ((if b = true then [44] else errsX) : Tx).length ≤ 11 := by cases b <;> decide
    simp only [itemsX, quoX, List.length_append, List.length_cons, List.length_nil, List.map_cons, List.sum_cons]
    omega
section
variable {o : GOut} {ps : List ByteArray}
/-- sizes of paths that a law looks at -/
def okPaths (ps : List ByteArray) : Prop := ps.length ≤ 4096 ∧ ((ps.map bl).map fun p => p.length + 13).sum ≤ 10000000
theorem outT_lim (h : outB o = true) : (outT o).length ≤ 1000000 := by
  have := outT_len 20 o (outB_parts h).1
  have := (outB_parts h).2
  omega
theorem spec_data_ev (ho : okOut o) (hB : outB o = true) (hp : okPaths ps) : ev E0 F_spec_l08Data [.p (.agg 5 o.enc), .p (.sl 1 (ps.map encS))] [] = rS (S (dataX (outT o) (ps.map bl))) := by
  have hlim : (2 : Nat) ^ 40 ≤ LIM := by decide
  have h2 := stext_ev 20 o (outB_parts hB).1 ho (outB_parts hB).2
  have h3 := outT_lim hB
  have h4 := items_len false (ps.map bl)
  have lp := data_loop (ps := ps) (by have := hp.1; omega) ps.length 0 (headX ++ outT o) (by omega) (by
    have e : decide (0 < 0) = false := by decide
    rw [e, List.drop_zero]
    have := hp.2
    have : headX.length = 8 := rfl
    simp only [List.length_append]
    omega)
  have e : decide (0 < 0) = false := by decide
  rw [e, List.drop_zero] at lp
  have e0 : (⟨#[123, 34, 100, 97, 116, 97, 34, 58]⟩ : ByteArray) = S headX := rfl
  have hh : headX.length = 8 := rfl
  cases o
  unfold GOut.enc at h2 ⊢
  rw [spec_l08Data_0_ev, spec_l08Data_0_eq, h2, bS, e0, lim_pos (by omega), S_append]
  have lp' : spec_l08Data_1 (ps.map encS) (S (headX ++ outT _)) 0 = _ := lp
  rw [lp', dataX]
  simp only [List.append_assoc]
theorem impl_data_ev (ho : okOut o) (hB : outB o = true) (hp : okPaths ps) : ev E0 F_impl_dataText [.p (.agg 5 o.enc), .p (.sl 1 (ps.map encS))] [] = rS (S (dataX (outT o) (ps.map bl))) := by
  have hlim : (2 : Nat) ^ 40 ≤ LIM := by decide
  have h2 := itext_ev 20 o (outB_parts hB).1 ho (outB_parts hB).2
  have h3 := outT_lim hB
  have e0 : (⟨#[123, 34, 100, 97, 116, 97, 34, 58]⟩ : ByteArray) = S headX := rfl
  have hh : headX.length = 8 := rfl
  have e125 : (⟨#[125]⟩ : ByteArray) = S [125] := rfl
  have hl : (ps.map encS).length = ps.length := by simp
  cases o
  unfold GOut.enc at h2 ⊢
  rw [impl_dataText_0_ev, impl_dataText_0_eq, h2, bS, e0, lim_pos (by omega), hl]
  by_cases hps : ps = []
  · subst hps
    rw [decide_eq_false (by simp), cond_false, impl_dataText_1_eq, S_append, e125, lim_pos (by simp only [List.length_append, List.length_singleton]; omega), S_append, dataX]
    simp [itemsX]
  · have hpos : 0 < ps.length := List.length_pos_iff.2 hps
    obtain ⟨q, qs, hq⟩ : ∃ q qs, ps.map bl = q :: qs := by
      cases ps with
      | nil => exact absurd rfl hps
      | cons a r => exact ⟨_, _, rfl⟩
    have hn : ¬ ps.map bl = [] := by rw [hq]; simp
    have h4 := items_len false (ps.map bl)
    have h5 := hp.2
    rw [hq, items_join] at h4
    have hj : (Lib.join (q :: qs) [34, 44, 34]).length ≤ 10000000 := by
      rw [← hq] at h4 ⊢
      simp only [List.length_append, List.length_cons, List.length_nil] at h4
      omega
    have e34 : (⟨#[34, 44, 34]⟩ : ByteArray) = S [34, 44, 34] := rfl
    have eh : (⟨#[44, 34, 101, 114, 114, 111, 114, 115, 34, 58, 91, 34]⟩ : ByteArray) = S (errsX ++ [34]) := rfl
    have ee : (⟨#[34, 93]⟩ : ByteArray) = S [34, 93] := rfl
    have hjoin : ev E0 F_strings_Join [.p (.sl 1 (ps.map encS)), .p (.str (⟨#[34, 44, 34]⟩ : ByteArray))] [] = rS (S (Lib.join (q :: qs) [34, 44, 34])) := by
      have em : ps.map encS = (ps.map bl).map fun w => ([.str (S w)] : List Pd) := by
        rw [List.map_map]
        exact List.map_congr_left fun s _ => by show encS s = [.str (S (bl s))]; rw [S_bl]; rfl
      rw [em, hq, join_lib]
      simp only [libD, pures, joinL, strsOf_map, List.map_map, Function.comp_def, List.length_map]
      have e : Lib.join ((q :: qs).map fun w => (S w).data.toList) ((⟨#[34, 44, 34]⟩ : ByteArray).data.toList) = Lib.join (q :: qs) [34, 44, 34] := by
        have : (fun w : Tx => (S w).data.toList) = id := funext fun w => bl_S w
        rw [this, List.map_id]
      have hl4 : (q :: qs).length ≤ 4096 := by rw [← hq, List.length_map]; exact hp.1
      rw [e, if_pos ⟨by omega, by omega⟩]
      rfl
    have errl : errsX.length = 11 := rfl
    rw [decide_eq_true (by omega), cond_true, hjoin, bS, eh, lim_pos (by simp only [List.length_append, List.length_singleton]; omega), S_append, ee, lim_pos (by simp only [List.length_append, List.length_singleton, List.length_cons, List.length_nil]; omega), S_append, S_append, lim_pos (by simp only [List.length_append, List.length_singleton, List.length_cons, List.length_nil]; omega), S_append, impl_dataText_1_eq, e125, lim_pos (by simp only [List.length_append, List.length_singleton, List.length_cons, List.length_nil]; omega), S_append, dataX, hq, items_join, if_neg (by simp)]
    simp
noncomputable def dataB (o : GOut) (ps : List ByteArray) : Option Res :=
  bif decide (ps.length ≤ 4096) then (bif outB o then (bif ps.all pathB then rSI (S (dataX (outT o) (ps.map bl))) 0 else rSI (⟨#[]⟩ : ByteArray) 3) else rSI (⟨#[]⟩ : ByteArray) 1) else rSI (⟨#[]⟩ : ByteArray) 2
theorem impl_DataText_ev (ho : okOut o) (hs : ps.length ≤ 4096 → okPaths ps) (hl : ps.length ≤ 9223372036854775807) (hz : ∀ s ∈ ps, s.size ≤ 1000000000) : ev E0 F_impl_DataText [.p (.agg 5 o.enc), .p (.sl 1 (ps.map encS))] [] = dataB o ps := by
  have h1 := impl_OutOK_ev ho
  have h2 := fun hB => impl_data_ev (ps := ps) ho hB
  have hlen : (ps.map encS).length = ps.length := by simp
  unfold dataB
  have hle : decide (((ps.length : Nat) : Int) ≤ 4096) = decide (ps.length ≤ 4096) := by
    by_cases h : ps.length ≤ 4096
    · rw [decide_eq_true h, decide_eq_true (by omega)]
    · rw [decide_eq_false h, decide_eq_false (by omega)]
  cases o
  unfold GOut.enc at h1 h2 ⊢
  rw [impl_DataText_0_ev, impl_DataText_0_eq, impl_isList_string_0_ev, impl_isList_string_0_eq, hlen, hle, bB]
  by_cases h : ps.length ≤ 4096
  · rw [decide_eq_true h, Bool.not_true, cond_false, cond_true, h1, bB]
    cases hB : outB _ with
    | false => rfl
    | true =>
      rw [Bool.not_true, cond_false, cond_true, impl_arePaths_ev hz (by omega), bB]
      cases hP : ps.all pathB with
      | false => rfl
      | true => rw [Bool.not_true, cond_false, cond_true, h2 hB (hs h), bS]
  · rw [decide_eq_false h]; rfl
theorem spec_DataText_ev (ho : okOut o) (hs : ps.length ≤ 4096 → okPaths ps) (hl : ps.length ≤ 9223372036854775807) (hz : ∀ s ∈ ps, s.size ≤ 1000000000) : ev E0 F_spec_DataText [.p (.agg 5 o.enc), .p (.sl 1 (ps.map encS))] [] = dataB o ps := by
  have h1 := spec_OutOK_ev ho
  have h2 := fun hB => spec_data_ev (ps := ps) ho hB
  have hlen : (ps.map encS).length = ps.length := by simp
  unfold dataB
  have hle : decide (((ps.length : Nat) : Int) > 4096) = !decide (ps.length ≤ 4096) := by
    by_cases h : ps.length ≤ 4096
    · rw [decide_eq_true h, decide_eq_false (by omega)]; rfl
    · rw [decide_eq_false h, decide_eq_true (by omega)]; rfl
  obtain ⟨k, n, t, ks, is⟩ := o
  have loop : outB (.mk k n t ks is) = true → ps.length ≤ 4096 → ∀ (m i : Nat), i + m = ps.length → spec_DataText_1 (ps.map encS) i k n t (ks.map encS) (GOut.encs is) = bif (ps.drop i).all pathB then rSI (S (dataX (outT (.mk k n t ks is)) (ps.map bl))) 0 else rSI (⟨#[]⟩ : ByteArray) 3 := by
    intro hB h4 m
    have h2' := h2 hB (hs h4)
    unfold GOut.enc at h2'
    induction m with
    | zero =>
      intro i h
      rw [spec_DataText_1_eq, hlen, decide_eq_false (by omega), cond_false, h2', bS, List.drop_of_length_le (by omega)]
      rfl
    | succ m ih =>
      intro i h
      have hlt : i < ps.length := by omega
      have hg : ps[i]? = some ps[i] := List.getElem?_eq_getElem hlt
      have e1 : asStr ((encS ps[i]).getD 0 .undef) = some ps[i] := rfl
      have hw : IntKind.i64.wrap ((i : Int) + 1) = ((i + 1 : Nat) : Int) := by rw [wrap_id (by omega)]; omega
      rw [spec_DataText_1_eq, hlen, decide_eq_true (by omega), cond_true, if_pos (by omega), getD_enc hg, e1, Option.bind_some, spec_path_ev (hz _ (List.getElem_mem hlt)), bB, List.drop_eq_getElem_cons hlt, List.all_cons]
      cases hP : pathB ps[i] with
      | false => rfl
      | true => rw [Bool.not_true, cond_false, hw, ih (i + 1) (by omega), Bool.true_and]
  unfold GOut.enc at h1 ⊢
  rw [spec_DataText_0_ev, spec_DataText_0_eq, hlen, hle]
  by_cases h : ps.length ≤ 4096
  · rw [decide_eq_true h, Bool.not_true, cond_false, cond_true, h1, bB]
    cases hB : outB _ with
    | false => rfl
    | true =>
      have := loop hB h ps.length 0 (by omega)
      rw [List.drop_zero] at this
      rw [Bool.not_true, cond_false, cond_true]
      exact this
  · rw [decide_eq_false h]; rfl
theorem dataB_get (o : GOut) (ps : List ByteArray) : ∃ s n, dataB o ps = rSI s n := by
  unfold dataB
  cases decide (ps.length ≤ 4096)
  · exact ⟨_, _, rfl⟩
  · cases outB o
    · exact ⟨_, _, rfl⟩
    · cases ps.all pathB
      · exact ⟨_, _, rfl⟩
      · exact ⟨_, _, rfl⟩
theorem sum13 : ∀ ps : List ByteArray, ((ps.map bl).map fun p => p.length + 13).sum = (ps.map ByteArray.size).sum + 13 * ps.length
  | [] => rfl
  | s :: ps => by
    have := sum13 ps
    have e := bl_len s
    simp only [List.map_cons, List.sum_cons, List.length_cons, e] at this ⊢
    omega
end
end Go.Proofs.YtakbdjdafcjglaaGreatDoor.Dm
