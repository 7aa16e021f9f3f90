/- Answers' values: their texts, by the program and by the reference. -/
import Derived.Test.YtakbdjdafcjglaaGreatDoorO4
namespace Go.Proofs.YtakbdjdafcjglaaGreatDoor.Dm
set_option linter.unusedVariables false
set_option linter.unusedSimpArgs false

/-! ### what the text is -/
def keyT (s : ByteArray) (w : Tx) : Tx := 34 :: (bl s ++ (34 :: 58 :: w))
def partsT (k : Int) (ks : List ByteArray) (ws : List Tx) : List Tx := if k = 4 then List.zipWith keyT ks ws else ws
mutual
def outT : GOut → Tx
  | .mk k n t ks is => if k = 1 then digI n else if k = 2 then 34 :: (bl t ++ [34]) else if k = 3 then 91 :: (joinC 44 (outTs is) ++ [93]) else if k = 4 then 123 :: (joinC 44 (partsT 4 ks (outTs is)) ++ [125]) else [110, 117, 108, 108]
def outTs : List GOut → List Tx
  | [] => []
  | x :: xs => outT x :: outTs xs
end
theorem outTs_eq : ∀ xs : List GOut, outTs xs = xs.map outT
  | [] => rfl
  | x :: xs => by rw [outTs, outTs_eq xs]; rfl
abbrev rowT (ws : List Tx) : List (List Pd) := ws.map fun w => [.str (S w)]

/-! ### how long it is -/
theorem keysB_names : ∀ {ks pre : List ByteArray}, keysB pre ks = true → ∀ s ∈ ks, nameB s = true
  | k :: ks, pre, h, s, hs => by
    simp only [keysB, Bool.and_eq_true] at h
    rcases List.mem_cons.1 hs with q | q
    · rw [q]; exact h.1
    · exact keysB_names h.2.2 s q
theorem joinC_len (c : UInt8) (ws : List Tx) : (joinC c ws).length ≤ (ws.map fun w => w.length + 1).sum := by
  cases ws with
  | nil => exact Nat.zero_le _
  | cons w ws =>
    have h : (ws.flatMap fun x => c :: x).length = (ws.map fun w => w.length + 1).sum := by
      rw [List.length_flatMap]
      congr 1
    simp only [joinC, List.length_append, h, List.map_cons, List.sum_cons]
    omega
theorem parts_sum : ∀ (ks : List ByteArray) (is : List GOut), (∀ s ∈ ks, (bl s).length ≤ 40) → (∀ x ∈ is, (outT x).length + 46 ≤ 90 * cntO x) → ((List.zipWith keyT ks (is.map outT)).map fun w => w.length + 1).sum ≤ 90 * cntOs is
  | [], is, _, _ => by simp
  | _ :: _, [], _, _ => by simp
  | s :: ks, x :: is, h, hr => by
    have := parts_sum ks is (fun s hs => h s (List.mem_cons_of_mem _ hs)) (fun x hx => hr x (List.mem_cons_of_mem _ hx))
    have h1 := h s (List.mem_cons_self ..)
    have h2 := hr x (List.mem_cons_self ..)
    simp only [List.map_cons, List.zipWith_cons_cons, List.sum_cons, keyT, List.length_cons, List.length_append, cntOs] at this ⊢
    omega
theorem items_sum : ∀ (is : List GOut), (∀ x ∈ is, (outT x).length + 46 ≤ 90 * cntO x) → ((is.map outT).map fun w => w.length + 1).sum ≤ 90 * cntOs is
  | [], _ => by simp
  | x :: is, hr => by
    have := items_sum is (fun x hx => hr x (List.mem_cons_of_mem _ hx))
    have h2 := hr x (List.mem_cons_self ..)
    simp only [List.map_cons, List.sum_cons, cntOs] at this ⊢
    omega
theorem digI_len {n : Int} (h : withinB n (-2147483648) 2147483647 = true) : (digI n).length ≤ 11 := by
  simp only [withinB, Bool.and_eq_true, decide_eq_true_eq] at h
  unfold digI
  split
  · have := digN_len 9 (-n).toNat (by omega)
    simp only [List.length_cons]; omega
  · have := digN_len 9 n.toNat (by omega)
    omega
theorem rightB_int {n : Int} {t : ByteArray} {a b : Nat} (h : rightB 1 n t a b = true) : withinB n (-2147483648) 2147483647 = true := by
  unfold rightB at h
  rw [if_neg (by omega), if_pos rfl, Bool.and_eq_true] at h
  exact h.1
theorem rightB_text {n : Int} {t : ByteArray} {a b : Nat} (h : rightB 2 n t a b = true) : nameB t = true := by
  unfold rightB at h
  rw [if_neg (by omega), if_neg (by omega), if_pos rfl, Bool.and_eq_true, Bool.and_eq_true] at h
  exact h.2.1
theorem rightB_obj {n : Int} {t : ByteArray} {a b : Nat} (h : rightB 4 n t a b = true) : a = b := by
  unfold rightB at h
  rw [if_neg (by omega), if_neg (by omega), if_neg (by omega), if_neg (by omega), if_pos rfl, Bool.and_eq_true, Bool.and_eq_true] at h
  exact of_decide_eq_true h.2.2
theorem rightB_kind {k n : Int} {t : ByteArray} {a b : Nat} (h : rightB k n t a b = true) : k = 0 ∨ k = 1 ∨ k = 2 ∨ k = 3 ∨ k = 4 := by
  unfold rightB at h
  by_cases k0 : k = 0
  · exact .inl k0
  by_cases k1 : k = 1
  · exact .inr (.inl k1)
  by_cases k2 : k = 2
  · exact .inr (.inr (.inl k2))
  by_cases k3 : k = 3
  · exact .inr (.inr (.inr (.inl k3)))
  by_cases k4 : k = 4
  · exact .inr (.inr (.inr (.inr k4)))
  rw [if_neg k0, if_neg k1, if_neg k2, if_neg k3, if_neg k4] at h
  cases h
theorem fineO_parts {d : Nat} {k n : Int} {t : ByteArray} {ks : List ByteArray} {is : List GOut} (h : fineO (d + 1) (.mk k n t ks is) = true) : rightB k n t ks.length is.length = true ∧ keysB [] ks = true ∧ ∀ x ∈ is, fineO d x = true := by
  simp only [fineO, Bool.and_eq_true, List.all_eq_true] at h
  exact ⟨h.1, h.2.1, h.2.2⟩
theorem outT_len : ∀ (d : Nat) (o : GOut), fineO d o = true → (outT o).length + 46 ≤ 90 * cntO o
  | 0, o, h => by simp [fineO] at h
  | d + 1, .mk k n t ks is, h => by
    obtain ⟨h1, h2, h3⟩ := fineO_parts h
    have hn := keysB_names h2
    have hr : ∀ x ∈ is, (outT x).length + 46 ≤ 90 * cntO x := fun x hx => outT_len d x (h3 x hx)
    rw [outT, outTs_eq, cntO]
    by_cases k1 : k = 1
    · subst k1
      have := digI_len (rightB_int h1)
      rw [if_pos rfl]; omega
    by_cases k2 : k = 2
    · subst k2
      have := (name_chars (rightB_text h1)).2.2
      rw [if_neg k1, if_pos rfl]
      simp only [List.length_cons, List.length_append, List.length_nil]
      omega
    by_cases k3 : k = 3
    · subst k3
      have h5 := items_sum is hr
      have h6 := joinC_len 44 (is.map outT)
      rw [if_neg k1, if_neg k2, if_pos rfl]
      simp only [List.length_cons, List.length_append, List.length_nil]
      omega
    by_cases k4 : k = 4
    · subst k4
      have h5 := parts_sum ks is (fun s hs => (name_chars (hn s hs)).2.2) hr
      have h6 := joinC_len 44 (List.zipWith keyT ks (is.map outT))
      rw [if_neg k1, if_neg k2, if_neg k3, if_pos rfl]
      simp only [partsT, if_pos, List.length_cons, List.length_append, List.length_nil]
      omega
    rw [if_neg k1, if_neg k2, if_neg k3, if_neg k4]
    simp only [List.length_cons, List.length_nil]
    omega
theorem cntOs_mem : ∀ {is : List GOut} {x : GOut}, x ∈ is → cntO x ≤ cntOs is
  | y :: is, x, h => by
    rcases List.mem_cons.1 h with q | q
    · rw [q, cntOs]; omega
    · have := cntOs_mem q
      rw [cntOs]; omega
theorem cntOs_length : ∀ (is : List GOut), is.length ≤ cntOs is
  | [] => Nat.le_refl _
  | x :: is => by
    have := cntOs_length is
    have h := cntO_pos x
    rw [cntOs, List.length_cons]; omega

/-! ### one part more -/
theorem partsT_len {k : Int} {ks : List ByteArray} {ws : List Tx} (h4 : k = 4 → ks.length = ws.length) : (partsT k ks ws).length = ws.length := by
  unfold partsT
  split
  · rename_i hk
    rw [List.length_zipWith, h4 hk, Nat.min_self]
  · rfl
theorem rowT_take {ws : List Tx} {i : Nat} (h : i < ws.length) : rowT (ws.take i) ++ [[.str (S ws[i])]] = rowT (ws.take (i + 1)) := by
  have : ws.take (i + 1) = ws.take i ++ [ws[i]] := (List.take_append_getElem h).symm
  rw [this, rowT, rowT, List.map_append]
  rfl
theorem key_str (s : ByteArray) (w : Tx) : (((⟨#[34]⟩ : ByteArray) ++ s) ++ (⟨#[34, 58]⟩ : ByteArray)) ++ S w = S (keyT s w) := by
  obtain ⟨l, rfl⟩ : ∃ l, s = S l := ⟨bl s, (S_bl s).symm⟩
  have e1 : (⟨#[34]⟩ : ByteArray) = S [34] := rfl
  have e2 : (⟨#[34, 58]⟩ : ByteArray) = S [34, 58] := rfl
  rw [e1, e2, S_append, S_append, S_append, keyT, bl_S]
  simp
theorem key_lim {R : Type} {s : ByteArray} {w : Tx} (hs : s.size ≤ 1000) (hw : w.length ≤ 1000000) (K : ByteArray → Option R) :
    (if (⟨#[34]⟩ : ByteArray).size + s.size ≤ LIM then (if ((⟨#[34]⟩ : ByteArray) ++ s).size + (⟨#[34, 58]⟩ : ByteArray).size ≤ LIM then (if (((⟨#[34]⟩ : ByteArray) ++ s) ++ (⟨#[34, 58]⟩ : ByteArray)).size + (S w).size ≤ LIM then K ((((⟨#[34]⟩ : ByteArray) ++ s) ++ (⟨#[34, 58]⟩ : ByteArray)) ++ S w) else none) else none) else none) = K (S (keyT s w)) := by
  have hlim : (2 : Nat) ^ 40 ≤ LIM := by decide
  have e : s = S (bl s) := (S_bl s).symm
  have hb : (bl s).length = s.size := (bl_size s).symm
  have e1 : (⟨#[34]⟩ : ByteArray) = S [34] := rfl
  have e2 : (⟨#[34, 58]⟩ : ByteArray) = S [34, 58] := rfl
  rw [key_str]
  rw [e1, e2, e, S_append, S_append, lim_pos (by simp only [List.length_cons, List.length_nil]; omega), lim_pos (by simp only [List.length_cons, List.length_nil, List.length_append]; omega), lim_pos (by simp only [List.length_cons, List.length_nil, List.length_append]; omega), ← e]
theorem row_lim {R : Type} {n : Nat} (h : n ≤ 10000) (a : List Pd) (X : Option R) : (if (n + ([a] : List (List Pd)).length) * 16 ≤ LIM then X else none) = X := by
  have hlim : (2 : Nat) ^ 40 ≤ LIM := by decide
  rw [if_pos]
  simp only [List.length_cons, List.length_nil]
  omega

/-! ### the program -/
section
variable {k n : Int} {t : ByteArray} {ks : List ByteArray} {is : List GOut}
theorem itext_loop (h4 : k = 4 → ks.length = is.length) (hks : ∀ s ∈ ks, s.size ≤ 40) (hlen : is.length ≤ 4000) (hrec : ∀ x ∈ is, ev E0 F_impl_Out_text [.p (.agg 5 x.enc)] [] = rS (S (outT x)) ∧ (outT x).length ≤ 1000000) :
    ∀ (m i : Nat), i + m = is.length → impl_Out_text_1 (is.map GOut.enc) is.length i k n t (ks.map encS) (is.map GOut.enc) (rowT ((partsT k ks (is.map outT)).take i)) = impl_Out_text_1 (is.map GOut.enc) is.length is.length k n t (ks.map encS) (is.map GOut.enc) (rowT (partsT k ks (is.map outT)))
  | 0, i, h => by
    have hi : i = is.length := by omega
    subst hi
    have : (partsT k ks (is.map outT)).length = is.length := by rw [partsT_len (by simpa using h4), List.length_map]
    rw [← this, List.take_length]
  | m + 1, i, h => by
    have hlt : i < is.length := by omega
    have hil : (is.map GOut.enc).length = is.length := by simp
    have hpl : (partsT k ks (is.map outT)).length = is.length := by rw [partsT_len (by simpa using h4), List.length_map]
    have hg : is[i]? = some is[i] := List.getElem?_eq_getElem hlt
    have e2 : IntKind.i64.wrap ((i : Int) + 1) = ((i + 1 : Nat) : Int) := by rw [wrap_id (by omega)]; omega
    obtain ⟨r1, r2⟩ := hrec is[i] (List.getElem_mem _)
    have htk : (rowT ((partsT k ks (is.map outT)).take i)).length ≤ 10000 := by rw [rowT, List.length_map, List.length_take]; omega
    conv => lhs; rw [impl_Out_text_1_eq]
    rw [decide_eq_true (by omega), cond_true, hil, if_pos (by omega), getD_enc hg, r1, bS, beq_int]
    have step : impl_Out_text_2 (S ((partsT k ks (is.map outT))[i]'(by omega))) (is.map GOut.enc) is.length i k n t (ks.map encS) (is.map GOut.enc) (rowT ((partsT k ks (is.map outT)).take i)) = impl_Out_text_1 (is.map GOut.enc) is.length is.length k n t (ks.map encS) (is.map GOut.enc) (rowT (partsT k ks (is.map outT))) := by
      rw [impl_Out_text_2_eq, row_lim htk, e2, rowT_take (by omega)]
      exact itext_loop h4 hks hlen hrec m (i + 1) (by omega)
    by_cases hk : k = 4
    · have hltk : i < ks.length := by have := h4 hk; omega
      have hkl : (ks.map encS).length = ks.length := by simp
      have hgk : ks[i]? = some ks[i] := List.getElem?_eq_getElem hltk
      have es : asStr ((encS ks[i]).getD 0 .undef) = some ks[i] := rfl
      have hs := hks ks[i] (List.getElem_mem _)
      have ep : (partsT k ks (is.map outT))[i]'(by omega) = keyT ks[i] (outT is[i]) := by simp [partsT, hk]
      rw [ep] at step
      rw [decide_eq_true hk, cond_true, hkl, if_pos (by omega), getD_enc hgk, es, Option.bind_some]
      exact (key_lim (by omega) r2 (fun s => impl_Out_text_2 s (is.map GOut.enc) is.length i k n t (ks.map encS) (is.map GOut.enc) (rowT ((partsT k ks (is.map outT)).take i)))).trans step
    · have ep : (partsT k ks (is.map outT))[i]'(by omega) = outT is[i] := by simp [partsT, hk]
      rw [ep] at step
      rw [decide_eq_false hk, cond_false]
      exact step
end
theorem wrapped {c e : UInt8} {w : Tx} (hw : w.length ≤ 1000000) : (if (S [c]).size + (S w).size ≤ LIM then (if (S [c] ++ S w).size + (S [e]).size ≤ LIM then (some ([.p (.str ((S [c] ++ S w) ++ S [e]))], []) : Option Res) else none) else none) = rS (S (c :: (w ++ [e]))) := by
  have hlim : (2 : Nat) ^ 40 ≤ LIM := by decide
  rw [S_append, S_append, lim_pos (by simp only [List.length_cons, List.length_nil]; omega), lim_pos (by simp only [List.length_cons, List.length_nil, List.length_append]; omega)]
  rfl
theorem itext_ev : ∀ (d : Nat) (o : GOut), fineO d o = true → okOut o → cntO o ≤ 4000 → ev E0 F_impl_Out_text [.p (.agg 5 o.enc)] [] = rS (S (outT o))
  | 0, o, h, _, _ => by simp [fineO] at h
  | d + 1, .mk k n t ks is, h, ho, hc => by
    obtain ⟨o1, o2, o3, o4⟩ := ho
    have hlenT := outT_len _ _ h
    obtain ⟨h1, h2, h3⟩ := fineO_parts h
    have hn := keysB_names h2
    have hcs : 1 + cntOs is ≤ 4000 := by rw [cntO] at hc; exact hc
    have hil : (is.map GOut.enc).length = is.length := by simp
    have hisl := cntOs_length is
    have hrec : ∀ x ∈ is, ev E0 F_impl_Out_text [.p (.agg 5 x.enc)] [] = rS (S (outT x)) ∧ (outT x).length ≤ 1000000 := fun x hx => by
      have hx1 := cntOs_mem hx
      have hx2 := outT_len d x (h3 x hx)
      exact ⟨itext_ev d x (h3 x hx) (okOuts_mem o4 x hx) (by omega), by omega⟩
    have hks : ∀ s ∈ ks, s.size ≤ 40 := fun s hs => (name_chars (hn s hs)).2.2
    have hloop := itext_loop (k := k) (n := n) (t := t) (ks := ks) (is := is) (fun hk => by subst hk; exact rightB_obj h1) hks (by omega) hrec is.length 0 (by omega)
    have e0 : ((0 : Nat) : Int) = 0 := rfl
    have et : rowT ((partsT k ks (is.map outT)).take 0) = [] := by rw [List.take_zero]; rfl
    rw [e0, et] at hloop
    unfold GOut.enc
    rw [impl_Out_text_0_ev, impl_Out_text_0_eq, GOut.encs_eq, hil, hloop, impl_Out_text_1_eq, decide_eq_false (by omega), cond_false]
    have hJ : ∀ ws : List Tx, ws.length ≤ 4000 → (joinC 44 ws).length ≤ 1000000 → ev E0 F_strings_Join [.p (.sl 1 (rowT ws)), .p (.str (⟨#[44]⟩ : ByteArray))] [] = rS (S (joinC 44 ws)) := fun ws a b => joinI_ev (by omega) (by omega)
    rw [outT, outTs_eq] at hlenT ⊢
    rw [cntO] at hlenT
    simp only [beq_int]
    by_cases k1 : k = 1
    · subst k1
      have hi := rightB_int h1
      simp only [withinB, Bool.and_eq_true, decide_eq_true_eq] at hi
      rw [decide_eq_true rfl, cond_true, itoa_ev (by omega), bS, if_pos rfl]
    by_cases k2 : k = 2
    · subst k2
      have ht := (name_chars (rightB_text h1)).2.2
      have e : t = S (bl t) := (S_bl t).symm
      rw [decide_eq_false k1, cond_false, decide_eq_true rfl, cond_true, if_neg k1, if_pos rfl]
      have := wrapped (c := 34) (e := 34) (w := bl t) (by omega)
      rw [← e] at this
      exact this
    by_cases k3 : k = 3
    · subst k3
      rw [if_neg k1, if_neg k2, if_pos rfl] at hlenT ⊢
      simp only [List.length_cons, List.length_append, List.length_nil] at hlenT
      have hp : partsT 3 ks (is.map outT) = is.map outT := rfl
      rw [decide_eq_false k1, cond_false, decide_eq_false k2, cond_false, decide_eq_true rfl, cond_true, hp, hJ _ (by rw [List.length_map]; omega) (by omega), bS]
      exact wrapped (by omega)
    by_cases k4 : k = 4
    · subst k4
      rw [if_neg k1, if_neg k2, if_neg k3, if_pos rfl] at hlenT ⊢
      simp only [List.length_cons, List.length_append, List.length_nil] at hlenT
      rw [decide_eq_false k1, cond_false, decide_eq_false k2, cond_false, decide_eq_false k3, cond_false, decide_eq_true rfl, cond_true, hJ _ (by rw [partsT_len (fun _ => by rw [List.length_map]; exact rightB_obj h1), List.length_map]; omega) (by omega), bS]
      exact wrapped (by omega)
    rw [decide_eq_false k1, cond_false, decide_eq_false k2, cond_false, decide_eq_false k3, cond_false, decide_eq_false k4, cond_false, if_neg k1, if_neg k2, if_neg k3, if_neg k4]

/-! ### the reference -/
section
variable {k n : Int} {t s0 : ByteArray} {ks : List ByteArray} {is : List GOut}
theorem stext_loop (h4 : k = 4 → ks.length = is.length) (hks : ∀ s ∈ ks, s.size ≤ 40) (hlen : is.length ≤ 4000) (hrec : ∀ x ∈ is, ev E0 F_spec_l08Text [.p (.agg 5 x.enc)] [] = rS (S (outT x)) ∧ (outT x).length ≤ 1000000) :
    ∀ (m i : Nat), i + m = is.length → spec_l08Text_2 s0 i k n t (ks.map encS) (is.map GOut.enc) (rowT ((partsT k ks (is.map outT)).take i)) = spec_l08Text_2 s0 is.length k n t (ks.map encS) (is.map GOut.enc) (rowT (partsT k ks (is.map outT)))
  | 0, i, h => by
    have hi : i = is.length := by omega
    subst hi
    have : (partsT k ks (is.map outT)).length = is.length := by rw [partsT_len (by simpa using h4), List.length_map]
    rw [← this, List.take_length]
  | m + 1, i, h => by
    have hlt : i < is.length := by omega
    have hil : (is.map GOut.enc).length = is.length := by simp
    have hpl : (partsT k ks (is.map outT)).length = is.length := by rw [partsT_len (by simpa using h4), List.length_map]
    have hg : is[i]? = some is[i] := List.getElem?_eq_getElem hlt
    have e2 : IntKind.i64.wrap ((i : Int) + 1) = ((i + 1 : Nat) : Int) := by rw [wrap_id (by omega)]; omega
    obtain ⟨r1, r2⟩ := hrec is[i] (List.getElem_mem _)
    have htk : (rowT ((partsT k ks (is.map outT)).take i)).length ≤ 10000 := by rw [rowT, List.length_map, List.length_take]; omega
    conv => lhs; rw [spec_l08Text_2_eq]
    rw [hil, decide_eq_true (by omega), cond_true, if_pos (by omega), getD_enc hg, r1, bS, beq_int]
    have step : spec_l08Text_3 s0 i (S ((partsT k ks (is.map outT))[i]'(by omega))) k n t (ks.map encS) (is.map GOut.enc) (rowT ((partsT k ks (is.map outT)).take i)) = spec_l08Text_2 s0 is.length k n t (ks.map encS) (is.map GOut.enc) (rowT (partsT k ks (is.map outT))) := by
      rw [spec_l08Text_3_eq, row_lim htk, e2, rowT_take (by omega)]
      exact stext_loop h4 hks hlen hrec m (i + 1) (by omega)
    by_cases hk : k = 4
    · have hltk : i < ks.length := by have := h4 hk; omega
      have hkl : (ks.map encS).length = ks.length := by simp
      have hgk : ks[i]? = some ks[i] := List.getElem?_eq_getElem hltk
      have es : asStr ((encS ks[i]).getD 0 .undef) = some ks[i] := rfl
      have hs := hks ks[i] (List.getElem_mem _)
      have ep : (partsT k ks (is.map outT))[i]'(by omega) = keyT ks[i] (outT is[i]) := by simp [partsT, hk]
      rw [ep] at step
      rw [decide_eq_true hk, cond_true, hkl, if_pos (by omega), getD_enc hgk, es, Option.bind_some]
      exact (key_lim (by omega) r2 (fun s => spec_l08Text_3 s0 i s k n t (ks.map encS) (is.map GOut.enc) (rowT ((partsT k ks (is.map outT)).take i)))).trans step
    · have ep : (partsT k ks (is.map outT))[i]'(by omega) = outT is[i] := by simp [partsT, hk]
      rw [ep] at step
      rw [decide_eq_false hk, cond_false]
      exact step
end
theorem ends_cut {a b : UInt8} {w : Tx} (hw : w.length ≤ 1000000) : (if 0 ≤ (0 : Int) ∧ (0 : Int) ≤ 1 ∧ (1 : Int) ≤ ((S [a, b]).size : Int) then ((rS (S w)).bind fun r112 => (asStr (pAt 0 r112.1)).bind fun s113 => if r112.1.length = 1 then (if ((S [a, b]).extract (0 : Int).toNat (1 : Int).toNat).size + s113.size ≤ LIM then (if 0 ≤ (1 : Int) ∧ (1 : Int) ≤ ((S [a, b]).size : Int) ∧ ((S [a, b]).size : Int) ≤ ((S [a, b]).size : Int) then (if (((S [a, b]).extract (0 : Int).toNat (1 : Int).toNat) ++ s113).size + ((S [a, b]).extract (1 : Int).toNat (((S [a, b]).size : Int) : Int).toNat).size ≤ LIM then (some ([.p (.str ((((S [a, b]).extract (0 : Int).toNat (1 : Int).toNat) ++ s113) ++ ((S [a, b]).extract (1 : Int).toNat (((S [a, b]).size : Int) : Int).toNat)))], []) : Option Res) else none) else none) else none) else none) else none) = rS (S (a :: (w ++ [b]))) := by
  have hz : (S [a, b]).size = 2 := rfl
  have x1 : (S [a, b]).extract (0 : Int).toNat (1 : Int).toNat = S [a] := rfl
  have x2 : (S [a, b]).extract (1 : Int).toNat (((S [a, b]).size : Int) : Int).toNat = S [b] := rfl
  rw [x1, x2, if_pos (by rw [hz]; decide), bS, if_pos (show 0 ≤ (1 : Int) ∧ (1 : Int) ≤ ((S [a, b]).size : Int) ∧ ((S [a, b]).size : Int) ≤ ((S [a, b]).size : Int) by rw [hz]; decide)]
  exact wrapped hw
theorem stext_ev : ∀ (d : Nat) (o : GOut), fineO d o = true → okOut o → cntO o ≤ 4000 → ev E0 F_spec_l08Text [.p (.agg 5 o.enc)] [] = rS (S (outT o))
  | 0, o, h, _, _ => by simp [fineO] at h
  | d + 1, .mk k n t ks is, h, ho, hc => by
    obtain ⟨o1, o2, o3, o4⟩ := ho
    have hlenT := outT_len _ _ h
    obtain ⟨h1, h2, h3⟩ := fineO_parts h
    have hn := keysB_names h2
    have hcs : 1 + cntOs is ≤ 4000 := by rw [cntO] at hc; exact hc
    have hil : (is.map GOut.enc).length = is.length := by simp
    have hisl := cntOs_length is
    have hrec : ∀ x ∈ is, ev E0 F_spec_l08Text [.p (.agg 5 x.enc)] [] = rS (S (outT x)) ∧ (outT x).length ≤ 1000000 := fun x hx => by
      have hx1 := cntOs_mem hx
      have hx2 := outT_len d x (h3 x hx)
      exact ⟨stext_ev d x (h3 x hx) (okOuts_mem o4 x hx) (by omega), by omega⟩
    have hks : ∀ s ∈ ks, s.size ≤ 40 := fun s hs => (name_chars (hn s hs)).2.2
    have e0 : ((0 : Nat) : Int) = 0 := rfl
    have et : rowT ((partsT k ks (is.map outT)).take 0) = [] := by rw [List.take_zero]; rfl
    have hloop : ∀ s0, spec_l08Text_2 s0 0 k n t (ks.map encS) (is.map GOut.enc) [] = spec_l08Text_2 s0 is.length k n t (ks.map encS) (is.map GOut.enc) (rowT (partsT k ks (is.map outT))) := fun s0 => by
      have := stext_loop (k := k) (n := n) (t := t) (s0 := s0) (ks := ks) (is := is) (fun hk => by subst hk; exact rightB_obj h1) hks (by omega) hrec is.length 0 (by omega)
      rw [e0, et] at this
      exact this
    have hJ : ∀ ws : List Tx, ws.length ≤ 4000 → (joinC 44 ws).length ≤ 1000000 → ev E0 F_spec_l00Join [.p (.sl 1 (rowT ws)), .p (.str (⟨#[44]⟩ : ByteArray))] [] = rS (S (joinC 44 ws)) := fun ws a b => join_ev (by omega) (by omega)
    unfold GOut.enc
    rw [spec_l08Text_0_ev, spec_l08Text_0_eq, GOut.encs_eq]
    simp only [spec_l08Text_1_eq, hloop, beq_int]
    rw [outT, outTs_eq] at hlenT ⊢
    rw [cntO] at hlenT
    by_cases k1 : k = 1
    · subst k1
      have hi := rightB_int h1
      simp only [withinB, Bool.and_eq_true, decide_eq_true_eq] at hi
      rw [decide_eq_false (by omega), cond_false, decide_eq_true rfl, cond_true, digits_ev (by omega), bS, if_pos rfl]
    by_cases k2 : k = 2
    · subst k2
      have ht := (name_chars (rightB_text h1)).2.2
      have e : t = S (bl t) := (S_bl t).symm
      rw [decide_eq_false (by omega), cond_false, decide_eq_false k1, cond_false, decide_eq_true rfl, cond_true, if_neg k1, if_pos rfl]
      have := wrapped (c := 34) (e := 34) (w := bl t) (by omega)
      rw [← e] at this
      exact this
    by_cases k3 : k = 3
    · subst k3
      rw [if_neg k1, if_neg k2, if_pos rfl] at hlenT ⊢
      simp only [List.length_cons, List.length_append, List.length_nil] at hlenT
      have hp : partsT 3 ks (is.map outT) = is.map outT := rfl
      rw [decide_eq_false (by omega), cond_false, decide_eq_false k1, cond_false, decide_eq_false k2, cond_false, decide_eq_false (by omega), cond_false, spec_l08Text_2_eq, hil, decide_eq_false (by omega), cond_false, hp, hJ _ (by rw [List.length_map]; omega) (by omega)]
      exact ends_cut (by omega)
    by_cases k4 : k = 4
    · subst k4
      rw [if_neg k1, if_neg k2, if_neg k3, if_pos rfl] at hlenT ⊢
      simp only [List.length_cons, List.length_append, List.length_nil] at hlenT
      rw [decide_eq_false (by omega), cond_false, decide_eq_false k1, cond_false, decide_eq_false k2, cond_false, decide_eq_true rfl, cond_true, spec_l08Text_2_eq, hil, decide_eq_false (by omega), cond_false, hJ _ (by rw [partsT_len (fun _ => by rw [List.length_map]; exact rightB_obj h1), List.length_map]; omega) (by omega)]
      exact ends_cut (by omega)
    have k0 : k = 0 := by have := rightB_kind h1; omega
    subst k0
    rw [decide_eq_true rfl, cond_true, if_neg k1, if_neg k2, if_neg k3, if_neg k4]
theorem outB_parts {o : GOut} (h : outB o = true) : fineO 20 o = true ∧ cntO o ≤ 4000 := by
  unfold outB at h
  rw [Bool.and_eq_true] at h
  exact ⟨h.1, of_decide_eq_true h.2⟩
end Go.Proofs.YtakbdjdafcjglaaGreatDoor.Dm
