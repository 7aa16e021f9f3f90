/- What is of no document: sizes, copies, comparisons; names, numbers; the texts that the library gives. -/
import Derived.Test.YtbadompnhhhfpaaGreatDoorAF1
import Derived.Test.YtbadompnhhhfpaaGreatDoorDm19
import Derived.Laws.BitsLemmas
namespace Go.Proofs.YtbadompnhhhfpaaGreatDoor.Dm
set_option linter.unusedVariables false
set_option linter.unusedSimpArgs false
section
variable {R : Type}
end
section
variable {P : Program} {t : TypeId} {xs : List Pd}
end
abbrev Tx := List UInt8
def bl (s : ByteArray) : Tx := s.data.toList
theorem bl_inj {a b : ByteArray} (h : bl a = bl b) : a = b := by
  cases a with
  | mk a =>
    cases b with
    | mk b =>
      have h : a.toList = b.toList := h
      rw [Array.toList_inj] at h
      rw [h]
theorem bl_size (s : ByteArray) : s.size = (bl s).length := rfl
theorem bt_bl (s : ByteArray) (i : Nat) : bt s i = (((bl s).getD i 0).toNat : Int) := rfl
def nc (c : UInt8) : Bool := letterB (c.toNat : Int) || digitB (c.toNat : Int)
theorem goodFrom_get {s : ByteArray} : ∀ (k i : Nat), goodFrom s k i = true → ∀ j, i ≤ j → j < i + k → nc ((bl s).getD j 0) = true
  | 0, i, _, j, h1, h2 => by omega
  | k + 1, i, h, j, h1, h2 => by
    unfold goodFrom at h
    rw [Bool.and_eq_true] at h
    by_cases e : i = j
    · subst e
      have := h.1
      rw [bt_bl] at this
      exact this
    · exact goodFrom_get k (i + 1) h.2 j (by omega) (by omega)
theorem name_chars {s : ByteArray} (h : nameB s = true) : (∃ c l, bl s = c :: l ∧ letterB (c.toNat : Int) = true) ∧ (∀ x ∈ bl s, nc x = true) ∧ (bl s).length ≤ 40 := by
  unfold nameB withinB at h
  simp only [Bool.and_eq_true, decide_eq_true_eq] at h
  obtain ⟨⟨⟨h1, h2⟩, h3⟩, h4⟩ := h
  rw [bl_size] at h1 h2 h4
  rw [bt_bl] at h3
  cases hb : bl s with
  | nil => rw [hb] at h1; simp at h1
  | cons c l =>
    rw [hb] at h3 h2
    refine ⟨⟨c, l, rfl, h3⟩, fun x hx => ?_, by omega⟩
    rw [← hb] at hx
    obtain ⟨j, hj, e⟩ := List.getElem_of_mem hx
    have e2 : (bl s).getD j 0 = x := by rw [List.getD_eq_getElem?_getD, List.getElem?_eq_getElem hj]; exact e
    by_cases h0 : j = 0
    · subst h0
      rw [← e2, hb]
      unfold nc
      have h3 : letterB (c.toNat : Int) = true := h3
      show (letterB (c.toNat : Int) || _) = true
      rw [h3, Bool.true_or]
    · have := goodFrom_get _ _ h4 j (by omega) (by omega)
      rw [e2] at this
      exact this
def digN (n : Nat) : Tx := if n < 10 then [UInt8.ofNat (48 + n)] else digN (n / 10) ++ [UInt8.ofNat (48 + n % 10)]
  termination_by n
  decreasing_by omega
def digI (n : Int) : Tx := if n < 0 then 45 :: digN (-n).toNat else digN n.toNat
def undig (l : Tx) : Nat := l.foldl (fun a c => a * 10 + (c.toNat - 48)) 0
theorem ofNat_toNat {n : Nat} (h : n < 256) : (UInt8.ofNat n).toNat = n := by
  simp [UInt8.toNat_ofNat', Nat.mod_eq_of_lt h]
theorem undig_digN : ∀ n : Nat, undig (digN n) = n := by
  intro n
  induction n using Nat.strongRecOn with
  | ind n ih =>
    unfold digN
    by_cases h : n < 10
    · rw [if_pos h]
      show 0 * 10 + ((UInt8.ofNat (48 + n)).toNat - 48) = n
      rw [ofNat_toNat (by omega)]
      omega
    · rw [if_neg h]
      unfold undig
      rw [List.foldl_append]
      have := ih (n / 10) (by omega)
      unfold undig at this
      rw [this]
      show n / 10 * 10 + ((UInt8.ofNat (48 + n % 10)).toNat - 48) = n
      rw [ofNat_toNat (by omega)]
      omega
theorem digN_chars : ∀ n : Nat, (∀ c ∈ digN n, digitB (c.toNat : Int) = true) ∧ digN n ≠ [] := by
  intro n
  have one : ∀ k, k < 10 → digitB ((UInt8.ofNat (48 + k)).toNat : Int) = true := fun k hk => by
    rw [ofNat_toNat (by omega)]
    unfold digitB
    rw [decide_eq_true (by omega), decide_eq_true (by omega)]
    rfl
  induction n using Nat.strongRecOn with
  | ind n ih =>
    unfold digN
    by_cases h : n < 10
    · rw [if_pos h]
      refine ⟨fun c hc => ?_, by simp⟩
      rw [List.mem_singleton] at hc
      exact hc ▸ one n h
    · rw [if_neg h]
      refine ⟨fun c hc => ?_, by simp⟩
      rcases List.mem_append.1 hc with q | q
      · exact (ih (n / 10) (by omega)).1 c q
      · rw [List.mem_singleton] at q
        exact q ▸ one _ (by omega)
theorem digN_len : ∀ (k n : Nat), n < 10 ^ (k + 1) → (digN n).length ≤ k + 1
  | 0, n, h => by
    unfold digN
    rw [if_pos (by omega)]
    simp
  | k + 1, n, h => by
    unfold digN
    by_cases h10 : n < 10
    · rw [if_pos h10]; simp
    · rw [if_neg h10, List.length_append]
      have := digN_len k (n / 10) (by rw [Nat.pow_succ] at h; omega)
      simp only [List.length_singleton]
      omega
abbrev S (l : Tx) : ByteArray := ⟨l.toArray⟩
theorem S_bl (s : ByteArray) : S (bl s) = s := by cases s; simp [S, bl]
theorem bl_S (l : Tx) : bl (S l) = l := by simp [S, bl]
theorem S_append (a b : Tx) : S a ++ S b = S (a ++ b) := by
  apply bl_inj
  rw [bl_S]
  show (S a ++ S b).data.toList = a ++ b
  simp [S]
theorem S_size (a : Tx) : (S a).size = a.length := by show a.toArray.size = _; simp
theorem S_inj {a b : Tx} (h : S a = S b) : a = b := by rw [← bl_S a, h, bl_S]
abbrev rS (v : ByteArray) : Option Res := some ([.p (.str v)], [])
theorem bS {R : Type} (v : ByteArray) (K : ByteArray → Option R) : ((rS v).bind fun r => (asStr (pAt 0 r.1)).bind fun v => if r.1.length = 1 then K v else none) = K v := by simp [pAt, asStr]
theorem lim_pos {R : Type} {a b : Tx} {x : Option R} (h : a.length + b.length ≤ LIM) : (if (S a).size + (S b).size ≤ LIM then x else none) = x := by
  rw [S_size, S_size, if_pos h]
theorem asS (v : ByteArray) : asStr (.str v) = some v := rfl
theorem bytes1 (n : Int) : bytesOf [[.int .u8 n]] = some [UInt8.ofNat n.toNat] := rfl
theorem digits_nat : ∀ (m : Nat), m < 9223372036854775808 → ev E0 F_spec_l00Digits [.p (.int .i64 m)] [] = rS (S (digN m)) ∧ (digN m).length ≤ m + 1 := by
  intro m
  induction m using Nat.strongRecOn with
  | ind m ih =>
    intro hm
    rw [spec_l00Digits_0_ev, spec_l00Digits_0_eq]
    have e1 : ((m : Int) == -9223372036854775808) = false := by rw [beq_int]; exact decide_eq_false (by omega)
    rw [e1, cond_false, decide_eq_false (by omega), cond_false]
    unfold digN
    by_cases h : m < 10
    · rw [decide_eq_true (by omega), cond_true, if_pos h]
      have e2 : IntKind.u8.wrap (IntKind.i64.wrap (48 + (m : Int))) = ((48 + m : Nat) : Int) := by rw [wrap_id (by omega), IntKind.wrap_u8]; omega
      rw [e2, bytes1, Int.toNat_natCast]
      exact ⟨rfl, by simp⟩
    · rw [decide_eq_false (by omega), cond_false, if_neg h]
      have e2 : IntKind.u8.wrap (IntKind.i64.wrap (48 + (m : Int).tmod 10)) = ((48 + m % 10 : Nat) : Int) := by
        have : (m : Int).tmod 10 = ((m % 10 : Nat) : Int) := rfl
        rw [this, wrap_id (by omega), IntKind.wrap_u8]; omega
      have e3 : IntKind.i64.wrap ((m : Int).tdiv 10) = ((m / 10 : Nat) : Int) := by
        have : (m : Int).tdiv 10 = ((m / 10 : Nat) : Int) := rfl
        rw [this, wrap_id (by omega)]
      obtain ⟨h1, h2⟩ := ih (m / 10) (by omega) (by omega)
      rw [e2, e3, h1, bS, bytes1, Option.bind_some, Int.toNat_natCast]
      have hs : (digN (m / 10)).length + ([UInt8.ofNat (48 + m % 10)] : Tx).length ≤ LIM := by
        have := digN_len 18 (m / 10) (by omega)
        simp only [List.length_singleton, LIM]
        omega
      refine ⟨?_, by simp only [List.length_append, List.length_singleton]; omega⟩
      rw [lim_pos hs, S_append]
theorem digits_ev {n : Int} (h : -9223372036854775808 < n ∧ n ≤ 9223372036854775807) : ev E0 F_spec_l00Digits [.p (.int .i64 n)] [] = rS (S (digI n)) := by
  unfold digI
  by_cases hn : n < 0
  · rw [if_pos hn, spec_l00Digits_0_ev, spec_l00Digits_0_eq]
    have e1 : (n == -9223372036854775808) = false := by rw [beq_int]; exact decide_eq_false (by omega)
    have e2 : IntKind.i64.wrap (0 - n) = (((-n).toNat : Nat) : Int) := by rw [wrap_id (by omega)]; omega
    rw [e1, cond_false, decide_eq_true hn, cond_true, e2, (digits_nat (-n).toNat (by omega)).1, bS]
    have hs : ([45] : Tx).length + (digN (-n).toNat).length ≤ LIM := by
      have := digN_len 18 (-n).toNat (by omega)
      simp only [List.length_singleton, LIM]
      omega
    rw [lim_pos hs, S_append]
    rfl
  · rw [if_neg hn]
    have e : n = ((n.toNat : Nat) : Int) := by omega
    rw [e]
    have := (digits_nat n.toNat (by omega)).1
    rw [this, Int.toNat_natCast]
theorem len_bne (a b : Nat) : ((a : Int) != (b : Int)) = !decide (a = b) := by
  by_cases h : a = b
  · simp [h]
  · have : ¬ (a : Int) = (b : Int) := by omega
    simp [h, this]
theorem decDigits_digN : ∀ n : Nat, Lib.decDigits n = digN n := by
  intro n
  induction n using Nat.strongRecOn with
  | ind n ih =>
    rw [Lib.decDigits, digN]
    by_cases h : n < 10
    · rw [dif_pos h, if_pos h]
    · rw [dif_neg h, if_neg h, ih (n / 10) (by omega)]
theorem itoa_digI (n : Int) : Lib.itoa n = digI n := by
  unfold Lib.itoa digI
  rw [decDigits_digN, decDigits_digN]
  have : n.natAbs = (-n).toNat ∨ ¬ n < 0 := by omega
  rcases this with h | h
  · rw [h]
  · rw [if_neg h, if_neg h]
theorem itoa_lib (n : Int) : ev E0 F_strconv_Itoa [.p (.int .i64 n)] [] = libD itoaL [.p (.int .i64 n)] [] := (ev_eq _ _ _ _).trans (by kernel_rfl)
theorem itoa_ev {n : Int} (h : -9223372036854775808 ≤ n ∧ n ≤ 9223372036854775807) : ev E0 F_strconv_Itoa [.p (.int .i64 n)] [] = rS (S (digI n)) := by
  rw [itoa_lib, ← itoa_digI]
  simp only [libD, pures, itoaL, if_pos h]
  rfl
theorem strsOf_map : ∀ ws : List Tx, strsOf (ws.map fun w => [.str (S w)]) = some (ws.map S)
  | [] => rfl
  | w :: ws => by
    rw [List.map_cons, strsOf, strsOf_map ws]
    rfl
def joinC (c : UInt8) : List Tx → Tx
  | [] => []
  | w :: ws => w ++ ws.flatMap fun x => c :: x
def joinD (c : UInt8) (first : Bool) : List Tx → Tx
  | [] => []
  | w :: ws => (if first = true then [] else [c]) ++ (w ++ joinD c false ws)
theorem joinD_false (c : UInt8) : ∀ ws : List Tx, joinD c false ws = ws.flatMap fun x => c :: x
  | [] => rfl
  | w :: ws => by rw [joinD, joinD_false c ws]; rfl
theorem joinD_true (c : UInt8) (ws : List Tx) : joinD c true ws = joinC c ws := by
  cases ws with
  | nil => rfl
  | cons w ws => rw [joinD, joinD_false]; rfl
theorem join_joinC (c : UInt8) (ws : List Tx) : Lib.join (ws.map fun w => (S w).data.toList) [c] = joinC c ws := by
  have e : (ws.map fun w => (S w).data.toList) = ws := by
    have : (fun w : Tx => (S w).data.toList) = id := funext fun w => bl_S w
    rw [this, List.map_id]
  rw [e]
  cases ws with
  | nil => rfl
  | cons w ws =>
    rw [Lib.join_cons]
    unfold joinC Lib.joinTail
    rw [← List.flatMap_def]
    rfl
theorem join_lib (es : List (List Pd)) (s : ByteArray) : ev E0 F_strings_Join [.p (.sl 1 es), .p (.str s)] [] = libD joinL [.p (.sl 1 es), .p (.str s)] [] := (ev_eq _ _ _ _).trans (by kernel_rfl)
theorem joinI_ev {c : UInt8} {ws : List Tx} (hlen : ws.length ≤ 100000) (hj : (joinC c ws).length ≤ 100000000000) : ev E0 F_strings_Join [.p (.sl 1 (ws.map fun w => [.str (S w)])), .p (.str (⟨#[c]⟩ : ByteArray))] [] = rS (S (joinC c ws)) := by
  have hlim : (2 : Nat) ^ 40 ≤ LIM := by decide
  rw [join_lib]
  simp only [libD, pures, joinL, strsOf_map, List.map_map, Function.comp_def, List.length_map]
  have e : (Lib.join (ws.map fun w => (S w).data.toList) ((⟨#[c]⟩ : ByteArray).data.toList)) = joinC c ws := join_joinC c ws
  rw [e, if_pos ⟨by omega, by omega⟩]
  rfl
theorem join_ev {c : UInt8} {ws : List Tx} (hlen : ws.length ≤ 100000) (hj : (joinC c ws).length ≤ 100000000000) : ev E0 F_spec_l00Join [.p (.sl 1 (ws.map fun w => [.str (S w)])), .p (.str (S [c]))] [] = rS (S (joinC c ws)) := by
  have hlim : (2 : Nat) ^ 40 ≤ LIM := by decide
  have hl : (ws.map fun w => ([.str (S w)] : List Pd)).length = ws.length := by simp
  have loop : ∀ (k i : Nat) (acc : Tx), i + k = ws.length → acc.length + (joinD c (decide (i = 0)) (ws.drop i)).length ≤ 100000000000 → spec_l00Join_1 (ws.map fun w => [.str (S w)]) (S [c]) (S acc) i = rS (S (acc ++ joinD c (decide (i = 0)) (ws.drop i))) := by
    intro k
    induction k with
    | zero =>
      intro i acc h hacc
      have : i = ws.length := by omega
      subst this
      rw [spec_l00Join_1_eq, hl, List.drop_length, decide_eq_false (by omega), cond_false]
      simp [joinD]
    | succ k ih =>
      intro i acc h hacc
      have hlt : i < ws.length := by omega
      have hg : ws[i]? = some ws[i] := List.getElem?_eq_getElem hlt
      have e2 : IntKind.i64.wrap ((i : Int) + 1) = ((i + 1 : Nat) : Int) := by rw [wrap_id (by omega)]; omega
      have eg : ((ws.map fun w => ([.str (S w)] : List Pd)).getD (i : Int).toNat []) = [.str (S ws[i])] := getD_enc (f := fun w => ([.str (S w)] : List Pd)) hg
      have es : asStr (([.str (S ws[i])] : List Pd).getD 0 .undef) = some (S ws[i]) := rfl
      rw [List.drop_eq_getElem_cons hlt, joinD] at hacc
      rw [List.drop_eq_getElem_cons hlt, joinD, spec_l00Join_1_eq, hl, decide_eq_true (by omega), cond_true, int_gt0]
      simp only [List.length_append] at hacc
      by_cases h0 : i = 0
      · rw [decide_eq_false (by omega), cond_false, spec_l00Join_2_eq, hl, if_pos (by omega), eg, es, Option.bind_some, lim_pos (by omega), S_append, e2, ih (i + 1) _ (by omega) (by rw [decide_eq_false (show ¬ i + 1 = 0 by omega), List.length_append]; omega), decide_eq_false (show ¬ i + 1 = 0 by omega), decide_eq_true h0]
        simp
      · rw [decide_eq_false h0] at hacc
        simp only [Bool.false_eq_true, if_false, List.length_singleton] at hacc
        rw [decide_eq_true (by omega), cond_true, lim_pos (by simp only [List.length_singleton]; omega), S_append, spec_l00Join_2_eq, hl, if_pos (by omega), eg, es, Option.bind_some, lim_pos (by simp only [List.length_append, List.length_singleton]; omega), S_append, e2, ih (i + 1) _ (by omega) (by rw [decide_eq_false (show ¬ i + 1 = 0 by omega)]; simp only [List.length_append, List.length_singleton]; omega), decide_eq_false (show ¬ i + 1 = 0 by omega), decide_eq_false h0]
        simp
  have e0 : ((0 : Nat) : Int) = 0 := rfl
  have := loop ws.length 0 [] (by omega) (by rw [List.drop_zero, decide_eq_true rfl, joinD_true]; simpa using hj)
  rw [e0, List.drop_zero, decide_eq_true rfl, joinD_true] at this
  rw [spec_l00Join_0_ev, spec_l00Join_0_eq]
  exact this
end Go.Proofs.YtbadompnhhhfpaaGreatDoor.Dm
