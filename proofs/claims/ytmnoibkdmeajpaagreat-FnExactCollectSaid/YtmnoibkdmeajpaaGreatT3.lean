/- Names and values: the program's judgement and the reference's are one. -/
import Derived.Test.YtmnoibkdmeajpaaGreatT1
namespace Go.Proofs.YtmnoibkdmeajpaaGreat.Dm
set_option linter.unusedVariables false
set_option linter.unusedSimpArgs false
def letterB (n : Int) : Bool := (decide (n ≥ 97) && decide (n ≤ 122)) || (decide (n ≥ 65) && decide (n ≤ 90)) || n == 95
def digitB (n : Int) : Bool := decide (n ≥ 48) && decide (n ≤ 57)
def withinB (n a b : Int) : Bool := decide (a ≤ n) && decide (n ≤ b)
def goodFrom (s : ByteArray) : Nat → Nat → Bool
 | 0, _ => true
 | k + 1, i => (letterB (bt s i) || digitB (bt s i)) && goodFrom s k (i + 1)
def nameB (s : ByteArray) : Bool := withinB s.size 1 40 && letterB (bt s 0) && goodFrom s (s.size - 1) 1
def valueB (v : GVal) : Bool := if v.kind = 1 then withinB v.n (-2147483648) 2147483647 && decide (v.t = ⟨#[]⟩) else if v.kind = 2 then withinB v.n 0 1 && decide (v.t = ⟨#[]⟩) else if v.kind = 3 then v.n == 0 && decide (v.t = ⟨#[]⟩) else if v.kind = 4 then v.n == 0 && nameB v.t else false
theorem spec_letter_ev (n : Int) : ev E0 F_zds [.p (.int .u8 n)] [] = rB (letterB n) := by
 rw [zds_0_ev, zds_0_eq]
 unfold letterB
 cases decide (n ≥ 97) <;> cases decide (n ≤ 122) <;> cases decide (n ≥ 65) <;> cases decide (n ≤ 90) <;> simp
theorem impl_letter_ev (n : Int) : ev E0 F_zay [.p (.int .u8 n)] [] = rB (letterB n) := by
 rw [zay_0_ev, zay_0_eq]
 unfold letterB
 cases decide (n ≥ 97) <;> cases decide (n ≤ 122) <;> cases decide (n ≥ 65) <;> cases decide (n ≤ 90) <;> simp
theorem spec_digit_ev (n : Int) : ev E0 F_zdr [.p (.int .u8 n)] [] = rB (digitB n) := by
 rw [zdr_0_ev, zdr_0_eq]
 unfold digitB
 cases decide (n ≥ 48) <;> simp
theorem impl_digit_ev (n : Int) : ev E0 F_zax [.p (.int .u8 n)] [] = rB (digitB n) := by
 rw [zax_0_ev, zax_0_eq]
 unfold digitB
 cases decide (n ≥ 48) <;> simp
theorem l01In_ev (n a b : Int) : ev E0 F_zdu [.p (.int .i64 n), .p (.int .i64 a), .p (.int .i64 b)] [] = rB (withinB n a b) := by
 rw [zdu_0_ev, zdu_0_eq]
 unfold withinB
 cases decide (a ≤ n) <;> simp
theorem within_ev (n a b : Int) : ev E0 F_zbc [.p (.int .i64 n), .p (.int .i64 a), .p (.int .i64 b)] [] = rB (withinB n a b) := by
 rw [zbc_0_ev, zbc_0_eq]
 unfold withinB
 cases hx : decide (a ≤ n) <;> simp_all
theorem spec_IsInt_ev (n : Int) : ev E0 F_zdo [.p (.int .i64 n)] [] = rB (withinB n (-2147483648) 2147483647) := by
 rw [zdo_0_ev, zdo_0_eq, l01In_ev, bB]
theorem impl_IsInt_ev (n : Int) : ev E0 F_zaj [.p (.int .i64 n)] [] = rB (withinB n (-2147483648) 2147483647) := by
 rw [zaj_0_ev, zaj_0_eq, within_ev, bB]
theorem word_loop {s : ByteArray} (hs : s.size ≤ 9223372036854775807) : ∀ (k i : Nat), i + k = s.size → zdt_2 s i = rB (goodFrom s k i)
 | 0, i, h => by
  rw [zdt_2_eq, decide_eq_false (by omega), cond_false]
  rfl
 | k + 1, i, h => by
  have ih := word_loop hs k (i + 1) (by omega)
  have e : ((i + 1 : Nat) : Int) = (i : Int) + 1 := by omega
  rw [e] at ih
  rw [zdt_2_eq, decide_eq_true (by omega), cond_true, if_pos (by omega), spec_letter_ev, bB, Int.toNat_natCast]
  unfold goodFrom
  cases hl : letterB (bt s i) with
  | true =>
   simp only [Bool.not_true, cond_false, zdt_3_eq, Bool.true_or, Bool.true_and]
   rw [wrap_id (by omega), ih]
  | false =>
   simp only [Bool.not_false, cond_true, Bool.false_or]
   rw [if_pos (by omega), spec_digit_ev, bB]
   cases hd : digitB (bt s i) with
   | true =>
    simp only [Bool.not_true, zdt_3_eq, cond_false, Bool.true_and]
    rw [wrap_id (by omega), ih]
   | false => simp only [Bool.not_false, zdt_3_eq, cond_true, Bool.false_and]
theorem spec_NameOK_ev {s : ByteArray} (hs : s.size ≤ 9223372036854775807) : ev E0 F_zdp [.p (.str s)] [] = rB (nameB s) := by
 have hw : ev E0 F_zdt [.p (.str s)] [] = rB (nameB s) := by
  rw [zdt_0_ev, zdt_0_eq]
  unfold nameB withinB
  by_cases h1 : (s.size : Int) < 1
  ·rw [decide_eq_true h1, cond_true, zdt_1_eq, cond_true]
   have : decide (1 ≤ (s.size : Int)) = false := decide_eq_false (by omega)
   rw [this]
   simp
  ·have e1 : decide (1 ≤ (s.size : Int)) = true := decide_eq_true (by omega)
   rw [decide_eq_false h1, cond_false, e1]
   by_cases h2 : (s.size : Int) > 40
   ·have e2 : decide ((s.size : Int) ≤ 40) = false := decide_eq_false (by omega)
    rw [decide_eq_true h2, cond_true, zdt_1_eq, cond_true, e2]
    simp
   ·have e2 : decide ((s.size : Int) ≤ 40) = true := decide_eq_true (by omega)
    rw [decide_eq_false h2, cond_false, e2, if_pos (by omega), spec_letter_ev, bB, zdt_1_eq]
    have e3 : (0 : Int).toNat = 0 := rfl
    rw [e3]
    cases hl : letterB (bt s 0) with
    | false => simp
    | true =>
     have := word_loop hs (s.size - 1) 1 (by omega)
     have e : ((1 : Nat) : Int) = 1 := rfl
     rw [e] at this
     simp only [Bool.not_true, cond_false, this, Bool.and_self, Bool.true_and]
 rw [zdp_0_ev, zdp_0_eq, hw, bB]
theorem name_loop {s : ByteArray} (hs : s.size ≤ 9223372036854775807) : ∀ (k i : Nat), i + k = s.size → zak_1 s s.size i = rB ((if i = 0 then (if k = 0 then true else letterB (bt s 0) && goodFrom s (k - 1) 1) else goodFrom s k i) && withinB s.size 1 40)
 | 0, i, h => by
  rw [zak_1_eq, decide_eq_false (by omega), cond_false, within_ev, bB]
  unfold goodFrom
  simp
 | k + 1, i, h => by
  have ih := name_loop hs k (i + 1) (by omega)
  have e : ((i + 1 : Nat) : Int) = (i : Int) + 1 := by omega
  rw [e] at ih
  have hne : i + 1 ≠ 0 := by omega
  rw [if_neg hne] at ih
  rw [zak_1_eq, decide_eq_true (by omega), cond_true, if_pos (by omega), impl_letter_ev, bB, Int.toNat_natCast]
  by_cases hi : i = 0
  ·subst hi
   rw [if_pos rfl, if_neg (Nat.succ_ne_zero k), Nat.add_sub_cancel]
   have e0 : (((0 : Nat) : Int) == 0) = true := rfl
   cases hl : letterB (bt s 0) with
   | true =>
    simp only [Bool.not_true, cond_false, zak_2_eq, Bool.true_and]
    rw [wrap_id (by omega), ih]
   | false => simp only [Bool.not_false, cond_true, e0, zak_2_eq, Bool.false_and]
  ·rw [if_neg hi]
   have e0 : ((i : Int) == 0) = false := by simpa using hi
   unfold goodFrom
   cases hl : letterB (bt s i) with
   | true =>
    simp only [Bool.not_true, cond_false, zak_2_eq, Bool.true_or, Bool.true_and]
    rw [wrap_id (by omega), ih]
   | false =>
    simp only [Bool.not_false, cond_true, e0, cond_false, Bool.false_or]
    rw [if_pos (by omega), impl_digit_ev, bB]
    cases hd : digitB (bt s i) with
    | true =>
     simp only [Bool.not_true, zak_2_eq, cond_false, Bool.true_and]
     rw [wrap_id (by omega), ih]
    | false => simp only [Bool.not_false, zak_2_eq, cond_true, Bool.false_and]
theorem impl_NameOK_ev {s : ByteArray} (hs : s.size ≤ 9223372036854775807) : ev E0 F_zak [.p (.str s)] [] = rB (nameB s) := by
 rw [zak_0_ev, zak_0_eq]
 have := name_loop hs s.size 0 (by omega)
 have e : ((0 : Nat) : Int) = 0 := rfl
 rw [e] at this
 rw [this, if_pos rfl]
 unfold nameB
 by_cases h0 : s.size = 0
 ·rw [if_pos h0, h0]
  rfl
 ·rw [if_neg h0, Bool.and_comm, ← Bool.and_assoc]
theorem isNameOrNone_ev {s : ByteArray} (hs : s.size ≤ 9223372036854775807) : ev E0 F_zbb [.p (.str s)] [] = rB (decide (s = ⟨#[]⟩) || nameB s) := by
 rw [zbb_0_ev, zbb_0_eq]
 cases decide (s = (⟨#[]⟩ : ByteArray)) with
 | true => rfl
 | false => rw [cond_false, impl_NameOK_ev hs, bB]; rfl
theorem beq_int (a b : Int) : (a == b) = decide (a = b) := by
 by_cases h : a = b <;> simp [h]
theorem spec_ValueOK_ev {v : GVal} (hv : okVal v) : ev E0 F_zdq [.p (.agg 3 [.int .i64 v.kind, .int .i64 v.n, .str v.t])] [] = rB (valueB v) := by
 rw [zdq_0_ev, zdq_0_eq, spec_IsInt_ev, l01In_ev, spec_NameOK_ev hv, bB, bB, bB]
 unfold valueB
 simp only [beq_int]
 by_cases h1 : v.kind = 1
 ·simp only [h1, decide_true, cond_true, if_true]
  cases withinB v.n (-2147483648) 2147483647 <;> simp
 ·by_cases h2 : v.kind = 2
  ·simp only [h1, h2, decide_true, decide_false, cond_true, cond_false, if_true, if_false]
   cases withinB v.n 0 1 <;> simp
  ·by_cases h3 : v.kind = 3
   ·simp only [h1, h2, h3, decide_true, decide_false, cond_true, cond_false, if_true, if_false]
    cases decide (v.n = 0) <;> simp
   ·by_cases h4 : v.kind = 4
    ·simp only [h1, h2, h3, h4, decide_true, decide_false, cond_true, cond_false, if_true, if_false]
     cases decide (v.n = 0) <;> simp
    ·simp only [h1, h2, h3, h4, decide_false, cond_false, if_false]
theorem impl_ValueOK_ev {v : GVal} (hv : okVal v) : ev E0 F_zap [.p (.agg 3 [.int .i64 v.kind, .int .i64 v.n, .str v.t])] [] = rB (valueB v) := by
 rw [zap_0_ev, zap_0_eq, impl_IsInt_ev, within_ev, impl_NameOK_ev hv, bB, bB, bB]
 unfold valueB
 simp only [beq_int]
 by_cases h1 : v.kind = 1
 ·simp only [h1, decide_true, cond_true, if_true]
  cases withinB v.n (-2147483648) 2147483647 <;> simp
 ·by_cases h2 : v.kind = 2
  ·simp only [h1, h2, decide_true, decide_false, cond_true, cond_false, if_true, if_false]
   cases withinB v.n 0 1 <;> simp
  ·by_cases h3 : v.kind = 3
   ·simp only [h1, h2, h3, decide_true, decide_false, cond_true, cond_false, if_true, if_false]
    cases decide (v.n = 0) <;> simp
   ·by_cases h4 : v.kind = 4
    ·simp only [h1, h2, h3, h4, decide_true, decide_false, cond_true, cond_false, if_true, if_false]
     cases decide (v.n = 0) <;> simp
    ·simp only [h1, h2, h3, h4, decide_false, cond_false, if_false]
end Go.Proofs.YtmnoibkdmeajpaaGreat.Dm
