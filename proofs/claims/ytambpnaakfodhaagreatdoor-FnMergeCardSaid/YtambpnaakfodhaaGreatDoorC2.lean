/- Choices: at, digit. -/
import Derived.Test.YtambpnaakfodhaaGreatDoorC1
import Derived.KernelRfl
namespace Go.Proofs.YtambpnaakfodhaaGreatDoor.Dm
set_option linter.unusedVariables false
set_option linter.unusedSectionVars false
set_option linter.unusedSimpArgs false
def encB (n : Int) : List Pd := [.int .u8 n]
def byteOK (l : List Int) : Prop := ∀ n ∈ l, 0 ≤ n ∧ n < 256
theorem wrap64 {n : Int} (h : -9223372036854775808 ≤ n ∧ n ≤ 9223372036854775807) : IntKind.i64.wrap n = n := by
  unfold IntKind.wrap
  simp [IntKind.bits, IntKind.signed]
  omega
theorem tmod_pos {a b : Int} (ha : 0 ≤ a) (hb : 0 < b) : 0 ≤ a.tmod b ∧ a.tmod b < b := by
  rw [Int.tmod_eq_emod_of_nonneg ha]
  exact ⟨Int.emod_nonneg _ (by omega), Int.emod_lt_of_pos _ hb⟩
theorem beq_int (a b : Int) : (a == b) = decide (a = b) := by
  by_cases h : a = b <;> simp [h]
def rI (n : Int) : Option Res := some ([.p (.int .i64 n)], [])
theorem bI {R : Type} (v : Int) (K : Int → Option R) : ((rI v).bind fun r => (asInt .i64 (pAt 0 r.1)).bind fun v => if r.1.length = 1 then K v else none) = K v := by simp [rI, pAt, asInt]
def rS (s : ByteArray) : Option Res := some ([.p (.str s)], [])
theorem bS {R : Type} (v : ByteArray) (K : ByteArray → Option R) : ((rS v).bind fun r => (asStr (pAt 0 r.1)).bind fun v => if r.1.length = 1 then K v else none) = K v := by simp [rS, pAt, asStr]
theorem at_ev {code : List Int} (hb : ∀ n ∈ code, 0 ≤ n ∧ n < 256) (hl : code.length ≤ 1152921504606846976) {i n : Int} (hi : 0 ≤ i ∧ i ≤ 1000000) (hn : 1 ≤ n ∧ n ≤ 1000000) :
    ∃ v, ev E0 F_laws_at [.p (.sl 1 (code.map encB)), .p (.int .i64 i), .p (.int .i64 n)] [] = rI v ∧ 0 ≤ v ∧ v < n := by
  have hlen : (code.map encB).length = code.length := by simp
  rw [laws_at_0_ev, laws_at_0_eq, hlen]
  by_cases h1 : n ≤ 1
  · rw [decide_eq_true h1, cond_true]
    exact ⟨0, rfl, by omega, by omega⟩
  · rw [decide_eq_false h1, cond_false]
    by_cases h0 : code.length = 0
    · rw [h0, show (((0 : Nat) : Int) == 0) = true from rfl, cond_true, if_neg (by omega), wrap64 (by omega)]
      have := tmod_pos (a := i * 7) (b := n) (by omega) (by omega)
      exact ⟨_, rfl, this⟩
    · rw [show ((code.length : Int) == 0) = false by rw [beq_int]; exact decide_eq_false (by omega), cond_false, if_neg (by omega)]
      have t1 := tmod_pos (a := i) (b := (code.length : Int)) (by omega) (by omega)
      have t2 := tmod_pos (a := i + 1) (b := (code.length : Int)) (by omega) (by omega)
      have gx : ∀ j : Int, 0 ≤ j → j < code.length → ∃ b, asInt .u8 (((code.map encB).getD j.toNat []).getD 0 .undef) = some b ∧ 0 ≤ b ∧ b < 256 := by
        intro j j0 j1
        have hj : j.toNat < code.length := by omega
        refine ⟨code[j.toNat], ?_, hb _ (List.getElem_mem hj)⟩
        simp [List.getD_eq_getElem?_getD, hj, encB, asInt]
      rw [wrap64 (n := i + 1) (by omega), if_pos (by omega)]
      obtain ⟨b1, e1, r1⟩ := gx _ t1.1 t1.2
      obtain ⟨b2, e2, r2⟩ := gx _ t2.1 t2.2
      rw [e1, Option.bind_some, if_neg (by omega), if_pos (by omega), e2, Option.bind_some, if_neg (by omega), if_neg (by omega)]
      have q1 : 0 ≤ i.tdiv (code.length : Int) ∧ i.tdiv (code.length : Int) ≤ i := by
        rw [Int.tdiv_eq_ediv_of_nonneg hi.1]
        exact ⟨Int.ediv_nonneg hi.1 (by omega), Int.ediv_le_self _ hi.1⟩
      generalize i.tdiv (code.length : Int) = q at q1
      rw [wrap64 (n := b1) (by omega), wrap64 (n := b2) (by omega), wrap64 (n := b1 * 31) (by omega), wrap64 (n := b1 * 31 + b2) (by omega), wrap64 (n := q) (by omega), wrap64 (n := b1 * 31 + b2 + q) (by omega)]
      have := tmod_pos (a := b1 * 31 + b2 + q) (b := n) (by omega) (by omega)
      exact ⟨_, rfl, this⟩
theorem eight {v : Int} (h0 : 0 ≤ v) (h8 : v < 8) : v = 0 ∨ v = 1 ∨ v = 2 ∨ v = 3 ∨ v = 4 ∨ v = 5 ∨ v = 6 ∨ v = 7 := by omega
theorem digit_0 : ev E0 F_laws_digit [.p (.int .i64 0)] [] = rS ⟨#[48]⟩ := (laws_digit_0_ev 0).trans ((laws_digit_0_eq 0).trans (by kernel_rfl))
theorem digit_1 : ev E0 F_laws_digit [.p (.int .i64 1)] [] = rS ⟨#[49]⟩ := (laws_digit_0_ev 1).trans ((laws_digit_0_eq 1).trans (by kernel_rfl))
theorem digit_2 : ev E0 F_laws_digit [.p (.int .i64 2)] [] = rS ⟨#[50]⟩ := (laws_digit_0_ev 2).trans ((laws_digit_0_eq 2).trans (by kernel_rfl))
theorem digit_3 : ev E0 F_laws_digit [.p (.int .i64 3)] [] = rS ⟨#[51]⟩ := (laws_digit_0_ev 3).trans ((laws_digit_0_eq 3).trans (by kernel_rfl))
theorem digit_4 : ev E0 F_laws_digit [.p (.int .i64 4)] [] = rS ⟨#[52]⟩ := (laws_digit_0_ev 4).trans ((laws_digit_0_eq 4).trans (by kernel_rfl))
theorem digit_5 : ev E0 F_laws_digit [.p (.int .i64 5)] [] = rS ⟨#[53]⟩ := (laws_digit_0_ev 5).trans ((laws_digit_0_eq 5).trans (by kernel_rfl))
theorem digit_6 : ev E0 F_laws_digit [.p (.int .i64 6)] [] = rS ⟨#[54]⟩ := (laws_digit_0_ev 6).trans ((laws_digit_0_eq 6).trans (by kernel_rfl))
theorem digit_7 : ev E0 F_laws_digit [.p (.int .i64 7)] [] = rS ⟨#[55]⟩ := (laws_digit_0_ev 7).trans ((laws_digit_0_eq 7).trans (by kernel_rfl))
end Go.Proofs.YtambpnaakfodhaaGreatDoor.Dm
