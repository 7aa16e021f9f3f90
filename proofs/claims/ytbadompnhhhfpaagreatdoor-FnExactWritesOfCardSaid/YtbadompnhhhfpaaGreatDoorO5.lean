/- The bounds of a number of 32 bits as a text. -/
import Derived.Test.YtbadompnhhhfpaaGreatDoorO4
namespace Go.Proofs.YtbadompnhhhfpaaGreatDoor.Dm
set_option linter.unusedVariables false
theorem digI_len {n : Int} (h : withinB n (-2147483648) 2147483647 = true) : (digI n).length ≤ 11 := by
  simp only [withinB, Bool.and_eq_true, decide_eq_true_eq] at h
  unfold digI
  split
  · have := digN_len 9 (-n).toNat (by omega)
    simp only [List.length_cons]; omega
  · have := digN_len 9 n.toNat (by omega)
    omega
end Go.Proofs.YtbadompnhhhfpaaGreatDoor.Dm
