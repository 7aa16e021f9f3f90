/- The law FnTwice. -/
import Derived.Test.YtambpnaakfodhaaGreatDoorC2
import Derived.Test.YtambpnaakfodhaaGreatDoorCT0
import Derived.Test.YtambpnaakfodhaaGreatDoorCT1
import Derived.Test.YtambpnaakfodhaaGreatDoorCT2
import Derived.Test.YtambpnaakfodhaaGreatDoorCT3
import Derived.Test.YtambpnaakfodhaaGreatDoorCT4
import Derived.Test.YtambpnaakfodhaaGreatDoorCT5
import Derived.Test.YtambpnaakfodhaaGreatDoorCT6
import Derived.Test.YtambpnaakfodhaaGreatDoorCT7
namespace Go.Proofs.YtambpnaakfodhaaGreatDoor.Dm
set_option linter.unusedVariables false
theorem law_FnTwice {code more : List Int} (hc : byteOK code) (hm : byteOK more) (lc : code.length ≤ 9223372036854775807) (lm : more.length ≤ 9223372036854775807) :
    ev E0 F_laws_FnTwice [.p (.sl 1 (code.map encB)), .p (.sl 1 (more.map encB))] [] = some ([.p (.bool true)], []) := by
  have h1 : (code.map encB).length = code.length := by simp
  have h2 : (more.map encB).length = more.length := by simp
  rw [laws_FnTwice_0_ev, laws_FnTwice_0_eq, h1, h2]
  by_cases q1 : (code.length : Int) > 1048576
  · rw [decide_eq_true q1, cond_true, laws_FnTwice_1_eq]; rfl
  rw [decide_eq_false q1, cond_false]
  by_cases q2 : (more.length : Int) > 1048576
  · rw [decide_eq_true q2, laws_FnTwice_1_eq]; rfl
  rw [decide_eq_false q2, laws_FnTwice_1_eq, cond_false]
  obtain ⟨v, e, v0, v8⟩ := at_ev hc (by omega) (i := 0) (n := 8) (by omega) (by omega)
  rw [e, bI]
  rcases eight v0 v8 with rfl | rfl | rfl | rfl | rfl | rfl | rfl | rfl
  · rw [digit_0, bS]; exact run_0
  · rw [digit_1, bS]; exact run_1
  · rw [digit_2, bS]; exact run_2
  · rw [digit_3, bS]; exact run_3
  · rw [digit_4, bS]; exact run_4
  · rw [digit_5, bS]; exact run_5
  · rw [digit_6, bS]; exact run_6
  · rw [digit_7, bS]; exact run_7
end Go.Proofs.YtambpnaakfodhaaGreatDoor.Dm
