/- The law FnMerge. -/
import Derived.Test.YtambpnaakfodhaaGreatDoorC2
import Derived.Test.YtambpnaakfodhaaGreatDoorMP0
import Derived.Test.YtambpnaakfodhaaGreatDoorMP1
import Derived.Test.YtambpnaakfodhaaGreatDoorMP2
import Derived.Test.YtambpnaakfodhaaGreatDoorMP3
import Derived.Test.YtambpnaakfodhaaGreatDoorMP4
import Derived.Test.YtambpnaakfodhaaGreatDoorMP5
import Derived.Test.YtambpnaakfodhaaGreatDoorMP6
import Derived.Test.YtambpnaakfodhaaGreatDoorMP7
namespace Go.Proofs.YtambpnaakfodhaaGreatDoor.Dm
set_option linter.unusedVariables false
theorem law_FnMerge {code more : List Int} (hc : byteOK code) (hm : byteOK more) (lc : code.length ≤ 9223372036854775807) (lm : more.length ≤ 9223372036854775807) :
    ev E0 F_laws_FnMerge [.p (.sl 1 (code.map encB)), .p (.sl 1 (more.map encB))] [] = some ([.p (.bool true)], []) := by
  have h1 : (code.map encB).length = code.length := by simp
  have h2 : (more.map encB).length = more.length := by simp
  rw [laws_FnMerge_0_ev, laws_FnMerge_0_eq, h1, h2]
  by_cases q1 : (code.length : Int) > 1048576
  · rw [decide_eq_true q1, cond_true, laws_FnMerge_1_eq]; rfl
  rw [decide_eq_false q1, cond_false]
  by_cases q2 : (more.length : Int) > 1048576
  · rw [decide_eq_true q2, laws_FnMerge_1_eq]; rfl
  rw [decide_eq_false q2, laws_FnMerge_1_eq, cond_false]
  obtain ⟨v, e, v0, v8⟩ := at_ev hc (by omega) (i := 0) (n := 8) (by omega) (by omega)
  obtain ⟨u, e', u0, u8⟩ := at_ev hm (by omega) (i := 0) (n := 8) (by omega) (by omega)
  rw [e, bI, e', bI]
  rcases eight v0 v8 with rfl | rfl | rfl | rfl | rfl | rfl | rfl | rfl
  · rcases eight u0 u8 with rfl | rfl | rfl | rfl | rfl | rfl | rfl | rfl
    · exact mrun_0_0
    · exact mrun_0_1
    · exact mrun_0_2
    · exact mrun_0_3
    · exact mrun_0_4
    · exact mrun_0_5
    · exact mrun_0_6
    · exact mrun_0_7
  · rcases eight u0 u8 with rfl | rfl | rfl | rfl | rfl | rfl | rfl | rfl
    · exact mrun_1_0
    · exact mrun_1_1
    · exact mrun_1_2
    · exact mrun_1_3
    · exact mrun_1_4
    · exact mrun_1_5
    · exact mrun_1_6
    · exact mrun_1_7
  · rcases eight u0 u8 with rfl | rfl | rfl | rfl | rfl | rfl | rfl | rfl
    · exact mrun_2_0
    · exact mrun_2_1
    · exact mrun_2_2
    · exact mrun_2_3
    · exact mrun_2_4
    · exact mrun_2_5
    · exact mrun_2_6
    · exact mrun_2_7
  · rcases eight u0 u8 with rfl | rfl | rfl | rfl | rfl | rfl | rfl | rfl
    · exact mrun_3_0
    · exact mrun_3_1
    · exact mrun_3_2
    · exact mrun_3_3
    · exact mrun_3_4
    · exact mrun_3_5
    · exact mrun_3_6
    · exact mrun_3_7
  · rcases eight u0 u8 with rfl | rfl | rfl | rfl | rfl | rfl | rfl | rfl
    · exact mrun_4_0
    · exact mrun_4_1
    · exact mrun_4_2
    · exact mrun_4_3
    · exact mrun_4_4
    · exact mrun_4_5
    · exact mrun_4_6
    · exact mrun_4_7
  · rcases eight u0 u8 with rfl | rfl | rfl | rfl | rfl | rfl | rfl | rfl
    · exact mrun_5_0
    · exact mrun_5_1
    · exact mrun_5_2
    · exact mrun_5_3
    · exact mrun_5_4
    · exact mrun_5_5
    · exact mrun_5_6
    · exact mrun_5_7
  · rcases eight u0 u8 with rfl | rfl | rfl | rfl | rfl | rfl | rfl | rfl
    · exact mrun_6_0
    · exact mrun_6_1
    · exact mrun_6_2
    · exact mrun_6_3
    · exact mrun_6_4
    · exact mrun_6_5
    · exact mrun_6_6
    · exact mrun_6_7
  · rcases eight u0 u8 with rfl | rfl | rfl | rfl | rfl | rfl | rfl | rfl
    · exact mrun_7_0
    · exact mrun_7_1
    · exact mrun_7_2
    · exact mrun_7_3
    · exact mrun_7_4
    · exact mrun_7_5
    · exact mrun_7_6
    · exact mrun_7_7
end Go.Proofs.YtambpnaakfodhaaGreatDoor.Dm
