/- The law FnTwice's run at the digit 3. -/
import Derived.Test.YtambpnaakfodhaaGreatDoorCQ
import Derived.KernelRfl
namespace Go.Proofs.YtambpnaakfodhaaGreatDoor.Dm
set_option linter.unusedVariables false
theorem t1_3 : TellsE (q1 51 3) := told_ev E0 200 60 (l := []) tn (by kernel_rfl)
theorem t2_3 : TellsE (q2 51 3) := told_ev E0 200 60 (l := []) tn (by kernel_rfl)
theorem t3_3 : TellsE (q3 51 3) := told_ev E0 200 60 (l := []) tn (by kernel_rfl)
theorem t4_3 : TellsE (q4 51 3) := told_ev E0 200 60 (l := []) tn (by kernel_rfl)
theorem t5_3 : TellsE (q5 51 3) := told_ev E0 200 60 (l := []) tn (by kernel_rfl)
theorem t6_3 : TellsE (q6 51 3) := told_ev E0 200 60 (l := []) tn (by kernel_rfl)
theorem t9_3 : TellsE (q9 51 3) := told_ev E0 200 60 (l := []) tn (by kernel_rfl)
theorem t10_3 : TellsE (q10 51 3) := told_ev E0 200 60 (l := []) tn (by kernel_rfl)
theorem t11_3 : TellsE (q11 51 3) := told_ev E0 200 60 (l := []) tn (by kernel_rfl)
theorem t12_3 : TellsE (q12 51 3) := told_ev E0 200 60 (l := []) tn (by kernel_rfl)
theorem t13_3 : TellsE (q13 51 3) := told_ev E0 200 60 (l := [q12 51 3]) (tc t12_3 tn) (by kernel_rfl)
theorem t14_3 : TellsE (q14 51 3) := told_ev E0 200 60 (l := [q12 51 3, q13 51 3]) (tc t12_3 (tc t13_3 tn)) (by kernel_rfl)
theorem t15_3 : TellsE (q15 51 3) := told_ev E0 200 60 (l := [q12 51 3]) (tc t12_3 tn) (by kernel_rfl)
theorem t16_3 : TellsE (q16 51 3) := told_ev E0 200 60 (l := [q14 51 3, q15 51 3]) (tc t14_3 (tc t15_3 tn)) (by kernel_rfl)
theorem t17_3 : TellsE (q17 51 3) := told_ev E0 200 60 (l := [q8, q3 51 3, q9 51 3, q10 51 3, q11 51 3, q16 51 3]) (tc t8 (tc t3_3 (tc t9_3 (tc t10_3 (tc t11_3 (tc t16_3 tn)))))) (by kernel_rfl)
theorem t18_3 : TellsE (q18 51 3) := told_ev E0 200 60 (l := [q3 51 3]) (tc t3_3 tn) (by kernel_rfl)
theorem t19_3 : TellsE (q19 51 3) := told_ev E0 200 60 (l := [q3 51 3]) (tc t3_3 tn) (by kernel_rfl)
theorem t20_3 : TellsE (q20 51 3) := told_ev E0 200 60 (l := [q3 51 3, q6 51 3]) (tc t3_3 (tc t6_3 tn)) (by kernel_rfl)
theorem run_3 : laws_FnTwice_2 ⟨#[51]⟩ = some ([.p (.bool true)], []) := told_pt E0 200 60 (l := [q1 51 3, q2 51 3, q3 51 3, q4 51 3, q5 51 3, q6 51 3, q7, q17 51 3, q18 51 3, q19 51 3, q20 51 3]) (tc t1_3 (tc t2_3 (tc t3_3 (tc t4_3 (tc t5_3 (tc t6_3 (tc t7 (tc t17_3 (tc t18_3 (tc t19_3 (tc t20_3 tn))))))))))) (f := F_laws_FnTwice) (p := [1, 1, 3]) (r := ([.p (.bool true)], [])) (by kernel_rfl)
end Go.Proofs.YtambpnaakfodhaaGreatDoor.Dm
