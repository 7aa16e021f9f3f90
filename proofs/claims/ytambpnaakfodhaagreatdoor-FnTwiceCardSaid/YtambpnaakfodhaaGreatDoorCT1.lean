/- The law FnTwice's run at the digit 1. -/
import Derived.Test.YtambpnaakfodhaaGreatDoorCQ
import Derived.KernelRfl
namespace Go.Proofs.YtambpnaakfodhaaGreatDoor.Dm
set_option linter.unusedVariables false
theorem t1_1 : TellsE (q1 49 1) := told_ev E0 200 60 (l := []) tn (by kernel_rfl)
theorem t2_1 : TellsE (q2 49 1) := told_ev E0 200 60 (l := []) tn (by kernel_rfl)
theorem t3_1 : TellsE (q3 49 1) := told_ev E0 200 60 (l := []) tn (by kernel_rfl)
theorem t4_1 : TellsE (q4 49 1) := told_ev E0 200 60 (l := []) tn (by kernel_rfl)
theorem t5_1 : TellsE (q5 49 1) := told_ev E0 200 60 (l := []) tn (by kernel_rfl)
theorem t6_1 : TellsE (q6 49 1) := told_ev E0 200 60 (l := []) tn (by kernel_rfl)
theorem t9_1 : TellsE (q9 49 1) := told_ev E0 200 60 (l := []) tn (by kernel_rfl)
theorem t10_1 : TellsE (q10 49 1) := told_ev E0 200 60 (l := []) tn (by kernel_rfl)
theorem t11_1 : TellsE (q11 49 1) := told_ev E0 200 60 (l := []) tn (by kernel_rfl)
theorem t12_1 : TellsE (q12 49 1) := told_ev E0 200 60 (l := []) tn (by kernel_rfl)
theorem t13_1 : TellsE (q13 49 1) := told_ev E0 200 60 (l := [q12 49 1]) (tc t12_1 tn) (by kernel_rfl)
theorem t14_1 : TellsE (q14 49 1) := told_ev E0 200 60 (l := [q12 49 1, q13 49 1]) (tc t12_1 (tc t13_1 tn)) (by kernel_rfl)
theorem t15_1 : TellsE (q15 49 1) := told_ev E0 200 60 (l := [q12 49 1]) (tc t12_1 tn) (by kernel_rfl)
theorem t16_1 : TellsE (q16 49 1) := told_ev E0 200 60 (l := [q14 49 1, q15 49 1]) (tc t14_1 (tc t15_1 tn)) (by kernel_rfl)
theorem t17_1 : TellsE (q17 49 1) := told_ev E0 200 60 (l := [q8, q3 49 1, q9 49 1, q10 49 1, q11 49 1, q16 49 1]) (tc t8 (tc t3_1 (tc t9_1 (tc t10_1 (tc t11_1 (tc t16_1 tn)))))) (by kernel_rfl)
theorem t18_1 : TellsE (q18 49 1) := told_ev E0 200 60 (l := [q3 49 1]) (tc t3_1 tn) (by kernel_rfl)
theorem t19_1 : TellsE (q19 49 1) := told_ev E0 200 60 (l := [q3 49 1]) (tc t3_1 tn) (by kernel_rfl)
theorem t20_1 : TellsE (q20 49 1) := told_ev E0 200 60 (l := [q3 49 1, q6 49 1]) (tc t3_1 (tc t6_1 tn)) (by kernel_rfl)
theorem run_1 : laws_FnTwice_2 ⟨#[49]⟩ = some ([.p (.bool true)], []) := told_pt E0 200 60 (l := [q1 49 1, q2 49 1, q3 49 1, q4 49 1, q5 49 1, q6 49 1, q7, q17 49 1, q18 49 1, q19 49 1, q20 49 1]) (tc t1_1 (tc t2_1 (tc t3_1 (tc t4_1 (tc t5_1 (tc t6_1 (tc t7 (tc t17_1 (tc t18_1 (tc t19_1 (tc t20_1 tn))))))))))) (f := F_laws_FnTwice) (p := [1, 1, 3]) (r := ([.p (.bool true)], [])) (by kernel_rfl)
end Go.Proofs.YtambpnaakfodhaaGreatDoor.Dm
