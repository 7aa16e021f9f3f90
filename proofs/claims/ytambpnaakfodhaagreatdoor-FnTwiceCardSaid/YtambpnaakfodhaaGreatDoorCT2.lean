/- The law FnTwice's run at the digit 2. -/
import Derived.Test.YtambpnaakfodhaaGreatDoorCQ
import Derived.KernelRfl
namespace Go.Proofs.YtambpnaakfodhaaGreatDoor.Dm
set_option linter.unusedVariables false
theorem t1_2 : TellsE (q1 50 2) := told_ev E0 200 60 (l := []) tn (by kernel_rfl)
theorem t2_2 : TellsE (q2 50 2) := told_ev E0 200 60 (l := []) tn (by kernel_rfl)
theorem t3_2 : TellsE (q3 50 2) := told_ev E0 200 60 (l := []) tn (by kernel_rfl)
theorem t4_2 : TellsE (q4 50 2) := told_ev E0 200 60 (l := []) tn (by kernel_rfl)
theorem t5_2 : TellsE (q5 50 2) := told_ev E0 200 60 (l := []) tn (by kernel_rfl)
theorem t6_2 : TellsE (q6 50 2) := told_ev E0 200 60 (l := []) tn (by kernel_rfl)
theorem t9_2 : TellsE (q9 50 2) := told_ev E0 200 60 (l := []) tn (by kernel_rfl)
theorem t10_2 : TellsE (q10 50 2) := told_ev E0 200 60 (l := []) tn (by kernel_rfl)
theorem t11_2 : TellsE (q11 50 2) := told_ev E0 200 60 (l := []) tn (by kernel_rfl)
theorem t12_2 : TellsE (q12 50 2) := told_ev E0 200 60 (l := []) tn (by kernel_rfl)
theorem t13_2 : TellsE (q13 50 2) := told_ev E0 200 60 (l := [q12 50 2]) (tc t12_2 tn) (by kernel_rfl)
theorem t14_2 : TellsE (q14 50 2) := told_ev E0 200 60 (l := [q12 50 2, q13 50 2]) (tc t12_2 (tc t13_2 tn)) (by kernel_rfl)
theorem t15_2 : TellsE (q15 50 2) := told_ev E0 200 60 (l := [q12 50 2]) (tc t12_2 tn) (by kernel_rfl)
theorem t16_2 : TellsE (q16 50 2) := told_ev E0 200 60 (l := [q14 50 2, q15 50 2]) (tc t14_2 (tc t15_2 tn)) (by kernel_rfl)
theorem t17_2 : TellsE (q17 50 2) := told_ev E0 200 60 (l := [q8, q3 50 2, q9 50 2, q10 50 2, q11 50 2, q16 50 2]) (tc t8 (tc t3_2 (tc t9_2 (tc t10_2 (tc t11_2 (tc t16_2 tn)))))) (by kernel_rfl)
theorem t18_2 : TellsE (q18 50 2) := told_ev E0 200 60 (l := [q3 50 2]) (tc t3_2 tn) (by kernel_rfl)
theorem t19_2 : TellsE (q19 50 2) := told_ev E0 200 60 (l := [q3 50 2]) (tc t3_2 tn) (by kernel_rfl)
theorem t20_2 : TellsE (q20 50 2) := told_ev E0 200 60 (l := [q3 50 2, q6 50 2]) (tc t3_2 (tc t6_2 tn)) (by kernel_rfl)
theorem run_2 : laws_FnTwice_2 ⟨#[50]⟩ = some ([.p (.bool true)], []) := told_pt E0 200 60 (l := [q1 50 2, q2 50 2, q3 50 2, q4 50 2, q5 50 2, q6 50 2, q7, q17 50 2, q18 50 2, q19 50 2, q20 50 2]) (tc t1_2 (tc t2_2 (tc t3_2 (tc t4_2 (tc t5_2 (tc t6_2 (tc t7 (tc t17_2 (tc t18_2 (tc t19_2 (tc t20_2 tn))))))))))) (f := F_laws_FnTwice) (p := [1, 1, 3]) (r := ([.p (.bool true)], [])) (by kernel_rfl)
end Go.Proofs.YtambpnaakfodhaaGreatDoor.Dm
