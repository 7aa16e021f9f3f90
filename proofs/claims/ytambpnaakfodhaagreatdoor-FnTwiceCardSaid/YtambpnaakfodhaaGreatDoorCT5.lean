/- The law FnTwice's run at the digit 5. -/
import Derived.Test.YtambpnaakfodhaaGreatDoorCQ
import Derived.KernelRfl
namespace Go.Proofs.YtambpnaakfodhaaGreatDoor.Dm
set_option linter.unusedVariables false
theorem t1_5 : TellsE (q1 53 5) := told_ev E0 200 60 (l := []) tn (by kernel_rfl)
theorem t2_5 : TellsE (q2 53 5) := told_ev E0 200 60 (l := []) tn (by kernel_rfl)
theorem t3_5 : TellsE (q3 53 5) := told_ev E0 200 60 (l := []) tn (by kernel_rfl)
theorem t4_5 : TellsE (q4 53 5) := told_ev E0 200 60 (l := []) tn (by kernel_rfl)
theorem t5_5 : TellsE (q5 53 5) := told_ev E0 200 60 (l := []) tn (by kernel_rfl)
theorem t6_5 : TellsE (q6 53 5) := told_ev E0 200 60 (l := []) tn (by kernel_rfl)
theorem t9_5 : TellsE (q9 53 5) := told_ev E0 200 60 (l := []) tn (by kernel_rfl)
theorem t10_5 : TellsE (q10 53 5) := told_ev E0 200 60 (l := []) tn (by kernel_rfl)
theorem t11_5 : TellsE (q11 53 5) := told_ev E0 200 60 (l := []) tn (by kernel_rfl)
theorem t12_5 : TellsE (q12 53 5) := told_ev E0 200 60 (l := []) tn (by kernel_rfl)
theorem t13_5 : TellsE (q13 53 5) := told_ev E0 200 60 (l := [q12 53 5]) (tc t12_5 tn) (by kernel_rfl)
theorem t14_5 : TellsE (q14 53 5) := told_ev E0 200 60 (l := [q12 53 5, q13 53 5]) (tc t12_5 (tc t13_5 tn)) (by kernel_rfl)
theorem t15_5 : TellsE (q15 53 5) := told_ev E0 200 60 (l := [q12 53 5]) (tc t12_5 tn) (by kernel_rfl)
theorem t16_5 : TellsE (q16 53 5) := told_ev E0 200 60 (l := [q14 53 5, q15 53 5]) (tc t14_5 (tc t15_5 tn)) (by kernel_rfl)
theorem t17_5 : TellsE (q17 53 5) := told_ev E0 200 60 (l := [q8, q3 53 5, q9 53 5, q10 53 5, q11 53 5, q16 53 5]) (tc t8 (tc t3_5 (tc t9_5 (tc t10_5 (tc t11_5 (tc t16_5 tn)))))) (by kernel_rfl)
theorem t18_5 : TellsE (q18 53 5) := told_ev E0 200 60 (l := [q3 53 5]) (tc t3_5 tn) (by kernel_rfl)
theorem t19_5 : TellsE (q19 53 5) := told_ev E0 200 60 (l := [q3 53 5]) (tc t3_5 tn) (by kernel_rfl)
theorem t20_5 : TellsE (q20 53 5) := told_ev E0 200 60 (l := [q3 53 5, q6 53 5]) (tc t3_5 (tc t6_5 tn)) (by kernel_rfl)
theorem run_5 : laws_FnTwice_2 ⟨#[53]⟩ = some ([.p (.bool true)], []) := told_pt E0 200 60 (l := [q1 53 5, q2 53 5, q3 53 5, q4 53 5, q5 53 5, q6 53 5, q7, q17 53 5, q18 53 5, q19 53 5, q20 53 5]) (tc t1_5 (tc t2_5 (tc t3_5 (tc t4_5 (tc t5_5 (tc t6_5 (tc t7 (tc t17_5 (tc t18_5 (tc t19_5 (tc t20_5 tn))))))))))) (f := F_laws_FnTwice) (p := [1, 1, 3]) (r := ([.p (.bool true)], [])) (by kernel_rfl)
end Go.Proofs.YtambpnaakfodhaaGreatDoor.Dm
