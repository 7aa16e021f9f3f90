/- The law FnTwice's run at the digit 7. -/
import Derived.Test.YtambpnaakfodhaaGreatDoorCQ
import Derived.KernelRfl
namespace Go.Proofs.YtambpnaakfodhaaGreatDoor.Dm
set_option linter.unusedVariables false
theorem t1_7 : TellsE (q1 55 7) := told_ev E0 200 60 (l := []) tn (by kernel_rfl)
theorem t2_7 : TellsE (q2 55 7) := told_ev E0 200 60 (l := []) tn (by kernel_rfl)
theorem t3_7 : TellsE (q3 55 7) := told_ev E0 200 60 (l := []) tn (by kernel_rfl)
theorem t4_7 : TellsE (q4 55 7) := told_ev E0 200 60 (l := []) tn (by kernel_rfl)
theorem t5_7 : TellsE (q5 55 7) := told_ev E0 200 60 (l := []) tn (by kernel_rfl)
theorem t6_7 : TellsE (q6 55 7) := told_ev E0 200 60 (l := []) tn (by kernel_rfl)
theorem t9_7 : TellsE (q9 55 7) := told_ev E0 200 60 (l := []) tn (by kernel_rfl)
theorem t10_7 : TellsE (q10 55 7) := told_ev E0 200 60 (l := []) tn (by kernel_rfl)
theorem t11_7 : TellsE (q11 55 7) := told_ev E0 200 60 (l := []) tn (by kernel_rfl)
theorem t12_7 : TellsE (q12 55 7) := told_ev E0 200 60 (l := []) tn (by kernel_rfl)
theorem t13_7 : TellsE (q13 55 7) := told_ev E0 200 60 (l := [q12 55 7]) (tc t12_7 tn) (by kernel_rfl)
theorem t14_7 : TellsE (q14 55 7) := told_ev E0 200 60 (l := [q12 55 7, q13 55 7]) (tc t12_7 (tc t13_7 tn)) (by kernel_rfl)
theorem t15_7 : TellsE (q15 55 7) := told_ev E0 200 60 (l := [q12 55 7]) (tc t12_7 tn) (by kernel_rfl)
theorem t16_7 : TellsE (q16 55 7) := told_ev E0 200 60 (l := [q14 55 7, q15 55 7]) (tc t14_7 (tc t15_7 tn)) (by kernel_rfl)
theorem t17_7 : TellsE (q17 55 7) := told_ev E0 200 60 (l := [q8, q3 55 7, q9 55 7, q10 55 7, q11 55 7, q16 55 7]) (tc t8 (tc t3_7 (tc t9_7 (tc t10_7 (tc t11_7 (tc t16_7 tn)))))) (by kernel_rfl)
theorem t18_7 : TellsE (q18 55 7) := told_ev E0 200 60 (l := [q3 55 7]) (tc t3_7 tn) (by kernel_rfl)
theorem t19_7 : TellsE (q19 55 7) := told_ev E0 200 60 (l := [q3 55 7]) (tc t3_7 tn) (by kernel_rfl)
theorem t20_7 : TellsE (q20 55 7) := told_ev E0 200 60 (l := [q3 55 7, q6 55 7]) (tc t3_7 (tc t6_7 tn)) (by kernel_rfl)
theorem run_7 : laws_FnTwice_2 ⟨#[55]⟩ = some ([.p (.bool true)], []) := told_pt E0 200 60 (l := [q1 55 7, q2 55 7, q3 55 7, q4 55 7, q5 55 7, q6 55 7, q7, q17 55 7, q18 55 7, q19 55 7, q20 55 7]) (tc t1_7 (tc t2_7 (tc t3_7 (tc t4_7 (tc t5_7 (tc t6_7 (tc t7 (tc t17_7 (tc t18_7 (tc t19_7 (tc t20_7 tn))))))))))) (f := F_laws_FnTwice) (p := [1, 1, 3]) (r := ([.p (.bool true)], [])) (by kernel_rfl)
end Go.Proofs.YtambpnaakfodhaaGreatDoor.Dm
