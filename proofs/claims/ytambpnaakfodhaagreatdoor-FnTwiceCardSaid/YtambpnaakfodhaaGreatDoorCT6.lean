/- The law FnTwice's run at the digit 6. -/
import Derived.Test.YtambpnaakfodhaaGreatDoorCQ
import Derived.KernelRfl
namespace Go.Proofs.YtambpnaakfodhaaGreatDoor.Dm
set_option linter.unusedVariables false
theorem t1_6 : TellsE (q1 54 6) := told_ev E0 200 60 (l := []) tn (by kernel_rfl)
theorem t2_6 : TellsE (q2 54 6) := told_ev E0 200 60 (l := []) tn (by kernel_rfl)
theorem t3_6 : TellsE (q3 54 6) := told_ev E0 200 60 (l := []) tn (by kernel_rfl)
theorem t4_6 : TellsE (q4 54 6) := told_ev E0 200 60 (l := []) tn (by kernel_rfl)
theorem t5_6 : TellsE (q5 54 6) := told_ev E0 200 60 (l := []) tn (by kernel_rfl)
theorem t6_6 : TellsE (q6 54 6) := told_ev E0 200 60 (l := []) tn (by kernel_rfl)
theorem t9_6 : TellsE (q9 54 6) := told_ev E0 200 60 (l := []) tn (by kernel_rfl)
theorem t10_6 : TellsE (q10 54 6) := told_ev E0 200 60 (l := []) tn (by kernel_rfl)
theorem t11_6 : TellsE (q11 54 6) := told_ev E0 200 60 (l := []) tn (by kernel_rfl)
theorem t12_6 : TellsE (q12 54 6) := told_ev E0 200 60 (l := []) tn (by kernel_rfl)
theorem t13_6 : TellsE (q13 54 6) := told_ev E0 200 60 (l := [q12 54 6]) (tc t12_6 tn) (by kernel_rfl)
theorem t14_6 : TellsE (q14 54 6) := told_ev E0 200 60 (l := [q12 54 6, q13 54 6]) (tc t12_6 (tc t13_6 tn)) (by kernel_rfl)
theorem t15_6 : TellsE (q15 54 6) := told_ev E0 200 60 (l := [q12 54 6]) (tc t12_6 tn) (by kernel_rfl)
theorem t16_6 : TellsE (q16 54 6) := told_ev E0 200 60 (l := [q14 54 6, q15 54 6]) (tc t14_6 (tc t15_6 tn)) (by kernel_rfl)
theorem t17_6 : TellsE (q17 54 6) := told_ev E0 200 60 (l := [q8, q3 54 6, q9 54 6, q10 54 6, q11 54 6, q16 54 6]) (tc t8 (tc t3_6 (tc t9_6 (tc t10_6 (tc t11_6 (tc t16_6 tn)))))) (by kernel_rfl)
theorem t18_6 : TellsE (q18 54 6) := told_ev E0 200 60 (l := [q3 54 6]) (tc t3_6 tn) (by kernel_rfl)
theorem t19_6 : TellsE (q19 54 6) := told_ev E0 200 60 (l := [q3 54 6]) (tc t3_6 tn) (by kernel_rfl)
theorem t20_6 : TellsE (q20 54 6) := told_ev E0 200 60 (l := [q3 54 6, q6 54 6]) (tc t3_6 (tc t6_6 tn)) (by kernel_rfl)
theorem run_6 : laws_FnTwice_2 ⟨#[54]⟩ = some ([.p (.bool true)], []) := told_pt E0 200 60 (l := [q1 54 6, q2 54 6, q3 54 6, q4 54 6, q5 54 6, q6 54 6, q7, q17 54 6, q18 54 6, q19 54 6, q20 54 6]) (tc t1_6 (tc t2_6 (tc t3_6 (tc t4_6 (tc t5_6 (tc t6_6 (tc t7 (tc t17_6 (tc t18_6 (tc t19_6 (tc t20_6 tn))))))))))) (f := F_laws_FnTwice) (p := [1, 1, 3]) (r := ([.p (.bool true)], [])) (by kernel_rfl)
end Go.Proofs.YtambpnaakfodhaaGreatDoor.Dm
