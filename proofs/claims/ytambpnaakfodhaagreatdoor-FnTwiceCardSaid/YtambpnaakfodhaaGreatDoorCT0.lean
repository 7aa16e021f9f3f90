/- The law FnTwice's run at the digit 0. -/
import Derived.Test.YtambpnaakfodhaaGreatDoorCQ
import Derived.KernelRfl
namespace Go.Proofs.YtambpnaakfodhaaGreatDoor.Dm
set_option linter.unusedVariables false
theorem t1_0 : TellsE (q1 48 0) := told_ev E0 200 60 (l := []) tn (by kernel_rfl)
theorem t2_0 : TellsE (q2 48 0) := told_ev E0 200 60 (l := []) tn (by kernel_rfl)
theorem t3_0 : TellsE (q3 48 0) := told_ev E0 200 60 (l := []) tn (by kernel_rfl)
theorem t4_0 : TellsE (q4 48 0) := told_ev E0 200 60 (l := []) tn (by kernel_rfl)
theorem t5_0 : TellsE (q5 48 0) := told_ev E0 200 60 (l := []) tn (by kernel_rfl)
theorem t6_0 : TellsE (q6 48 0) := told_ev E0 200 60 (l := []) tn (by kernel_rfl)
theorem t9_0 : TellsE (q9 48 0) := told_ev E0 200 60 (l := []) tn (by kernel_rfl)
theorem t10_0 : TellsE (q10 48 0) := told_ev E0 200 60 (l := []) tn (by kernel_rfl)
theorem t11_0 : TellsE (q11 48 0) := told_ev E0 200 60 (l := []) tn (by kernel_rfl)
theorem t12_0 : TellsE (q12 48 0) := told_ev E0 200 60 (l := []) tn (by kernel_rfl)
theorem t13_0 : TellsE (q13 48 0) := told_ev E0 200 60 (l := [q12 48 0]) (tc t12_0 tn) (by kernel_rfl)
theorem t14_0 : TellsE (q14 48 0) := told_ev E0 200 60 (l := [q12 48 0, q13 48 0]) (tc t12_0 (tc t13_0 tn)) (by kernel_rfl)
theorem t15_0 : TellsE (q15 48 0) := told_ev E0 200 60 (l := [q12 48 0]) (tc t12_0 tn) (by kernel_rfl)
theorem t16_0 : TellsE (q16 48 0) := told_ev E0 200 60 (l := [q14 48 0, q15 48 0]) (tc t14_0 (tc t15_0 tn)) (by kernel_rfl)
theorem t17_0 : TellsE (q17 48 0) := told_ev E0 200 60 (l := [q8, q3 48 0, q9 48 0, q10 48 0, q11 48 0, q16 48 0]) (tc t8 (tc t3_0 (tc t9_0 (tc t10_0 (tc t11_0 (tc t16_0 tn)))))) (by kernel_rfl)
theorem t18_0 : TellsE (q18 48 0) := told_ev E0 200 60 (l := [q3 48 0]) (tc t3_0 tn) (by kernel_rfl)
theorem t19_0 : TellsE (q19 48 0) := told_ev E0 200 60 (l := [q3 48 0]) (tc t3_0 tn) (by kernel_rfl)
theorem t20_0 : TellsE (q20 48 0) := told_ev E0 200 60 (l := [q3 48 0, q6 48 0]) (tc t3_0 (tc t6_0 tn)) (by kernel_rfl)
theorem run_0 : laws_FnTwice_2 ⟨#[48]⟩ = some ([.p (.bool true)], []) := told_pt E0 200 60 (l := [q1 48 0, q2 48 0, q3 48 0, q4 48 0, q5 48 0, q6 48 0, q7, q17 48 0, q18 48 0, q19 48 0, q20 48 0]) (tc t1_0 (tc t2_0 (tc t3_0 (tc t4_0 (tc t5_0 (tc t6_0 (tc t7 (tc t17_0 (tc t18_0 (tc t19_0 (tc t20_0 tn))))))))))) (f := F_laws_FnTwice) (p := [1, 1, 3]) (r := ([.p (.bool true)], [])) (by kernel_rfl)
end Go.Proofs.YtambpnaakfodhaaGreatDoor.Dm
