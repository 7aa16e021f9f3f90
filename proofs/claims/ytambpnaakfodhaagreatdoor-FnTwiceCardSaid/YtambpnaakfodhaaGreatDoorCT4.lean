/- The law FnTwice's run at the digit 4. -/
import Derived.Test.YtambpnaakfodhaaGreatDoorCQ
import Derived.KernelRfl
namespace Go.Proofs.YtambpnaakfodhaaGreatDoor.Dm
set_option linter.unusedVariables false
theorem t1_4 : TellsE (q1 52 4) := told_ev E0 200 60 (l := []) tn (by kernel_rfl)
theorem t2_4 : TellsE (q2 52 4) := told_ev E0 200 60 (l := []) tn (by kernel_rfl)
theorem t3_4 : TellsE (q3 52 4) := told_ev E0 200 60 (l := []) tn (by kernel_rfl)
theorem t4_4 : TellsE (q4 52 4) := told_ev E0 200 60 (l := []) tn (by kernel_rfl)
theorem t5_4 : TellsE (q5 52 4) := told_ev E0 200 60 (l := []) tn (by kernel_rfl)
theorem t6_4 : TellsE (q6 52 4) := told_ev E0 200 60 (l := []) tn (by kernel_rfl)
theorem t9_4 : TellsE (q9 52 4) := told_ev E0 200 60 (l := []) tn (by kernel_rfl)
theorem t10_4 : TellsE (q10 52 4) := told_ev E0 200 60 (l := []) tn (by kernel_rfl)
theorem t11_4 : TellsE (q11 52 4) := told_ev E0 200 60 (l := []) tn (by kernel_rfl)
theorem t12_4 : TellsE (q12 52 4) := told_ev E0 200 60 (l := []) tn (by kernel_rfl)
theorem t13_4 : TellsE (q13 52 4) := told_ev E0 200 60 (l := [q12 52 4]) (tc t12_4 tn) (by kernel_rfl)
theorem t14_4 : TellsE (q14 52 4) := told_ev E0 200 60 (l := [q12 52 4, q13 52 4]) (tc t12_4 (tc t13_4 tn)) (by kernel_rfl)
theorem t15_4 : TellsE (q15 52 4) := told_ev E0 200 60 (l := [q12 52 4]) (tc t12_4 tn) (by kernel_rfl)
theorem t16_4 : TellsE (q16 52 4) := told_ev E0 200 60 (l := [q14 52 4, q15 52 4]) (tc t14_4 (tc t15_4 tn)) (by kernel_rfl)
theorem t17_4 : TellsE (q17 52 4) := told_ev E0 200 60 (l := [q8, q3 52 4, q9 52 4, q10 52 4, q11 52 4, q16 52 4]) (tc t8 (tc t3_4 (tc t9_4 (tc t10_4 (tc t11_4 (tc t16_4 tn)))))) (by kernel_rfl)
theorem t18_4 : TellsE (q18 52 4) := told_ev E0 200 60 (l := [q3 52 4]) (tc t3_4 tn) (by kernel_rfl)
theorem t19_4 : TellsE (q19 52 4) := told_ev E0 200 60 (l := [q3 52 4]) (tc t3_4 tn) (by kernel_rfl)
theorem t20_4 : TellsE (q20 52 4) := told_ev E0 200 60 (l := [q3 52 4, q6 52 4]) (tc t3_4 (tc t6_4 tn)) (by kernel_rfl)
theorem run_4 : laws_FnTwice_2 ⟨#[52]⟩ = some ([.p (.bool true)], []) := told_pt E0 200 60 (l := [q1 52 4, q2 52 4, q3 52 4, q4 52 4, q5 52 4, q6 52 4, q7, q17 52 4, q18 52 4, q19 52 4, q20 52 4]) (tc t1_4 (tc t2_4 (tc t3_4 (tc t4_4 (tc t5_4 (tc t6_4 (tc t7 (tc t17_4 (tc t18_4 (tc t19_4 (tc t20_4 tn))))))))))) (f := F_laws_FnTwice) (p := [1, 1, 3]) (r := ([.p (.bool true)], [])) (by kernel_rfl)
end Go.Proofs.YtambpnaakfodhaaGreatDoor.Dm
