/- What each function is kept for at its places; the machine's equations of the program's functions. -/
import Derived.Test.YtambpnaakfodhaaGreatDoorProg
import Derived.Test.YtambpnaakfodhaaGreatDoorDm17
import Derived.Test.YtambpnaakfodhaaGreatDoorL0
import Derived.KernelRfl
namespace Go.Proofs.YtambpnaakfodhaaGreatDoor.Dm
set_option linter.unusedVariables false
set_option maxRecDepth 1000000
def annTab : List (Nat × Ann) := [(3, .n none .z (.n none (.n (some ([0, 1, 28], [])) .z .z) (.n none .z (.n (some ([5, 6], [])) .z .z)))),
  (4, .n none .z (.n none (.n (some ([0, 23], [])) .z .z) (.n (some ([5], [])) .z .z)))]
def annOf (f : FuncId) : Ann := match annTab.find? (fun p => p.1 == f) with
  | some p => p.2
  | none => .z
instance cfg0 : Cfg := ⟨fun f => false, fun f => false, false, fun f => Nat.beq f 36 || (Nat.beq f 106 || (false)), false, fun f => Nat.beq f 12 || (Nat.beq f 36 || (Nat.beq f 63 || (Nat.beq f 72 || (Nat.beq f 110 || (false))))), false, fun f => Nat.beq f 63 || (false), false, fun f => bif Nat.beq f 103 then some 2 else none⟩
noncomputable def E0 : Env := ⟨Tryz.prog, annOf, libT⟩
def F_laws_FnMerge : FuncId := 3
def F_laws_FnTwice : FuncId := 4
def F_laws_at : FuncId := 7
def F_laws_digit : FuncId := 9
noncomputable def laws_FnMerge_0 (l0 : List (List Pd)) (l1 : List (List Pd)) : Option Res := pt E0 F_laws_FnMerge [] ⟨Tm.of 160 [(0, .p (.sl 1 l0)), (1, .p (.sl 1 l1))], tl .none [] 0 160, []⟩
noncomputable def laws_FnMerge_1 (l0 : List (List Pd)) (l1 : List (List Pd)) (b2 : Bool) : Option Res := pt E0 F_laws_FnMerge [1, 0, 3] ⟨Tm.of 160 [(0, .p (.sl 1 l0)), (1, .p (.sl 1 l1)), (28, .p (.bool (b2)))], tl .none [] 0 160, []⟩
noncomputable def laws_FnMerge_2 (n0 : Int) (n1 : Int) : Option Res := pt E0 F_laws_FnMerge [1, 1, 1, 3] ⟨Tm.of 160 [(5, .p (.int .i64 (n0))), (6, .p (.int .i64 (n1)))], tl .none [] 0 160, []⟩
theorem laws_FnMerge_0_ev (l0 : List (List Pd)) (l1 : List (List Pd)) : ev E0 F_laws_FnMerge [.p (.sl 1 l0), .p (.sl 1 l1)] [] = laws_FnMerge_0 l0 l1 := (ev_at (by kernel_rfl)).trans (by kernel_rfl)
theorem laws_FnMerge_0_eq (l0 : List (List Pd)) (l1 : List (List Pd)) : laws_FnMerge_0 l0 l1 =
    bif decide (((l0.length : Int) : Int) > 1048576) then (laws_FnMerge_1 l0 l1 true) else (laws_FnMerge_1 l0 l1 (decide (((l1.length : Int) : Int) > 1048576))) := by kernel_rfl
theorem laws_FnMerge_1_eq (l0 : List (List Pd)) (l1 : List (List Pd)) (b2 : Bool) : laws_FnMerge_1 l0 l1 b2 =
    bif b2 then (some ([.p (.bool (true))], [])) else ((ev E0 F_laws_at [.p (.sl 1 l0), .p (.int .i64 (0)), .p (.int .i64 (8))] []).bind fun r104 => (asInt .i64 (pAt 0 r104.1)).bind fun n105 => if r104.1.length = 1 then ((ev E0 F_laws_at [.p (.sl 1 l1), .p (.int .i64 (0)), .p (.int .i64 (8))] []).bind fun r106 => (asInt .i64 (pAt 0 r106.1)).bind fun n107 => if r106.1.length = 1 then (laws_FnMerge_2 n105 n107) else none) else none) := (pt_stop E0 F_laws_FnMerge [1, 0] _ (by kernel_rfl)).trans (by kernel_rfl)
noncomputable def laws_FnTwice_0 (l0 : List (List Pd)) (l1 : List (List Pd)) : Option Res := pt E0 F_laws_FnTwice [] ⟨Tm.of 130 [(0, .p (.sl 1 l0)), (1, .p (.sl 1 l1))], tl .none [] 0 130, []⟩
noncomputable def laws_FnTwice_1 (l0 : List (List Pd)) (b1 : Bool) : Option Res := pt E0 F_laws_FnTwice [1, 0, 3] ⟨Tm.of 130 [(0, .p (.sl 1 l0)), (23, .p (.bool (b1)))], tl .none [] 0 130, []⟩
noncomputable def laws_FnTwice_2 (s0 : ByteArray) : Option Res := pt E0 F_laws_FnTwice [1, 1, 3] ⟨Tm.of 130 [(5, .p (.str s0))], tl .none [] 0 130, []⟩
theorem laws_FnTwice_0_ev (l0 : List (List Pd)) (l1 : List (List Pd)) : ev E0 F_laws_FnTwice [.p (.sl 1 l0), .p (.sl 1 l1)] [] = laws_FnTwice_0 l0 l1 := (ev_at (by kernel_rfl)).trans (by kernel_rfl)
theorem laws_FnTwice_0_eq (l0 : List (List Pd)) (l1 : List (List Pd)) : laws_FnTwice_0 l0 l1 =
    bif decide (((l0.length : Int) : Int) > 1048576) then (laws_FnTwice_1 l0 true) else (laws_FnTwice_1 l0 (decide (((l1.length : Int) : Int) > 1048576))) := by kernel_rfl
theorem laws_FnTwice_1_eq (l0 : List (List Pd)) (b1 : Bool) : laws_FnTwice_1 l0 b1 =
    bif b1 then (some ([.p (.bool (true))], [])) else ((ev E0 F_laws_at [.p (.sl 1 l0), .p (.int .i64 (0)), .p (.int .i64 (8))] []).bind fun r103 => (asInt .i64 (pAt 0 r103.1)).bind fun n104 => if r103.1.length = 1 then ((ev E0 F_laws_digit [.p (.int .i64 (n104))] []).bind fun r105 => (asStr (pAt 0 r105.1)).bind fun s106 => if r105.1.length = 1 then (laws_FnTwice_2 s106) else none) else none) := (pt_stop E0 F_laws_FnTwice [1, 0] _ (by kernel_rfl)).trans (by kernel_rfl)
noncomputable def laws_at_0 (l0 : List (List Pd)) (n1 : Int) (n2 : Int) : Option Res := pt E0 F_laws_at [] ⟨Tm.of 42 [(0, .p (.sl 1 l0)), (1, .p (.int .i64 (n1))), (2, .p (.int .i64 (n2)))], tl .none [] 0 42, []⟩
theorem laws_at_0_ev (l0 : List (List Pd)) (n1 : Int) (n2 : Int) : ev E0 F_laws_at [.p (.sl 1 l0), .p (.int .i64 (n1)), .p (.int .i64 (n2))] [] = laws_at_0 l0 n1 n2 := (ev_at (by kernel_rfl)).trans (by kernel_rfl)
theorem laws_at_0_eq (l0 : List (List Pd)) (n1 : Int) (n2 : Int) : laws_at_0 l0 n1 n2 =
    bif decide ((n2 : Int) ≤ 1) then (some ([.p (.int .i64 (0))], [])) else (bif ((l0.length : Int) : Int) == 0 then (if (n2 : Int) = 0 then none else (some ([.p (.int .i64 ((IntKind.i64.wrap (n1 * 7)).tmod n2))], []))) else (if ((l0.length : Int) : Int) = 0 then none else (if 0 ≤ (n1.tmod (l0.length : Int) : Int) ∧ (n1.tmod (l0.length : Int) : Int) < (l0.length : Int) then ((asInt .u8 (((l0.getD (n1.tmod (l0.length : Int) : Int).toNat []).getD 0 .undef))).bind fun n104 => if ((l0.length : Int) : Int) = 0 then none else (if 0 ≤ ((IntKind.i64.wrap (n1 + 1)).tmod (l0.length : Int) : Int) ∧ ((IntKind.i64.wrap (n1 + 1)).tmod (l0.length : Int) : Int) < (l0.length : Int) then ((asInt .u8 (((l0.getD ((IntKind.i64.wrap (n1 + 1)).tmod (l0.length : Int) : Int).toNat []).getD 0 .undef))).bind fun n105 => if ((l0.length : Int) : Int) = 0 then none else (if (n2 : Int) = 0 then none else (some ([.p (.int .i64 ((IntKind.i64.wrap ((IntKind.i64.wrap ((IntKind.i64.wrap ((IntKind.i64.wrap (n104)) * 31)) + (IntKind.i64.wrap (n105)))) + (IntKind.i64.wrap (n1.tdiv (l0.length : Int))))).tmod n2))], [])))) else none)) else none))) := by kernel_rfl
noncomputable def laws_digit_0 (n0 : Int) : Option Res := pt E0 F_laws_digit [] ⟨Tm.of 8 [(0, .p (.int .i64 (n0)))], tl .none [] 0 8, []⟩
theorem laws_digit_0_ev (n0 : Int) : ev E0 F_laws_digit [.p (.int .i64 (n0))] [] = laws_digit_0 n0 := (ev_at (by kernel_rfl)).trans (by kernel_rfl)
theorem laws_digit_0_eq (n0 : Int) : laws_digit_0 n0 =
    (bytesOf (([[.int .u8 (IntKind.u8.wrap (IntKind.i64.wrap (48 + n0)))]] : List (List Pd)))).bind fun l102 => some ([.p (.str (⟨l102.toArray⟩ : ByteArray))], []) := by kernel_rfl
end Go.Proofs.YtambpnaakfodhaaGreatDoor.Dm
