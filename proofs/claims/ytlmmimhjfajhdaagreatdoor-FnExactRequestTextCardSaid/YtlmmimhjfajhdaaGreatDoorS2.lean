/- What each function is kept for at its places; the machine's equations of the program's functions. -/
import Derived.Test.YtlmmimhjfajhdaaGreatDoorProg
import Derived.Test.YtlmmimhjfajhdaaGreatDoorDm17
import Derived.Test.YtlmmimhjfajhdaaGreatDoorL0
import Derived.KernelRfl
namespace Go.Proofs.YtlmmimhjfajhdaaGreatDoor.Dm
set_option linter.unusedVariables false
set_option maxRecDepth 1000000
def annTab : List (Nat × Ann) := [(3, .n none .z (.n none .z (.n none .z (.n none .z (.n none .z (.n none .z (.n none .z (.n none (.n (some ([1, 6, 34], [1, 6])) .z .z) .z)))))))),
  (7, .n none .z (.n none .z (.n none .z (.n none (.n none .z (.n (some ([1, 4, 11, 12, 13], [1])) .z .z)) (.n (some ([1, 4], [1])) .z .z))))),
  (10, .n none .z (.n none .z (.n none .z (.n none (.n none .z (.n (some ([0, 1, 5], [])) .z .z)) .z)))),
  (12, .n none .z (.n none .z (.n none (.n none .z (.n (some ([1, 3, 4], [1])) .z .z)) (.n (some ([1, 3], [1])) .z .z)))),
  (14, .n none .z (.n none .z (.n none (.n none .z (.n (some ([0, 3, 4], [7])) .z .z)) .z))),
  (17, .n none .z (.n none .z (.n none (.n none .z (.n (some ([3, 9, 10, 11], [7])) (.n none .z (.n none .z (.n none (.n none .z (.n none .z (.n (some ([3, 5, 6, 9, 10, 11], [5, 7])) .z (.n (some ([3, 5, 6, 9, 10, 11], [5, 7])) .z .z)))) .z))) .z)) .z))),
  (19, .n none .z (.n none .z (.n none (.n none .z (.n (some ([0, 1, 5], [])) .z .z)) .z))),
  (20, .n none .z (.n none .z (.n none .z (.n none (.n none .z (.n (some ([0, 1, 5], [])) .z .z)) .z)))),
  (22, .n none .z (.n none .z (.n none .z (.n none (.n none .z (.n (some ([1, 3, 4], [1])) (.n none .z (.n (some ([1, 3, 4], [1])) (.n none .z (.n none .z (.n none .z (.n none (.n (some ([1, 3, 4, 5, 43], [1, 5])) .z .z) (.n none .z (.n (some ([1, 3, 4, 5, 45, 46], [1, 5])) .z (.n none (.n (some ([1, 3, 4, 62], [1])) .z .z) (.n none .z (.n none (.n (some ([1, 3, 4, 79], [1])) .z .z) .z))))))))) .z)) .z)) .z)))),
  (23, .n none .z (.n none .z (.n none (.n none .z (.n (some ([0, 3], [])) (.n none .z (.n none (.n none (.n (some ([0, 3, 38], [])) .z .z) (.n none .z (.n (some ([0, 3, 4], [])) .z .z))) .z)) .z)) .z))),
  (25, .n none .z (.n none .z (.n none (.n none .z (.n (some ([1, 3, 4], [1, 7])) (.n none .z (.n none (.n none .z (.n none .z (.n (some ([1, 3, 4, 5, 6], [1, 5, 7])) .z (.n (some ([1, 3, 4, 5, 6], [1, 5, 7])) .z .z)))) .z)) .z)) .z))),
  (26, .n none .z (.n none .z (.n none (.n none .z (.n (some ([0, 3, 4], [7])) .z .z)) .z))),
  (28, .n none .z (.n none .z (.n none (.n none .z (.n (some ([1, 3, 7, 8, 9], [1, 3])) (.n none .z (.n none .z (.n none (.n none .z (.n (some ([1, 3, 7, 8, 9, 21], [1, 3])) .z .z)) .z))) .z)) .z))),
  (29, .n none .z (.n none (.n none .z (.n (some ([0, 6, 7, 8], [])) (.n none .z (.n none .z (.n none (.n none .z (.n none .z (.n (some ([0, 6, 7, 8, 36], [])) .z .z))) .z))) .z)) .z)),
  (31, .n none .z (.n none .z (.n none (.n none .z (.n (some ([3, 6, 7, 8], [])) .z .z)) .z))),
  (33, .n none .z (.n none .z (.n none (.n none .z (.n (some ([0, 1, 5], [])) .z .z)) .z))),
  (38, .n none .z (.n none .z (.n none (.n (some ([0, 1, 6, 17], [])) .z .z) (.n none (.n none .z (.n (some ([0, 1, 6, 7], [])) (.n none .z (.n none (.n none .z (.n none .z (.n none .z (.n none .z (.n (some ([0, 1, 6, 7, 48], [])) .z .z))))) .z)) .z)) .z)))),
  (42, .n none .z (.n none .z (.n none (.n none .z (.n (some ([0, 3, 4], [])) .z .z)) .z))),
  (43, .n none .z (.n none .z (.n none (.n none .z (.n (some ([0, 1, 5, 6], [])) (.n none .z (.n none (.n (some ([0, 1, 5, 6], [])) .z .z) .z)) .z)) .z))),
  (46, .n none .z (.n none (.n none .z (.n (some ([1, 4, 5], [1])) .z .z)) .z)),
  (47, .n none .z (.n none (.n (some ([0, 1, 2, 15], [])) .z .z) (.n none (.n none .z (.n (some ([1, 2, 16, 17, 18], [])) (.n none .z (.n none .z (.n none (.n none .z (.n none .z (.n (some ([1, 2, 16, 17, 18, 44], [])) .z .z))) .z))) .z)) .z))),
  (51, .n none .z (.n none (.n none .z (.n (some ([0, 5, 6], [])) (.n none .z (.n none .z (.n none (.n none .z (.n (some ([0, 5, 6, 24], [])) .z .z)) .z))) .z)) .z)),
  (54, .n none .z (.n none .z (.n (some ([1, 3], [1])) (.n none .z (.n none .z (.n (some ([1, 3, 19], [1])) .z .z))) (.n none .z (.n none (.n none .z (.n (some ([1, 3, 4, 47, 48, 49], [1, 45])) .z .z)) (.n (some ([1, 3], [1])) .z (.n none (.n none .z (.n (some ([1, 3, 74, 75, 76], [1])) (.n none .z (.n none .z (.n none (.n none .z (.n none .z (.n (some ([1, 3, 8, 9, 74, 75, 76], [1, 8])) .z .z))) .z))) .z)) (.n (some ([3], [])) .z .z)))))))),
  (60, .n none .z (.n none .z (.n none .z (.n none (.n none .z (.n (some ([0, 1, 5], [])) .z .z)) .z)))),
  (61, .n none .z (.n none (.n none .z (.n (some ([1, 3], [1])) .z .z)) (.n none (.n none .z (.n (some ([1, 4], [1])) (.n none .z (.n none (.n (some ([1, 4, 44], [1])) .z .z) .z)) .z)) (.n none (.n (some ([1, 54], [1])) .z .z) .z)))),
  (62, .n none .z (.n none (.n (some ([0, 17], [])) .z .z) (.n none (.n none .z (.n (some ([0, 3], [])) (.n none .z (.n none (.n (some ([0, 3, 35], [])) .z .z) .z)) .z)) .z))),
  (64, .n none .z (.n none .z (.n (some ([1, 3], [1])) .z (.n none (.n none .z (.n (some ([1, 3, 4], [1])) .z .z)) (.n (some ([1, 3], [1])) .z (.n none (.n none .z (.n (some ([1, 3, 5], [1])) .z .z)) (.n (some ([3], [])) .z .z))))))),
  (65, .n none .z (.n none .z (.n none (.n none .z (.n (some ([0, 3, 4], [7])) .z .z)) .z))),
  (67, .n none .z (.n none (.n (some ([1, 30], [1])) .z .z) (.n none .z (.n none .z (.n none (.n (some ([1, 40], [1])) .z .z) .z))))),
  (68, .n none .z (.n none (.n none .z (.n (some ([0, 1, 7, 8], [])) .z .z)) .z)),
  (75, .n none .z (.n none .z (.n none (.n none .z (.n (some ([0, 1, 5], [])) .z .z)) .z))),
  (92, .n none .z (.n none .z (.n none .z (.n none (.n none .z (.n (some ([0, 1, 5], [])) .z .z)) .z)))),
  (93, .n none .z (.n none .z (.n none .z (.n none (.n none .z (.n (some ([0, 1, 5], [])) .z .z)) .z)))),
  (94, .n none .z (.n none .z (.n none (.n none .z (.n (some ([0, 3, 4], [7])) .z .z)) .z))),
  (95, .n none .z (.n none .z (.n none (.n none .z (.n (some ([0, 3, 4], [7])) .z .z)) .z))),
  (96, .n none .z (.n none (.n none .z (.n (some ([0, 1, 7, 8], [])) .z .z)) .z)),
  (97, .n none .z (.n none (.n none .z (.n (some ([0, 1, 7, 8], [])) .z .z)) .z)),
  (103, .n none .z (.n none .z (.n none (.n none .z (.n (some ([0, 1, 5], [])) .z .z)) .z))),
  (104, .n none .z (.n none .z (.n none (.n none .z (.n (some ([0, 1, 5], [])) .z .z)) .z)))]
def annOf (f : FuncId) : Ann := match annTab.find? (fun p => p.1 == f) with
  | some p => p.2
  | none => .z
noncomputable def E0 : Env := ⟨Tryz.prog, annOf, dr1, libT⟩
def F_laws_FnExactRequestText : FuncId := 3
def F_laws_szRequest : FuncId := 4
def F_spec_RequestText : FuncId := 5
def F_laws_toRequest : FuncId := 6
def F_impl_RequestText : FuncId := 7
def F_laws_eqRequest : FuncId := 8
def F_laws_szDoc : FuncId := 9
def F_laws_szBindingS : FuncId := 10
def F_spec_RequestOK : FuncId := 11
def F_spec_l11Text : FuncId := 12
def F_laws_toDoc : FuncId := 13
def F_laws_toBindingS : FuncId := 14
def F_impl_RequestOK : FuncId := 15
def F_impl_Value_text : FuncId := 16
def F_impl_Doc_text : FuncId := 17
def F_laws_eqDoc : FuncId := 18
def F_laws_eqBindingS : FuncId := 19
def F_laws_szDefS : FuncId := 20
def F_laws_szBinding : FuncId := 21
def F_spec_DocOK : FuncId := 22
def F_spec_BindingsOK : FuncId := 23
def F_spec_l02Value : FuncId := 24
def F_spec_l02Print : FuncId := 25
def F_laws_toDefS : FuncId := 26
def F_laws_toBinding : FuncId := 27
def F_impl_DocOK : FuncId := 28
def F_impl_BindingsOK : FuncId := 29
def F_strconv_Itoa : FuncId := 30
def F_impl_setText : FuncId := 31
def F_strings_Join : FuncId := 32
def F_laws_eqDefS : FuncId := 33
def F_laws_eqBinding : FuncId := 34
def F_laws_szDef : FuncId := 35
def F_laws_szValue : FuncId := 36
def F_spec_l01In : FuncId := 37
def F_spec_l02Sels : FuncId := 38
def F_spec_NameOK : FuncId := 39
def F_spec_ValueOK : FuncId := 40
def F_spec_l00Digits : FuncId := 41
def F_spec_l02Text : FuncId := 42
def F_spec_l00Join : FuncId := 43
def F_laws_toDef : FuncId := 44
def F_laws_toValue : FuncId := 45
def F_impl_Def_isRight : FuncId := 46
def F_impl_areRight : FuncId := 47
def F_impl_within : FuncId := 48
def F_slices_ContainsFunc_impl_Binding_impl_Binding : FuncId := 49
def F_impl_BindingsOK_1 : FuncId := 50
def F_impl_NameOK : FuncId := 51
def F_impl_ValueOK : FuncId := 52
def F_impl_Sel_text : FuncId := 54
def F_laws_eqDef : FuncId := 58
def F_laws_eqValue : FuncId := 59
def F_laws_szSelS : FuncId := 60
def F_spec_l02Sel : FuncId := 61
def F_spec_l00Word : FuncId := 62
def F_spec_IsInt : FuncId := 63
def F_spec_l02SelText : FuncId := 64
def F_laws_toSelS : FuncId := 65
def F_impl_isNameOrNone : FuncId := 66
def F_impl_Sel_isRight : FuncId := 67
def F_slices_IndexFunc_impl_Binding_impl_Binding : FuncId := 68
def F_impl_isLetter : FuncId := 69
def F_impl_isDigit : FuncId := 70
def F_impl_IsInt : FuncId := 71
def F_laws_eqSelS : FuncId := 75
def F_laws_szSel : FuncId := 76
def F_spec_l00Letter : FuncId := 77
def F_spec_l00Digit : FuncId := 78
def F_spec_l01Bit : FuncId := 79
def F_laws_toSel : FuncId := 80
def F_impl_Sel_isRight_1 : FuncId := 81
def F_impl_Sel_isRight_2 : FuncId := 82
def F_slices_ContainsFunc_impl_Arg_impl_Arg : FuncId := 83
def F_slices_ContainsFunc_impl_Dir_impl_Dir : FuncId := 84
def F_laws_eqSel : FuncId := 91
def F_laws_szArgS : FuncId := 92
def F_laws_szDirS : FuncId := 93
def F_laws_toArgS : FuncId := 94
def F_laws_toDirS : FuncId := 95
def F_slices_IndexFunc_impl_Arg_impl_Arg : FuncId := 96
def F_slices_IndexFunc_impl_Dir_impl_Dir : FuncId := 97
def F_laws_eqArgS : FuncId := 103
def F_laws_eqDirS : FuncId := 104
def F_laws_szArg : FuncId := 105
def F_laws_szDir : FuncId := 106
def F_laws_toArg : FuncId := 107
def F_laws_toDir : FuncId := 108
def F_laws_eqArg : FuncId := 111
def F_laws_eqDir : FuncId := 112

/-! laws.FnExactRequestText -/
noncomputable def laws_FnExactRequestText_0 (l0 : List (List Pd)) (l1 : List (List Pd)) : Option Res := pt E0 F_laws_FnExactRequestText [] ⟨tl ud [(0, .p (.agg 2 [.sl 4 l0, .sl 4 l1]))] 0 40, tl .none [] 0 40, []⟩
noncomputable def laws_FnExactRequestText_1 (b0 : Bool) (l1 : List (List Pd)) (l2 : List (List Pd)) (c3 : List Pd) : Option Res := pt E0 F_laws_FnExactRequestText [1, 1, 1, 1, 1, 1, 1, 0, 1] ⟨tl ud [(1, .ptr (.loc 1) 0), (6, .ptr (.loc 6) 0), (34, .p (.bool (b0)))] 0 40, tl .none [(1, .box 2 [.sl 4 l1, .sl 4 l2]), (6, .box 2 c3)] 0 40, []⟩
theorem laws_FnExactRequestText_0_ev (l0 : List (List Pd)) (l1 : List (List Pd)) : ev E0 F_laws_FnExactRequestText [.p (.agg 2 [.sl 4 l0, .sl 4 l1])] [] = laws_FnExactRequestText_0 l0 l1 := (ev_eq _ _ _ _).trans (by kernel_rfl)
theorem laws_FnExactRequestText_0_eq (l0 : List (List Pd)) (l1 : List (List Pd)) : laws_FnExactRequestText_0 l0 l1 =
    (ev E0 F_laws_szRequest [.p (.agg 2 [.sl 4 l0, .sl 4 l1]), .p (.int .i64 (1048576))] []).bind fun r103 => (asInt .i64 (pAt 0 r103.1)).bind fun n104 => if r103.1.length = 1 then (bif decide ((n104 : Int) < 0) then (some ([.p (.bool (true))], [])) else ((ev E0 F_laws_toRequest [.p (.agg 2 [.sl 4 l0, .sl 4 l1])] []).bind fun r105 => (asAgg 2 (pAt 0 r105.1)).bind fun c106 => if r105.1.length = 1 then ((ev E0 F_spec_RequestText [.p (.agg 2 c106)] []).bind fun r107 => (asStr (pAt 0 r107.1)).bind fun s108 => (asInt .i64 (pAt 1 r107.1)).bind fun n109 => if r107.1.length = 2 then ((ev E0 F_laws_toRequest [.p (.agg 2 [.sl 4 l0, .sl 4 l1])] []).bind fun r110 => (asAgg 2 (pAt 0 r110.1)).bind fun c111 => if r110.1.length = 1 then ((ev E0 F_impl_RequestText [.p (.agg 2 c111)] []).bind fun r112 => (asStr (pAt 0 r112.1)).bind fun s113 => (asInt .i64 (pAt 1 r112.1)).bind fun n114 => if r112.1.length = 2 then (bif !decide (s113 = s108) then (laws_FnExactRequestText_1 true l0 l1 c111) else (laws_FnExactRequestText_1 ((n114 : Int) != n109) l0 l1 c111)) else none) else none) else none) else none)) else none := by kernel_rfl
theorem laws_FnExactRequestText_1_eq (b0 : Bool) (l1 : List (List Pd)) (l2 : List (List Pd)) (c3 : List Pd) : laws_FnExactRequestText_1 b0 l1 l2 c3 =
    bif b0 then (some ([.p (.bool (false))], [])) else ((ev E0 F_laws_toRequest [.p (.agg 2 [.sl 4 l1, .sl 4 l2])] []).bind fun r105 => (asAgg 2 (pAt 0 r105.1)).bind fun c106 => if r105.1.length = 1 then ((ev E0 F_laws_eqRequest [.p (.agg 2 c3), .p (.agg 2 c106)] []).bind fun r107 => (asBool (pAt 0 r107.1)).bind fun b108 => if r107.1.length = 1 then (bif !(b108) then (some ([.p (.bool (false))], [])) else (some ([.p (.bool (true))], []))) else none) else none) := by kernel_rfl

/-! laws.szRequest -/
noncomputable def laws_szRequest_0 (l0 : List (List Pd)) (l1 : List (List Pd)) (n2 : Int) : Option Res := pt E0 F_laws_szRequest [] ⟨tl ud [(0, .p (.agg 2 [.sl 4 l0, .sl 4 l1])), (1, .p (.int .i64 (n2)))] 0 18, tl .none [] 0 18, []⟩
theorem laws_szRequest_0_ev (l0 : List (List Pd)) (l1 : List (List Pd)) (n2 : Int) : ev E0 F_laws_szRequest [.p (.agg 2 [.sl 4 l0, .sl 4 l1]), .p (.int .i64 (n2))] [] = laws_szRequest_0 l0 l1 n2 := (ev_eq _ _ _ _).trans (by kernel_rfl)
theorem laws_szRequest_0_eq (l0 : List (List Pd)) (l1 : List (List Pd)) (n2 : Int) : laws_szRequest_0 l0 l1 n2 =
    (ev E0 F_laws_szDoc [.p (.agg 1 [.sl 4 l0]), .p (.int .i64 (n2))] []).bind fun r104 => (asInt .i64 (pAt 0 r104.1)).bind fun n105 => if r104.1.length = 1 then (bif decide ((n105 : Int) < 0) then (some ([.p (.int .i64 (-1))], [])) else ((ev E0 F_laws_szBindingS [.p (.sl 4 l1), .p (.int .i64 (n105))] []).bind fun r106 => (asInt .i64 (pAt 0 r106.1)).bind fun n107 => if r106.1.length = 1 then (bif decide ((n107 : Int) < 0) then (some ([.p (.int .i64 (-1))], [])) else (some ([.p (.int .i64 (n107))], []))) else none)) else none := by kernel_rfl

/-! spec.RequestText -/
noncomputable def spec_RequestText_0 (l0 : List (List Pd)) (l1 : List (List Pd)) : Option Res := pt E0 F_spec_RequestText [] ⟨tl ud [(0, .p (.agg 2 [.sl 4 l0, .sl 4 l1]))] 0 9, tl .none [] 0 9, []⟩
theorem spec_RequestText_0_ev (l0 : List (List Pd)) (l1 : List (List Pd)) : ev E0 F_spec_RequestText [.p (.agg 2 [.sl 4 l0, .sl 4 l1])] [] = spec_RequestText_0 l0 l1 := (ev_eq _ _ _ _).trans (by kernel_rfl)
theorem spec_RequestText_0_eq (l0 : List (List Pd)) (l1 : List (List Pd)) : spec_RequestText_0 l0 l1 =
    (ev E0 F_spec_RequestOK [.p (.agg 2 [.sl 4 l0, .sl 4 l1])] []).bind fun r103 => (asBool (pAt 0 r103.1)).bind fun b104 => if r103.1.length = 1 then (bif !(b104) then (some ([.p (.str (⟨#[]⟩ : ByteArray)), .p (.int .i64 (1))], [])) else ((ev E0 F_spec_l11Text [.p (.agg 2 [.sl 4 l0, .sl 4 l1])] []).bind fun r105 => (asStr (pAt 0 r105.1)).bind fun s106 => if r105.1.length = 1 then (some ([.p (.str s106), .p (.int .i64 (0))], [])) else none)) else none := by kernel_rfl

/-! laws.toRequest -/
noncomputable def laws_toRequest_0 (l0 : List (List Pd)) (l1 : List (List Pd)) : Option Res := pt E0 F_laws_toRequest [] ⟨tl ud [(0, .p (.agg 2 [.sl 4 l0, .sl 4 l1]))] 0 13, tl .none [] 0 13, []⟩
theorem laws_toRequest_0_ev (l0 : List (List Pd)) (l1 : List (List Pd)) : ev E0 F_laws_toRequest [.p (.agg 2 [.sl 4 l0, .sl 4 l1])] [] = laws_toRequest_0 l0 l1 := (ev_eq _ _ _ _).trans (by kernel_rfl)
theorem laws_toRequest_0_eq (l0 : List (List Pd)) (l1 : List (List Pd)) : laws_toRequest_0 l0 l1 =
    (ev E0 F_laws_toDoc [.p (.agg 1 [.sl 4 l0])] []).bind fun r103 => (asAgg 1 (pAt 0 r103.1)).bind fun c104 => if r103.1.length = 1 then ((ev E0 F_laws_toBindingS [.p (.sl 4 l1)] []).bind fun r105 => (asSl 4 (pAt 0 r105.1)).bind fun l106 => if r105.1.length = 1 then (some ([.p (.agg 2 [(c104.getD 0 .undef), .sl 4 l106])], [])) else none) else none := by kernel_rfl

/-! impl.RequestText -/
noncomputable def impl_RequestText_0 (l0 : List (List Pd)) (l1 : List (List Pd)) : Option Res := pt E0 F_impl_RequestText [] ⟨tl ud [(0, .p (.agg 2 [.sl 4 l0, .sl 4 l1]))] 0 39, tl .none [] 0 39, []⟩
noncomputable def impl_RequestText_1 (s0 : ByteArray) (l1 : List (List Pd)) (n2 : Int) (n3 : Int) (l4 : List (List Pd)) (l5 : List (List Pd)) : Option Res := pt E0 F_impl_RequestText [1, 1, 1, 0, 1, 0, 2] ⟨tl ud [(1, .ptr (.loc 1) 0), (4, .p (.str s0)), (11, .p (.sl 4 l1)), (12, .p (.int .i64 (n2))), (13, .p (.int .i64 (n3)))] 0 39, tl .none [(1, .box 2 [.sl 4 l4, .sl 4 l5])] 0 39, []⟩
noncomputable def impl_RequestText_2 (s0 : ByteArray) (l1 : List (List Pd)) (l2 : List (List Pd)) : Option Res := pt E0 F_impl_RequestText [1, 1, 1, 1, 1] ⟨tl ud [(1, .ptr (.loc 1) 0), (4, .p (.str s0))] 0 39, tl .none [(1, .box 2 [.sl 4 l1, .sl 4 l2])] 0 39, []⟩
theorem impl_RequestText_0_ev (l0 : List (List Pd)) (l1 : List (List Pd)) : ev E0 F_impl_RequestText [.p (.agg 2 [.sl 4 l0, .sl 4 l1])] [] = impl_RequestText_0 l0 l1 := (ev_eq _ _ _ _).trans (by kernel_rfl)
theorem impl_RequestText_0_eq (l0 : List (List Pd)) (l1 : List (List Pd)) : impl_RequestText_0 l0 l1 =
    (ev E0 F_impl_RequestOK [.p (.agg 2 [.sl 4 l0, .sl 4 l1])] []).bind fun r103 => (asBool (pAt 0 r103.1)).bind fun b104 => if r103.1.length = 1 then (bif !(b104) then (some ([.p (.str (⟨#[]⟩ : ByteArray)), .p (.int .i64 (1))], [])) else (impl_RequestText_1 (⟨#[]⟩ : ByteArray) l1 (l1.length : Int) 0 l0 l1)) else none := by kernel_rfl
theorem impl_RequestText_1_eq (s0 : ByteArray) (l1 : List (List Pd)) (n2 : Int) (n3 : Int) (l4 : List (List Pd)) (l5 : List (List Pd)) : impl_RequestText_1 s0 l1 n2 n3 l4 l5 =
    bif decide ((n3 : Int) < n2) then (if 0 ≤ (n3 : Int) ∧ (n3 : Int) < (l1.length : Int) then ((asStr (((l1.getD (n3 : Int).toNat []).getD 0 .undef))).bind fun s107 => if s107.size + (⟨#[61]⟩ : ByteArray).size ≤ LIM then ((ev E0 F_impl_Value_text [.p (.agg 3 ((l1.getD (n3 : Int).toNat []).drop 1))] []).bind fun r108 => (asStr (pAt 0 r108.1)).bind fun s109 => if r108.1.length = 1 then (if (s107 ++ (⟨#[61]⟩ : ByteArray)).size + s109.size ≤ LIM then (if ((s107 ++ (⟨#[61]⟩ : ByteArray)) ++ s109).size + (⟨#[32]⟩ : ByteArray).size ≤ LIM then (if s0.size + (((s107 ++ (⟨#[61]⟩ : ByteArray)) ++ s109) ++ (⟨#[32]⟩ : ByteArray)).size ≤ LIM then (impl_RequestText_1 (s0 ++ (((s107 ++ (⟨#[61]⟩ : ByteArray)) ++ s109) ++ (⟨#[32]⟩ : ByteArray))) l1 n2 (IntKind.i64.wrap (n3 + 1)) l4 l5) else none) else none) else none) else none) else none) else none) else (bif decide (((l5.length : Int) : Int) > 0) then (if s0.size + (⟨#[124, 32]⟩ : ByteArray).size ≤ LIM then (impl_RequestText_2 (s0 ++ (⟨#[124, 32]⟩ : ByteArray)) l4 l5) else none) else (impl_RequestText_2 s0 l4 l5)) := (pt_loop E0 F_impl_RequestText [1, 1, 1, 0, 1, 0] _ (by kernel_rfl)).trans (by kernel_rfl)
theorem impl_RequestText_2_eq (s0 : ByteArray) (l1 : List (List Pd)) (l2 : List (List Pd)) : impl_RequestText_2 s0 l1 l2 =
    (ev E0 F_impl_Doc_text [.p (.agg 1 [.sl 4 l1])] []).bind fun r104 => (asStr (pAt 0 r104.1)).bind fun s105 => if r104.1.length = 1 then (if s0.size + s105.size ≤ LIM then (some ([.p (.str (s0 ++ s105)), .p (.int .i64 (0))], [])) else none) else none := by kernel_rfl

/-! laws.eqRequest -/
noncomputable def laws_eqRequest_0 (l0 : List (List Pd)) (l1 : List (List Pd)) (l2 : List (List Pd)) (l3 : List (List Pd)) : Option Res := pt E0 F_laws_eqRequest [] ⟨tl ud [(0, .p (.agg 2 [.sl 4 l0, .sl 4 l1])), (1, .p (.agg 2 [.sl 4 l2, .sl 4 l3]))] 0 17, tl .none [] 0 17, []⟩
theorem laws_eqRequest_0_ev (l0 : List (List Pd)) (l1 : List (List Pd)) (l2 : List (List Pd)) (l3 : List (List Pd)) : ev E0 F_laws_eqRequest [.p (.agg 2 [.sl 4 l0, .sl 4 l1]), .p (.agg 2 [.sl 4 l2, .sl 4 l3])] [] = laws_eqRequest_0 l0 l1 l2 l3 := (ev_eq _ _ _ _).trans (by kernel_rfl)
theorem laws_eqRequest_0_eq (l0 : List (List Pd)) (l1 : List (List Pd)) (l2 : List (List Pd)) (l3 : List (List Pd)) : laws_eqRequest_0 l0 l1 l2 l3 =
    (ev E0 F_laws_eqDoc [.p (.agg 1 [.sl 4 l0]), .p (.agg 1 [.sl 4 l2])] []).bind fun r105 => (asBool (pAt 0 r105.1)).bind fun b106 => if r105.1.length = 1 then (bif !(b106) then (some ([.p (.bool (false))], [])) else ((ev E0 F_laws_eqBindingS [.p (.sl 4 l1), .p (.sl 4 l3)] []).bind fun r107 => (asBool (pAt 0 r107.1)).bind fun b108 => if r107.1.length = 1 then (bif !(b108) then (some ([.p (.bool (false))], [])) else (some ([.p (.bool (true))], []))) else none)) else none := by kernel_rfl

/-! laws.szDoc -/
noncomputable def laws_szDoc_0 (l0 : List (List Pd)) (n1 : Int) : Option Res := pt E0 F_laws_szDoc [] ⟨tl ud [(0, .p (.agg 1 [.sl 4 l0])), (1, .p (.int .i64 (n1)))] 0 12, tl .none [] 0 12, []⟩
theorem laws_szDoc_0_ev (l0 : List (List Pd)) (n1 : Int) : ev E0 F_laws_szDoc [.p (.agg 1 [.sl 4 l0]), .p (.int .i64 (n1))] [] = laws_szDoc_0 l0 n1 := (ev_eq _ _ _ _).trans (by kernel_rfl)
theorem laws_szDoc_0_eq (l0 : List (List Pd)) (n1 : Int) : laws_szDoc_0 l0 n1 =
    (ev E0 F_laws_szDefS [.p (.sl 4 l0), .p (.int .i64 (n1))] []).bind fun r103 => (asInt .i64 (pAt 0 r103.1)).bind fun n104 => if r103.1.length = 1 then (bif decide ((n104 : Int) < 0) then (some ([.p (.int .i64 (-1))], [])) else (some ([.p (.int .i64 (n104))], []))) else none := by kernel_rfl

/-! laws.szBindingS -/
noncomputable def laws_szBindingS_0 (l0 : List (List Pd)) (n1 : Int) : Option Res := pt E0 F_laws_szBindingS [] ⟨tl ud [(0, .p (.sl 4 l0)), (1, .p (.int .i64 (n1)))] 0 27, tl .none [] 0 27, []⟩
noncomputable def laws_szBindingS_1 (l0 : List (List Pd)) (n1 : Int) (n2 : Int) : Option Res := pt E0 F_laws_szBindingS [1, 1, 1, 0, 1, 0, 2] ⟨tl ud [(0, .p (.sl 4 l0)), (1, .p (.int .i64 (n1))), (5, .p (.int .i64 (n2)))] 0 27, tl .none [] 0 27, []⟩
theorem laws_szBindingS_0_ev (l0 : List (List Pd)) (n1 : Int) : ev E0 F_laws_szBindingS [.p (.sl 4 l0), .p (.int .i64 (n1))] [] = laws_szBindingS_0 l0 n1 := (ev_eq _ _ _ _).trans (by kernel_rfl)
theorem laws_szBindingS_0_eq (l0 : List (List Pd)) (n1 : Int) : laws_szBindingS_0 l0 n1 =
    bif decide ((IntKind.i64.wrap (n1 - (l0.length : Int)) : Int) < 0) then (some ([.p (.int .i64 (-1))], [])) else (laws_szBindingS_1 l0 (IntKind.i64.wrap (n1 - (l0.length : Int))) 0) := by kernel_rfl
theorem laws_szBindingS_1_eq (l0 : List (List Pd)) (n1 : Int) (n2 : Int) : laws_szBindingS_1 l0 n1 n2 =
    bif decide ((n2 : Int) < (l0.length : Int)) then (if 0 ≤ (n2 : Int) ∧ (n2 : Int) < (l0.length : Int) then ((ev E0 F_laws_szBinding [.p (.agg 4 (l0.getD (n2 : Int).toNat [])), .p (.int .i64 (n1))] []).bind fun r104 => (asInt .i64 (pAt 0 r104.1)).bind fun n105 => if r104.1.length = 1 then (bif decide ((n105 : Int) < 0) then (some ([.p (.int .i64 (-1))], [])) else (laws_szBindingS_1 l0 n105 (IntKind.i64.wrap (n2 + 1)))) else none) else none) else (some ([.p (.int .i64 (n1))], [])) := (pt_loop E0 F_laws_szBindingS [1, 1, 1, 0, 1, 0] _ (by kernel_rfl)).trans (by kernel_rfl)

/-! spec.RequestOK -/
noncomputable def spec_RequestOK_0 (l0 : List (List Pd)) (l1 : List (List Pd)) : Option Res := pt E0 F_spec_RequestOK [] ⟨tl ud [(0, .p (.agg 2 [.sl 4 l0, .sl 4 l1]))] 0 11, tl .none [] 0 11, []⟩
theorem spec_RequestOK_0_ev (l0 : List (List Pd)) (l1 : List (List Pd)) : ev E0 F_spec_RequestOK [.p (.agg 2 [.sl 4 l0, .sl 4 l1])] [] = spec_RequestOK_0 l0 l1 := (ev_eq _ _ _ _).trans (by kernel_rfl)
theorem spec_RequestOK_0_eq (l0 : List (List Pd)) (l1 : List (List Pd)) : spec_RequestOK_0 l0 l1 =
    (ev E0 F_spec_DocOK [.p (.agg 1 [.sl 4 l0])] []).bind fun r103 => (asBool (pAt 0 r103.1)).bind fun b104 => if r103.1.length = 1 then (bif b104 then ((ev E0 F_spec_BindingsOK [.p (.sl 4 l1)] []).bind fun r105 => (asBool (pAt 0 r105.1)).bind fun b106 => if r105.1.length = 1 then (some ([.p (.bool (b106))], [])) else none) else (some ([.p (.bool (false))], []))) else none := by kernel_rfl

/-! spec.l11Text -/
noncomputable def spec_l11Text_0 (l0 : List (List Pd)) (l1 : List (List Pd)) : Option Res := pt E0 F_spec_l11Text [] ⟨tl ud [(0, .p (.agg 2 [.sl 4 l0, .sl 4 l1]))] 0 39, tl .none [] 0 39, []⟩
noncomputable def spec_l11Text_1 (s0 : ByteArray) (n1 : Int) (l2 : List (List Pd)) (l3 : List (List Pd)) : Option Res := pt E0 F_spec_l11Text [1, 1, 0, 1, 0, 2] ⟨tl ud [(1, .ptr (.loc 1) 0), (3, .p (.str s0)), (4, .p (.int .i64 (n1)))] 0 39, tl .none [(1, .box 2 [.sl 4 l2, .sl 4 l3])] 0 39, []⟩
noncomputable def spec_l11Text_2 (s0 : ByteArray) (l1 : List (List Pd)) (l2 : List (List Pd)) : Option Res := pt E0 F_spec_l11Text [1, 1, 1, 1] ⟨tl ud [(1, .ptr (.loc 1) 0), (3, .p (.str s0))] 0 39, tl .none [(1, .box 2 [.sl 4 l1, .sl 4 l2])] 0 39, []⟩
theorem spec_l11Text_0_ev (l0 : List (List Pd)) (l1 : List (List Pd)) : ev E0 F_spec_l11Text [.p (.agg 2 [.sl 4 l0, .sl 4 l1])] [] = spec_l11Text_0 l0 l1 := (ev_eq _ _ _ _).trans (by kernel_rfl)
theorem spec_l11Text_0_eq (l0 : List (List Pd)) (l1 : List (List Pd)) : spec_l11Text_0 l0 l1 =
    spec_l11Text_1 (⟨#[]⟩ : ByteArray) 0 l0 l1 := by kernel_rfl
theorem spec_l11Text_1_eq (s0 : ByteArray) (n1 : Int) (l2 : List (List Pd)) (l3 : List (List Pd)) : spec_l11Text_1 s0 n1 l2 l3 =
    bif decide ((n1 : Int) < (l3.length : Int)) then (if 0 ≤ (n1 : Int) ∧ (n1 : Int) < (l3.length : Int) then ((asStr (((l3.getD (n1 : Int).toNat []).getD 0 .undef))).bind fun s105 => if s105.size + (⟨#[61]⟩ : ByteArray).size ≤ LIM then (if 0 ≤ (n1 : Int) ∧ (n1 : Int) < (l3.length : Int) then ((ev E0 F_spec_l02Value [.p (.agg 3 ((l3.getD (n1 : Int).toNat []).drop 1))] []).bind fun r106 => (asStr (pAt 0 r106.1)).bind fun s107 => if r106.1.length = 1 then (if (s105 ++ (⟨#[61]⟩ : ByteArray)).size + s107.size ≤ LIM then (if ((s105 ++ (⟨#[61]⟩ : ByteArray)) ++ s107).size + (⟨#[32]⟩ : ByteArray).size ≤ LIM then (if s0.size + (((s105 ++ (⟨#[61]⟩ : ByteArray)) ++ s107) ++ (⟨#[32]⟩ : ByteArray)).size ≤ LIM then (spec_l11Text_1 (s0 ++ (((s105 ++ (⟨#[61]⟩ : ByteArray)) ++ s107) ++ (⟨#[32]⟩ : ByteArray))) (IntKind.i64.wrap (n1 + 1)) l2 l3) else none) else none) else none) else none) else none) else none) else none) else (bif !decide (s0 = (⟨#[]⟩ : ByteArray)) then (if s0.size + (⟨#[124, 32]⟩ : ByteArray).size ≤ LIM then (spec_l11Text_2 (s0 ++ (⟨#[124, 32]⟩ : ByteArray)) l2 l3) else none) else (spec_l11Text_2 s0 l2 l3)) := (pt_loop E0 F_spec_l11Text [1, 1, 0, 1, 0] _ (by kernel_rfl)).trans (by kernel_rfl)
theorem spec_l11Text_2_eq (s0 : ByteArray) (l1 : List (List Pd)) (l2 : List (List Pd)) : spec_l11Text_2 s0 l1 l2 =
    (ev E0 F_spec_l02Print [.p (.agg 1 [.sl 4 l1])] []).bind fun r104 => (asStr (pAt 0 r104.1)).bind fun s105 => if r104.1.length = 1 then (if s0.size + s105.size ≤ LIM then (some ([.p (.str (s0 ++ s105))], [])) else none) else none := by kernel_rfl

/-! laws.toDoc -/
noncomputable def laws_toDoc_0 (l0 : List (List Pd)) : Option Res := pt E0 F_laws_toDoc [] ⟨tl ud [(0, .p (.agg 1 [.sl 4 l0]))] 0 9, tl .none [] 0 9, []⟩
theorem laws_toDoc_0_ev (l0 : List (List Pd)) : ev E0 F_laws_toDoc [.p (.agg 1 [.sl 4 l0])] [] = laws_toDoc_0 l0 := (ev_eq _ _ _ _).trans (by kernel_rfl)
theorem laws_toDoc_0_eq (l0 : List (List Pd)) : laws_toDoc_0 l0 =
    (ev E0 F_laws_toDefS [.p (.sl 4 l0)] []).bind fun r102 => (asSl 4 (pAt 0 r102.1)).bind fun l103 => if r102.1.length = 1 then (some ([.p (.agg 1 [.sl 4 l103])], [])) else none := by kernel_rfl

/-! laws.toBindingS -/
noncomputable def laws_toBindingS_0 (l0 : List (List Pd)) : Option Res := pt E0 F_laws_toBindingS [] ⟨tl ud [(0, .p (.sl 4 l0))] 0 23, tl .none [] 0 23, []⟩
noncomputable def laws_toBindingS_1 (l0 : List (List Pd)) (n1 : Int) (e2 : List (List Pd)) : Option Res := pt E0 F_laws_toBindingS [1, 1, 0, 1, 0, 2] ⟨tl ud [(0, .p (.sl 4 l0)), (3, .arr (.loc 7)), (4, .p (.int .i64 (n1)))] 0 23, tl .none [(7, .arr 49 4 48 false e2)] 0 23, []⟩
theorem laws_toBindingS_0_ev (l0 : List (List Pd)) : ev E0 F_laws_toBindingS [.p (.sl 4 l0)] [] = laws_toBindingS_0 l0 := (ev_eq _ _ _ _).trans (by kernel_rfl)
theorem laws_toBindingS_0_eq (l0 : List (List Pd)) : laws_toBindingS_0 l0 =
    if 0 ≤ ((l0.length : Int) : Int) ∧ ((l0.length : Int) : Int) ≤ (l0.length : Int) ∧ ((l0.length : Int) : Int).toNat * 48 ≤ LIM ∧ 48 ≠ 0 then (laws_toBindingS_1 l0 0 (List.replicate ((l0.length : Int) : Int).toNat [.str (⟨#[]⟩ : ByteArray), .int .i64 (0), .int .i64 (0), .str (⟨#[]⟩ : ByteArray)])) else none := by kernel_rfl
theorem laws_toBindingS_1_eq (l0 : List (List Pd)) (n1 : Int) (e2 : List (List Pd)) : laws_toBindingS_1 l0 n1 e2 =
    bif decide ((n1 : Int) < (l0.length : Int)) then (if 0 ≤ (n1 : Int) ∧ (n1 : Int) < (l0.length : Int) then ((ev E0 F_laws_toBinding [.p (.agg 4 (l0.getD (n1 : Int).toNat []))] []).bind fun r104 => (asAgg 4 (pAt 0 r104.1)).bind fun c105 => if r104.1.length = 1 then (if 0 ≤ (n1 : Int) ∧ (n1 : Int) < (e2.length : Int) then (if 4 = 4 ∧ ((n1 : Int).toNat) < e2.length then (if 0 + 4 ≤ 4 then (laws_toBindingS_1 l0 (IntKind.i64.wrap (n1 + 1)) (setEl e2 ((n1 : Int).toNat) 4 0 4 (.agg 4 c105))) else none) else none) else none) else none) else none) else (some ([.p (.sl 4 e2)], [])) := (pt_loop E0 F_laws_toBindingS [1, 1, 0, 1, 0] _ (by kernel_rfl)).trans (by kernel_rfl)

/-! impl.RequestOK -/
noncomputable def impl_RequestOK_0 (l0 : List (List Pd)) (l1 : List (List Pd)) : Option Res := pt E0 F_impl_RequestOK [] ⟨tl ud [(0, .p (.agg 2 [.sl 4 l0, .sl 4 l1]))] 0 11, tl .none [] 0 11, []⟩
theorem impl_RequestOK_0_ev (l0 : List (List Pd)) (l1 : List (List Pd)) : ev E0 F_impl_RequestOK [.p (.agg 2 [.sl 4 l0, .sl 4 l1])] [] = impl_RequestOK_0 l0 l1 := (ev_eq _ _ _ _).trans (by kernel_rfl)
theorem impl_RequestOK_0_eq (l0 : List (List Pd)) (l1 : List (List Pd)) : impl_RequestOK_0 l0 l1 =
    (ev E0 F_impl_DocOK [.p (.agg 1 [.sl 4 l0])] []).bind fun r103 => (asBool (pAt 0 r103.1)).bind fun b104 => if r103.1.length = 1 then (bif b104 then ((ev E0 F_impl_BindingsOK [.p (.sl 4 l1)] []).bind fun r105 => (asBool (pAt 0 r105.1)).bind fun b106 => if r105.1.length = 1 then (some ([.p (.bool (b106))], [])) else none) else (some ([.p (.bool (false))], []))) else none := by kernel_rfl

/-! (impl.Value).text -/
noncomputable def impl_Value_text_0 (n0 : Int) (n1 : Int) (s2 : ByteArray) : Option Res := pt E0 F_impl_Value_text [] ⟨tl ud [(0, .p (.agg 3 [.int .i64 (n0), .int .i64 (n1), .str s2]))] 0 22, tl .none [] 0 22, []⟩
theorem impl_Value_text_0_ev (n0 : Int) (n1 : Int) (s2 : ByteArray) : ev E0 F_impl_Value_text [.p (.agg 3 [.int .i64 (n0), .int .i64 (n1), .str s2])] [] = impl_Value_text_0 n0 n1 s2 := (ev_eq _ _ _ _).trans (by kernel_rfl)
theorem impl_Value_text_0_eq (n0 : Int) (n1 : Int) (s2 : ByteArray) : impl_Value_text_0 n0 n1 s2 =
    bif (n0 : Int) == 1 then ((ev E0 F_strconv_Itoa [.p (.int .i64 (n1))] []).bind fun r104 => (asStr (pAt 0 r104.1)).bind fun s105 => if r104.1.length = 1 then (some ([.p (.str s105)], [])) else none) else (bif (n0 : Int) == 2 then (if 0 ≤ (n1 : Int) ∧ (n1 : Int) < ((([[.str (⟨#[102, 97, 108, 115, 101]⟩ : ByteArray)], [.str (⟨#[116, 114, 117, 101]⟩ : ByteArray)]] : List (List Pd))).length : Int) then (if 1 = 1 ∧ ((n1 : Int).toNat) < (([[.str (⟨#[102, 97, 108, 115, 101]⟩ : ByteArray)], [.str (⟨#[116, 114, 117, 101]⟩ : ByteArray)]] : List (List Pd))).length ∧ 0 + 1 ≤ 1 then ((asStr (((((([[.str (⟨#[102, 97, 108, 115, 101]⟩ : ByteArray)], [.str (⟨#[116, 114, 117, 101]⟩ : ByteArray)]] : List (List Pd))).getD ((n1 : Int).toNat) [])).getD 0 .undef))).bind fun s106 => some ([.p (.str s106)], [])) else none) else none) else (bif (n0 : Int) == 4 then (if (⟨#[36]⟩ : ByteArray).size + s2.size ≤ LIM then (some ([.p (.str ((⟨#[36]⟩ : ByteArray) ++ s2))], [])) else none) else (some ([.p (.str (⟨#[110, 117, 108, 108]⟩ : ByteArray))], [])))) := by kernel_rfl

/-! (impl.Doc).text -/
noncomputable def impl_Doc_text_0 (l0 : List (List Pd)) : Option Res := pt E0 F_impl_Doc_text [] ⟨tl ud [(0, .p (.agg 1 [.sl 4 l0]))] 0 49, tl .none [] 0 49, []⟩
noncomputable def impl_Doc_text_1 (l0 : List (List Pd)) (n1 : Int) (n2 : Int) (e3 : List (List Pd)) : Option Res := pt E0 F_impl_Doc_text [1, 1, 0, 1, 0, 2] ⟨tl ud [(3, .arr (.loc 7)), (9, .p (.sl 4 l0)), (10, .p (.int .i64 (n1))), (11, .p (.int .i64 (n2)))] 0 49, tl .none [(7, .arr 9 1 16 false e3)] 0 49, []⟩
noncomputable def impl_Doc_text_2 (s0 : ByteArray) (l1 : List (List Pd)) (n2 : Int) (n3 : Int) (c4 : List Pd) (e5 : List (List Pd)) : Option Res := pt E0 F_impl_Doc_text [1, 1, 0, 1, 0, 0, 1, 1, 0, 0, 1, 1, 1] ⟨tl ud [(3, .arr (.loc 7)), (5, .ptr (.loc 5) 0), (6, .p (.str s0)), (9, .p (.sl 4 l1)), (10, .p (.int .i64 (n2))), (11, .p (.int .i64 (n3)))] 0 49, tl .none [(5, .box 4 c4), (7, .arr 9 1 16 false e5)] 0 49, []⟩
noncomputable def impl_Doc_text_3 (s0 : ByteArray) (l1 : List (List Pd)) (n2 : Int) (n3 : Int) (c4 : List Pd) (e5 : List (List Pd)) : Option Res := pt E0 F_impl_Doc_text [1, 1, 0, 1, 0, 0, 1, 1, 0, 0, 1, 1, 1, 1] ⟨tl ud [(3, .arr (.loc 7)), (5, .ptr (.loc 5) 0), (6, .p (.str s0)), (9, .p (.sl 4 l1)), (10, .p (.int .i64 (n2))), (11, .p (.int .i64 (n3)))] 0 49, tl .none [(5, .box 4 c4), (7, .arr 9 1 16 false e5)] 0 49, []⟩
theorem impl_Doc_text_0_ev (l0 : List (List Pd)) : ev E0 F_impl_Doc_text [.p (.agg 1 [.sl 4 l0])] [] = impl_Doc_text_0 l0 := (ev_eq _ _ _ _).trans (by kernel_rfl)
theorem impl_Doc_text_0_eq (l0 : List (List Pd)) : impl_Doc_text_0 l0 =
    impl_Doc_text_1 l0 (l0.length : Int) 0 (([] : List (List Pd))) := by kernel_rfl
theorem impl_Doc_text_1_eq (l0 : List (List Pd)) (n1 : Int) (n2 : Int) (e3 : List (List Pd)) : impl_Doc_text_1 l0 n1 n2 e3 =
    bif decide ((n2 : Int) < n1) then (if 0 ≤ (n2 : Int) ∧ (n2 : Int) < (l0.length : Int) then ((asInt .i64 (((l0.getD (n2 : Int).toNat []).getD 0 .undef))).bind fun n105 => if 0 ≤ (IntKind.i64.wrap (n105 - 1) : Int) ∧ (IntKind.i64.wrap (n105 - 1) : Int) < ((([[.str (⟨#[113, 117, 101, 114, 121]⟩ : ByteArray)], [.str (⟨#[109, 117, 116, 97, 116, 105, 111, 110]⟩ : ByteArray)], [.str (⟨#[102, 114, 97, 103, 109, 101, 110, 116]⟩ : ByteArray)]] : List (List Pd))).length : Int) then (if 1 = 1 ∧ ((IntKind.i64.wrap (n105 - 1) : Int).toNat) < (([[.str (⟨#[113, 117, 101, 114, 121]⟩ : ByteArray)], [.str (⟨#[109, 117, 116, 97, 116, 105, 111, 110]⟩ : ByteArray)], [.str (⟨#[102, 114, 97, 103, 109, 101, 110, 116]⟩ : ByteArray)]] : List (List Pd))).length ∧ 0 + 1 ≤ 1 then ((asStr (((((([[.str (⟨#[113, 117, 101, 114, 121]⟩ : ByteArray)], [.str (⟨#[109, 117, 116, 97, 116, 105, 111, 110]⟩ : ByteArray)], [.str (⟨#[102, 114, 97, 103, 109, 101, 110, 116]⟩ : ByteArray)]] : List (List Pd))).getD ((IntKind.i64.wrap (n105 - 1) : Int).toNat) [])).getD 0 .undef))).bind fun s106 => (asStr (((l0.getD (n2 : Int).toNat []).getD 1 .undef))).bind fun s107 => bif !decide (s107 = (⟨#[]⟩ : ByteArray)) then ((asStr (((l0.getD (n2 : Int).toNat []).getD 1 .undef))).bind fun s108 => if (⟨#[32]⟩ : ByteArray).size + s108.size ≤ LIM then (if s106.size + ((⟨#[32]⟩ : ByteArray) ++ s108).size ≤ LIM then (impl_Doc_text_2 (s106 ++ ((⟨#[32]⟩ : ByteArray) ++ s108)) l0 n1 n2 (l0.getD (n2 : Int).toNat []) e3) else none) else none) else (impl_Doc_text_2 s106 l0 n1 n2 (l0.getD (n2 : Int).toNat []) e3)) else none) else none) else none) else ((ev E0 F_strings_Join [.p (.sl 1 e3), .p (.str (⟨#[32]⟩ : ByteArray))] []).bind fun r109 => (asStr (pAt 0 r109.1)).bind fun s110 => if r109.1.length = 1 then (some ([.p (.str s110)], [])) else none) := (pt_loop E0 F_impl_Doc_text [1, 1, 0, 1, 0] _ (by kernel_rfl)).trans (by kernel_rfl)
theorem impl_Doc_text_2_eq (s0 : ByteArray) (l1 : List (List Pd)) (n2 : Int) (n3 : Int) (c4 : List Pd) (e5 : List (List Pd)) : impl_Doc_text_2 s0 l1 n2 n3 c4 e5 =
    (asInt .i64 (c4.getD 0 .undef)).bind fun n107 => bif (n107 : Int) == 3 then ((asStr (c4.getD 2 .undef)).bind fun s108 => if (⟨#[32, 111, 110, 32]⟩ : ByteArray).size + s108.size ≤ LIM then (if s0.size + ((⟨#[32, 111, 110, 32]⟩ : ByteArray) ++ s108).size ≤ LIM then (impl_Doc_text_3 (s0 ++ ((⟨#[32, 111, 110, 32]⟩ : ByteArray) ++ s108)) l1 n2 n3 c4 e5) else none) else none) else (impl_Doc_text_3 s0 l1 n2 n3 c4 e5) := by kernel_rfl
theorem impl_Doc_text_3_eq (s0 : ByteArray) (l1 : List (List Pd)) (n2 : Int) (n3 : Int) (c4 : List Pd) (e5 : List (List Pd)) : impl_Doc_text_3 s0 l1 n2 n3 c4 e5 =
    if s0.size + (⟨#[32]⟩ : ByteArray).size ≤ LIM then ((asSl 6 (c4.getD 3 .undef)).bind fun l107 => (ev E0 F_impl_setText [.p (.sl 6 l107)] []).bind fun r108 => (asStr (pAt 0 r108.1)).bind fun s109 => if r108.1.length = 1 then (if (s0 ++ (⟨#[32]⟩ : ByteArray)).size + s109.size ≤ LIM then (if (e5.length + (([[.str ((s0 ++ (⟨#[32]⟩ : ByteArray)) ++ s109)]] : List (List Pd))).length) * 16 ≤ LIM then (impl_Doc_text_1 l1 n2 (IntKind.i64.wrap (n3 + 1)) (e5 ++ (([[.str ((s0 ++ (⟨#[32]⟩ : ByteArray)) ++ s109)]] : List (List Pd))))) else none) else none) else none) else none := by kernel_rfl

/-! laws.eqDoc -/
noncomputable def laws_eqDoc_0 (l0 : List (List Pd)) (l1 : List (List Pd)) : Option Res := pt E0 F_laws_eqDoc [] ⟨tl ud [(0, .p (.agg 1 [.sl 4 l0])), (1, .p (.agg 1 [.sl 4 l1]))] 0 11, tl .none [] 0 11, []⟩
theorem laws_eqDoc_0_ev (l0 : List (List Pd)) (l1 : List (List Pd)) : ev E0 F_laws_eqDoc [.p (.agg 1 [.sl 4 l0]), .p (.agg 1 [.sl 4 l1])] [] = laws_eqDoc_0 l0 l1 := (ev_eq _ _ _ _).trans (by kernel_rfl)
theorem laws_eqDoc_0_eq (l0 : List (List Pd)) (l1 : List (List Pd)) : laws_eqDoc_0 l0 l1 =
    (ev E0 F_laws_eqDefS [.p (.sl 4 l0), .p (.sl 4 l1)] []).bind fun r103 => (asBool (pAt 0 r103.1)).bind fun b104 => if r103.1.length = 1 then (bif !(b104) then (some ([.p (.bool (false))], [])) else (some ([.p (.bool (true))], []))) else none := by kernel_rfl

/-! laws.eqBindingS -/
noncomputable def laws_eqBindingS_0 (l0 : List (List Pd)) (l1 : List (List Pd)) : Option Res := pt E0 F_laws_eqBindingS [] ⟨tl ud [(0, .p (.sl 4 l0)), (1, .p (.sl 4 l1))] 0 27, tl .none [] 0 27, []⟩
noncomputable def laws_eqBindingS_1 (l0 : List (List Pd)) (l1 : List (List Pd)) (n2 : Int) : Option Res := pt E0 F_laws_eqBindingS [1, 1, 0, 1, 0, 2] ⟨tl ud [(0, .p (.sl 4 l0)), (1, .p (.sl 4 l1)), (5, .p (.int .i64 (n2)))] 0 27, tl .none [] 0 27, []⟩
theorem laws_eqBindingS_0_ev (l0 : List (List Pd)) (l1 : List (List Pd)) : ev E0 F_laws_eqBindingS [.p (.sl 4 l0), .p (.sl 4 l1)] [] = laws_eqBindingS_0 l0 l1 := (ev_eq _ _ _ _).trans (by kernel_rfl)
theorem laws_eqBindingS_0_eq (l0 : List (List Pd)) (l1 : List (List Pd)) : laws_eqBindingS_0 l0 l1 =
    bif ((l0.length : Int) : Int) != (l1.length : Int) then (some ([.p (.bool (false))], [])) else (laws_eqBindingS_1 l0 l1 0) := by kernel_rfl
theorem laws_eqBindingS_1_eq (l0 : List (List Pd)) (l1 : List (List Pd)) (n2 : Int) : laws_eqBindingS_1 l0 l1 n2 =
    bif decide ((n2 : Int) < (l0.length : Int)) then (if 0 ≤ (n2 : Int) ∧ (n2 : Int) < (l0.length : Int) then (if 0 ≤ (n2 : Int) ∧ (n2 : Int) < (l1.length : Int) then ((ev E0 F_laws_eqBinding [.p (.agg 4 (l0.getD (n2 : Int).toNat [])), .p (.agg 4 (l1.getD (n2 : Int).toNat []))] []).bind fun r104 => (asBool (pAt 0 r104.1)).bind fun b105 => if r104.1.length = 1 then (bif !(b105) then (some ([.p (.bool (false))], [])) else (laws_eqBindingS_1 l0 l1 (IntKind.i64.wrap (n2 + 1)))) else none) else none) else none) else (some ([.p (.bool (true))], [])) := (pt_loop E0 F_laws_eqBindingS [1, 1, 0, 1, 0] _ (by kernel_rfl)).trans (by kernel_rfl)

/-! laws.szDefS -/
noncomputable def laws_szDefS_0 (l0 : List (List Pd)) (n1 : Int) : Option Res := pt E0 F_laws_szDefS [] ⟨tl ud [(0, .p (.sl 4 l0)), (1, .p (.int .i64 (n1)))] 0 27, tl .none [] 0 27, []⟩
noncomputable def laws_szDefS_1 (l0 : List (List Pd)) (n1 : Int) (n2 : Int) : Option Res := pt E0 F_laws_szDefS [1, 1, 1, 0, 1, 0, 2] ⟨tl ud [(0, .p (.sl 4 l0)), (1, .p (.int .i64 (n1))), (5, .p (.int .i64 (n2)))] 0 27, tl .none [] 0 27, []⟩
theorem laws_szDefS_0_ev (l0 : List (List Pd)) (n1 : Int) : ev E0 F_laws_szDefS [.p (.sl 4 l0), .p (.int .i64 (n1))] [] = laws_szDefS_0 l0 n1 := (ev_eq _ _ _ _).trans (by kernel_rfl)
theorem laws_szDefS_0_eq (l0 : List (List Pd)) (n1 : Int) : laws_szDefS_0 l0 n1 =
    bif decide ((IntKind.i64.wrap (n1 - (l0.length : Int)) : Int) < 0) then (some ([.p (.int .i64 (-1))], [])) else (laws_szDefS_1 l0 (IntKind.i64.wrap (n1 - (l0.length : Int))) 0) := by kernel_rfl
theorem laws_szDefS_1_eq (l0 : List (List Pd)) (n1 : Int) (n2 : Int) : laws_szDefS_1 l0 n1 n2 =
    bif decide ((n2 : Int) < (l0.length : Int)) then (if 0 ≤ (n2 : Int) ∧ (n2 : Int) < (l0.length : Int) then ((ev E0 F_laws_szDef [.p (.agg 4 (l0.getD (n2 : Int).toNat [])), .p (.int .i64 (n1))] []).bind fun r104 => (asInt .i64 (pAt 0 r104.1)).bind fun n105 => if r104.1.length = 1 then (bif decide ((n105 : Int) < 0) then (some ([.p (.int .i64 (-1))], [])) else (laws_szDefS_1 l0 n105 (IntKind.i64.wrap (n2 + 1)))) else none) else none) else (some ([.p (.int .i64 (n1))], [])) := (pt_loop E0 F_laws_szDefS [1, 1, 1, 0, 1, 0] _ (by kernel_rfl)).trans (by kernel_rfl)

/-! laws.szBinding -/
noncomputable def laws_szBinding_0 (s0 : ByteArray) (n1 : Int) (n2 : Int) (s3 : ByteArray) (n4 : Int) : Option Res := pt E0 F_laws_szBinding [] ⟨tl ud [(0, .p (.agg 4 [.str s0, .int .i64 (n1), .int .i64 (n2), .str s3])), (1, .p (.int .i64 (n4)))] 0 19, tl .none [] 0 19, []⟩
theorem laws_szBinding_0_ev (s0 : ByteArray) (n1 : Int) (n2 : Int) (s3 : ByteArray) (n4 : Int) : ev E0 F_laws_szBinding [.p (.agg 4 [.str s0, .int .i64 (n1), .int .i64 (n2), .str s3]), .p (.int .i64 (n4))] [] = laws_szBinding_0 s0 n1 n2 s3 n4 := (ev_eq _ _ _ _).trans (by kernel_rfl)
theorem laws_szBinding_0_eq (s0 : ByteArray) (n1 : Int) (n2 : Int) (s3 : ByteArray) (n4 : Int) : laws_szBinding_0 s0 n1 n2 s3 n4 =
    bif decide ((IntKind.i64.wrap (n4 - (s0.size : Int)) : Int) < 0) then (some ([.p (.int .i64 (-1))], [])) else ((ev E0 F_laws_szValue [.p (.agg 3 [.int .i64 (n1), .int .i64 (n2), .str s3]), .p (.int .i64 (IntKind.i64.wrap (n4 - (s0.size : Int))))] []).bind fun r106 => (asInt .i64 (pAt 0 r106.1)).bind fun n107 => if r106.1.length = 1 then (bif decide ((n107 : Int) < 0) then (some ([.p (.int .i64 (-1))], [])) else (some ([.p (.int .i64 (n107))], []))) else none) := by kernel_rfl

/-! spec.DocOK -/
noncomputable def spec_DocOK_0 (l0 : List (List Pd)) : Option Res := pt E0 F_spec_DocOK [] ⟨tl ud [(0, .p (.agg 1 [.sl 4 l0]))] 0 80, tl .none [] 0 80, []⟩
noncomputable def spec_DocOK_1 (n0 : Int) (n1 : Int) (l2 : List (List Pd)) : Option Res := pt E0 F_spec_DocOK [1, 1, 1, 0, 1, 0, 2] ⟨tl ud [(1, .ptr (.loc 1) 0), (3, .p (.int .i64 (n0))), (4, .p (.int .i64 (n1)))] 0 80, tl .none [(1, .box 1 [.sl 4 l2])] 0 80, []⟩
noncomputable def spec_DocOK_2 (n0 : Int) (n1 : Int) (b2 : Bool) (l3 : List (List Pd)) (c4 : List Pd) : Option Res := pt E0 F_spec_DocOK [1, 1, 1, 0, 1, 0, 0, 1, 0, 0, 1, 1, 1, 0, 1] ⟨tl ud [(1, .ptr (.loc 1) 0), (3, .p (.int .i64 (n0))), (4, .p (.int .i64 (n1))), (5, .ptr (.loc 5) 0), (43, .p (.bool (b2)))] 0 80, tl .none [(1, .box 1 [.sl 4 l3]), (5, .box 4 c4)] 0 80, []⟩
noncomputable def spec_DocOK_3 (n0 : Int) (n1 : Int) (n2 : Int) (b3 : Bool) (l4 : List (List Pd)) (c5 : List Pd) : Option Res := pt E0 F_spec_DocOK [1, 1, 1, 0, 1, 0, 0, 1, 0, 0, 1, 1, 1, 1, 1, 0, 1] ⟨tl ud [(1, .ptr (.loc 1) 0), (3, .p (.int .i64 (n0))), (4, .p (.int .i64 (n1))), (5, .ptr (.loc 5) 0), (45, .p (.int .i64 (n2))), (46, .p (.bool (b3)))] 0 80, tl .none [(1, .box 1 [.sl 4 l4]), (5, .box 4 c5)] 0 80, []⟩
noncomputable def spec_DocOK_4 (n0 : Int) (n1 : Int) (b2 : Bool) (l3 : List (List Pd)) : Option Res := pt E0 F_spec_DocOK [1, 1, 1, 0, 1, 0, 0, 1, 0, 0, 1, 1, 1, 1, 1, 0, 1, 0, 1] ⟨tl ud [(1, .ptr (.loc 1) 0), (3, .p (.int .i64 (n0))), (4, .p (.int .i64 (n1))), (62, .p (.bool (b2)))] 0 80, tl .none [(1, .box 1 [.sl 4 l3])] 0 80, []⟩
noncomputable def spec_DocOK_5 (n0 : Int) (n1 : Int) (b2 : Bool) (l3 : List (List Pd)) : Option Res := pt E0 F_spec_DocOK [1, 1, 1, 0, 1, 0, 0, 1, 0, 0, 1, 1, 1, 1, 1, 0, 1, 1, 1, 0, 1] ⟨tl ud [(1, .ptr (.loc 1) 0), (3, .p (.int .i64 (n0))), (4, .p (.int .i64 (n1))), (79, .p (.bool (b2)))] 0 80, tl .none [(1, .box 1 [.sl 4 l3])] 0 80, []⟩
noncomputable def spec_DocOK_6 (n0 : Int) (n1 : Int) (l2 : List (List Pd)) : Option Res := pt E0 F_spec_DocOK [1, 1, 1, 0, 1, 0, 0, 1, 1] ⟨tl ud [(1, .ptr (.loc 1) 0), (3, .p (.int .i64 (n0))), (4, .p (.int .i64 (n1)))] 0 80, tl .none [(1, .box 1 [.sl 4 l2])] 0 80, []⟩
theorem spec_DocOK_0_ev (l0 : List (List Pd)) : ev E0 F_spec_DocOK [.p (.agg 1 [.sl 4 l0])] [] = spec_DocOK_0 l0 := (ev_eq _ _ _ _).trans (by kernel_rfl)
theorem spec_DocOK_0_eq (l0 : List (List Pd)) : spec_DocOK_0 l0 =
    (ev E0 F_spec_l01In [.p (.int .i64 ((l0.length : Int))), .p (.int .i64 (1)), .p (.int .i64 (6))] []).bind fun r102 => (asBool (pAt 0 r102.1)).bind fun b103 => if r102.1.length = 1 then (bif !(b103) then (some ([.p (.bool (false))], [])) else (spec_DocOK_1 0 0 l0)) else none := by kernel_rfl
theorem spec_DocOK_1_eq (n0 : Int) (n1 : Int) (l2 : List (List Pd)) : spec_DocOK_1 n0 n1 l2 =
    bif decide ((n1 : Int) < (l2.length : Int)) then (if 0 ≤ (n1 : Int) ∧ (n1 : Int) < (l2.length : Int) then ((asSl 6 (((l2.getD (n1 : Int).toNat []).getD 3 .undef))).bind fun l104 => (ev E0 F_spec_l02Sels [.p (.sl 6 l104), .p (.int .i64 (7))] []).bind fun r105 => (asInt .i64 (pAt 0 r105.1)).bind fun n106 => (asBool (pAt 1 r105.1)).bind fun b107 => if r105.1.length = 2 then (bif !(b107) then (spec_DocOK_2 (IntKind.i64.wrap (n0 + n106)) n1 true l2 (l2.getD (n1 : Int).toNat [])) else (bif (n106 : Int) == 0 then (spec_DocOK_2 (IntKind.i64.wrap (n0 + n106)) n1 true l2 (l2.getD (n1 : Int).toNat [])) else (spec_DocOK_2 (IntKind.i64.wrap (n0 + n106)) n1 (decide ((IntKind.i64.wrap (n0 + n106) : Int) > 60)) l2 (l2.getD (n1 : Int).toNat [])))) else none) else none) else (some ([.p (.bool (true))], [])) := (pt_loop E0 F_spec_DocOK [1, 1, 1, 0, 1, 0] _ (by kernel_rfl)).trans (by kernel_rfl)
theorem spec_DocOK_2_eq (n0 : Int) (n1 : Int) (b2 : Bool) (l3 : List (List Pd)) (c4 : List Pd) : spec_DocOK_2 n0 n1 b2 l3 c4 =
    bif b2 then (some ([.p (.bool (false))], [])) else ((asInt .i64 (c4.getD 0 .undef)).bind fun n106 => bif (n106 : Int) == 1 then (spec_DocOK_3 n0 n1 n106 ((n106 : Int) == 1) l3 c4) else (spec_DocOK_3 n0 n1 n106 ((n106 : Int) == 2) l3 c4)) := by kernel_rfl
theorem spec_DocOK_3_eq (n0 : Int) (n1 : Int) (n2 : Int) (b3 : Bool) (l4 : List (List Pd)) (c5 : List Pd) : spec_DocOK_3 n0 n1 n2 b3 l4 c5 =
    bif b3 then ((asStr (c5.getD 2 .undef)).bind fun s107 => bif !decide (s107 = (⟨#[]⟩ : ByteArray)) then (spec_DocOK_4 n0 n1 true l4) else ((asStr (c5.getD 1 .undef)).bind fun s108 => bif !decide (s108 = (⟨#[]⟩ : ByteArray)) then ((asStr (c5.getD 1 .undef)).bind fun s109 => (ev E0 F_spec_NameOK [.p (.str s109)] []).bind fun r110 => (asBool (pAt 0 r110.1)).bind fun b111 => if r110.1.length = 1 then (spec_DocOK_4 n0 n1 (!(b111)) l4) else none) else (spec_DocOK_4 n0 n1 false l4))) else (bif (n2 : Int) == 3 then ((asStr (c5.getD 1 .undef)).bind fun s112 => (ev E0 F_spec_NameOK [.p (.str s112)] []).bind fun r113 => (asBool (pAt 0 r113.1)).bind fun b114 => if r113.1.length = 1 then (bif !(b114) then (spec_DocOK_5 n0 n1 true l4) else ((asStr (c5.getD 1 .undef)).bind fun s115 => bif decide (s115 = (⟨#[111, 110]⟩ : ByteArray)) then (spec_DocOK_5 n0 n1 true l4) else ((asStr (c5.getD 2 .undef)).bind fun s116 => (ev E0 F_spec_NameOK [.p (.str s116)] []).bind fun r117 => (asBool (pAt 0 r117.1)).bind fun b118 => if r117.1.length = 1 then (spec_DocOK_5 n0 n1 (!(b118)) l4) else none))) else none) else (some ([.p (.bool (false))], []))) := by kernel_rfl
theorem spec_DocOK_4_eq (n0 : Int) (n1 : Int) (b2 : Bool) (l3 : List (List Pd)) : spec_DocOK_4 n0 n1 b2 l3 =
    bif b2 then (some ([.p (.bool (false))], [])) else (spec_DocOK_6 n0 n1 l3) := by kernel_rfl
theorem spec_DocOK_5_eq (n0 : Int) (n1 : Int) (b2 : Bool) (l3 : List (List Pd)) : spec_DocOK_5 n0 n1 b2 l3 =
    bif b2 then (some ([.p (.bool (false))], [])) else (spec_DocOK_6 n0 n1 l3) := by kernel_rfl
theorem spec_DocOK_6_eq (n0 : Int) (n1 : Int) (l2 : List (List Pd)) : spec_DocOK_6 n0 n1 l2 =
    spec_DocOK_1 n0 (IntKind.i64.wrap (n1 + 1)) l2 := by kernel_rfl

/-! spec.BindingsOK -/
noncomputable def spec_BindingsOK_0 (l0 : List (List Pd)) : Option Res := pt E0 F_spec_BindingsOK [] ⟨tl ud [(0, .p (.sl 4 l0))] 0 58, tl .none [] 0 58, []⟩
noncomputable def spec_BindingsOK_1 (l0 : List (List Pd)) (n1 : Int) : Option Res := pt E0 F_spec_BindingsOK [1, 1, 0, 1, 0, 2] ⟨tl ud [(0, .p (.sl 4 l0)), (3, .p (.int .i64 (n1)))] 0 58, tl .none [] 0 58, []⟩
noncomputable def spec_BindingsOK_2 (l0 : List (List Pd)) (n1 : Int) (b2 : Bool) : Option Res := pt E0 F_spec_BindingsOK [1, 1, 0, 1, 0, 0, 1, 0, 0, 0, 1] ⟨tl ud [(0, .p (.sl 4 l0)), (3, .p (.int .i64 (n1))), (38, .p (.bool (b2)))] 0 58, tl .none [] 0 58, []⟩
noncomputable def spec_BindingsOK_3 (l0 : List (List Pd)) (n1 : Int) (n2 : Int) : Option Res := pt E0 F_spec_BindingsOK [1, 1, 0, 1, 0, 0, 1, 0, 0, 1, 1, 0, 2] ⟨tl ud [(0, .p (.sl 4 l0)), (3, .p (.int .i64 (n1))), (4, .p (.int .i64 (n2)))] 0 58, tl .none [] 0 58, []⟩
theorem spec_BindingsOK_0_ev (l0 : List (List Pd)) : ev E0 F_spec_BindingsOK [.p (.sl 4 l0)] [] = spec_BindingsOK_0 l0 := (ev_eq _ _ _ _).trans (by kernel_rfl)
theorem spec_BindingsOK_0_eq (l0 : List (List Pd)) : spec_BindingsOK_0 l0 =
    bif decide (((l0.length : Int) : Int) > 4096) then (some ([.p (.bool (false))], [])) else (spec_BindingsOK_1 l0 0) := by kernel_rfl
theorem spec_BindingsOK_1_eq (l0 : List (List Pd)) (n1 : Int) : spec_BindingsOK_1 l0 n1 =
    bif decide ((n1 : Int) < (l0.length : Int)) then (if 0 ≤ (n1 : Int) ∧ (n1 : Int) < (l0.length : Int) then ((asStr (((l0.getD (n1 : Int).toNat []).getD 0 .undef))).bind fun s103 => (ev E0 F_spec_NameOK [.p (.str s103)] []).bind fun r104 => (asBool (pAt 0 r104.1)).bind fun b105 => if r104.1.length = 1 then (bif !(b105) then (spec_BindingsOK_2 l0 n1 true) else (if 0 ≤ (n1 : Int) ∧ (n1 : Int) < (l0.length : Int) then ((ev E0 F_spec_ValueOK [.p (.agg 3 ((l0.getD (n1 : Int).toNat []).drop 1))] []).bind fun r106 => (asBool (pAt 0 r106.1)).bind fun b107 => if r106.1.length = 1 then (bif !(b107) then (spec_BindingsOK_2 l0 n1 true) else (if 0 ≤ (n1 : Int) ∧ (n1 : Int) < (l0.length : Int) then ((asInt .i64 ((((l0.getD (n1 : Int).toNat []).drop 1).getD 0 .undef))).bind fun n108 => spec_BindingsOK_2 l0 n1 ((n108 : Int) == 4)) else none)) else none) else none)) else none) else none) else (some ([.p (.bool (decide (((l0.length : Int) : Int) ≤ 8)))], [])) := (pt_loop E0 F_spec_BindingsOK [1, 1, 0, 1, 0] _ (by kernel_rfl)).trans (by kernel_rfl)
theorem spec_BindingsOK_2_eq (l0 : List (List Pd)) (n1 : Int) (b2 : Bool) : spec_BindingsOK_2 l0 n1 b2 =
    bif b2 then (some ([.p (.bool (false))], [])) else (spec_BindingsOK_3 l0 n1 0) := by kernel_rfl
theorem spec_BindingsOK_3_eq (l0 : List (List Pd)) (n1 : Int) (n2 : Int) : spec_BindingsOK_3 l0 n1 n2 =
    bif decide ((n2 : Int) < n1) then (if 0 ≤ (n2 : Int) ∧ (n2 : Int) < (l0.length : Int) then ((asStr (((l0.getD (n2 : Int).toNat []).getD 0 .undef))).bind fun s104 => if 0 ≤ (n1 : Int) ∧ (n1 : Int) < (l0.length : Int) then ((asStr (((l0.getD (n1 : Int).toNat []).getD 0 .undef))).bind fun s105 => bif decide (s104 = s105) then (some ([.p (.bool (false))], [])) else (spec_BindingsOK_3 l0 n1 (IntKind.i64.wrap (n2 + 1)))) else none) else none) else (spec_BindingsOK_1 l0 (IntKind.i64.wrap (n1 + 1))) := (pt_loop E0 F_spec_BindingsOK [1, 1, 0, 1, 0, 0, 1, 0, 0, 1, 1, 0] _ (by kernel_rfl)).trans (by kernel_rfl)

/-! spec.l02Value -/
noncomputable def spec_l02Value_0 (n0 : Int) (n1 : Int) (s2 : ByteArray) : Option Res := pt E0 F_spec_l02Value [] ⟨tl ud [(0, .p (.agg 3 [.int .i64 (n0), .int .i64 (n1), .str s2]))] 0 22, tl .none [] 0 22, []⟩
theorem spec_l02Value_0_ev (n0 : Int) (n1 : Int) (s2 : ByteArray) : ev E0 F_spec_l02Value [.p (.agg 3 [.int .i64 (n0), .int .i64 (n1), .str s2])] [] = spec_l02Value_0 n0 n1 s2 := (ev_eq _ _ _ _).trans (by kernel_rfl)
theorem spec_l02Value_0_eq (n0 : Int) (n1 : Int) (s2 : ByteArray) : spec_l02Value_0 n0 n1 s2 =
    bif (n0 : Int) == 1 then ((ev E0 F_spec_l00Digits [.p (.int .i64 (n1))] []).bind fun r104 => (asStr (pAt 0 r104.1)).bind fun s105 => if r104.1.length = 1 then (some ([.p (.str s105)], [])) else none) else (bif (n0 : Int) == 2 then (if 0 ≤ (n1 : Int) ∧ (n1 : Int) < ((([[.str (⟨#[102, 97, 108, 115, 101]⟩ : ByteArray)], [.str (⟨#[116, 114, 117, 101]⟩ : ByteArray)]] : List (List Pd))).length : Int) then (if 1 = 1 ∧ ((n1 : Int).toNat) < (([[.str (⟨#[102, 97, 108, 115, 101]⟩ : ByteArray)], [.str (⟨#[116, 114, 117, 101]⟩ : ByteArray)]] : List (List Pd))).length ∧ 0 + 1 ≤ 1 then ((asStr (((((([[.str (⟨#[102, 97, 108, 115, 101]⟩ : ByteArray)], [.str (⟨#[116, 114, 117, 101]⟩ : ByteArray)]] : List (List Pd))).getD ((n1 : Int).toNat) [])).getD 0 .undef))).bind fun s106 => some ([.p (.str s106)], [])) else none) else none) else (bif (n0 : Int) == 4 then (if (⟨#[36]⟩ : ByteArray).size + s2.size ≤ LIM then (some ([.p (.str ((⟨#[36]⟩ : ByteArray) ++ s2))], [])) else none) else (some ([.p (.str (⟨#[110, 117, 108, 108]⟩ : ByteArray))], [])))) := by kernel_rfl

/-! spec.l02Print -/
noncomputable def spec_l02Print_0 (l0 : List (List Pd)) : Option Res := pt E0 F_spec_l02Print [] ⟨tl ud [(0, .p (.agg 1 [.sl 4 l0]))] 0 52, tl .none [] 0 52, []⟩
noncomputable def spec_l02Print_1 (n0 : Int) (l1 : List (List Pd)) (e2 : List (List Pd)) : Option Res := pt E0 F_spec_l02Print [1, 1, 0, 1, 0, 2] ⟨tl ud [(1, .ptr (.loc 1) 0), (3, .arr (.loc 7)), (4, .p (.int .i64 (n0)))] 0 52, tl .none [(1, .box 1 [.sl 4 l1]), (7, .arr 9 1 16 false e2)] 0 52, []⟩
noncomputable def spec_l02Print_2 (n0 : Int) (s1 : ByteArray) (l2 : List (List Pd)) (c3 : List Pd) (e4 : List (List Pd)) : Option Res := pt E0 F_spec_l02Print [1, 1, 0, 1, 0, 0, 1, 0, 0, 1, 1, 1] ⟨tl ud [(1, .ptr (.loc 1) 0), (3, .arr (.loc 7)), (4, .p (.int .i64 (n0))), (5, .ptr (.loc 5) 0), (6, .p (.str s1))] 0 52, tl .none [(1, .box 1 [.sl 4 l2]), (5, .box 4 c3), (7, .arr 9 1 16 false e4)] 0 52, []⟩
noncomputable def spec_l02Print_3 (n0 : Int) (s1 : ByteArray) (l2 : List (List Pd)) (c3 : List Pd) (e4 : List (List Pd)) : Option Res := pt E0 F_spec_l02Print [1, 1, 0, 1, 0, 0, 1, 0, 0, 1, 1, 1, 1] ⟨tl ud [(1, .ptr (.loc 1) 0), (3, .arr (.loc 7)), (4, .p (.int .i64 (n0))), (5, .ptr (.loc 5) 0), (6, .p (.str s1))] 0 52, tl .none [(1, .box 1 [.sl 4 l2]), (5, .box 4 c3), (7, .arr 9 1 16 false e4)] 0 52, []⟩
theorem spec_l02Print_0_ev (l0 : List (List Pd)) : ev E0 F_spec_l02Print [.p (.agg 1 [.sl 4 l0])] [] = spec_l02Print_0 l0 := (ev_eq _ _ _ _).trans (by kernel_rfl)
theorem spec_l02Print_0_eq (l0 : List (List Pd)) : spec_l02Print_0 l0 =
    spec_l02Print_1 0 l0 (([] : List (List Pd))) := by kernel_rfl
theorem spec_l02Print_1_eq (n0 : Int) (l1 : List (List Pd)) (e2 : List (List Pd)) : spec_l02Print_1 n0 l1 e2 =
    bif decide ((n0 : Int) < (l1.length : Int)) then (if 0 ≤ (n0 : Int) ∧ (n0 : Int) < (l1.length : Int) then ((asInt .i64 (((l1.getD (n0 : Int).toNat []).getD 0 .undef))).bind fun n104 => if 0 ≤ (n104 : Int) ∧ (n104 : Int) < ((([[.str (⟨#[]⟩ : ByteArray)], [.str (⟨#[113, 117, 101, 114, 121]⟩ : ByteArray)], [.str (⟨#[109, 117, 116, 97, 116, 105, 111, 110]⟩ : ByteArray)], [.str (⟨#[102, 114, 97, 103, 109, 101, 110, 116]⟩ : ByteArray)]] : List (List Pd))).length : Int) then (if 1 = 1 ∧ ((n104 : Int).toNat) < (([[.str (⟨#[]⟩ : ByteArray)], [.str (⟨#[113, 117, 101, 114, 121]⟩ : ByteArray)], [.str (⟨#[109, 117, 116, 97, 116, 105, 111, 110]⟩ : ByteArray)], [.str (⟨#[102, 114, 97, 103, 109, 101, 110, 116]⟩ : ByteArray)]] : List (List Pd))).length ∧ 0 + 1 ≤ 1 then ((asStr (((((([[.str (⟨#[]⟩ : ByteArray)], [.str (⟨#[113, 117, 101, 114, 121]⟩ : ByteArray)], [.str (⟨#[109, 117, 116, 97, 116, 105, 111, 110]⟩ : ByteArray)], [.str (⟨#[102, 114, 97, 103, 109, 101, 110, 116]⟩ : ByteArray)]] : List (List Pd))).getD ((n104 : Int).toNat) [])).getD 0 .undef))).bind fun s105 => (asStr (((l1.getD (n0 : Int).toNat []).getD 1 .undef))).bind fun s106 => bif !decide (s106 = (⟨#[]⟩ : ByteArray)) then ((asStr (((l1.getD (n0 : Int).toNat []).getD 1 .undef))).bind fun s107 => if (⟨#[32]⟩ : ByteArray).size + s107.size ≤ LIM then (if s105.size + ((⟨#[32]⟩ : ByteArray) ++ s107).size ≤ LIM then (spec_l02Print_2 n0 (s105 ++ ((⟨#[32]⟩ : ByteArray) ++ s107)) l1 (l1.getD (n0 : Int).toNat []) e2) else none) else none) else (spec_l02Print_2 n0 s105 l1 (l1.getD (n0 : Int).toNat []) e2)) else none) else none) else none) else ((ev E0 F_spec_l00Join [.p (.sl 1 e2), .p (.str (⟨#[32]⟩ : ByteArray))] []).bind fun r108 => (asStr (pAt 0 r108.1)).bind fun s109 => if r108.1.length = 1 then (some ([.p (.str s109)], [])) else none) := (pt_loop E0 F_spec_l02Print [1, 1, 0, 1, 0] _ (by kernel_rfl)).trans (by kernel_rfl)
theorem spec_l02Print_2_eq (n0 : Int) (s1 : ByteArray) (l2 : List (List Pd)) (c3 : List Pd) (e4 : List (List Pd)) : spec_l02Print_2 n0 s1 l2 c3 e4 =
    (asInt .i64 (c3.getD 0 .undef)).bind fun n106 => bif (n106 : Int) == 3 then ((asStr (c3.getD 2 .undef)).bind fun s107 => if (⟨#[32, 111, 110, 32]⟩ : ByteArray).size + s107.size ≤ LIM then (if s1.size + ((⟨#[32, 111, 110, 32]⟩ : ByteArray) ++ s107).size ≤ LIM then (spec_l02Print_3 n0 (s1 ++ ((⟨#[32, 111, 110, 32]⟩ : ByteArray) ++ s107)) l2 c3 e4) else none) else none) else (spec_l02Print_3 n0 s1 l2 c3 e4) := by kernel_rfl
theorem spec_l02Print_3_eq (n0 : Int) (s1 : ByteArray) (l2 : List (List Pd)) (c3 : List Pd) (e4 : List (List Pd)) : spec_l02Print_3 n0 s1 l2 c3 e4 =
    if s1.size + (⟨#[32]⟩ : ByteArray).size ≤ LIM then ((asSl 6 (c3.getD 3 .undef)).bind fun l106 => (ev E0 F_spec_l02Text [.p (.sl 6 l106)] []).bind fun r107 => (asStr (pAt 0 r107.1)).bind fun s108 => if r107.1.length = 1 then (if (s1 ++ (⟨#[32]⟩ : ByteArray)).size + s108.size ≤ LIM then (if (e4.length + (([[.str ((s1 ++ (⟨#[32]⟩ : ByteArray)) ++ s108)]] : List (List Pd))).length) * 16 ≤ LIM then (spec_l02Print_1 (IntKind.i64.wrap (n0 + 1)) l2 (e4 ++ (([[.str ((s1 ++ (⟨#[32]⟩ : ByteArray)) ++ s108)]] : List (List Pd))))) else none) else none) else none) else none := by kernel_rfl

/-! laws.toDefS -/
noncomputable def laws_toDefS_0 (l0 : List (List Pd)) : Option Res := pt E0 F_laws_toDefS [] ⟨tl ud [(0, .p (.sl 4 l0))] 0 23, tl .none [] 0 23, []⟩
noncomputable def laws_toDefS_1 (l0 : List (List Pd)) (n1 : Int) (e2 : List (List Pd)) : Option Res := pt E0 F_laws_toDefS [1, 1, 0, 1, 0, 2] ⟨tl ud [(0, .p (.sl 4 l0)), (3, .arr (.loc 7)), (4, .p (.int .i64 (n1)))] 0 23, tl .none [(7, .arr 68 4 64 false e2)] 0 23, []⟩
theorem laws_toDefS_0_ev (l0 : List (List Pd)) : ev E0 F_laws_toDefS [.p (.sl 4 l0)] [] = laws_toDefS_0 l0 := (ev_eq _ _ _ _).trans (by kernel_rfl)
theorem laws_toDefS_0_eq (l0 : List (List Pd)) : laws_toDefS_0 l0 =
    if 0 ≤ ((l0.length : Int) : Int) ∧ ((l0.length : Int) : Int) ≤ (l0.length : Int) ∧ ((l0.length : Int) : Int).toNat * 64 ≤ LIM ∧ 64 ≠ 0 then (laws_toDefS_1 l0 0 (List.replicate ((l0.length : Int) : Int).toNat [.int .i64 (0), .str (⟨#[]⟩ : ByteArray), .str (⟨#[]⟩ : ByteArray), .sl 6 (([] : List (List Pd)))])) else none := by kernel_rfl
theorem laws_toDefS_1_eq (l0 : List (List Pd)) (n1 : Int) (e2 : List (List Pd)) : laws_toDefS_1 l0 n1 e2 =
    bif decide ((n1 : Int) < (l0.length : Int)) then (if 0 ≤ (n1 : Int) ∧ (n1 : Int) < (l0.length : Int) then ((ev E0 F_laws_toDef [.p (.agg 4 (l0.getD (n1 : Int).toNat []))] []).bind fun r104 => (asAgg 4 (pAt 0 r104.1)).bind fun c105 => if r104.1.length = 1 then (if 0 ≤ (n1 : Int) ∧ (n1 : Int) < (e2.length : Int) then (if 4 = 4 ∧ ((n1 : Int).toNat) < e2.length then (if 0 + 4 ≤ 4 then (laws_toDefS_1 l0 (IntKind.i64.wrap (n1 + 1)) (setEl e2 ((n1 : Int).toNat) 4 0 4 (.agg 4 c105))) else none) else none) else none) else none) else none) else (some ([.p (.sl 4 e2)], [])) := (pt_loop E0 F_laws_toDefS [1, 1, 0, 1, 0] _ (by kernel_rfl)).trans (by kernel_rfl)

/-! laws.toBinding -/
noncomputable def laws_toBinding_0 (s0 : ByteArray) (n1 : Int) (n2 : Int) (s3 : ByteArray) : Option Res := pt E0 F_laws_toBinding [] ⟨tl ud [(0, .p (.agg 4 [.str s0, .int .i64 (n1), .int .i64 (n2), .str s3]))] 0 12, tl .none [] 0 12, []⟩
theorem laws_toBinding_0_ev (s0 : ByteArray) (n1 : Int) (n2 : Int) (s3 : ByteArray) : ev E0 F_laws_toBinding [.p (.agg 4 [.str s0, .int .i64 (n1), .int .i64 (n2), .str s3])] [] = laws_toBinding_0 s0 n1 n2 s3 := (ev_eq _ _ _ _).trans (by kernel_rfl)
theorem laws_toBinding_0_eq (s0 : ByteArray) (n1 : Int) (n2 : Int) (s3 : ByteArray) : laws_toBinding_0 s0 n1 n2 s3 =
    (ev E0 F_laws_toValue [.p (.agg 3 [.int .i64 (n1), .int .i64 (n2), .str s3])] []).bind fun r105 => (asAgg 3 (pAt 0 r105.1)).bind fun c106 => if r105.1.length = 1 then (some ([.p (.agg 4 [.str s0, (c106.getD 0 .undef), (c106.getD 1 .undef), (c106.getD 2 .undef)])], [])) else none := by kernel_rfl

/-! impl.DocOK -/
noncomputable def impl_DocOK_0 (l0 : List (List Pd)) : Option Res := pt E0 F_impl_DocOK [] ⟨tl ud [(0, .p (.agg 1 [.sl 4 l0]))] 0 27, tl .none [] 0 27, []⟩
noncomputable def impl_DocOK_1 (l0 : List (List Pd)) (n1 : Int) (n2 : Int) (l3 : List (List Pd)) (n4 : Int) : Option Res := pt E0 F_impl_DocOK [1, 1, 0, 1, 0, 2] ⟨tl ud [(1, .ptr (.loc 1) 0), (3, .ptr (.loc 3) 0), (7, .p (.sl 4 l0)), (8, .p (.int .i64 (n1))), (9, .p (.int .i64 (n2)))] 0 27, tl .none [(1, .box 1 [.sl 4 l3]), (3, .box 1 [.int .i64 (n4)])] 0 27, []⟩
noncomputable def impl_DocOK_2 (l0 : List (List Pd)) (n1 : Int) (n2 : Int) (b3 : Bool) (l4 : List (List Pd)) (n5 : Int) : Option Res := pt E0 F_impl_DocOK [1, 1, 0, 1, 0, 0, 1, 1, 0, 0, 1, 1] ⟨tl ud [(1, .ptr (.loc 1) 0), (3, .ptr (.loc 3) 0), (7, .p (.sl 4 l0)), (8, .p (.int .i64 (n1))), (9, .p (.int .i64 (n2))), (21, .p (.bool (b3)))] 0 27, tl .none [(1, .box 1 [.sl 4 l4]), (3, .box 1 [.int .i64 (n5)])] 0 27, []⟩
noncomputable def impl_DocOK_3 (l0 : List (List Pd)) (n1 : Int) (n2 : Int) (b3 : Bool) (l4 : List (List Pd)) (c5 : List Pd) : Option Res := pt E0 F_impl_DocOK [1, 1, 0, 1, 0, 0, 1, 1, 0, 0, 1, 1] ⟨tl ud [(1, .ptr (.loc 1) 0), (3, .ptr (.loc 3) 0), (7, .p (.sl 4 l0)), (8, .p (.int .i64 (n1))), (9, .p (.int .i64 (n2))), (21, .p (.bool (b3)))] 0 27, tl .none [(1, .box 1 [.sl 4 l4]), (3, .box 1 c5)] 0 27, []⟩
noncomputable def impl_DocOK_4 (l0 : List (List Pd)) (n1 : Int) (n2 : Int) (l3 : List (List Pd)) (c4 : List Pd) : Option Res := pt E0 F_impl_DocOK [1, 1, 0, 1, 0, 2] ⟨tl ud [(1, .ptr (.loc 1) 0), (3, .ptr (.loc 3) 0), (7, .p (.sl 4 l0)), (8, .p (.int .i64 (n1))), (9, .p (.int .i64 (n2)))] 0 27, tl .none [(1, .box 1 [.sl 4 l3]), (3, .box 1 c4)] 0 27, []⟩
theorem impl_DocOK_0_ev (l0 : List (List Pd)) : ev E0 F_impl_DocOK [.p (.agg 1 [.sl 4 l0])] [] = impl_DocOK_0 l0 := (ev_eq _ _ _ _).trans (by kernel_rfl)
theorem impl_DocOK_0_eq (l0 : List (List Pd)) : impl_DocOK_0 l0 =
    impl_DocOK_1 l0 (l0.length : Int) 0 l0 60 := by kernel_rfl
theorem impl_DocOK_1_eq (l0 : List (List Pd)) (n1 : Int) (n2 : Int) (l3 : List (List Pd)) (n4 : Int) : impl_DocOK_1 l0 n1 n2 l3 n4 =
    bif decide ((n2 : Int) < n1) then (if 0 ≤ (n2 : Int) ∧ (n2 : Int) < (l0.length : Int) then ((ev E0 F_impl_Def_isRight [.p (.agg 4 (l0.getD (n2 : Int).toNat []))] []).bind fun r106 => (asBool (pAt 0 r106.1)).bind fun b107 => if r106.1.length = 1 then (bif !(b107) then (impl_DocOK_2 l0 n1 n2 true l3 n4) else ((asSl 6 (((l0.getD (n2 : Int).toNat []).getD 3 .undef))).bind fun l108 => (ev E0 F_impl_areRight [.p (.sl 6 l108), .p (.int .i64 (7)), .ptr (.out 0) 0] [.box 1 [.int .i64 (n4)]]).bind fun r109 => (asBool (pAt 0 r109.1)).bind fun b110 => if r109.1.length = 1 then ((asBox 1 (r109.2.getD 0 .none)).bind fun c111 => if r109.2.length = 1 then (impl_DocOK_3 l0 n1 n2 (!(b110)) l3 c111) else none) else none)) else none) else none) else ((ev E0 F_impl_within [.p (.int .i64 ((l3.length : Int))), .p (.int .i64 (1)), .p (.int .i64 (6))] []).bind fun r112 => (asBool (pAt 0 r112.1)).bind fun b113 => if r112.1.length = 1 then (some ([.p (.bool (b113))], [])) else none) := (pt_loop E0 F_impl_DocOK [1, 1, 0, 1, 0] _ (by kernel_rfl)).trans (by kernel_rfl)
theorem impl_DocOK_2_eq (l0 : List (List Pd)) (n1 : Int) (n2 : Int) (b3 : Bool) (l4 : List (List Pd)) (n5 : Int) : impl_DocOK_2 l0 n1 n2 b3 l4 n5 =
    bif b3 then (some ([.p (.bool (false))], [])) else (impl_DocOK_1 l0 n1 (IntKind.i64.wrap (n2 + 1)) l4 n5) := by kernel_rfl
theorem impl_DocOK_3_eq (l0 : List (List Pd)) (n1 : Int) (n2 : Int) (b3 : Bool) (l4 : List (List Pd)) (c5 : List Pd) : impl_DocOK_3 l0 n1 n2 b3 l4 c5 =
    bif b3 then (some ([.p (.bool (false))], [])) else (impl_DocOK_4 l0 n1 (IntKind.i64.wrap (n2 + 1)) l4 c5) := by kernel_rfl
theorem impl_DocOK_4_eq (l0 : List (List Pd)) (n1 : Int) (n2 : Int) (l3 : List (List Pd)) (c4 : List Pd) : impl_DocOK_4 l0 n1 n2 l3 c4 =
    bif decide ((n2 : Int) < n1) then (if 0 ≤ (n2 : Int) ∧ (n2 : Int) < (l0.length : Int) then ((ev E0 F_impl_Def_isRight [.p (.agg 4 (l0.getD (n2 : Int).toNat []))] []).bind fun r106 => (asBool (pAt 0 r106.1)).bind fun b107 => if r106.1.length = 1 then (bif !(b107) then (impl_DocOK_3 l0 n1 n2 true l3 c4) else ((asSl 6 (((l0.getD (n2 : Int).toNat []).getD 3 .undef))).bind fun l108 => (ev E0 F_impl_areRight [.p (.sl 6 l108), .p (.int .i64 (7)), .ptr (.out 0) 0] [.box 1 c4]).bind fun r109 => (asBool (pAt 0 r109.1)).bind fun b110 => if r109.1.length = 1 then ((asBox 1 (r109.2.getD 0 .none)).bind fun c111 => if r109.2.length = 1 then (impl_DocOK_3 l0 n1 n2 (!(b110)) l3 c111) else none) else none)) else none) else none) else ((ev E0 F_impl_within [.p (.int .i64 ((l3.length : Int))), .p (.int .i64 (1)), .p (.int .i64 (6))] []).bind fun r112 => (asBool (pAt 0 r112.1)).bind fun b113 => if r112.1.length = 1 then (some ([.p (.bool (b113))], [])) else none) := (pt_loop E0 F_impl_DocOK [1, 1, 0, 1, 0] _ (by kernel_rfl)).trans (by kernel_rfl)

/-! impl.BindingsOK -/
noncomputable def impl_BindingsOK_0 (l0 : List (List Pd)) : Option Res := pt E0 F_impl_BindingsOK [] ⟨tl ud [(0, .p (.sl 4 l0))] 0 41, tl .none [] 0 41, []⟩
noncomputable def impl_BindingsOK_1 (l0 : List (List Pd)) (l1 : List (List Pd)) (n2 : Int) (n3 : Int) : Option Res := pt E0 F_impl_BindingsOK [1, 0, 1, 0, 2] ⟨tl ud [(0, .p (.sl 4 l0)), (6, .p (.sl 4 l1)), (7, .p (.int .i64 (n2))), (8, .p (.int .i64 (n3)))] 0 41, tl .none [] 0 41, []⟩
noncomputable def impl_BindingsOK_2 (l0 : List (List Pd)) (l1 : List (List Pd)) (n2 : Int) (n3 : Int) (b4 : Bool) : Option Res := pt E0 F_impl_BindingsOK [1, 0, 1, 0, 0, 1, 1, 0, 0, 1, 1, 1] ⟨tl ud [(0, .p (.sl 4 l0)), (6, .p (.sl 4 l1)), (7, .p (.int .i64 (n2))), (8, .p (.int .i64 (n3))), (36, .p (.bool (b4)))] 0 41, tl .none [] 0 41, []⟩
theorem impl_BindingsOK_0_ev (l0 : List (List Pd)) : ev E0 F_impl_BindingsOK [.p (.sl 4 l0)] [] = impl_BindingsOK_0 l0 := (ev_eq _ _ _ _).trans (by kernel_rfl)
theorem impl_BindingsOK_0_eq (l0 : List (List Pd)) : impl_BindingsOK_0 l0 =
    impl_BindingsOK_1 l0 l0 (l0.length : Int) 0 := by kernel_rfl
theorem impl_BindingsOK_1_eq (l0 : List (List Pd)) (l1 : List (List Pd)) (n2 : Int) (n3 : Int) : impl_BindingsOK_1 l0 l1 n2 n3 =
    bif decide ((n3 : Int) < n2) then (if 0 ≤ (n3 : Int) ∧ (n3 : Int) < (l1.length : Int) then (if 0 ≤ (0 : Int) ∧ (0 : Int) ≤ n3 ∧ (n3 : Int) ≤ (l0.length : Int) then ((ev E0 F_slices_ContainsFunc_impl_Binding_impl_Binding [.p (.sl 4 ((l0.drop (0 : Int).toNat).take ((n3 : Int).toNat - (0 : Int).toNat))), .fn F_impl_BindingsOK_1 [.ptr (.out 0) 0]] [.box 4 (l1.getD (n3 : Int).toNat [])]).bind fun r105 => (asBool (pAt 0 r105.1)).bind fun b106 => if r105.1.length = 1 then ((asBox 4 (r105.2.getD 0 .none)).bind fun c107 => if r105.2.length = 1 then ((asStr (c107.getD 0 .undef)).bind fun s108 => (ev E0 F_impl_NameOK [.p (.str s108)] []).bind fun r109 => (asBool (pAt 0 r109.1)).bind fun b110 => if r109.1.length = 1 then (bif !(b110) then (impl_BindingsOK_2 l0 l1 n2 n3 true) else ((ev E0 F_impl_ValueOK [.p (.agg 3 (c107.drop 1))] []).bind fun r111 => (asBool (pAt 0 r111.1)).bind fun b112 => if r111.1.length = 1 then (bif !(b112) then (impl_BindingsOK_2 l0 l1 n2 n3 true) else ((asInt .i64 (c107.getD 1 .undef)).bind fun n113 => bif (n113 : Int) == 4 then (impl_BindingsOK_2 l0 l1 n2 n3 true) else (impl_BindingsOK_2 l0 l1 n2 n3 b106))) else none)) else none) else none) else none) else none) else none) else (some ([.p (.bool (decide (((l0.length : Int) : Int) ≤ 8)))], [])) := (pt_loop E0 F_impl_BindingsOK [1, 0, 1, 0] _ (by kernel_rfl)).trans (by kernel_rfl)
theorem impl_BindingsOK_2_eq (l0 : List (List Pd)) (l1 : List (List Pd)) (n2 : Int) (n3 : Int) (b4 : Bool) : impl_BindingsOK_2 l0 l1 n2 n3 b4 =
    bif b4 then (some ([.p (.bool (false))], [])) else (impl_BindingsOK_1 l0 l1 n2 (IntKind.i64.wrap (n3 + 1))) := by kernel_rfl

/-! impl.setText -/
noncomputable def impl_setText_0 (l0 : List (List Pd)) : Option Res := pt E0 F_impl_setText [] ⟨tl ud [(0, .p (.sl 6 l0))] 0 20, tl .none [] 0 20, []⟩
noncomputable def impl_setText_1 (s0 : ByteArray) (l1 : List (List Pd)) (n2 : Int) (n3 : Int) : Option Res := pt E0 F_impl_setText [1, 1, 0, 1, 0, 2] ⟨tl ud [(3, .p (.str s0)), (6, .p (.sl 6 l1)), (7, .p (.int .i64 (n2))), (8, .p (.int .i64 (n3)))] 0 20, tl .none [] 0 20, []⟩
theorem impl_setText_0_ev (l0 : List (List Pd)) : ev E0 F_impl_setText [.p (.sl 6 l0)] [] = impl_setText_0 l0 := (ev_eq _ _ _ _).trans (by kernel_rfl)
theorem impl_setText_0_eq (l0 : List (List Pd)) : impl_setText_0 l0 =
    impl_setText_1 (⟨#[123]⟩ : ByteArray) l0 (l0.length : Int) 0 := by kernel_rfl
theorem impl_setText_1_eq (s0 : ByteArray) (l1 : List (List Pd)) (n2 : Int) (n3 : Int) : impl_setText_1 s0 l1 n2 n3 =
    bif decide ((n3 : Int) < n2) then (if 0 ≤ (n3 : Int) ∧ (n3 : Int) < (l1.length : Int) then ((ev E0 F_impl_Sel_text [.p (.agg 6 (l1.getD (n3 : Int).toNat []))] []).bind fun r105 => (asStr (pAt 0 r105.1)).bind fun s106 => if r105.1.length = 1 then (if (⟨#[32]⟩ : ByteArray).size + s106.size ≤ LIM then (if s0.size + ((⟨#[32]⟩ : ByteArray) ++ s106).size ≤ LIM then (impl_setText_1 (s0 ++ ((⟨#[32]⟩ : ByteArray) ++ s106)) l1 n2 (IntKind.i64.wrap (n3 + 1))) else none) else none) else none) else none) else (if s0.size + (⟨#[32, 125]⟩ : ByteArray).size ≤ LIM then (some ([.p (.str (s0 ++ (⟨#[32, 125]⟩ : ByteArray)))], [])) else none) := (pt_loop E0 F_impl_setText [1, 1, 0, 1, 0] _ (by kernel_rfl)).trans (by kernel_rfl)

/-! laws.eqDefS -/
noncomputable def laws_eqDefS_0 (l0 : List (List Pd)) (l1 : List (List Pd)) : Option Res := pt E0 F_laws_eqDefS [] ⟨tl ud [(0, .p (.sl 4 l0)), (1, .p (.sl 4 l1))] 0 27, tl .none [] 0 27, []⟩
noncomputable def laws_eqDefS_1 (l0 : List (List Pd)) (l1 : List (List Pd)) (n2 : Int) : Option Res := pt E0 F_laws_eqDefS [1, 1, 0, 1, 0, 2] ⟨tl ud [(0, .p (.sl 4 l0)), (1, .p (.sl 4 l1)), (5, .p (.int .i64 (n2)))] 0 27, tl .none [] 0 27, []⟩
theorem laws_eqDefS_0_ev (l0 : List (List Pd)) (l1 : List (List Pd)) : ev E0 F_laws_eqDefS [.p (.sl 4 l0), .p (.sl 4 l1)] [] = laws_eqDefS_0 l0 l1 := (ev_eq _ _ _ _).trans (by kernel_rfl)
theorem laws_eqDefS_0_eq (l0 : List (List Pd)) (l1 : List (List Pd)) : laws_eqDefS_0 l0 l1 =
    bif ((l0.length : Int) : Int) != (l1.length : Int) then (some ([.p (.bool (false))], [])) else (laws_eqDefS_1 l0 l1 0) := by kernel_rfl
theorem laws_eqDefS_1_eq (l0 : List (List Pd)) (l1 : List (List Pd)) (n2 : Int) : laws_eqDefS_1 l0 l1 n2 =
    bif decide ((n2 : Int) < (l0.length : Int)) then (if 0 ≤ (n2 : Int) ∧ (n2 : Int) < (l0.length : Int) then (if 0 ≤ (n2 : Int) ∧ (n2 : Int) < (l1.length : Int) then ((ev E0 F_laws_eqDef [.p (.agg 4 (l0.getD (n2 : Int).toNat [])), .p (.agg 4 (l1.getD (n2 : Int).toNat []))] []).bind fun r104 => (asBool (pAt 0 r104.1)).bind fun b105 => if r104.1.length = 1 then (bif !(b105) then (some ([.p (.bool (false))], [])) else (laws_eqDefS_1 l0 l1 (IntKind.i64.wrap (n2 + 1)))) else none) else none) else none) else (some ([.p (.bool (true))], [])) := (pt_loop E0 F_laws_eqDefS [1, 1, 0, 1, 0] _ (by kernel_rfl)).trans (by kernel_rfl)

/-! laws.eqBinding -/
noncomputable def laws_eqBinding_0 (s0 : ByteArray) (n1 : Int) (n2 : Int) (s3 : ByteArray) (s4 : ByteArray) (n5 : Int) (n6 : Int) (s7 : ByteArray) : Option Res := pt E0 F_laws_eqBinding [] ⟨tl ud [(0, .p (.agg 4 [.str s0, .int .i64 (n1), .int .i64 (n2), .str s3])), (1, .p (.agg 4 [.str s4, .int .i64 (n5), .int .i64 (n6), .str s7]))] 0 16, tl .none [] 0 16, []⟩
theorem laws_eqBinding_0_ev (s0 : ByteArray) (n1 : Int) (n2 : Int) (s3 : ByteArray) (s4 : ByteArray) (n5 : Int) (n6 : Int) (s7 : ByteArray) : ev E0 F_laws_eqBinding [.p (.agg 4 [.str s0, .int .i64 (n1), .int .i64 (n2), .str s3]), .p (.agg 4 [.str s4, .int .i64 (n5), .int .i64 (n6), .str s7])] [] = laws_eqBinding_0 s0 n1 n2 s3 s4 n5 n6 s7 := (ev_eq _ _ _ _).trans (by kernel_rfl)
theorem laws_eqBinding_0_eq (s0 : ByteArray) (n1 : Int) (n2 : Int) (s3 : ByteArray) (s4 : ByteArray) (n5 : Int) (n6 : Int) (s7 : ByteArray) : laws_eqBinding_0 s0 n1 n2 s3 s4 n5 n6 s7 =
    bif !decide (s0 = s4) then (some ([.p (.bool (false))], [])) else ((ev E0 F_laws_eqValue [.p (.agg 3 [.int .i64 (n1), .int .i64 (n2), .str s3]), .p (.agg 3 [.int .i64 (n5), .int .i64 (n6), .str s7])] []).bind fun r109 => (asBool (pAt 0 r109.1)).bind fun b110 => if r109.1.length = 1 then (bif !(b110) then (some ([.p (.bool (false))], [])) else (some ([.p (.bool (true))], []))) else none) := by kernel_rfl

/-! laws.szDef -/
noncomputable def laws_szDef_0 (n0 : Int) (s1 : ByteArray) (s2 : ByteArray) (l3 : List (List Pd)) (n4 : Int) : Option Res := pt E0 F_laws_szDef [] ⟨tl ud [(0, .p (.agg 4 [.int .i64 (n0), .str s1, .str s2, .sl 6 l3])), (1, .p (.int .i64 (n4)))] 0 26, tl .none [] 0 26, []⟩
theorem laws_szDef_0_ev (n0 : Int) (s1 : ByteArray) (s2 : ByteArray) (l3 : List (List Pd)) (n4 : Int) : ev E0 F_laws_szDef [.p (.agg 4 [.int .i64 (n0), .str s1, .str s2, .sl 6 l3]), .p (.int .i64 (n4))] [] = laws_szDef_0 n0 s1 s2 l3 n4 := (ev_eq _ _ _ _).trans (by kernel_rfl)
theorem laws_szDef_0_eq (n0 : Int) (s1 : ByteArray) (s2 : ByteArray) (l3 : List (List Pd)) (n4 : Int) : laws_szDef_0 n0 s1 s2 l3 n4 =
    bif decide ((IntKind.i64.wrap (n4 - (s1.size : Int)) : Int) < 0) then (some ([.p (.int .i64 (-1))], [])) else (bif decide ((IntKind.i64.wrap ((IntKind.i64.wrap (n4 - (s1.size : Int))) - (s2.size : Int)) : Int) < 0) then (some ([.p (.int .i64 (-1))], [])) else ((ev E0 F_laws_szSelS [.p (.sl 6 l3), .p (.int .i64 (IntKind.i64.wrap ((IntKind.i64.wrap (n4 - (s1.size : Int))) - (s2.size : Int))))] []).bind fun r106 => (asInt .i64 (pAt 0 r106.1)).bind fun n107 => if r106.1.length = 1 then (bif decide ((n107 : Int) < 0) then (some ([.p (.int .i64 (-1))], [])) else (some ([.p (.int .i64 (n107))], []))) else none)) := by kernel_rfl

/-! laws.szValue -/
noncomputable def laws_szValue_0 (n0 : Int) (n1 : Int) (s2 : ByteArray) (n3 : Int) : Option Res := pt E0 F_laws_szValue [] ⟨tl ud [(0, .p (.agg 3 [.int .i64 (n0), .int .i64 (n1), .str s2])), (1, .p (.int .i64 (n3)))] 0 13, tl .none [] 0 13, []⟩
theorem laws_szValue_0_ev (n0 : Int) (n1 : Int) (s2 : ByteArray) (n3 : Int) : ev E0 F_laws_szValue [.p (.agg 3 [.int .i64 (n0), .int .i64 (n1), .str s2]), .p (.int .i64 (n3))] [] = laws_szValue_0 n0 n1 s2 n3 := (ev_eq _ _ _ _).trans (by kernel_rfl)
theorem laws_szValue_0_eq (n0 : Int) (n1 : Int) (s2 : ByteArray) (n3 : Int) : laws_szValue_0 n0 n1 s2 n3 =
    bif decide ((IntKind.i64.wrap (n3 - (s2.size : Int)) : Int) < 0) then (some ([.p (.int .i64 (-1))], [])) else (some ([.p (.int .i64 (IntKind.i64.wrap (n3 - (s2.size : Int))))], [])) := by kernel_rfl

/-! spec.l01In -/
noncomputable def spec_l01In_0 (n0 : Int) (n1 : Int) (n2 : Int) : Option Res := pt E0 F_spec_l01In [] ⟨tl ud [(0, .p (.int .i64 (n0))), (1, .p (.int .i64 (n1))), (2, .p (.int .i64 (n2)))] 0 15, tl .none [] 0 15, []⟩
theorem spec_l01In_0_ev (n0 : Int) (n1 : Int) (n2 : Int) : ev E0 F_spec_l01In [.p (.int .i64 (n0)), .p (.int .i64 (n1)), .p (.int .i64 (n2))] [] = spec_l01In_0 n0 n1 n2 := (ev_eq _ _ _ _).trans (by kernel_rfl)
theorem spec_l01In_0_eq (n0 : Int) (n1 : Int) (n2 : Int) : spec_l01In_0 n0 n1 n2 =
    bif decide ((n1 : Int) ≤ n0) then (some ([.p (.bool (decide ((n0 : Int) ≤ n2)))], [])) else (some ([.p (.bool (false))], [])) := by kernel_rfl

/-! spec.l02Sels -/
noncomputable def spec_l02Sels_0 (l0 : List (List Pd)) (n1 : Int) : Option Res := pt E0 F_spec_l02Sels [] ⟨tl ud [(0, .p (.sl 6 l0)), (1, .p (.int .i64 (n1)))] 0 50, tl .none [] 0 50, []⟩
noncomputable def spec_l02Sels_1 (l0 : List (List Pd)) (n1 : Int) (n2 : Int) (b3 : Bool) : Option Res := pt E0 F_spec_l02Sels [1, 1, 0, 1] ⟨tl ud [(0, .p (.sl 6 l0)), (1, .p (.int .i64 (n1))), (6, .p (.int .i64 (n2))), (17, .p (.bool (b3)))] 0 50, tl .none [] 0 50, []⟩
noncomputable def spec_l02Sels_2 (l0 : List (List Pd)) (n1 : Int) (n2 : Int) (n3 : Int) : Option Res := pt E0 F_spec_l02Sels [1, 1, 1, 0, 1, 0, 2] ⟨tl ud [(0, .p (.sl 6 l0)), (1, .p (.int .i64 (n1))), (6, .p (.int .i64 (n2))), (7, .p (.int .i64 (n3)))] 0 50, tl .none [] 0 50, []⟩
noncomputable def spec_l02Sels_3 (l0 : List (List Pd)) (n1 : Int) (n2 : Int) (n3 : Int) (b4 : Bool) : Option Res := pt E0 F_spec_l02Sels [1, 1, 1, 0, 1, 0, 0, 1, 0, 0, 1, 1, 1, 1, 1] ⟨tl ud [(0, .p (.sl 6 l0)), (1, .p (.int .i64 (n1))), (6, .p (.int .i64 (n2))), (7, .p (.int .i64 (n3))), (48, .p (.bool (b4)))] 0 50, tl .none [] 0 50, []⟩
theorem spec_l02Sels_0_ev (l0 : List (List Pd)) (n1 : Int) : ev E0 F_spec_l02Sels [.p (.sl 6 l0), .p (.int .i64 (n1))] [] = spec_l02Sels_0 l0 n1 := (ev_eq _ _ _ _).trans (by kernel_rfl)
theorem spec_l02Sels_0_eq (l0 : List (List Pd)) (n1 : Int) : spec_l02Sels_0 l0 n1 =
    bif (n1 : Int) == 0 then (spec_l02Sels_1 l0 n1 0 (decide (((l0.length : Int) : Int) > 0))) else (spec_l02Sels_1 l0 n1 0 false) := by kernel_rfl
theorem spec_l02Sels_1_eq (l0 : List (List Pd)) (n1 : Int) (n2 : Int) (b3 : Bool) : spec_l02Sels_1 l0 n1 n2 b3 =
    bif b3 then (some ([.p (.int .i64 (0)), .p (.bool (false))], [])) else (spec_l02Sels_2 l0 n1 n2 0) := by kernel_rfl
theorem spec_l02Sels_2_eq (l0 : List (List Pd)) (n1 : Int) (n2 : Int) (n3 : Int) : spec_l02Sels_2 l0 n1 n2 n3 =
    bif decide ((n3 : Int) < (l0.length : Int)) then (if 0 ≤ (n3 : Int) ∧ (n3 : Int) < (l0.length : Int) then ((ev E0 F_spec_l02Sel [.p (.agg 6 (l0.getD (n3 : Int).toNat []))] []).bind fun r105 => (asBool (pAt 0 r105.1)).bind fun b106 => if r105.1.length = 1 then (bif !(b106) then (some ([.p (.int .i64 (0)), .p (.bool (false))], [])) else ((asSl 6 (((l0.getD (n3 : Int).toNat []).getD 5 .undef))).bind fun l107 => (ev E0 F_spec_l02Sels [.p (.sl 6 l107), .p (.int .i64 (IntKind.i64.wrap (n1 - 1)))] []).bind fun r108 => (asInt .i64 (pAt 0 r108.1)).bind fun n109 => (asBool (pAt 1 r108.1)).bind fun b110 => if r108.1.length = 2 then (bif !(b110) then (spec_l02Sels_3 l0 n1 (IntKind.i64.wrap (n2 + (IntKind.i64.wrap (1 + n109)))) n3 true) else (spec_l02Sels_3 l0 n1 (IntKind.i64.wrap (n2 + (IntKind.i64.wrap (1 + n109)))) n3 (decide ((IntKind.i64.wrap (n2 + (IntKind.i64.wrap (1 + n109))) : Int) > 60)))) else none)) else none) else none) else (some ([.p (.int .i64 (n2)), .p (.bool (true))], [])) := (pt_loop E0 F_spec_l02Sels [1, 1, 1, 0, 1, 0] _ (by kernel_rfl)).trans (by kernel_rfl)
theorem spec_l02Sels_3_eq (l0 : List (List Pd)) (n1 : Int) (n2 : Int) (n3 : Int) (b4 : Bool) : spec_l02Sels_3 l0 n1 n2 n3 b4 =
    bif b4 then (some ([.p (.int .i64 (0)), .p (.bool (false))], [])) else (spec_l02Sels_2 l0 n1 n2 (IntKind.i64.wrap (n3 + 1))) := by kernel_rfl

/-! spec.NameOK -/
noncomputable def spec_NameOK_0 (s0 : ByteArray) : Option Res := pt E0 F_spec_NameOK [] ⟨tl ud [(0, .p (.str s0))] 0 5, tl .none [] 0 5, []⟩
theorem spec_NameOK_0_ev (s0 : ByteArray) : ev E0 F_spec_NameOK [.p (.str s0)] [] = spec_NameOK_0 s0 := (ev_eq _ _ _ _).trans (by kernel_rfl)
theorem spec_NameOK_0_eq (s0 : ByteArray) : spec_NameOK_0 s0 =
    (ev E0 F_spec_l00Word [.p (.str s0)] []).bind fun r102 => (asBool (pAt 0 r102.1)).bind fun b103 => if r102.1.length = 1 then (some ([.p (.bool (b103))], [])) else none := by kernel_rfl

/-! spec.ValueOK -/
noncomputable def spec_ValueOK_0 (n0 : Int) (n1 : Int) (s2 : ByteArray) : Option Res := pt E0 F_spec_ValueOK [] ⟨tl ud [(0, .p (.agg 3 [.int .i64 (n0), .int .i64 (n1), .str s2]))] 0 45, tl .none [] 0 45, []⟩
theorem spec_ValueOK_0_ev (n0 : Int) (n1 : Int) (s2 : ByteArray) : ev E0 F_spec_ValueOK [.p (.agg 3 [.int .i64 (n0), .int .i64 (n1), .str s2])] [] = spec_ValueOK_0 n0 n1 s2 := (ev_eq _ _ _ _).trans (by kernel_rfl)
theorem spec_ValueOK_0_eq (n0 : Int) (n1 : Int) (s2 : ByteArray) : spec_ValueOK_0 n0 n1 s2 =
    bif (n0 : Int) == 1 then ((ev E0 F_spec_IsInt [.p (.int .i64 (n1))] []).bind fun r104 => (asBool (pAt 0 r104.1)).bind fun b105 => if r104.1.length = 1 then (bif b105 then (some ([.p (.bool (decide (s2 = (⟨#[]⟩ : ByteArray))))], [])) else (some ([.p (.bool (false))], []))) else none) else (bif (n0 : Int) == 2 then ((ev E0 F_spec_l01In [.p (.int .i64 (n1)), .p (.int .i64 (0)), .p (.int .i64 (1))] []).bind fun r106 => (asBool (pAt 0 r106.1)).bind fun b107 => if r106.1.length = 1 then (bif b107 then (some ([.p (.bool (decide (s2 = (⟨#[]⟩ : ByteArray))))], [])) else (some ([.p (.bool (false))], []))) else none) else (bif (n0 : Int) == 3 then (bif (n1 : Int) == 0 then (some ([.p (.bool (decide (s2 = (⟨#[]⟩ : ByteArray))))], [])) else (some ([.p (.bool (false))], []))) else (bif (n0 : Int) == 4 then (bif (n1 : Int) == 0 then ((ev E0 F_spec_NameOK [.p (.str s2)] []).bind fun r108 => (asBool (pAt 0 r108.1)).bind fun b109 => if r108.1.length = 1 then (some ([.p (.bool (b109))], [])) else none) else (some ([.p (.bool (false))], []))) else (some ([.p (.bool (false))], []))))) := by kernel_rfl

/-! spec.l00Digits -/
noncomputable def spec_l00Digits_0 (n0 : Int) : Option Res := pt E0 F_spec_l00Digits [] ⟨tl ud [(0, .p (.int .i64 (n0)))] 0 28, tl .none [] 0 28, []⟩
theorem spec_l00Digits_0_ev (n0 : Int) : ev E0 F_spec_l00Digits [.p (.int .i64 (n0))] [] = spec_l00Digits_0 n0 := (ev_eq _ _ _ _).trans (by kernel_rfl)
theorem spec_l00Digits_0_eq (n0 : Int) : spec_l00Digits_0 n0 =
    bif (n0 : Int) == (-9223372036854775808) then (some ([.p (.str (⟨#[45, 57, 50, 50, 51, 51, 55, 50, 48, 51, 54, 56, 53, 52, 55, 55, 53, 56, 48, 56]⟩ : ByteArray))], [])) else (bif decide ((n0 : Int) < 0) then ((ev E0 F_spec_l00Digits [.p (.int .i64 (IntKind.i64.wrap (0 - n0)))] []).bind fun r102 => (asStr (pAt 0 r102.1)).bind fun s103 => if r102.1.length = 1 then (if (⟨#[45]⟩ : ByteArray).size + s103.size ≤ LIM then (some ([.p (.str ((⟨#[45]⟩ : ByteArray) ++ s103))], [])) else none) else none) else (bif decide ((n0 : Int) < 10) then ((bytesOf (([[.int .u8 (IntKind.u8.wrap (IntKind.i64.wrap (48 + n0)))]] : List (List Pd)))).bind fun l104 => some ([.p (.str (⟨l104.toArray⟩ : ByteArray))], [])) else ((ev E0 F_spec_l00Digits [.p (.int .i64 (IntKind.i64.wrap (n0.tdiv 10)))] []).bind fun r105 => (asStr (pAt 0 r105.1)).bind fun s106 => if r105.1.length = 1 then ((bytesOf (([[.int .u8 (IntKind.u8.wrap (IntKind.i64.wrap (48 + (n0.tmod 10))))]] : List (List Pd)))).bind fun l107 => if s106.size + (⟨l107.toArray⟩ : ByteArray).size ≤ LIM then (some ([.p (.str (s106 ++ (⟨l107.toArray⟩ : ByteArray)))], [])) else none) else none))) := by kernel_rfl

/-! spec.l02Text -/
noncomputable def spec_l02Text_0 (l0 : List (List Pd)) : Option Res := pt E0 F_spec_l02Text [] ⟨tl ud [(0, .p (.sl 6 l0))] 0 21, tl .none [] 0 21, []⟩
noncomputable def spec_l02Text_1 (l0 : List (List Pd)) (s1 : ByteArray) (n2 : Int) : Option Res := pt E0 F_spec_l02Text [1, 1, 0, 1, 0, 2] ⟨tl ud [(0, .p (.sl 6 l0)), (3, .p (.str s1)), (4, .p (.int .i64 (n2)))] 0 21, tl .none [] 0 21, []⟩
theorem spec_l02Text_0_ev (l0 : List (List Pd)) : ev E0 F_spec_l02Text [.p (.sl 6 l0)] [] = spec_l02Text_0 l0 := (ev_eq _ _ _ _).trans (by kernel_rfl)
theorem spec_l02Text_0_eq (l0 : List (List Pd)) : spec_l02Text_0 l0 =
    spec_l02Text_1 l0 (⟨#[123]⟩ : ByteArray) 0 := by kernel_rfl
theorem spec_l02Text_1_eq (l0 : List (List Pd)) (s1 : ByteArray) (n2 : Int) : spec_l02Text_1 l0 s1 n2 =
    bif decide ((n2 : Int) < (l0.length : Int)) then (if 0 ≤ (n2 : Int) ∧ (n2 : Int) < (l0.length : Int) then ((ev E0 F_spec_l02SelText [.p (.agg 6 (l0.getD (n2 : Int).toNat []))] []).bind fun r104 => (asStr (pAt 0 r104.1)).bind fun s105 => if r104.1.length = 1 then (if (⟨#[32]⟩ : ByteArray).size + s105.size ≤ LIM then (if s1.size + ((⟨#[32]⟩ : ByteArray) ++ s105).size ≤ LIM then (spec_l02Text_1 l0 (s1 ++ ((⟨#[32]⟩ : ByteArray) ++ s105)) (IntKind.i64.wrap (n2 + 1))) else none) else none) else none) else none) else (if s1.size + (⟨#[32, 125]⟩ : ByteArray).size ≤ LIM then (some ([.p (.str (s1 ++ (⟨#[32, 125]⟩ : ByteArray)))], [])) else none) := (pt_loop E0 F_spec_l02Text [1, 1, 0, 1, 0] _ (by kernel_rfl)).trans (by kernel_rfl)

/-! spec.l00Join -/
noncomputable def spec_l00Join_0 (l0 : List (List Pd)) (s1 : ByteArray) : Option Res := pt E0 F_spec_l00Join [] ⟨tl ud [(0, .p (.sl 1 l0)), (1, .p (.str s1))] 0 25, tl .none [] 0 25, []⟩
noncomputable def spec_l00Join_1 (l0 : List (List Pd)) (s1 : ByteArray) (s2 : ByteArray) (n3 : Int) : Option Res := pt E0 F_spec_l00Join [1, 1, 0, 1, 0, 2] ⟨tl ud [(0, .p (.sl 1 l0)), (1, .p (.str s1)), (5, .p (.str s2)), (6, .p (.int .i64 (n3)))] 0 25, tl .none [] 0 25, []⟩
noncomputable def spec_l00Join_2 (l0 : List (List Pd)) (s1 : ByteArray) (s2 : ByteArray) (n3 : Int) : Option Res := pt E0 F_spec_l00Join [1, 1, 0, 1, 0, 0, 1, 0, 0, 1] ⟨tl ud [(0, .p (.sl 1 l0)), (1, .p (.str s1)), (5, .p (.str s2)), (6, .p (.int .i64 (n3)))] 0 25, tl .none [] 0 25, []⟩
theorem spec_l00Join_0_ev (l0 : List (List Pd)) (s1 : ByteArray) : ev E0 F_spec_l00Join [.p (.sl 1 l0), .p (.str s1)] [] = spec_l00Join_0 l0 s1 := (ev_eq _ _ _ _).trans (by kernel_rfl)
theorem spec_l00Join_0_eq (l0 : List (List Pd)) (s1 : ByteArray) : spec_l00Join_0 l0 s1 =
    spec_l00Join_1 l0 s1 (⟨#[]⟩ : ByteArray) 0 := by kernel_rfl
theorem spec_l00Join_1_eq (l0 : List (List Pd)) (s1 : ByteArray) (s2 : ByteArray) (n3 : Int) : spec_l00Join_1 l0 s1 s2 n3 =
    bif decide ((n3 : Int) < (l0.length : Int)) then (bif decide ((n3 : Int) > 0) then (if s2.size + s1.size ≤ LIM then (spec_l00Join_2 l0 s1 (s2 ++ s1) n3) else none) else (spec_l00Join_2 l0 s1 s2 n3)) else (some ([.p (.str s2)], [])) := (pt_loop E0 F_spec_l00Join [1, 1, 0, 1, 0] _ (by kernel_rfl)).trans (by kernel_rfl)
theorem spec_l00Join_2_eq (l0 : List (List Pd)) (s1 : ByteArray) (s2 : ByteArray) (n3 : Int) : spec_l00Join_2 l0 s1 s2 n3 =
    if 0 ≤ (n3 : Int) ∧ (n3 : Int) < (l0.length : Int) then ((asStr (((l0.getD (n3 : Int).toNat []).getD 0 .undef))).bind fun s105 => if s2.size + s105.size ≤ LIM then (spec_l00Join_1 l0 s1 (s2 ++ s105) (IntKind.i64.wrap (n3 + 1))) else none) else none := by kernel_rfl

/-! laws.toDef -/
noncomputable def laws_toDef_0 (n0 : Int) (s1 : ByteArray) (s2 : ByteArray) (l3 : List (List Pd)) : Option Res := pt E0 F_laws_toDef [] ⟨tl ud [(0, .p (.agg 4 [.int .i64 (n0), .str s1, .str s2, .sl 6 l3]))] 0 18, tl .none [] 0 18, []⟩
theorem laws_toDef_0_ev (n0 : Int) (s1 : ByteArray) (s2 : ByteArray) (l3 : List (List Pd)) : ev E0 F_laws_toDef [.p (.agg 4 [.int .i64 (n0), .str s1, .str s2, .sl 6 l3])] [] = laws_toDef_0 n0 s1 s2 l3 := (ev_eq _ _ _ _).trans (by kernel_rfl)
theorem laws_toDef_0_eq (n0 : Int) (s1 : ByteArray) (s2 : ByteArray) (l3 : List (List Pd)) : laws_toDef_0 n0 s1 s2 l3 =
    (ev E0 F_laws_toSelS [.p (.sl 6 l3)] []).bind fun r105 => (asSl 6 (pAt 0 r105.1)).bind fun l106 => if r105.1.length = 1 then (some ([.p (.agg 4 [.int .i64 (n0), .str s1, .str s2, .sl 6 l106])], [])) else none := by kernel_rfl

/-! laws.toValue -/
noncomputable def laws_toValue_0 (n0 : Int) (n1 : Int) (s2 : ByteArray) : Option Res := pt E0 F_laws_toValue [] ⟨tl ud [(0, .p (.agg 3 [.int .i64 (n0), .int .i64 (n1), .str s2]))] 0 14, tl .none [] 0 14, []⟩
theorem laws_toValue_0_ev (n0 : Int) (n1 : Int) (s2 : ByteArray) : ev E0 F_laws_toValue [.p (.agg 3 [.int .i64 (n0), .int .i64 (n1), .str s2])] [] = laws_toValue_0 n0 n1 s2 := (ev_eq _ _ _ _).trans (by kernel_rfl)
theorem laws_toValue_0_eq (n0 : Int) (n1 : Int) (s2 : ByteArray) : laws_toValue_0 n0 n1 s2 =
    some ([.p (.agg 3 [.int .i64 (n0), .int .i64 (n1), .str s2])], []) := by kernel_rfl

/-! (impl.Def).isRight -/
noncomputable def impl_Def_isRight_0 (n0 : Int) (s1 : ByteArray) (s2 : ByteArray) (l3 : List (List Pd)) : Option Res := pt E0 F_impl_Def_isRight [] ⟨tl ud [(0, .p (.agg 4 [.int .i64 (n0), .str s1, .str s2, .sl 6 l3]))] 0 43, tl .none [] 0 43, []⟩
noncomputable def impl_Def_isRight_1 (n0 : Int) (b1 : Bool) (n2 : Int) (s3 : ByteArray) (s4 : ByteArray) (l5 : List (List Pd)) : Option Res := pt E0 F_impl_Def_isRight [1, 0, 1, 0, 1] ⟨tl ud [(1, .ptr (.loc 1) 0), (4, .p (.int .i64 (n0))), (5, .p (.bool (b1)))] 0 43, tl .none [(1, .box 4 [.int .i64 (n2), .str s3, .str s4, .sl 6 l5])] 0 43, []⟩
theorem impl_Def_isRight_0_ev (n0 : Int) (s1 : ByteArray) (s2 : ByteArray) (l3 : List (List Pd)) : ev E0 F_impl_Def_isRight [.p (.agg 4 [.int .i64 (n0), .str s1, .str s2, .sl 6 l3])] [] = impl_Def_isRight_0 n0 s1 s2 l3 := (ev_eq _ _ _ _).trans (by kernel_rfl)
theorem impl_Def_isRight_0_eq (n0 : Int) (s1 : ByteArray) (s2 : ByteArray) (l3 : List (List Pd)) : impl_Def_isRight_0 n0 s1 s2 l3 =
    bif (n0 : Int) == 1 then (impl_Def_isRight_1 n0 ((n0 : Int) == 1) n0 s1 s2 l3) else (impl_Def_isRight_1 n0 ((n0 : Int) == 2) n0 s1 s2 l3) := by kernel_rfl
theorem impl_Def_isRight_1_eq (n0 : Int) (b1 : Bool) (n2 : Int) (s3 : ByteArray) (s4 : ByteArray) (l5 : List (List Pd)) : impl_Def_isRight_1 n0 b1 n2 s3 s4 l5 =
    bif b1 then ((ev E0 F_impl_isNameOrNone [.p (.str s3)] []).bind fun r107 => (asBool (pAt 0 r107.1)).bind fun b108 => if r107.1.length = 1 then (bif b108 then (bif decide (s4 = (⟨#[]⟩ : ByteArray)) then (some ([.p (.bool (decide (((l5.length : Int) : Int) > 0)))], [])) else (some ([.p (.bool (false))], []))) else (some ([.p (.bool (false))], []))) else none) else (bif (n0 : Int) == 3 then ((ev E0 F_impl_NameOK [.p (.str s3)] []).bind fun r109 => (asBool (pAt 0 r109.1)).bind fun b110 => if r109.1.length = 1 then (bif b110 then (bif !decide (s3 = (⟨#[111, 110]⟩ : ByteArray)) then ((ev E0 F_impl_NameOK [.p (.str s4)] []).bind fun r111 => (asBool (pAt 0 r111.1)).bind fun b112 => if r111.1.length = 1 then (bif b112 then (some ([.p (.bool (decide (((l5.length : Int) : Int) > 0)))], [])) else (some ([.p (.bool (false))], []))) else none) else (some ([.p (.bool (false))], []))) else (some ([.p (.bool (false))], []))) else none) else (some ([.p (.bool (false))], []))) := by kernel_rfl

/-! impl.areRight -/
noncomputable def impl_areRight_0 (l0 : List (List Pd)) (n1 : Int) (n2 : Int) : Option Res := pt E0 F_impl_areRight [] ⟨tl ud [(0, .p (.sl 6 l0)), (1, .p (.int .i64 (n1))), (2, .ptr (.out 0) 0)] 0 46, tl .none [] 0 46, [.box 1 [.int .i64 (n2)]]⟩
noncomputable def impl_areRight_1 (l0 : List (List Pd)) (n1 : Int) (c2 : List Pd) : Option Res := pt E0 F_impl_areRight [] ⟨tl ud [(0, .p (.sl 6 l0)), (1, .p (.int .i64 (n1))), (2, .ptr (.out 0) 0)] 0 46, tl .none [] 0 46, [.box 1 c2]⟩
noncomputable def impl_areRight_2 (l0 : List (List Pd)) (n1 : Int) (b2 : Bool) (n3 : Int) : Option Res := pt E0 F_impl_areRight [1, 0, 1] ⟨tl ud [(0, .p (.sl 6 l0)), (1, .p (.int .i64 (n1))), (2, .ptr (.out 0) 0), (15, .p (.bool (b2)))] 0 46, tl .none [] 0 46, [.box 1 [.int .i64 (n3)]]⟩
noncomputable def impl_areRight_3 (l0 : List (List Pd)) (n1 : Int) (b2 : Bool) (c3 : List Pd) : Option Res := pt E0 F_impl_areRight [1, 0, 1] ⟨tl ud [(0, .p (.sl 6 l0)), (1, .p (.int .i64 (n1))), (2, .ptr (.out 0) 0), (15, .p (.bool (b2)))] 0 46, tl .none [] 0 46, [.box 1 c3]⟩
noncomputable def impl_areRight_4 (n0 : Int) (l1 : List (List Pd)) (n2 : Int) (n3 : Int) (n4 : Int) : Option Res := pt E0 F_impl_areRight [1, 1, 0, 1, 0, 2] ⟨tl ud [(1, .p (.int .i64 (n0))), (2, .ptr (.out 0) 0), (16, .p (.sl 6 l1)), (17, .p (.int .i64 (n2))), (18, .p (.int .i64 (n3)))] 0 46, tl .none [] 0 46, [.box 1 [.int .i64 (n4)]]⟩
noncomputable def impl_areRight_5 (n0 : Int) (l1 : List (List Pd)) (n2 : Int) (n3 : Int) (c4 : List Pd) : Option Res := pt E0 F_impl_areRight [1, 1, 0, 1, 0, 2] ⟨tl ud [(1, .p (.int .i64 (n0))), (2, .ptr (.out 0) 0), (16, .p (.sl 6 l1)), (17, .p (.int .i64 (n2))), (18, .p (.int .i64 (n3)))] 0 46, tl .none [] 0 46, [.box 1 c4]⟩
noncomputable def impl_areRight_6 (n0 : Int) (l1 : List (List Pd)) (n2 : Int) (n3 : Int) (b4 : Bool) (n5 : Int) : Option Res := pt E0 F_impl_areRight [1, 1, 0, 1, 0, 0, 1, 1, 0, 0, 1, 1, 1] ⟨tl ud [(1, .p (.int .i64 (n0))), (2, .ptr (.out 0) 0), (16, .p (.sl 6 l1)), (17, .p (.int .i64 (n2))), (18, .p (.int .i64 (n3))), (44, .p (.bool (b4)))] 0 46, tl .none [] 0 46, [.box 1 [.int .i64 (n5)]]⟩
noncomputable def impl_areRight_7 (n0 : Int) (l1 : List (List Pd)) (n2 : Int) (n3 : Int) (b4 : Bool) (c5 : List Pd) : Option Res := pt E0 F_impl_areRight [1, 1, 0, 1, 0, 0, 1, 1, 0, 0, 1, 1, 1] ⟨tl ud [(1, .p (.int .i64 (n0))), (2, .ptr (.out 0) 0), (16, .p (.sl 6 l1)), (17, .p (.int .i64 (n2))), (18, .p (.int .i64 (n3))), (44, .p (.bool (b4)))] 0 46, tl .none [] 0 46, [.box 1 c5]⟩
theorem impl_areRight_0_ev (l0 : List (List Pd)) (n1 : Int) (n2 : Int) : ev E0 F_impl_areRight [.p (.sl 6 l0), .p (.int .i64 (n1)), .ptr (.out 0) 0] [.box 1 [.int .i64 (n2)]] = impl_areRight_0 l0 n1 n2 := (ev_eq _ _ _ _).trans (by kernel_rfl)
theorem impl_areRight_0_eq (l0 : List (List Pd)) (n1 : Int) (n2 : Int) : impl_areRight_0 l0 n1 n2 =
    bif decide (((l0.length : Int) : Int) > 0) then (impl_areRight_2 l0 n1 ((n1 : Int) == 0) n2) else (impl_areRight_2 l0 n1 false n2) := by kernel_rfl
theorem impl_areRight_1_ev (l0 : List (List Pd)) (n1 : Int) (c2 : List Pd) : ev E0 F_impl_areRight [.p (.sl 6 l0), .p (.int .i64 (n1)), .ptr (.out 0) 0] [.box 1 c2] = impl_areRight_1 l0 n1 c2 := (ev_eq _ _ _ _).trans (by kernel_rfl)
theorem impl_areRight_1_eq (l0 : List (List Pd)) (n1 : Int) (c2 : List Pd) : impl_areRight_1 l0 n1 c2 =
    bif decide (((l0.length : Int) : Int) > 0) then (impl_areRight_3 l0 n1 ((n1 : Int) == 0) c2) else (impl_areRight_3 l0 n1 false c2) := by kernel_rfl
theorem impl_areRight_2_eq (l0 : List (List Pd)) (n1 : Int) (b2 : Bool) (n3 : Int) : impl_areRight_2 l0 n1 b2 n3 =
    bif b2 then (some ([.p (.bool (false))], [.box 1 [.int .i64 (n3)]])) else (impl_areRight_4 n1 l0 (l0.length : Int) 0 n3) := by kernel_rfl
theorem impl_areRight_3_eq (l0 : List (List Pd)) (n1 : Int) (b2 : Bool) (c3 : List Pd) : impl_areRight_3 l0 n1 b2 c3 =
    bif b2 then (some ([.p (.bool (false))], [.box 1 c3])) else (impl_areRight_5 n1 l0 (l0.length : Int) 0 c3) := by kernel_rfl
theorem impl_areRight_4_eq (n0 : Int) (l1 : List (List Pd)) (n2 : Int) (n3 : Int) (n4 : Int) : impl_areRight_4 n0 l1 n2 n3 n4 =
    bif decide ((n3 : Int) < n2) then (if 0 ≤ (n3 : Int) ∧ (n3 : Int) < (l1.length : Int) then (bif decide ((IntKind.i64.wrap (n4 - 1) : Int) < 0) then (impl_areRight_6 n0 l1 n2 n3 true (IntKind.i64.wrap (n4 - 1))) else ((ev E0 F_impl_Sel_isRight [.p (.agg 6 (l1.getD (n3 : Int).toNat []))] []).bind fun r106 => (asBool (pAt 0 r106.1)).bind fun b107 => if r106.1.length = 1 then (bif !(b107) then (impl_areRight_6 n0 l1 n2 n3 true (IntKind.i64.wrap (n4 - 1))) else ((asSl 6 (((l1.getD (n3 : Int).toNat []).getD 5 .undef))).bind fun l108 => (ev E0 F_impl_areRight [.p (.sl 6 l108), .p (.int .i64 (IntKind.i64.wrap (n0 - 1))), .ptr (.out 0) 0] [.box 1 [.int .i64 (IntKind.i64.wrap (n4 - 1))]]).bind fun r109 => (asBool (pAt 0 r109.1)).bind fun b110 => if r109.1.length = 1 then ((asBox 1 (r109.2.getD 0 .none)).bind fun c111 => if r109.2.length = 1 then (impl_areRight_7 n0 l1 n2 n3 (!(b110)) c111) else none) else none)) else none)) else none) else (some ([.p (.bool (true))], [.box 1 [.int .i64 (n4)]])) := (pt_loop E0 F_impl_areRight [1, 1, 0, 1, 0] _ (by kernel_rfl)).trans (by kernel_rfl)
theorem impl_areRight_5_eq (n0 : Int) (l1 : List (List Pd)) (n2 : Int) (n3 : Int) (c4 : List Pd) : impl_areRight_5 n0 l1 n2 n3 c4 =
    bif decide ((n3 : Int) < n2) then (if 0 ≤ (n3 : Int) ∧ (n3 : Int) < (l1.length : Int) then ((asInt .i64 (c4.getD 0 .undef)).bind fun n106 => bif decide ((IntKind.i64.wrap (n106 - 1) : Int) < 0) then (impl_areRight_6 n0 l1 n2 n3 true (IntKind.i64.wrap (n106 - 1))) else ((ev E0 F_impl_Sel_isRight [.p (.agg 6 (l1.getD (n3 : Int).toNat []))] []).bind fun r107 => (asBool (pAt 0 r107.1)).bind fun b108 => if r107.1.length = 1 then (bif !(b108) then (impl_areRight_6 n0 l1 n2 n3 true (IntKind.i64.wrap (n106 - 1))) else ((asSl 6 (((l1.getD (n3 : Int).toNat []).getD 5 .undef))).bind fun l109 => (ev E0 F_impl_areRight [.p (.sl 6 l109), .p (.int .i64 (IntKind.i64.wrap (n0 - 1))), .ptr (.out 0) 0] [.box 1 [.int .i64 (IntKind.i64.wrap (n106 - 1))]]).bind fun r110 => (asBool (pAt 0 r110.1)).bind fun b111 => if r110.1.length = 1 then ((asBox 1 (r110.2.getD 0 .none)).bind fun c112 => if r110.2.length = 1 then (impl_areRight_7 n0 l1 n2 n3 (!(b111)) c112) else none) else none)) else none)) else none) else (some ([.p (.bool (true))], [.box 1 c4])) := (pt_loop E0 F_impl_areRight [1, 1, 0, 1, 0] _ (by kernel_rfl)).trans (by kernel_rfl)
theorem impl_areRight_6_eq (n0 : Int) (l1 : List (List Pd)) (n2 : Int) (n3 : Int) (b4 : Bool) (n5 : Int) : impl_areRight_6 n0 l1 n2 n3 b4 n5 =
    bif b4 then (some ([.p (.bool (false))], [.box 1 [.int .i64 (n5)]])) else (impl_areRight_4 n0 l1 n2 (IntKind.i64.wrap (n3 + 1)) n5) := by kernel_rfl
theorem impl_areRight_7_eq (n0 : Int) (l1 : List (List Pd)) (n2 : Int) (n3 : Int) (b4 : Bool) (c5 : List Pd) : impl_areRight_7 n0 l1 n2 n3 b4 c5 =
    bif b4 then (some ([.p (.bool (false))], [.box 1 c5])) else (impl_areRight_5 n0 l1 n2 (IntKind.i64.wrap (n3 + 1)) c5) := by kernel_rfl

/-! impl.within -/
noncomputable def impl_within_0 (n0 : Int) (n1 : Int) (n2 : Int) : Option Res := pt E0 F_impl_within [] ⟨tl ud [(0, .p (.int .i64 (n0))), (1, .p (.int .i64 (n1))), (2, .p (.int .i64 (n2)))] 0 15, tl .none [] 0 15, []⟩
theorem impl_within_0_ev (n0 : Int) (n1 : Int) (n2 : Int) : ev E0 F_impl_within [.p (.int .i64 (n0)), .p (.int .i64 (n1)), .p (.int .i64 (n2))] [] = impl_within_0 n0 n1 n2 := (ev_eq _ _ _ _).trans (by kernel_rfl)
theorem impl_within_0_eq (n0 : Int) (n1 : Int) (n2 : Int) : impl_within_0 n0 n1 n2 =
    bif decide ((n0 : Int) ≥ n1) then (some ([.p (.bool (decide ((n0 : Int) ≤ n2)))], [])) else (some ([.p (.bool (false))], [])) := by kernel_rfl

/-! slices.ContainsFunc[[]impl.Binding,impl.Binding] -/
noncomputable def slices_ContainsFunc_impl_Binding_impl_Binding_0 (l0 : List (List Pd)) (c1 : List Pd) : Option Res := pt E0 F_slices_ContainsFunc_impl_Binding_impl_Binding [] ⟨tl ud [(0, .p (.sl 4 l0)), (1, .fn F_impl_BindingsOK_1 [.ptr (.out 0) 0])] 0 9, tl .none [] 0 9, [.box 4 c1]⟩
theorem slices_ContainsFunc_impl_Binding_impl_Binding_0_ev (l0 : List (List Pd)) (c1 : List Pd) : ev E0 F_slices_ContainsFunc_impl_Binding_impl_Binding [.p (.sl 4 l0), .fn F_impl_BindingsOK_1 [.ptr (.out 0) 0]] [.box 4 c1] = slices_ContainsFunc_impl_Binding_impl_Binding_0 l0 c1 := (ev_eq _ _ _ _).trans (by kernel_rfl)
theorem slices_ContainsFunc_impl_Binding_impl_Binding_0_eq (l0 : List (List Pd)) (c1 : List Pd) : slices_ContainsFunc_impl_Binding_impl_Binding_0 l0 c1 =
    (ev E0 F_slices_IndexFunc_impl_Binding_impl_Binding [.p (.sl 4 l0), .fn F_impl_BindingsOK_1 [.ptr (.out 0) 0]] [.box 4 c1]).bind fun r103 => (asInt .i64 (pAt 0 r103.1)).bind fun n104 => if r103.1.length = 1 then ((asBox 4 (r103.2.getD 0 .none)).bind fun c105 => if r103.2.length = 1 then (some ([.p (.bool (decide ((n104 : Int) ≥ 0)))], [.box 4 c105])) else none) else none := by kernel_rfl

/-! impl.BindingsOK$1 -/
noncomputable def impl_BindingsOK_1_0 (c0 : List Pd) (c1 : List Pd) : Option Res := pt E0 F_impl_BindingsOK_1 [] ⟨tl ud [(0, .p (.agg 4 c0)), (1, .ptr (.out 0) 0)] 0 9, tl .none [] 0 9, [.box 4 c1]⟩
theorem impl_BindingsOK_1_0_ev (c0 : List Pd) (c1 : List Pd) : ev E0 F_impl_BindingsOK_1 [.p (.agg 4 c0), .ptr (.out 0) 0] [.box 4 c1] = impl_BindingsOK_1_0 c0 c1 := (ev_eq _ _ _ _).trans (by kernel_rfl)
theorem impl_BindingsOK_1_0_eq (c0 : List Pd) (c1 : List Pd) : impl_BindingsOK_1_0 c0 c1 =
    (asStr (c0.getD 0 .undef)).bind fun s103 => (asStr (c1.getD 0 .undef)).bind fun s104 => some ([.p (.bool (decide (s103 = s104)))], [.box 4 c1]) := by kernel_rfl

/-! impl.NameOK -/
noncomputable def impl_NameOK_0 (s0 : ByteArray) : Option Res := pt E0 F_impl_NameOK [] ⟨tl ud [(0, .p (.str s0))] 0 29, tl .none [] 0 29, []⟩
noncomputable def impl_NameOK_1 (s0 : ByteArray) (n1 : Int) (n2 : Int) : Option Res := pt E0 F_impl_NameOK [1, 0, 1, 0, 2] ⟨tl ud [(0, .p (.str s0)), (5, .p (.int .i64 (n1))), (6, .p (.int .i64 (n2)))] 0 29, tl .none [] 0 29, []⟩
noncomputable def impl_NameOK_2 (s0 : ByteArray) (n1 : Int) (n2 : Int) (b3 : Bool) : Option Res := pt E0 F_impl_NameOK [1, 0, 1, 0, 0, 1, 1, 0, 0, 1, 1] ⟨tl ud [(0, .p (.str s0)), (5, .p (.int .i64 (n1))), (6, .p (.int .i64 (n2))), (24, .p (.bool (b3)))] 0 29, tl .none [] 0 29, []⟩
theorem impl_NameOK_0_ev (s0 : ByteArray) : ev E0 F_impl_NameOK [.p (.str s0)] [] = impl_NameOK_0 s0 := (ev_eq _ _ _ _).trans (by kernel_rfl)
theorem impl_NameOK_0_eq (s0 : ByteArray) : impl_NameOK_0 s0 =
    impl_NameOK_1 s0 (s0.size : Int) 0 := by kernel_rfl
theorem impl_NameOK_1_eq (s0 : ByteArray) (n1 : Int) (n2 : Int) : impl_NameOK_1 s0 n1 n2 =
    bif decide ((n2 : Int) < n1) then (if 0 ≤ (n2 : Int) ∧ (n2 : Int) < (s0.size : Int) then ((ev E0 F_impl_isLetter [.p (.int .u8 (bt s0 (n2 : Int).toNat))] []).bind fun r104 => (asBool (pAt 0 r104.1)).bind fun b105 => if r104.1.length = 1 then (bif !(b105) then (bif (n2 : Int) == 0 then (impl_NameOK_2 s0 n1 n2 true) else (if 0 ≤ (n2 : Int) ∧ (n2 : Int) < (s0.size : Int) then ((ev E0 F_impl_isDigit [.p (.int .u8 (bt s0 (n2 : Int).toNat))] []).bind fun r106 => (asBool (pAt 0 r106.1)).bind fun b107 => if r106.1.length = 1 then (impl_NameOK_2 s0 n1 n2 (!(b107))) else none) else none)) else (impl_NameOK_2 s0 n1 n2 false)) else none) else none) else ((ev E0 F_impl_within [.p (.int .i64 ((s0.size : Int))), .p (.int .i64 (1)), .p (.int .i64 (40))] []).bind fun r108 => (asBool (pAt 0 r108.1)).bind fun b109 => if r108.1.length = 1 then (some ([.p (.bool (b109))], [])) else none) := (pt_loop E0 F_impl_NameOK [1, 0, 1, 0] _ (by kernel_rfl)).trans (by kernel_rfl)
theorem impl_NameOK_2_eq (s0 : ByteArray) (n1 : Int) (n2 : Int) (b3 : Bool) : impl_NameOK_2 s0 n1 n2 b3 =
    bif b3 then (some ([.p (.bool (false))], [])) else (impl_NameOK_1 s0 n1 (IntKind.i64.wrap (n2 + 1))) := by kernel_rfl

/-! impl.ValueOK -/
noncomputable def impl_ValueOK_0 (n0 : Int) (n1 : Int) (s2 : ByteArray) : Option Res := pt E0 F_impl_ValueOK [] ⟨tl ud [(0, .p (.agg 3 [.int .i64 (n0), .int .i64 (n1), .str s2]))] 0 45, tl .none [] 0 45, []⟩
theorem impl_ValueOK_0_ev (n0 : Int) (n1 : Int) (s2 : ByteArray) : ev E0 F_impl_ValueOK [.p (.agg 3 [.int .i64 (n0), .int .i64 (n1), .str s2])] [] = impl_ValueOK_0 n0 n1 s2 := (ev_eq _ _ _ _).trans (by kernel_rfl)
theorem impl_ValueOK_0_eq (n0 : Int) (n1 : Int) (s2 : ByteArray) : impl_ValueOK_0 n0 n1 s2 =
    bif (n0 : Int) == 1 then ((ev E0 F_impl_IsInt [.p (.int .i64 (n1))] []).bind fun r104 => (asBool (pAt 0 r104.1)).bind fun b105 => if r104.1.length = 1 then (bif b105 then (some ([.p (.bool (decide (s2 = (⟨#[]⟩ : ByteArray))))], [])) else (some ([.p (.bool (false))], []))) else none) else (bif (n0 : Int) == 2 then ((ev E0 F_impl_within [.p (.int .i64 (n1)), .p (.int .i64 (0)), .p (.int .i64 (1))] []).bind fun r106 => (asBool (pAt 0 r106.1)).bind fun b107 => if r106.1.length = 1 then (bif b107 then (some ([.p (.bool (decide (s2 = (⟨#[]⟩ : ByteArray))))], [])) else (some ([.p (.bool (false))], []))) else none) else (bif (n0 : Int) == 3 then (bif (n1 : Int) == 0 then (some ([.p (.bool (decide (s2 = (⟨#[]⟩ : ByteArray))))], [])) else (some ([.p (.bool (false))], []))) else (bif (n0 : Int) == 4 then (bif (n1 : Int) == 0 then ((ev E0 F_impl_NameOK [.p (.str s2)] []).bind fun r108 => (asBool (pAt 0 r108.1)).bind fun b109 => if r108.1.length = 1 then (some ([.p (.bool (b109))], [])) else none) else (some ([.p (.bool (false))], []))) else (some ([.p (.bool (false))], []))))) := by kernel_rfl

/-! (impl.Sel).text -/
noncomputable def impl_Sel_text_0 (n0 : Int) (s1 : ByteArray) (s2 : ByteArray) (l3 : List (List Pd)) (l4 : List (List Pd)) (l5 : List (List Pd)) : Option Res := pt E0 F_impl_Sel_text [] ⟨tl ud [(0, .p (.agg 6 [.int .i64 (n0), .str s1, .str s2, .sl 4 l3, .sl 4 l4, .sl 6 l5]))] 0 104, tl .none [] 0 104, []⟩
noncomputable def impl_Sel_text_1 (s0 : ByteArray) (n1 : Int) (s2 : ByteArray) (s3 : ByteArray) (l4 : List (List Pd)) (l5 : List (List Pd)) (l6 : List (List Pd)) : Option Res := pt E0 F_impl_Sel_text [1, 1, 1] ⟨tl ud [(1, .ptr (.loc 1) 0), (3, .p (.str s0))] 0 104, tl .none [(1, .box 6 [.int .i64 (n1), .str s2, .str s3, .sl 4 l4, .sl 4 l5, .sl 6 l6])] 0 104, []⟩
noncomputable def impl_Sel_text_2 (s0 : ByteArray) (b1 : Bool) (n2 : Int) (s3 : ByteArray) (s4 : ByteArray) (l5 : List (List Pd)) (l6 : List (List Pd)) (l7 : List (List Pd)) : Option Res := pt E0 F_impl_Sel_text [1, 1, 0, 0, 1, 1, 1] ⟨tl ud [(1, .ptr (.loc 1) 0), (3, .p (.str s0)), (19, .p (.bool (b1)))] 0 104, tl .none [(1, .box 6 [.int .i64 (n2), .str s3, .str s4, .sl 4 l5, .sl 4 l6, .sl 6 l7])] 0 104, []⟩
noncomputable def impl_Sel_text_3 (s0 : ByteArray) (l1 : List (List Pd)) (n2 : Int) (n3 : Int) (n4 : Int) (s5 : ByteArray) (s6 : ByteArray) (l7 : List (List Pd)) (l8 : List (List Pd)) (l9 : List (List Pd)) (e10 : List (List Pd)) : Option Res := pt E0 F_impl_Sel_text [1, 1, 1, 1, 0, 1, 0, 2] ⟨tl ud [(1, .ptr (.loc 1) 0), (3, .p (.str s0)), (4, .arr (.loc 45)), (47, .p (.sl 4 l1)), (48, .p (.int .i64 (n2))), (49, .p (.int .i64 (n3)))] 0 104, tl .none [(1, .box 6 [.int .i64 (n4), .str s5, .str s6, .sl 4 l7, .sl 4 l8, .sl 6 l9]), (45, .arr 9 1 16 false e10)] 0 104, []⟩
noncomputable def impl_Sel_text_4 (s0 : ByteArray) (n1 : Int) (s2 : ByteArray) (s3 : ByteArray) (l4 : List (List Pd)) (l5 : List (List Pd)) (l6 : List (List Pd)) : Option Res := pt E0 F_impl_Sel_text [1, 1, 1, 1, 1, 1] ⟨tl ud [(1, .ptr (.loc 1) 0), (3, .p (.str s0))] 0 104, tl .none [(1, .box 6 [.int .i64 (n1), .str s2, .str s3, .sl 4 l4, .sl 4 l5, .sl 6 l6])] 0 104, []⟩
noncomputable def impl_Sel_text_5 (s0 : ByteArray) (l1 : List (List Pd)) (n2 : Int) (n3 : Int) (n4 : Int) (s5 : ByteArray) (s6 : ByteArray) (l7 : List (List Pd)) (l8 : List (List Pd)) (l9 : List (List Pd)) : Option Res := pt E0 F_impl_Sel_text [1, 1, 1, 1, 1, 1, 0, 1, 0, 2] ⟨tl ud [(1, .ptr (.loc 1) 0), (3, .p (.str s0)), (74, .p (.sl 4 l1)), (75, .p (.int .i64 (n2))), (76, .p (.int .i64 (n3)))] 0 104, tl .none [(1, .box 6 [.int .i64 (n4), .str s5, .str s6, .sl 4 l7, .sl 4 l8, .sl 6 l9])] 0 104, []⟩
noncomputable def impl_Sel_text_6 (s0 : ByteArray) (s1 : ByteArray) (l2 : List (List Pd)) (n3 : Int) (n4 : Int) (n5 : Int) (s6 : ByteArray) (s7 : ByteArray) (l8 : List (List Pd)) (l9 : List (List Pd)) (l10 : List (List Pd)) (c11 : List Pd) : Option Res := pt E0 F_impl_Sel_text [1, 1, 1, 1, 1, 1, 0, 1, 0, 0, 1, 1, 0, 0, 1, 1, 1] ⟨tl ud [(1, .ptr (.loc 1) 0), (3, .p (.str s0)), (8, .ptr (.loc 8) 0), (9, .p (.str s1)), (74, .p (.sl 4 l2)), (75, .p (.int .i64 (n3))), (76, .p (.int .i64 (n4)))] 0 104, tl .none [(1, .box 6 [.int .i64 (n5), .str s6, .str s7, .sl 4 l8, .sl 4 l9, .sl 6 l10]), (8, .box 4 c11)] 0 104, []⟩
noncomputable def impl_Sel_text_7 (s0 : ByteArray) : Option Res := pt E0 F_impl_Sel_text [1, 1, 1, 1, 1, 1, 1, 1] ⟨tl ud [(3, .p (.str s0))] 0 104, tl .none [] 0 104, []⟩
theorem impl_Sel_text_0_ev (n0 : Int) (s1 : ByteArray) (s2 : ByteArray) (l3 : List (List Pd)) (l4 : List (List Pd)) (l5 : List (List Pd)) : ev E0 F_impl_Sel_text [.p (.agg 6 [.int .i64 (n0), .str s1, .str s2, .sl 4 l3, .sl 4 l4, .sl 6 l5])] [] = impl_Sel_text_0 n0 s1 s2 l3 l4 l5 := (ev_eq _ _ _ _).trans (by kernel_rfl)
theorem impl_Sel_text_0_eq (n0 : Int) (s1 : ByteArray) (s2 : ByteArray) (l3 : List (List Pd)) (l4 : List (List Pd)) (l5 : List (List Pd)) : impl_Sel_text_0 n0 s1 s2 l3 l4 l5 =
    bif (n0 : Int) == 2 then (if (⟨#[46, 46, 46, 32]⟩ : ByteArray).size + s2.size ≤ LIM then (impl_Sel_text_1 ((⟨#[46, 46, 46, 32]⟩ : ByteArray) ++ s2) n0 s1 s2 l3 l4 l5) else none) else (bif (n0 : Int) == 3 then (impl_Sel_text_2 s2 (!decide (s2 = (⟨#[]⟩ : ByteArray))) n0 s1 s2 l3 l4 l5) else (impl_Sel_text_2 s2 false n0 s1 s2 l3 l4 l5)) := by kernel_rfl
theorem impl_Sel_text_1_eq (s0 : ByteArray) (n1 : Int) (s2 : ByteArray) (s3 : ByteArray) (l4 : List (List Pd)) (l5 : List (List Pd)) (l6 : List (List Pd)) : impl_Sel_text_1 s0 n1 s2 s3 l4 l5 l6 =
    impl_Sel_text_3 s0 l4 (l4.length : Int) 0 n1 s2 s3 l4 l5 l6 (([] : List (List Pd))) := by kernel_rfl
theorem impl_Sel_text_2_eq (s0 : ByteArray) (b1 : Bool) (n2 : Int) (s3 : ByteArray) (s4 : ByteArray) (l5 : List (List Pd)) (l6 : List (List Pd)) (l7 : List (List Pd)) : impl_Sel_text_2 s0 b1 n2 s3 s4 l5 l6 l7 =
    bif b1 then (if (⟨#[46, 46, 46, 32, 111, 110, 32]⟩ : ByteArray).size + s4.size ≤ LIM then (impl_Sel_text_1 ((⟨#[46, 46, 46, 32, 111, 110, 32]⟩ : ByteArray) ++ s4) n2 s3 s4 l5 l6 l7) else none) else (bif (n2 : Int) == 3 then (impl_Sel_text_1 (⟨#[46, 46, 46]⟩ : ByteArray) n2 s3 s4 l5 l6 l7) else (bif !decide (s3 = (⟨#[]⟩ : ByteArray)) then (if s3.size + (⟨#[58, 32]⟩ : ByteArray).size ≤ LIM then (if (s3 ++ (⟨#[58, 32]⟩ : ByteArray)).size + s4.size ≤ LIM then (impl_Sel_text_1 ((s3 ++ (⟨#[58, 32]⟩ : ByteArray)) ++ s4) n2 s3 s4 l5 l6 l7) else none) else none) else (impl_Sel_text_1 s0 n2 s3 s4 l5 l6 l7))) := by kernel_rfl
theorem impl_Sel_text_3_eq (s0 : ByteArray) (l1 : List (List Pd)) (n2 : Int) (n3 : Int) (n4 : Int) (s5 : ByteArray) (s6 : ByteArray) (l7 : List (List Pd)) (l8 : List (List Pd)) (l9 : List (List Pd)) (e10 : List (List Pd)) : impl_Sel_text_3 s0 l1 n2 n3 n4 s5 s6 l7 l8 l9 e10 =
    bif decide ((n3 : Int) < n2) then (if 0 ≤ (n3 : Int) ∧ (n3 : Int) < (l1.length : Int) then ((asStr (((l1.getD (n3 : Int).toNat []).getD 0 .undef))).bind fun s112 => if s112.size + (⟨#[58, 32]⟩ : ByteArray).size ≤ LIM then ((ev E0 F_impl_Value_text [.p (.agg 3 ((l1.getD (n3 : Int).toNat []).drop 1))] []).bind fun r113 => (asStr (pAt 0 r113.1)).bind fun s114 => if r113.1.length = 1 then (if (s112 ++ (⟨#[58, 32]⟩ : ByteArray)).size + s114.size ≤ LIM then (if (e10.length + (([[.str ((s112 ++ (⟨#[58, 32]⟩ : ByteArray)) ++ s114)]] : List (List Pd))).length) * 16 ≤ LIM then (impl_Sel_text_3 s0 l1 n2 (IntKind.i64.wrap (n3 + 1)) n4 s5 s6 l7 l8 l9 (e10 ++ (([[.str ((s112 ++ (⟨#[58, 32]⟩ : ByteArray)) ++ s114)]] : List (List Pd))))) else none) else none) else none) else none) else none) else (bif decide (((e10.length : Int) : Int) > 0) then ((ev E0 F_strings_Join [.p (.sl 1 e10), .p (.str (⟨#[32]⟩ : ByteArray))] []).bind fun r115 => (asStr (pAt 0 r115.1)).bind fun s116 => if r115.1.length = 1 then (if (⟨#[40]⟩ : ByteArray).size + s116.size ≤ LIM then (if ((⟨#[40]⟩ : ByteArray) ++ s116).size + (⟨#[41]⟩ : ByteArray).size ≤ LIM then (if s0.size + (((⟨#[40]⟩ : ByteArray) ++ s116) ++ (⟨#[41]⟩ : ByteArray)).size ≤ LIM then (impl_Sel_text_4 (s0 ++ (((⟨#[40]⟩ : ByteArray) ++ s116) ++ (⟨#[41]⟩ : ByteArray))) n4 s5 s6 l7 l8 l9) else none) else none) else none) else none) else (impl_Sel_text_4 s0 n4 s5 s6 l7 l8 l9)) := (pt_loop E0 F_impl_Sel_text [1, 1, 1, 1, 0, 1, 0] _ (by kernel_rfl)).trans (by kernel_rfl)
theorem impl_Sel_text_4_eq (s0 : ByteArray) (n1 : Int) (s2 : ByteArray) (s3 : ByteArray) (l4 : List (List Pd)) (l5 : List (List Pd)) (l6 : List (List Pd)) : impl_Sel_text_4 s0 n1 s2 s3 l4 l5 l6 =
    impl_Sel_text_5 s0 l5 (l5.length : Int) 0 n1 s2 s3 l4 l5 l6 := by kernel_rfl
theorem impl_Sel_text_5_eq (s0 : ByteArray) (l1 : List (List Pd)) (n2 : Int) (n3 : Int) (n4 : Int) (s5 : ByteArray) (s6 : ByteArray) (l7 : List (List Pd)) (l8 : List (List Pd)) (l9 : List (List Pd)) : impl_Sel_text_5 s0 l1 n2 n3 n4 s5 s6 l7 l8 l9 =
    bif decide ((n3 : Int) < n2) then (if 0 ≤ (n3 : Int) ∧ (n3 : Int) < (l1.length : Int) then ((asBool (((l1.getD (n3 : Int).toNat []).getD 0 .undef))).bind fun b111 => bif b111 then (impl_Sel_text_6 s0 (⟨#[115, 107, 105, 112]⟩ : ByteArray) l1 n2 n3 n4 s5 s6 l7 l8 l9 (l1.getD (n3 : Int).toNat [])) else (impl_Sel_text_6 s0 (⟨#[105, 110, 99, 108, 117, 100, 101]⟩ : ByteArray) l1 n2 n3 n4 s5 s6 l7 l8 l9 (l1.getD (n3 : Int).toNat []))) else none) else (bif decide (((l9.length : Int) : Int) > 0) then ((ev E0 F_impl_setText [.p (.sl 6 l9)] []).bind fun r112 => (asStr (pAt 0 r112.1)).bind fun s113 => if r112.1.length = 1 then (if (⟨#[32]⟩ : ByteArray).size + s113.size ≤ LIM then (if s0.size + ((⟨#[32]⟩ : ByteArray) ++ s113).size ≤ LIM then (impl_Sel_text_7 (s0 ++ ((⟨#[32]⟩ : ByteArray) ++ s113))) else none) else none) else none) else (impl_Sel_text_7 s0)) := (pt_loop E0 F_impl_Sel_text [1, 1, 1, 1, 1, 1, 0, 1, 0] _ (by kernel_rfl)).trans (by kernel_rfl)
theorem impl_Sel_text_6_eq (s0 : ByteArray) (s1 : ByteArray) (l2 : List (List Pd)) (n3 : Int) (n4 : Int) (n5 : Int) (s6 : ByteArray) (s7 : ByteArray) (l8 : List (List Pd)) (l9 : List (List Pd)) (l10 : List (List Pd)) (c11 : List Pd) : impl_Sel_text_6 s0 s1 l2 n3 n4 n5 s6 s7 l8 l9 l10 c11 =
    if (⟨#[32, 64]⟩ : ByteArray).size + s1.size ≤ LIM then (if ((⟨#[32, 64]⟩ : ByteArray) ++ s1).size + (⟨#[40, 105, 102, 58, 32]⟩ : ByteArray).size ≤ LIM then ((ev E0 F_impl_Value_text [.p (.agg 3 (c11.drop 1))] []).bind fun r113 => (asStr (pAt 0 r113.1)).bind fun s114 => if r113.1.length = 1 then (if (((⟨#[32, 64]⟩ : ByteArray) ++ s1) ++ (⟨#[40, 105, 102, 58, 32]⟩ : ByteArray)).size + s114.size ≤ LIM then (if ((((⟨#[32, 64]⟩ : ByteArray) ++ s1) ++ (⟨#[40, 105, 102, 58, 32]⟩ : ByteArray)) ++ s114).size + (⟨#[41]⟩ : ByteArray).size ≤ LIM then (if s0.size + (((((⟨#[32, 64]⟩ : ByteArray) ++ s1) ++ (⟨#[40, 105, 102, 58, 32]⟩ : ByteArray)) ++ s114) ++ (⟨#[41]⟩ : ByteArray)).size ≤ LIM then (impl_Sel_text_5 (s0 ++ (((((⟨#[32, 64]⟩ : ByteArray) ++ s1) ++ (⟨#[40, 105, 102, 58, 32]⟩ : ByteArray)) ++ s114) ++ (⟨#[41]⟩ : ByteArray))) l2 n3 (IntKind.i64.wrap (n4 + 1)) n5 s6 s7 l8 l9 l10) else none) else none) else none) else none) else none) else none := by kernel_rfl
theorem impl_Sel_text_7_eq (s0 : ByteArray) : impl_Sel_text_7 s0 =
    some ([.p (.str s0)], []) := by kernel_rfl

/-! laws.eqDef -/
noncomputable def laws_eqDef_0 (n0 : Int) (s1 : ByteArray) (s2 : ByteArray) (l3 : List (List Pd)) (n4 : Int) (s5 : ByteArray) (s6 : ByteArray) (l7 : List (List Pd)) : Option Res := pt E0 F_laws_eqDef [] ⟨tl ud [(0, .p (.agg 4 [.int .i64 (n0), .str s1, .str s2, .sl 6 l3])), (1, .p (.agg 4 [.int .i64 (n4), .str s5, .str s6, .sl 6 l7]))] 0 26, tl .none [] 0 26, []⟩
theorem laws_eqDef_0_ev (n0 : Int) (s1 : ByteArray) (s2 : ByteArray) (l3 : List (List Pd)) (n4 : Int) (s5 : ByteArray) (s6 : ByteArray) (l7 : List (List Pd)) : ev E0 F_laws_eqDef [.p (.agg 4 [.int .i64 (n0), .str s1, .str s2, .sl 6 l3]), .p (.agg 4 [.int .i64 (n4), .str s5, .str s6, .sl 6 l7])] [] = laws_eqDef_0 n0 s1 s2 l3 n4 s5 s6 l7 := (ev_eq _ _ _ _).trans (by kernel_rfl)
theorem laws_eqDef_0_eq (n0 : Int) (s1 : ByteArray) (s2 : ByteArray) (l3 : List (List Pd)) (n4 : Int) (s5 : ByteArray) (s6 : ByteArray) (l7 : List (List Pd)) : laws_eqDef_0 n0 s1 s2 l3 n4 s5 s6 l7 =
    bif (n0 : Int) != n4 then (some ([.p (.bool (false))], [])) else (bif !decide (s1 = s5) then (some ([.p (.bool (false))], [])) else (bif !decide (s2 = s6) then (some ([.p (.bool (false))], [])) else ((ev E0 F_laws_eqSelS [.p (.sl 6 l3), .p (.sl 6 l7)] []).bind fun r109 => (asBool (pAt 0 r109.1)).bind fun b110 => if r109.1.length = 1 then (bif !(b110) then (some ([.p (.bool (false))], [])) else (some ([.p (.bool (true))], []))) else none))) := by kernel_rfl

/-! laws.eqValue -/
noncomputable def laws_eqValue_0 (n0 : Int) (n1 : Int) (s2 : ByteArray) (n3 : Int) (n4 : Int) (s5 : ByteArray) : Option Res := pt E0 F_laws_eqValue [] ⟨tl ud [(0, .p (.agg 3 [.int .i64 (n0), .int .i64 (n1), .str s2])), (1, .p (.agg 3 [.int .i64 (n3), .int .i64 (n4), .str s5]))] 0 20, tl .none [] 0 20, []⟩
theorem laws_eqValue_0_ev (n0 : Int) (n1 : Int) (s2 : ByteArray) (n3 : Int) (n4 : Int) (s5 : ByteArray) : ev E0 F_laws_eqValue [.p (.agg 3 [.int .i64 (n0), .int .i64 (n1), .str s2]), .p (.agg 3 [.int .i64 (n3), .int .i64 (n4), .str s5])] [] = laws_eqValue_0 n0 n1 s2 n3 n4 s5 := (ev_eq _ _ _ _).trans (by kernel_rfl)
theorem laws_eqValue_0_eq (n0 : Int) (n1 : Int) (s2 : ByteArray) (n3 : Int) (n4 : Int) (s5 : ByteArray) : laws_eqValue_0 n0 n1 s2 n3 n4 s5 =
    bif (n0 : Int) != n3 then (some ([.p (.bool (false))], [])) else (bif (n1 : Int) != n4 then (some ([.p (.bool (false))], [])) else (bif !decide (s2 = s5) then (some ([.p (.bool (false))], [])) else (some ([.p (.bool (true))], [])))) := by kernel_rfl

/-! laws.szSelS -/
noncomputable def laws_szSelS_0 (l0 : List (List Pd)) (n1 : Int) : Option Res := pt E0 F_laws_szSelS [] ⟨tl ud [(0, .p (.sl 6 l0)), (1, .p (.int .i64 (n1)))] 0 27, tl .none [] 0 27, []⟩
noncomputable def laws_szSelS_1 (l0 : List (List Pd)) (n1 : Int) (n2 : Int) : Option Res := pt E0 F_laws_szSelS [1, 1, 1, 0, 1, 0, 2] ⟨tl ud [(0, .p (.sl 6 l0)), (1, .p (.int .i64 (n1))), (5, .p (.int .i64 (n2)))] 0 27, tl .none [] 0 27, []⟩
theorem laws_szSelS_0_ev (l0 : List (List Pd)) (n1 : Int) : ev E0 F_laws_szSelS [.p (.sl 6 l0), .p (.int .i64 (n1))] [] = laws_szSelS_0 l0 n1 := (ev_eq _ _ _ _).trans (by kernel_rfl)
theorem laws_szSelS_0_eq (l0 : List (List Pd)) (n1 : Int) : laws_szSelS_0 l0 n1 =
    bif decide ((IntKind.i64.wrap (n1 - (l0.length : Int)) : Int) < 0) then (some ([.p (.int .i64 (-1))], [])) else (laws_szSelS_1 l0 (IntKind.i64.wrap (n1 - (l0.length : Int))) 0) := by kernel_rfl
theorem laws_szSelS_1_eq (l0 : List (List Pd)) (n1 : Int) (n2 : Int) : laws_szSelS_1 l0 n1 n2 =
    bif decide ((n2 : Int) < (l0.length : Int)) then (if 0 ≤ (n2 : Int) ∧ (n2 : Int) < (l0.length : Int) then ((ev E0 F_laws_szSel [.p (.agg 6 (l0.getD (n2 : Int).toNat [])), .p (.int .i64 (n1))] []).bind fun r104 => (asInt .i64 (pAt 0 r104.1)).bind fun n105 => if r104.1.length = 1 then (bif decide ((n105 : Int) < 0) then (some ([.p (.int .i64 (-1))], [])) else (laws_szSelS_1 l0 n105 (IntKind.i64.wrap (n2 + 1)))) else none) else none) else (some ([.p (.int .i64 (n1))], [])) := (pt_loop E0 F_laws_szSelS [1, 1, 1, 0, 1, 0] _ (by kernel_rfl)).trans (by kernel_rfl)

/-! spec.l02Sel -/
noncomputable def spec_l02Sel_0 (n0 : Int) (s1 : ByteArray) (s2 : ByteArray) (l3 : List (List Pd)) (l4 : List (List Pd)) (l5 : List (List Pd)) : Option Res := pt E0 F_spec_l02Sel [] ⟨tl ud [(0, .p (.agg 6 [.int .i64 (n0), .str s1, .str s2, .sl 4 l3, .sl 4 l4, .sl 6 l5]))] 0 126, tl .none [] 0 126, []⟩
noncomputable def spec_l02Sel_1 (n0 : Int) (n1 : Int) (s2 : ByteArray) (s3 : ByteArray) (l4 : List (List Pd)) (l5 : List (List Pd)) (l6 : List (List Pd)) : Option Res := pt E0 F_spec_l02Sel [1, 0, 1, 0, 2] ⟨tl ud [(1, .ptr (.loc 1) 0), (3, .p (.int .i64 (n0)))] 0 126, tl .none [(1, .box 6 [.int .i64 (n1), .str s2, .str s3, .sl 4 l4, .sl 4 l5, .sl 6 l6])] 0 126, []⟩
noncomputable def spec_l02Sel_2 (n0 : Int) (n1 : Int) (s2 : ByteArray) (s3 : ByteArray) (l4 : List (List Pd)) (l5 : List (List Pd)) (l6 : List (List Pd)) : Option Res := pt E0 F_spec_l02Sel [1, 1, 0, 1, 0, 2] ⟨tl ud [(1, .ptr (.loc 1) 0), (4, .p (.int .i64 (n0)))] 0 126, tl .none [(1, .box 6 [.int .i64 (n1), .str s2, .str s3, .sl 4 l4, .sl 4 l5, .sl 6 l6])] 0 126, []⟩
noncomputable def spec_l02Sel_3 (n0 : Int) (b1 : Bool) (n2 : Int) (s3 : ByteArray) (s4 : ByteArray) (l5 : List (List Pd)) (l6 : List (List Pd)) (l7 : List (List Pd)) : Option Res := pt E0 F_spec_l02Sel [1, 1, 0, 1, 0, 0, 1, 0, 0, 1] ⟨tl ud [(1, .ptr (.loc 1) 0), (4, .p (.int .i64 (n0))), (44, .p (.bool (b1)))] 0 126, tl .none [(1, .box 6 [.int .i64 (n2), .str s3, .str s4, .sl 4 l5, .sl 4 l6, .sl 6 l7])] 0 126, []⟩
noncomputable def spec_l02Sel_4 (b0 : Bool) (n1 : Int) (s2 : ByteArray) (s3 : ByteArray) (l4 : List (List Pd)) (l5 : List (List Pd)) (l6 : List (List Pd)) : Option Res := pt E0 F_spec_l02Sel [1, 1, 1, 0, 1] ⟨tl ud [(1, .ptr (.loc 1) 0), (54, .p (.bool (b0)))] 0 126, tl .none [(1, .box 6 [.int .i64 (n1), .str s2, .str s3, .sl 4 l4, .sl 4 l5, .sl 6 l6])] 0 126, []⟩
theorem spec_l02Sel_0_ev (n0 : Int) (s1 : ByteArray) (s2 : ByteArray) (l3 : List (List Pd)) (l4 : List (List Pd)) (l5 : List (List Pd)) : ev E0 F_spec_l02Sel [.p (.agg 6 [.int .i64 (n0), .str s1, .str s2, .sl 4 l3, .sl 4 l4, .sl 6 l5])] [] = spec_l02Sel_0 n0 s1 s2 l3 l4 l5 := (ev_eq _ _ _ _).trans (by kernel_rfl)
theorem spec_l02Sel_0_eq (n0 : Int) (s1 : ByteArray) (s2 : ByteArray) (l3 : List (List Pd)) (l4 : List (List Pd)) (l5 : List (List Pd)) : spec_l02Sel_0 n0 s1 s2 l3 l4 l5 =
    spec_l02Sel_1 0 n0 s1 s2 l3 l4 l5 := by kernel_rfl
theorem spec_l02Sel_1_eq (n0 : Int) (n1 : Int) (s2 : ByteArray) (s3 : ByteArray) (l4 : List (List Pd)) (l5 : List (List Pd)) (l6 : List (List Pd)) : spec_l02Sel_1 n0 n1 s2 s3 l4 l5 l6 =
    bif decide ((n0 : Int) < (l5.length : Int)) then (if 0 ≤ (n0 : Int) ∧ (n0 : Int) < (l5.length : Int) then ((ev E0 F_spec_ValueOK [.p (.agg 3 ((l5.getD (n0 : Int).toNat []).drop 1))] []).bind fun r108 => (asBool (pAt 0 r108.1)).bind fun b109 => if r108.1.length = 1 then (bif !(b109) then (some ([.p (.bool (false))], [])) else (spec_l02Sel_1 (IntKind.i64.wrap (n0 + 1)) n1 s2 s3 l4 l5 l6)) else none) else none) else (spec_l02Sel_2 0 n1 s2 s3 l4 l5 l6) := (pt_loop E0 F_spec_l02Sel [1, 0, 1, 0] _ (by kernel_rfl)).trans (by kernel_rfl)
theorem spec_l02Sel_2_eq (n0 : Int) (n1 : Int) (s2 : ByteArray) (s3 : ByteArray) (l4 : List (List Pd)) (l5 : List (List Pd)) (l6 : List (List Pd)) : spec_l02Sel_2 n0 n1 s2 s3 l4 l5 l6 =
    bif decide ((n0 : Int) < (l4.length : Int)) then (if 0 ≤ (n0 : Int) ∧ (n0 : Int) < (l4.length : Int) then ((asStr (((l4.getD (n0 : Int).toNat []).getD 0 .undef))).bind fun s108 => (ev E0 F_spec_NameOK [.p (.str s108)] []).bind fun r109 => (asBool (pAt 0 r109.1)).bind fun b110 => if r109.1.length = 1 then (bif !(b110) then (spec_l02Sel_3 n0 true n1 s2 s3 l4 l5 l6) else (if 0 ≤ (n0 : Int) ∧ (n0 : Int) < (l4.length : Int) then ((ev E0 F_spec_ValueOK [.p (.agg 3 ((l4.getD (n0 : Int).toNat []).drop 1))] []).bind fun r111 => (asBool (pAt 0 r111.1)).bind fun b112 => if r111.1.length = 1 then (spec_l02Sel_3 n0 (!(b112)) n1 s2 s3 l4 l5 l6) else none) else none)) else none) else none) else (bif decide (((l5.length : Int) : Int) > 4) then (spec_l02Sel_4 true n1 s2 s3 l4 l5 l6) else (spec_l02Sel_4 (decide (((l4.length : Int) : Int) > 4)) n1 s2 s3 l4 l5 l6)) := (pt_loop E0 F_spec_l02Sel [1, 1, 0, 1, 0] _ (by kernel_rfl)).trans (by kernel_rfl)
theorem spec_l02Sel_3_eq (n0 : Int) (b1 : Bool) (n2 : Int) (s3 : ByteArray) (s4 : ByteArray) (l5 : List (List Pd)) (l6 : List (List Pd)) (l7 : List (List Pd)) : spec_l02Sel_3 n0 b1 n2 s3 s4 l5 l6 l7 =
    bif b1 then (some ([.p (.bool (false))], [])) else (spec_l02Sel_2 (IntKind.i64.wrap (n0 + 1)) n2 s3 s4 l5 l6 l7) := by kernel_rfl
theorem spec_l02Sel_4_eq (b0 : Bool) (n1 : Int) (s2 : ByteArray) (s3 : ByteArray) (l4 : List (List Pd)) (l5 : List (List Pd)) (l6 : List (List Pd)) : spec_l02Sel_4 b0 n1 s2 s3 l4 l5 l6 =
    bif b0 then (some ([.p (.bool (false))], [])) else (bif (n1 : Int) == 1 then ((ev E0 F_spec_NameOK [.p (.str s3)] []).bind fun r108 => (asBool (pAt 0 r108.1)).bind fun b109 => if r108.1.length = 1 then (bif b109 then (bif decide (s2 = (⟨#[]⟩ : ByteArray)) then (some ([.p (.bool (true))], [])) else ((ev E0 F_spec_NameOK [.p (.str s2)] []).bind fun r110 => (asBool (pAt 0 r110.1)).bind fun b111 => if r110.1.length = 1 then (some ([.p (.bool (b111))], [])) else none)) else (some ([.p (.bool (false))], []))) else none) else (bif (n1 : Int) == 2 then ((ev E0 F_spec_NameOK [.p (.str s3)] []).bind fun r112 => (asBool (pAt 0 r112.1)).bind fun b113 => if r112.1.length = 1 then (bif b113 then (bif !decide (s3 = (⟨#[111, 110]⟩ : ByteArray)) then (bif decide (s2 = (⟨#[]⟩ : ByteArray)) then (bif ((l4.length : Int) : Int) == 0 then (some ([.p (.bool (((l6.length : Int) : Int) == 0))], [])) else (some ([.p (.bool (false))], []))) else (some ([.p (.bool (false))], []))) else (some ([.p (.bool (false))], []))) else (some ([.p (.bool (false))], []))) else none) else (bif (n1 : Int) == 3 then (bif decide (s3 = (⟨#[]⟩ : ByteArray)) then (bif decide (s2 = (⟨#[]⟩ : ByteArray)) then (bif ((l4.length : Int) : Int) == 0 then (some ([.p (.bool (decide (((l6.length : Int) : Int) > 0)))], [])) else (some ([.p (.bool (false))], []))) else (some ([.p (.bool (false))], []))) else ((ev E0 F_spec_NameOK [.p (.str s3)] []).bind fun r114 => (asBool (pAt 0 r114.1)).bind fun b115 => if r114.1.length = 1 then (bif b115 then (bif decide (s2 = (⟨#[]⟩ : ByteArray)) then (bif ((l4.length : Int) : Int) == 0 then (some ([.p (.bool (decide (((l6.length : Int) : Int) > 0)))], [])) else (some ([.p (.bool (false))], []))) else (some ([.p (.bool (false))], []))) else (some ([.p (.bool (false))], []))) else none)) else (some ([.p (.bool (false))], []))))) := by kernel_rfl

/-! spec.l00Word -/
noncomputable def spec_l00Word_0 (s0 : ByteArray) : Option Res := pt E0 F_spec_l00Word [] ⟨tl ud [(0, .p (.str s0))] 0 36, tl .none [] 0 36, []⟩
noncomputable def spec_l00Word_1 (s0 : ByteArray) (b1 : Bool) : Option Res := pt E0 F_spec_l00Word [1, 0, 1] ⟨tl ud [(0, .p (.str s0)), (17, .p (.bool (b1)))] 0 36, tl .none [] 0 36, []⟩
noncomputable def spec_l00Word_2 (s0 : ByteArray) (n1 : Int) : Option Res := pt E0 F_spec_l00Word [1, 1, 0, 1, 0, 2] ⟨tl ud [(0, .p (.str s0)), (3, .p (.int .i64 (n1)))] 0 36, tl .none [] 0 36, []⟩
noncomputable def spec_l00Word_3 (s0 : ByteArray) (n1 : Int) (b2 : Bool) : Option Res := pt E0 F_spec_l00Word [1, 1, 0, 1, 0, 0, 1, 0, 0, 1] ⟨tl ud [(0, .p (.str s0)), (3, .p (.int .i64 (n1))), (35, .p (.bool (b2)))] 0 36, tl .none [] 0 36, []⟩
theorem spec_l00Word_0_ev (s0 : ByteArray) : ev E0 F_spec_l00Word [.p (.str s0)] [] = spec_l00Word_0 s0 := (ev_eq _ _ _ _).trans (by kernel_rfl)
theorem spec_l00Word_0_eq (s0 : ByteArray) : spec_l00Word_0 s0 =
    bif decide (((s0.size : Int) : Int) < 1) then (spec_l00Word_1 s0 true) else (bif decide (((s0.size : Int) : Int) > 40) then (spec_l00Word_1 s0 true) else (if 0 ≤ (0 : Int) ∧ (0 : Int) < (s0.size : Int) then ((ev E0 F_spec_l00Letter [.p (.int .u8 (bt s0 (0 : Int).toNat))] []).bind fun r102 => (asBool (pAt 0 r102.1)).bind fun b103 => if r102.1.length = 1 then (spec_l00Word_1 s0 (!(b103))) else none) else none)) := by kernel_rfl
theorem spec_l00Word_1_eq (s0 : ByteArray) (b1 : Bool) : spec_l00Word_1 s0 b1 =
    bif b1 then (some ([.p (.bool (false))], [])) else (spec_l00Word_2 s0 1) := by kernel_rfl
theorem spec_l00Word_2_eq (s0 : ByteArray) (n1 : Int) : spec_l00Word_2 s0 n1 =
    bif decide ((n1 : Int) < (s0.size : Int)) then (if 0 ≤ (n1 : Int) ∧ (n1 : Int) < (s0.size : Int) then ((ev E0 F_spec_l00Letter [.p (.int .u8 (bt s0 (n1 : Int).toNat))] []).bind fun r103 => (asBool (pAt 0 r103.1)).bind fun b104 => if r103.1.length = 1 then (bif !(b104) then (if 0 ≤ (n1 : Int) ∧ (n1 : Int) < (s0.size : Int) then ((ev E0 F_spec_l00Digit [.p (.int .u8 (bt s0 (n1 : Int).toNat))] []).bind fun r105 => (asBool (pAt 0 r105.1)).bind fun b106 => if r105.1.length = 1 then (spec_l00Word_3 s0 n1 (!(b106))) else none) else none) else (spec_l00Word_3 s0 n1 false)) else none) else none) else (some ([.p (.bool (true))], [])) := (pt_loop E0 F_spec_l00Word [1, 1, 0, 1, 0] _ (by kernel_rfl)).trans (by kernel_rfl)
theorem spec_l00Word_3_eq (s0 : ByteArray) (n1 : Int) (b2 : Bool) : spec_l00Word_3 s0 n1 b2 =
    bif b2 then (some ([.p (.bool (false))], [])) else (spec_l00Word_2 s0 (IntKind.i64.wrap (n1 + 1))) := by kernel_rfl

/-! spec.IsInt -/
noncomputable def spec_IsInt_0 (n0 : Int) : Option Res := pt E0 F_spec_IsInt [] ⟨tl ud [(0, .p (.int .i64 (n0)))] 0 5, tl .none [] 0 5, []⟩
theorem spec_IsInt_0_ev (n0 : Int) : ev E0 F_spec_IsInt [.p (.int .i64 (n0))] [] = spec_IsInt_0 n0 := (ev_eq _ _ _ _).trans (by kernel_rfl)
theorem spec_IsInt_0_eq (n0 : Int) : spec_IsInt_0 n0 =
    (ev E0 F_spec_l01In [.p (.int .i64 (n0)), .p (.int .i64 (-2147483648)), .p (.int .i64 (2147483647))] []).bind fun r102 => (asBool (pAt 0 r102.1)).bind fun b103 => if r102.1.length = 1 then (some ([.p (.bool (b103))], [])) else none := by kernel_rfl

/-! spec.l02SelText -/
noncomputable def spec_l02SelText_0 (n0 : Int) (s1 : ByteArray) (s2 : ByteArray) (l3 : List (List Pd)) (l4 : List (List Pd)) (l5 : List (List Pd)) : Option Res := pt E0 F_spec_l02SelText [] ⟨tl ud [(0, .p (.agg 6 [.int .i64 (n0), .str s1, .str s2, .sl 4 l3, .sl 4 l4, .sl 6 l5]))] 0 112, tl .none [] 0 112, []⟩
noncomputable def spec_l02SelText_1 (s0 : ByteArray) (n1 : Int) (s2 : ByteArray) (s3 : ByteArray) (l4 : List (List Pd)) (l5 : List (List Pd)) (l6 : List (List Pd)) : Option Res := pt E0 F_spec_l02SelText [1, 1, 1] ⟨tl ud [(1, .ptr (.loc 1) 0), (3, .p (.str s0))] 0 112, tl .none [(1, .box 6 [.int .i64 (n1), .str s2, .str s3, .sl 4 l4, .sl 4 l5, .sl 6 l6])] 0 112, []⟩
noncomputable def spec_l02SelText_2 (s0 : ByteArray) (n1 : Int) (n2 : Int) (s3 : ByteArray) (s4 : ByteArray) (l5 : List (List Pd)) (l6 : List (List Pd)) (l7 : List (List Pd)) : Option Res := pt E0 F_spec_l02SelText [1, 1, 1, 0, 1, 0, 2] ⟨tl ud [(1, .ptr (.loc 1) 0), (3, .p (.str s0)), (4, .p (.int .i64 (n1)))] 0 112, tl .none [(1, .box 6 [.int .i64 (n2), .str s3, .str s4, .sl 4 l5, .sl 4 l6, .sl 6 l7])] 0 112, []⟩
noncomputable def spec_l02SelText_3 (s0 : ByteArray) (n1 : Int) (s2 : ByteArray) (s3 : ByteArray) (l4 : List (List Pd)) (l5 : List (List Pd)) (l6 : List (List Pd)) : Option Res := pt E0 F_spec_l02SelText [1, 1, 1, 1, 1] ⟨tl ud [(1, .ptr (.loc 1) 0), (3, .p (.str s0))] 0 112, tl .none [(1, .box 6 [.int .i64 (n1), .str s2, .str s3, .sl 4 l4, .sl 4 l5, .sl 6 l6])] 0 112, []⟩
noncomputable def spec_l02SelText_4 (s0 : ByteArray) (n1 : Int) (n2 : Int) (s3 : ByteArray) (s4 : ByteArray) (l5 : List (List Pd)) (l6 : List (List Pd)) (l7 : List (List Pd)) : Option Res := pt E0 F_spec_l02SelText [1, 1, 1, 1, 1, 0, 1, 0, 2] ⟨tl ud [(1, .ptr (.loc 1) 0), (3, .p (.str s0)), (5, .p (.int .i64 (n1)))] 0 112, tl .none [(1, .box 6 [.int .i64 (n2), .str s3, .str s4, .sl 4 l5, .sl 4 l6, .sl 6 l7])] 0 112, []⟩
noncomputable def spec_l02SelText_5 (s0 : ByteArray) : Option Res := pt E0 F_spec_l02SelText [1, 1, 1, 1, 1, 1, 1] ⟨tl ud [(3, .p (.str s0))] 0 112, tl .none [] 0 112, []⟩
theorem spec_l02SelText_0_ev (n0 : Int) (s1 : ByteArray) (s2 : ByteArray) (l3 : List (List Pd)) (l4 : List (List Pd)) (l5 : List (List Pd)) : ev E0 F_spec_l02SelText [.p (.agg 6 [.int .i64 (n0), .str s1, .str s2, .sl 4 l3, .sl 4 l4, .sl 6 l5])] [] = spec_l02SelText_0 n0 s1 s2 l3 l4 l5 := (ev_eq _ _ _ _).trans (by kernel_rfl)
theorem spec_l02SelText_0_eq (n0 : Int) (s1 : ByteArray) (s2 : ByteArray) (l3 : List (List Pd)) (l4 : List (List Pd)) (l5 : List (List Pd)) : spec_l02SelText_0 n0 s1 s2 l3 l4 l5 =
    bif (n0 : Int) == 1 then (bif !decide (s1 = (⟨#[]⟩ : ByteArray)) then (if s1.size + (⟨#[58, 32]⟩ : ByteArray).size ≤ LIM then (if (s1 ++ (⟨#[58, 32]⟩ : ByteArray)).size + s2.size ≤ LIM then (spec_l02SelText_1 ((s1 ++ (⟨#[58, 32]⟩ : ByteArray)) ++ s2) n0 s1 s2 l3 l4 l5) else none) else none) else (spec_l02SelText_1 s2 n0 s1 s2 l3 l4 l5)) else (bif (n0 : Int) == 2 then (if (⟨#[46, 46, 46, 32]⟩ : ByteArray).size + s2.size ≤ LIM then (spec_l02SelText_1 ((⟨#[46, 46, 46, 32]⟩ : ByteArray) ++ s2) n0 s1 s2 l3 l4 l5) else none) else (bif !decide (s2 = (⟨#[]⟩ : ByteArray)) then (if (⟨#[32, 111, 110, 32]⟩ : ByteArray).size + s2.size ≤ LIM then (if (⟨#[46, 46, 46]⟩ : ByteArray).size + ((⟨#[32, 111, 110, 32]⟩ : ByteArray) ++ s2).size ≤ LIM then (spec_l02SelText_1 ((⟨#[46, 46, 46]⟩ : ByteArray) ++ ((⟨#[32, 111, 110, 32]⟩ : ByteArray) ++ s2)) n0 s1 s2 l3 l4 l5) else none) else none) else (spec_l02SelText_1 (⟨#[46, 46, 46]⟩ : ByteArray) n0 s1 s2 l3 l4 l5))) := by kernel_rfl
theorem spec_l02SelText_1_eq (s0 : ByteArray) (n1 : Int) (s2 : ByteArray) (s3 : ByteArray) (l4 : List (List Pd)) (l5 : List (List Pd)) (l6 : List (List Pd)) : spec_l02SelText_1 s0 n1 s2 s3 l4 l5 l6 =
    spec_l02SelText_2 s0 0 n1 s2 s3 l4 l5 l6 := by kernel_rfl
theorem spec_l02SelText_2_eq (s0 : ByteArray) (n1 : Int) (n2 : Int) (s3 : ByteArray) (s4 : ByteArray) (l5 : List (List Pd)) (l6 : List (List Pd)) (l7 : List (List Pd)) : spec_l02SelText_2 s0 n1 n2 s3 s4 l5 l6 l7 =
    bif decide ((n1 : Int) < (l5.length : Int)) then ((ev E0 F_spec_l01Bit [.p (.bool (decide ((n1 : Int) > 0)))] []).bind fun r109 => (asInt .i64 (pAt 0 r109.1)).bind fun n110 => if r109.1.length = 1 then (if 0 ≤ (n110 : Int) ∧ (n110 : Int) < ((([[.str (⟨#[40]⟩ : ByteArray)], [.str (⟨#[32]⟩ : ByteArray)]] : List (List Pd))).length : Int) then (if 1 = 1 ∧ ((n110 : Int).toNat) < (([[.str (⟨#[40]⟩ : ByteArray)], [.str (⟨#[32]⟩ : ByteArray)]] : List (List Pd))).length ∧ 0 + 1 ≤ 1 then ((asStr (((((([[.str (⟨#[40]⟩ : ByteArray)], [.str (⟨#[32]⟩ : ByteArray)]] : List (List Pd))).getD ((n110 : Int).toNat) [])).getD 0 .undef))).bind fun s111 => if 0 ≤ (n1 : Int) ∧ (n1 : Int) < (l5.length : Int) then ((asStr (((l5.getD (n1 : Int).toNat []).getD 0 .undef))).bind fun s112 => if s111.size + s112.size ≤ LIM then (if (s111 ++ s112).size + (⟨#[58, 32]⟩ : ByteArray).size ≤ LIM then (if 0 ≤ (n1 : Int) ∧ (n1 : Int) < (l5.length : Int) then ((ev E0 F_spec_l02Value [.p (.agg 3 ((l5.getD (n1 : Int).toNat []).drop 1))] []).bind fun r113 => (asStr (pAt 0 r113.1)).bind fun s114 => if r113.1.length = 1 then (if ((s111 ++ s112) ++ (⟨#[58, 32]⟩ : ByteArray)).size + s114.size ≤ LIM then (if s0.size + (((s111 ++ s112) ++ (⟨#[58, 32]⟩ : ByteArray)) ++ s114).size ≤ LIM then (spec_l02SelText_2 (s0 ++ (((s111 ++ s112) ++ (⟨#[58, 32]⟩ : ByteArray)) ++ s114)) (IntKind.i64.wrap (n1 + 1)) n2 s3 s4 l5 l6 l7) else none) else none) else none) else none) else none) else none) else none) else none) else none) else none) else (bif decide (((l5.length : Int) : Int) > 0) then (if s0.size + (⟨#[41]⟩ : ByteArray).size ≤ LIM then (spec_l02SelText_3 (s0 ++ (⟨#[41]⟩ : ByteArray)) n2 s3 s4 l5 l6 l7) else none) else (spec_l02SelText_3 s0 n2 s3 s4 l5 l6 l7)) := (pt_loop E0 F_spec_l02SelText [1, 1, 1, 0, 1, 0] _ (by kernel_rfl)).trans (by kernel_rfl)
theorem spec_l02SelText_3_eq (s0 : ByteArray) (n1 : Int) (s2 : ByteArray) (s3 : ByteArray) (l4 : List (List Pd)) (l5 : List (List Pd)) (l6 : List (List Pd)) : spec_l02SelText_3 s0 n1 s2 s3 l4 l5 l6 =
    spec_l02SelText_4 s0 0 n1 s2 s3 l4 l5 l6 := by kernel_rfl
theorem spec_l02SelText_4_eq (s0 : ByteArray) (n1 : Int) (n2 : Int) (s3 : ByteArray) (s4 : ByteArray) (l5 : List (List Pd)) (l6 : List (List Pd)) (l7 : List (List Pd)) : spec_l02SelText_4 s0 n1 n2 s3 s4 l5 l6 l7 =
    bif decide ((n1 : Int) < (l6.length : Int)) then (if 0 ≤ (n1 : Int) ∧ (n1 : Int) < (l6.length : Int) then ((asBool (((l6.getD (n1 : Int).toNat []).getD 0 .undef))).bind fun b109 => (ev E0 F_spec_l01Bit [.p (.bool (b109))] []).bind fun r110 => (asInt .i64 (pAt 0 r110.1)).bind fun n111 => if r110.1.length = 1 then (if 0 ≤ (n111 : Int) ∧ (n111 : Int) < ((([[.str (⟨#[105, 110, 99, 108, 117, 100, 101]⟩ : ByteArray)], [.str (⟨#[115, 107, 105, 112]⟩ : ByteArray)]] : List (List Pd))).length : Int) then (if 1 = 1 ∧ ((n111 : Int).toNat) < (([[.str (⟨#[105, 110, 99, 108, 117, 100, 101]⟩ : ByteArray)], [.str (⟨#[115, 107, 105, 112]⟩ : ByteArray)]] : List (List Pd))).length ∧ 0 + 1 ≤ 1 then ((asStr (((((([[.str (⟨#[105, 110, 99, 108, 117, 100, 101]⟩ : ByteArray)], [.str (⟨#[115, 107, 105, 112]⟩ : ByteArray)]] : List (List Pd))).getD ((n111 : Int).toNat) [])).getD 0 .undef))).bind fun s112 => if (⟨#[32, 64]⟩ : ByteArray).size + s112.size ≤ LIM then (if ((⟨#[32, 64]⟩ : ByteArray) ++ s112).size + (⟨#[40, 105, 102, 58, 32]⟩ : ByteArray).size ≤ LIM then (if 0 ≤ (n1 : Int) ∧ (n1 : Int) < (l6.length : Int) then ((ev E0 F_spec_l02Value [.p (.agg 3 ((l6.getD (n1 : Int).toNat []).drop 1))] []).bind fun r113 => (asStr (pAt 0 r113.1)).bind fun s114 => if r113.1.length = 1 then (if (((⟨#[32, 64]⟩ : ByteArray) ++ s112) ++ (⟨#[40, 105, 102, 58, 32]⟩ : ByteArray)).size + s114.size ≤ LIM then (if ((((⟨#[32, 64]⟩ : ByteArray) ++ s112) ++ (⟨#[40, 105, 102, 58, 32]⟩ : ByteArray)) ++ s114).size + (⟨#[41]⟩ : ByteArray).size ≤ LIM then (if s0.size + (((((⟨#[32, 64]⟩ : ByteArray) ++ s112) ++ (⟨#[40, 105, 102, 58, 32]⟩ : ByteArray)) ++ s114) ++ (⟨#[41]⟩ : ByteArray)).size ≤ LIM then (spec_l02SelText_4 (s0 ++ (((((⟨#[32, 64]⟩ : ByteArray) ++ s112) ++ (⟨#[40, 105, 102, 58, 32]⟩ : ByteArray)) ++ s114) ++ (⟨#[41]⟩ : ByteArray))) (IntKind.i64.wrap (n1 + 1)) n2 s3 s4 l5 l6 l7) else none) else none) else none) else none) else none) else none) else none) else none) else none) else none) else none) else (bif decide (((l7.length : Int) : Int) > 0) then ((ev E0 F_spec_l02Text [.p (.sl 6 l7)] []).bind fun r115 => (asStr (pAt 0 r115.1)).bind fun s116 => if r115.1.length = 1 then (if (⟨#[32]⟩ : ByteArray).size + s116.size ≤ LIM then (if s0.size + ((⟨#[32]⟩ : ByteArray) ++ s116).size ≤ LIM then (spec_l02SelText_5 (s0 ++ ((⟨#[32]⟩ : ByteArray) ++ s116))) else none) else none) else none) else (spec_l02SelText_5 s0)) := (pt_loop E0 F_spec_l02SelText [1, 1, 1, 1, 1, 0, 1, 0] _ (by kernel_rfl)).trans (by kernel_rfl)
theorem spec_l02SelText_5_eq (s0 : ByteArray) : spec_l02SelText_5 s0 =
    some ([.p (.str s0)], []) := by kernel_rfl

/-! laws.toSelS -/
noncomputable def laws_toSelS_0 (l0 : List (List Pd)) : Option Res := pt E0 F_laws_toSelS [] ⟨tl ud [(0, .p (.sl 6 l0))] 0 23, tl .none [] 0 23, []⟩
noncomputable def laws_toSelS_1 (l0 : List (List Pd)) (n1 : Int) (e2 : List (List Pd)) : Option Res := pt E0 F_laws_toSelS [1, 1, 0, 1, 0, 2] ⟨tl ud [(0, .p (.sl 6 l0)), (3, .arr (.loc 7)), (4, .p (.int .i64 (n1)))] 0 23, tl .none [(7, .arr 93 6 112 false e2)] 0 23, []⟩
theorem laws_toSelS_0_ev (l0 : List (List Pd)) : ev E0 F_laws_toSelS [.p (.sl 6 l0)] [] = laws_toSelS_0 l0 := (ev_eq _ _ _ _).trans (by kernel_rfl)
theorem laws_toSelS_0_eq (l0 : List (List Pd)) : laws_toSelS_0 l0 =
    if 0 ≤ ((l0.length : Int) : Int) ∧ ((l0.length : Int) : Int) ≤ (l0.length : Int) ∧ ((l0.length : Int) : Int).toNat * 112 ≤ LIM ∧ 112 ≠ 0 then (laws_toSelS_1 l0 0 (List.replicate ((l0.length : Int) : Int).toNat [.int .i64 (0), .str (⟨#[]⟩ : ByteArray), .str (⟨#[]⟩ : ByteArray), .sl 4 (([] : List (List Pd))), .sl 4 (([] : List (List Pd))), .sl 6 (([] : List (List Pd)))])) else none := by kernel_rfl
theorem laws_toSelS_1_eq (l0 : List (List Pd)) (n1 : Int) (e2 : List (List Pd)) : laws_toSelS_1 l0 n1 e2 =
    bif decide ((n1 : Int) < (l0.length : Int)) then (if 0 ≤ (n1 : Int) ∧ (n1 : Int) < (l0.length : Int) then ((ev E0 F_laws_toSel [.p (.agg 6 (l0.getD (n1 : Int).toNat []))] []).bind fun r104 => (asAgg 6 (pAt 0 r104.1)).bind fun c105 => if r104.1.length = 1 then (if 0 ≤ (n1 : Int) ∧ (n1 : Int) < (e2.length : Int) then (if 6 = 6 ∧ ((n1 : Int).toNat) < e2.length then (if 0 + 6 ≤ 6 then (laws_toSelS_1 l0 (IntKind.i64.wrap (n1 + 1)) (setEl e2 ((n1 : Int).toNat) 6 0 6 (.agg 6 c105))) else none) else none) else none) else none) else none) else (some ([.p (.sl 6 e2)], [])) := (pt_loop E0 F_laws_toSelS [1, 1, 0, 1, 0] _ (by kernel_rfl)).trans (by kernel_rfl)

/-! impl.isNameOrNone -/
noncomputable def impl_isNameOrNone_0 (s0 : ByteArray) : Option Res := pt E0 F_impl_isNameOrNone [] ⟨tl ud [(0, .p (.str s0))] 0 9, tl .none [] 0 9, []⟩
theorem impl_isNameOrNone_0_ev (s0 : ByteArray) : ev E0 F_impl_isNameOrNone [.p (.str s0)] [] = impl_isNameOrNone_0 s0 := (ev_eq _ _ _ _).trans (by kernel_rfl)
theorem impl_isNameOrNone_0_eq (s0 : ByteArray) : impl_isNameOrNone_0 s0 =
    bif decide (s0 = (⟨#[]⟩ : ByteArray)) then (some ([.p (.bool (true))], [])) else ((ev E0 F_impl_NameOK [.p (.str s0)] []).bind fun r102 => (asBool (pAt 0 r102.1)).bind fun b103 => if r102.1.length = 1 then (some ([.p (.bool (b103))], [])) else none) := by kernel_rfl

/-! (impl.Sel).isRight -/
noncomputable def impl_Sel_isRight_0 (n0 : Int) (s1 : ByteArray) (s2 : ByteArray) (l3 : List (List Pd)) (l4 : List (List Pd)) (l5 : List (List Pd)) : Option Res := pt E0 F_impl_Sel_isRight [] ⟨tl ud [(0, .p (.agg 6 [.int .i64 (n0), .str s1, .str s2, .sl 4 l3, .sl 4 l4, .sl 6 l5]))] 0 80, tl .none [] 0 80, []⟩
noncomputable def impl_Sel_isRight_1 (b0 : Bool) (n1 : Int) (s2 : ByteArray) (s3 : ByteArray) (l4 : List (List Pd)) (l5 : List (List Pd)) (l6 : List (List Pd)) : Option Res := pt E0 F_impl_Sel_isRight [1, 0, 1] ⟨tl ud [(1, .ptr (.loc 1) 0), (30, .p (.bool (b0)))] 0 80, tl .none [(1, .box 6 [.int .i64 (n1), .str s2, .str s3, .sl 4 l4, .sl 4 l5, .sl 6 l6])] 0 80, []⟩
noncomputable def impl_Sel_isRight_2 (b0 : Bool) (n1 : Int) (s2 : ByteArray) (s3 : ByteArray) (l4 : List (List Pd)) (l5 : List (List Pd)) (l6 : List (List Pd)) : Option Res := pt E0 F_impl_Sel_isRight [1, 1, 1, 1, 0, 1] ⟨tl ud [(1, .ptr (.loc 1) 0), (40, .p (.bool (b0)))] 0 80, tl .none [(1, .box 6 [.int .i64 (n1), .str s2, .str s3, .sl 4 l4, .sl 4 l5, .sl 6 l6])] 0 80, []⟩
theorem impl_Sel_isRight_0_ev (n0 : Int) (s1 : ByteArray) (s2 : ByteArray) (l3 : List (List Pd)) (l4 : List (List Pd)) (l5 : List (List Pd)) : ev E0 F_impl_Sel_isRight [.p (.agg 6 [.int .i64 (n0), .str s1, .str s2, .sl 4 l3, .sl 4 l4, .sl 6 l5])] [] = impl_Sel_isRight_0 n0 s1 s2 l3 l4 l5 := (ev_eq _ _ _ _).trans (by kernel_rfl)
theorem impl_Sel_isRight_0_eq (n0 : Int) (s1 : ByteArray) (s2 : ByteArray) (l3 : List (List Pd)) (l4 : List (List Pd)) (l5 : List (List Pd)) : impl_Sel_isRight_0 n0 s1 s2 l3 l4 l5 =
    bif decide (((l3.length : Int) : Int) > 4) then (impl_Sel_isRight_1 true n0 s1 s2 l3 l4 l5) else (bif decide (((l4.length : Int) : Int) > 4) then (impl_Sel_isRight_1 true n0 s1 s2 l3 l4 l5) else (bif (n0 : Int) != 1 then (bif !decide (s1 = (⟨#[]⟩ : ByteArray)) then (impl_Sel_isRight_1 true n0 s1 s2 l3 l4 l5) else (impl_Sel_isRight_1 (decide (((l3.length : Int) : Int) > 0)) n0 s1 s2 l3 l4 l5)) else (impl_Sel_isRight_1 false n0 s1 s2 l3 l4 l5))) := by kernel_rfl
theorem impl_Sel_isRight_1_eq (b0 : Bool) (n1 : Int) (s2 : ByteArray) (s3 : ByteArray) (l4 : List (List Pd)) (l5 : List (List Pd)) (l6 : List (List Pd)) : impl_Sel_isRight_1 b0 n1 s2 s3 l4 l5 l6 =
    bif b0 then (some ([.p (.bool (false))], [])) else ((ev E0 F_slices_ContainsFunc_impl_Arg_impl_Arg [.p (.sl 4 l4), .p (.fn F_impl_Sel_isRight_1)] []).bind fun r108 => (asBool (pAt 0 r108.1)).bind fun b109 => if r108.1.length = 1 then (bif b109 then (impl_Sel_isRight_2 true n1 s2 s3 l4 l5 l6) else ((ev E0 F_slices_ContainsFunc_impl_Dir_impl_Dir [.p (.sl 4 l5), .p (.fn F_impl_Sel_isRight_2)] []).bind fun r110 => (asBool (pAt 0 r110.1)).bind fun b111 => if r110.1.length = 1 then (impl_Sel_isRight_2 b111 n1 s2 s3 l4 l5 l6) else none)) else none) := by kernel_rfl
theorem impl_Sel_isRight_2_eq (b0 : Bool) (n1 : Int) (s2 : ByteArray) (s3 : ByteArray) (l4 : List (List Pd)) (l5 : List (List Pd)) (l6 : List (List Pd)) : impl_Sel_isRight_2 b0 n1 s2 s3 l4 l5 l6 =
    bif b0 then (some ([.p (.bool (false))], [])) else (bif (n1 : Int) == 1 then ((ev E0 F_impl_NameOK [.p (.str s3)] []).bind fun r108 => (asBool (pAt 0 r108.1)).bind fun b109 => if r108.1.length = 1 then (bif b109 then ((ev E0 F_impl_isNameOrNone [.p (.str s2)] []).bind fun r110 => (asBool (pAt 0 r110.1)).bind fun b111 => if r110.1.length = 1 then (some ([.p (.bool (b111))], [])) else none) else (some ([.p (.bool (false))], []))) else none) else (bif (n1 : Int) == 2 then ((ev E0 F_impl_NameOK [.p (.str s3)] []).bind fun r112 => (asBool (pAt 0 r112.1)).bind fun b113 => if r112.1.length = 1 then (bif b113 then (bif !decide (s3 = (⟨#[111, 110]⟩ : ByteArray)) then (some ([.p (.bool (((l6.length : Int) : Int) == 0))], [])) else (some ([.p (.bool (false))], []))) else (some ([.p (.bool (false))], []))) else none) else (bif (n1 : Int) == 3 then ((ev E0 F_impl_isNameOrNone [.p (.str s3)] []).bind fun r114 => (asBool (pAt 0 r114.1)).bind fun b115 => if r114.1.length = 1 then (bif b115 then (some ([.p (.bool (decide (((l6.length : Int) : Int) > 0)))], [])) else (some ([.p (.bool (false))], []))) else none) else (some ([.p (.bool (false))], []))))) := by kernel_rfl

/-! slices.IndexFunc[[]impl.Binding,impl.Binding] -/
noncomputable def slices_IndexFunc_impl_Binding_impl_Binding_0 (l0 : List (List Pd)) (c1 : List Pd) : Option Res := pt E0 F_slices_IndexFunc_impl_Binding_impl_Binding [] ⟨tl ud [(0, .p (.sl 4 l0)), (1, .fn F_impl_BindingsOK_1 [.ptr (.out 0) 0])] 0 19, tl .none [] 0 19, [.box 4 c1]⟩
noncomputable def slices_IndexFunc_impl_Binding_impl_Binding_1 (l0 : List (List Pd)) (n1 : Int) (n2 : Int) (c3 : List Pd) : Option Res := pt E0 F_slices_IndexFunc_impl_Binding_impl_Binding [1, 0, 1, 0, 2] ⟨tl ud [(0, .p (.sl 4 l0)), (1, .fn F_impl_BindingsOK_1 [.ptr (.out 0) 0]), (7, .p (.int .i64 (n1))), (8, .p (.int .i64 (n2)))] 0 19, tl .none [] 0 19, [.box 4 c3]⟩
theorem slices_IndexFunc_impl_Binding_impl_Binding_0_ev (l0 : List (List Pd)) (c1 : List Pd) : ev E0 F_slices_IndexFunc_impl_Binding_impl_Binding [.p (.sl 4 l0), .fn F_impl_BindingsOK_1 [.ptr (.out 0) 0]] [.box 4 c1] = slices_IndexFunc_impl_Binding_impl_Binding_0 l0 c1 := (ev_eq _ _ _ _).trans (by kernel_rfl)
theorem slices_IndexFunc_impl_Binding_impl_Binding_0_eq (l0 : List (List Pd)) (c1 : List Pd) : slices_IndexFunc_impl_Binding_impl_Binding_0 l0 c1 =
    slices_IndexFunc_impl_Binding_impl_Binding_1 l0 (l0.length : Int) 0 c1 := by kernel_rfl
theorem slices_IndexFunc_impl_Binding_impl_Binding_1_eq (l0 : List (List Pd)) (n1 : Int) (n2 : Int) (c3 : List Pd) : slices_IndexFunc_impl_Binding_impl_Binding_1 l0 n1 n2 c3 =
    bif decide ((n2 : Int) < n1) then (if 0 ≤ (n2 : Int) ∧ (n2 : Int) < (l0.length : Int) then ((ev E0 F_impl_BindingsOK_1 [.p (.agg 4 (l0.getD (n2 : Int).toNat [])), .ptr (.out 0) 0] [.box 4 c3]).bind fun r105 => (asBool (pAt 0 r105.1)).bind fun b106 => if r105.1.length = 1 then ((asBox 4 (r105.2.getD 0 .none)).bind fun c107 => if r105.2.length = 1 then (bif b106 then (some ([.p (.int .i64 (n2))], [.box 4 c107])) else (slices_IndexFunc_impl_Binding_impl_Binding_1 l0 n1 (IntKind.i64.wrap (n2 + 1)) c107)) else none) else none) else none) else (some ([.p (.int .i64 (-1))], [.box 4 c3])) := (pt_loop E0 F_slices_IndexFunc_impl_Binding_impl_Binding [1, 0, 1, 0] _ (by kernel_rfl)).trans (by kernel_rfl)

/-! impl.isLetter -/
noncomputable def impl_isLetter_0 (n0 : Int) : Option Res := pt E0 F_impl_isLetter [] ⟨tl ud [(0, .p (.int .u8 (n0)))] 0 21, tl .none [] 0 21, []⟩
theorem impl_isLetter_0_ev (n0 : Int) : ev E0 F_impl_isLetter [.p (.int .u8 (n0))] [] = impl_isLetter_0 n0 := (ev_eq _ _ _ _).trans (by kernel_rfl)
theorem impl_isLetter_0_eq (n0 : Int) : impl_isLetter_0 n0 =
    bif decide ((n0 : Int) ≥ 97) then (bif decide ((n0 : Int) ≤ 122) then (some ([.p (.bool (true))], [])) else (bif decide ((n0 : Int) ≥ 65) then (bif decide ((n0 : Int) ≤ 90) then (some ([.p (.bool (true))], [])) else (some ([.p (.bool ((n0 : Int) == 95))], []))) else (some ([.p (.bool ((n0 : Int) == 95))], [])))) else (bif decide ((n0 : Int) ≥ 65) then (bif decide ((n0 : Int) ≤ 90) then (some ([.p (.bool (true))], [])) else (some ([.p (.bool ((n0 : Int) == 95))], []))) else (some ([.p (.bool ((n0 : Int) == 95))], []))) := by kernel_rfl

/-! impl.isDigit -/
noncomputable def impl_isDigit_0 (n0 : Int) : Option Res := pt E0 F_impl_isDigit [] ⟨tl ud [(0, .p (.int .u8 (n0)))] 0 9, tl .none [] 0 9, []⟩
theorem impl_isDigit_0_ev (n0 : Int) : ev E0 F_impl_isDigit [.p (.int .u8 (n0))] [] = impl_isDigit_0 n0 := (ev_eq _ _ _ _).trans (by kernel_rfl)
theorem impl_isDigit_0_eq (n0 : Int) : impl_isDigit_0 n0 =
    bif decide ((n0 : Int) ≥ 48) then (some ([.p (.bool (decide ((n0 : Int) ≤ 57)))], [])) else (some ([.p (.bool (false))], [])) := by kernel_rfl

/-! impl.IsInt -/
noncomputable def impl_IsInt_0 (n0 : Int) : Option Res := pt E0 F_impl_IsInt [] ⟨tl ud [(0, .p (.int .i64 (n0)))] 0 5, tl .none [] 0 5, []⟩
theorem impl_IsInt_0_ev (n0 : Int) : ev E0 F_impl_IsInt [.p (.int .i64 (n0))] [] = impl_IsInt_0 n0 := (ev_eq _ _ _ _).trans (by kernel_rfl)
theorem impl_IsInt_0_eq (n0 : Int) : impl_IsInt_0 n0 =
    (ev E0 F_impl_within [.p (.int .i64 (n0)), .p (.int .i64 (-2147483648)), .p (.int .i64 (2147483647))] []).bind fun r102 => (asBool (pAt 0 r102.1)).bind fun b103 => if r102.1.length = 1 then (some ([.p (.bool (b103))], [])) else none := by kernel_rfl

/-! laws.eqSelS -/
noncomputable def laws_eqSelS_0 (l0 : List (List Pd)) (l1 : List (List Pd)) : Option Res := pt E0 F_laws_eqSelS [] ⟨tl ud [(0, .p (.sl 6 l0)), (1, .p (.sl 6 l1))] 0 27, tl .none [] 0 27, []⟩
noncomputable def laws_eqSelS_1 (l0 : List (List Pd)) (l1 : List (List Pd)) (n2 : Int) : Option Res := pt E0 F_laws_eqSelS [1, 1, 0, 1, 0, 2] ⟨tl ud [(0, .p (.sl 6 l0)), (1, .p (.sl 6 l1)), (5, .p (.int .i64 (n2)))] 0 27, tl .none [] 0 27, []⟩
theorem laws_eqSelS_0_ev (l0 : List (List Pd)) (l1 : List (List Pd)) : ev E0 F_laws_eqSelS [.p (.sl 6 l0), .p (.sl 6 l1)] [] = laws_eqSelS_0 l0 l1 := (ev_eq _ _ _ _).trans (by kernel_rfl)
theorem laws_eqSelS_0_eq (l0 : List (List Pd)) (l1 : List (List Pd)) : laws_eqSelS_0 l0 l1 =
    bif ((l0.length : Int) : Int) != (l1.length : Int) then (some ([.p (.bool (false))], [])) else (laws_eqSelS_1 l0 l1 0) := by kernel_rfl
theorem laws_eqSelS_1_eq (l0 : List (List Pd)) (l1 : List (List Pd)) (n2 : Int) : laws_eqSelS_1 l0 l1 n2 =
    bif decide ((n2 : Int) < (l0.length : Int)) then (if 0 ≤ (n2 : Int) ∧ (n2 : Int) < (l0.length : Int) then (if 0 ≤ (n2 : Int) ∧ (n2 : Int) < (l1.length : Int) then ((ev E0 F_laws_eqSel [.p (.agg 6 (l0.getD (n2 : Int).toNat [])), .p (.agg 6 (l1.getD (n2 : Int).toNat []))] []).bind fun r104 => (asBool (pAt 0 r104.1)).bind fun b105 => if r104.1.length = 1 then (bif !(b105) then (some ([.p (.bool (false))], [])) else (laws_eqSelS_1 l0 l1 (IntKind.i64.wrap (n2 + 1)))) else none) else none) else none) else (some ([.p (.bool (true))], [])) := (pt_loop E0 F_laws_eqSelS [1, 1, 0, 1, 0] _ (by kernel_rfl)).trans (by kernel_rfl)

/-! laws.szSel -/
noncomputable def laws_szSel_0 (n0 : Int) (s1 : ByteArray) (s2 : ByteArray) (l3 : List (List Pd)) (l4 : List (List Pd)) (l5 : List (List Pd)) (n6 : Int) : Option Res := pt E0 F_laws_szSel [] ⟨tl ud [(0, .p (.agg 6 [.int .i64 (n0), .str s1, .str s2, .sl 4 l3, .sl 4 l4, .sl 6 l5])), (1, .p (.int .i64 (n6)))] 0 38, tl .none [] 0 38, []⟩
theorem laws_szSel_0_ev (n0 : Int) (s1 : ByteArray) (s2 : ByteArray) (l3 : List (List Pd)) (l4 : List (List Pd)) (l5 : List (List Pd)) (n6 : Int) : ev E0 F_laws_szSel [.p (.agg 6 [.int .i64 (n0), .str s1, .str s2, .sl 4 l3, .sl 4 l4, .sl 6 l5]), .p (.int .i64 (n6))] [] = laws_szSel_0 n0 s1 s2 l3 l4 l5 n6 := (ev_eq _ _ _ _).trans (by kernel_rfl)
theorem laws_szSel_0_eq (n0 : Int) (s1 : ByteArray) (s2 : ByteArray) (l3 : List (List Pd)) (l4 : List (List Pd)) (l5 : List (List Pd)) (n6 : Int) : laws_szSel_0 n0 s1 s2 l3 l4 l5 n6 =
    bif decide ((IntKind.i64.wrap (n6 - (s1.size : Int)) : Int) < 0) then (some ([.p (.int .i64 (-1))], [])) else (bif decide ((IntKind.i64.wrap ((IntKind.i64.wrap (n6 - (s1.size : Int))) - (s2.size : Int)) : Int) < 0) then (some ([.p (.int .i64 (-1))], [])) else ((ev E0 F_laws_szArgS [.p (.sl 4 l3), .p (.int .i64 (IntKind.i64.wrap ((IntKind.i64.wrap (n6 - (s1.size : Int))) - (s2.size : Int))))] []).bind fun r108 => (asInt .i64 (pAt 0 r108.1)).bind fun n109 => if r108.1.length = 1 then (bif decide ((n109 : Int) < 0) then (some ([.p (.int .i64 (-1))], [])) else ((ev E0 F_laws_szDirS [.p (.sl 4 l4), .p (.int .i64 (n109))] []).bind fun r110 => (asInt .i64 (pAt 0 r110.1)).bind fun n111 => if r110.1.length = 1 then (bif decide ((n111 : Int) < 0) then (some ([.p (.int .i64 (-1))], [])) else ((ev E0 F_laws_szSelS [.p (.sl 6 l5), .p (.int .i64 (n111))] []).bind fun r112 => (asInt .i64 (pAt 0 r112.1)).bind fun n113 => if r112.1.length = 1 then (bif decide ((n113 : Int) < 0) then (some ([.p (.int .i64 (-1))], [])) else (some ([.p (.int .i64 (n113))], []))) else none)) else none)) else none)) := by kernel_rfl

/-! spec.l00Letter -/
noncomputable def spec_l00Letter_0 (n0 : Int) : Option Res := pt E0 F_spec_l00Letter [] ⟨tl ud [(0, .p (.int .u8 (n0)))] 0 21, tl .none [] 0 21, []⟩
theorem spec_l00Letter_0_ev (n0 : Int) : ev E0 F_spec_l00Letter [.p (.int .u8 (n0))] [] = spec_l00Letter_0 n0 := (ev_eq _ _ _ _).trans (by kernel_rfl)
theorem spec_l00Letter_0_eq (n0 : Int) : spec_l00Letter_0 n0 =
    bif decide ((n0 : Int) ≥ 97) then (bif decide ((n0 : Int) ≤ 122) then (some ([.p (.bool (true))], [])) else (bif decide ((n0 : Int) ≥ 65) then (bif decide ((n0 : Int) ≤ 90) then (some ([.p (.bool (true))], [])) else (some ([.p (.bool ((n0 : Int) == 95))], []))) else (some ([.p (.bool ((n0 : Int) == 95))], [])))) else (bif decide ((n0 : Int) ≥ 65) then (bif decide ((n0 : Int) ≤ 90) then (some ([.p (.bool (true))], [])) else (some ([.p (.bool ((n0 : Int) == 95))], []))) else (some ([.p (.bool ((n0 : Int) == 95))], []))) := by kernel_rfl

/-! spec.l00Digit -/
noncomputable def spec_l00Digit_0 (n0 : Int) : Option Res := pt E0 F_spec_l00Digit [] ⟨tl ud [(0, .p (.int .u8 (n0)))] 0 9, tl .none [] 0 9, []⟩
theorem spec_l00Digit_0_ev (n0 : Int) : ev E0 F_spec_l00Digit [.p (.int .u8 (n0))] [] = spec_l00Digit_0 n0 := (ev_eq _ _ _ _).trans (by kernel_rfl)
theorem spec_l00Digit_0_eq (n0 : Int) : spec_l00Digit_0 n0 =
    bif decide ((n0 : Int) ≥ 48) then (some ([.p (.bool (decide ((n0 : Int) ≤ 57)))], [])) else (some ([.p (.bool (false))], [])) := by kernel_rfl

/-! spec.l01Bit -/
noncomputable def spec_l01Bit_0 (b0 : Bool) : Option Res := pt E0 F_spec_l01Bit [] ⟨tl ud [(0, .p (.bool (b0)))] 0 4, tl .none [] 0 4, []⟩
theorem spec_l01Bit_0_ev (b0 : Bool) : ev E0 F_spec_l01Bit [.p (.bool (b0))] [] = spec_l01Bit_0 b0 := (ev_eq _ _ _ _).trans (by kernel_rfl)
theorem spec_l01Bit_0_eq (b0 : Bool) : spec_l01Bit_0 b0 =
    bif b0 then (some ([.p (.int .i64 (1))], [])) else (some ([.p (.int .i64 (0))], [])) := by kernel_rfl

/-! laws.toSel -/
noncomputable def laws_toSel_0 (n0 : Int) (s1 : ByteArray) (s2 : ByteArray) (l3 : List (List Pd)) (l4 : List (List Pd)) (l5 : List (List Pd)) : Option Res := pt E0 F_laws_toSel [] ⟨tl ud [(0, .p (.agg 6 [.int .i64 (n0), .str s1, .str s2, .sl 4 l3, .sl 4 l4, .sl 6 l5]))] 0 26, tl .none [] 0 26, []⟩
theorem laws_toSel_0_ev (n0 : Int) (s1 : ByteArray) (s2 : ByteArray) (l3 : List (List Pd)) (l4 : List (List Pd)) (l5 : List (List Pd)) : ev E0 F_laws_toSel [.p (.agg 6 [.int .i64 (n0), .str s1, .str s2, .sl 4 l3, .sl 4 l4, .sl 6 l5])] [] = laws_toSel_0 n0 s1 s2 l3 l4 l5 := (ev_eq _ _ _ _).trans (by kernel_rfl)
theorem laws_toSel_0_eq (n0 : Int) (s1 : ByteArray) (s2 : ByteArray) (l3 : List (List Pd)) (l4 : List (List Pd)) (l5 : List (List Pd)) : laws_toSel_0 n0 s1 s2 l3 l4 l5 =
    (ev E0 F_laws_toArgS [.p (.sl 4 l3)] []).bind fun r107 => (asSl 4 (pAt 0 r107.1)).bind fun l108 => if r107.1.length = 1 then ((ev E0 F_laws_toDirS [.p (.sl 4 l4)] []).bind fun r109 => (asSl 4 (pAt 0 r109.1)).bind fun l110 => if r109.1.length = 1 then ((ev E0 F_laws_toSelS [.p (.sl 6 l5)] []).bind fun r111 => (asSl 6 (pAt 0 r111.1)).bind fun l112 => if r111.1.length = 1 then (some ([.p (.agg 6 [.int .i64 (n0), .str s1, .str s2, .sl 4 l108, .sl 4 l110, .sl 6 l112])], [])) else none) else none) else none := by kernel_rfl

/-! (impl.Sel).isRight$1 -/
noncomputable def impl_Sel_isRight_1_0 (s0 : ByteArray) (n1 : Int) (n2 : Int) (s3 : ByteArray) : Option Res := pt E0 F_impl_Sel_isRight_1 [] ⟨tl ud [(0, .p (.agg 4 [.str s0, .int .i64 (n1), .int .i64 (n2), .str s3]))] 0 13, tl .none [] 0 13, []⟩
theorem impl_Sel_isRight_1_0_ev (s0 : ByteArray) (n1 : Int) (n2 : Int) (s3 : ByteArray) : ev E0 F_impl_Sel_isRight_1 [.p (.agg 4 [.str s0, .int .i64 (n1), .int .i64 (n2), .str s3])] [] = impl_Sel_isRight_1_0 s0 n1 n2 s3 := (ev_eq _ _ _ _).trans (by kernel_rfl)
theorem impl_Sel_isRight_1_0_eq (s0 : ByteArray) (n1 : Int) (n2 : Int) (s3 : ByteArray) : impl_Sel_isRight_1_0 s0 n1 n2 s3 =
    (ev E0 F_impl_NameOK [.p (.str s0)] []).bind fun r105 => (asBool (pAt 0 r105.1)).bind fun b106 => if r105.1.length = 1 then (bif !(b106) then (some ([.p (.bool (true))], [])) else ((ev E0 F_impl_ValueOK [.p (.agg 3 [.int .i64 (n1), .int .i64 (n2), .str s3])] []).bind fun r107 => (asBool (pAt 0 r107.1)).bind fun b108 => if r107.1.length = 1 then (some ([.p (.bool (!(b108)))], [])) else none)) else none := by kernel_rfl

/-! (impl.Sel).isRight$2 -/
noncomputable def impl_Sel_isRight_2_0 (b0 : Bool) (n1 : Int) (n2 : Int) (s3 : ByteArray) : Option Res := pt E0 F_impl_Sel_isRight_2 [] ⟨tl ud [(0, .p (.agg 4 [.bool (b0), .int .i64 (n1), .int .i64 (n2), .str s3]))] 0 7, tl .none [] 0 7, []⟩
theorem impl_Sel_isRight_2_0_ev (b0 : Bool) (n1 : Int) (n2 : Int) (s3 : ByteArray) : ev E0 F_impl_Sel_isRight_2 [.p (.agg 4 [.bool (b0), .int .i64 (n1), .int .i64 (n2), .str s3])] [] = impl_Sel_isRight_2_0 b0 n1 n2 s3 := (ev_eq _ _ _ _).trans (by kernel_rfl)
theorem impl_Sel_isRight_2_0_eq (b0 : Bool) (n1 : Int) (n2 : Int) (s3 : ByteArray) : impl_Sel_isRight_2_0 b0 n1 n2 s3 =
    (ev E0 F_impl_ValueOK [.p (.agg 3 [.int .i64 (n1), .int .i64 (n2), .str s3])] []).bind fun r105 => (asBool (pAt 0 r105.1)).bind fun b106 => if r105.1.length = 1 then (some ([.p (.bool (!(b106)))], [])) else none := by kernel_rfl

/-! slices.ContainsFunc[[]impl.Arg,impl.Arg] -/
noncomputable def slices_ContainsFunc_impl_Arg_impl_Arg_0 (l0 : List (List Pd)) : Option Res := pt E0 F_slices_ContainsFunc_impl_Arg_impl_Arg [] ⟨tl ud [(0, .p (.sl 4 l0)), (1, .p (.fn F_impl_Sel_isRight_1))] 0 9, tl .none [] 0 9, []⟩
theorem slices_ContainsFunc_impl_Arg_impl_Arg_0_ev (l0 : List (List Pd)) : ev E0 F_slices_ContainsFunc_impl_Arg_impl_Arg [.p (.sl 4 l0), .p (.fn F_impl_Sel_isRight_1)] [] = slices_ContainsFunc_impl_Arg_impl_Arg_0 l0 := (ev_eq _ _ _ _).trans (by kernel_rfl)
theorem slices_ContainsFunc_impl_Arg_impl_Arg_0_eq (l0 : List (List Pd)) : slices_ContainsFunc_impl_Arg_impl_Arg_0 l0 =
    (ev E0 F_slices_IndexFunc_impl_Arg_impl_Arg [.p (.sl 4 l0), .p (.fn F_impl_Sel_isRight_1)] []).bind fun r102 => (asInt .i64 (pAt 0 r102.1)).bind fun n103 => if r102.1.length = 1 then (some ([.p (.bool (decide ((n103 : Int) ≥ 0)))], [])) else none := by kernel_rfl

/-! slices.ContainsFunc[[]impl.Dir,impl.Dir] -/
noncomputable def slices_ContainsFunc_impl_Dir_impl_Dir_0 (l0 : List (List Pd)) : Option Res := pt E0 F_slices_ContainsFunc_impl_Dir_impl_Dir [] ⟨tl ud [(0, .p (.sl 4 l0)), (1, .p (.fn F_impl_Sel_isRight_2))] 0 9, tl .none [] 0 9, []⟩
theorem slices_ContainsFunc_impl_Dir_impl_Dir_0_ev (l0 : List (List Pd)) : ev E0 F_slices_ContainsFunc_impl_Dir_impl_Dir [.p (.sl 4 l0), .p (.fn F_impl_Sel_isRight_2)] [] = slices_ContainsFunc_impl_Dir_impl_Dir_0 l0 := (ev_eq _ _ _ _).trans (by kernel_rfl)
theorem slices_ContainsFunc_impl_Dir_impl_Dir_0_eq (l0 : List (List Pd)) : slices_ContainsFunc_impl_Dir_impl_Dir_0 l0 =
    (ev E0 F_slices_IndexFunc_impl_Dir_impl_Dir [.p (.sl 4 l0), .p (.fn F_impl_Sel_isRight_2)] []).bind fun r102 => (asInt .i64 (pAt 0 r102.1)).bind fun n103 => if r102.1.length = 1 then (some ([.p (.bool (decide ((n103 : Int) ≥ 0)))], [])) else none := by kernel_rfl

/-! laws.eqSel -/
noncomputable def laws_eqSel_0 (n0 : Int) (s1 : ByteArray) (s2 : ByteArray) (l3 : List (List Pd)) (l4 : List (List Pd)) (l5 : List (List Pd)) (n6 : Int) (s7 : ByteArray) (s8 : ByteArray) (l9 : List (List Pd)) (l10 : List (List Pd)) (l11 : List (List Pd)) : Option Res := pt E0 F_laws_eqSel [] ⟨tl ud [(0, .p (.agg 6 [.int .i64 (n0), .str s1, .str s2, .sl 4 l3, .sl 4 l4, .sl 6 l5])), (1, .p (.agg 6 [.int .i64 (n6), .str s7, .str s8, .sl 4 l9, .sl 4 l10, .sl 6 l11]))] 0 38, tl .none [] 0 38, []⟩
theorem laws_eqSel_0_ev (n0 : Int) (s1 : ByteArray) (s2 : ByteArray) (l3 : List (List Pd)) (l4 : List (List Pd)) (l5 : List (List Pd)) (n6 : Int) (s7 : ByteArray) (s8 : ByteArray) (l9 : List (List Pd)) (l10 : List (List Pd)) (l11 : List (List Pd)) : ev E0 F_laws_eqSel [.p (.agg 6 [.int .i64 (n0), .str s1, .str s2, .sl 4 l3, .sl 4 l4, .sl 6 l5]), .p (.agg 6 [.int .i64 (n6), .str s7, .str s8, .sl 4 l9, .sl 4 l10, .sl 6 l11])] [] = laws_eqSel_0 n0 s1 s2 l3 l4 l5 n6 s7 s8 l9 l10 l11 := (ev_eq _ _ _ _).trans (by kernel_rfl)
theorem laws_eqSel_0_eq (n0 : Int) (s1 : ByteArray) (s2 : ByteArray) (l3 : List (List Pd)) (l4 : List (List Pd)) (l5 : List (List Pd)) (n6 : Int) (s7 : ByteArray) (s8 : ByteArray) (l9 : List (List Pd)) (l10 : List (List Pd)) (l11 : List (List Pd)) : laws_eqSel_0 n0 s1 s2 l3 l4 l5 n6 s7 s8 l9 l10 l11 =
    bif (n0 : Int) != n6 then (some ([.p (.bool (false))], [])) else (bif !decide (s1 = s7) then (some ([.p (.bool (false))], [])) else (bif !decide (s2 = s8) then (some ([.p (.bool (false))], [])) else ((ev E0 F_laws_eqArgS [.p (.sl 4 l3), .p (.sl 4 l9)] []).bind fun r113 => (asBool (pAt 0 r113.1)).bind fun b114 => if r113.1.length = 1 then (bif !(b114) then (some ([.p (.bool (false))], [])) else ((ev E0 F_laws_eqDirS [.p (.sl 4 l4), .p (.sl 4 l10)] []).bind fun r115 => (asBool (pAt 0 r115.1)).bind fun b116 => if r115.1.length = 1 then (bif !(b116) then (some ([.p (.bool (false))], [])) else ((ev E0 F_laws_eqSelS [.p (.sl 6 l5), .p (.sl 6 l11)] []).bind fun r117 => (asBool (pAt 0 r117.1)).bind fun b118 => if r117.1.length = 1 then (bif !(b118) then (some ([.p (.bool (false))], [])) else (some ([.p (.bool (true))], []))) else none)) else none)) else none))) := by kernel_rfl

/-! laws.szArgS -/
noncomputable def laws_szArgS_0 (l0 : List (List Pd)) (n1 : Int) : Option Res := pt E0 F_laws_szArgS [] ⟨tl ud [(0, .p (.sl 4 l0)), (1, .p (.int .i64 (n1)))] 0 27, tl .none [] 0 27, []⟩
noncomputable def laws_szArgS_1 (l0 : List (List Pd)) (n1 : Int) (n2 : Int) : Option Res := pt E0 F_laws_szArgS [1, 1, 1, 0, 1, 0, 2] ⟨tl ud [(0, .p (.sl 4 l0)), (1, .p (.int .i64 (n1))), (5, .p (.int .i64 (n2)))] 0 27, tl .none [] 0 27, []⟩
theorem laws_szArgS_0_ev (l0 : List (List Pd)) (n1 : Int) : ev E0 F_laws_szArgS [.p (.sl 4 l0), .p (.int .i64 (n1))] [] = laws_szArgS_0 l0 n1 := (ev_eq _ _ _ _).trans (by kernel_rfl)
theorem laws_szArgS_0_eq (l0 : List (List Pd)) (n1 : Int) : laws_szArgS_0 l0 n1 =
    bif decide ((IntKind.i64.wrap (n1 - (l0.length : Int)) : Int) < 0) then (some ([.p (.int .i64 (-1))], [])) else (laws_szArgS_1 l0 (IntKind.i64.wrap (n1 - (l0.length : Int))) 0) := by kernel_rfl
theorem laws_szArgS_1_eq (l0 : List (List Pd)) (n1 : Int) (n2 : Int) : laws_szArgS_1 l0 n1 n2 =
    bif decide ((n2 : Int) < (l0.length : Int)) then (if 0 ≤ (n2 : Int) ∧ (n2 : Int) < (l0.length : Int) then ((ev E0 F_laws_szArg [.p (.agg 4 (l0.getD (n2 : Int).toNat [])), .p (.int .i64 (n1))] []).bind fun r104 => (asInt .i64 (pAt 0 r104.1)).bind fun n105 => if r104.1.length = 1 then (bif decide ((n105 : Int) < 0) then (some ([.p (.int .i64 (-1))], [])) else (laws_szArgS_1 l0 n105 (IntKind.i64.wrap (n2 + 1)))) else none) else none) else (some ([.p (.int .i64 (n1))], [])) := (pt_loop E0 F_laws_szArgS [1, 1, 1, 0, 1, 0] _ (by kernel_rfl)).trans (by kernel_rfl)

/-! laws.szDirS -/
noncomputable def laws_szDirS_0 (l0 : List (List Pd)) (n1 : Int) : Option Res := pt E0 F_laws_szDirS [] ⟨tl ud [(0, .p (.sl 4 l0)), (1, .p (.int .i64 (n1)))] 0 27, tl .none [] 0 27, []⟩
noncomputable def laws_szDirS_1 (l0 : List (List Pd)) (n1 : Int) (n2 : Int) : Option Res := pt E0 F_laws_szDirS [1, 1, 1, 0, 1, 0, 2] ⟨tl ud [(0, .p (.sl 4 l0)), (1, .p (.int .i64 (n1))), (5, .p (.int .i64 (n2)))] 0 27, tl .none [] 0 27, []⟩
theorem laws_szDirS_0_ev (l0 : List (List Pd)) (n1 : Int) : ev E0 F_laws_szDirS [.p (.sl 4 l0), .p (.int .i64 (n1))] [] = laws_szDirS_0 l0 n1 := (ev_eq _ _ _ _).trans (by kernel_rfl)
theorem laws_szDirS_0_eq (l0 : List (List Pd)) (n1 : Int) : laws_szDirS_0 l0 n1 =
    bif decide ((IntKind.i64.wrap (n1 - (l0.length : Int)) : Int) < 0) then (some ([.p (.int .i64 (-1))], [])) else (laws_szDirS_1 l0 (IntKind.i64.wrap (n1 - (l0.length : Int))) 0) := by kernel_rfl
theorem laws_szDirS_1_eq (l0 : List (List Pd)) (n1 : Int) (n2 : Int) : laws_szDirS_1 l0 n1 n2 =
    bif decide ((n2 : Int) < (l0.length : Int)) then (if 0 ≤ (n2 : Int) ∧ (n2 : Int) < (l0.length : Int) then ((ev E0 F_laws_szDir [.p (.agg 4 (l0.getD (n2 : Int).toNat [])), .p (.int .i64 (n1))] []).bind fun r104 => (asInt .i64 (pAt 0 r104.1)).bind fun n105 => if r104.1.length = 1 then (bif decide ((n105 : Int) < 0) then (some ([.p (.int .i64 (-1))], [])) else (laws_szDirS_1 l0 n105 (IntKind.i64.wrap (n2 + 1)))) else none) else none) else (some ([.p (.int .i64 (n1))], [])) := (pt_loop E0 F_laws_szDirS [1, 1, 1, 0, 1, 0] _ (by kernel_rfl)).trans (by kernel_rfl)

/-! laws.toArgS -/
noncomputable def laws_toArgS_0 (l0 : List (List Pd)) : Option Res := pt E0 F_laws_toArgS [] ⟨tl ud [(0, .p (.sl 4 l0))] 0 23, tl .none [] 0 23, []⟩
noncomputable def laws_toArgS_1 (l0 : List (List Pd)) (n1 : Int) (e2 : List (List Pd)) : Option Res := pt E0 F_laws_toArgS [1, 1, 0, 1, 0, 2] ⟨tl ud [(0, .p (.sl 4 l0)), (3, .arr (.loc 7)), (4, .p (.int .i64 (n1)))] 0 23, tl .none [(7, .arr 113 4 48 false e2)] 0 23, []⟩
theorem laws_toArgS_0_ev (l0 : List (List Pd)) : ev E0 F_laws_toArgS [.p (.sl 4 l0)] [] = laws_toArgS_0 l0 := (ev_eq _ _ _ _).trans (by kernel_rfl)
theorem laws_toArgS_0_eq (l0 : List (List Pd)) : laws_toArgS_0 l0 =
    if 0 ≤ ((l0.length : Int) : Int) ∧ ((l0.length : Int) : Int) ≤ (l0.length : Int) ∧ ((l0.length : Int) : Int).toNat * 48 ≤ LIM ∧ 48 ≠ 0 then (laws_toArgS_1 l0 0 (List.replicate ((l0.length : Int) : Int).toNat [.str (⟨#[]⟩ : ByteArray), .int .i64 (0), .int .i64 (0), .str (⟨#[]⟩ : ByteArray)])) else none := by kernel_rfl
theorem laws_toArgS_1_eq (l0 : List (List Pd)) (n1 : Int) (e2 : List (List Pd)) : laws_toArgS_1 l0 n1 e2 =
    bif decide ((n1 : Int) < (l0.length : Int)) then (if 0 ≤ (n1 : Int) ∧ (n1 : Int) < (l0.length : Int) then ((ev E0 F_laws_toArg [.p (.agg 4 (l0.getD (n1 : Int).toNat []))] []).bind fun r104 => (asAgg 4 (pAt 0 r104.1)).bind fun c105 => if r104.1.length = 1 then (if 0 ≤ (n1 : Int) ∧ (n1 : Int) < (e2.length : Int) then (if 4 = 4 ∧ ((n1 : Int).toNat) < e2.length then (if 0 + 4 ≤ 4 then (laws_toArgS_1 l0 (IntKind.i64.wrap (n1 + 1)) (setEl e2 ((n1 : Int).toNat) 4 0 4 (.agg 4 c105))) else none) else none) else none) else none) else none) else (some ([.p (.sl 4 e2)], [])) := (pt_loop E0 F_laws_toArgS [1, 1, 0, 1, 0] _ (by kernel_rfl)).trans (by kernel_rfl)

/-! laws.toDirS -/
noncomputable def laws_toDirS_0 (l0 : List (List Pd)) : Option Res := pt E0 F_laws_toDirS [] ⟨tl ud [(0, .p (.sl 4 l0))] 0 23, tl .none [] 0 23, []⟩
noncomputable def laws_toDirS_1 (l0 : List (List Pd)) (n1 : Int) (e2 : List (List Pd)) : Option Res := pt E0 F_laws_toDirS [1, 1, 0, 1, 0, 2] ⟨tl ud [(0, .p (.sl 4 l0)), (3, .arr (.loc 7)), (4, .p (.int .i64 (n1)))] 0 23, tl .none [(7, .arr 115 4 40 false e2)] 0 23, []⟩
theorem laws_toDirS_0_ev (l0 : List (List Pd)) : ev E0 F_laws_toDirS [.p (.sl 4 l0)] [] = laws_toDirS_0 l0 := (ev_eq _ _ _ _).trans (by kernel_rfl)
theorem laws_toDirS_0_eq (l0 : List (List Pd)) : laws_toDirS_0 l0 =
    if 0 ≤ ((l0.length : Int) : Int) ∧ ((l0.length : Int) : Int) ≤ (l0.length : Int) ∧ ((l0.length : Int) : Int).toNat * 40 ≤ LIM ∧ 40 ≠ 0 then (laws_toDirS_1 l0 0 (List.replicate ((l0.length : Int) : Int).toNat [.bool (false), .int .i64 (0), .int .i64 (0), .str (⟨#[]⟩ : ByteArray)])) else none := by kernel_rfl
theorem laws_toDirS_1_eq (l0 : List (List Pd)) (n1 : Int) (e2 : List (List Pd)) : laws_toDirS_1 l0 n1 e2 =
    bif decide ((n1 : Int) < (l0.length : Int)) then (if 0 ≤ (n1 : Int) ∧ (n1 : Int) < (l0.length : Int) then ((ev E0 F_laws_toDir [.p (.agg 4 (l0.getD (n1 : Int).toNat []))] []).bind fun r104 => (asAgg 4 (pAt 0 r104.1)).bind fun c105 => if r104.1.length = 1 then (if 0 ≤ (n1 : Int) ∧ (n1 : Int) < (e2.length : Int) then (if 4 = 4 ∧ ((n1 : Int).toNat) < e2.length then (if 0 + 4 ≤ 4 then (laws_toDirS_1 l0 (IntKind.i64.wrap (n1 + 1)) (setEl e2 ((n1 : Int).toNat) 4 0 4 (.agg 4 c105))) else none) else none) else none) else none) else none) else (some ([.p (.sl 4 e2)], [])) := (pt_loop E0 F_laws_toDirS [1, 1, 0, 1, 0] _ (by kernel_rfl)).trans (by kernel_rfl)

/-! slices.IndexFunc[[]impl.Arg,impl.Arg] -/
noncomputable def slices_IndexFunc_impl_Arg_impl_Arg_0 (l0 : List (List Pd)) : Option Res := pt E0 F_slices_IndexFunc_impl_Arg_impl_Arg [] ⟨tl ud [(0, .p (.sl 4 l0)), (1, .p (.fn F_impl_Sel_isRight_1))] 0 19, tl .none [] 0 19, []⟩
noncomputable def slices_IndexFunc_impl_Arg_impl_Arg_1 (l0 : List (List Pd)) (n1 : Int) (n2 : Int) : Option Res := pt E0 F_slices_IndexFunc_impl_Arg_impl_Arg [1, 0, 1, 0, 2] ⟨tl ud [(0, .p (.sl 4 l0)), (1, .p (.fn F_impl_Sel_isRight_1)), (7, .p (.int .i64 (n1))), (8, .p (.int .i64 (n2)))] 0 19, tl .none [] 0 19, []⟩
theorem slices_IndexFunc_impl_Arg_impl_Arg_0_ev (l0 : List (List Pd)) : ev E0 F_slices_IndexFunc_impl_Arg_impl_Arg [.p (.sl 4 l0), .p (.fn F_impl_Sel_isRight_1)] [] = slices_IndexFunc_impl_Arg_impl_Arg_0 l0 := (ev_eq _ _ _ _).trans (by kernel_rfl)
theorem slices_IndexFunc_impl_Arg_impl_Arg_0_eq (l0 : List (List Pd)) : slices_IndexFunc_impl_Arg_impl_Arg_0 l0 =
    slices_IndexFunc_impl_Arg_impl_Arg_1 l0 (l0.length : Int) 0 := by kernel_rfl
theorem slices_IndexFunc_impl_Arg_impl_Arg_1_eq (l0 : List (List Pd)) (n1 : Int) (n2 : Int) : slices_IndexFunc_impl_Arg_impl_Arg_1 l0 n1 n2 =
    bif decide ((n2 : Int) < n1) then (if 0 ≤ (n2 : Int) ∧ (n2 : Int) < (l0.length : Int) then ((ev E0 F_impl_Sel_isRight_1 [.p (.agg 4 (l0.getD (n2 : Int).toNat []))] []).bind fun r104 => (asBool (pAt 0 r104.1)).bind fun b105 => if r104.1.length = 1 then (bif b105 then (some ([.p (.int .i64 (n2))], [])) else (slices_IndexFunc_impl_Arg_impl_Arg_1 l0 n1 (IntKind.i64.wrap (n2 + 1)))) else none) else none) else (some ([.p (.int .i64 (-1))], [])) := (pt_loop E0 F_slices_IndexFunc_impl_Arg_impl_Arg [1, 0, 1, 0] _ (by kernel_rfl)).trans (by kernel_rfl)

/-! slices.IndexFunc[[]impl.Dir,impl.Dir] -/
noncomputable def slices_IndexFunc_impl_Dir_impl_Dir_0 (l0 : List (List Pd)) : Option Res := pt E0 F_slices_IndexFunc_impl_Dir_impl_Dir [] ⟨tl ud [(0, .p (.sl 4 l0)), (1, .p (.fn F_impl_Sel_isRight_2))] 0 19, tl .none [] 0 19, []⟩
noncomputable def slices_IndexFunc_impl_Dir_impl_Dir_1 (l0 : List (List Pd)) (n1 : Int) (n2 : Int) : Option Res := pt E0 F_slices_IndexFunc_impl_Dir_impl_Dir [1, 0, 1, 0, 2] ⟨tl ud [(0, .p (.sl 4 l0)), (1, .p (.fn F_impl_Sel_isRight_2)), (7, .p (.int .i64 (n1))), (8, .p (.int .i64 (n2)))] 0 19, tl .none [] 0 19, []⟩
theorem slices_IndexFunc_impl_Dir_impl_Dir_0_ev (l0 : List (List Pd)) : ev E0 F_slices_IndexFunc_impl_Dir_impl_Dir [.p (.sl 4 l0), .p (.fn F_impl_Sel_isRight_2)] [] = slices_IndexFunc_impl_Dir_impl_Dir_0 l0 := (ev_eq _ _ _ _).trans (by kernel_rfl)
theorem slices_IndexFunc_impl_Dir_impl_Dir_0_eq (l0 : List (List Pd)) : slices_IndexFunc_impl_Dir_impl_Dir_0 l0 =
    slices_IndexFunc_impl_Dir_impl_Dir_1 l0 (l0.length : Int) 0 := by kernel_rfl
theorem slices_IndexFunc_impl_Dir_impl_Dir_1_eq (l0 : List (List Pd)) (n1 : Int) (n2 : Int) : slices_IndexFunc_impl_Dir_impl_Dir_1 l0 n1 n2 =
    bif decide ((n2 : Int) < n1) then (if 0 ≤ (n2 : Int) ∧ (n2 : Int) < (l0.length : Int) then ((ev E0 F_impl_Sel_isRight_2 [.p (.agg 4 (l0.getD (n2 : Int).toNat []))] []).bind fun r104 => (asBool (pAt 0 r104.1)).bind fun b105 => if r104.1.length = 1 then (bif b105 then (some ([.p (.int .i64 (n2))], [])) else (slices_IndexFunc_impl_Dir_impl_Dir_1 l0 n1 (IntKind.i64.wrap (n2 + 1)))) else none) else none) else (some ([.p (.int .i64 (-1))], [])) := (pt_loop E0 F_slices_IndexFunc_impl_Dir_impl_Dir [1, 0, 1, 0] _ (by kernel_rfl)).trans (by kernel_rfl)

/-! laws.eqArgS -/
noncomputable def laws_eqArgS_0 (l0 : List (List Pd)) (l1 : List (List Pd)) : Option Res := pt E0 F_laws_eqArgS [] ⟨tl ud [(0, .p (.sl 4 l0)), (1, .p (.sl 4 l1))] 0 27, tl .none [] 0 27, []⟩
noncomputable def laws_eqArgS_1 (l0 : List (List Pd)) (l1 : List (List Pd)) (n2 : Int) : Option Res := pt E0 F_laws_eqArgS [1, 1, 0, 1, 0, 2] ⟨tl ud [(0, .p (.sl 4 l0)), (1, .p (.sl 4 l1)), (5, .p (.int .i64 (n2)))] 0 27, tl .none [] 0 27, []⟩
theorem laws_eqArgS_0_ev (l0 : List (List Pd)) (l1 : List (List Pd)) : ev E0 F_laws_eqArgS [.p (.sl 4 l0), .p (.sl 4 l1)] [] = laws_eqArgS_0 l0 l1 := (ev_eq _ _ _ _).trans (by kernel_rfl)
theorem laws_eqArgS_0_eq (l0 : List (List Pd)) (l1 : List (List Pd)) : laws_eqArgS_0 l0 l1 =
    bif ((l0.length : Int) : Int) != (l1.length : Int) then (some ([.p (.bool (false))], [])) else (laws_eqArgS_1 l0 l1 0) := by kernel_rfl
theorem laws_eqArgS_1_eq (l0 : List (List Pd)) (l1 : List (List Pd)) (n2 : Int) : laws_eqArgS_1 l0 l1 n2 =
    bif decide ((n2 : Int) < (l0.length : Int)) then (if 0 ≤ (n2 : Int) ∧ (n2 : Int) < (l0.length : Int) then (if 0 ≤ (n2 : Int) ∧ (n2 : Int) < (l1.length : Int) then ((ev E0 F_laws_eqArg [.p (.agg 4 (l0.getD (n2 : Int).toNat [])), .p (.agg 4 (l1.getD (n2 : Int).toNat []))] []).bind fun r104 => (asBool (pAt 0 r104.1)).bind fun b105 => if r104.1.length = 1 then (bif !(b105) then (some ([.p (.bool (false))], [])) else (laws_eqArgS_1 l0 l1 (IntKind.i64.wrap (n2 + 1)))) else none) else none) else none) else (some ([.p (.bool (true))], [])) := (pt_loop E0 F_laws_eqArgS [1, 1, 0, 1, 0] _ (by kernel_rfl)).trans (by kernel_rfl)

/-! laws.eqDirS -/
noncomputable def laws_eqDirS_0 (l0 : List (List Pd)) (l1 : List (List Pd)) : Option Res := pt E0 F_laws_eqDirS [] ⟨tl ud [(0, .p (.sl 4 l0)), (1, .p (.sl 4 l1))] 0 27, tl .none [] 0 27, []⟩
noncomputable def laws_eqDirS_1 (l0 : List (List Pd)) (l1 : List (List Pd)) (n2 : Int) : Option Res := pt E0 F_laws_eqDirS [1, 1, 0, 1, 0, 2] ⟨tl ud [(0, .p (.sl 4 l0)), (1, .p (.sl 4 l1)), (5, .p (.int .i64 (n2)))] 0 27, tl .none [] 0 27, []⟩
theorem laws_eqDirS_0_ev (l0 : List (List Pd)) (l1 : List (List Pd)) : ev E0 F_laws_eqDirS [.p (.sl 4 l0), .p (.sl 4 l1)] [] = laws_eqDirS_0 l0 l1 := (ev_eq _ _ _ _).trans (by kernel_rfl)
theorem laws_eqDirS_0_eq (l0 : List (List Pd)) (l1 : List (List Pd)) : laws_eqDirS_0 l0 l1 =
    bif ((l0.length : Int) : Int) != (l1.length : Int) then (some ([.p (.bool (false))], [])) else (laws_eqDirS_1 l0 l1 0) := by kernel_rfl
theorem laws_eqDirS_1_eq (l0 : List (List Pd)) (l1 : List (List Pd)) (n2 : Int) : laws_eqDirS_1 l0 l1 n2 =
    bif decide ((n2 : Int) < (l0.length : Int)) then (if 0 ≤ (n2 : Int) ∧ (n2 : Int) < (l0.length : Int) then (if 0 ≤ (n2 : Int) ∧ (n2 : Int) < (l1.length : Int) then ((ev E0 F_laws_eqDir [.p (.agg 4 (l0.getD (n2 : Int).toNat [])), .p (.agg 4 (l1.getD (n2 : Int).toNat []))] []).bind fun r104 => (asBool (pAt 0 r104.1)).bind fun b105 => if r104.1.length = 1 then (bif !(b105) then (some ([.p (.bool (false))], [])) else (laws_eqDirS_1 l0 l1 (IntKind.i64.wrap (n2 + 1)))) else none) else none) else none) else (some ([.p (.bool (true))], [])) := (pt_loop E0 F_laws_eqDirS [1, 1, 0, 1, 0] _ (by kernel_rfl)).trans (by kernel_rfl)

/-! laws.szArg -/
noncomputable def laws_szArg_0 (s0 : ByteArray) (n1 : Int) (n2 : Int) (s3 : ByteArray) (n4 : Int) : Option Res := pt E0 F_laws_szArg [] ⟨tl ud [(0, .p (.agg 4 [.str s0, .int .i64 (n1), .int .i64 (n2), .str s3])), (1, .p (.int .i64 (n4)))] 0 19, tl .none [] 0 19, []⟩
theorem laws_szArg_0_ev (s0 : ByteArray) (n1 : Int) (n2 : Int) (s3 : ByteArray) (n4 : Int) : ev E0 F_laws_szArg [.p (.agg 4 [.str s0, .int .i64 (n1), .int .i64 (n2), .str s3]), .p (.int .i64 (n4))] [] = laws_szArg_0 s0 n1 n2 s3 n4 := (ev_eq _ _ _ _).trans (by kernel_rfl)
theorem laws_szArg_0_eq (s0 : ByteArray) (n1 : Int) (n2 : Int) (s3 : ByteArray) (n4 : Int) : laws_szArg_0 s0 n1 n2 s3 n4 =
    bif decide ((IntKind.i64.wrap (n4 - (s0.size : Int)) : Int) < 0) then (some ([.p (.int .i64 (-1))], [])) else ((ev E0 F_laws_szValue [.p (.agg 3 [.int .i64 (n1), .int .i64 (n2), .str s3]), .p (.int .i64 (IntKind.i64.wrap (n4 - (s0.size : Int))))] []).bind fun r106 => (asInt .i64 (pAt 0 r106.1)).bind fun n107 => if r106.1.length = 1 then (bif decide ((n107 : Int) < 0) then (some ([.p (.int .i64 (-1))], [])) else (some ([.p (.int .i64 (n107))], []))) else none) := by kernel_rfl

/-! laws.szDir -/
noncomputable def laws_szDir_0 (b0 : Bool) (n1 : Int) (n2 : Int) (s3 : ByteArray) (n4 : Int) : Option Res := pt E0 F_laws_szDir [] ⟨tl ud [(0, .p (.agg 4 [.bool (b0), .int .i64 (n1), .int .i64 (n2), .str s3])), (1, .p (.int .i64 (n4)))] 0 12, tl .none [] 0 12, []⟩
theorem laws_szDir_0_ev (b0 : Bool) (n1 : Int) (n2 : Int) (s3 : ByteArray) (n4 : Int) : ev E0 F_laws_szDir [.p (.agg 4 [.bool (b0), .int .i64 (n1), .int .i64 (n2), .str s3]), .p (.int .i64 (n4))] [] = laws_szDir_0 b0 n1 n2 s3 n4 := (ev_eq _ _ _ _).trans (by kernel_rfl)
theorem laws_szDir_0_eq (b0 : Bool) (n1 : Int) (n2 : Int) (s3 : ByteArray) (n4 : Int) : laws_szDir_0 b0 n1 n2 s3 n4 =
    (ev E0 F_laws_szValue [.p (.agg 3 [.int .i64 (n1), .int .i64 (n2), .str s3]), .p (.int .i64 (n4))] []).bind fun r106 => (asInt .i64 (pAt 0 r106.1)).bind fun n107 => if r106.1.length = 1 then (bif decide ((n107 : Int) < 0) then (some ([.p (.int .i64 (-1))], [])) else (some ([.p (.int .i64 (n107))], []))) else none := by kernel_rfl

/-! laws.toArg -/
noncomputable def laws_toArg_0 (s0 : ByteArray) (n1 : Int) (n2 : Int) (s3 : ByteArray) : Option Res := pt E0 F_laws_toArg [] ⟨tl ud [(0, .p (.agg 4 [.str s0, .int .i64 (n1), .int .i64 (n2), .str s3]))] 0 12, tl .none [] 0 12, []⟩
theorem laws_toArg_0_ev (s0 : ByteArray) (n1 : Int) (n2 : Int) (s3 : ByteArray) : ev E0 F_laws_toArg [.p (.agg 4 [.str s0, .int .i64 (n1), .int .i64 (n2), .str s3])] [] = laws_toArg_0 s0 n1 n2 s3 := (ev_eq _ _ _ _).trans (by kernel_rfl)
theorem laws_toArg_0_eq (s0 : ByteArray) (n1 : Int) (n2 : Int) (s3 : ByteArray) : laws_toArg_0 s0 n1 n2 s3 =
    (ev E0 F_laws_toValue [.p (.agg 3 [.int .i64 (n1), .int .i64 (n2), .str s3])] []).bind fun r105 => (asAgg 3 (pAt 0 r105.1)).bind fun c106 => if r105.1.length = 1 then (some ([.p (.agg 4 [.str s0, (c106.getD 0 .undef), (c106.getD 1 .undef), (c106.getD 2 .undef)])], [])) else none := by kernel_rfl

/-! laws.toDir -/
noncomputable def laws_toDir_0 (b0 : Bool) (n1 : Int) (n2 : Int) (s3 : ByteArray) : Option Res := pt E0 F_laws_toDir [] ⟨tl ud [(0, .p (.agg 4 [.bool (b0), .int .i64 (n1), .int .i64 (n2), .str s3]))] 0 12, tl .none [] 0 12, []⟩
theorem laws_toDir_0_ev (b0 : Bool) (n1 : Int) (n2 : Int) (s3 : ByteArray) : ev E0 F_laws_toDir [.p (.agg 4 [.bool (b0), .int .i64 (n1), .int .i64 (n2), .str s3])] [] = laws_toDir_0 b0 n1 n2 s3 := (ev_eq _ _ _ _).trans (by kernel_rfl)
theorem laws_toDir_0_eq (b0 : Bool) (n1 : Int) (n2 : Int) (s3 : ByteArray) : laws_toDir_0 b0 n1 n2 s3 =
    (ev E0 F_laws_toValue [.p (.agg 3 [.int .i64 (n1), .int .i64 (n2), .str s3])] []).bind fun r105 => (asAgg 3 (pAt 0 r105.1)).bind fun c106 => if r105.1.length = 1 then (some ([.p (.agg 4 [.bool (b0), (c106.getD 0 .undef), (c106.getD 1 .undef), (c106.getD 2 .undef)])], [])) else none := by kernel_rfl

/-! laws.eqArg -/
noncomputable def laws_eqArg_0 (s0 : ByteArray) (n1 : Int) (n2 : Int) (s3 : ByteArray) (s4 : ByteArray) (n5 : Int) (n6 : Int) (s7 : ByteArray) : Option Res := pt E0 F_laws_eqArg [] ⟨tl ud [(0, .p (.agg 4 [.str s0, .int .i64 (n1), .int .i64 (n2), .str s3])), (1, .p (.agg 4 [.str s4, .int .i64 (n5), .int .i64 (n6), .str s7]))] 0 16, tl .none [] 0 16, []⟩
theorem laws_eqArg_0_ev (s0 : ByteArray) (n1 : Int) (n2 : Int) (s3 : ByteArray) (s4 : ByteArray) (n5 : Int) (n6 : Int) (s7 : ByteArray) : ev E0 F_laws_eqArg [.p (.agg 4 [.str s0, .int .i64 (n1), .int .i64 (n2), .str s3]), .p (.agg 4 [.str s4, .int .i64 (n5), .int .i64 (n6), .str s7])] [] = laws_eqArg_0 s0 n1 n2 s3 s4 n5 n6 s7 := (ev_eq _ _ _ _).trans (by kernel_rfl)
theorem laws_eqArg_0_eq (s0 : ByteArray) (n1 : Int) (n2 : Int) (s3 : ByteArray) (s4 : ByteArray) (n5 : Int) (n6 : Int) (s7 : ByteArray) : laws_eqArg_0 s0 n1 n2 s3 s4 n5 n6 s7 =
    bif !decide (s0 = s4) then (some ([.p (.bool (false))], [])) else ((ev E0 F_laws_eqValue [.p (.agg 3 [.int .i64 (n1), .int .i64 (n2), .str s3]), .p (.agg 3 [.int .i64 (n5), .int .i64 (n6), .str s7])] []).bind fun r109 => (asBool (pAt 0 r109.1)).bind fun b110 => if r109.1.length = 1 then (bif !(b110) then (some ([.p (.bool (false))], [])) else (some ([.p (.bool (true))], []))) else none) := by kernel_rfl

/-! laws.eqDir -/
noncomputable def laws_eqDir_0 (b0 : Bool) (n1 : Int) (n2 : Int) (s3 : ByteArray) (b4 : Bool) (n5 : Int) (n6 : Int) (s7 : ByteArray) : Option Res := pt E0 F_laws_eqDir [] ⟨tl ud [(0, .p (.agg 4 [.bool (b0), .int .i64 (n1), .int .i64 (n2), .str s3])), (1, .p (.agg 4 [.bool (b4), .int .i64 (n5), .int .i64 (n6), .str s7]))] 0 16, tl .none [] 0 16, []⟩
theorem laws_eqDir_0_ev (b0 : Bool) (n1 : Int) (n2 : Int) (s3 : ByteArray) (b4 : Bool) (n5 : Int) (n6 : Int) (s7 : ByteArray) : ev E0 F_laws_eqDir [.p (.agg 4 [.bool (b0), .int .i64 (n1), .int .i64 (n2), .str s3]), .p (.agg 4 [.bool (b4), .int .i64 (n5), .int .i64 (n6), .str s7])] [] = laws_eqDir_0 b0 n1 n2 s3 b4 n5 n6 s7 := (ev_eq _ _ _ _).trans (by kernel_rfl)
theorem laws_eqDir_0_eq (b0 : Bool) (n1 : Int) (n2 : Int) (s3 : ByteArray) (b4 : Bool) (n5 : Int) (n6 : Int) (s7 : ByteArray) : laws_eqDir_0 b0 n1 n2 s3 b4 n5 n6 s7 =
    bif !(b0 == b4) then (some ([.p (.bool (false))], [])) else ((ev E0 F_laws_eqValue [.p (.agg 3 [.int .i64 (n1), .int .i64 (n2), .str s3]), .p (.agg 3 [.int .i64 (n5), .int .i64 (n6), .str s7])] []).bind fun r109 => (asBool (pAt 0 r109.1)).bind fun b110 => if r109.1.length = 1 then (bif !(b110) then (some ([.p (.bool (false))], [])) else (some ([.p (.bool (true))], []))) else none) := by kernel_rfl

end Go.Proofs.YtlmmimhjfajhdaaGreatDoor.Dm
