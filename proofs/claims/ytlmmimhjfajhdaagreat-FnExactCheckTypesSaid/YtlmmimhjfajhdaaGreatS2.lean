/- What each function is kept for at its places; the machine's equations of the program's functions. -/
import Derived.Test.YtlmmimhjfajhdaaGreatProg
import Derived.Test.YtlmmimhjfajhdaaGreatDm17
import Derived.KernelRfl
namespace Go.Proofs.YtlmmimhjfajhdaaGreat.Dm
set_option linter.unusedVariables false
set_option maxRecDepth 1000000
def annTab : List (Nat × Ann) := [(3, .n none .z (.n none .z (.n none .z (.n none .z (.n none .z (.n none .z (.n none .z (.n none .z (.n none .z (.n none .z (.n none (.n (some ([2, 3, 8, 9, 47], [2, 3, 8, 9])) .z .z) .z))))))))))),
  (6, .n none .z (.n none (.n (some ([2, 3, 13], [2, 3])) .z .z) .z)),
  (9, .n none .z (.n none (.n (some ([2, 3, 13], [2, 3])) .z .z) .z)),
  (12, .n none .z (.n none .z (.n none .z (.n none (.n none .z (.n (some ([0, 1, 5], [])) .z .z)) .z)))),
  (13, .n none .z (.n none .z (.n none .z (.n none (.n none .z (.n (some ([0, 1, 5], [])) .z .z)) .z)))),
  (14, .n none .z (.n none (.n (some ([1, 17], [1])) .z .z) (.n none (.n none .z (.n (some ([1, 3], [1])) (.n none .z (.n none (.n none .z (.n none (.n (some ([1, 3, 4, 53], [1, 4])) .z .z) (.n none .z (.n (some ([1, 3, 4, 5], [1, 4])) (.n none .z (.n none (.n none .z (.n none (.n (some ([1, 3, 4, 5, 6, 100], [1, 4, 6])) .z .z) (.n none .z (.n (some ([1, 3, 4, 5, 6, 7], [1, 4, 6])) (.n none .z (.n none (.n (some ([1, 3, 4, 5, 6, 7, 127], [1, 4, 6])) .z .z) .z)) .z)))) .z)) .z)))) .z)) .z)) .z))),
  (15, .n none .z (.n none .z (.n none .z (.n none (.n none .z (.n (some ([1, 3, 4], [1])) (.n none .z (.n (some ([1, 3, 4], [1])) (.n none .z (.n none .z (.n none .z (.n none (.n (some ([1, 3, 4, 5, 43], [1, 5])) .z .z) (.n none .z (.n (some ([1, 3, 4, 5, 45, 46], [1, 5])) .z (.n none (.n (some ([1, 3, 4, 62], [1])) .z .z) (.n none .z (.n none (.n (some ([1, 3, 4, 79], [1])) .z .z) .z))))))))) .z)) .z)) .z)))),
  (16, .n none .z (.n none (.n none .z (.n (some ([2, 3, 5], [2, 3])) .z .z)) .z)),
  (17, .n none .z (.n none .z (.n none (.n none .z (.n (some ([0, 3, 4], [7])) .z .z)) .z))),
  (18, .n none .z (.n none .z (.n none (.n none .z (.n (some ([0, 3, 4], [7])) .z .z)) .z))),
  (19, .n none .z (.n none (.n (some ([1, 16], [1])) .z .z) (.n none (.n none .z (.n (some ([1, 18, 19, 20], [1])) (.n none .z (.n none .z (.n none (.n none .z (.n none (.n (some ([1, 4, 18, 19, 20, 48], [1, 4])) .z .z) (.n none .z (.n (some ([1, 4, 18, 19, 20, 50, 51, 52], [1, 4])) (.n none .z (.n none .z (.n none (.n none .z (.n (some ([1, 4, 18, 19, 20, 50, 51, 52, 68], [1, 4])) .z .z)) .z))) .z)))) .z))) .z)) .z))),
  (20, .n none .z (.n none .z (.n none (.n none .z (.n (some ([1, 3, 7, 8, 9], [1, 3])) (.n none .z (.n none .z (.n none (.n none .z (.n (some ([1, 3, 7, 8, 9, 21], [1, 3])) .z .z)) .z))) .z)) .z))),
  (21, .n none .z (.n none .z (.n none (.n none .z (.n (some ([2, 5, 13, 14, 15], [2, 5])) .z .z)) .z))),
  (22, .n none .z (.n none .z (.n none (.n none .z (.n (some ([0, 1, 5], [])) .z .z)) .z))),
  (23, .n none .z (.n none .z (.n none (.n none .z (.n (some ([0, 1, 5], [])) .z .z)) .z))),
  (27, .n none .z (.n none (.n none .z (.n (some ([1, 2, 5], [2])) .z .z)) .z)),
  (29, .n none .z (.n none (.n none .z (.n (some ([1, 2, 5], [2])) .z .z)) .z)),
  (30, .n none .z (.n none (.n none .z (.n (some ([1, 2, 5], [2])) .z .z)) .z)),
  (31, .n none .z (.n none .z (.n none (.n (some ([0, 1, 6, 17], [])) .z .z) (.n none (.n none .z (.n (some ([0, 1, 6, 7], [])) (.n none .z (.n none (.n none .z (.n none .z (.n none .z (.n none .z (.n (some ([0, 1, 6, 7, 48], [])) .z .z))))) .z)) .z)) .z)))),
  (32, .n none .z (.n none (.n none .z (.n (some ([2, 3, 4, 5, 9], [4, 5])) .z .z)) .z)),
  (37, .n none .z (.n none (.n none .z (.n (some ([0, 5, 6], [])) (.n none .z (.n none .z (.n none (.n none .z (.n (some ([0, 5, 6, 24], [])) .z .z)) .z))) .z)) .z)),
  (38, .n none .z (.n none (.n (some ([3, 33], [3])) .z .z) (.n none (.n none .z (.n (some ([3, 35, 36, 37], [3])) (.n none .z (.n none .z (.n none (.n none .z (.n (some ([3, 35, 36, 37, 53], [3])) .z .z)) .z))) .z)) .z))),
  (40, .n none .z (.n none (.n none .z (.n (some ([1, 4, 5], [1])) .z .z)) .z)),
  (41, .n none .z (.n none (.n (some ([0, 1, 2, 15], [])) .z .z) (.n none (.n none .z (.n (some ([1, 2, 16, 17, 18], [])) (.n none .z (.n none .z (.n none (.n none .z (.n none .z (.n (some ([1, 2, 16, 17, 18, 44], [])) .z .z))) .z))) .z)) .z))),
  (43, .n none .z (.n none .z (.n none .z (.n none (.n none .z (.n (some ([3, 7, 25, 26, 27], [3, 7])) .z .z)) .z)))),
  (46, .n none .z (.n none .z (.n none .z (.n none (.n none .z (.n (some ([0, 1, 5], [])) .z .z)) .z)))),
  (47, .n none .z (.n none .z (.n none .z (.n none (.n none .z (.n (some ([0, 1, 5], [])) .z .z)) .z)))),
  (48, .n none .z (.n none (.n (some ([0, 17], [])) .z .z) (.n none (.n none .z (.n (some ([0, 3], [])) (.n none .z (.n none (.n (some ([0, 3, 35], [])) .z .z) .z)) .z)) .z))),
  (49, .n none .z (.n none (.n none .z (.n (some ([1, 3], [1])) .z .z)) (.n none (.n none .z (.n (some ([1, 4], [1])) (.n none .z (.n none (.n (some ([1, 4, 44], [1])) .z .z) .z)) .z)) (.n none (.n (some ([1, 54], [1])) .z .z) .z)))),
  (50, .n none .z (.n none (.n none .z (.n (some ([2, 4, 5, 7, 9], [4, 5, 7])) (.n none .z (.n none (.n none .z (.n (some ([2, 4, 5, 7, 9, 36], [4, 5, 7])) .z .z)) .z)) .z)) (.n none (.n none .z (.n none .z (.n none (.n none .z (.n none (.n (some ([55], [])) .z .z) .z)) (.n none .z (.n none (.n none (.n (some ([2, 4, 5, 7, 66], [4, 5, 7])) .z .z) .z) .z))))) .z))),
  (51, .n none .z (.n none .z (.n none (.n none .z (.n (some ([0, 3, 4], [7])) .z .z)) .z))),
  (52, .n none .z (.n none .z (.n none (.n none .z (.n (some ([0, 3, 4], [7])) .z .z)) .z))),
  (53, .n none .z (.n none (.n none .z (.n (some ([0, 1, 7, 8], [])) .z .z)) .z)),
  (58, .n none .z (.n none (.n none .z (.n (some ([0, 1, 7, 8], [])) .z .z)) .z)),
  (61, .n none .z (.n none (.n (some ([1, 30], [1])) .z .z) (.n none .z (.n none .z (.n none (.n (some ([1, 40], [1])) .z .z) .z))))),
  (62, .n none .z (.n none .z (.n none (.n none .z (.n none .z (.n none (.n none (.n none .z (.n (some ([33], [])) .z .z)) .z) (.n none .z (.n none (.n none (.n (some ([4, 45], [4])) .z .z) .z) .z))))) .z))),
  (63, .n none .z (.n none (.n none .z (.n (some ([5, 6, 7], [])) .z .z)) .z)),
  (64, .n none .z (.n none .z (.n none (.n none .z (.n (some ([0, 1, 5], [])) .z .z)) .z))),
  (65, .n none .z (.n none .z (.n none (.n none .z (.n (some ([0, 1, 5], [])) .z .z)) .z))),
  (71, .n none .z (.n none (.n none .z (.n (some ([1, 2, 4, 6], [2, 4])) (.n none .z (.n none (.n (some ([1, 2, 4, 6, 30], [2, 4])) .z .z) .z)) .z)) .z)),
  (72, .n none .z (.n none (.n none .z (.n (some ([1, 2, 5], [2])) (.n none .z (.n none (.n none .z (.n none .z (.n none (.n (some ([1, 2, 5, 49], [2])) .z .z) (.n none .z (.n (some ([1, 2, 5, 8], [2])) .z .z))))) .z)) .z)) (.n none (.n none .z (.n (some ([1, 2, 9], [2])) (.n none .z (.n none (.n none .z (.n none (.n none .z (.n (some ([1, 2, 9, 10, 11], [2])) (.n none .z (.n (some ([1, 2, 9, 10, 11], [2])) .z .z)) .z)) .z)) .z)) .z)) .z))),
  (75, .n none .z (.n none (.n none .z (.n (some ([0, 1, 7, 8], [])) .z .z)) .z)),
  (87, .n none .z (.n none .z (.n none .z (.n none (.n none .z (.n (some ([0, 1, 5], [])) .z .z)) .z)))),
  (88, .n none .z (.n none .z (.n none .z (.n none (.n none .z (.n (some ([0, 1, 5], [])) .z .z)) .z)))),
  (89, .n none .z (.n none .z (.n none .z (.n none (.n none .z (.n (some ([0, 1, 5], [])) .z .z)) .z)))),
  (91, .n none .z (.n none .z (.n none (.n none .z (.n (some ([0, 3, 4], [7])) .z .z)) .z))),
  (92, .n none .z (.n none .z (.n none (.n none .z (.n (some ([0, 3, 4], [7])) .z .z)) .z))),
  (93, .n none .z (.n none .z (.n none (.n none .z (.n (some ([0, 3, 4], [7])) .z .z)) .z))),
  (95, .n none .z (.n none (.n none .z (.n (some ([0, 1, 7, 8], [])) .z .z)) .z)),
  (96, .n none .z (.n none (.n none .z (.n (some ([0, 1, 7, 8], [])) .z .z)) .z)),
  (97, .n none .z (.n none (.n none .z (.n (some ([0, 1, 7, 8], [])) .z .z)) .z)),
  (99, .n none .z (.n none (.n none .z (.n (some ([1, 2, 11, 12, 13], [2])) (.n none .z (.n none .z (.n none (.n none .z (.n none .z (.n none .z (.n (some ([1, 2, 11, 12, 13, 51], [2])) .z .z)))) .z))) .z)) (.n none (.n none .z (.n (some ([1, 54, 55, 56], [])) (.n none .z (.n none .z (.n none (.n none .z (.n (some ([1, 54, 55, 56, 67], [])) .z .z)) .z))) .z)) .z))),
  (100, .n none .z (.n none .z (.n none (.n none .z (.n (some ([0, 1, 5], [])) .z .z)) .z))),
  (101, .n none .z (.n none .z (.n none (.n none .z (.n (some ([0, 1, 5], [])) .z .z)) .z))),
  (102, .n none .z (.n none .z (.n none (.n none .z (.n (some ([0, 1, 5], [])) .z .z)) .z)))]
def annOf (f : FuncId) : Ann := match annTab.find? (fun p => p.1 == f) with
  | some p => p.2
  | none => .z
noncomputable def E0 : Env := ⟨Tryz.prog, annOf, dr1⟩
def F_laws_FnExactCheckTypes : FuncId := 3
def F_laws_szSchema : FuncId := 4
def F_laws_szDoc : FuncId := 5
def F_spec_CheckTypes : FuncId := 6
def F_laws_toSchema : FuncId := 7
def F_laws_toDoc : FuncId := 8
def F_impl_CheckTypes : FuncId := 9
def F_laws_eqSchema : FuncId := 10
def F_laws_eqDoc : FuncId := 11
def F_laws_szTypeDefS : FuncId := 12
def F_laws_szDefS : FuncId := 13
def F_spec_SchemaOK : FuncId := 14
def F_spec_DocOK : FuncId := 15
def F_spec_l04Types : FuncId := 16
def F_laws_toTypeDefS : FuncId := 17
def F_laws_toDefS : FuncId := 18
def F_impl_SchemaOK : FuncId := 19
def F_impl_DocOK : FuncId := 20
def F_impl_checkTypes : FuncId := 21
def F_laws_eqTypeDefS : FuncId := 22
def F_laws_eqDefS : FuncId := 23
def F_laws_szTypeDef : FuncId := 24
def F_laws_szDef : FuncId := 25
def F_spec_l01In : FuncId := 26
def F_spec_l03Find : FuncId := 27
def F_spec_NameOK : FuncId := 28
def F_spec_l03Field : FuncId := 29
def F_spec_l03Arg : FuncId := 30
def F_spec_l02Sels : FuncId := 31
def F_spec_l04Sels : FuncId := 32
def F_laws_toTypeDef : FuncId := 33
def F_laws_toDef : FuncId := 34
def F_impl_within : FuncId := 35
def F_impl_Schema_typeAt : FuncId := 36
def F_impl_NameOK : FuncId := 37
def F_impl_Schema_fieldOK : FuncId := 38
def F_impl_TypeDef_fieldAt : FuncId := 39
def F_impl_Def_isRight : FuncId := 40
def F_impl_areRight : FuncId := 41
def F_impl_Def_rootOf : FuncId := 42
def F_impl_checker_sels : FuncId := 43
def F_laws_eqTypeDef : FuncId := 44
def F_laws_eqDef : FuncId := 45
def F_laws_szFieldDefS : FuncId := 46
def F_laws_szSelS : FuncId := 47
def F_spec_l00Word : FuncId := 48
def F_spec_l02Sel : FuncId := 49
def F_spec_l04Sel : FuncId := 50
def F_laws_toFieldDefS : FuncId := 51
def F_laws_toSelS : FuncId := 52
def F_slices_IndexFunc_impl_TypeDef_impl_TypeDef : FuncId := 53
def F_impl_Schema_typeAt_1 : FuncId := 54
def F_impl_isLetter : FuncId := 55
def F_impl_isDigit : FuncId := 56
def F_impl_FieldDef_argAt : FuncId := 57
def F_slices_IndexFunc_impl_FieldDef_impl_FieldDef : FuncId := 58
def F_impl_TypeDef_fieldAt_1 : FuncId := 59
def F_impl_isNameOrNone : FuncId := 60
def F_impl_Sel_isRight : FuncId := 61
def F_impl_checker_sel : FuncId := 62
def F_impl_firstOf : FuncId := 63
def F_laws_eqFieldDefS : FuncId := 64
def F_laws_eqSelS : FuncId := 65
def F_laws_szFieldDef : FuncId := 66
def F_laws_szSel : FuncId := 67
def F_spec_l00Letter : FuncId := 68
def F_spec_l00Digit : FuncId := 69
def F_spec_ValueOK : FuncId := 70
def F_spec_l02Fragment : FuncId := 71
def F_spec_l04Args : FuncId := 72
def F_laws_toFieldDef : FuncId := 73
def F_laws_toSel : FuncId := 74
def F_slices_IndexFunc_impl_ArgDef_impl_ArgDef : FuncId := 75
def F_impl_FieldDef_argAt_1 : FuncId := 76
def F_impl_Sel_isRight_1 : FuncId := 77
def F_impl_ValueOK : FuncId := 78
def F_impl_Sel_isRight_2 : FuncId := 79
def F_slices_ContainsFunc_impl_Arg_impl_Arg : FuncId := 80
def F_slices_ContainsFunc_impl_Dir_impl_Dir : FuncId := 81
def F_impl_checker_sel_1 : FuncId := 82
def F_impl_Doc_fragment : FuncId := 83
def F_impl_checker_field : FuncId := 84
def F_laws_eqFieldDef : FuncId := 85
def F_laws_eqSel : FuncId := 86
def F_laws_szArgDefS : FuncId := 87
def F_laws_szArgS : FuncId := 88
def F_laws_szDirS : FuncId := 89
def F_spec_IsInt : FuncId := 90
def F_laws_toArgDefS : FuncId := 91
def F_laws_toArgS : FuncId := 92
def F_laws_toDirS : FuncId := 93
def F_impl_IsInt : FuncId := 94
def F_slices_IndexFunc_impl_Arg_impl_Arg : FuncId := 95
def F_slices_IndexFunc_impl_Dir_impl_Dir : FuncId := 96
def F_slices_IndexFunc_impl_Def_impl_Def : FuncId := 97
def F_impl_Doc_fragment_1 : FuncId := 98
def F_impl_argsCode : FuncId := 99
def F_laws_eqArgDefS : FuncId := 100
def F_laws_eqArgS : FuncId := 101
def F_laws_eqDirS : FuncId := 102
def F_laws_szArgDef : FuncId := 103
def F_laws_szArg : FuncId := 104
def F_laws_szDir : FuncId := 105
def F_laws_toArgDef : FuncId := 106
def F_laws_toArg : FuncId := 107
def F_laws_toDir : FuncId := 108
def F_impl_argsCode_1 : FuncId := 109
def F_impl_argsCode_2 : FuncId := 110
def F_laws_eqArgDef : FuncId := 111
def F_laws_eqArg : FuncId := 112
def F_laws_eqDir : FuncId := 113
def F_laws_szValue : FuncId := 114
def F_laws_toValue : FuncId := 115
def F_laws_eqValue : FuncId := 116

/-! laws.FnExactCheckTypes -/
noncomputable def laws_FnExactCheckTypes_0 (l0 : List (List Pd)) (l1 : List (List Pd)) : Option Res := pt E0 F_laws_FnExactCheckTypes [] ⟨tl ud [(0, .p (.agg 1 [.sl 2 l0])), (1, .p (.agg 1 [.sl 4 l1]))] 0 58, tl .none [] 0 58, []⟩
noncomputable def laws_FnExactCheckTypes_1 (b0 : Bool) (l1 : List (List Pd)) (l2 : List (List Pd)) (c3 : List Pd) (c4 : List Pd) : Option Res := pt E0 F_laws_FnExactCheckTypes [1, 1, 1, 1, 1, 1, 1, 1, 1, 1, 0, 1] ⟨tl ud [(2, .ptr (.loc 2) 0), (3, .ptr (.loc 3) 0), (8, .ptr (.loc 8) 0), (9, .ptr (.loc 9) 0), (47, .p (.bool (b0)))] 0 58, tl .none [(2, .box 1 [.sl 2 l1]), (3, .box 1 [.sl 4 l2]), (8, .box 1 c3), (9, .box 1 c4)] 0 58, []⟩
theorem laws_FnExactCheckTypes_0_ev (l0 : List (List Pd)) (l1 : List (List Pd)) : ev E0 F_laws_FnExactCheckTypes [.p (.agg 1 [.sl 2 l0]), .p (.agg 1 [.sl 4 l1])] [] = laws_FnExactCheckTypes_0 l0 l1 := (ev_eq _ _ _ _).trans (by kernel_rfl)
theorem laws_FnExactCheckTypes_0_eq (l0 : List (List Pd)) (l1 : List (List Pd)) : laws_FnExactCheckTypes_0 l0 l1 =
    (ev E0 F_laws_szSchema [.p (.agg 1 [.sl 2 l0]), .p (.int .i64 (1048576))] []).bind fun r103 => (asInt .i64 (pAt 0 r103.1)).bind fun n104 => if r103.1.length = 1 then (bif decide ((n104 : Int) < 0) then (some ([.p (.bool (true))], [])) else ((ev E0 F_laws_szDoc [.p (.agg 1 [.sl 4 l1]), .p (.int .i64 (n104))] []).bind fun r105 => (asInt .i64 (pAt 0 r105.1)).bind fun n106 => if r105.1.length = 1 then (bif decide ((n106 : Int) < 0) then (some ([.p (.bool (true))], [])) else ((ev E0 F_laws_toSchema [.p (.agg 1 [.sl 2 l0])] []).bind fun r107 => (asAgg 1 (pAt 0 r107.1)).bind fun c108 => if r107.1.length = 1 then ((ev E0 F_laws_toDoc [.p (.agg 1 [.sl 4 l1])] []).bind fun r109 => (asAgg 1 (pAt 0 r109.1)).bind fun c110 => if r109.1.length = 1 then ((ev E0 F_spec_CheckTypes [.p (.agg 1 c108), .p (.agg 1 c110)] []).bind fun r111 => (asInt .i64 (pAt 0 r111.1)).bind fun n112 => (asInt .i64 (pAt 1 r111.1)).bind fun n113 => if r111.1.length = 2 then ((ev E0 F_laws_toSchema [.p (.agg 1 [.sl 2 l0])] []).bind fun r114 => (asAgg 1 (pAt 0 r114.1)).bind fun c115 => if r114.1.length = 1 then ((ev E0 F_laws_toDoc [.p (.agg 1 [.sl 4 l1])] []).bind fun r116 => (asAgg 1 (pAt 0 r116.1)).bind fun c117 => if r116.1.length = 1 then ((ev E0 F_impl_CheckTypes [.p (.agg 1 c115), .p (.agg 1 c117)] []).bind fun r118 => (asInt .i64 (pAt 0 r118.1)).bind fun n119 => (asInt .i64 (pAt 1 r118.1)).bind fun n120 => if r118.1.length = 2 then (bif (n119 : Int) != n112 then (laws_FnExactCheckTypes_1 true l0 l1 c115 c117) else (laws_FnExactCheckTypes_1 ((n120 : Int) != n113) l0 l1 c115 c117)) else none) else none) else none) else none) else none) else none)) else none)) else none := by kernel_rfl
theorem laws_FnExactCheckTypes_1_eq (b0 : Bool) (l1 : List (List Pd)) (l2 : List (List Pd)) (c3 : List Pd) (c4 : List Pd) : laws_FnExactCheckTypes_1 b0 l1 l2 c3 c4 =
    bif b0 then (some ([.p (.bool (false))], [])) else ((ev E0 F_laws_toSchema [.p (.agg 1 [.sl 2 l1])] []).bind fun r106 => (asAgg 1 (pAt 0 r106.1)).bind fun c107 => if r106.1.length = 1 then ((ev E0 F_laws_eqSchema [.p (.agg 1 c3), .p (.agg 1 c107)] []).bind fun r108 => (asBool (pAt 0 r108.1)).bind fun b109 => if r108.1.length = 1 then (bif !(b109) then (some ([.p (.bool (false))], [])) else ((ev E0 F_laws_toDoc [.p (.agg 1 [.sl 4 l2])] []).bind fun r110 => (asAgg 1 (pAt 0 r110.1)).bind fun c111 => if r110.1.length = 1 then ((ev E0 F_laws_eqDoc [.p (.agg 1 c4), .p (.agg 1 c111)] []).bind fun r112 => (asBool (pAt 0 r112.1)).bind fun b113 => if r112.1.length = 1 then (bif !(b113) then (some ([.p (.bool (false))], [])) else (some ([.p (.bool (true))], []))) else none) else none)) else none) else none) := by kernel_rfl

/-! laws.szSchema -/
noncomputable def laws_szSchema_0 (l0 : List (List Pd)) (n1 : Int) : Option Res := pt E0 F_laws_szSchema [] ⟨tl ud [(0, .p (.agg 1 [.sl 2 l0])), (1, .p (.int .i64 (n1)))] 0 12, tl .none [] 0 12, []⟩
theorem laws_szSchema_0_ev (l0 : List (List Pd)) (n1 : Int) : ev E0 F_laws_szSchema [.p (.agg 1 [.sl 2 l0]), .p (.int .i64 (n1))] [] = laws_szSchema_0 l0 n1 := (ev_eq _ _ _ _).trans (by kernel_rfl)
theorem laws_szSchema_0_eq (l0 : List (List Pd)) (n1 : Int) : laws_szSchema_0 l0 n1 =
    (ev E0 F_laws_szTypeDefS [.p (.sl 2 l0), .p (.int .i64 (n1))] []).bind fun r103 => (asInt .i64 (pAt 0 r103.1)).bind fun n104 => if r103.1.length = 1 then (bif decide ((n104 : Int) < 0) then (some ([.p (.int .i64 (-1))], [])) else (some ([.p (.int .i64 (n104))], []))) else none := by kernel_rfl

/-! laws.szDoc -/
noncomputable def laws_szDoc_0 (l0 : List (List Pd)) (n1 : Int) : Option Res := pt E0 F_laws_szDoc [] ⟨tl ud [(0, .p (.agg 1 [.sl 4 l0])), (1, .p (.int .i64 (n1)))] 0 12, tl .none [] 0 12, []⟩
theorem laws_szDoc_0_ev (l0 : List (List Pd)) (n1 : Int) : ev E0 F_laws_szDoc [.p (.agg 1 [.sl 4 l0]), .p (.int .i64 (n1))] [] = laws_szDoc_0 l0 n1 := (ev_eq _ _ _ _).trans (by kernel_rfl)
theorem laws_szDoc_0_eq (l0 : List (List Pd)) (n1 : Int) : laws_szDoc_0 l0 n1 =
    (ev E0 F_laws_szDefS [.p (.sl 4 l0), .p (.int .i64 (n1))] []).bind fun r103 => (asInt .i64 (pAt 0 r103.1)).bind fun n104 => if r103.1.length = 1 then (bif decide ((n104 : Int) < 0) then (some ([.p (.int .i64 (-1))], [])) else (some ([.p (.int .i64 (n104))], []))) else none := by kernel_rfl

/-! spec.CheckTypes -/
noncomputable def spec_CheckTypes_0 (l0 : List (List Pd)) (l1 : List (List Pd)) : Option Res := pt E0 F_spec_CheckTypes [] ⟨tl ud [(0, .p (.agg 1 [.sl 2 l0])), (1, .p (.agg 1 [.sl 4 l1]))] 0 17, tl .none [] 0 17, []⟩
noncomputable def spec_CheckTypes_1 (b0 : Bool) (l1 : List (List Pd)) (l2 : List (List Pd)) : Option Res := pt E0 F_spec_CheckTypes [1, 0, 1] ⟨tl ud [(2, .ptr (.loc 2) 0), (3, .ptr (.loc 3) 0), (13, .p (.bool (b0)))] 0 17, tl .none [(2, .box 1 [.sl 2 l1]), (3, .box 1 [.sl 4 l2])] 0 17, []⟩
theorem spec_CheckTypes_0_ev (l0 : List (List Pd)) (l1 : List (List Pd)) : ev E0 F_spec_CheckTypes [.p (.agg 1 [.sl 2 l0]), .p (.agg 1 [.sl 4 l1])] [] = spec_CheckTypes_0 l0 l1 := (ev_eq _ _ _ _).trans (by kernel_rfl)
theorem spec_CheckTypes_0_eq (l0 : List (List Pd)) (l1 : List (List Pd)) : spec_CheckTypes_0 l0 l1 =
    (ev E0 F_spec_SchemaOK [.p (.agg 1 [.sl 2 l0])] []).bind fun r103 => (asBool (pAt 0 r103.1)).bind fun b104 => if r103.1.length = 1 then (bif !(b104) then (spec_CheckTypes_1 true l0 l1) else ((ev E0 F_spec_DocOK [.p (.agg 1 [.sl 4 l1])] []).bind fun r105 => (asBool (pAt 0 r105.1)).bind fun b106 => if r105.1.length = 1 then (spec_CheckTypes_1 (!(b106)) l0 l1) else none)) else none := by kernel_rfl
theorem spec_CheckTypes_1_eq (b0 : Bool) (l1 : List (List Pd)) (l2 : List (List Pd)) : spec_CheckTypes_1 b0 l1 l2 =
    bif b0 then (some ([.p (.int .i64 (0)), .p (.int .i64 (1))], [])) else ((ev E0 F_spec_l04Types [.p (.agg 1 [.sl 2 l1]), .p (.agg 1 [.sl 4 l2])] []).bind fun r104 => (asInt .i64 (pAt 0 r104.1)).bind fun n105 => if r104.1.length = 1 then (some ([.p (.int .i64 (n105)), .p (.int .i64 (0))], [])) else none) := by kernel_rfl

/-! laws.toSchema -/
noncomputable def laws_toSchema_0 (l0 : List (List Pd)) : Option Res := pt E0 F_laws_toSchema [] ⟨tl ud [(0, .p (.agg 1 [.sl 2 l0]))] 0 9, tl .none [] 0 9, []⟩
theorem laws_toSchema_0_ev (l0 : List (List Pd)) : ev E0 F_laws_toSchema [.p (.agg 1 [.sl 2 l0])] [] = laws_toSchema_0 l0 := (ev_eq _ _ _ _).trans (by kernel_rfl)
theorem laws_toSchema_0_eq (l0 : List (List Pd)) : laws_toSchema_0 l0 =
    (ev E0 F_laws_toTypeDefS [.p (.sl 2 l0)] []).bind fun r102 => (asSl 2 (pAt 0 r102.1)).bind fun l103 => if r102.1.length = 1 then (some ([.p (.agg 1 [.sl 2 l103])], [])) else none := by kernel_rfl

/-! laws.toDoc -/
noncomputable def laws_toDoc_0 (l0 : List (List Pd)) : Option Res := pt E0 F_laws_toDoc [] ⟨tl ud [(0, .p (.agg 1 [.sl 4 l0]))] 0 9, tl .none [] 0 9, []⟩
theorem laws_toDoc_0_ev (l0 : List (List Pd)) : ev E0 F_laws_toDoc [.p (.agg 1 [.sl 4 l0])] [] = laws_toDoc_0 l0 := (ev_eq _ _ _ _).trans (by kernel_rfl)
theorem laws_toDoc_0_eq (l0 : List (List Pd)) : laws_toDoc_0 l0 =
    (ev E0 F_laws_toDefS [.p (.sl 4 l0)] []).bind fun r102 => (asSl 4 (pAt 0 r102.1)).bind fun l103 => if r102.1.length = 1 then (some ([.p (.agg 1 [.sl 4 l103])], [])) else none := by kernel_rfl

/-! impl.CheckTypes -/
noncomputable def impl_CheckTypes_0 (l0 : List (List Pd)) (l1 : List (List Pd)) : Option Res := pt E0 F_impl_CheckTypes [] ⟨tl ud [(0, .p (.agg 1 [.sl 2 l0])), (1, .p (.agg 1 [.sl 4 l1]))] 0 17, tl .none [] 0 17, []⟩
noncomputable def impl_CheckTypes_1 (b0 : Bool) (l1 : List (List Pd)) (l2 : List (List Pd)) : Option Res := pt E0 F_impl_CheckTypes [1, 0, 1] ⟨tl ud [(2, .ptr (.loc 2) 0), (3, .ptr (.loc 3) 0), (13, .p (.bool (b0)))] 0 17, tl .none [(2, .box 1 [.sl 2 l1]), (3, .box 1 [.sl 4 l2])] 0 17, []⟩
theorem impl_CheckTypes_0_ev (l0 : List (List Pd)) (l1 : List (List Pd)) : ev E0 F_impl_CheckTypes [.p (.agg 1 [.sl 2 l0]), .p (.agg 1 [.sl 4 l1])] [] = impl_CheckTypes_0 l0 l1 := (ev_eq _ _ _ _).trans (by kernel_rfl)
theorem impl_CheckTypes_0_eq (l0 : List (List Pd)) (l1 : List (List Pd)) : impl_CheckTypes_0 l0 l1 =
    (ev E0 F_impl_SchemaOK [.p (.agg 1 [.sl 2 l0])] []).bind fun r103 => (asBool (pAt 0 r103.1)).bind fun b104 => if r103.1.length = 1 then (bif !(b104) then (impl_CheckTypes_1 true l0 l1) else ((ev E0 F_impl_DocOK [.p (.agg 1 [.sl 4 l1])] []).bind fun r105 => (asBool (pAt 0 r105.1)).bind fun b106 => if r105.1.length = 1 then (impl_CheckTypes_1 (!(b106)) l0 l1) else none)) else none := by kernel_rfl
theorem impl_CheckTypes_1_eq (b0 : Bool) (l1 : List (List Pd)) (l2 : List (List Pd)) : impl_CheckTypes_1 b0 l1 l2 =
    bif b0 then (some ([.p (.int .i64 (0)), .p (.int .i64 (1))], [])) else ((ev E0 F_impl_checkTypes [.p (.agg 1 [.sl 2 l1]), .p (.agg 1 [.sl 4 l2])] []).bind fun r104 => (asInt .i64 (pAt 0 r104.1)).bind fun n105 => if r104.1.length = 1 then (some ([.p (.int .i64 (n105)), .p (.int .i64 (0))], [])) else none) := by kernel_rfl

/-! laws.eqSchema -/
noncomputable def laws_eqSchema_0 (l0 : List (List Pd)) (l1 : List (List Pd)) : Option Res := pt E0 F_laws_eqSchema [] ⟨tl ud [(0, .p (.agg 1 [.sl 2 l0])), (1, .p (.agg 1 [.sl 2 l1]))] 0 11, tl .none [] 0 11, []⟩
theorem laws_eqSchema_0_ev (l0 : List (List Pd)) (l1 : List (List Pd)) : ev E0 F_laws_eqSchema [.p (.agg 1 [.sl 2 l0]), .p (.agg 1 [.sl 2 l1])] [] = laws_eqSchema_0 l0 l1 := (ev_eq _ _ _ _).trans (by kernel_rfl)
theorem laws_eqSchema_0_eq (l0 : List (List Pd)) (l1 : List (List Pd)) : laws_eqSchema_0 l0 l1 =
    (ev E0 F_laws_eqTypeDefS [.p (.sl 2 l0), .p (.sl 2 l1)] []).bind fun r103 => (asBool (pAt 0 r103.1)).bind fun b104 => if r103.1.length = 1 then (bif !(b104) then (some ([.p (.bool (false))], [])) else (some ([.p (.bool (true))], []))) else none := by kernel_rfl

/-! laws.eqDoc -/
noncomputable def laws_eqDoc_0 (l0 : List (List Pd)) (l1 : List (List Pd)) : Option Res := pt E0 F_laws_eqDoc [] ⟨tl ud [(0, .p (.agg 1 [.sl 4 l0])), (1, .p (.agg 1 [.sl 4 l1]))] 0 11, tl .none [] 0 11, []⟩
theorem laws_eqDoc_0_ev (l0 : List (List Pd)) (l1 : List (List Pd)) : ev E0 F_laws_eqDoc [.p (.agg 1 [.sl 4 l0]), .p (.agg 1 [.sl 4 l1])] [] = laws_eqDoc_0 l0 l1 := (ev_eq _ _ _ _).trans (by kernel_rfl)
theorem laws_eqDoc_0_eq (l0 : List (List Pd)) (l1 : List (List Pd)) : laws_eqDoc_0 l0 l1 =
    (ev E0 F_laws_eqDefS [.p (.sl 4 l0), .p (.sl 4 l1)] []).bind fun r103 => (asBool (pAt 0 r103.1)).bind fun b104 => if r103.1.length = 1 then (bif !(b104) then (some ([.p (.bool (false))], [])) else (some ([.p (.bool (true))], []))) else none := by kernel_rfl

/-! laws.szTypeDefS -/
noncomputable def laws_szTypeDefS_0 (l0 : List (List Pd)) (n1 : Int) : Option Res := pt E0 F_laws_szTypeDefS [] ⟨tl ud [(0, .p (.sl 2 l0)), (1, .p (.int .i64 (n1)))] 0 27, tl .none [] 0 27, []⟩
noncomputable def laws_szTypeDefS_1 (l0 : List (List Pd)) (n1 : Int) (n2 : Int) : Option Res := pt E0 F_laws_szTypeDefS [1, 1, 1, 0, 1, 0, 2] ⟨tl ud [(0, .p (.sl 2 l0)), (1, .p (.int .i64 (n1))), (5, .p (.int .i64 (n2)))] 0 27, tl .none [] 0 27, []⟩
theorem laws_szTypeDefS_0_ev (l0 : List (List Pd)) (n1 : Int) : ev E0 F_laws_szTypeDefS [.p (.sl 2 l0), .p (.int .i64 (n1))] [] = laws_szTypeDefS_0 l0 n1 := (ev_eq _ _ _ _).trans (by kernel_rfl)
theorem laws_szTypeDefS_0_eq (l0 : List (List Pd)) (n1 : Int) : laws_szTypeDefS_0 l0 n1 =
    bif decide ((IntKind.i64.wrap (n1 - (l0.length : Int)) : Int) < 0) then (some ([.p (.int .i64 (-1))], [])) else (laws_szTypeDefS_1 l0 (IntKind.i64.wrap (n1 - (l0.length : Int))) 0) := by kernel_rfl
theorem laws_szTypeDefS_1_eq (l0 : List (List Pd)) (n1 : Int) (n2 : Int) : laws_szTypeDefS_1 l0 n1 n2 =
    bif decide ((n2 : Int) < (l0.length : Int)) then (if 0 ≤ (n2 : Int) ∧ (n2 : Int) < (l0.length : Int) then ((ev E0 F_laws_szTypeDef [.p (.agg 2 (l0.getD (n2 : Int).toNat [])), .p (.int .i64 (n1))] []).bind fun r104 => (asInt .i64 (pAt 0 r104.1)).bind fun n105 => if r104.1.length = 1 then (bif decide ((n105 : Int) < 0) then (some ([.p (.int .i64 (-1))], [])) else (laws_szTypeDefS_1 l0 n105 (IntKind.i64.wrap (n2 + 1)))) else none) else none) else (some ([.p (.int .i64 (n1))], [])) := (pt_loop E0 F_laws_szTypeDefS [1, 1, 1, 0, 1, 0] _ (by kernel_rfl)).trans (by kernel_rfl)

/-! laws.szDefS -/
noncomputable def laws_szDefS_0 (l0 : List (List Pd)) (n1 : Int) : Option Res := pt E0 F_laws_szDefS [] ⟨tl ud [(0, .p (.sl 4 l0)), (1, .p (.int .i64 (n1)))] 0 27, tl .none [] 0 27, []⟩
noncomputable def laws_szDefS_1 (l0 : List (List Pd)) (n1 : Int) (n2 : Int) : Option Res := pt E0 F_laws_szDefS [1, 1, 1, 0, 1, 0, 2] ⟨tl ud [(0, .p (.sl 4 l0)), (1, .p (.int .i64 (n1))), (5, .p (.int .i64 (n2)))] 0 27, tl .none [] 0 27, []⟩
theorem laws_szDefS_0_ev (l0 : List (List Pd)) (n1 : Int) : ev E0 F_laws_szDefS [.p (.sl 4 l0), .p (.int .i64 (n1))] [] = laws_szDefS_0 l0 n1 := (ev_eq _ _ _ _).trans (by kernel_rfl)
theorem laws_szDefS_0_eq (l0 : List (List Pd)) (n1 : Int) : laws_szDefS_0 l0 n1 =
    bif decide ((IntKind.i64.wrap (n1 - (l0.length : Int)) : Int) < 0) then (some ([.p (.int .i64 (-1))], [])) else (laws_szDefS_1 l0 (IntKind.i64.wrap (n1 - (l0.length : Int))) 0) := by kernel_rfl
theorem laws_szDefS_1_eq (l0 : List (List Pd)) (n1 : Int) (n2 : Int) : laws_szDefS_1 l0 n1 n2 =
    bif decide ((n2 : Int) < (l0.length : Int)) then (if 0 ≤ (n2 : Int) ∧ (n2 : Int) < (l0.length : Int) then ((ev E0 F_laws_szDef [.p (.agg 4 (l0.getD (n2 : Int).toNat [])), .p (.int .i64 (n1))] []).bind fun r104 => (asInt .i64 (pAt 0 r104.1)).bind fun n105 => if r104.1.length = 1 then (bif decide ((n105 : Int) < 0) then (some ([.p (.int .i64 (-1))], [])) else (laws_szDefS_1 l0 n105 (IntKind.i64.wrap (n2 + 1)))) else none) else none) else (some ([.p (.int .i64 (n1))], [])) := (pt_loop E0 F_laws_szDefS [1, 1, 1, 0, 1, 0] _ (by kernel_rfl)).trans (by kernel_rfl)

/-! spec.SchemaOK -/
noncomputable def spec_SchemaOK_0 (l0 : List (List Pd)) : Option Res := pt E0 F_spec_SchemaOK [] ⟨tl ud [(0, .p (.agg 1 [.sl 2 l0]))] 0 128, tl .none [] 0 128, []⟩
noncomputable def spec_SchemaOK_1 (b0 : Bool) (l1 : List (List Pd)) : Option Res := pt E0 F_spec_SchemaOK [1, 0, 1] ⟨tl ud [(1, .ptr (.loc 1) 0), (17, .p (.bool (b0)))] 0 128, tl .none [(1, .box 1 [.sl 2 l1])] 0 128, []⟩
noncomputable def spec_SchemaOK_2 (n0 : Int) (l1 : List (List Pd)) : Option Res := pt E0 F_spec_SchemaOK [1, 1, 0, 1, 0, 2] ⟨tl ud [(1, .ptr (.loc 1) 0), (3, .p (.int .i64 (n0)))] 0 128, tl .none [(1, .box 1 [.sl 2 l1])] 0 128, []⟩
noncomputable def spec_SchemaOK_3 (n0 : Int) (b1 : Bool) (l2 : List (List Pd)) (c3 : List Pd) : Option Res := pt E0 F_spec_SchemaOK [1, 1, 0, 1, 0, 0, 1, 0, 0, 1, 0, 1] ⟨tl ud [(1, .ptr (.loc 1) 0), (3, .p (.int .i64 (n0))), (4, .ptr (.loc 4) 0), (53, .p (.bool (b1)))] 0 128, tl .none [(1, .box 1 [.sl 2 l2]), (4, .box 2 c3)] 0 128, []⟩
noncomputable def spec_SchemaOK_4 (n0 : Int) (n1 : Int) (l2 : List (List Pd)) (c3 : List Pd) : Option Res := pt E0 F_spec_SchemaOK [1, 1, 0, 1, 0, 0, 1, 0, 0, 1, 1, 1, 0, 2] ⟨tl ud [(1, .ptr (.loc 1) 0), (3, .p (.int .i64 (n0))), (4, .ptr (.loc 4) 0), (5, .p (.int .i64 (n1)))] 0 128, tl .none [(1, .box 1 [.sl 2 l2]), (4, .box 2 c3)] 0 128, []⟩
noncomputable def spec_SchemaOK_5 (n0 : Int) (n1 : Int) (b2 : Bool) (l3 : List (List Pd)) (c4 : List Pd) (c5 : List Pd) : Option Res := pt E0 F_spec_SchemaOK [1, 1, 0, 1, 0, 0, 1, 0, 0, 1, 1, 1, 0, 0, 1, 0, 0, 1, 0, 1] ⟨tl ud [(1, .ptr (.loc 1) 0), (3, .p (.int .i64 (n0))), (4, .ptr (.loc 4) 0), (5, .p (.int .i64 (n1))), (6, .ptr (.loc 6) 0), (100, .p (.bool (b2)))] 0 128, tl .none [(1, .box 1 [.sl 2 l3]), (4, .box 2 c4), (6, .box 5 c5)] 0 128, []⟩
noncomputable def spec_SchemaOK_6 (n0 : Int) (n1 : Int) (n2 : Int) (l3 : List (List Pd)) (c4 : List Pd) (c5 : List Pd) : Option Res := pt E0 F_spec_SchemaOK [1, 1, 0, 1, 0, 0, 1, 0, 0, 1, 1, 1, 0, 0, 1, 0, 0, 1, 1, 1, 0, 2] ⟨tl ud [(1, .ptr (.loc 1) 0), (3, .p (.int .i64 (n0))), (4, .ptr (.loc 4) 0), (5, .p (.int .i64 (n1))), (6, .ptr (.loc 6) 0), (7, .p (.int .i64 (n2)))] 0 128, tl .none [(1, .box 1 [.sl 2 l3]), (4, .box 2 c4), (6, .box 5 c5)] 0 128, []⟩
noncomputable def spec_SchemaOK_7 (n0 : Int) (n1 : Int) (n2 : Int) (b3 : Bool) (l4 : List (List Pd)) (c5 : List Pd) (c6 : List Pd) : Option Res := pt E0 F_spec_SchemaOK [1, 1, 0, 1, 0, 0, 1, 0, 0, 1, 1, 1, 0, 0, 1, 0, 0, 1, 1, 1, 0, 0, 1, 0, 0, 1] ⟨tl ud [(1, .ptr (.loc 1) 0), (3, .p (.int .i64 (n0))), (4, .ptr (.loc 4) 0), (5, .p (.int .i64 (n1))), (6, .ptr (.loc 6) 0), (7, .p (.int .i64 (n2))), (127, .p (.bool (b3)))] 0 128, tl .none [(1, .box 1 [.sl 2 l4]), (4, .box 2 c5), (6, .box 5 c6)] 0 128, []⟩
theorem spec_SchemaOK_0_ev (l0 : List (List Pd)) : ev E0 F_spec_SchemaOK [.p (.agg 1 [.sl 2 l0])] [] = spec_SchemaOK_0 l0 := (ev_eq _ _ _ _).trans (by kernel_rfl)
theorem spec_SchemaOK_0_eq (l0 : List (List Pd)) : spec_SchemaOK_0 l0 =
    (ev E0 F_spec_l01In [.p (.int .i64 ((l0.length : Int))), .p (.int .i64 (1)), .p (.int .i64 (8))] []).bind fun r102 => (asBool (pAt 0 r102.1)).bind fun b103 => if r102.1.length = 1 then (bif !(b103) then (spec_SchemaOK_1 true l0) else ((ev E0 F_spec_l03Find [.p (.agg 1 [.sl 2 l0]), .p (.str (⟨#[81, 117, 101, 114, 121]⟩ : ByteArray))] []).bind fun r104 => (asInt .i64 (pAt 0 r104.1)).bind fun n105 => if r104.1.length = 1 then (spec_SchemaOK_1 (decide ((n105 : Int) < 0)) l0) else none)) else none := by kernel_rfl
theorem spec_SchemaOK_1_eq (b0 : Bool) (l1 : List (List Pd)) : spec_SchemaOK_1 b0 l1 =
    bif b0 then (some ([.p (.bool (false))], [])) else (spec_SchemaOK_2 0 l1) := by kernel_rfl
theorem spec_SchemaOK_2_eq (n0 : Int) (l1 : List (List Pd)) : spec_SchemaOK_2 n0 l1 =
    bif decide ((n0 : Int) < (l1.length : Int)) then (if 0 ≤ (n0 : Int) ∧ (n0 : Int) < (l1.length : Int) then ((asStr (((l1.getD (n0 : Int).toNat []).getD 0 .undef))).bind fun s103 => (ev E0 F_spec_NameOK [.p (.str s103)] []).bind fun r104 => (asBool (pAt 0 r104.1)).bind fun b105 => if r104.1.length = 1 then (bif !(b105) then (spec_SchemaOK_3 n0 true l1 (l1.getD (n0 : Int).toNat [])) else ((asStr (((l1.getD (n0 : Int).toNat []).getD 0 .undef))).bind fun s106 => bif decide (s106 = (⟨#[73, 110, 116]⟩ : ByteArray)) then (spec_SchemaOK_3 n0 true l1 (l1.getD (n0 : Int).toNat [])) else ((asStr (((l1.getD (n0 : Int).toNat []).getD 0 .undef))).bind fun s107 => (ev E0 F_spec_l03Find [.p (.agg 1 [.sl 2 l1]), .p (.str s107)] []).bind fun r108 => (asInt .i64 (pAt 0 r108.1)).bind fun n109 => if r108.1.length = 1 then (bif (n109 : Int) != n0 then (spec_SchemaOK_3 n0 true l1 (l1.getD (n0 : Int).toNat [])) else ((asSl 5 (((l1.getD (n0 : Int).toNat []).getD 1 .undef))).bind fun l110 => (ev E0 F_spec_l01In [.p (.int .i64 ((l110.length : Int))), .p (.int .i64 (1)), .p (.int .i64 (10))] []).bind fun r111 => (asBool (pAt 0 r111.1)).bind fun b112 => if r111.1.length = 1 then (spec_SchemaOK_3 n0 (!(b112)) l1 (l1.getD (n0 : Int).toNat [])) else none)) else none))) else none) else none) else (some ([.p (.bool (true))], [])) := (pt_loop E0 F_spec_SchemaOK [1, 1, 0, 1, 0] _ (by kernel_rfl)).trans (by kernel_rfl)
theorem spec_SchemaOK_3_eq (n0 : Int) (b1 : Bool) (l2 : List (List Pd)) (c3 : List Pd) : spec_SchemaOK_3 n0 b1 l2 c3 =
    bif b1 then (some ([.p (.bool (false))], [])) else (spec_SchemaOK_4 n0 0 l2 c3) := by kernel_rfl
theorem spec_SchemaOK_4_eq (n0 : Int) (n1 : Int) (l2 : List (List Pd)) (c3 : List Pd) : spec_SchemaOK_4 n0 n1 l2 c3 =
    (asSl 5 (c3.getD 1 .undef)).bind fun l105 => bif decide ((n1 : Int) < (l105.length : Int)) then ((asSl 5 (c3.getD 1 .undef)).bind fun l106 => if 0 ≤ (n1 : Int) ∧ (n1 : Int) < (l106.length : Int) then ((asStr (((l106.getD (n1 : Int).toNat []).getD 0 .undef))).bind fun s107 => (ev E0 F_spec_NameOK [.p (.str s107)] []).bind fun r108 => (asBool (pAt 0 r108.1)).bind fun b109 => if r108.1.length = 1 then (bif !(b109) then (spec_SchemaOK_5 n0 n1 true l2 c3 (l106.getD (n1 : Int).toNat [])) else ((asStr (((l106.getD (n1 : Int).toNat []).getD 0 .undef))).bind fun s110 => bif decide (s110 = (⟨#[95, 95, 116, 121, 112, 101, 110, 97, 109, 101]⟩ : ByteArray)) then (spec_SchemaOK_5 n0 n1 true l2 c3 (l106.getD (n1 : Int).toNat [])) else ((asStr (((l106.getD (n1 : Int).toNat []).getD 0 .undef))).bind fun s111 => (ev E0 F_spec_l03Field [.p (.agg 2 c3), .p (.str s111)] []).bind fun r112 => (asInt .i64 (pAt 0 r112.1)).bind fun n113 => if r112.1.length = 1 then (bif (n113 : Int) != n1 then (spec_SchemaOK_5 n0 n1 true l2 c3 (l106.getD (n1 : Int).toNat [])) else ((asStr (((l106.getD (n1 : Int).toNat []).getD 2 .undef))).bind fun s114 => bif !decide (s114 = (⟨#[73, 110, 116]⟩ : ByteArray)) then ((asStr (((l106.getD (n1 : Int).toNat []).getD 2 .undef))).bind fun s115 => (ev E0 F_spec_l03Find [.p (.agg 1 [.sl 2 l2]), .p (.str s115)] []).bind fun r116 => (asInt .i64 (pAt 0 r116.1)).bind fun n117 => if r116.1.length = 1 then (bif decide ((n117 : Int) < 0) then (spec_SchemaOK_5 n0 n1 true l2 c3 (l106.getD (n1 : Int).toNat [])) else ((asSl 2 (((l106.getD (n1 : Int).toNat []).getD 1 .undef))).bind fun l118 => spec_SchemaOK_5 n0 n1 (decide (((l118.length : Int) : Int) > 4)) l2 c3 (l106.getD (n1 : Int).toNat []))) else none) else ((asSl 2 (((l106.getD (n1 : Int).toNat []).getD 1 .undef))).bind fun l119 => spec_SchemaOK_5 n0 n1 (decide (((l119.length : Int) : Int) > 4)) l2 c3 (l106.getD (n1 : Int).toNat [])))) else none))) else none) else none) else (spec_SchemaOK_2 (IntKind.i64.wrap (n0 + 1)) l2) := (pt_loop E0 F_spec_SchemaOK [1, 1, 0, 1, 0, 0, 1, 0, 0, 1, 1, 1, 0] _ (by kernel_rfl)).trans (by kernel_rfl)
theorem spec_SchemaOK_5_eq (n0 : Int) (n1 : Int) (b2 : Bool) (l3 : List (List Pd)) (c4 : List Pd) (c5 : List Pd) : spec_SchemaOK_5 n0 n1 b2 l3 c4 c5 =
    bif b2 then (some ([.p (.bool (false))], [])) else (spec_SchemaOK_6 n0 n1 0 l3 c4 c5) := by kernel_rfl
theorem spec_SchemaOK_6_eq (n0 : Int) (n1 : Int) (n2 : Int) (l3 : List (List Pd)) (c4 : List Pd) (c5 : List Pd) : spec_SchemaOK_6 n0 n1 n2 l3 c4 c5 =
    (asSl 2 (c5.getD 1 .undef)).bind fun l107 => bif decide ((n2 : Int) < (l107.length : Int)) then ((asSl 2 (c5.getD 1 .undef)).bind fun l108 => if 0 ≤ (n2 : Int) ∧ (n2 : Int) < (l108.length : Int) then ((asStr (((l108.getD (n2 : Int).toNat []).getD 0 .undef))).bind fun s109 => (ev E0 F_spec_NameOK [.p (.str s109)] []).bind fun r110 => (asBool (pAt 0 r110.1)).bind fun b111 => if r110.1.length = 1 then (bif !(b111) then (spec_SchemaOK_7 n0 n1 n2 true l3 c4 c5) else ((asSl 2 (c5.getD 1 .undef)).bind fun l112 => if 0 ≤ (n2 : Int) ∧ (n2 : Int) < (l112.length : Int) then ((asStr (((l112.getD (n2 : Int).toNat []).getD 0 .undef))).bind fun s113 => (ev E0 F_spec_l03Arg [.p (.agg 5 c5), .p (.str s113)] []).bind fun r114 => (asInt .i64 (pAt 0 r114.1)).bind fun n115 => if r114.1.length = 1 then (spec_SchemaOK_7 n0 n1 n2 ((n115 : Int) != n2) l3 c4 c5) else none) else none)) else none) else none) else (spec_SchemaOK_4 n0 (IntKind.i64.wrap (n1 + 1)) l3 c4) := (pt_loop E0 F_spec_SchemaOK [1, 1, 0, 1, 0, 0, 1, 0, 0, 1, 1, 1, 0, 0, 1, 0, 0, 1, 1, 1, 0] _ (by kernel_rfl)).trans (by kernel_rfl)
theorem spec_SchemaOK_7_eq (n0 : Int) (n1 : Int) (n2 : Int) (b3 : Bool) (l4 : List (List Pd)) (c5 : List Pd) (c6 : List Pd) : spec_SchemaOK_7 n0 n1 n2 b3 l4 c5 c6 =
    bif b3 then (some ([.p (.bool (false))], [])) else (spec_SchemaOK_6 n0 n1 (IntKind.i64.wrap (n2 + 1)) l4 c5 c6) := by kernel_rfl

/-! spec.DocOK -/
noncomputable def spec_DocOK_0 (l0 : List (List Pd)) : Option Res := pt E0 F_spec_DocOK [] ⟨tl ud [(0, .p (.agg 1 [.sl 4 l0]))] 0 80, tl .none [] 0 80, []⟩
noncomputable def spec_DocOK_1 (n0 : Int) (n1 : Int) (l2 : List (List Pd)) : Option Res := pt E0 F_spec_DocOK [1, 1, 1, 0, 1, 0, 2] ⟨tl ud [(1, .ptr (.loc 1) 0), (3, .p (.int .i64 (n0))), (4, .p (.int .i64 (n1)))] 0 80, tl .none [(1, .box 1 [.sl 4 l2])] 0 80, []⟩
noncomputable def spec_DocOK_2 (n0 : Int) (n1 : Int) (b2 : Bool) (l3 : List (List Pd)) (c4 : List Pd) : Option Res := pt E0 F_spec_DocOK [1, 1, 1, 0, 1, 0, 0, 1, 0, 0, 1, 1, 1, 0, 1] ⟨tl ud [(1, .ptr (.loc 1) 0), (3, .p (.int .i64 (n0))), (4, .p (.int .i64 (n1))), (5, .ptr (.loc 5) 0), (43, .p (.bool (b2)))] 0 80, tl .none [(1, .box 1 [.sl 4 l3]), (5, .box 4 c4)] 0 80, []⟩
noncomputable def spec_DocOK_3 (n0 : Int) (n1 : Int) (n2 : Int) (b3 : Bool) (l4 : List (List Pd)) (c5 : List Pd) : Option Res := pt E0 F_spec_DocOK [1, 1, 1, 0, 1, 0, 0, 1, 0, 0, 1, 1, 1, 1, 1, 0, 1] ⟨tl ud [(1, .ptr (.loc 1) 0), (3, .p (.int .i64 (n0))), (4, .p (.int .i64 (n1))), (5, .ptr (.loc 5) 0), (45, .p (.int .i64 (n2))), (46, .p (.bool (b3)))] 0 80, tl .none [(1, .box 1 [.sl 4 l4]), (5, .box 4 c5)] 0 80, []⟩
noncomputable def spec_DocOK_4 (n0 : Int) (n1 : Int) (b2 : Bool) (l3 : List (List Pd)) : Option Res := pt E0 F_spec_DocOK [1, 1, 1, 0, 1, 0, 0, 1, 0, 0, 1, 1, 1, 1, 1, 0, 1, 0, 1] ⟨tl ud [(1, .ptr (.loc 1) 0), (3, .p (.int .i64 (n0))), (4, .p (.int .i64 (n1))), (62, .p (.bool (b2)))] 0 80, tl .none [(1, .box 1 [.sl 4 l3])] 0 80, []⟩
noncomputable def spec_DocOK_5 (n0 : Int) (n1 : Int) (b2 : Bool) (l3 : List (List Pd)) : Option Res := pt E0 F_spec_DocOK [1, 1, 1, 0, 1, 0, 0, 1, 0, 0, 1, 1, 1, 1, 1, 0, 1, 1, 1, 0, 1] ⟨tl ud [(1, .ptr (.loc 1) 0), (3, .p (.int .i64 (n0))), (4, .p (.int .i64 (n1))), (79, .p (.bool (b2)))] 0 80, tl .none [(1, .box 1 [.sl 4 l3])] 0 80, []⟩
noncomputable def spec_DocOK_6 (n0 : Int) (n1 : Int) (l2 : List (List Pd)) : Option Res := pt E0 F_spec_DocOK [1, 1, 1, 0, 1, 0, 0, 1, 1] ⟨tl ud [(1, .ptr (.loc 1) 0), (3, .p (.int .i64 (n0))), (4, .p (.int .i64 (n1)))] 0 80, tl .none [(1, .box 1 [.sl 4 l2])] 0 80, []⟩
theorem spec_DocOK_0_ev (l0 : List (List Pd)) : ev E0 F_spec_DocOK [.p (.agg 1 [.sl 4 l0])] [] = spec_DocOK_0 l0 := (ev_eq _ _ _ _).trans (by kernel_rfl)
theorem spec_DocOK_0_eq (l0 : List (List Pd)) : spec_DocOK_0 l0 =
    (ev E0 F_spec_l01In [.p (.int .i64 ((l0.length : Int))), .p (.int .i64 (1)), .p (.int .i64 (6))] []).bind fun r102 => (asBool (pAt 0 r102.1)).bind fun b103 => if r102.1.length = 1 then (bif !(b103) then (some ([.p (.bool (false))], [])) else (spec_DocOK_1 0 0 l0)) else none := by kernel_rfl
theorem spec_DocOK_1_eq (n0 : Int) (n1 : Int) (l2 : List (List Pd)) : spec_DocOK_1 n0 n1 l2 =
    bif decide ((n1 : Int) < (l2.length : Int)) then (if 0 ≤ (n1 : Int) ∧ (n1 : Int) < (l2.length : Int) then ((asSl 6 (((l2.getD (n1 : Int).toNat []).getD 3 .undef))).bind fun l104 => (ev E0 F_spec_l02Sels [.p (.sl 6 l104), .p (.int .i64 (7))] []).bind fun r105 => (asInt .i64 (pAt 0 r105.1)).bind fun n106 => (asBool (pAt 1 r105.1)).bind fun b107 => if r105.1.length = 2 then (bif !(b107) then (spec_DocOK_2 (IntKind.i64.wrap (n0 + n106)) n1 true l2 (l2.getD (n1 : Int).toNat [])) else (bif (n106 : Int) == 0 then (spec_DocOK_2 (IntKind.i64.wrap (n0 + n106)) n1 true l2 (l2.getD (n1 : Int).toNat [])) else (spec_DocOK_2 (IntKind.i64.wrap (n0 + n106)) n1 (decide ((IntKind.i64.wrap (n0 + n106) : Int) > 60)) l2 (l2.getD (n1 : Int).toNat [])))) else none) else none) else (some ([.p (.bool (true))], [])) := (pt_loop E0 F_spec_DocOK [1, 1, 1, 0, 1, 0] _ (by kernel_rfl)).trans (by kernel_rfl)
theorem spec_DocOK_2_eq (n0 : Int) (n1 : Int) (b2 : Bool) (l3 : List (List Pd)) (c4 : List Pd) : spec_DocOK_2 n0 n1 b2 l3 c4 =
    bif b2 then (some ([.p (.bool (false))], [])) else ((asInt .i64 (c4.getD 0 .undef)).bind fun n106 => bif (n106 : Int) == 1 then (spec_DocOK_3 n0 n1 n106 ((n106 : Int) == 1) l3 c4) else (spec_DocOK_3 n0 n1 n106 ((n106 : Int) == 2) l3 c4)) := by kernel_rfl
theorem spec_DocOK_3_eq (n0 : Int) (n1 : Int) (n2 : Int) (b3 : Bool) (l4 : List (List Pd)) (c5 : List Pd) : spec_DocOK_3 n0 n1 n2 b3 l4 c5 =
    bif b3 then ((asStr (c5.getD 2 .undef)).bind fun s107 => bif !decide (s107 = (⟨#[]⟩ : ByteArray)) then (spec_DocOK_4 n0 n1 true l4) else ((asStr (c5.getD 1 .undef)).bind fun s108 => bif !decide (s108 = (⟨#[]⟩ : ByteArray)) then ((asStr (c5.getD 1 .undef)).bind fun s109 => (ev E0 F_spec_NameOK [.p (.str s109)] []).bind fun r110 => (asBool (pAt 0 r110.1)).bind fun b111 => if r110.1.length = 1 then (spec_DocOK_4 n0 n1 (!(b111)) l4) else none) else (spec_DocOK_4 n0 n1 false l4))) else (bif (n2 : Int) == 3 then ((asStr (c5.getD 1 .undef)).bind fun s112 => (ev E0 F_spec_NameOK [.p (.str s112)] []).bind fun r113 => (asBool (pAt 0 r113.1)).bind fun b114 => if r113.1.length = 1 then (bif !(b114) then (spec_DocOK_5 n0 n1 true l4) else ((asStr (c5.getD 1 .undef)).bind fun s115 => bif decide (s115 = (⟨#[111, 110]⟩ : ByteArray)) then (spec_DocOK_5 n0 n1 true l4) else ((asStr (c5.getD 2 .undef)).bind fun s116 => (ev E0 F_spec_NameOK [.p (.str s116)] []).bind fun r117 => (asBool (pAt 0 r117.1)).bind fun b118 => if r117.1.length = 1 then (spec_DocOK_5 n0 n1 (!(b118)) l4) else none))) else none) else (some ([.p (.bool (false))], []))) := by kernel_rfl
theorem spec_DocOK_4_eq (n0 : Int) (n1 : Int) (b2 : Bool) (l3 : List (List Pd)) : spec_DocOK_4 n0 n1 b2 l3 =
    bif b2 then (some ([.p (.bool (false))], [])) else (spec_DocOK_6 n0 n1 l3) := by kernel_rfl
theorem spec_DocOK_5_eq (n0 : Int) (n1 : Int) (b2 : Bool) (l3 : List (List Pd)) : spec_DocOK_5 n0 n1 b2 l3 =
    bif b2 then (some ([.p (.bool (false))], [])) else (spec_DocOK_6 n0 n1 l3) := by kernel_rfl
theorem spec_DocOK_6_eq (n0 : Int) (n1 : Int) (l2 : List (List Pd)) : spec_DocOK_6 n0 n1 l2 =
    spec_DocOK_1 n0 (IntKind.i64.wrap (n1 + 1)) l2 := by kernel_rfl

/-! spec.l04Types -/
noncomputable def spec_l04Types_0 (l0 : List (List Pd)) (l1 : List (List Pd)) : Option Res := pt E0 F_spec_l04Types [] ⟨tl ud [(0, .p (.agg 1 [.sl 2 l0])), (1, .p (.agg 1 [.sl 4 l1]))] 0 47, tl .none [] 0 47, []⟩
noncomputable def spec_l04Types_1 (n0 : Int) (l1 : List (List Pd)) (l2 : List (List Pd)) : Option Res := pt E0 F_spec_l04Types [1, 0, 1, 0, 2] ⟨tl ud [(2, .ptr (.loc 2) 0), (3, .ptr (.loc 3) 0), (5, .p (.int .i64 (n0)))] 0 47, tl .none [(2, .box 1 [.sl 2 l1]), (3, .box 1 [.sl 4 l2])] 0 47, []⟩
theorem spec_l04Types_0_ev (l0 : List (List Pd)) (l1 : List (List Pd)) : ev E0 F_spec_l04Types [.p (.agg 1 [.sl 2 l0]), .p (.agg 1 [.sl 4 l1])] [] = spec_l04Types_0 l0 l1 := (ev_eq _ _ _ _).trans (by kernel_rfl)
theorem spec_l04Types_0_eq (l0 : List (List Pd)) (l1 : List (List Pd)) : spec_l04Types_0 l0 l1 =
    spec_l04Types_1 0 l0 l1 := by kernel_rfl
theorem spec_l04Types_1_eq (n0 : Int) (l1 : List (List Pd)) (l2 : List (List Pd)) : spec_l04Types_1 n0 l1 l2 =
    bif decide ((n0 : Int) < (l2.length : Int)) then (if 0 ≤ (n0 : Int) ∧ (n0 : Int) < (l2.length : Int) then ((asStr ((((l2.getD (n0 : Int).toNat []).drop 2).getD 0 .undef))).bind fun s104 => if 0 ≤ (n0 : Int) ∧ (n0 : Int) < (l2.length : Int) then ((asInt .i64 (((l2.getD (n0 : Int).toNat []).getD 0 .undef))).bind fun n105 => if 0 ≤ (n105 : Int) ∧ (n105 : Int) < ((([[.str (⟨#[]⟩ : ByteArray)], [.str (⟨#[81, 117, 101, 114, 121]⟩ : ByteArray)], [.str (⟨#[77, 117, 116, 97, 116, 105, 111, 110]⟩ : ByteArray)], [.str s104]] : List (List Pd))).length : Int) then (if 1 = 1 ∧ ((n105 : Int).toNat) < (([[.str (⟨#[]⟩ : ByteArray)], [.str (⟨#[81, 117, 101, 114, 121]⟩ : ByteArray)], [.str (⟨#[77, 117, 116, 97, 116, 105, 111, 110]⟩ : ByteArray)], [.str s104]] : List (List Pd))).length ∧ 0 + 1 ≤ 1 then ((asStr (((((([[.str (⟨#[]⟩ : ByteArray)], [.str (⟨#[81, 117, 101, 114, 121]⟩ : ByteArray)], [.str (⟨#[77, 117, 116, 97, 116, 105, 111, 110]⟩ : ByteArray)], [.str s104]] : List (List Pd))).getD ((n105 : Int).toNat) [])).getD 0 .undef))).bind fun s106 => (ev E0 F_spec_l03Find [.p (.agg 1 [.sl 2 l1]), .p (.str s106)] []).bind fun r107 => (asInt .i64 (pAt 0 r107.1)).bind fun n108 => if r107.1.length = 1 then (bif decide ((n108 : Int) < 0) then (some ([.p (.int .i64 (12))], [])) else (if 0 ≤ (n0 : Int) ∧ (n0 : Int) < (l2.length : Int) then ((asSl 6 ((((l2.getD (n0 : Int).toNat []).drop 3).getD 0 .undef))).bind fun l109 => (ev E0 F_spec_l04Sels [.p (.agg 1 [.sl 2 l1]), .p (.agg 1 [.sl 4 l2]), .p (.str s106), .p (.sl 6 l109)] []).bind fun r110 => (asInt .i64 (pAt 0 r110.1)).bind fun n111 => if r110.1.length = 1 then (bif (n111 : Int) != 0 then (some ([.p (.int .i64 (n111))], [])) else (spec_l04Types_1 (IntKind.i64.wrap (n0 + 1)) l1 l2)) else none) else none)) else none) else none) else none) else none) else none) else (some ([.p (.int .i64 (0))], [])) := (pt_loop E0 F_spec_l04Types [1, 0, 1, 0] _ (by kernel_rfl)).trans (by kernel_rfl)

/-! laws.toTypeDefS -/
noncomputable def laws_toTypeDefS_0 (l0 : List (List Pd)) : Option Res := pt E0 F_laws_toTypeDefS [] ⟨tl ud [(0, .p (.sl 2 l0))] 0 23, tl .none [] 0 23, []⟩
noncomputable def laws_toTypeDefS_1 (l0 : List (List Pd)) (n1 : Int) (e2 : List (List Pd)) : Option Res := pt E0 F_laws_toTypeDefS [1, 1, 0, 1, 0, 2] ⟨tl ud [(0, .p (.sl 2 l0)), (3, .arr (.loc 7)), (4, .p (.int .i64 (n1)))] 0 23, tl .none [(7, .arr 64 2 40 false e2)] 0 23, []⟩
theorem laws_toTypeDefS_0_ev (l0 : List (List Pd)) : ev E0 F_laws_toTypeDefS [.p (.sl 2 l0)] [] = laws_toTypeDefS_0 l0 := (ev_eq _ _ _ _).trans (by kernel_rfl)
theorem laws_toTypeDefS_0_eq (l0 : List (List Pd)) : laws_toTypeDefS_0 l0 =
    if 0 ≤ ((l0.length : Int) : Int) ∧ ((l0.length : Int) : Int) ≤ (l0.length : Int) ∧ ((l0.length : Int) : Int).toNat * 40 ≤ LIM ∧ 40 ≠ 0 then (laws_toTypeDefS_1 l0 0 (List.replicate ((l0.length : Int) : Int).toNat [.str (⟨#[]⟩ : ByteArray), .sl 5 (([] : List (List Pd)))])) else none := by kernel_rfl
theorem laws_toTypeDefS_1_eq (l0 : List (List Pd)) (n1 : Int) (e2 : List (List Pd)) : laws_toTypeDefS_1 l0 n1 e2 =
    bif decide ((n1 : Int) < (l0.length : Int)) then (if 0 ≤ (n1 : Int) ∧ (n1 : Int) < (l0.length : Int) then ((ev E0 F_laws_toTypeDef [.p (.agg 2 (l0.getD (n1 : Int).toNat []))] []).bind fun r104 => (asAgg 2 (pAt 0 r104.1)).bind fun c105 => if r104.1.length = 1 then (if 0 ≤ (n1 : Int) ∧ (n1 : Int) < (e2.length : Int) then (if 2 = 2 ∧ ((n1 : Int).toNat) < e2.length then (if 0 + 2 ≤ 2 then (laws_toTypeDefS_1 l0 (IntKind.i64.wrap (n1 + 1)) (setEl e2 ((n1 : Int).toNat) 2 0 2 (.agg 2 c105))) else none) else none) else none) else none) else none) else (some ([.p (.sl 2 e2)], [])) := (pt_loop E0 F_laws_toTypeDefS [1, 1, 0, 1, 0] _ (by kernel_rfl)).trans (by kernel_rfl)

/-! laws.toDefS -/
noncomputable def laws_toDefS_0 (l0 : List (List Pd)) : Option Res := pt E0 F_laws_toDefS [] ⟨tl ud [(0, .p (.sl 4 l0))] 0 23, tl .none [] 0 23, []⟩
noncomputable def laws_toDefS_1 (l0 : List (List Pd)) (n1 : Int) (e2 : List (List Pd)) : Option Res := pt E0 F_laws_toDefS [1, 1, 0, 1, 0, 2] ⟨tl ud [(0, .p (.sl 4 l0)), (3, .arr (.loc 7)), (4, .p (.int .i64 (n1)))] 0 23, tl .none [(7, .arr 75 4 64 false e2)] 0 23, []⟩
theorem laws_toDefS_0_ev (l0 : List (List Pd)) : ev E0 F_laws_toDefS [.p (.sl 4 l0)] [] = laws_toDefS_0 l0 := (ev_eq _ _ _ _).trans (by kernel_rfl)
theorem laws_toDefS_0_eq (l0 : List (List Pd)) : laws_toDefS_0 l0 =
    if 0 ≤ ((l0.length : Int) : Int) ∧ ((l0.length : Int) : Int) ≤ (l0.length : Int) ∧ ((l0.length : Int) : Int).toNat * 64 ≤ LIM ∧ 64 ≠ 0 then (laws_toDefS_1 l0 0 (List.replicate ((l0.length : Int) : Int).toNat [.int .i64 (0), .str (⟨#[]⟩ : ByteArray), .str (⟨#[]⟩ : ByteArray), .sl 6 (([] : List (List Pd)))])) else none := by kernel_rfl
theorem laws_toDefS_1_eq (l0 : List (List Pd)) (n1 : Int) (e2 : List (List Pd)) : laws_toDefS_1 l0 n1 e2 =
    bif decide ((n1 : Int) < (l0.length : Int)) then (if 0 ≤ (n1 : Int) ∧ (n1 : Int) < (l0.length : Int) then ((ev E0 F_laws_toDef [.p (.agg 4 (l0.getD (n1 : Int).toNat []))] []).bind fun r104 => (asAgg 4 (pAt 0 r104.1)).bind fun c105 => if r104.1.length = 1 then (if 0 ≤ (n1 : Int) ∧ (n1 : Int) < (e2.length : Int) then (if 4 = 4 ∧ ((n1 : Int).toNat) < e2.length then (if 0 + 4 ≤ 4 then (laws_toDefS_1 l0 (IntKind.i64.wrap (n1 + 1)) (setEl e2 ((n1 : Int).toNat) 4 0 4 (.agg 4 c105))) else none) else none) else none) else none) else none) else (some ([.p (.sl 4 e2)], [])) := (pt_loop E0 F_laws_toDefS [1, 1, 0, 1, 0] _ (by kernel_rfl)).trans (by kernel_rfl)

/-! impl.SchemaOK -/
noncomputable def impl_SchemaOK_0 (l0 : List (List Pd)) : Option Res := pt E0 F_impl_SchemaOK [] ⟨tl ud [(0, .p (.agg 1 [.sl 2 l0]))] 0 71, tl .none [] 0 71, []⟩
noncomputable def impl_SchemaOK_1 (b0 : Bool) (l1 : List (List Pd)) : Option Res := pt E0 F_impl_SchemaOK [1, 0, 1] ⟨tl ud [(1, .ptr (.loc 1) 0), (16, .p (.bool (b0)))] 0 71, tl .none [(1, .box 1 [.sl 2 l1])] 0 71, []⟩
noncomputable def impl_SchemaOK_2 (l0 : List (List Pd)) (n1 : Int) (n2 : Int) (l3 : List (List Pd)) : Option Res := pt E0 F_impl_SchemaOK [1, 1, 0, 1, 0, 2] ⟨tl ud [(1, .ptr (.loc 1) 0), (18, .p (.sl 2 l0)), (19, .p (.int .i64 (n1))), (20, .p (.int .i64 (n2)))] 0 71, tl .none [(1, .box 1 [.sl 2 l3])] 0 71, []⟩
noncomputable def impl_SchemaOK_3 (l0 : List (List Pd)) (n1 : Int) (n2 : Int) (b3 : Bool) (l4 : List (List Pd)) (c5 : List Pd) : Option Res := pt E0 F_impl_SchemaOK [1, 1, 0, 1, 0, 0, 1, 1, 0, 0, 1, 0, 1] ⟨tl ud [(1, .ptr (.loc 1) 0), (4, .ptr (.loc 4) 0), (18, .p (.sl 2 l0)), (19, .p (.int .i64 (n1))), (20, .p (.int .i64 (n2))), (48, .p (.bool (b3)))] 0 71, tl .none [(1, .box 1 [.sl 2 l4]), (4, .box 2 c5)] 0 71, []⟩
noncomputable def impl_SchemaOK_4 (l0 : List (List Pd)) (n1 : Int) (n2 : Int) (l3 : List (List Pd)) (n4 : Int) (n5 : Int) (l6 : List (List Pd)) (c7 : List Pd) : Option Res := pt E0 F_impl_SchemaOK [1, 1, 0, 1, 0, 0, 1, 1, 0, 0, 1, 1, 1, 0, 2] ⟨tl ud [(1, .ptr (.loc 1) 0), (4, .ptr (.loc 4) 0), (18, .p (.sl 2 l0)), (19, .p (.int .i64 (n1))), (20, .p (.int .i64 (n2))), (50, .p (.sl 5 l3)), (51, .p (.int .i64 (n4))), (52, .p (.int .i64 (n5)))] 0 71, tl .none [(1, .box 1 [.sl 2 l6]), (4, .box 2 c7)] 0 71, []⟩
noncomputable def impl_SchemaOK_5 (l0 : List (List Pd)) (n1 : Int) (n2 : Int) (l3 : List (List Pd)) (n4 : Int) (n5 : Int) (b6 : Bool) (l7 : List (List Pd)) (c8 : List Pd) : Option Res := pt E0 F_impl_SchemaOK [1, 1, 0, 1, 0, 0, 1, 1, 0, 0, 1, 1, 1, 0, 0, 1, 1, 0, 0, 1, 1] ⟨tl ud [(1, .ptr (.loc 1) 0), (4, .ptr (.loc 4) 0), (18, .p (.sl 2 l0)), (19, .p (.int .i64 (n1))), (20, .p (.int .i64 (n2))), (50, .p (.sl 5 l3)), (51, .p (.int .i64 (n4))), (52, .p (.int .i64 (n5))), (68, .p (.bool (b6)))] 0 71, tl .none [(1, .box 1 [.sl 2 l7]), (4, .box 2 c8)] 0 71, []⟩
theorem impl_SchemaOK_0_ev (l0 : List (List Pd)) : ev E0 F_impl_SchemaOK [.p (.agg 1 [.sl 2 l0])] [] = impl_SchemaOK_0 l0 := (ev_eq _ _ _ _).trans (by kernel_rfl)
theorem impl_SchemaOK_0_eq (l0 : List (List Pd)) : impl_SchemaOK_0 l0 =
    (ev E0 F_impl_within [.p (.int .i64 ((l0.length : Int))), .p (.int .i64 (1)), .p (.int .i64 (8))] []).bind fun r102 => (asBool (pAt 0 r102.1)).bind fun b103 => if r102.1.length = 1 then (bif !(b103) then (impl_SchemaOK_1 true l0) else ((ev E0 F_impl_Schema_typeAt [.p (.agg 1 [.sl 2 l0]), .p (.str (⟨#[81, 117, 101, 114, 121]⟩ : ByteArray))] []).bind fun r104 => (asInt .i64 (pAt 0 r104.1)).bind fun n105 => if r104.1.length = 1 then (impl_SchemaOK_1 (decide ((n105 : Int) < 0)) l0) else none)) else none := by kernel_rfl
theorem impl_SchemaOK_1_eq (b0 : Bool) (l1 : List (List Pd)) : impl_SchemaOK_1 b0 l1 =
    bif b0 then (some ([.p (.bool (false))], [])) else (impl_SchemaOK_2 l1 (l1.length : Int) 0 l1) := by kernel_rfl
theorem impl_SchemaOK_2_eq (l0 : List (List Pd)) (n1 : Int) (n2 : Int) (l3 : List (List Pd)) : impl_SchemaOK_2 l0 n1 n2 l3 =
    bif decide ((n2 : Int) < n1) then (if 0 ≤ (n2 : Int) ∧ (n2 : Int) < (l0.length : Int) then ((asStr (((l0.getD (n2 : Int).toNat []).getD 0 .undef))).bind fun s105 => (ev E0 F_impl_NameOK [.p (.str s105)] []).bind fun r106 => (asBool (pAt 0 r106.1)).bind fun b107 => if r106.1.length = 1 then (bif !(b107) then (impl_SchemaOK_3 l0 n1 n2 true l3 (l0.getD (n2 : Int).toNat [])) else ((asStr (((l0.getD (n2 : Int).toNat []).getD 0 .undef))).bind fun s108 => bif decide (s108 = (⟨#[73, 110, 116]⟩ : ByteArray)) then (impl_SchemaOK_3 l0 n1 n2 true l3 (l0.getD (n2 : Int).toNat [])) else ((asStr (((l0.getD (n2 : Int).toNat []).getD 0 .undef))).bind fun s109 => (ev E0 F_impl_Schema_typeAt [.p (.agg 1 [.sl 2 l3]), .p (.str s109)] []).bind fun r110 => (asInt .i64 (pAt 0 r110.1)).bind fun n111 => if r110.1.length = 1 then (bif (n111 : Int) != n2 then (impl_SchemaOK_3 l0 n1 n2 true l3 (l0.getD (n2 : Int).toNat [])) else ((asSl 5 (((l0.getD (n2 : Int).toNat []).getD 1 .undef))).bind fun l112 => (ev E0 F_impl_within [.p (.int .i64 ((l112.length : Int))), .p (.int .i64 (1)), .p (.int .i64 (10))] []).bind fun r113 => (asBool (pAt 0 r113.1)).bind fun b114 => if r113.1.length = 1 then (impl_SchemaOK_3 l0 n1 n2 (!(b114)) l3 (l0.getD (n2 : Int).toNat [])) else none)) else none))) else none) else none) else (some ([.p (.bool (true))], [])) := (pt_loop E0 F_impl_SchemaOK [1, 1, 0, 1, 0] _ (by kernel_rfl)).trans (by kernel_rfl)
theorem impl_SchemaOK_3_eq (l0 : List (List Pd)) (n1 : Int) (n2 : Int) (b3 : Bool) (l4 : List (List Pd)) (c5 : List Pd) : impl_SchemaOK_3 l0 n1 n2 b3 l4 c5 =
    bif b3 then (some ([.p (.bool (false))], [])) else ((asSl 5 (c5.getD 1 .undef)).bind fun l107 => impl_SchemaOK_4 l0 n1 n2 l107 (l107.length : Int) 0 l4 c5) := by kernel_rfl
theorem impl_SchemaOK_4_eq (l0 : List (List Pd)) (n1 : Int) (n2 : Int) (l3 : List (List Pd)) (n4 : Int) (n5 : Int) (l6 : List (List Pd)) (c7 : List Pd) : impl_SchemaOK_4 l0 n1 n2 l3 n4 n5 l6 c7 =
    bif decide ((n5 : Int) < n4) then (if 0 ≤ (n5 : Int) ∧ (n5 : Int) < (l3.length : Int) then ((ev E0 F_impl_Schema_fieldOK [.p (.agg 1 [.sl 2 l6]), .p (.agg 5 (l3.getD (n5 : Int).toNat []))] []).bind fun r109 => (asBool (pAt 0 r109.1)).bind fun b110 => if r109.1.length = 1 then (bif !(b110) then (impl_SchemaOK_5 l0 n1 n2 l3 n4 n5 true l6 c7) else ((asStr (((l3.getD (n5 : Int).toNat []).getD 0 .undef))).bind fun s111 => (ev E0 F_impl_TypeDef_fieldAt [.p (.agg 2 c7), .p (.str s111)] []).bind fun r112 => (asInt .i64 (pAt 0 r112.1)).bind fun n113 => if r112.1.length = 1 then (impl_SchemaOK_5 l0 n1 n2 l3 n4 n5 ((n113 : Int) != n5) l6 c7) else none)) else none) else none) else (impl_SchemaOK_2 l0 n1 (IntKind.i64.wrap (n2 + 1)) l6) := (pt_loop E0 F_impl_SchemaOK [1, 1, 0, 1, 0, 0, 1, 1, 0, 0, 1, 1, 1, 0] _ (by kernel_rfl)).trans (by kernel_rfl)
theorem impl_SchemaOK_5_eq (l0 : List (List Pd)) (n1 : Int) (n2 : Int) (l3 : List (List Pd)) (n4 : Int) (n5 : Int) (b6 : Bool) (l7 : List (List Pd)) (c8 : List Pd) : impl_SchemaOK_5 l0 n1 n2 l3 n4 n5 b6 l7 c8 =
    bif b6 then (some ([.p (.bool (false))], [])) else (impl_SchemaOK_4 l0 n1 n2 l3 n4 (IntKind.i64.wrap (n5 + 1)) l7 c8) := by kernel_rfl

/-! impl.DocOK -/
noncomputable def impl_DocOK_0 (l0 : List (List Pd)) : Option Res := pt E0 F_impl_DocOK [] ⟨tl ud [(0, .p (.agg 1 [.sl 4 l0]))] 0 27, tl .none [] 0 27, []⟩
noncomputable def impl_DocOK_1 (l0 : List (List Pd)) (n1 : Int) (n2 : Int) (l3 : List (List Pd)) (n4 : Int) : Option Res := pt E0 F_impl_DocOK [1, 1, 0, 1, 0, 2] ⟨tl ud [(1, .ptr (.loc 1) 0), (3, .ptr (.loc 3) 0), (7, .p (.sl 4 l0)), (8, .p (.int .i64 (n1))), (9, .p (.int .i64 (n2)))] 0 27, tl .none [(1, .box 1 [.sl 4 l3]), (3, .box 1 [.int .i64 (n4)])] 0 27, []⟩
noncomputable def impl_DocOK_2 (l0 : List (List Pd)) (n1 : Int) (n2 : Int) (b3 : Bool) (l4 : List (List Pd)) (n5 : Int) : Option Res := pt E0 F_impl_DocOK [1, 1, 0, 1, 0, 0, 1, 1, 0, 0, 1, 1] ⟨tl ud [(1, .ptr (.loc 1) 0), (3, .ptr (.loc 3) 0), (7, .p (.sl 4 l0)), (8, .p (.int .i64 (n1))), (9, .p (.int .i64 (n2))), (21, .p (.bool (b3)))] 0 27, tl .none [(1, .box 1 [.sl 4 l4]), (3, .box 1 [.int .i64 (n5)])] 0 27, []⟩
noncomputable def impl_DocOK_3 (l0 : List (List Pd)) (n1 : Int) (n2 : Int) (b3 : Bool) (l4 : List (List Pd)) (c5 : List Pd) : Option Res := pt E0 F_impl_DocOK [1, 1, 0, 1, 0, 0, 1, 1, 0, 0, 1, 1] ⟨tl ud [(1, .ptr (.loc 1) 0), (3, .ptr (.loc 3) 0), (7, .p (.sl 4 l0)), (8, .p (.int .i64 (n1))), (9, .p (.int .i64 (n2))), (21, .p (.bool (b3)))] 0 27, tl .none [(1, .box 1 [.sl 4 l4]), (3, .box 1 c5)] 0 27, []⟩
noncomputable def impl_DocOK_4 (l0 : List (List Pd)) (n1 : Int) (n2 : Int) (l3 : List (List Pd)) (c4 : List Pd) : Option Res := pt E0 F_impl_DocOK [1, 1, 0, 1, 0, 2] ⟨tl ud [(1, .ptr (.loc 1) 0), (3, .ptr (.loc 3) 0), (7, .p (.sl 4 l0)), (8, .p (.int .i64 (n1))), (9, .p (.int .i64 (n2)))] 0 27, tl .none [(1, .box 1 [.sl 4 l3]), (3, .box 1 c4)] 0 27, []⟩
theorem impl_DocOK_0_ev (l0 : List (List Pd)) : ev E0 F_impl_DocOK [.p (.agg 1 [.sl 4 l0])] [] = impl_DocOK_0 l0 := (ev_eq _ _ _ _).trans (by kernel_rfl)
theorem impl_DocOK_0_eq (l0 : List (List Pd)) : impl_DocOK_0 l0 =
    impl_DocOK_1 l0 (l0.length : Int) 0 l0 60 := by kernel_rfl
theorem impl_DocOK_1_eq (l0 : List (List Pd)) (n1 : Int) (n2 : Int) (l3 : List (List Pd)) (n4 : Int) : impl_DocOK_1 l0 n1 n2 l3 n4 =
    bif decide ((n2 : Int) < n1) then (if 0 ≤ (n2 : Int) ∧ (n2 : Int) < (l0.length : Int) then ((ev E0 F_impl_Def_isRight [.p (.agg 4 (l0.getD (n2 : Int).toNat []))] []).bind fun r106 => (asBool (pAt 0 r106.1)).bind fun b107 => if r106.1.length = 1 then (bif !(b107) then (impl_DocOK_2 l0 n1 n2 true l3 n4) else ((asSl 6 (((l0.getD (n2 : Int).toNat []).getD 3 .undef))).bind fun l108 => (ev E0 F_impl_areRight [.p (.sl 6 l108), .p (.int .i64 (7)), .ptr (.out 0) 0] [.box 1 [.int .i64 (n4)]]).bind fun r109 => (asBool (pAt 0 r109.1)).bind fun b110 => if r109.1.length = 1 then ((asBox 1 (r109.2.getD 0 .none)).bind fun c111 => if r109.2.length = 1 then (impl_DocOK_3 l0 n1 n2 (!(b110)) l3 c111) else none) else none)) else none) else none) else ((ev E0 F_impl_within [.p (.int .i64 ((l3.length : Int))), .p (.int .i64 (1)), .p (.int .i64 (6))] []).bind fun r112 => (asBool (pAt 0 r112.1)).bind fun b113 => if r112.1.length = 1 then (some ([.p (.bool (b113))], [])) else none) := (pt_loop E0 F_impl_DocOK [1, 1, 0, 1, 0] _ (by kernel_rfl)).trans (by kernel_rfl)
theorem impl_DocOK_2_eq (l0 : List (List Pd)) (n1 : Int) (n2 : Int) (b3 : Bool) (l4 : List (List Pd)) (n5 : Int) : impl_DocOK_2 l0 n1 n2 b3 l4 n5 =
    bif b3 then (some ([.p (.bool (false))], [])) else (impl_DocOK_1 l0 n1 (IntKind.i64.wrap (n2 + 1)) l4 n5) := by kernel_rfl
theorem impl_DocOK_3_eq (l0 : List (List Pd)) (n1 : Int) (n2 : Int) (b3 : Bool) (l4 : List (List Pd)) (c5 : List Pd) : impl_DocOK_3 l0 n1 n2 b3 l4 c5 =
    bif b3 then (some ([.p (.bool (false))], [])) else (impl_DocOK_4 l0 n1 (IntKind.i64.wrap (n2 + 1)) l4 c5) := by kernel_rfl
theorem impl_DocOK_4_eq (l0 : List (List Pd)) (n1 : Int) (n2 : Int) (l3 : List (List Pd)) (c4 : List Pd) : impl_DocOK_4 l0 n1 n2 l3 c4 =
    bif decide ((n2 : Int) < n1) then (if 0 ≤ (n2 : Int) ∧ (n2 : Int) < (l0.length : Int) then ((ev E0 F_impl_Def_isRight [.p (.agg 4 (l0.getD (n2 : Int).toNat []))] []).bind fun r106 => (asBool (pAt 0 r106.1)).bind fun b107 => if r106.1.length = 1 then (bif !(b107) then (impl_DocOK_3 l0 n1 n2 true l3 c4) else ((asSl 6 (((l0.getD (n2 : Int).toNat []).getD 3 .undef))).bind fun l108 => (ev E0 F_impl_areRight [.p (.sl 6 l108), .p (.int .i64 (7)), .ptr (.out 0) 0] [.box 1 c4]).bind fun r109 => (asBool (pAt 0 r109.1)).bind fun b110 => if r109.1.length = 1 then ((asBox 1 (r109.2.getD 0 .none)).bind fun c111 => if r109.2.length = 1 then (impl_DocOK_3 l0 n1 n2 (!(b110)) l3 c111) else none) else none)) else none) else none) else ((ev E0 F_impl_within [.p (.int .i64 ((l3.length : Int))), .p (.int .i64 (1)), .p (.int .i64 (6))] []).bind fun r112 => (asBool (pAt 0 r112.1)).bind fun b113 => if r112.1.length = 1 then (some ([.p (.bool (b113))], [])) else none) := (pt_loop E0 F_impl_DocOK [1, 1, 0, 1, 0] _ (by kernel_rfl)).trans (by kernel_rfl)

/-! impl.checkTypes -/
noncomputable def impl_checkTypes_0 (l0 : List (List Pd)) (l1 : List (List Pd)) : Option Res := pt E0 F_impl_checkTypes [] ⟨tl ud [(0, .p (.agg 1 [.sl 2 l0])), (1, .p (.agg 1 [.sl 4 l1]))] 0 34, tl .none [] 0 34, []⟩
noncomputable def impl_checkTypes_1 (l0 : List (List Pd)) (n1 : Int) (n2 : Int) (l3 : List (List Pd)) (l4 : List (List Pd)) (l5 : List (List Pd)) : Option Res := pt E0 F_impl_checkTypes [1, 1, 0, 1, 0, 2] ⟨tl ud [(2, .ptr (.loc 2) 0), (5, .ptr (.loc 5) 0), (13, .p (.sl 4 l0)), (14, .p (.int .i64 (n1))), (15, .p (.int .i64 (n2)))] 0 34, tl .none [(2, .box 1 [.sl 2 l3]), (5, .box 2 [.sl 2 l4, .sl 4 l5])] 0 34, []⟩
theorem impl_checkTypes_0_ev (l0 : List (List Pd)) (l1 : List (List Pd)) : ev E0 F_impl_checkTypes [.p (.agg 1 [.sl 2 l0]), .p (.agg 1 [.sl 4 l1])] [] = impl_checkTypes_0 l0 l1 := (ev_eq _ _ _ _).trans (by kernel_rfl)
theorem impl_checkTypes_0_eq (l0 : List (List Pd)) (l1 : List (List Pd)) : impl_checkTypes_0 l0 l1 =
    impl_checkTypes_1 l1 (l1.length : Int) 0 l0 l0 l1 := by kernel_rfl
theorem impl_checkTypes_1_eq (l0 : List (List Pd)) (n1 : Int) (n2 : Int) (l3 : List (List Pd)) (l4 : List (List Pd)) (l5 : List (List Pd)) : impl_checkTypes_1 l0 n1 n2 l3 l4 l5 =
    bif decide ((n2 : Int) < n1) then (if 0 ≤ (n2 : Int) ∧ (n2 : Int) < (l0.length : Int) then ((ev E0 F_impl_Def_rootOf [.p (.agg 4 (l0.getD (n2 : Int).toNat []))] []).bind fun r107 => (asStr (pAt 0 r107.1)).bind fun s108 => if r107.1.length = 1 then ((ev E0 F_impl_Schema_typeAt [.p (.agg 1 [.sl 2 l3]), .p (.str s108)] []).bind fun r109 => (asInt .i64 (pAt 0 r109.1)).bind fun n110 => if r109.1.length = 1 then (bif decide ((n110 : Int) < 0) then (some ([.p (.int .i64 (12))], [])) else ((ev E0 F_impl_Def_rootOf [.p (.agg 4 (l0.getD (n2 : Int).toNat []))] []).bind fun r111 => (asStr (pAt 0 r111.1)).bind fun s112 => if r111.1.length = 1 then ((asSl 6 (((l0.getD (n2 : Int).toNat []).getD 3 .undef))).bind fun l113 => (ev E0 F_impl_checker_sels [.p (.agg 2 [.sl 2 l4, .sl 4 l5]), .p (.str s112), .p (.sl 6 l113)] []).bind fun r114 => (asInt .i64 (pAt 0 r114.1)).bind fun n115 => if r114.1.length = 1 then (bif (n115 : Int) != 0 then (some ([.p (.int .i64 (n115))], [])) else (impl_checkTypes_1 l0 n1 (IntKind.i64.wrap (n2 + 1)) l3 l4 l5)) else none) else none)) else none) else none) else none) else (some ([.p (.int .i64 (0))], [])) := (pt_loop E0 F_impl_checkTypes [1, 1, 0, 1, 0] _ (by kernel_rfl)).trans (by kernel_rfl)

/-! laws.eqTypeDefS -/
noncomputable def laws_eqTypeDefS_0 (l0 : List (List Pd)) (l1 : List (List Pd)) : Option Res := pt E0 F_laws_eqTypeDefS [] ⟨tl ud [(0, .p (.sl 2 l0)), (1, .p (.sl 2 l1))] 0 27, tl .none [] 0 27, []⟩
noncomputable def laws_eqTypeDefS_1 (l0 : List (List Pd)) (l1 : List (List Pd)) (n2 : Int) : Option Res := pt E0 F_laws_eqTypeDefS [1, 1, 0, 1, 0, 2] ⟨tl ud [(0, .p (.sl 2 l0)), (1, .p (.sl 2 l1)), (5, .p (.int .i64 (n2)))] 0 27, tl .none [] 0 27, []⟩
theorem laws_eqTypeDefS_0_ev (l0 : List (List Pd)) (l1 : List (List Pd)) : ev E0 F_laws_eqTypeDefS [.p (.sl 2 l0), .p (.sl 2 l1)] [] = laws_eqTypeDefS_0 l0 l1 := (ev_eq _ _ _ _).trans (by kernel_rfl)
theorem laws_eqTypeDefS_0_eq (l0 : List (List Pd)) (l1 : List (List Pd)) : laws_eqTypeDefS_0 l0 l1 =
    bif ((l0.length : Int) : Int) != (l1.length : Int) then (some ([.p (.bool (false))], [])) else (laws_eqTypeDefS_1 l0 l1 0) := by kernel_rfl
theorem laws_eqTypeDefS_1_eq (l0 : List (List Pd)) (l1 : List (List Pd)) (n2 : Int) : laws_eqTypeDefS_1 l0 l1 n2 =
    bif decide ((n2 : Int) < (l0.length : Int)) then (if 0 ≤ (n2 : Int) ∧ (n2 : Int) < (l0.length : Int) then (if 0 ≤ (n2 : Int) ∧ (n2 : Int) < (l1.length : Int) then ((ev E0 F_laws_eqTypeDef [.p (.agg 2 (l0.getD (n2 : Int).toNat [])), .p (.agg 2 (l1.getD (n2 : Int).toNat []))] []).bind fun r104 => (asBool (pAt 0 r104.1)).bind fun b105 => if r104.1.length = 1 then (bif !(b105) then (some ([.p (.bool (false))], [])) else (laws_eqTypeDefS_1 l0 l1 (IntKind.i64.wrap (n2 + 1)))) else none) else none) else none) else (some ([.p (.bool (true))], [])) := (pt_loop E0 F_laws_eqTypeDefS [1, 1, 0, 1, 0] _ (by kernel_rfl)).trans (by kernel_rfl)

/-! laws.eqDefS -/
noncomputable def laws_eqDefS_0 (l0 : List (List Pd)) (l1 : List (List Pd)) : Option Res := pt E0 F_laws_eqDefS [] ⟨tl ud [(0, .p (.sl 4 l0)), (1, .p (.sl 4 l1))] 0 27, tl .none [] 0 27, []⟩
noncomputable def laws_eqDefS_1 (l0 : List (List Pd)) (l1 : List (List Pd)) (n2 : Int) : Option Res := pt E0 F_laws_eqDefS [1, 1, 0, 1, 0, 2] ⟨tl ud [(0, .p (.sl 4 l0)), (1, .p (.sl 4 l1)), (5, .p (.int .i64 (n2)))] 0 27, tl .none [] 0 27, []⟩
theorem laws_eqDefS_0_ev (l0 : List (List Pd)) (l1 : List (List Pd)) : ev E0 F_laws_eqDefS [.p (.sl 4 l0), .p (.sl 4 l1)] [] = laws_eqDefS_0 l0 l1 := (ev_eq _ _ _ _).trans (by kernel_rfl)
theorem laws_eqDefS_0_eq (l0 : List (List Pd)) (l1 : List (List Pd)) : laws_eqDefS_0 l0 l1 =
    bif ((l0.length : Int) : Int) != (l1.length : Int) then (some ([.p (.bool (false))], [])) else (laws_eqDefS_1 l0 l1 0) := by kernel_rfl
theorem laws_eqDefS_1_eq (l0 : List (List Pd)) (l1 : List (List Pd)) (n2 : Int) : laws_eqDefS_1 l0 l1 n2 =
    bif decide ((n2 : Int) < (l0.length : Int)) then (if 0 ≤ (n2 : Int) ∧ (n2 : Int) < (l0.length : Int) then (if 0 ≤ (n2 : Int) ∧ (n2 : Int) < (l1.length : Int) then ((ev E0 F_laws_eqDef [.p (.agg 4 (l0.getD (n2 : Int).toNat [])), .p (.agg 4 (l1.getD (n2 : Int).toNat []))] []).bind fun r104 => (asBool (pAt 0 r104.1)).bind fun b105 => if r104.1.length = 1 then (bif !(b105) then (some ([.p (.bool (false))], [])) else (laws_eqDefS_1 l0 l1 (IntKind.i64.wrap (n2 + 1)))) else none) else none) else none) else (some ([.p (.bool (true))], [])) := (pt_loop E0 F_laws_eqDefS [1, 1, 0, 1, 0] _ (by kernel_rfl)).trans (by kernel_rfl)

/-! laws.szTypeDef -/
noncomputable def laws_szTypeDef_0 (s0 : ByteArray) (l1 : List (List Pd)) (n2 : Int) : Option Res := pt E0 F_laws_szTypeDef [] ⟨tl ud [(0, .p (.agg 2 [.str s0, .sl 5 l1])), (1, .p (.int .i64 (n2)))] 0 19, tl .none [] 0 19, []⟩
theorem laws_szTypeDef_0_ev (s0 : ByteArray) (l1 : List (List Pd)) (n2 : Int) : ev E0 F_laws_szTypeDef [.p (.agg 2 [.str s0, .sl 5 l1]), .p (.int .i64 (n2))] [] = laws_szTypeDef_0 s0 l1 n2 := (ev_eq _ _ _ _).trans (by kernel_rfl)
theorem laws_szTypeDef_0_eq (s0 : ByteArray) (l1 : List (List Pd)) (n2 : Int) : laws_szTypeDef_0 s0 l1 n2 =
    bif decide ((IntKind.i64.wrap (n2 - (s0.size : Int)) : Int) < 0) then (some ([.p (.int .i64 (-1))], [])) else ((ev E0 F_laws_szFieldDefS [.p (.sl 5 l1), .p (.int .i64 (IntKind.i64.wrap (n2 - (s0.size : Int))))] []).bind fun r104 => (asInt .i64 (pAt 0 r104.1)).bind fun n105 => if r104.1.length = 1 then (bif decide ((n105 : Int) < 0) then (some ([.p (.int .i64 (-1))], [])) else (some ([.p (.int .i64 (n105))], []))) else none) := by kernel_rfl

/-! laws.szDef -/
noncomputable def laws_szDef_0 (n0 : Int) (s1 : ByteArray) (s2 : ByteArray) (l3 : List (List Pd)) (n4 : Int) : Option Res := pt E0 F_laws_szDef [] ⟨tl ud [(0, .p (.agg 4 [.int .i64 (n0), .str s1, .str s2, .sl 6 l3])), (1, .p (.int .i64 (n4)))] 0 26, tl .none [] 0 26, []⟩
theorem laws_szDef_0_ev (n0 : Int) (s1 : ByteArray) (s2 : ByteArray) (l3 : List (List Pd)) (n4 : Int) : ev E0 F_laws_szDef [.p (.agg 4 [.int .i64 (n0), .str s1, .str s2, .sl 6 l3]), .p (.int .i64 (n4))] [] = laws_szDef_0 n0 s1 s2 l3 n4 := (ev_eq _ _ _ _).trans (by kernel_rfl)
theorem laws_szDef_0_eq (n0 : Int) (s1 : ByteArray) (s2 : ByteArray) (l3 : List (List Pd)) (n4 : Int) : laws_szDef_0 n0 s1 s2 l3 n4 =
    bif decide ((IntKind.i64.wrap (n4 - (s1.size : Int)) : Int) < 0) then (some ([.p (.int .i64 (-1))], [])) else (bif decide ((IntKind.i64.wrap ((IntKind.i64.wrap (n4 - (s1.size : Int))) - (s2.size : Int)) : Int) < 0) then (some ([.p (.int .i64 (-1))], [])) else ((ev E0 F_laws_szSelS [.p (.sl 6 l3), .p (.int .i64 (IntKind.i64.wrap ((IntKind.i64.wrap (n4 - (s1.size : Int))) - (s2.size : Int))))] []).bind fun r106 => (asInt .i64 (pAt 0 r106.1)).bind fun n107 => if r106.1.length = 1 then (bif decide ((n107 : Int) < 0) then (some ([.p (.int .i64 (-1))], [])) else (some ([.p (.int .i64 (n107))], []))) else none)) := by kernel_rfl

/-! spec.l01In -/
noncomputable def spec_l01In_0 (n0 : Int) (n1 : Int) (n2 : Int) : Option Res := pt E0 F_spec_l01In [] ⟨tl ud [(0, .p (.int .i64 (n0))), (1, .p (.int .i64 (n1))), (2, .p (.int .i64 (n2)))] 0 15, tl .none [] 0 15, []⟩
theorem spec_l01In_0_ev (n0 : Int) (n1 : Int) (n2 : Int) : ev E0 F_spec_l01In [.p (.int .i64 (n0)), .p (.int .i64 (n1)), .p (.int .i64 (n2))] [] = spec_l01In_0 n0 n1 n2 := (ev_eq _ _ _ _).trans (by kernel_rfl)
theorem spec_l01In_0_eq (n0 : Int) (n1 : Int) (n2 : Int) : spec_l01In_0 n0 n1 n2 =
    bif decide ((n1 : Int) ≤ n0) then (some ([.p (.bool (decide ((n0 : Int) ≤ n2)))], [])) else (some ([.p (.bool (false))], [])) := by kernel_rfl

/-! spec.l03Find -/
noncomputable def spec_l03Find_0 (l0 : List (List Pd)) (s1 : ByteArray) : Option Res := pt E0 F_spec_l03Find [] ⟨tl ud [(0, .p (.agg 1 [.sl 2 l0])), (1, .p (.str s1))] 0 22, tl .none [] 0 22, []⟩
noncomputable def spec_l03Find_1 (s0 : ByteArray) (n1 : Int) (l2 : List (List Pd)) : Option Res := pt E0 F_spec_l03Find [1, 0, 1, 0, 2] ⟨tl ud [(1, .p (.str s0)), (2, .ptr (.loc 2) 0), (5, .p (.int .i64 (n1)))] 0 22, tl .none [(2, .box 1 [.sl 2 l2])] 0 22, []⟩
theorem spec_l03Find_0_ev (l0 : List (List Pd)) (s1 : ByteArray) : ev E0 F_spec_l03Find [.p (.agg 1 [.sl 2 l0]), .p (.str s1)] [] = spec_l03Find_0 l0 s1 := (ev_eq _ _ _ _).trans (by kernel_rfl)
theorem spec_l03Find_0_eq (l0 : List (List Pd)) (s1 : ByteArray) : spec_l03Find_0 l0 s1 =
    spec_l03Find_1 s1 0 l0 := by kernel_rfl
theorem spec_l03Find_1_eq (s0 : ByteArray) (n1 : Int) (l2 : List (List Pd)) : spec_l03Find_1 s0 n1 l2 =
    bif decide ((n1 : Int) < (l2.length : Int)) then (if 0 ≤ (n1 : Int) ∧ (n1 : Int) < (l2.length : Int) then ((asStr (((l2.getD (n1 : Int).toNat []).getD 0 .undef))).bind fun s104 => bif decide (s104 = s0) then (some ([.p (.int .i64 (n1))], [])) else (spec_l03Find_1 s0 (IntKind.i64.wrap (n1 + 1)) l2)) else none) else (some ([.p (.int .i64 (-1))], [])) := (pt_loop E0 F_spec_l03Find [1, 0, 1, 0] _ (by kernel_rfl)).trans (by kernel_rfl)

/-! spec.NameOK -/
noncomputable def spec_NameOK_0 (s0 : ByteArray) : Option Res := pt E0 F_spec_NameOK [] ⟨tl ud [(0, .p (.str s0))] 0 5, tl .none [] 0 5, []⟩
theorem spec_NameOK_0_ev (s0 : ByteArray) : ev E0 F_spec_NameOK [.p (.str s0)] [] = spec_NameOK_0 s0 := (ev_eq _ _ _ _).trans (by kernel_rfl)
theorem spec_NameOK_0_eq (s0 : ByteArray) : spec_NameOK_0 s0 =
    (ev E0 F_spec_l00Word [.p (.str s0)] []).bind fun r102 => (asBool (pAt 0 r102.1)).bind fun b103 => if r102.1.length = 1 then (some ([.p (.bool (b103))], [])) else none := by kernel_rfl

/-! spec.l03Field -/
noncomputable def spec_l03Field_0 (s0 : ByteArray) (l1 : List (List Pd)) (s2 : ByteArray) : Option Res := pt E0 F_spec_l03Field [] ⟨tl ud [(0, .p (.agg 2 [.str s0, .sl 5 l1])), (1, .p (.str s2))] 0 22, tl .none [] 0 22, []⟩
noncomputable def spec_l03Field_1 (s0 : ByteArray) (n1 : Int) (s2 : ByteArray) (l3 : List (List Pd)) : Option Res := pt E0 F_spec_l03Field [1, 0, 1, 0, 2] ⟨tl ud [(1, .p (.str s0)), (2, .ptr (.loc 2) 0), (5, .p (.int .i64 (n1)))] 0 22, tl .none [(2, .box 2 [.str s2, .sl 5 l3])] 0 22, []⟩
theorem spec_l03Field_0_ev (s0 : ByteArray) (l1 : List (List Pd)) (s2 : ByteArray) : ev E0 F_spec_l03Field [.p (.agg 2 [.str s0, .sl 5 l1]), .p (.str s2)] [] = spec_l03Field_0 s0 l1 s2 := (ev_eq _ _ _ _).trans (by kernel_rfl)
theorem spec_l03Field_0_eq (s0 : ByteArray) (l1 : List (List Pd)) (s2 : ByteArray) : spec_l03Field_0 s0 l1 s2 =
    spec_l03Field_1 s2 0 s0 l1 := by kernel_rfl
theorem spec_l03Field_1_eq (s0 : ByteArray) (n1 : Int) (s2 : ByteArray) (l3 : List (List Pd)) : spec_l03Field_1 s0 n1 s2 l3 =
    bif decide ((n1 : Int) < (l3.length : Int)) then (if 0 ≤ (n1 : Int) ∧ (n1 : Int) < (l3.length : Int) then ((asStr (((l3.getD (n1 : Int).toNat []).getD 0 .undef))).bind fun s105 => bif decide (s105 = s0) then (some ([.p (.int .i64 (n1))], [])) else (spec_l03Field_1 s0 (IntKind.i64.wrap (n1 + 1)) s2 l3)) else none) else (some ([.p (.int .i64 (-1))], [])) := (pt_loop E0 F_spec_l03Field [1, 0, 1, 0] _ (by kernel_rfl)).trans (by kernel_rfl)

/-! spec.l03Arg -/
noncomputable def spec_l03Arg_0 (s0 : ByteArray) (l1 : List (List Pd)) (s2 : ByteArray) (b3 : Bool) (b4 : Bool) (s5 : ByteArray) : Option Res := pt E0 F_spec_l03Arg [] ⟨tl ud [(0, .p (.agg 5 [.str s0, .sl 2 l1, .str s2, .bool (b3), .bool (b4)])), (1, .p (.str s5))] 0 22, tl .none [] 0 22, []⟩
noncomputable def spec_l03Arg_1 (s0 : ByteArray) (n1 : Int) (s2 : ByteArray) (l3 : List (List Pd)) (s4 : ByteArray) (b5 : Bool) (b6 : Bool) : Option Res := pt E0 F_spec_l03Arg [1, 0, 1, 0, 2] ⟨tl ud [(1, .p (.str s0)), (2, .ptr (.loc 2) 0), (5, .p (.int .i64 (n1)))] 0 22, tl .none [(2, .box 5 [.str s2, .sl 2 l3, .str s4, .bool (b5), .bool (b6)])] 0 22, []⟩
theorem spec_l03Arg_0_ev (s0 : ByteArray) (l1 : List (List Pd)) (s2 : ByteArray) (b3 : Bool) (b4 : Bool) (s5 : ByteArray) : ev E0 F_spec_l03Arg [.p (.agg 5 [.str s0, .sl 2 l1, .str s2, .bool (b3), .bool (b4)]), .p (.str s5)] [] = spec_l03Arg_0 s0 l1 s2 b3 b4 s5 := (ev_eq _ _ _ _).trans (by kernel_rfl)
theorem spec_l03Arg_0_eq (s0 : ByteArray) (l1 : List (List Pd)) (s2 : ByteArray) (b3 : Bool) (b4 : Bool) (s5 : ByteArray) : spec_l03Arg_0 s0 l1 s2 b3 b4 s5 =
    spec_l03Arg_1 s5 0 s0 l1 s2 b3 b4 := by kernel_rfl
theorem spec_l03Arg_1_eq (s0 : ByteArray) (n1 : Int) (s2 : ByteArray) (l3 : List (List Pd)) (s4 : ByteArray) (b5 : Bool) (b6 : Bool) : spec_l03Arg_1 s0 n1 s2 l3 s4 b5 b6 =
    bif decide ((n1 : Int) < (l3.length : Int)) then (if 0 ≤ (n1 : Int) ∧ (n1 : Int) < (l3.length : Int) then ((asStr (((l3.getD (n1 : Int).toNat []).getD 0 .undef))).bind fun s108 => bif decide (s108 = s0) then (some ([.p (.int .i64 (n1))], [])) else (spec_l03Arg_1 s0 (IntKind.i64.wrap (n1 + 1)) s2 l3 s4 b5 b6)) else none) else (some ([.p (.int .i64 (-1))], [])) := (pt_loop E0 F_spec_l03Arg [1, 0, 1, 0] _ (by kernel_rfl)).trans (by kernel_rfl)

/-! spec.l02Sels -/
noncomputable def spec_l02Sels_0 (l0 : List (List Pd)) (n1 : Int) : Option Res := pt E0 F_spec_l02Sels [] ⟨tl ud [(0, .p (.sl 6 l0)), (1, .p (.int .i64 (n1)))] 0 50, tl .none [] 0 50, []⟩
noncomputable def spec_l02Sels_1 (l0 : List (List Pd)) (n1 : Int) (n2 : Int) (b3 : Bool) : Option Res := pt E0 F_spec_l02Sels [1, 1, 0, 1] ⟨tl ud [(0, .p (.sl 6 l0)), (1, .p (.int .i64 (n1))), (6, .p (.int .i64 (n2))), (17, .p (.bool (b3)))] 0 50, tl .none [] 0 50, []⟩
noncomputable def spec_l02Sels_2 (l0 : List (List Pd)) (n1 : Int) (n2 : Int) (n3 : Int) : Option Res := pt E0 F_spec_l02Sels [1, 1, 1, 0, 1, 0, 2] ⟨tl ud [(0, .p (.sl 6 l0)), (1, .p (.int .i64 (n1))), (6, .p (.int .i64 (n2))), (7, .p (.int .i64 (n3)))] 0 50, tl .none [] 0 50, []⟩
noncomputable def spec_l02Sels_3 (l0 : List (List Pd)) (n1 : Int) (n2 : Int) (n3 : Int) (b4 : Bool) : Option Res := pt E0 F_spec_l02Sels [1, 1, 1, 0, 1, 0, 0, 1, 0, 0, 1, 1, 1, 1, 1] ⟨tl ud [(0, .p (.sl 6 l0)), (1, .p (.int .i64 (n1))), (6, .p (.int .i64 (n2))), (7, .p (.int .i64 (n3))), (48, .p (.bool (b4)))] 0 50, tl .none [] 0 50, []⟩
theorem spec_l02Sels_0_ev (l0 : List (List Pd)) (n1 : Int) : ev E0 F_spec_l02Sels [.p (.sl 6 l0), .p (.int .i64 (n1))] [] = spec_l02Sels_0 l0 n1 := (ev_eq _ _ _ _).trans (by kernel_rfl)
theorem spec_l02Sels_0_eq (l0 : List (List Pd)) (n1 : Int) : spec_l02Sels_0 l0 n1 =
    bif (n1 : Int) == 0 then (spec_l02Sels_1 l0 n1 0 (decide (((l0.length : Int) : Int) > 0))) else (spec_l02Sels_1 l0 n1 0 false) := by kernel_rfl
theorem spec_l02Sels_1_eq (l0 : List (List Pd)) (n1 : Int) (n2 : Int) (b3 : Bool) : spec_l02Sels_1 l0 n1 n2 b3 =
    bif b3 then (some ([.p (.int .i64 (0)), .p (.bool (false))], [])) else (spec_l02Sels_2 l0 n1 n2 0) := by kernel_rfl
theorem spec_l02Sels_2_eq (l0 : List (List Pd)) (n1 : Int) (n2 : Int) (n3 : Int) : spec_l02Sels_2 l0 n1 n2 n3 =
    bif decide ((n3 : Int) < (l0.length : Int)) then (if 0 ≤ (n3 : Int) ∧ (n3 : Int) < (l0.length : Int) then ((ev E0 F_spec_l02Sel [.p (.agg 6 (l0.getD (n3 : Int).toNat []))] []).bind fun r105 => (asBool (pAt 0 r105.1)).bind fun b106 => if r105.1.length = 1 then (bif !(b106) then (some ([.p (.int .i64 (0)), .p (.bool (false))], [])) else ((asSl 6 (((l0.getD (n3 : Int).toNat []).getD 5 .undef))).bind fun l107 => (ev E0 F_spec_l02Sels [.p (.sl 6 l107), .p (.int .i64 (IntKind.i64.wrap (n1 - 1)))] []).bind fun r108 => (asInt .i64 (pAt 0 r108.1)).bind fun n109 => (asBool (pAt 1 r108.1)).bind fun b110 => if r108.1.length = 2 then (bif !(b110) then (spec_l02Sels_3 l0 n1 (IntKind.i64.wrap (n2 + (IntKind.i64.wrap (1 + n109)))) n3 true) else (spec_l02Sels_3 l0 n1 (IntKind.i64.wrap (n2 + (IntKind.i64.wrap (1 + n109)))) n3 (decide ((IntKind.i64.wrap (n2 + (IntKind.i64.wrap (1 + n109))) : Int) > 60)))) else none)) else none) else none) else (some ([.p (.int .i64 (n2)), .p (.bool (true))], [])) := (pt_loop E0 F_spec_l02Sels [1, 1, 1, 0, 1, 0] _ (by kernel_rfl)).trans (by kernel_rfl)
theorem spec_l02Sels_3_eq (l0 : List (List Pd)) (n1 : Int) (n2 : Int) (n3 : Int) (b4 : Bool) : spec_l02Sels_3 l0 n1 n2 n3 b4 =
    bif b4 then (some ([.p (.int .i64 (0)), .p (.bool (false))], [])) else (spec_l02Sels_2 l0 n1 n2 (IntKind.i64.wrap (n3 + 1))) := by kernel_rfl

/-! spec.l04Sels -/
noncomputable def spec_l04Sels_0 (l0 : List (List Pd)) (l1 : List (List Pd)) (s2 : ByteArray) (l3 : List (List Pd)) : Option Res := pt E0 F_spec_l04Sels [] ⟨tl ud [(0, .p (.agg 1 [.sl 2 l0])), (1, .p (.agg 1 [.sl 4 l1])), (2, .p (.str s2)), (3, .p (.sl 6 l3))] 0 28, tl .none [] 0 28, []⟩
noncomputable def spec_l04Sels_1 (s0 : ByteArray) (l1 : List (List Pd)) (n2 : Int) (l3 : List (List Pd)) (l4 : List (List Pd)) : Option Res := pt E0 F_spec_l04Sels [1, 0, 1, 0, 2] ⟨tl ud [(2, .p (.str s0)), (3, .p (.sl 6 l1)), (4, .ptr (.loc 4) 0), (5, .ptr (.loc 5) 0), (9, .p (.int .i64 (n2)))] 0 28, tl .none [(4, .box 1 [.sl 2 l3]), (5, .box 1 [.sl 4 l4])] 0 28, []⟩
theorem spec_l04Sels_0_ev (l0 : List (List Pd)) (l1 : List (List Pd)) (s2 : ByteArray) (l3 : List (List Pd)) : ev E0 F_spec_l04Sels [.p (.agg 1 [.sl 2 l0]), .p (.agg 1 [.sl 4 l1]), .p (.str s2), .p (.sl 6 l3)] [] = spec_l04Sels_0 l0 l1 s2 l3 := (ev_eq _ _ _ _).trans (by kernel_rfl)
theorem spec_l04Sels_0_eq (l0 : List (List Pd)) (l1 : List (List Pd)) (s2 : ByteArray) (l3 : List (List Pd)) : spec_l04Sels_0 l0 l1 s2 l3 =
    spec_l04Sels_1 s2 l3 0 l0 l1 := by kernel_rfl
theorem spec_l04Sels_1_eq (s0 : ByteArray) (l1 : List (List Pd)) (n2 : Int) (l3 : List (List Pd)) (l4 : List (List Pd)) : spec_l04Sels_1 s0 l1 n2 l3 l4 =
    bif decide ((n2 : Int) < (l1.length : Int)) then (if 0 ≤ (n2 : Int) ∧ (n2 : Int) < (l1.length : Int) then ((ev E0 F_spec_l04Sel [.p (.agg 1 [.sl 2 l3]), .p (.agg 1 [.sl 4 l4]), .p (.str s0), .p (.agg 6 (l1.getD (n2 : Int).toNat []))] []).bind fun r106 => (asInt .i64 (pAt 0 r106.1)).bind fun n107 => if r106.1.length = 1 then (bif (n107 : Int) != 0 then (some ([.p (.int .i64 (n107))], [])) else (spec_l04Sels_1 s0 l1 (IntKind.i64.wrap (n2 + 1)) l3 l4)) else none) else none) else (some ([.p (.int .i64 (0))], [])) := (pt_loop E0 F_spec_l04Sels [1, 0, 1, 0] _ (by kernel_rfl)).trans (by kernel_rfl)

/-! laws.toTypeDef -/
noncomputable def laws_toTypeDef_0 (s0 : ByteArray) (l1 : List (List Pd)) : Option Res := pt E0 F_laws_toTypeDef [] ⟨tl ud [(0, .p (.agg 2 [.str s0, .sl 5 l1]))] 0 12, tl .none [] 0 12, []⟩
theorem laws_toTypeDef_0_ev (s0 : ByteArray) (l1 : List (List Pd)) : ev E0 F_laws_toTypeDef [.p (.agg 2 [.str s0, .sl 5 l1])] [] = laws_toTypeDef_0 s0 l1 := (ev_eq _ _ _ _).trans (by kernel_rfl)
theorem laws_toTypeDef_0_eq (s0 : ByteArray) (l1 : List (List Pd)) : laws_toTypeDef_0 s0 l1 =
    (ev E0 F_laws_toFieldDefS [.p (.sl 5 l1)] []).bind fun r103 => (asSl 5 (pAt 0 r103.1)).bind fun l104 => if r103.1.length = 1 then (some ([.p (.agg 2 [.str s0, .sl 5 l104])], [])) else none := by kernel_rfl

/-! laws.toDef -/
noncomputable def laws_toDef_0 (n0 : Int) (s1 : ByteArray) (s2 : ByteArray) (l3 : List (List Pd)) : Option Res := pt E0 F_laws_toDef [] ⟨tl ud [(0, .p (.agg 4 [.int .i64 (n0), .str s1, .str s2, .sl 6 l3]))] 0 18, tl .none [] 0 18, []⟩
theorem laws_toDef_0_ev (n0 : Int) (s1 : ByteArray) (s2 : ByteArray) (l3 : List (List Pd)) : ev E0 F_laws_toDef [.p (.agg 4 [.int .i64 (n0), .str s1, .str s2, .sl 6 l3])] [] = laws_toDef_0 n0 s1 s2 l3 := (ev_eq _ _ _ _).trans (by kernel_rfl)
theorem laws_toDef_0_eq (n0 : Int) (s1 : ByteArray) (s2 : ByteArray) (l3 : List (List Pd)) : laws_toDef_0 n0 s1 s2 l3 =
    (ev E0 F_laws_toSelS [.p (.sl 6 l3)] []).bind fun r105 => (asSl 6 (pAt 0 r105.1)).bind fun l106 => if r105.1.length = 1 then (some ([.p (.agg 4 [.int .i64 (n0), .str s1, .str s2, .sl 6 l106])], [])) else none := by kernel_rfl

/-! impl.within -/
noncomputable def impl_within_0 (n0 : Int) (n1 : Int) (n2 : Int) : Option Res := pt E0 F_impl_within [] ⟨tl ud [(0, .p (.int .i64 (n0))), (1, .p (.int .i64 (n1))), (2, .p (.int .i64 (n2)))] 0 15, tl .none [] 0 15, []⟩
theorem impl_within_0_ev (n0 : Int) (n1 : Int) (n2 : Int) : ev E0 F_impl_within [.p (.int .i64 (n0)), .p (.int .i64 (n1)), .p (.int .i64 (n2))] [] = impl_within_0 n0 n1 n2 := (ev_eq _ _ _ _).trans (by kernel_rfl)
theorem impl_within_0_eq (n0 : Int) (n1 : Int) (n2 : Int) : impl_within_0 n0 n1 n2 =
    bif decide ((n0 : Int) ≥ n1) then (some ([.p (.bool (decide ((n0 : Int) ≤ n2)))], [])) else (some ([.p (.bool (false))], [])) := by kernel_rfl

/-! (impl.Schema).typeAt -/
noncomputable def impl_Schema_typeAt_0 (l0 : List (List Pd)) (s1 : ByteArray) : Option Res := pt E0 F_impl_Schema_typeAt [] ⟨tl ud [(0, .p (.agg 1 [.sl 2 l0])), (1, .p (.str s1))] 0 9, tl .none [] 0 9, []⟩
theorem impl_Schema_typeAt_0_ev (l0 : List (List Pd)) (s1 : ByteArray) : ev E0 F_impl_Schema_typeAt [.p (.agg 1 [.sl 2 l0]), .p (.str s1)] [] = impl_Schema_typeAt_0 l0 s1 := (ev_eq _ _ _ _).trans (by kernel_rfl)
theorem impl_Schema_typeAt_0_eq (l0 : List (List Pd)) (s1 : ByteArray) : impl_Schema_typeAt_0 l0 s1 =
    (ev E0 F_slices_IndexFunc_impl_TypeDef_impl_TypeDef [.p (.sl 2 l0), .fn F_impl_Schema_typeAt_1 [.ptr (.out 0) 0]] [.box 1 [.str s1]]).bind fun r103 => (asInt .i64 (pAt 0 r103.1)).bind fun n104 => if r103.1.length = 1 then ((asBox 1 (r103.2.getD 0 .none)).bind fun c105 => if r103.2.length = 1 then (some ([.p (.int .i64 (n104))], [])) else none) else none := by kernel_rfl

/-! impl.NameOK -/
noncomputable def impl_NameOK_0 (s0 : ByteArray) : Option Res := pt E0 F_impl_NameOK [] ⟨tl ud [(0, .p (.str s0))] 0 29, tl .none [] 0 29, []⟩
noncomputable def impl_NameOK_1 (s0 : ByteArray) (n1 : Int) (n2 : Int) : Option Res := pt E0 F_impl_NameOK [1, 0, 1, 0, 2] ⟨tl ud [(0, .p (.str s0)), (5, .p (.int .i64 (n1))), (6, .p (.int .i64 (n2)))] 0 29, tl .none [] 0 29, []⟩
noncomputable def impl_NameOK_2 (s0 : ByteArray) (n1 : Int) (n2 : Int) (b3 : Bool) : Option Res := pt E0 F_impl_NameOK [1, 0, 1, 0, 0, 1, 1, 0, 0, 1, 1] ⟨tl ud [(0, .p (.str s0)), (5, .p (.int .i64 (n1))), (6, .p (.int .i64 (n2))), (24, .p (.bool (b3)))] 0 29, tl .none [] 0 29, []⟩
theorem impl_NameOK_0_ev (s0 : ByteArray) : ev E0 F_impl_NameOK [.p (.str s0)] [] = impl_NameOK_0 s0 := (ev_eq _ _ _ _).trans (by kernel_rfl)
theorem impl_NameOK_0_eq (s0 : ByteArray) : impl_NameOK_0 s0 =
    impl_NameOK_1 s0 (s0.size : Int) 0 := by kernel_rfl
theorem impl_NameOK_1_eq (s0 : ByteArray) (n1 : Int) (n2 : Int) : impl_NameOK_1 s0 n1 n2 =
    bif decide ((n2 : Int) < n1) then (if 0 ≤ (n2 : Int) ∧ (n2 : Int) < (s0.size : Int) then ((ev E0 F_impl_isLetter [.p (.int .u8 (bt s0 (n2 : Int).toNat))] []).bind fun r104 => (asBool (pAt 0 r104.1)).bind fun b105 => if r104.1.length = 1 then (bif !(b105) then (bif (n2 : Int) == 0 then (impl_NameOK_2 s0 n1 n2 true) else (if 0 ≤ (n2 : Int) ∧ (n2 : Int) < (s0.size : Int) then ((ev E0 F_impl_isDigit [.p (.int .u8 (bt s0 (n2 : Int).toNat))] []).bind fun r106 => (asBool (pAt 0 r106.1)).bind fun b107 => if r106.1.length = 1 then (impl_NameOK_2 s0 n1 n2 (!(b107))) else none) else none)) else (impl_NameOK_2 s0 n1 n2 false)) else none) else none) else ((ev E0 F_impl_within [.p (.int .i64 ((s0.size : Int))), .p (.int .i64 (1)), .p (.int .i64 (40))] []).bind fun r108 => (asBool (pAt 0 r108.1)).bind fun b109 => if r108.1.length = 1 then (some ([.p (.bool (b109))], [])) else none) := (pt_loop E0 F_impl_NameOK [1, 0, 1, 0] _ (by kernel_rfl)).trans (by kernel_rfl)
theorem impl_NameOK_2_eq (s0 : ByteArray) (n1 : Int) (n2 : Int) (b3 : Bool) : impl_NameOK_2 s0 n1 n2 b3 =
    bif b3 then (some ([.p (.bool (false))], [])) else (impl_NameOK_1 s0 n1 (IntKind.i64.wrap (n2 + 1))) := by kernel_rfl

/-! (impl.Schema).fieldOK -/
noncomputable def impl_Schema_fieldOK_0 (l0 : List (List Pd)) (s1 : ByteArray) (l2 : List (List Pd)) (s3 : ByteArray) (b4 : Bool) (b5 : Bool) : Option Res := pt E0 F_impl_Schema_fieldOK [] ⟨tl ud [(0, .p (.agg 1 [.sl 2 l0])), (1, .p (.agg 5 [.str s1, .sl 2 l2, .str s3, .bool (b4), .bool (b5)]))] 0 55, tl .none [] 0 55, []⟩
noncomputable def impl_Schema_fieldOK_1 (b0 : Bool) (s1 : ByteArray) (l2 : List (List Pd)) (s3 : ByteArray) (b4 : Bool) (b5 : Bool) : Option Res := pt E0 F_impl_Schema_fieldOK [1, 0, 1] ⟨tl ud [(3, .ptr (.loc 3) 0), (33, .p (.bool (b0)))] 0 55, tl .none [(3, .box 5 [.str s1, .sl 2 l2, .str s3, .bool (b4), .bool (b5)])] 0 55, []⟩
noncomputable def impl_Schema_fieldOK_2 (l0 : List (List Pd)) (n1 : Int) (n2 : Int) (s3 : ByteArray) (l4 : List (List Pd)) (s5 : ByteArray) (b6 : Bool) (b7 : Bool) : Option Res := pt E0 F_impl_Schema_fieldOK [1, 1, 0, 1, 0, 2] ⟨tl ud [(3, .ptr (.loc 3) 0), (35, .p (.sl 2 l0)), (36, .p (.int .i64 (n1))), (37, .p (.int .i64 (n2)))] 0 55, tl .none [(3, .box 5 [.str s3, .sl 2 l4, .str s5, .bool (b6), .bool (b7)])] 0 55, []⟩
noncomputable def impl_Schema_fieldOK_3 (l0 : List (List Pd)) (n1 : Int) (n2 : Int) (b3 : Bool) (s4 : ByteArray) (l5 : List (List Pd)) (s6 : ByteArray) (b7 : Bool) (b8 : Bool) : Option Res := pt E0 F_impl_Schema_fieldOK [1, 1, 0, 1, 0, 0, 1, 1, 0, 0, 1, 1] ⟨tl ud [(3, .ptr (.loc 3) 0), (35, .p (.sl 2 l0)), (36, .p (.int .i64 (n1))), (37, .p (.int .i64 (n2))), (53, .p (.bool (b3)))] 0 55, tl .none [(3, .box 5 [.str s4, .sl 2 l5, .str s6, .bool (b7), .bool (b8)])] 0 55, []⟩
theorem impl_Schema_fieldOK_0_ev (l0 : List (List Pd)) (s1 : ByteArray) (l2 : List (List Pd)) (s3 : ByteArray) (b4 : Bool) (b5 : Bool) : ev E0 F_impl_Schema_fieldOK [.p (.agg 1 [.sl 2 l0]), .p (.agg 5 [.str s1, .sl 2 l2, .str s3, .bool (b4), .bool (b5)])] [] = impl_Schema_fieldOK_0 l0 s1 l2 s3 b4 b5 := (ev_eq _ _ _ _).trans (by kernel_rfl)
theorem impl_Schema_fieldOK_0_eq (l0 : List (List Pd)) (s1 : ByteArray) (l2 : List (List Pd)) (s3 : ByteArray) (b4 : Bool) (b5 : Bool) : impl_Schema_fieldOK_0 l0 s1 l2 s3 b4 b5 =
    (ev E0 F_impl_NameOK [.p (.str s1)] []).bind fun r107 => (asBool (pAt 0 r107.1)).bind fun b108 => if r107.1.length = 1 then (bif !(b108) then (impl_Schema_fieldOK_1 true s1 l2 s3 b4 b5) else (bif decide (s1 = (⟨#[95, 95, 116, 121, 112, 101, 110, 97, 109, 101]⟩ : ByteArray)) then (impl_Schema_fieldOK_1 true s1 l2 s3 b4 b5) else (bif !decide (s3 = (⟨#[73, 110, 116]⟩ : ByteArray)) then ((ev E0 F_impl_Schema_typeAt [.p (.agg 1 [.sl 2 l0]), .p (.str s3)] []).bind fun r109 => (asInt .i64 (pAt 0 r109.1)).bind fun n110 => if r109.1.length = 1 then (bif decide ((n110 : Int) < 0) then (impl_Schema_fieldOK_1 true s1 l2 s3 b4 b5) else (impl_Schema_fieldOK_1 (decide (((l2.length : Int) : Int) > 4)) s1 l2 s3 b4 b5)) else none) else (impl_Schema_fieldOK_1 (decide (((l2.length : Int) : Int) > 4)) s1 l2 s3 b4 b5)))) else none := by kernel_rfl
theorem impl_Schema_fieldOK_1_eq (b0 : Bool) (s1 : ByteArray) (l2 : List (List Pd)) (s3 : ByteArray) (b4 : Bool) (b5 : Bool) : impl_Schema_fieldOK_1 b0 s1 l2 s3 b4 b5 =
    bif b0 then (some ([.p (.bool (false))], [])) else (impl_Schema_fieldOK_2 l2 (l2.length : Int) 0 s1 l2 s3 b4 b5) := by kernel_rfl
theorem impl_Schema_fieldOK_2_eq (l0 : List (List Pd)) (n1 : Int) (n2 : Int) (s3 : ByteArray) (l4 : List (List Pd)) (s5 : ByteArray) (b6 : Bool) (b7 : Bool) : impl_Schema_fieldOK_2 l0 n1 n2 s3 l4 s5 b6 b7 =
    bif decide ((n2 : Int) < n1) then (if 0 ≤ (n2 : Int) ∧ (n2 : Int) < (l0.length : Int) then ((asStr (((l0.getD (n2 : Int).toNat []).getD 0 .undef))).bind fun s109 => (ev E0 F_impl_NameOK [.p (.str s109)] []).bind fun r110 => (asBool (pAt 0 r110.1)).bind fun b111 => if r110.1.length = 1 then (bif !(b111) then (impl_Schema_fieldOK_3 l0 n1 n2 true s3 l4 s5 b6 b7) else ((asStr (((l0.getD (n2 : Int).toNat []).getD 0 .undef))).bind fun s112 => (ev E0 F_impl_FieldDef_argAt [.p (.agg 5 [.str s3, .sl 2 l4, .str s5, .bool (b6), .bool (b7)]), .p (.str s112)] []).bind fun r113 => (asInt .i64 (pAt 0 r113.1)).bind fun n114 => if r113.1.length = 1 then (impl_Schema_fieldOK_3 l0 n1 n2 ((n114 : Int) != n2) s3 l4 s5 b6 b7) else none)) else none) else none) else (some ([.p (.bool (true))], [])) := (pt_loop E0 F_impl_Schema_fieldOK [1, 1, 0, 1, 0] _ (by kernel_rfl)).trans (by kernel_rfl)
theorem impl_Schema_fieldOK_3_eq (l0 : List (List Pd)) (n1 : Int) (n2 : Int) (b3 : Bool) (s4 : ByteArray) (l5 : List (List Pd)) (s6 : ByteArray) (b7 : Bool) (b8 : Bool) : impl_Schema_fieldOK_3 l0 n1 n2 b3 s4 l5 s6 b7 b8 =
    bif b3 then (some ([.p (.bool (false))], [])) else (impl_Schema_fieldOK_2 l0 n1 (IntKind.i64.wrap (n2 + 1)) s4 l5 s6 b7 b8) := by kernel_rfl

/-! (impl.TypeDef).fieldAt -/
noncomputable def impl_TypeDef_fieldAt_0 (s0 : ByteArray) (l1 : List (List Pd)) (s2 : ByteArray) : Option Res := pt E0 F_impl_TypeDef_fieldAt [] ⟨tl ud [(0, .p (.agg 2 [.str s0, .sl 5 l1])), (1, .p (.str s2))] 0 9, tl .none [] 0 9, []⟩
theorem impl_TypeDef_fieldAt_0_ev (s0 : ByteArray) (l1 : List (List Pd)) (s2 : ByteArray) : ev E0 F_impl_TypeDef_fieldAt [.p (.agg 2 [.str s0, .sl 5 l1]), .p (.str s2)] [] = impl_TypeDef_fieldAt_0 s0 l1 s2 := (ev_eq _ _ _ _).trans (by kernel_rfl)
theorem impl_TypeDef_fieldAt_0_eq (s0 : ByteArray) (l1 : List (List Pd)) (s2 : ByteArray) : impl_TypeDef_fieldAt_0 s0 l1 s2 =
    (ev E0 F_slices_IndexFunc_impl_FieldDef_impl_FieldDef [.p (.sl 5 l1), .fn F_impl_TypeDef_fieldAt_1 [.ptr (.out 0) 0]] [.box 1 [.str s2]]).bind fun r104 => (asInt .i64 (pAt 0 r104.1)).bind fun n105 => if r104.1.length = 1 then ((asBox 1 (r104.2.getD 0 .none)).bind fun c106 => if r104.2.length = 1 then (some ([.p (.int .i64 (n105))], [])) else none) else none := by kernel_rfl

/-! (impl.Def).isRight -/
noncomputable def impl_Def_isRight_0 (n0 : Int) (s1 : ByteArray) (s2 : ByteArray) (l3 : List (List Pd)) : Option Res := pt E0 F_impl_Def_isRight [] ⟨tl ud [(0, .p (.agg 4 [.int .i64 (n0), .str s1, .str s2, .sl 6 l3]))] 0 43, tl .none [] 0 43, []⟩
noncomputable def impl_Def_isRight_1 (n0 : Int) (b1 : Bool) (n2 : Int) (s3 : ByteArray) (s4 : ByteArray) (l5 : List (List Pd)) : Option Res := pt E0 F_impl_Def_isRight [1, 0, 1, 0, 1] ⟨tl ud [(1, .ptr (.loc 1) 0), (4, .p (.int .i64 (n0))), (5, .p (.bool (b1)))] 0 43, tl .none [(1, .box 4 [.int .i64 (n2), .str s3, .str s4, .sl 6 l5])] 0 43, []⟩
theorem impl_Def_isRight_0_ev (n0 : Int) (s1 : ByteArray) (s2 : ByteArray) (l3 : List (List Pd)) : ev E0 F_impl_Def_isRight [.p (.agg 4 [.int .i64 (n0), .str s1, .str s2, .sl 6 l3])] [] = impl_Def_isRight_0 n0 s1 s2 l3 := (ev_eq _ _ _ _).trans (by kernel_rfl)
theorem impl_Def_isRight_0_eq (n0 : Int) (s1 : ByteArray) (s2 : ByteArray) (l3 : List (List Pd)) : impl_Def_isRight_0 n0 s1 s2 l3 =
    bif (n0 : Int) == 1 then (impl_Def_isRight_1 n0 ((n0 : Int) == 1) n0 s1 s2 l3) else (impl_Def_isRight_1 n0 ((n0 : Int) == 2) n0 s1 s2 l3) := by kernel_rfl
theorem impl_Def_isRight_1_eq (n0 : Int) (b1 : Bool) (n2 : Int) (s3 : ByteArray) (s4 : ByteArray) (l5 : List (List Pd)) : impl_Def_isRight_1 n0 b1 n2 s3 s4 l5 =
    bif b1 then ((ev E0 F_impl_isNameOrNone [.p (.str s3)] []).bind fun r107 => (asBool (pAt 0 r107.1)).bind fun b108 => if r107.1.length = 1 then (bif b108 then (bif decide (s4 = (⟨#[]⟩ : ByteArray)) then (some ([.p (.bool (decide (((l5.length : Int) : Int) > 0)))], [])) else (some ([.p (.bool (false))], []))) else (some ([.p (.bool (false))], []))) else none) else (bif (n0 : Int) == 3 then ((ev E0 F_impl_NameOK [.p (.str s3)] []).bind fun r109 => (asBool (pAt 0 r109.1)).bind fun b110 => if r109.1.length = 1 then (bif b110 then (bif !decide (s3 = (⟨#[111, 110]⟩ : ByteArray)) then ((ev E0 F_impl_NameOK [.p (.str s4)] []).bind fun r111 => (asBool (pAt 0 r111.1)).bind fun b112 => if r111.1.length = 1 then (bif b112 then (some ([.p (.bool (decide (((l5.length : Int) : Int) > 0)))], [])) else (some ([.p (.bool (false))], []))) else none) else (some ([.p (.bool (false))], []))) else (some ([.p (.bool (false))], []))) else none) else (some ([.p (.bool (false))], []))) := by kernel_rfl

/-! impl.areRight -/
noncomputable def impl_areRight_0 (l0 : List (List Pd)) (n1 : Int) (n2 : Int) : Option Res := pt E0 F_impl_areRight [] ⟨tl ud [(0, .p (.sl 6 l0)), (1, .p (.int .i64 (n1))), (2, .ptr (.out 0) 0)] 0 46, tl .none [] 0 46, [.box 1 [.int .i64 (n2)]]⟩
noncomputable def impl_areRight_1 (l0 : List (List Pd)) (n1 : Int) (c2 : List Pd) : Option Res := pt E0 F_impl_areRight [] ⟨tl ud [(0, .p (.sl 6 l0)), (1, .p (.int .i64 (n1))), (2, .ptr (.out 0) 0)] 0 46, tl .none [] 0 46, [.box 1 c2]⟩
noncomputable def impl_areRight_2 (l0 : List (List Pd)) (n1 : Int) (b2 : Bool) (n3 : Int) : Option Res := pt E0 F_impl_areRight [1, 0, 1] ⟨tl ud [(0, .p (.sl 6 l0)), (1, .p (.int .i64 (n1))), (2, .ptr (.out 0) 0), (15, .p (.bool (b2)))] 0 46, tl .none [] 0 46, [.box 1 [.int .i64 (n3)]]⟩
noncomputable def impl_areRight_3 (l0 : List (List Pd)) (n1 : Int) (b2 : Bool) (c3 : List Pd) : Option Res := pt E0 F_impl_areRight [1, 0, 1] ⟨tl ud [(0, .p (.sl 6 l0)), (1, .p (.int .i64 (n1))), (2, .ptr (.out 0) 0), (15, .p (.bool (b2)))] 0 46, tl .none [] 0 46, [.box 1 c3]⟩
noncomputable def impl_areRight_4 (n0 : Int) (l1 : List (List Pd)) (n2 : Int) (n3 : Int) (n4 : Int) : Option Res := pt E0 F_impl_areRight [1, 1, 0, 1, 0, 2] ⟨tl ud [(1, .p (.int .i64 (n0))), (2, .ptr (.out 0) 0), (16, .p (.sl 6 l1)), (17, .p (.int .i64 (n2))), (18, .p (.int .i64 (n3)))] 0 46, tl .none [] 0 46, [.box 1 [.int .i64 (n4)]]⟩
noncomputable def impl_areRight_5 (n0 : Int) (l1 : List (List Pd)) (n2 : Int) (n3 : Int) (c4 : List Pd) : Option Res := pt E0 F_impl_areRight [1, 1, 0, 1, 0, 2] ⟨tl ud [(1, .p (.int .i64 (n0))), (2, .ptr (.out 0) 0), (16, .p (.sl 6 l1)), (17, .p (.int .i64 (n2))), (18, .p (.int .i64 (n3)))] 0 46, tl .none [] 0 46, [.box 1 c4]⟩
noncomputable def impl_areRight_6 (n0 : Int) (l1 : List (List Pd)) (n2 : Int) (n3 : Int) (b4 : Bool) (n5 : Int) : Option Res := pt E0 F_impl_areRight [1, 1, 0, 1, 0, 0, 1, 1, 0, 0, 1, 1, 1] ⟨tl ud [(1, .p (.int .i64 (n0))), (2, .ptr (.out 0) 0), (16, .p (.sl 6 l1)), (17, .p (.int .i64 (n2))), (18, .p (.int .i64 (n3))), (44, .p (.bool (b4)))] 0 46, tl .none [] 0 46, [.box 1 [.int .i64 (n5)]]⟩
noncomputable def impl_areRight_7 (n0 : Int) (l1 : List (List Pd)) (n2 : Int) (n3 : Int) (b4 : Bool) (c5 : List Pd) : Option Res := pt E0 F_impl_areRight [1, 1, 0, 1, 0, 0, 1, 1, 0, 0, 1, 1, 1] ⟨tl ud [(1, .p (.int .i64 (n0))), (2, .ptr (.out 0) 0), (16, .p (.sl 6 l1)), (17, .p (.int .i64 (n2))), (18, .p (.int .i64 (n3))), (44, .p (.bool (b4)))] 0 46, tl .none [] 0 46, [.box 1 c5]⟩
theorem impl_areRight_0_ev (l0 : List (List Pd)) (n1 : Int) (n2 : Int) : ev E0 F_impl_areRight [.p (.sl 6 l0), .p (.int .i64 (n1)), .ptr (.out 0) 0] [.box 1 [.int .i64 (n2)]] = impl_areRight_0 l0 n1 n2 := (ev_eq _ _ _ _).trans (by kernel_rfl)
theorem impl_areRight_0_eq (l0 : List (List Pd)) (n1 : Int) (n2 : Int) : impl_areRight_0 l0 n1 n2 =
    bif decide (((l0.length : Int) : Int) > 0) then (impl_areRight_2 l0 n1 ((n1 : Int) == 0) n2) else (impl_areRight_2 l0 n1 false n2) := by kernel_rfl
theorem impl_areRight_1_ev (l0 : List (List Pd)) (n1 : Int) (c2 : List Pd) : ev E0 F_impl_areRight [.p (.sl 6 l0), .p (.int .i64 (n1)), .ptr (.out 0) 0] [.box 1 c2] = impl_areRight_1 l0 n1 c2 := (ev_eq _ _ _ _).trans (by kernel_rfl)
theorem impl_areRight_1_eq (l0 : List (List Pd)) (n1 : Int) (c2 : List Pd) : impl_areRight_1 l0 n1 c2 =
    bif decide (((l0.length : Int) : Int) > 0) then (impl_areRight_3 l0 n1 ((n1 : Int) == 0) c2) else (impl_areRight_3 l0 n1 false c2) := by kernel_rfl
theorem impl_areRight_2_eq (l0 : List (List Pd)) (n1 : Int) (b2 : Bool) (n3 : Int) : impl_areRight_2 l0 n1 b2 n3 =
    bif b2 then (some ([.p (.bool (false))], [.box 1 [.int .i64 (n3)]])) else (impl_areRight_4 n1 l0 (l0.length : Int) 0 n3) := by kernel_rfl
theorem impl_areRight_3_eq (l0 : List (List Pd)) (n1 : Int) (b2 : Bool) (c3 : List Pd) : impl_areRight_3 l0 n1 b2 c3 =
    bif b2 then (some ([.p (.bool (false))], [.box 1 c3])) else (impl_areRight_5 n1 l0 (l0.length : Int) 0 c3) := by kernel_rfl
theorem impl_areRight_4_eq (n0 : Int) (l1 : List (List Pd)) (n2 : Int) (n3 : Int) (n4 : Int) : impl_areRight_4 n0 l1 n2 n3 n4 =
    bif decide ((n3 : Int) < n2) then (if 0 ≤ (n3 : Int) ∧ (n3 : Int) < (l1.length : Int) then (bif decide ((IntKind.i64.wrap (n4 - 1) : Int) < 0) then (impl_areRight_6 n0 l1 n2 n3 true (IntKind.i64.wrap (n4 - 1))) else ((ev E0 F_impl_Sel_isRight [.p (.agg 6 (l1.getD (n3 : Int).toNat []))] []).bind fun r106 => (asBool (pAt 0 r106.1)).bind fun b107 => if r106.1.length = 1 then (bif !(b107) then (impl_areRight_6 n0 l1 n2 n3 true (IntKind.i64.wrap (n4 - 1))) else ((asSl 6 (((l1.getD (n3 : Int).toNat []).getD 5 .undef))).bind fun l108 => (ev E0 F_impl_areRight [.p (.sl 6 l108), .p (.int .i64 (IntKind.i64.wrap (n0 - 1))), .ptr (.out 0) 0] [.box 1 [.int .i64 (IntKind.i64.wrap (n4 - 1))]]).bind fun r109 => (asBool (pAt 0 r109.1)).bind fun b110 => if r109.1.length = 1 then ((asBox 1 (r109.2.getD 0 .none)).bind fun c111 => if r109.2.length = 1 then (impl_areRight_7 n0 l1 n2 n3 (!(b110)) c111) else none) else none)) else none)) else none) else (some ([.p (.bool (true))], [.box 1 [.int .i64 (n4)]])) := (pt_loop E0 F_impl_areRight [1, 1, 0, 1, 0] _ (by kernel_rfl)).trans (by kernel_rfl)
theorem impl_areRight_5_eq (n0 : Int) (l1 : List (List Pd)) (n2 : Int) (n3 : Int) (c4 : List Pd) : impl_areRight_5 n0 l1 n2 n3 c4 =
    bif decide ((n3 : Int) < n2) then (if 0 ≤ (n3 : Int) ∧ (n3 : Int) < (l1.length : Int) then ((asInt .i64 (c4.getD 0 .undef)).bind fun n106 => bif decide ((IntKind.i64.wrap (n106 - 1) : Int) < 0) then (impl_areRight_6 n0 l1 n2 n3 true (IntKind.i64.wrap (n106 - 1))) else ((ev E0 F_impl_Sel_isRight [.p (.agg 6 (l1.getD (n3 : Int).toNat []))] []).bind fun r107 => (asBool (pAt 0 r107.1)).bind fun b108 => if r107.1.length = 1 then (bif !(b108) then (impl_areRight_6 n0 l1 n2 n3 true (IntKind.i64.wrap (n106 - 1))) else ((asSl 6 (((l1.getD (n3 : Int).toNat []).getD 5 .undef))).bind fun l109 => (ev E0 F_impl_areRight [.p (.sl 6 l109), .p (.int .i64 (IntKind.i64.wrap (n0 - 1))), .ptr (.out 0) 0] [.box 1 [.int .i64 (IntKind.i64.wrap (n106 - 1))]]).bind fun r110 => (asBool (pAt 0 r110.1)).bind fun b111 => if r110.1.length = 1 then ((asBox 1 (r110.2.getD 0 .none)).bind fun c112 => if r110.2.length = 1 then (impl_areRight_7 n0 l1 n2 n3 (!(b111)) c112) else none) else none)) else none)) else none) else (some ([.p (.bool (true))], [.box 1 c4])) := (pt_loop E0 F_impl_areRight [1, 1, 0, 1, 0] _ (by kernel_rfl)).trans (by kernel_rfl)
theorem impl_areRight_6_eq (n0 : Int) (l1 : List (List Pd)) (n2 : Int) (n3 : Int) (b4 : Bool) (n5 : Int) : impl_areRight_6 n0 l1 n2 n3 b4 n5 =
    bif b4 then (some ([.p (.bool (false))], [.box 1 [.int .i64 (n5)]])) else (impl_areRight_4 n0 l1 n2 (IntKind.i64.wrap (n3 + 1)) n5) := by kernel_rfl
theorem impl_areRight_7_eq (n0 : Int) (l1 : List (List Pd)) (n2 : Int) (n3 : Int) (b4 : Bool) (c5 : List Pd) : impl_areRight_7 n0 l1 n2 n3 b4 c5 =
    bif b4 then (some ([.p (.bool (false))], [.box 1 c5])) else (impl_areRight_5 n0 l1 n2 (IntKind.i64.wrap (n3 + 1)) c5) := by kernel_rfl

/-! (impl.Def).rootOf -/
noncomputable def impl_Def_rootOf_0 (n0 : Int) (s1 : ByteArray) (s2 : ByteArray) (l3 : List (List Pd)) : Option Res := pt E0 F_impl_Def_rootOf [] ⟨tl ud [(0, .p (.agg 4 [.int .i64 (n0), .str s1, .str s2, .sl 6 l3]))] 0 11, tl .none [] 0 11, []⟩
theorem impl_Def_rootOf_0_ev (n0 : Int) (s1 : ByteArray) (s2 : ByteArray) (l3 : List (List Pd)) : ev E0 F_impl_Def_rootOf [.p (.agg 4 [.int .i64 (n0), .str s1, .str s2, .sl 6 l3])] [] = impl_Def_rootOf_0 n0 s1 s2 l3 := (ev_eq _ _ _ _).trans (by kernel_rfl)
theorem impl_Def_rootOf_0_eq (n0 : Int) (s1 : ByteArray) (s2 : ByteArray) (l3 : List (List Pd)) : impl_Def_rootOf_0 n0 s1 s2 l3 =
    bif (n0 : Int) == 1 then (some ([.p (.str (⟨#[81, 117, 101, 114, 121]⟩ : ByteArray))], [])) else (bif (n0 : Int) == 2 then (some ([.p (.str (⟨#[77, 117, 116, 97, 116, 105, 111, 110]⟩ : ByteArray))], [])) else (some ([.p (.str s2)], []))) := by kernel_rfl

/-! (impl.checker).sels -/
noncomputable def impl_checker_sels_0 (l0 : List (List Pd)) (l1 : List (List Pd)) (s2 : ByteArray) (l3 : List (List Pd)) : Option Res := pt E0 F_impl_checker_sels [] ⟨tl ud [(0, .p (.agg 2 [.sl 2 l0, .sl 4 l1])), (1, .p (.str s2)), (2, .p (.sl 6 l3))] 0 53, tl .none [] 0 53, []⟩
noncomputable def impl_checker_sels_1 (l0 : List (List Pd)) (n1 : Int) (n2 : Int) (l3 : List (List Pd)) (l4 : List (List Pd)) (c5 : List Pd) : Option Res := pt E0 F_impl_checker_sels [1, 1, 1, 0, 1, 0, 2] ⟨tl ud [(3, .ptr (.loc 3) 0), (7, .ptr (.loc 7) 0), (25, .p (.sl 6 l0)), (26, .p (.int .i64 (n1))), (27, .p (.int .i64 (n2)))] 0 53, tl .none [(3, .box 2 [.sl 2 l3, .sl 4 l4]), (7, .box 2 c5)] 0 53, []⟩
theorem impl_checker_sels_0_ev (l0 : List (List Pd)) (l1 : List (List Pd)) (s2 : ByteArray) (l3 : List (List Pd)) : ev E0 F_impl_checker_sels [.p (.agg 2 [.sl 2 l0, .sl 4 l1]), .p (.str s2), .p (.sl 6 l3)] [] = impl_checker_sels_0 l0 l1 s2 l3 := (ev_eq _ _ _ _).trans (by kernel_rfl)
theorem impl_checker_sels_0_eq (l0 : List (List Pd)) (l1 : List (List Pd)) (s2 : ByteArray) (l3 : List (List Pd)) : impl_checker_sels_0 l0 l1 s2 l3 =
    bif ((l3.length : Int) : Int) == 0 then (some ([.p (.int .i64 (0))], [])) else ((ev E0 F_impl_Schema_typeAt [.p (.agg 1 [.sl 2 l0]), .p (.str s2)] []).bind fun r105 => (asInt .i64 (pAt 0 r105.1)).bind fun n106 => if r105.1.length = 1 then (if 0 ≤ (n106 : Int) ∧ (n106 : Int) < (l0.length : Int) then (impl_checker_sels_1 l3 (l3.length : Int) 0 l0 l1 (l0.getD (n106 : Int).toNat [])) else none) else none) := by kernel_rfl
theorem impl_checker_sels_1_eq (l0 : List (List Pd)) (n1 : Int) (n2 : Int) (l3 : List (List Pd)) (l4 : List (List Pd)) (c5 : List Pd) : impl_checker_sels_1 l0 n1 n2 l3 l4 c5 =
    bif decide ((n2 : Int) < n1) then (if 0 ≤ (n2 : Int) ∧ (n2 : Int) < (l0.length : Int) then ((ev E0 F_impl_checker_sel [.p (.agg 2 [.sl 2 l3, .sl 4 l4]), .p (.agg 2 c5), .p (.agg 6 (l0.getD (n2 : Int).toNat []))] []).bind fun r107 => (asStr (pAt 0 r107.1)).bind fun s108 => (asInt .i64 (pAt 1 r107.1)).bind fun n109 => if r107.1.length = 2 then ((ev E0 F_impl_firstOf [.p (.sl 1 (([[.int .i64 (n109)]] : List (List Pd))))] []).bind fun r110 => (asInt .i64 (pAt 0 r110.1)).bind fun n111 => if r110.1.length = 1 then (bif (n111 : Int) != 0 then (some ([.p (.int .i64 (n111))], [])) else ((asSl 6 (((l0.getD (n2 : Int).toNat []).getD 5 .undef))).bind fun l112 => (ev E0 F_impl_checker_sels [.p (.agg 2 [.sl 2 l3, .sl 4 l4]), .p (.str s108), .p (.sl 6 l112)] []).bind fun r113 => (asInt .i64 (pAt 0 r113.1)).bind fun n114 => if r113.1.length = 1 then (bif (n114 : Int) != 0 then (some ([.p (.int .i64 (n114))], [])) else (impl_checker_sels_1 l0 n1 (IntKind.i64.wrap (n2 + 1)) l3 l4 c5)) else none)) else none) else none) else none) else (some ([.p (.int .i64 (0))], [])) := (pt_loop E0 F_impl_checker_sels [1, 1, 1, 0, 1, 0] _ (by kernel_rfl)).trans (by kernel_rfl)

/-! laws.eqTypeDef -/
noncomputable def laws_eqTypeDef_0 (s0 : ByteArray) (l1 : List (List Pd)) (s2 : ByteArray) (l3 : List (List Pd)) : Option Res := pt E0 F_laws_eqTypeDef [] ⟨tl ud [(0, .p (.agg 2 [.str s0, .sl 5 l1])), (1, .p (.agg 2 [.str s2, .sl 5 l3]))] 0 16, tl .none [] 0 16, []⟩
theorem laws_eqTypeDef_0_ev (s0 : ByteArray) (l1 : List (List Pd)) (s2 : ByteArray) (l3 : List (List Pd)) : ev E0 F_laws_eqTypeDef [.p (.agg 2 [.str s0, .sl 5 l1]), .p (.agg 2 [.str s2, .sl 5 l3])] [] = laws_eqTypeDef_0 s0 l1 s2 l3 := (ev_eq _ _ _ _).trans (by kernel_rfl)
theorem laws_eqTypeDef_0_eq (s0 : ByteArray) (l1 : List (List Pd)) (s2 : ByteArray) (l3 : List (List Pd)) : laws_eqTypeDef_0 s0 l1 s2 l3 =
    bif !decide (s0 = s2) then (some ([.p (.bool (false))], [])) else ((ev E0 F_laws_eqFieldDefS [.p (.sl 5 l1), .p (.sl 5 l3)] []).bind fun r105 => (asBool (pAt 0 r105.1)).bind fun b106 => if r105.1.length = 1 then (bif !(b106) then (some ([.p (.bool (false))], [])) else (some ([.p (.bool (true))], []))) else none) := by kernel_rfl

/-! laws.eqDef -/
noncomputable def laws_eqDef_0 (n0 : Int) (s1 : ByteArray) (s2 : ByteArray) (l3 : List (List Pd)) (n4 : Int) (s5 : ByteArray) (s6 : ByteArray) (l7 : List (List Pd)) : Option Res := pt E0 F_laws_eqDef [] ⟨tl ud [(0, .p (.agg 4 [.int .i64 (n0), .str s1, .str s2, .sl 6 l3])), (1, .p (.agg 4 [.int .i64 (n4), .str s5, .str s6, .sl 6 l7]))] 0 26, tl .none [] 0 26, []⟩
theorem laws_eqDef_0_ev (n0 : Int) (s1 : ByteArray) (s2 : ByteArray) (l3 : List (List Pd)) (n4 : Int) (s5 : ByteArray) (s6 : ByteArray) (l7 : List (List Pd)) : ev E0 F_laws_eqDef [.p (.agg 4 [.int .i64 (n0), .str s1, .str s2, .sl 6 l3]), .p (.agg 4 [.int .i64 (n4), .str s5, .str s6, .sl 6 l7])] [] = laws_eqDef_0 n0 s1 s2 l3 n4 s5 s6 l7 := (ev_eq _ _ _ _).trans (by kernel_rfl)
theorem laws_eqDef_0_eq (n0 : Int) (s1 : ByteArray) (s2 : ByteArray) (l3 : List (List Pd)) (n4 : Int) (s5 : ByteArray) (s6 : ByteArray) (l7 : List (List Pd)) : laws_eqDef_0 n0 s1 s2 l3 n4 s5 s6 l7 =
    bif (n0 : Int) != n4 then (some ([.p (.bool (false))], [])) else (bif !decide (s1 = s5) then (some ([.p (.bool (false))], [])) else (bif !decide (s2 = s6) then (some ([.p (.bool (false))], [])) else ((ev E0 F_laws_eqSelS [.p (.sl 6 l3), .p (.sl 6 l7)] []).bind fun r109 => (asBool (pAt 0 r109.1)).bind fun b110 => if r109.1.length = 1 then (bif !(b110) then (some ([.p (.bool (false))], [])) else (some ([.p (.bool (true))], []))) else none))) := by kernel_rfl

/-! laws.szFieldDefS -/
noncomputable def laws_szFieldDefS_0 (l0 : List (List Pd)) (n1 : Int) : Option Res := pt E0 F_laws_szFieldDefS [] ⟨tl ud [(0, .p (.sl 5 l0)), (1, .p (.int .i64 (n1)))] 0 27, tl .none [] 0 27, []⟩
noncomputable def laws_szFieldDefS_1 (l0 : List (List Pd)) (n1 : Int) (n2 : Int) : Option Res := pt E0 F_laws_szFieldDefS [1, 1, 1, 0, 1, 0, 2] ⟨tl ud [(0, .p (.sl 5 l0)), (1, .p (.int .i64 (n1))), (5, .p (.int .i64 (n2)))] 0 27, tl .none [] 0 27, []⟩
theorem laws_szFieldDefS_0_ev (l0 : List (List Pd)) (n1 : Int) : ev E0 F_laws_szFieldDefS [.p (.sl 5 l0), .p (.int .i64 (n1))] [] = laws_szFieldDefS_0 l0 n1 := (ev_eq _ _ _ _).trans (by kernel_rfl)
theorem laws_szFieldDefS_0_eq (l0 : List (List Pd)) (n1 : Int) : laws_szFieldDefS_0 l0 n1 =
    bif decide ((IntKind.i64.wrap (n1 - (l0.length : Int)) : Int) < 0) then (some ([.p (.int .i64 (-1))], [])) else (laws_szFieldDefS_1 l0 (IntKind.i64.wrap (n1 - (l0.length : Int))) 0) := by kernel_rfl
theorem laws_szFieldDefS_1_eq (l0 : List (List Pd)) (n1 : Int) (n2 : Int) : laws_szFieldDefS_1 l0 n1 n2 =
    bif decide ((n2 : Int) < (l0.length : Int)) then (if 0 ≤ (n2 : Int) ∧ (n2 : Int) < (l0.length : Int) then ((ev E0 F_laws_szFieldDef [.p (.agg 5 (l0.getD (n2 : Int).toNat [])), .p (.int .i64 (n1))] []).bind fun r104 => (asInt .i64 (pAt 0 r104.1)).bind fun n105 => if r104.1.length = 1 then (bif decide ((n105 : Int) < 0) then (some ([.p (.int .i64 (-1))], [])) else (laws_szFieldDefS_1 l0 n105 (IntKind.i64.wrap (n2 + 1)))) else none) else none) else (some ([.p (.int .i64 (n1))], [])) := (pt_loop E0 F_laws_szFieldDefS [1, 1, 1, 0, 1, 0] _ (by kernel_rfl)).trans (by kernel_rfl)

/-! laws.szSelS -/
noncomputable def laws_szSelS_0 (l0 : List (List Pd)) (n1 : Int) : Option Res := pt E0 F_laws_szSelS [] ⟨tl ud [(0, .p (.sl 6 l0)), (1, .p (.int .i64 (n1)))] 0 27, tl .none [] 0 27, []⟩
noncomputable def laws_szSelS_1 (l0 : List (List Pd)) (n1 : Int) (n2 : Int) : Option Res := pt E0 F_laws_szSelS [1, 1, 1, 0, 1, 0, 2] ⟨tl ud [(0, .p (.sl 6 l0)), (1, .p (.int .i64 (n1))), (5, .p (.int .i64 (n2)))] 0 27, tl .none [] 0 27, []⟩
theorem laws_szSelS_0_ev (l0 : List (List Pd)) (n1 : Int) : ev E0 F_laws_szSelS [.p (.sl 6 l0), .p (.int .i64 (n1))] [] = laws_szSelS_0 l0 n1 := (ev_eq _ _ _ _).trans (by kernel_rfl)
theorem laws_szSelS_0_eq (l0 : List (List Pd)) (n1 : Int) : laws_szSelS_0 l0 n1 =
    bif decide ((IntKind.i64.wrap (n1 - (l0.length : Int)) : Int) < 0) then (some ([.p (.int .i64 (-1))], [])) else (laws_szSelS_1 l0 (IntKind.i64.wrap (n1 - (l0.length : Int))) 0) := by kernel_rfl
theorem laws_szSelS_1_eq (l0 : List (List Pd)) (n1 : Int) (n2 : Int) : laws_szSelS_1 l0 n1 n2 =
    bif decide ((n2 : Int) < (l0.length : Int)) then (if 0 ≤ (n2 : Int) ∧ (n2 : Int) < (l0.length : Int) then ((ev E0 F_laws_szSel [.p (.agg 6 (l0.getD (n2 : Int).toNat [])), .p (.int .i64 (n1))] []).bind fun r104 => (asInt .i64 (pAt 0 r104.1)).bind fun n105 => if r104.1.length = 1 then (bif decide ((n105 : Int) < 0) then (some ([.p (.int .i64 (-1))], [])) else (laws_szSelS_1 l0 n105 (IntKind.i64.wrap (n2 + 1)))) else none) else none) else (some ([.p (.int .i64 (n1))], [])) := (pt_loop E0 F_laws_szSelS [1, 1, 1, 0, 1, 0] _ (by kernel_rfl)).trans (by kernel_rfl)

/-! spec.l00Word -/
noncomputable def spec_l00Word_0 (s0 : ByteArray) : Option Res := pt E0 F_spec_l00Word [] ⟨tl ud [(0, .p (.str s0))] 0 36, tl .none [] 0 36, []⟩
noncomputable def spec_l00Word_1 (s0 : ByteArray) (b1 : Bool) : Option Res := pt E0 F_spec_l00Word [1, 0, 1] ⟨tl ud [(0, .p (.str s0)), (17, .p (.bool (b1)))] 0 36, tl .none [] 0 36, []⟩
noncomputable def spec_l00Word_2 (s0 : ByteArray) (n1 : Int) : Option Res := pt E0 F_spec_l00Word [1, 1, 0, 1, 0, 2] ⟨tl ud [(0, .p (.str s0)), (3, .p (.int .i64 (n1)))] 0 36, tl .none [] 0 36, []⟩
noncomputable def spec_l00Word_3 (s0 : ByteArray) (n1 : Int) (b2 : Bool) : Option Res := pt E0 F_spec_l00Word [1, 1, 0, 1, 0, 0, 1, 0, 0, 1] ⟨tl ud [(0, .p (.str s0)), (3, .p (.int .i64 (n1))), (35, .p (.bool (b2)))] 0 36, tl .none [] 0 36, []⟩
theorem spec_l00Word_0_ev (s0 : ByteArray) : ev E0 F_spec_l00Word [.p (.str s0)] [] = spec_l00Word_0 s0 := (ev_eq _ _ _ _).trans (by kernel_rfl)
theorem spec_l00Word_0_eq (s0 : ByteArray) : spec_l00Word_0 s0 =
    bif decide (((s0.size : Int) : Int) < 1) then (spec_l00Word_1 s0 true) else (bif decide (((s0.size : Int) : Int) > 40) then (spec_l00Word_1 s0 true) else (if 0 ≤ (0 : Int) ∧ (0 : Int) < (s0.size : Int) then ((ev E0 F_spec_l00Letter [.p (.int .u8 (bt s0 (0 : Int).toNat))] []).bind fun r102 => (asBool (pAt 0 r102.1)).bind fun b103 => if r102.1.length = 1 then (spec_l00Word_1 s0 (!(b103))) else none) else none)) := by kernel_rfl
theorem spec_l00Word_1_eq (s0 : ByteArray) (b1 : Bool) : spec_l00Word_1 s0 b1 =
    bif b1 then (some ([.p (.bool (false))], [])) else (spec_l00Word_2 s0 1) := by kernel_rfl
theorem spec_l00Word_2_eq (s0 : ByteArray) (n1 : Int) : spec_l00Word_2 s0 n1 =
    bif decide ((n1 : Int) < (s0.size : Int)) then (if 0 ≤ (n1 : Int) ∧ (n1 : Int) < (s0.size : Int) then ((ev E0 F_spec_l00Letter [.p (.int .u8 (bt s0 (n1 : Int).toNat))] []).bind fun r103 => (asBool (pAt 0 r103.1)).bind fun b104 => if r103.1.length = 1 then (bif !(b104) then (if 0 ≤ (n1 : Int) ∧ (n1 : Int) < (s0.size : Int) then ((ev E0 F_spec_l00Digit [.p (.int .u8 (bt s0 (n1 : Int).toNat))] []).bind fun r105 => (asBool (pAt 0 r105.1)).bind fun b106 => if r105.1.length = 1 then (spec_l00Word_3 s0 n1 (!(b106))) else none) else none) else (spec_l00Word_3 s0 n1 false)) else none) else none) else (some ([.p (.bool (true))], [])) := (pt_loop E0 F_spec_l00Word [1, 1, 0, 1, 0] _ (by kernel_rfl)).trans (by kernel_rfl)
theorem spec_l00Word_3_eq (s0 : ByteArray) (n1 : Int) (b2 : Bool) : spec_l00Word_3 s0 n1 b2 =
    bif b2 then (some ([.p (.bool (false))], [])) else (spec_l00Word_2 s0 (IntKind.i64.wrap (n1 + 1))) := by kernel_rfl

/-! spec.l02Sel -/
noncomputable def spec_l02Sel_0 (n0 : Int) (s1 : ByteArray) (s2 : ByteArray) (l3 : List (List Pd)) (l4 : List (List Pd)) (l5 : List (List Pd)) : Option Res := pt E0 F_spec_l02Sel [] ⟨tl ud [(0, .p (.agg 6 [.int .i64 (n0), .str s1, .str s2, .sl 4 l3, .sl 4 l4, .sl 6 l5]))] 0 126, tl .none [] 0 126, []⟩
noncomputable def spec_l02Sel_1 (n0 : Int) (n1 : Int) (s2 : ByteArray) (s3 : ByteArray) (l4 : List (List Pd)) (l5 : List (List Pd)) (l6 : List (List Pd)) : Option Res := pt E0 F_spec_l02Sel [1, 0, 1, 0, 2] ⟨tl ud [(1, .ptr (.loc 1) 0), (3, .p (.int .i64 (n0)))] 0 126, tl .none [(1, .box 6 [.int .i64 (n1), .str s2, .str s3, .sl 4 l4, .sl 4 l5, .sl 6 l6])] 0 126, []⟩
noncomputable def spec_l02Sel_2 (n0 : Int) (n1 : Int) (s2 : ByteArray) (s3 : ByteArray) (l4 : List (List Pd)) (l5 : List (List Pd)) (l6 : List (List Pd)) : Option Res := pt E0 F_spec_l02Sel [1, 1, 0, 1, 0, 2] ⟨tl ud [(1, .ptr (.loc 1) 0), (4, .p (.int .i64 (n0)))] 0 126, tl .none [(1, .box 6 [.int .i64 (n1), .str s2, .str s3, .sl 4 l4, .sl 4 l5, .sl 6 l6])] 0 126, []⟩
noncomputable def spec_l02Sel_3 (n0 : Int) (b1 : Bool) (n2 : Int) (s3 : ByteArray) (s4 : ByteArray) (l5 : List (List Pd)) (l6 : List (List Pd)) (l7 : List (List Pd)) : Option Res := pt E0 F_spec_l02Sel [1, 1, 0, 1, 0, 0, 1, 0, 0, 1] ⟨tl ud [(1, .ptr (.loc 1) 0), (4, .p (.int .i64 (n0))), (44, .p (.bool (b1)))] 0 126, tl .none [(1, .box 6 [.int .i64 (n2), .str s3, .str s4, .sl 4 l5, .sl 4 l6, .sl 6 l7])] 0 126, []⟩
noncomputable def spec_l02Sel_4 (b0 : Bool) (n1 : Int) (s2 : ByteArray) (s3 : ByteArray) (l4 : List (List Pd)) (l5 : List (List Pd)) (l6 : List (List Pd)) : Option Res := pt E0 F_spec_l02Sel [1, 1, 1, 0, 1] ⟨tl ud [(1, .ptr (.loc 1) 0), (54, .p (.bool (b0)))] 0 126, tl .none [(1, .box 6 [.int .i64 (n1), .str s2, .str s3, .sl 4 l4, .sl 4 l5, .sl 6 l6])] 0 126, []⟩
theorem spec_l02Sel_0_ev (n0 : Int) (s1 : ByteArray) (s2 : ByteArray) (l3 : List (List Pd)) (l4 : List (List Pd)) (l5 : List (List Pd)) : ev E0 F_spec_l02Sel [.p (.agg 6 [.int .i64 (n0), .str s1, .str s2, .sl 4 l3, .sl 4 l4, .sl 6 l5])] [] = spec_l02Sel_0 n0 s1 s2 l3 l4 l5 := (ev_eq _ _ _ _).trans (by kernel_rfl)
theorem spec_l02Sel_0_eq (n0 : Int) (s1 : ByteArray) (s2 : ByteArray) (l3 : List (List Pd)) (l4 : List (List Pd)) (l5 : List (List Pd)) : spec_l02Sel_0 n0 s1 s2 l3 l4 l5 =
    spec_l02Sel_1 0 n0 s1 s2 l3 l4 l5 := by kernel_rfl
theorem spec_l02Sel_1_eq (n0 : Int) (n1 : Int) (s2 : ByteArray) (s3 : ByteArray) (l4 : List (List Pd)) (l5 : List (List Pd)) (l6 : List (List Pd)) : spec_l02Sel_1 n0 n1 s2 s3 l4 l5 l6 =
    bif decide ((n0 : Int) < (l5.length : Int)) then (if 0 ≤ (n0 : Int) ∧ (n0 : Int) < (l5.length : Int) then ((ev E0 F_spec_ValueOK [.p (.agg 3 ((l5.getD (n0 : Int).toNat []).drop 1))] []).bind fun r108 => (asBool (pAt 0 r108.1)).bind fun b109 => if r108.1.length = 1 then (bif !(b109) then (some ([.p (.bool (false))], [])) else (spec_l02Sel_1 (IntKind.i64.wrap (n0 + 1)) n1 s2 s3 l4 l5 l6)) else none) else none) else (spec_l02Sel_2 0 n1 s2 s3 l4 l5 l6) := (pt_loop E0 F_spec_l02Sel [1, 0, 1, 0] _ (by kernel_rfl)).trans (by kernel_rfl)
theorem spec_l02Sel_2_eq (n0 : Int) (n1 : Int) (s2 : ByteArray) (s3 : ByteArray) (l4 : List (List Pd)) (l5 : List (List Pd)) (l6 : List (List Pd)) : spec_l02Sel_2 n0 n1 s2 s3 l4 l5 l6 =
    bif decide ((n0 : Int) < (l4.length : Int)) then (if 0 ≤ (n0 : Int) ∧ (n0 : Int) < (l4.length : Int) then ((asStr (((l4.getD (n0 : Int).toNat []).getD 0 .undef))).bind fun s108 => (ev E0 F_spec_NameOK [.p (.str s108)] []).bind fun r109 => (asBool (pAt 0 r109.1)).bind fun b110 => if r109.1.length = 1 then (bif !(b110) then (spec_l02Sel_3 n0 true n1 s2 s3 l4 l5 l6) else (if 0 ≤ (n0 : Int) ∧ (n0 : Int) < (l4.length : Int) then ((ev E0 F_spec_ValueOK [.p (.agg 3 ((l4.getD (n0 : Int).toNat []).drop 1))] []).bind fun r111 => (asBool (pAt 0 r111.1)).bind fun b112 => if r111.1.length = 1 then (spec_l02Sel_3 n0 (!(b112)) n1 s2 s3 l4 l5 l6) else none) else none)) else none) else none) else (bif decide (((l5.length : Int) : Int) > 4) then (spec_l02Sel_4 true n1 s2 s3 l4 l5 l6) else (spec_l02Sel_4 (decide (((l4.length : Int) : Int) > 4)) n1 s2 s3 l4 l5 l6)) := (pt_loop E0 F_spec_l02Sel [1, 1, 0, 1, 0] _ (by kernel_rfl)).trans (by kernel_rfl)
theorem spec_l02Sel_3_eq (n0 : Int) (b1 : Bool) (n2 : Int) (s3 : ByteArray) (s4 : ByteArray) (l5 : List (List Pd)) (l6 : List (List Pd)) (l7 : List (List Pd)) : spec_l02Sel_3 n0 b1 n2 s3 s4 l5 l6 l7 =
    bif b1 then (some ([.p (.bool (false))], [])) else (spec_l02Sel_2 (IntKind.i64.wrap (n0 + 1)) n2 s3 s4 l5 l6 l7) := by kernel_rfl
theorem spec_l02Sel_4_eq (b0 : Bool) (n1 : Int) (s2 : ByteArray) (s3 : ByteArray) (l4 : List (List Pd)) (l5 : List (List Pd)) (l6 : List (List Pd)) : spec_l02Sel_4 b0 n1 s2 s3 l4 l5 l6 =
    bif b0 then (some ([.p (.bool (false))], [])) else (bif (n1 : Int) == 1 then ((ev E0 F_spec_NameOK [.p (.str s3)] []).bind fun r108 => (asBool (pAt 0 r108.1)).bind fun b109 => if r108.1.length = 1 then (bif b109 then (bif decide (s2 = (⟨#[]⟩ : ByteArray)) then (some ([.p (.bool (true))], [])) else ((ev E0 F_spec_NameOK [.p (.str s2)] []).bind fun r110 => (asBool (pAt 0 r110.1)).bind fun b111 => if r110.1.length = 1 then (some ([.p (.bool (b111))], [])) else none)) else (some ([.p (.bool (false))], []))) else none) else (bif (n1 : Int) == 2 then ((ev E0 F_spec_NameOK [.p (.str s3)] []).bind fun r112 => (asBool (pAt 0 r112.1)).bind fun b113 => if r112.1.length = 1 then (bif b113 then (bif !decide (s3 = (⟨#[111, 110]⟩ : ByteArray)) then (bif decide (s2 = (⟨#[]⟩ : ByteArray)) then (bif ((l4.length : Int) : Int) == 0 then (some ([.p (.bool (((l6.length : Int) : Int) == 0))], [])) else (some ([.p (.bool (false))], []))) else (some ([.p (.bool (false))], []))) else (some ([.p (.bool (false))], []))) else (some ([.p (.bool (false))], []))) else none) else (bif (n1 : Int) == 3 then (bif decide (s3 = (⟨#[]⟩ : ByteArray)) then (bif decide (s2 = (⟨#[]⟩ : ByteArray)) then (bif ((l4.length : Int) : Int) == 0 then (some ([.p (.bool (decide (((l6.length : Int) : Int) > 0)))], [])) else (some ([.p (.bool (false))], []))) else (some ([.p (.bool (false))], []))) else ((ev E0 F_spec_NameOK [.p (.str s3)] []).bind fun r114 => (asBool (pAt 0 r114.1)).bind fun b115 => if r114.1.length = 1 then (bif b115 then (bif decide (s2 = (⟨#[]⟩ : ByteArray)) then (bif ((l4.length : Int) : Int) == 0 then (some ([.p (.bool (decide (((l6.length : Int) : Int) > 0)))], [])) else (some ([.p (.bool (false))], []))) else (some ([.p (.bool (false))], []))) else (some ([.p (.bool (false))], []))) else none)) else (some ([.p (.bool (false))], []))))) := by kernel_rfl

/-! spec.l04Sel -/
noncomputable def spec_l04Sel_0 (l0 : List (List Pd)) (l1 : List (List Pd)) (s2 : ByteArray) (n3 : Int) (s4 : ByteArray) (s5 : ByteArray) (l6 : List (List Pd)) (l7 : List (List Pd)) (l8 : List (List Pd)) : Option Res := pt E0 F_spec_l04Sel [] ⟨tl ud [(0, .p (.agg 1 [.sl 2 l0])), (1, .p (.agg 1 [.sl 4 l1])), (2, .p (.str s2)), (3, .p (.agg 6 [.int .i64 (n3), .str s4, .str s5, .sl 4 l6, .sl 4 l7, .sl 6 l8]))] 0 131, tl .none [] 0 131, []⟩
noncomputable def spec_l04Sel_1 (s0 : ByteArray) (n1 : Int) (l2 : List (List Pd)) (l3 : List (List Pd)) (n4 : Int) (s5 : ByteArray) (s6 : ByteArray) (l7 : List (List Pd)) (l8 : List (List Pd)) (l9 : List (List Pd)) : Option Res := pt E0 F_spec_l04Sel [1, 0, 1, 0, 2] ⟨tl ud [(2, .p (.str s0)), (4, .ptr (.loc 4) 0), (5, .ptr (.loc 5) 0), (7, .ptr (.loc 7) 0), (9, .p (.int .i64 (n1)))] 0 131, tl .none [(4, .box 1 [.sl 2 l2]), (5, .box 1 [.sl 4 l3]), (7, .box 6 [.int .i64 (n4), .str s5, .str s6, .sl 4 l7, .sl 4 l8, .sl 6 l9])] 0 131, []⟩
noncomputable def spec_l04Sel_2 (s0 : ByteArray) (n1 : Int) (b2 : Bool) (l3 : List (List Pd)) (l4 : List (List Pd)) (n5 : Int) (s6 : ByteArray) (s7 : ByteArray) (l8 : List (List Pd)) (l9 : List (List Pd)) (l10 : List (List Pd)) : Option Res := pt E0 F_spec_l04Sel [1, 0, 1, 0, 0, 1, 0, 0, 1, 1] ⟨tl ud [(2, .p (.str s0)), (4, .ptr (.loc 4) 0), (5, .ptr (.loc 5) 0), (7, .ptr (.loc 7) 0), (9, .p (.int .i64 (n1))), (36, .p (.bool (b2)))] 0 131, tl .none [(4, .box 1 [.sl 2 l3]), (5, .box 1 [.sl 4 l4]), (7, .box 6 [.int .i64 (n5), .str s6, .str s7, .sl 4 l8, .sl 4 l9, .sl 6 l10])] 0 131, []⟩
noncomputable def spec_l04Sel_3 (b0 : Bool) : Option Res := pt E0 F_spec_l04Sel [1, 1, 0, 1, 0, 1, 0, 1, 0, 1] ⟨tl ud [(55, .p (.bool (b0)))] 0 131, tl .none [] 0 131, []⟩
noncomputable def spec_l04Sel_4 (s0 : ByteArray) (b1 : Bool) (l2 : List (List Pd)) (l3 : List (List Pd)) (n4 : Int) (s5 : ByteArray) (s6 : ByteArray) (l7 : List (List Pd)) (l8 : List (List Pd)) (l9 : List (List Pd)) : Option Res := pt E0 F_spec_l04Sel [1, 1, 0, 1, 0, 1, 1, 1, 0, 0, 1] ⟨tl ud [(2, .p (.str s0)), (4, .ptr (.loc 4) 0), (5, .ptr (.loc 5) 0), (7, .ptr (.loc 7) 0), (66, .p (.bool (b1)))] 0 131, tl .none [(4, .box 1 [.sl 2 l2]), (5, .box 1 [.sl 4 l3]), (7, .box 6 [.int .i64 (n4), .str s5, .str s6, .sl 4 l7, .sl 4 l8, .sl 6 l9])] 0 131, []⟩
theorem spec_l04Sel_0_ev (l0 : List (List Pd)) (l1 : List (List Pd)) (s2 : ByteArray) (n3 : Int) (s4 : ByteArray) (s5 : ByteArray) (l6 : List (List Pd)) (l7 : List (List Pd)) (l8 : List (List Pd)) : ev E0 F_spec_l04Sel [.p (.agg 1 [.sl 2 l0]), .p (.agg 1 [.sl 4 l1]), .p (.str s2), .p (.agg 6 [.int .i64 (n3), .str s4, .str s5, .sl 4 l6, .sl 4 l7, .sl 6 l8])] [] = spec_l04Sel_0 l0 l1 s2 n3 s4 s5 l6 l7 l8 := (ev_eq _ _ _ _).trans (by kernel_rfl)
theorem spec_l04Sel_0_eq (l0 : List (List Pd)) (l1 : List (List Pd)) (s2 : ByteArray) (n3 : Int) (s4 : ByteArray) (s5 : ByteArray) (l6 : List (List Pd)) (l7 : List (List Pd)) (l8 : List (List Pd)) : spec_l04Sel_0 l0 l1 s2 n3 s4 s5 l6 l7 l8 =
    spec_l04Sel_1 s2 0 l0 l1 n3 s4 s5 l6 l7 l8 := by kernel_rfl
theorem spec_l04Sel_1_eq (s0 : ByteArray) (n1 : Int) (l2 : List (List Pd)) (l3 : List (List Pd)) (n4 : Int) (s5 : ByteArray) (s6 : ByteArray) (l7 : List (List Pd)) (l8 : List (List Pd)) (l9 : List (List Pd)) : spec_l04Sel_1 s0 n1 l2 l3 n4 s5 s6 l7 l8 l9 =
    bif decide ((n1 : Int) < (l8.length : Int)) then (if 0 ≤ (n1 : Int) ∧ (n1 : Int) < (l8.length : Int) then ((asInt .i64 ((((l8.getD (n1 : Int).toNat []).drop 1).getD 0 .undef))).bind fun n111 => bif (n111 : Int) != 2 then ((asInt .i64 ((((l8.getD (n1 : Int).toNat []).drop 1).getD 0 .undef))).bind fun n112 => spec_l04Sel_2 s0 n1 ((n112 : Int) != 4) l2 l3 n4 s5 s6 l7 l8 l9) else (spec_l04Sel_2 s0 n1 false l2 l3 n4 s5 s6 l7 l8 l9)) else none) else (bif (n4 : Int) == 2 then ((ev E0 F_spec_l02Fragment [.p (.agg 1 [.sl 4 l3]), .p (.str s6)] []).bind fun r113 => (asAgg 4 (pAt 0 r113.1)).bind fun c114 => (asBool (pAt 1 r113.1)).bind fun b115 => if r113.1.length = 2 then (bif !(b115) then (spec_l04Sel_3 true) else ((asStr (c114.getD 2 .undef)).bind fun s116 => spec_l04Sel_3 (!decide (s116 = s0)))) else none) else (bif (n4 : Int) == 3 then (bif !decide (s6 = (⟨#[]⟩ : ByteArray)) then (spec_l04Sel_4 s0 (!decide (s6 = s0)) l2 l3 n4 s5 s6 l7 l8 l9) else (spec_l04Sel_4 s0 false l2 l3 n4 s5 s6 l7 l8 l9)) else (bif decide (s6 = (⟨#[95, 95, 116, 121, 112, 101, 110, 97, 109, 101]⟩ : ByteArray)) then (bif decide (((l7.length : Int) : Int) > 0) then (some ([.p (.int .i64 (10))], [])) else (bif decide (((l9.length : Int) : Int) > 0) then (some ([.p (.int .i64 (11))], [])) else (some ([.p (.int .i64 (0))], [])))) else ((ev E0 F_spec_l03Find [.p (.agg 1 [.sl 2 l2]), .p (.str s0)] []).bind fun r117 => (asInt .i64 (pAt 0 r117.1)).bind fun n118 => if r117.1.length = 1 then (if 0 ≤ (n118 : Int) ∧ (n118 : Int) < (l2.length : Int) then ((ev E0 F_spec_l03Field [.p (.agg 2 (l2.getD (n118 : Int).toNat [])), .p (.str s6)] []).bind fun r119 => (asInt .i64 (pAt 0 r119.1)).bind fun n120 => if r119.1.length = 1 then (bif decide ((n120 : Int) < 0) then (some ([.p (.int .i64 (9))], [])) else ((asSl 5 (((l2.getD (n118 : Int).toNat []).getD 1 .undef))).bind fun l121 => if 0 ≤ (n120 : Int) ∧ (n120 : Int) < (l121.length : Int) then ((ev E0 F_spec_l04Args [.p (.agg 5 (l121.getD (n120 : Int).toNat [])), .p (.sl 4 l7)] []).bind fun r122 => (asInt .i64 (pAt 0 r122.1)).bind fun n123 => if r122.1.length = 1 then (bif (n123 : Int) != 0 then (some ([.p (.int .i64 (n123))], [])) else ((asSl 5 (((l2.getD (n118 : Int).toNat []).getD 1 .undef))).bind fun l124 => if 0 ≤ (n120 : Int) ∧ (n120 : Int) < (l124.length : Int) then ((asStr ((((l124.getD (n120 : Int).toNat []).drop 2).getD 0 .undef))).bind fun s125 => bif !((decide (s125 = (⟨#[73, 110, 116]⟩ : ByteArray))) == (((l9.length : Int) : Int) == 0)) then (some ([.p (.int .i64 (11))], [])) else ((asSl 5 (((l2.getD (n118 : Int).toNat []).getD 1 .undef))).bind fun l126 => if 0 ≤ (n120 : Int) ∧ (n120 : Int) < (l126.length : Int) then ((asStr ((((l126.getD (n120 : Int).toNat []).drop 2).getD 0 .undef))).bind fun s127 => (ev E0 F_spec_l04Sels [.p (.agg 1 [.sl 2 l2]), .p (.agg 1 [.sl 4 l3]), .p (.str s127), .p (.sl 6 l9)] []).bind fun r128 => (asInt .i64 (pAt 0 r128.1)).bind fun n129 => if r128.1.length = 1 then (some ([.p (.int .i64 (n129))], [])) else none) else none)) else none)) else none) else none)) else none) else none) else none)))) := (pt_loop E0 F_spec_l04Sel [1, 0, 1, 0] _ (by kernel_rfl)).trans (by kernel_rfl)
theorem spec_l04Sel_2_eq (s0 : ByteArray) (n1 : Int) (b2 : Bool) (l3 : List (List Pd)) (l4 : List (List Pd)) (n5 : Int) (s6 : ByteArray) (s7 : ByteArray) (l8 : List (List Pd)) (l9 : List (List Pd)) (l10 : List (List Pd)) : spec_l04Sel_2 s0 n1 b2 l3 l4 n5 s6 s7 l8 l9 l10 =
    bif b2 then (some ([.p (.int .i64 (10))], [])) else (spec_l04Sel_1 s0 (IntKind.i64.wrap (n1 + 1)) l3 l4 n5 s6 s7 l8 l9 l10) := by kernel_rfl
theorem spec_l04Sel_3_eq (b0 : Bool) : spec_l04Sel_3 b0 =
    bif b0 then (some ([.p (.int .i64 (12))], [])) else (some ([.p (.int .i64 (0))], [])) := by kernel_rfl
theorem spec_l04Sel_4_eq (s0 : ByteArray) (b1 : Bool) (l2 : List (List Pd)) (l3 : List (List Pd)) (n4 : Int) (s5 : ByteArray) (s6 : ByteArray) (l7 : List (List Pd)) (l8 : List (List Pd)) (l9 : List (List Pd)) : spec_l04Sel_4 s0 b1 l2 l3 n4 s5 s6 l7 l8 l9 =
    bif b1 then (some ([.p (.int .i64 (12))], [])) else ((ev E0 F_spec_l04Sels [.p (.agg 1 [.sl 2 l2]), .p (.agg 1 [.sl 4 l3]), .p (.str s0), .p (.sl 6 l9)] []).bind fun r111 => (asInt .i64 (pAt 0 r111.1)).bind fun n112 => if r111.1.length = 1 then (some ([.p (.int .i64 (n112))], [])) else none) := by kernel_rfl

/-! laws.toFieldDefS -/
noncomputable def laws_toFieldDefS_0 (l0 : List (List Pd)) : Option Res := pt E0 F_laws_toFieldDefS [] ⟨tl ud [(0, .p (.sl 5 l0))] 0 23, tl .none [] 0 23, []⟩
noncomputable def laws_toFieldDefS_1 (l0 : List (List Pd)) (n1 : Int) (e2 : List (List Pd)) : Option Res := pt E0 F_laws_toFieldDefS [1, 1, 0, 1, 0, 2] ⟨tl ud [(0, .p (.sl 5 l0)), (3, .arr (.loc 7)), (4, .p (.int .i64 (n1)))] 0 23, tl .none [(7, .arr 68 5 64 false e2)] 0 23, []⟩
theorem laws_toFieldDefS_0_ev (l0 : List (List Pd)) : ev E0 F_laws_toFieldDefS [.p (.sl 5 l0)] [] = laws_toFieldDefS_0 l0 := (ev_eq _ _ _ _).trans (by kernel_rfl)
theorem laws_toFieldDefS_0_eq (l0 : List (List Pd)) : laws_toFieldDefS_0 l0 =
    if 0 ≤ ((l0.length : Int) : Int) ∧ ((l0.length : Int) : Int) ≤ (l0.length : Int) ∧ ((l0.length : Int) : Int).toNat * 64 ≤ LIM ∧ 64 ≠ 0 then (laws_toFieldDefS_1 l0 0 (List.replicate ((l0.length : Int) : Int).toNat [.str (⟨#[]⟩ : ByteArray), .sl 2 (([] : List (List Pd))), .str (⟨#[]⟩ : ByteArray), .bool (false), .bool (false)])) else none := by kernel_rfl
theorem laws_toFieldDefS_1_eq (l0 : List (List Pd)) (n1 : Int) (e2 : List (List Pd)) : laws_toFieldDefS_1 l0 n1 e2 =
    bif decide ((n1 : Int) < (l0.length : Int)) then (if 0 ≤ (n1 : Int) ∧ (n1 : Int) < (l0.length : Int) then ((ev E0 F_laws_toFieldDef [.p (.agg 5 (l0.getD (n1 : Int).toNat []))] []).bind fun r104 => (asAgg 5 (pAt 0 r104.1)).bind fun c105 => if r104.1.length = 1 then (if 0 ≤ (n1 : Int) ∧ (n1 : Int) < (e2.length : Int) then (if 5 = 5 ∧ ((n1 : Int).toNat) < e2.length then (if 0 + 5 ≤ 5 then (laws_toFieldDefS_1 l0 (IntKind.i64.wrap (n1 + 1)) (setEl e2 ((n1 : Int).toNat) 5 0 5 (.agg 5 c105))) else none) else none) else none) else none) else none) else (some ([.p (.sl 5 e2)], [])) := (pt_loop E0 F_laws_toFieldDefS [1, 1, 0, 1, 0] _ (by kernel_rfl)).trans (by kernel_rfl)

/-! laws.toSelS -/
noncomputable def laws_toSelS_0 (l0 : List (List Pd)) : Option Res := pt E0 F_laws_toSelS [] ⟨tl ud [(0, .p (.sl 6 l0))] 0 23, tl .none [] 0 23, []⟩
noncomputable def laws_toSelS_1 (l0 : List (List Pd)) (n1 : Int) (e2 : List (List Pd)) : Option Res := pt E0 F_laws_toSelS [1, 1, 0, 1, 0, 2] ⟨tl ud [(0, .p (.sl 6 l0)), (3, .arr (.loc 7)), (4, .p (.int .i64 (n1)))] 0 23, tl .none [(7, .arr 98 6 112 false e2)] 0 23, []⟩
theorem laws_toSelS_0_ev (l0 : List (List Pd)) : ev E0 F_laws_toSelS [.p (.sl 6 l0)] [] = laws_toSelS_0 l0 := (ev_eq _ _ _ _).trans (by kernel_rfl)
theorem laws_toSelS_0_eq (l0 : List (List Pd)) : laws_toSelS_0 l0 =
    if 0 ≤ ((l0.length : Int) : Int) ∧ ((l0.length : Int) : Int) ≤ (l0.length : Int) ∧ ((l0.length : Int) : Int).toNat * 112 ≤ LIM ∧ 112 ≠ 0 then (laws_toSelS_1 l0 0 (List.replicate ((l0.length : Int) : Int).toNat [.int .i64 (0), .str (⟨#[]⟩ : ByteArray), .str (⟨#[]⟩ : ByteArray), .sl 4 (([] : List (List Pd))), .sl 4 (([] : List (List Pd))), .sl 6 (([] : List (List Pd)))])) else none := by kernel_rfl
theorem laws_toSelS_1_eq (l0 : List (List Pd)) (n1 : Int) (e2 : List (List Pd)) : laws_toSelS_1 l0 n1 e2 =
    bif decide ((n1 : Int) < (l0.length : Int)) then (if 0 ≤ (n1 : Int) ∧ (n1 : Int) < (l0.length : Int) then ((ev E0 F_laws_toSel [.p (.agg 6 (l0.getD (n1 : Int).toNat []))] []).bind fun r104 => (asAgg 6 (pAt 0 r104.1)).bind fun c105 => if r104.1.length = 1 then (if 0 ≤ (n1 : Int) ∧ (n1 : Int) < (e2.length : Int) then (if 6 = 6 ∧ ((n1 : Int).toNat) < e2.length then (if 0 + 6 ≤ 6 then (laws_toSelS_1 l0 (IntKind.i64.wrap (n1 + 1)) (setEl e2 ((n1 : Int).toNat) 6 0 6 (.agg 6 c105))) else none) else none) else none) else none) else none) else (some ([.p (.sl 6 e2)], [])) := (pt_loop E0 F_laws_toSelS [1, 1, 0, 1, 0] _ (by kernel_rfl)).trans (by kernel_rfl)

/-! slices.IndexFunc[[]impl.TypeDef,impl.TypeDef] -/
noncomputable def slices_IndexFunc_impl_TypeDef_impl_TypeDef_0 (l0 : List (List Pd)) (s1 : ByteArray) : Option Res := pt E0 F_slices_IndexFunc_impl_TypeDef_impl_TypeDef [] ⟨tl ud [(0, .p (.sl 2 l0)), (1, .fn F_impl_Schema_typeAt_1 [.ptr (.out 0) 0])] 0 19, tl .none [] 0 19, [.box 1 [.str s1]]⟩
noncomputable def slices_IndexFunc_impl_TypeDef_impl_TypeDef_1 (l0 : List (List Pd)) (n1 : Int) (n2 : Int) (s3 : ByteArray) : Option Res := pt E0 F_slices_IndexFunc_impl_TypeDef_impl_TypeDef [1, 0, 1, 0, 2] ⟨tl ud [(0, .p (.sl 2 l0)), (1, .fn F_impl_Schema_typeAt_1 [.ptr (.out 0) 0]), (7, .p (.int .i64 (n1))), (8, .p (.int .i64 (n2)))] 0 19, tl .none [] 0 19, [.box 1 [.str s3]]⟩
noncomputable def slices_IndexFunc_impl_TypeDef_impl_TypeDef_2 (l0 : List (List Pd)) (n1 : Int) (n2 : Int) (c3 : List Pd) : Option Res := pt E0 F_slices_IndexFunc_impl_TypeDef_impl_TypeDef [1, 0, 1, 0, 2] ⟨tl ud [(0, .p (.sl 2 l0)), (1, .fn F_impl_Schema_typeAt_1 [.ptr (.out 0) 0]), (7, .p (.int .i64 (n1))), (8, .p (.int .i64 (n2)))] 0 19, tl .none [] 0 19, [.box 1 c3]⟩
theorem slices_IndexFunc_impl_TypeDef_impl_TypeDef_0_ev (l0 : List (List Pd)) (s1 : ByteArray) : ev E0 F_slices_IndexFunc_impl_TypeDef_impl_TypeDef [.p (.sl 2 l0), .fn F_impl_Schema_typeAt_1 [.ptr (.out 0) 0]] [.box 1 [.str s1]] = slices_IndexFunc_impl_TypeDef_impl_TypeDef_0 l0 s1 := (ev_eq _ _ _ _).trans (by kernel_rfl)
theorem slices_IndexFunc_impl_TypeDef_impl_TypeDef_0_eq (l0 : List (List Pd)) (s1 : ByteArray) : slices_IndexFunc_impl_TypeDef_impl_TypeDef_0 l0 s1 =
    slices_IndexFunc_impl_TypeDef_impl_TypeDef_1 l0 (l0.length : Int) 0 s1 := by kernel_rfl
theorem slices_IndexFunc_impl_TypeDef_impl_TypeDef_1_eq (l0 : List (List Pd)) (n1 : Int) (n2 : Int) (s3 : ByteArray) : slices_IndexFunc_impl_TypeDef_impl_TypeDef_1 l0 n1 n2 s3 =
    bif decide ((n2 : Int) < n1) then (if 0 ≤ (n2 : Int) ∧ (n2 : Int) < (l0.length : Int) then ((ev E0 F_impl_Schema_typeAt_1 [.p (.agg 2 (l0.getD (n2 : Int).toNat [])), .ptr (.out 0) 0] [.box 1 [.str s3]]).bind fun r105 => (asBool (pAt 0 r105.1)).bind fun b106 => if r105.1.length = 1 then ((asBox 1 (r105.2.getD 0 .none)).bind fun c107 => if r105.2.length = 1 then (bif b106 then (some ([.p (.int .i64 (n2))], [.box 1 c107])) else (slices_IndexFunc_impl_TypeDef_impl_TypeDef_2 l0 n1 (IntKind.i64.wrap (n2 + 1)) c107)) else none) else none) else none) else (some ([.p (.int .i64 (-1))], [.box 1 [.str s3]])) := (pt_loop E0 F_slices_IndexFunc_impl_TypeDef_impl_TypeDef [1, 0, 1, 0] _ (by kernel_rfl)).trans (by kernel_rfl)
theorem slices_IndexFunc_impl_TypeDef_impl_TypeDef_2_eq (l0 : List (List Pd)) (n1 : Int) (n2 : Int) (c3 : List Pd) : slices_IndexFunc_impl_TypeDef_impl_TypeDef_2 l0 n1 n2 c3 =
    bif decide ((n2 : Int) < n1) then (if 0 ≤ (n2 : Int) ∧ (n2 : Int) < (l0.length : Int) then ((ev E0 F_impl_Schema_typeAt_1 [.p (.agg 2 (l0.getD (n2 : Int).toNat [])), .ptr (.out 0) 0] [.box 1 c3]).bind fun r105 => (asBool (pAt 0 r105.1)).bind fun b106 => if r105.1.length = 1 then ((asBox 1 (r105.2.getD 0 .none)).bind fun c107 => if r105.2.length = 1 then (bif b106 then (some ([.p (.int .i64 (n2))], [.box 1 c107])) else (slices_IndexFunc_impl_TypeDef_impl_TypeDef_2 l0 n1 (IntKind.i64.wrap (n2 + 1)) c107)) else none) else none) else none) else (some ([.p (.int .i64 (-1))], [.box 1 c3])) := (pt_loop E0 F_slices_IndexFunc_impl_TypeDef_impl_TypeDef [1, 0, 1, 0] _ (by kernel_rfl)).trans (by kernel_rfl)

/-! (impl.Schema).typeAt$1 -/
noncomputable def impl_Schema_typeAt_1_0 (c0 : List Pd) (s1 : ByteArray) : Option Res := pt E0 F_impl_Schema_typeAt_1 [] ⟨tl ud [(0, .p (.agg 2 c0)), (1, .ptr (.out 0) 0)] 0 8, tl .none [] 0 8, [.box 1 [.str s1]]⟩
noncomputable def impl_Schema_typeAt_1_1 (c0 : List Pd) (c1 : List Pd) : Option Res := pt E0 F_impl_Schema_typeAt_1 [] ⟨tl ud [(0, .p (.agg 2 c0)), (1, .ptr (.out 0) 0)] 0 8, tl .none [] 0 8, [.box 1 c1]⟩
theorem impl_Schema_typeAt_1_0_ev (c0 : List Pd) (s1 : ByteArray) : ev E0 F_impl_Schema_typeAt_1 [.p (.agg 2 c0), .ptr (.out 0) 0] [.box 1 [.str s1]] = impl_Schema_typeAt_1_0 c0 s1 := (ev_eq _ _ _ _).trans (by kernel_rfl)
theorem impl_Schema_typeAt_1_0_eq (c0 : List Pd) (s1 : ByteArray) : impl_Schema_typeAt_1_0 c0 s1 =
    (asStr (c0.getD 0 .undef)).bind fun s103 => some ([.p (.bool (decide (s103 = s1)))], [.box 1 [.str s1]]) := by kernel_rfl
theorem impl_Schema_typeAt_1_1_ev (c0 : List Pd) (c1 : List Pd) : ev E0 F_impl_Schema_typeAt_1 [.p (.agg 2 c0), .ptr (.out 0) 0] [.box 1 c1] = impl_Schema_typeAt_1_1 c0 c1 := (ev_eq _ _ _ _).trans (by kernel_rfl)
theorem impl_Schema_typeAt_1_1_eq (c0 : List Pd) (c1 : List Pd) : impl_Schema_typeAt_1_1 c0 c1 =
    (asStr (c0.getD 0 .undef)).bind fun s103 => (asStr (c1.getD 0 .undef)).bind fun s104 => some ([.p (.bool (decide (s103 = s104)))], [.box 1 c1]) := by kernel_rfl

/-! impl.isLetter -/
noncomputable def impl_isLetter_0 (n0 : Int) : Option Res := pt E0 F_impl_isLetter [] ⟨tl ud [(0, .p (.int .u8 (n0)))] 0 21, tl .none [] 0 21, []⟩
theorem impl_isLetter_0_ev (n0 : Int) : ev E0 F_impl_isLetter [.p (.int .u8 (n0))] [] = impl_isLetter_0 n0 := (ev_eq _ _ _ _).trans (by kernel_rfl)
theorem impl_isLetter_0_eq (n0 : Int) : impl_isLetter_0 n0 =
    bif decide ((n0 : Int) ≥ 97) then (bif decide ((n0 : Int) ≤ 122) then (some ([.p (.bool (true))], [])) else (bif decide ((n0 : Int) ≥ 65) then (bif decide ((n0 : Int) ≤ 90) then (some ([.p (.bool (true))], [])) else (some ([.p (.bool ((n0 : Int) == 95))], []))) else (some ([.p (.bool ((n0 : Int) == 95))], [])))) else (bif decide ((n0 : Int) ≥ 65) then (bif decide ((n0 : Int) ≤ 90) then (some ([.p (.bool (true))], [])) else (some ([.p (.bool ((n0 : Int) == 95))], []))) else (some ([.p (.bool ((n0 : Int) == 95))], []))) := by kernel_rfl

/-! impl.isDigit -/
noncomputable def impl_isDigit_0 (n0 : Int) : Option Res := pt E0 F_impl_isDigit [] ⟨tl ud [(0, .p (.int .u8 (n0)))] 0 9, tl .none [] 0 9, []⟩
theorem impl_isDigit_0_ev (n0 : Int) : ev E0 F_impl_isDigit [.p (.int .u8 (n0))] [] = impl_isDigit_0 n0 := (ev_eq _ _ _ _).trans (by kernel_rfl)
theorem impl_isDigit_0_eq (n0 : Int) : impl_isDigit_0 n0 =
    bif decide ((n0 : Int) ≥ 48) then (some ([.p (.bool (decide ((n0 : Int) ≤ 57)))], [])) else (some ([.p (.bool (false))], [])) := by kernel_rfl

/-! (impl.FieldDef).argAt -/
noncomputable def impl_FieldDef_argAt_0 (s0 : ByteArray) (l1 : List (List Pd)) (s2 : ByteArray) (b3 : Bool) (b4 : Bool) (s5 : ByteArray) : Option Res := pt E0 F_impl_FieldDef_argAt [] ⟨tl ud [(0, .p (.agg 5 [.str s0, .sl 2 l1, .str s2, .bool (b3), .bool (b4)])), (1, .p (.str s5))] 0 9, tl .none [] 0 9, []⟩
theorem impl_FieldDef_argAt_0_ev (s0 : ByteArray) (l1 : List (List Pd)) (s2 : ByteArray) (b3 : Bool) (b4 : Bool) (s5 : ByteArray) : ev E0 F_impl_FieldDef_argAt [.p (.agg 5 [.str s0, .sl 2 l1, .str s2, .bool (b3), .bool (b4)]), .p (.str s5)] [] = impl_FieldDef_argAt_0 s0 l1 s2 b3 b4 s5 := (ev_eq _ _ _ _).trans (by kernel_rfl)
theorem impl_FieldDef_argAt_0_eq (s0 : ByteArray) (l1 : List (List Pd)) (s2 : ByteArray) (b3 : Bool) (b4 : Bool) (s5 : ByteArray) : impl_FieldDef_argAt_0 s0 l1 s2 b3 b4 s5 =
    (ev E0 F_slices_IndexFunc_impl_ArgDef_impl_ArgDef [.p (.sl 2 l1), .fn F_impl_FieldDef_argAt_1 [.ptr (.out 0) 0]] [.box 1 [.str s5]]).bind fun r107 => (asInt .i64 (pAt 0 r107.1)).bind fun n108 => if r107.1.length = 1 then ((asBox 1 (r107.2.getD 0 .none)).bind fun c109 => if r107.2.length = 1 then (some ([.p (.int .i64 (n108))], [])) else none) else none := by kernel_rfl

/-! slices.IndexFunc[[]impl.FieldDef,impl.FieldDef] -/
noncomputable def slices_IndexFunc_impl_FieldDef_impl_FieldDef_0 (l0 : List (List Pd)) (s1 : ByteArray) : Option Res := pt E0 F_slices_IndexFunc_impl_FieldDef_impl_FieldDef [] ⟨tl ud [(0, .p (.sl 5 l0)), (1, .fn F_impl_TypeDef_fieldAt_1 [.ptr (.out 0) 0])] 0 19, tl .none [] 0 19, [.box 1 [.str s1]]⟩
noncomputable def slices_IndexFunc_impl_FieldDef_impl_FieldDef_1 (l0 : List (List Pd)) (n1 : Int) (n2 : Int) (s3 : ByteArray) : Option Res := pt E0 F_slices_IndexFunc_impl_FieldDef_impl_FieldDef [1, 0, 1, 0, 2] ⟨tl ud [(0, .p (.sl 5 l0)), (1, .fn F_impl_TypeDef_fieldAt_1 [.ptr (.out 0) 0]), (7, .p (.int .i64 (n1))), (8, .p (.int .i64 (n2)))] 0 19, tl .none [] 0 19, [.box 1 [.str s3]]⟩
noncomputable def slices_IndexFunc_impl_FieldDef_impl_FieldDef_2 (l0 : List (List Pd)) (n1 : Int) (n2 : Int) (c3 : List Pd) : Option Res := pt E0 F_slices_IndexFunc_impl_FieldDef_impl_FieldDef [1, 0, 1, 0, 2] ⟨tl ud [(0, .p (.sl 5 l0)), (1, .fn F_impl_TypeDef_fieldAt_1 [.ptr (.out 0) 0]), (7, .p (.int .i64 (n1))), (8, .p (.int .i64 (n2)))] 0 19, tl .none [] 0 19, [.box 1 c3]⟩
theorem slices_IndexFunc_impl_FieldDef_impl_FieldDef_0_ev (l0 : List (List Pd)) (s1 : ByteArray) : ev E0 F_slices_IndexFunc_impl_FieldDef_impl_FieldDef [.p (.sl 5 l0), .fn F_impl_TypeDef_fieldAt_1 [.ptr (.out 0) 0]] [.box 1 [.str s1]] = slices_IndexFunc_impl_FieldDef_impl_FieldDef_0 l0 s1 := (ev_eq _ _ _ _).trans (by kernel_rfl)
theorem slices_IndexFunc_impl_FieldDef_impl_FieldDef_0_eq (l0 : List (List Pd)) (s1 : ByteArray) : slices_IndexFunc_impl_FieldDef_impl_FieldDef_0 l0 s1 =
    slices_IndexFunc_impl_FieldDef_impl_FieldDef_1 l0 (l0.length : Int) 0 s1 := by kernel_rfl
theorem slices_IndexFunc_impl_FieldDef_impl_FieldDef_1_eq (l0 : List (List Pd)) (n1 : Int) (n2 : Int) (s3 : ByteArray) : slices_IndexFunc_impl_FieldDef_impl_FieldDef_1 l0 n1 n2 s3 =
    bif decide ((n2 : Int) < n1) then (if 0 ≤ (n2 : Int) ∧ (n2 : Int) < (l0.length : Int) then ((ev E0 F_impl_TypeDef_fieldAt_1 [.p (.agg 5 (l0.getD (n2 : Int).toNat [])), .ptr (.out 0) 0] [.box 1 [.str s3]]).bind fun r105 => (asBool (pAt 0 r105.1)).bind fun b106 => if r105.1.length = 1 then ((asBox 1 (r105.2.getD 0 .none)).bind fun c107 => if r105.2.length = 1 then (bif b106 then (some ([.p (.int .i64 (n2))], [.box 1 c107])) else (slices_IndexFunc_impl_FieldDef_impl_FieldDef_2 l0 n1 (IntKind.i64.wrap (n2 + 1)) c107)) else none) else none) else none) else (some ([.p (.int .i64 (-1))], [.box 1 [.str s3]])) := (pt_loop E0 F_slices_IndexFunc_impl_FieldDef_impl_FieldDef [1, 0, 1, 0] _ (by kernel_rfl)).trans (by kernel_rfl)
theorem slices_IndexFunc_impl_FieldDef_impl_FieldDef_2_eq (l0 : List (List Pd)) (n1 : Int) (n2 : Int) (c3 : List Pd) : slices_IndexFunc_impl_FieldDef_impl_FieldDef_2 l0 n1 n2 c3 =
    bif decide ((n2 : Int) < n1) then (if 0 ≤ (n2 : Int) ∧ (n2 : Int) < (l0.length : Int) then ((ev E0 F_impl_TypeDef_fieldAt_1 [.p (.agg 5 (l0.getD (n2 : Int).toNat [])), .ptr (.out 0) 0] [.box 1 c3]).bind fun r105 => (asBool (pAt 0 r105.1)).bind fun b106 => if r105.1.length = 1 then ((asBox 1 (r105.2.getD 0 .none)).bind fun c107 => if r105.2.length = 1 then (bif b106 then (some ([.p (.int .i64 (n2))], [.box 1 c107])) else (slices_IndexFunc_impl_FieldDef_impl_FieldDef_2 l0 n1 (IntKind.i64.wrap (n2 + 1)) c107)) else none) else none) else none) else (some ([.p (.int .i64 (-1))], [.box 1 c3])) := (pt_loop E0 F_slices_IndexFunc_impl_FieldDef_impl_FieldDef [1, 0, 1, 0] _ (by kernel_rfl)).trans (by kernel_rfl)

/-! (impl.TypeDef).fieldAt$1 -/
noncomputable def impl_TypeDef_fieldAt_1_0 (c0 : List Pd) (s1 : ByteArray) : Option Res := pt E0 F_impl_TypeDef_fieldAt_1 [] ⟨tl ud [(0, .p (.agg 5 c0)), (1, .ptr (.out 0) 0)] 0 8, tl .none [] 0 8, [.box 1 [.str s1]]⟩
noncomputable def impl_TypeDef_fieldAt_1_1 (c0 : List Pd) (c1 : List Pd) : Option Res := pt E0 F_impl_TypeDef_fieldAt_1 [] ⟨tl ud [(0, .p (.agg 5 c0)), (1, .ptr (.out 0) 0)] 0 8, tl .none [] 0 8, [.box 1 c1]⟩
theorem impl_TypeDef_fieldAt_1_0_ev (c0 : List Pd) (s1 : ByteArray) : ev E0 F_impl_TypeDef_fieldAt_1 [.p (.agg 5 c0), .ptr (.out 0) 0] [.box 1 [.str s1]] = impl_TypeDef_fieldAt_1_0 c0 s1 := (ev_eq _ _ _ _).trans (by kernel_rfl)
theorem impl_TypeDef_fieldAt_1_0_eq (c0 : List Pd) (s1 : ByteArray) : impl_TypeDef_fieldAt_1_0 c0 s1 =
    (asStr (c0.getD 0 .undef)).bind fun s103 => some ([.p (.bool (decide (s103 = s1)))], [.box 1 [.str s1]]) := by kernel_rfl
theorem impl_TypeDef_fieldAt_1_1_ev (c0 : List Pd) (c1 : List Pd) : ev E0 F_impl_TypeDef_fieldAt_1 [.p (.agg 5 c0), .ptr (.out 0) 0] [.box 1 c1] = impl_TypeDef_fieldAt_1_1 c0 c1 := (ev_eq _ _ _ _).trans (by kernel_rfl)
theorem impl_TypeDef_fieldAt_1_1_eq (c0 : List Pd) (c1 : List Pd) : impl_TypeDef_fieldAt_1_1 c0 c1 =
    (asStr (c0.getD 0 .undef)).bind fun s103 => (asStr (c1.getD 0 .undef)).bind fun s104 => some ([.p (.bool (decide (s103 = s104)))], [.box 1 c1]) := by kernel_rfl

/-! impl.isNameOrNone -/
noncomputable def impl_isNameOrNone_0 (s0 : ByteArray) : Option Res := pt E0 F_impl_isNameOrNone [] ⟨tl ud [(0, .p (.str s0))] 0 9, tl .none [] 0 9, []⟩
theorem impl_isNameOrNone_0_ev (s0 : ByteArray) : ev E0 F_impl_isNameOrNone [.p (.str s0)] [] = impl_isNameOrNone_0 s0 := (ev_eq _ _ _ _).trans (by kernel_rfl)
theorem impl_isNameOrNone_0_eq (s0 : ByteArray) : impl_isNameOrNone_0 s0 =
    bif decide (s0 = (⟨#[]⟩ : ByteArray)) then (some ([.p (.bool (true))], [])) else ((ev E0 F_impl_NameOK [.p (.str s0)] []).bind fun r102 => (asBool (pAt 0 r102.1)).bind fun b103 => if r102.1.length = 1 then (some ([.p (.bool (b103))], [])) else none) := by kernel_rfl

/-! (impl.Sel).isRight -/
noncomputable def impl_Sel_isRight_0 (n0 : Int) (s1 : ByteArray) (s2 : ByteArray) (l3 : List (List Pd)) (l4 : List (List Pd)) (l5 : List (List Pd)) : Option Res := pt E0 F_impl_Sel_isRight [] ⟨tl ud [(0, .p (.agg 6 [.int .i64 (n0), .str s1, .str s2, .sl 4 l3, .sl 4 l4, .sl 6 l5]))] 0 80, tl .none [] 0 80, []⟩
noncomputable def impl_Sel_isRight_1 (b0 : Bool) (n1 : Int) (s2 : ByteArray) (s3 : ByteArray) (l4 : List (List Pd)) (l5 : List (List Pd)) (l6 : List (List Pd)) : Option Res := pt E0 F_impl_Sel_isRight [1, 0, 1] ⟨tl ud [(1, .ptr (.loc 1) 0), (30, .p (.bool (b0)))] 0 80, tl .none [(1, .box 6 [.int .i64 (n1), .str s2, .str s3, .sl 4 l4, .sl 4 l5, .sl 6 l6])] 0 80, []⟩
noncomputable def impl_Sel_isRight_2 (b0 : Bool) (n1 : Int) (s2 : ByteArray) (s3 : ByteArray) (l4 : List (List Pd)) (l5 : List (List Pd)) (l6 : List (List Pd)) : Option Res := pt E0 F_impl_Sel_isRight [1, 1, 1, 1, 0, 1] ⟨tl ud [(1, .ptr (.loc 1) 0), (40, .p (.bool (b0)))] 0 80, tl .none [(1, .box 6 [.int .i64 (n1), .str s2, .str s3, .sl 4 l4, .sl 4 l5, .sl 6 l6])] 0 80, []⟩
theorem impl_Sel_isRight_0_ev (n0 : Int) (s1 : ByteArray) (s2 : ByteArray) (l3 : List (List Pd)) (l4 : List (List Pd)) (l5 : List (List Pd)) : ev E0 F_impl_Sel_isRight [.p (.agg 6 [.int .i64 (n0), .str s1, .str s2, .sl 4 l3, .sl 4 l4, .sl 6 l5])] [] = impl_Sel_isRight_0 n0 s1 s2 l3 l4 l5 := (ev_eq _ _ _ _).trans (by kernel_rfl)
theorem impl_Sel_isRight_0_eq (n0 : Int) (s1 : ByteArray) (s2 : ByteArray) (l3 : List (List Pd)) (l4 : List (List Pd)) (l5 : List (List Pd)) : impl_Sel_isRight_0 n0 s1 s2 l3 l4 l5 =
    bif decide (((l3.length : Int) : Int) > 4) then (impl_Sel_isRight_1 true n0 s1 s2 l3 l4 l5) else (bif decide (((l4.length : Int) : Int) > 4) then (impl_Sel_isRight_1 true n0 s1 s2 l3 l4 l5) else (bif (n0 : Int) != 1 then (bif !decide (s1 = (⟨#[]⟩ : ByteArray)) then (impl_Sel_isRight_1 true n0 s1 s2 l3 l4 l5) else (impl_Sel_isRight_1 (decide (((l3.length : Int) : Int) > 0)) n0 s1 s2 l3 l4 l5)) else (impl_Sel_isRight_1 false n0 s1 s2 l3 l4 l5))) := by kernel_rfl
theorem impl_Sel_isRight_1_eq (b0 : Bool) (n1 : Int) (s2 : ByteArray) (s3 : ByteArray) (l4 : List (List Pd)) (l5 : List (List Pd)) (l6 : List (List Pd)) : impl_Sel_isRight_1 b0 n1 s2 s3 l4 l5 l6 =
    bif b0 then (some ([.p (.bool (false))], [])) else ((ev E0 F_slices_ContainsFunc_impl_Arg_impl_Arg [.p (.sl 4 l4), .p (.fn F_impl_Sel_isRight_1)] []).bind fun r108 => (asBool (pAt 0 r108.1)).bind fun b109 => if r108.1.length = 1 then (bif b109 then (impl_Sel_isRight_2 true n1 s2 s3 l4 l5 l6) else ((ev E0 F_slices_ContainsFunc_impl_Dir_impl_Dir [.p (.sl 4 l5), .p (.fn F_impl_Sel_isRight_2)] []).bind fun r110 => (asBool (pAt 0 r110.1)).bind fun b111 => if r110.1.length = 1 then (impl_Sel_isRight_2 b111 n1 s2 s3 l4 l5 l6) else none)) else none) := by kernel_rfl
theorem impl_Sel_isRight_2_eq (b0 : Bool) (n1 : Int) (s2 : ByteArray) (s3 : ByteArray) (l4 : List (List Pd)) (l5 : List (List Pd)) (l6 : List (List Pd)) : impl_Sel_isRight_2 b0 n1 s2 s3 l4 l5 l6 =
    bif b0 then (some ([.p (.bool (false))], [])) else (bif (n1 : Int) == 1 then ((ev E0 F_impl_NameOK [.p (.str s3)] []).bind fun r108 => (asBool (pAt 0 r108.1)).bind fun b109 => if r108.1.length = 1 then (bif b109 then ((ev E0 F_impl_isNameOrNone [.p (.str s2)] []).bind fun r110 => (asBool (pAt 0 r110.1)).bind fun b111 => if r110.1.length = 1 then (some ([.p (.bool (b111))], [])) else none) else (some ([.p (.bool (false))], []))) else none) else (bif (n1 : Int) == 2 then ((ev E0 F_impl_NameOK [.p (.str s3)] []).bind fun r112 => (asBool (pAt 0 r112.1)).bind fun b113 => if r112.1.length = 1 then (bif b113 then (bif !decide (s3 = (⟨#[111, 110]⟩ : ByteArray)) then (some ([.p (.bool (((l6.length : Int) : Int) == 0))], [])) else (some ([.p (.bool (false))], []))) else (some ([.p (.bool (false))], []))) else none) else (bif (n1 : Int) == 3 then ((ev E0 F_impl_isNameOrNone [.p (.str s3)] []).bind fun r114 => (asBool (pAt 0 r114.1)).bind fun b115 => if r114.1.length = 1 then (bif b115 then (some ([.p (.bool (decide (((l6.length : Int) : Int) > 0)))], [])) else (some ([.p (.bool (false))], []))) else none) else (some ([.p (.bool (false))], []))))) := by kernel_rfl

/-! (impl.checker).sel -/
noncomputable def impl_checker_sel_0 (l0 : List (List Pd)) (l1 : List (List Pd)) (s2 : ByteArray) (l3 : List (List Pd)) (n4 : Int) (s5 : ByteArray) (s6 : ByteArray) (l7 : List (List Pd)) (l8 : List (List Pd)) (l9 : List (List Pd)) : Option Res := pt E0 F_impl_checker_sel [] ⟨tl ud [(0, .p (.agg 2 [.sl 2 l0, .sl 4 l1])), (1, .p (.agg 2 [.str s2, .sl 5 l3])), (2, .p (.agg 6 [.int .i64 (n4), .str s5, .str s6, .sl 4 l7, .sl 4 l8, .sl 6 l9]))] 0 54, tl .none [] 0 54, []⟩
noncomputable def impl_checker_sel_1 (b0 : Bool) : Option Res := pt E0 F_impl_checker_sel [1, 1, 0, 1, 0, 1, 0, 0, 1, 1] ⟨tl ud [(33, .p (.bool (b0)))] 0 54, tl .none [] 0 54, []⟩
noncomputable def impl_checker_sel_2 (b0 : Bool) (s1 : ByteArray) (l2 : List (List Pd)) : Option Res := pt E0 F_impl_checker_sel [1, 1, 0, 1, 0, 1, 1, 1, 0, 0, 1] ⟨tl ud [(4, .ptr (.loc 4) 0), (45, .p (.bool (b0)))] 0 54, tl .none [(4, .box 2 [.str s1, .sl 5 l2])] 0 54, []⟩
theorem impl_checker_sel_0_ev (l0 : List (List Pd)) (l1 : List (List Pd)) (s2 : ByteArray) (l3 : List (List Pd)) (n4 : Int) (s5 : ByteArray) (s6 : ByteArray) (l7 : List (List Pd)) (l8 : List (List Pd)) (l9 : List (List Pd)) : ev E0 F_impl_checker_sel [.p (.agg 2 [.sl 2 l0, .sl 4 l1]), .p (.agg 2 [.str s2, .sl 5 l3]), .p (.agg 6 [.int .i64 (n4), .str s5, .str s6, .sl 4 l7, .sl 4 l8, .sl 6 l9])] [] = impl_checker_sel_0 l0 l1 s2 l3 n4 s5 s6 l7 l8 l9 := (ev_eq _ _ _ _).trans (by kernel_rfl)
theorem impl_checker_sel_0_eq (l0 : List (List Pd)) (l1 : List (List Pd)) (s2 : ByteArray) (l3 : List (List Pd)) (n4 : Int) (s5 : ByteArray) (s6 : ByteArray) (l7 : List (List Pd)) (l8 : List (List Pd)) (l9 : List (List Pd)) : impl_checker_sel_0 l0 l1 s2 l3 n4 s5 s6 l7 l8 l9 =
    (ev E0 F_slices_ContainsFunc_impl_Dir_impl_Dir [.p (.sl 4 l8), .p (.fn F_impl_checker_sel_1)] []).bind fun r111 => (asBool (pAt 0 r111.1)).bind fun b112 => if r111.1.length = 1 then (bif b112 then (some ([.p (.str (⟨#[]⟩ : ByteArray)), .p (.int .i64 (10))], [])) else (bif (n4 : Int) == 2 then ((ev E0 F_impl_Doc_fragment [.p (.agg 1 [.sl 4 l1]), .p (.str s6)] []).bind fun r113 => (asAgg 4 (pAt 0 r113.1)).bind fun c114 => (asBool (pAt 1 r113.1)).bind fun b115 => if r113.1.length = 2 then (bif !(b115) then (impl_checker_sel_1 true) else ((asStr (c114.getD 2 .undef)).bind fun s116 => impl_checker_sel_1 (!decide (s116 = s2)))) else none) else (bif (n4 : Int) == 3 then (bif !decide (s6 = (⟨#[]⟩ : ByteArray)) then (impl_checker_sel_2 (!decide (s6 = s2)) s2 l3) else (impl_checker_sel_2 false s2 l3)) else ((ev E0 F_impl_checker_field [.p (.agg 2 [.sl 2 l0, .sl 4 l1]), .p (.agg 2 [.str s2, .sl 5 l3]), .p (.agg 6 [.int .i64 (n4), .str s5, .str s6, .sl 4 l7, .sl 4 l8, .sl 6 l9])] []).bind fun r117 => (asStr (pAt 0 r117.1)).bind fun s118 => (asInt .i64 (pAt 1 r117.1)).bind fun n119 => if r117.1.length = 2 then (some ([.p (.str s118), .p (.int .i64 (n119))], [])) else none)))) else none := by kernel_rfl
theorem impl_checker_sel_1_eq (b0 : Bool) : impl_checker_sel_1 b0 =
    bif b0 then (some ([.p (.str (⟨#[]⟩ : ByteArray)), .p (.int .i64 (12))], [])) else (some ([.p (.str (⟨#[]⟩ : ByteArray)), .p (.int .i64 (0))], [])) := by kernel_rfl
theorem impl_checker_sel_2_eq (b0 : Bool) (s1 : ByteArray) (l2 : List (List Pd)) : impl_checker_sel_2 b0 s1 l2 =
    bif b0 then (some ([.p (.str (⟨#[]⟩ : ByteArray)), .p (.int .i64 (12))], [])) else (some ([.p (.str s1), .p (.int .i64 (0))], [])) := by kernel_rfl

/-! impl.firstOf -/
noncomputable def impl_firstOf_0 (l0 : List (List Pd)) : Option Res := pt E0 F_impl_firstOf [] ⟨tl ud [(0, .p (.sl 1 l0))] 0 15, tl .none [] 0 15, []⟩
noncomputable def impl_firstOf_1 (l0 : List (List Pd)) (n1 : Int) (n2 : Int) : Option Res := pt E0 F_impl_firstOf [1, 0, 1, 0, 2] ⟨tl ud [(5, .p (.sl 1 l0)), (6, .p (.int .i64 (n1))), (7, .p (.int .i64 (n2)))] 0 15, tl .none [] 0 15, []⟩
theorem impl_firstOf_0_ev (l0 : List (List Pd)) : ev E0 F_impl_firstOf [.p (.sl 1 l0)] [] = impl_firstOf_0 l0 := (ev_eq _ _ _ _).trans (by kernel_rfl)
theorem impl_firstOf_0_eq (l0 : List (List Pd)) : impl_firstOf_0 l0 =
    impl_firstOf_1 l0 (l0.length : Int) 0 := by kernel_rfl
theorem impl_firstOf_1_eq (l0 : List (List Pd)) (n1 : Int) (n2 : Int) : impl_firstOf_1 l0 n1 n2 =
    bif decide ((n2 : Int) < n1) then (if 0 ≤ (n2 : Int) ∧ (n2 : Int) < (l0.length : Int) then ((asInt .i64 (((l0.getD (n2 : Int).toNat []).getD 0 .undef))).bind fun n104 => bif (n104 : Int) != 0 then (some ([.p (.int .i64 (n104))], [])) else (impl_firstOf_1 l0 n1 (IntKind.i64.wrap (n2 + 1)))) else none) else (some ([.p (.int .i64 (0))], [])) := (pt_loop E0 F_impl_firstOf [1, 0, 1, 0] _ (by kernel_rfl)).trans (by kernel_rfl)

/-! laws.eqFieldDefS -/
noncomputable def laws_eqFieldDefS_0 (l0 : List (List Pd)) (l1 : List (List Pd)) : Option Res := pt E0 F_laws_eqFieldDefS [] ⟨tl ud [(0, .p (.sl 5 l0)), (1, .p (.sl 5 l1))] 0 27, tl .none [] 0 27, []⟩
noncomputable def laws_eqFieldDefS_1 (l0 : List (List Pd)) (l1 : List (List Pd)) (n2 : Int) : Option Res := pt E0 F_laws_eqFieldDefS [1, 1, 0, 1, 0, 2] ⟨tl ud [(0, .p (.sl 5 l0)), (1, .p (.sl 5 l1)), (5, .p (.int .i64 (n2)))] 0 27, tl .none [] 0 27, []⟩
theorem laws_eqFieldDefS_0_ev (l0 : List (List Pd)) (l1 : List (List Pd)) : ev E0 F_laws_eqFieldDefS [.p (.sl 5 l0), .p (.sl 5 l1)] [] = laws_eqFieldDefS_0 l0 l1 := (ev_eq _ _ _ _).trans (by kernel_rfl)
theorem laws_eqFieldDefS_0_eq (l0 : List (List Pd)) (l1 : List (List Pd)) : laws_eqFieldDefS_0 l0 l1 =
    bif ((l0.length : Int) : Int) != (l1.length : Int) then (some ([.p (.bool (false))], [])) else (laws_eqFieldDefS_1 l0 l1 0) := by kernel_rfl
theorem laws_eqFieldDefS_1_eq (l0 : List (List Pd)) (l1 : List (List Pd)) (n2 : Int) : laws_eqFieldDefS_1 l0 l1 n2 =
    bif decide ((n2 : Int) < (l0.length : Int)) then (if 0 ≤ (n2 : Int) ∧ (n2 : Int) < (l0.length : Int) then (if 0 ≤ (n2 : Int) ∧ (n2 : Int) < (l1.length : Int) then ((ev E0 F_laws_eqFieldDef [.p (.agg 5 (l0.getD (n2 : Int).toNat [])), .p (.agg 5 (l1.getD (n2 : Int).toNat []))] []).bind fun r104 => (asBool (pAt 0 r104.1)).bind fun b105 => if r104.1.length = 1 then (bif !(b105) then (some ([.p (.bool (false))], [])) else (laws_eqFieldDefS_1 l0 l1 (IntKind.i64.wrap (n2 + 1)))) else none) else none) else none) else (some ([.p (.bool (true))], [])) := (pt_loop E0 F_laws_eqFieldDefS [1, 1, 0, 1, 0] _ (by kernel_rfl)).trans (by kernel_rfl)

/-! laws.eqSelS -/
noncomputable def laws_eqSelS_0 (l0 : List (List Pd)) (l1 : List (List Pd)) : Option Res := pt E0 F_laws_eqSelS [] ⟨tl ud [(0, .p (.sl 6 l0)), (1, .p (.sl 6 l1))] 0 27, tl .none [] 0 27, []⟩
noncomputable def laws_eqSelS_1 (l0 : List (List Pd)) (l1 : List (List Pd)) (n2 : Int) : Option Res := pt E0 F_laws_eqSelS [1, 1, 0, 1, 0, 2] ⟨tl ud [(0, .p (.sl 6 l0)), (1, .p (.sl 6 l1)), (5, .p (.int .i64 (n2)))] 0 27, tl .none [] 0 27, []⟩
theorem laws_eqSelS_0_ev (l0 : List (List Pd)) (l1 : List (List Pd)) : ev E0 F_laws_eqSelS [.p (.sl 6 l0), .p (.sl 6 l1)] [] = laws_eqSelS_0 l0 l1 := (ev_eq _ _ _ _).trans (by kernel_rfl)
theorem laws_eqSelS_0_eq (l0 : List (List Pd)) (l1 : List (List Pd)) : laws_eqSelS_0 l0 l1 =
    bif ((l0.length : Int) : Int) != (l1.length : Int) then (some ([.p (.bool (false))], [])) else (laws_eqSelS_1 l0 l1 0) := by kernel_rfl
theorem laws_eqSelS_1_eq (l0 : List (List Pd)) (l1 : List (List Pd)) (n2 : Int) : laws_eqSelS_1 l0 l1 n2 =
    bif decide ((n2 : Int) < (l0.length : Int)) then (if 0 ≤ (n2 : Int) ∧ (n2 : Int) < (l0.length : Int) then (if 0 ≤ (n2 : Int) ∧ (n2 : Int) < (l1.length : Int) then ((ev E0 F_laws_eqSel [.p (.agg 6 (l0.getD (n2 : Int).toNat [])), .p (.agg 6 (l1.getD (n2 : Int).toNat []))] []).bind fun r104 => (asBool (pAt 0 r104.1)).bind fun b105 => if r104.1.length = 1 then (bif !(b105) then (some ([.p (.bool (false))], [])) else (laws_eqSelS_1 l0 l1 (IntKind.i64.wrap (n2 + 1)))) else none) else none) else none) else (some ([.p (.bool (true))], [])) := (pt_loop E0 F_laws_eqSelS [1, 1, 0, 1, 0] _ (by kernel_rfl)).trans (by kernel_rfl)

/-! laws.szFieldDef -/
noncomputable def laws_szFieldDef_0 (s0 : ByteArray) (l1 : List (List Pd)) (s2 : ByteArray) (b3 : Bool) (b4 : Bool) (n5 : Int) : Option Res := pt E0 F_laws_szFieldDef [] ⟨tl ud [(0, .p (.agg 5 [.str s0, .sl 2 l1, .str s2, .bool (b3), .bool (b4)])), (1, .p (.int .i64 (n5)))] 0 26, tl .none [] 0 26, []⟩
theorem laws_szFieldDef_0_ev (s0 : ByteArray) (l1 : List (List Pd)) (s2 : ByteArray) (b3 : Bool) (b4 : Bool) (n5 : Int) : ev E0 F_laws_szFieldDef [.p (.agg 5 [.str s0, .sl 2 l1, .str s2, .bool (b3), .bool (b4)]), .p (.int .i64 (n5))] [] = laws_szFieldDef_0 s0 l1 s2 b3 b4 n5 := (ev_eq _ _ _ _).trans (by kernel_rfl)
theorem laws_szFieldDef_0_eq (s0 : ByteArray) (l1 : List (List Pd)) (s2 : ByteArray) (b3 : Bool) (b4 : Bool) (n5 : Int) : laws_szFieldDef_0 s0 l1 s2 b3 b4 n5 =
    bif decide ((IntKind.i64.wrap (n5 - (s0.size : Int)) : Int) < 0) then (some ([.p (.int .i64 (-1))], [])) else ((ev E0 F_laws_szArgDefS [.p (.sl 2 l1), .p (.int .i64 (IntKind.i64.wrap (n5 - (s0.size : Int))))] []).bind fun r107 => (asInt .i64 (pAt 0 r107.1)).bind fun n108 => if r107.1.length = 1 then (bif decide ((n108 : Int) < 0) then (some ([.p (.int .i64 (-1))], [])) else (bif decide ((IntKind.i64.wrap (n108 - (s2.size : Int)) : Int) < 0) then (some ([.p (.int .i64 (-1))], [])) else (some ([.p (.int .i64 (IntKind.i64.wrap (n108 - (s2.size : Int))))], [])))) else none) := by kernel_rfl

/-! laws.szSel -/
noncomputable def laws_szSel_0 (n0 : Int) (s1 : ByteArray) (s2 : ByteArray) (l3 : List (List Pd)) (l4 : List (List Pd)) (l5 : List (List Pd)) (n6 : Int) : Option Res := pt E0 F_laws_szSel [] ⟨tl ud [(0, .p (.agg 6 [.int .i64 (n0), .str s1, .str s2, .sl 4 l3, .sl 4 l4, .sl 6 l5])), (1, .p (.int .i64 (n6)))] 0 38, tl .none [] 0 38, []⟩
theorem laws_szSel_0_ev (n0 : Int) (s1 : ByteArray) (s2 : ByteArray) (l3 : List (List Pd)) (l4 : List (List Pd)) (l5 : List (List Pd)) (n6 : Int) : ev E0 F_laws_szSel [.p (.agg 6 [.int .i64 (n0), .str s1, .str s2, .sl 4 l3, .sl 4 l4, .sl 6 l5]), .p (.int .i64 (n6))] [] = laws_szSel_0 n0 s1 s2 l3 l4 l5 n6 := (ev_eq _ _ _ _).trans (by kernel_rfl)
theorem laws_szSel_0_eq (n0 : Int) (s1 : ByteArray) (s2 : ByteArray) (l3 : List (List Pd)) (l4 : List (List Pd)) (l5 : List (List Pd)) (n6 : Int) : laws_szSel_0 n0 s1 s2 l3 l4 l5 n6 =
    bif decide ((IntKind.i64.wrap (n6 - (s1.size : Int)) : Int) < 0) then (some ([.p (.int .i64 (-1))], [])) else (bif decide ((IntKind.i64.wrap ((IntKind.i64.wrap (n6 - (s1.size : Int))) - (s2.size : Int)) : Int) < 0) then (some ([.p (.int .i64 (-1))], [])) else ((ev E0 F_laws_szArgS [.p (.sl 4 l3), .p (.int .i64 (IntKind.i64.wrap ((IntKind.i64.wrap (n6 - (s1.size : Int))) - (s2.size : Int))))] []).bind fun r108 => (asInt .i64 (pAt 0 r108.1)).bind fun n109 => if r108.1.length = 1 then (bif decide ((n109 : Int) < 0) then (some ([.p (.int .i64 (-1))], [])) else ((ev E0 F_laws_szDirS [.p (.sl 4 l4), .p (.int .i64 (n109))] []).bind fun r110 => (asInt .i64 (pAt 0 r110.1)).bind fun n111 => if r110.1.length = 1 then (bif decide ((n111 : Int) < 0) then (some ([.p (.int .i64 (-1))], [])) else ((ev E0 F_laws_szSelS [.p (.sl 6 l5), .p (.int .i64 (n111))] []).bind fun r112 => (asInt .i64 (pAt 0 r112.1)).bind fun n113 => if r112.1.length = 1 then (bif decide ((n113 : Int) < 0) then (some ([.p (.int .i64 (-1))], [])) else (some ([.p (.int .i64 (n113))], []))) else none)) else none)) else none)) := by kernel_rfl

/-! spec.l00Letter -/
noncomputable def spec_l00Letter_0 (n0 : Int) : Option Res := pt E0 F_spec_l00Letter [] ⟨tl ud [(0, .p (.int .u8 (n0)))] 0 21, tl .none [] 0 21, []⟩
theorem spec_l00Letter_0_ev (n0 : Int) : ev E0 F_spec_l00Letter [.p (.int .u8 (n0))] [] = spec_l00Letter_0 n0 := (ev_eq _ _ _ _).trans (by kernel_rfl)
theorem spec_l00Letter_0_eq (n0 : Int) : spec_l00Letter_0 n0 =
    bif decide ((n0 : Int) ≥ 97) then (bif decide ((n0 : Int) ≤ 122) then (some ([.p (.bool (true))], [])) else (bif decide ((n0 : Int) ≥ 65) then (bif decide ((n0 : Int) ≤ 90) then (some ([.p (.bool (true))], [])) else (some ([.p (.bool ((n0 : Int) == 95))], []))) else (some ([.p (.bool ((n0 : Int) == 95))], [])))) else (bif decide ((n0 : Int) ≥ 65) then (bif decide ((n0 : Int) ≤ 90) then (some ([.p (.bool (true))], [])) else (some ([.p (.bool ((n0 : Int) == 95))], []))) else (some ([.p (.bool ((n0 : Int) == 95))], []))) := by kernel_rfl

/-! spec.l00Digit -/
noncomputable def spec_l00Digit_0 (n0 : Int) : Option Res := pt E0 F_spec_l00Digit [] ⟨tl ud [(0, .p (.int .u8 (n0)))] 0 9, tl .none [] 0 9, []⟩
theorem spec_l00Digit_0_ev (n0 : Int) : ev E0 F_spec_l00Digit [.p (.int .u8 (n0))] [] = spec_l00Digit_0 n0 := (ev_eq _ _ _ _).trans (by kernel_rfl)
theorem spec_l00Digit_0_eq (n0 : Int) : spec_l00Digit_0 n0 =
    bif decide ((n0 : Int) ≥ 48) then (some ([.p (.bool (decide ((n0 : Int) ≤ 57)))], [])) else (some ([.p (.bool (false))], [])) := by kernel_rfl

/-! spec.ValueOK -/
noncomputable def spec_ValueOK_0 (n0 : Int) (n1 : Int) (s2 : ByteArray) : Option Res := pt E0 F_spec_ValueOK [] ⟨tl ud [(0, .p (.agg 3 [.int .i64 (n0), .int .i64 (n1), .str s2]))] 0 45, tl .none [] 0 45, []⟩
theorem spec_ValueOK_0_ev (n0 : Int) (n1 : Int) (s2 : ByteArray) : ev E0 F_spec_ValueOK [.p (.agg 3 [.int .i64 (n0), .int .i64 (n1), .str s2])] [] = spec_ValueOK_0 n0 n1 s2 := (ev_eq _ _ _ _).trans (by kernel_rfl)
theorem spec_ValueOK_0_eq (n0 : Int) (n1 : Int) (s2 : ByteArray) : spec_ValueOK_0 n0 n1 s2 =
    bif (n0 : Int) == 1 then ((ev E0 F_spec_IsInt [.p (.int .i64 (n1))] []).bind fun r104 => (asBool (pAt 0 r104.1)).bind fun b105 => if r104.1.length = 1 then (bif b105 then (some ([.p (.bool (decide (s2 = (⟨#[]⟩ : ByteArray))))], [])) else (some ([.p (.bool (false))], []))) else none) else (bif (n0 : Int) == 2 then ((ev E0 F_spec_l01In [.p (.int .i64 (n1)), .p (.int .i64 (0)), .p (.int .i64 (1))] []).bind fun r106 => (asBool (pAt 0 r106.1)).bind fun b107 => if r106.1.length = 1 then (bif b107 then (some ([.p (.bool (decide (s2 = (⟨#[]⟩ : ByteArray))))], [])) else (some ([.p (.bool (false))], []))) else none) else (bif (n0 : Int) == 3 then (bif (n1 : Int) == 0 then (some ([.p (.bool (decide (s2 = (⟨#[]⟩ : ByteArray))))], [])) else (some ([.p (.bool (false))], []))) else (bif (n0 : Int) == 4 then (bif (n1 : Int) == 0 then ((ev E0 F_spec_NameOK [.p (.str s2)] []).bind fun r108 => (asBool (pAt 0 r108.1)).bind fun b109 => if r108.1.length = 1 then (some ([.p (.bool (b109))], [])) else none) else (some ([.p (.bool (false))], []))) else (some ([.p (.bool (false))], []))))) := by kernel_rfl

/-! spec.l02Fragment -/
noncomputable def spec_l02Fragment_0 (l0 : List (List Pd)) (s1 : ByteArray) : Option Res := pt E0 F_spec_l02Fragment [] ⟨tl ud [(0, .p (.agg 1 [.sl 4 l0])), (1, .p (.str s1))] 0 37, tl .none [] 0 37, []⟩
noncomputable def spec_l02Fragment_1 (s0 : ByteArray) (n1 : Int) (l2 : List (List Pd)) (n3 : Int) (s4 : ByteArray) (s5 : ByteArray) : Option Res := pt E0 F_spec_l02Fragment [1, 0, 1, 0, 2] ⟨tl ud [(1, .p (.str s0)), (2, .ptr (.loc 2) 0), (4, .ptr (.loc 4) 0), (6, .p (.int .i64 (n1)))] 0 37, tl .none [(2, .box 1 [.sl 4 l2]), (4, .mbox 4 [.p (.int .i64 (n3)), .p (.str s4), .p (.str s5), .nilsl 6])] 0 37, []⟩
noncomputable def spec_l02Fragment_2 (s0 : ByteArray) (n1 : Int) (b2 : Bool) (l3 : List (List Pd)) (n4 : Int) (s5 : ByteArray) (s6 : ByteArray) : Option Res := pt E0 F_spec_l02Fragment [1, 0, 1, 0, 0, 1, 0, 0, 1] ⟨tl ud [(1, .p (.str s0)), (2, .ptr (.loc 2) 0), (4, .ptr (.loc 4) 0), (6, .p (.int .i64 (n1))), (30, .p (.bool (b2)))] 0 37, tl .none [(2, .box 1 [.sl 4 l3]), (4, .mbox 4 [.p (.int .i64 (n4)), .p (.str s5), .p (.str s6), .nilsl 6])] 0 37, []⟩
theorem spec_l02Fragment_0_ev (l0 : List (List Pd)) (s1 : ByteArray) : ev E0 F_spec_l02Fragment [.p (.agg 1 [.sl 4 l0]), .p (.str s1)] [] = spec_l02Fragment_0 l0 s1 := (ev_eq _ _ _ _).trans (by kernel_rfl)
theorem spec_l02Fragment_0_eq (l0 : List (List Pd)) (s1 : ByteArray) : spec_l02Fragment_0 l0 s1 =
    spec_l02Fragment_1 s1 0 l0 0 (⟨#[]⟩ : ByteArray) (⟨#[]⟩ : ByteArray) := by kernel_rfl
theorem spec_l02Fragment_1_eq (s0 : ByteArray) (n1 : Int) (l2 : List (List Pd)) (n3 : Int) (s4 : ByteArray) (s5 : ByteArray) : spec_l02Fragment_1 s0 n1 l2 n3 s4 s5 =
    bif decide ((n1 : Int) < (l2.length : Int)) then (if 0 ≤ (n1 : Int) ∧ (n1 : Int) < (l2.length : Int) then ((asInt .i64 (((l2.getD (n1 : Int).toNat []).getD 0 .undef))).bind fun n107 => bif (n107 : Int) == 3 then (if 0 ≤ (n1 : Int) ∧ (n1 : Int) < (l2.length : Int) then ((asStr ((((l2.getD (n1 : Int).toNat []).drop 1).getD 0 .undef))).bind fun s108 => spec_l02Fragment_2 s0 n1 (decide (s108 = s0)) l2 n3 s4 s5) else none) else (spec_l02Fragment_2 s0 n1 false l2 n3 s4 s5)) else none) else (some ([.p (.agg 4 [.int .i64 (0), .str (⟨#[]⟩ : ByteArray), .str (⟨#[]⟩ : ByteArray), .sl 6 (([] : List (List Pd)))]), .p (.bool (false))], [])) := (pt_loop E0 F_spec_l02Fragment [1, 0, 1, 0] _ (by kernel_rfl)).trans (by kernel_rfl)
theorem spec_l02Fragment_2_eq (s0 : ByteArray) (n1 : Int) (b2 : Bool) (l3 : List (List Pd)) (n4 : Int) (s5 : ByteArray) (s6 : ByteArray) : spec_l02Fragment_2 s0 n1 b2 l3 n4 s5 s6 =
    bif b2 then (if 0 ≤ (n1 : Int) ∧ (n1 : Int) < (l3.length : Int) then (some ([.p (.agg 4 (l3.getD (n1 : Int).toNat [])), .p (.bool (true))], [])) else none) else (spec_l02Fragment_1 s0 (IntKind.i64.wrap (n1 + 1)) l3 n4 s5 s6) := by kernel_rfl

/-! spec.l04Args -/
noncomputable def spec_l04Args_0 (s0 : ByteArray) (l1 : List (List Pd)) (s2 : ByteArray) (b3 : Bool) (b4 : Bool) (l5 : List (List Pd)) : Option Res := pt E0 F_spec_l04Args [] ⟨tl ud [(0, .p (.agg 5 [.str s0, .sl 2 l1, .str s2, .bool (b3), .bool (b4)])), (1, .p (.sl 4 l5))] 0 103, tl .none [] 0 103, []⟩
noncomputable def spec_l04Args_1 (l0 : List (List Pd)) (n1 : Int) (s2 : ByteArray) (l3 : List (List Pd)) (s4 : ByteArray) (b5 : Bool) (b6 : Bool) : Option Res := pt E0 F_spec_l04Args [1, 0, 1, 0, 2] ⟨tl ud [(1, .p (.sl 4 l0)), (2, .ptr (.loc 2) 0), (5, .p (.int .i64 (n1)))] 0 103, tl .none [(2, .box 5 [.str s2, .sl 2 l3, .str s4, .bool (b5), .bool (b6)])] 0 103, []⟩
noncomputable def spec_l04Args_2 (l0 : List (List Pd)) (n1 : Int) (b2 : Bool) (s3 : ByteArray) (l4 : List (List Pd)) (s5 : ByteArray) (b6 : Bool) (b7 : Bool) : Option Res := pt E0 F_spec_l04Args [1, 0, 1, 0, 0, 1, 0, 0, 1, 1, 0, 1] ⟨tl ud [(1, .p (.sl 4 l0)), (2, .ptr (.loc 2) 0), (5, .p (.int .i64 (n1))), (49, .p (.bool (b2)))] 0 103, tl .none [(2, .box 5 [.str s3, .sl 2 l4, .str s5, .bool (b6), .bool (b7)])] 0 103, []⟩
noncomputable def spec_l04Args_3 (l0 : List (List Pd)) (n1 : Int) (s2 : ByteArray) (l3 : List (List Pd)) (s4 : ByteArray) (b5 : Bool) (b6 : Bool) : Option Res := pt E0 F_spec_l04Args [1, 1, 0, 1, 0, 2] ⟨tl ud [(1, .p (.sl 4 l0)), (2, .ptr (.loc 2) 0), (9, .p (.int .i64 (n1)))] 0 103, tl .none [(2, .box 5 [.str s2, .sl 2 l3, .str s4, .bool (b5), .bool (b6)])] 0 103, []⟩
noncomputable def spec_l04Args_4 (l0 : List (List Pd)) (n1 : Int) (n2 : Int) (s3 : ByteArray) (l4 : List (List Pd)) (s5 : ByteArray) (b6 : Bool) (b7 : Bool) : Option Res := pt E0 F_spec_l04Args [1, 0, 1, 0, 0, 1, 0, 0, 1, 1, 1, 1, 0, 2] ⟨tl ud [(1, .p (.sl 4 l0)), (2, .ptr (.loc 2) 0), (5, .p (.int .i64 (n1))), (8, .p (.int .i64 (n2)))] 0 103, tl .none [(2, .box 5 [.str s3, .sl 2 l4, .str s5, .bool (b6), .bool (b7)])] 0 103, []⟩
noncomputable def spec_l04Args_5 (l0 : List (List Pd)) (n1 : Int) (b2 : Bool) (n3 : Int) (s4 : ByteArray) (l5 : List (List Pd)) (s6 : ByteArray) (b7 : Bool) (b8 : Bool) : Option Res := pt E0 F_spec_l04Args [1, 1, 0, 1, 0, 0, 1, 0, 0, 1, 0, 1, 0, 2] ⟨tl ud [(1, .p (.sl 4 l0)), (2, .ptr (.loc 2) 0), (9, .p (.int .i64 (n1))), (10, .p (.bool (b2))), (11, .p (.int .i64 (n3)))] 0 103, tl .none [(2, .box 5 [.str s4, .sl 2 l5, .str s6, .bool (b7), .bool (b8)])] 0 103, []⟩
noncomputable def spec_l04Args_6 (l0 : List (List Pd)) (n1 : Int) (b2 : Bool) (n3 : Int) (s4 : ByteArray) (l5 : List (List Pd)) (s6 : ByteArray) (b7 : Bool) (b8 : Bool) : Option Res := pt E0 F_spec_l04Args [1, 1, 0, 1, 0, 0, 1, 0, 0, 1, 0, 1, 0, 0, 1, 1] ⟨tl ud [(1, .p (.sl 4 l0)), (2, .ptr (.loc 2) 0), (9, .p (.int .i64 (n1))), (10, .p (.bool (b2))), (11, .p (.int .i64 (n3)))] 0 103, tl .none [(2, .box 5 [.str s4, .sl 2 l5, .str s6, .bool (b7), .bool (b8)])] 0 103, []⟩
theorem spec_l04Args_0_ev (s0 : ByteArray) (l1 : List (List Pd)) (s2 : ByteArray) (b3 : Bool) (b4 : Bool) (l5 : List (List Pd)) : ev E0 F_spec_l04Args [.p (.agg 5 [.str s0, .sl 2 l1, .str s2, .bool (b3), .bool (b4)]), .p (.sl 4 l5)] [] = spec_l04Args_0 s0 l1 s2 b3 b4 l5 := (ev_eq _ _ _ _).trans (by kernel_rfl)
theorem spec_l04Args_0_eq (s0 : ByteArray) (l1 : List (List Pd)) (s2 : ByteArray) (b3 : Bool) (b4 : Bool) (l5 : List (List Pd)) : spec_l04Args_0 s0 l1 s2 b3 b4 l5 =
    spec_l04Args_1 l5 0 s0 l1 s2 b3 b4 := by kernel_rfl
theorem spec_l04Args_1_eq (l0 : List (List Pd)) (n1 : Int) (s2 : ByteArray) (l3 : List (List Pd)) (s4 : ByteArray) (b5 : Bool) (b6 : Bool) : spec_l04Args_1 l0 n1 s2 l3 s4 b5 b6 =
    bif decide ((n1 : Int) < (l0.length : Int)) then (if 0 ≤ (n1 : Int) ∧ (n1 : Int) < (l0.length : Int) then ((asStr (((l0.getD (n1 : Int).toNat []).getD 0 .undef))).bind fun s108 => (ev E0 F_spec_l03Arg [.p (.agg 5 [.str s2, .sl 2 l3, .str s4, .bool (b5), .bool (b6)]), .p (.str s108)] []).bind fun r109 => (asInt .i64 (pAt 0 r109.1)).bind fun n110 => if r109.1.length = 1 then (if 0 ≤ (n1 : Int) ∧ (n1 : Int) < (l0.length : Int) then (bif decide ((n110 : Int) < 0) then (spec_l04Args_2 l0 n1 true s2 l3 s4 b5 b6) else ((asInt .i64 ((((l0.getD (n1 : Int).toNat []).drop 1).getD 0 .undef))).bind fun n111 => bif (n111 : Int) == 2 then (spec_l04Args_2 l0 n1 true s2 l3 s4 b5 b6) else ((asInt .i64 ((((l0.getD (n1 : Int).toNat []).drop 1).getD 0 .undef))).bind fun n112 => bif (n112 : Int) == 3 then (if 0 ≤ (n110 : Int) ∧ (n110 : Int) < (l3.length : Int) then ((asBool ((((l3.getD (n110 : Int).toNat []).drop 1).getD 0 .undef))).bind fun b113 => spec_l04Args_2 l0 n1 b113 s2 l3 s4 b5 b6) else none) else (spec_l04Args_2 l0 n1 false s2 l3 s4 b5 b6)))) else none) else none) else none) else (spec_l04Args_3 l0 0 s2 l3 s4 b5 b6) := (pt_loop E0 F_spec_l04Args [1, 0, 1, 0] _ (by kernel_rfl)).trans (by kernel_rfl)
theorem spec_l04Args_2_eq (l0 : List (List Pd)) (n1 : Int) (b2 : Bool) (s3 : ByteArray) (l4 : List (List Pd)) (s5 : ByteArray) (b6 : Bool) (b7 : Bool) : spec_l04Args_2 l0 n1 b2 s3 l4 s5 b6 b7 =
    bif b2 then (some ([.p (.int .i64 (10))], [])) else (spec_l04Args_4 l0 n1 0 s3 l4 s5 b6 b7) := by kernel_rfl
theorem spec_l04Args_3_eq (l0 : List (List Pd)) (n1 : Int) (s2 : ByteArray) (l3 : List (List Pd)) (s4 : ByteArray) (b5 : Bool) (b6 : Bool) : spec_l04Args_3 l0 n1 s2 l3 s4 b5 b6 =
    bif decide ((n1 : Int) < (l3.length : Int)) then (if 0 ≤ (n1 : Int) ∧ (n1 : Int) < (l3.length : Int) then ((asBool ((((l3.getD (n1 : Int).toNat []).drop 1).getD 0 .undef))).bind fun b108 => spec_l04Args_5 l0 n1 (!(b108)) 0 s2 l3 s4 b5 b6) else none) else (some ([.p (.int .i64 (0))], [])) := (pt_loop E0 F_spec_l04Args [1, 1, 0, 1, 0] _ (by kernel_rfl)).trans (by kernel_rfl)
theorem spec_l04Args_4_eq (l0 : List (List Pd)) (n1 : Int) (n2 : Int) (s3 : ByteArray) (l4 : List (List Pd)) (s5 : ByteArray) (b6 : Bool) (b7 : Bool) : spec_l04Args_4 l0 n1 n2 s3 l4 s5 b6 b7 =
    bif decide ((n2 : Int) < n1) then (if 0 ≤ (n2 : Int) ∧ (n2 : Int) < (l0.length : Int) then ((asStr (((l0.getD (n2 : Int).toNat []).getD 0 .undef))).bind fun s109 => if 0 ≤ (n1 : Int) ∧ (n1 : Int) < (l0.length : Int) then ((asStr (((l0.getD (n1 : Int).toNat []).getD 0 .undef))).bind fun s110 => bif decide (s109 = s110) then (some ([.p (.int .i64 (10))], [])) else (spec_l04Args_4 l0 n1 (IntKind.i64.wrap (n2 + 1)) s3 l4 s5 b6 b7)) else none) else none) else (spec_l04Args_1 l0 (IntKind.i64.wrap (n1 + 1)) s3 l4 s5 b6 b7) := (pt_loop E0 F_spec_l04Args [1, 0, 1, 0, 0, 1, 0, 0, 1, 1, 1, 1, 0] _ (by kernel_rfl)).trans (by kernel_rfl)
theorem spec_l04Args_5_eq (l0 : List (List Pd)) (n1 : Int) (b2 : Bool) (n3 : Int) (s4 : ByteArray) (l5 : List (List Pd)) (s6 : ByteArray) (b7 : Bool) (b8 : Bool) : spec_l04Args_5 l0 n1 b2 n3 s4 l5 s6 b7 b8 =
    bif decide ((n3 : Int) < (l0.length : Int)) then (bif b2 then (spec_l04Args_6 l0 n1 true n3 s4 l5 s6 b7 b8) else (if 0 ≤ (n3 : Int) ∧ (n3 : Int) < (l0.length : Int) then ((asStr (((l0.getD (n3 : Int).toNat []).getD 0 .undef))).bind fun s110 => if 0 ≤ (n1 : Int) ∧ (n1 : Int) < (l5.length : Int) then ((asStr (((l5.getD (n1 : Int).toNat []).getD 0 .undef))).bind fun s111 => spec_l04Args_6 l0 n1 (decide (s110 = s111)) n3 s4 l5 s6 b7 b8) else none) else none)) else (bif !(b2) then (some ([.p (.int .i64 (10))], [])) else (spec_l04Args_3 l0 (IntKind.i64.wrap (n1 + 1)) s4 l5 s6 b7 b8)) := (pt_loop E0 F_spec_l04Args [1, 1, 0, 1, 0, 0, 1, 0, 0, 1, 0, 1, 0] _ (by kernel_rfl)).trans (by kernel_rfl)
theorem spec_l04Args_6_eq (l0 : List (List Pd)) (n1 : Int) (b2 : Bool) (n3 : Int) (s4 : ByteArray) (l5 : List (List Pd)) (s6 : ByteArray) (b7 : Bool) (b8 : Bool) : spec_l04Args_6 l0 n1 b2 n3 s4 l5 s6 b7 b8 =
    spec_l04Args_5 l0 n1 b2 (IntKind.i64.wrap (n3 + 1)) s4 l5 s6 b7 b8 := by kernel_rfl

/-! laws.toFieldDef -/
noncomputable def laws_toFieldDef_0 (s0 : ByteArray) (l1 : List (List Pd)) (s2 : ByteArray) (b3 : Bool) (b4 : Bool) : Option Res := pt E0 F_laws_toFieldDef [] ⟨tl ud [(0, .p (.agg 5 [.str s0, .sl 2 l1, .str s2, .bool (b3), .bool (b4)]))] 0 21, tl .none [] 0 21, []⟩
theorem laws_toFieldDef_0_ev (s0 : ByteArray) (l1 : List (List Pd)) (s2 : ByteArray) (b3 : Bool) (b4 : Bool) : ev E0 F_laws_toFieldDef [.p (.agg 5 [.str s0, .sl 2 l1, .str s2, .bool (b3), .bool (b4)])] [] = laws_toFieldDef_0 s0 l1 s2 b3 b4 := (ev_eq _ _ _ _).trans (by kernel_rfl)
theorem laws_toFieldDef_0_eq (s0 : ByteArray) (l1 : List (List Pd)) (s2 : ByteArray) (b3 : Bool) (b4 : Bool) : laws_toFieldDef_0 s0 l1 s2 b3 b4 =
    (ev E0 F_laws_toArgDefS [.p (.sl 2 l1)] []).bind fun r106 => (asSl 2 (pAt 0 r106.1)).bind fun l107 => if r106.1.length = 1 then (some ([.p (.agg 5 [.str s0, .sl 2 l107, .str s2, .bool (b3), .bool (b4)])], [])) else none := by kernel_rfl

/-! laws.toSel -/
noncomputable def laws_toSel_0 (n0 : Int) (s1 : ByteArray) (s2 : ByteArray) (l3 : List (List Pd)) (l4 : List (List Pd)) (l5 : List (List Pd)) : Option Res := pt E0 F_laws_toSel [] ⟨tl ud [(0, .p (.agg 6 [.int .i64 (n0), .str s1, .str s2, .sl 4 l3, .sl 4 l4, .sl 6 l5]))] 0 26, tl .none [] 0 26, []⟩
theorem laws_toSel_0_ev (n0 : Int) (s1 : ByteArray) (s2 : ByteArray) (l3 : List (List Pd)) (l4 : List (List Pd)) (l5 : List (List Pd)) : ev E0 F_laws_toSel [.p (.agg 6 [.int .i64 (n0), .str s1, .str s2, .sl 4 l3, .sl 4 l4, .sl 6 l5])] [] = laws_toSel_0 n0 s1 s2 l3 l4 l5 := (ev_eq _ _ _ _).trans (by kernel_rfl)
theorem laws_toSel_0_eq (n0 : Int) (s1 : ByteArray) (s2 : ByteArray) (l3 : List (List Pd)) (l4 : List (List Pd)) (l5 : List (List Pd)) : laws_toSel_0 n0 s1 s2 l3 l4 l5 =
    (ev E0 F_laws_toArgS [.p (.sl 4 l3)] []).bind fun r107 => (asSl 4 (pAt 0 r107.1)).bind fun l108 => if r107.1.length = 1 then ((ev E0 F_laws_toDirS [.p (.sl 4 l4)] []).bind fun r109 => (asSl 4 (pAt 0 r109.1)).bind fun l110 => if r109.1.length = 1 then ((ev E0 F_laws_toSelS [.p (.sl 6 l5)] []).bind fun r111 => (asSl 6 (pAt 0 r111.1)).bind fun l112 => if r111.1.length = 1 then (some ([.p (.agg 6 [.int .i64 (n0), .str s1, .str s2, .sl 4 l108, .sl 4 l110, .sl 6 l112])], [])) else none) else none) else none := by kernel_rfl

/-! slices.IndexFunc[[]impl.ArgDef,impl.ArgDef] -/
noncomputable def slices_IndexFunc_impl_ArgDef_impl_ArgDef_0 (l0 : List (List Pd)) (s1 : ByteArray) : Option Res := pt E0 F_slices_IndexFunc_impl_ArgDef_impl_ArgDef [] ⟨tl ud [(0, .p (.sl 2 l0)), (1, .fn F_impl_FieldDef_argAt_1 [.ptr (.out 0) 0])] 0 19, tl .none [] 0 19, [.box 1 [.str s1]]⟩
noncomputable def slices_IndexFunc_impl_ArgDef_impl_ArgDef_1 (l0 : List (List Pd)) (n1 : Int) (n2 : Int) (s3 : ByteArray) : Option Res := pt E0 F_slices_IndexFunc_impl_ArgDef_impl_ArgDef [1, 0, 1, 0, 2] ⟨tl ud [(0, .p (.sl 2 l0)), (1, .fn F_impl_FieldDef_argAt_1 [.ptr (.out 0) 0]), (7, .p (.int .i64 (n1))), (8, .p (.int .i64 (n2)))] 0 19, tl .none [] 0 19, [.box 1 [.str s3]]⟩
noncomputable def slices_IndexFunc_impl_ArgDef_impl_ArgDef_2 (l0 : List (List Pd)) (n1 : Int) (n2 : Int) (c3 : List Pd) : Option Res := pt E0 F_slices_IndexFunc_impl_ArgDef_impl_ArgDef [1, 0, 1, 0, 2] ⟨tl ud [(0, .p (.sl 2 l0)), (1, .fn F_impl_FieldDef_argAt_1 [.ptr (.out 0) 0]), (7, .p (.int .i64 (n1))), (8, .p (.int .i64 (n2)))] 0 19, tl .none [] 0 19, [.box 1 c3]⟩
theorem slices_IndexFunc_impl_ArgDef_impl_ArgDef_0_ev (l0 : List (List Pd)) (s1 : ByteArray) : ev E0 F_slices_IndexFunc_impl_ArgDef_impl_ArgDef [.p (.sl 2 l0), .fn F_impl_FieldDef_argAt_1 [.ptr (.out 0) 0]] [.box 1 [.str s1]] = slices_IndexFunc_impl_ArgDef_impl_ArgDef_0 l0 s1 := (ev_eq _ _ _ _).trans (by kernel_rfl)
theorem slices_IndexFunc_impl_ArgDef_impl_ArgDef_0_eq (l0 : List (List Pd)) (s1 : ByteArray) : slices_IndexFunc_impl_ArgDef_impl_ArgDef_0 l0 s1 =
    slices_IndexFunc_impl_ArgDef_impl_ArgDef_1 l0 (l0.length : Int) 0 s1 := by kernel_rfl
theorem slices_IndexFunc_impl_ArgDef_impl_ArgDef_1_eq (l0 : List (List Pd)) (n1 : Int) (n2 : Int) (s3 : ByteArray) : slices_IndexFunc_impl_ArgDef_impl_ArgDef_1 l0 n1 n2 s3 =
    bif decide ((n2 : Int) < n1) then (if 0 ≤ (n2 : Int) ∧ (n2 : Int) < (l0.length : Int) then ((ev E0 F_impl_FieldDef_argAt_1 [.p (.agg 2 (l0.getD (n2 : Int).toNat [])), .ptr (.out 0) 0] [.box 1 [.str s3]]).bind fun r105 => (asBool (pAt 0 r105.1)).bind fun b106 => if r105.1.length = 1 then ((asBox 1 (r105.2.getD 0 .none)).bind fun c107 => if r105.2.length = 1 then (bif b106 then (some ([.p (.int .i64 (n2))], [.box 1 c107])) else (slices_IndexFunc_impl_ArgDef_impl_ArgDef_2 l0 n1 (IntKind.i64.wrap (n2 + 1)) c107)) else none) else none) else none) else (some ([.p (.int .i64 (-1))], [.box 1 [.str s3]])) := (pt_loop E0 F_slices_IndexFunc_impl_ArgDef_impl_ArgDef [1, 0, 1, 0] _ (by kernel_rfl)).trans (by kernel_rfl)
theorem slices_IndexFunc_impl_ArgDef_impl_ArgDef_2_eq (l0 : List (List Pd)) (n1 : Int) (n2 : Int) (c3 : List Pd) : slices_IndexFunc_impl_ArgDef_impl_ArgDef_2 l0 n1 n2 c3 =
    bif decide ((n2 : Int) < n1) then (if 0 ≤ (n2 : Int) ∧ (n2 : Int) < (l0.length : Int) then ((ev E0 F_impl_FieldDef_argAt_1 [.p (.agg 2 (l0.getD (n2 : Int).toNat [])), .ptr (.out 0) 0] [.box 1 c3]).bind fun r105 => (asBool (pAt 0 r105.1)).bind fun b106 => if r105.1.length = 1 then ((asBox 1 (r105.2.getD 0 .none)).bind fun c107 => if r105.2.length = 1 then (bif b106 then (some ([.p (.int .i64 (n2))], [.box 1 c107])) else (slices_IndexFunc_impl_ArgDef_impl_ArgDef_2 l0 n1 (IntKind.i64.wrap (n2 + 1)) c107)) else none) else none) else none) else (some ([.p (.int .i64 (-1))], [.box 1 c3])) := (pt_loop E0 F_slices_IndexFunc_impl_ArgDef_impl_ArgDef [1, 0, 1, 0] _ (by kernel_rfl)).trans (by kernel_rfl)

/-! (impl.FieldDef).argAt$1 -/
noncomputable def impl_FieldDef_argAt_1_0 (c0 : List Pd) (s1 : ByteArray) : Option Res := pt E0 F_impl_FieldDef_argAt_1 [] ⟨tl ud [(0, .p (.agg 2 c0)), (1, .ptr (.out 0) 0)] 0 8, tl .none [] 0 8, [.box 1 [.str s1]]⟩
noncomputable def impl_FieldDef_argAt_1_1 (c0 : List Pd) (c1 : List Pd) : Option Res := pt E0 F_impl_FieldDef_argAt_1 [] ⟨tl ud [(0, .p (.agg 2 c0)), (1, .ptr (.out 0) 0)] 0 8, tl .none [] 0 8, [.box 1 c1]⟩
theorem impl_FieldDef_argAt_1_0_ev (c0 : List Pd) (s1 : ByteArray) : ev E0 F_impl_FieldDef_argAt_1 [.p (.agg 2 c0), .ptr (.out 0) 0] [.box 1 [.str s1]] = impl_FieldDef_argAt_1_0 c0 s1 := (ev_eq _ _ _ _).trans (by kernel_rfl)
theorem impl_FieldDef_argAt_1_0_eq (c0 : List Pd) (s1 : ByteArray) : impl_FieldDef_argAt_1_0 c0 s1 =
    (asStr (c0.getD 0 .undef)).bind fun s103 => some ([.p (.bool (decide (s103 = s1)))], [.box 1 [.str s1]]) := by kernel_rfl
theorem impl_FieldDef_argAt_1_1_ev (c0 : List Pd) (c1 : List Pd) : ev E0 F_impl_FieldDef_argAt_1 [.p (.agg 2 c0), .ptr (.out 0) 0] [.box 1 c1] = impl_FieldDef_argAt_1_1 c0 c1 := (ev_eq _ _ _ _).trans (by kernel_rfl)
theorem impl_FieldDef_argAt_1_1_eq (c0 : List Pd) (c1 : List Pd) : impl_FieldDef_argAt_1_1 c0 c1 =
    (asStr (c0.getD 0 .undef)).bind fun s103 => (asStr (c1.getD 0 .undef)).bind fun s104 => some ([.p (.bool (decide (s103 = s104)))], [.box 1 c1]) := by kernel_rfl

/-! (impl.Sel).isRight$1 -/
noncomputable def impl_Sel_isRight_1_0 (s0 : ByteArray) (n1 : Int) (n2 : Int) (s3 : ByteArray) : Option Res := pt E0 F_impl_Sel_isRight_1 [] ⟨tl ud [(0, .p (.agg 4 [.str s0, .int .i64 (n1), .int .i64 (n2), .str s3]))] 0 13, tl .none [] 0 13, []⟩
theorem impl_Sel_isRight_1_0_ev (s0 : ByteArray) (n1 : Int) (n2 : Int) (s3 : ByteArray) : ev E0 F_impl_Sel_isRight_1 [.p (.agg 4 [.str s0, .int .i64 (n1), .int .i64 (n2), .str s3])] [] = impl_Sel_isRight_1_0 s0 n1 n2 s3 := (ev_eq _ _ _ _).trans (by kernel_rfl)
theorem impl_Sel_isRight_1_0_eq (s0 : ByteArray) (n1 : Int) (n2 : Int) (s3 : ByteArray) : impl_Sel_isRight_1_0 s0 n1 n2 s3 =
    (ev E0 F_impl_NameOK [.p (.str s0)] []).bind fun r105 => (asBool (pAt 0 r105.1)).bind fun b106 => if r105.1.length = 1 then (bif !(b106) then (some ([.p (.bool (true))], [])) else ((ev E0 F_impl_ValueOK [.p (.agg 3 [.int .i64 (n1), .int .i64 (n2), .str s3])] []).bind fun r107 => (asBool (pAt 0 r107.1)).bind fun b108 => if r107.1.length = 1 then (some ([.p (.bool (!(b108)))], [])) else none)) else none := by kernel_rfl

/-! impl.ValueOK -/
noncomputable def impl_ValueOK_0 (n0 : Int) (n1 : Int) (s2 : ByteArray) : Option Res := pt E0 F_impl_ValueOK [] ⟨tl ud [(0, .p (.agg 3 [.int .i64 (n0), .int .i64 (n1), .str s2]))] 0 45, tl .none [] 0 45, []⟩
theorem impl_ValueOK_0_ev (n0 : Int) (n1 : Int) (s2 : ByteArray) : ev E0 F_impl_ValueOK [.p (.agg 3 [.int .i64 (n0), .int .i64 (n1), .str s2])] [] = impl_ValueOK_0 n0 n1 s2 := (ev_eq _ _ _ _).trans (by kernel_rfl)
theorem impl_ValueOK_0_eq (n0 : Int) (n1 : Int) (s2 : ByteArray) : impl_ValueOK_0 n0 n1 s2 =
    bif (n0 : Int) == 1 then ((ev E0 F_impl_IsInt [.p (.int .i64 (n1))] []).bind fun r104 => (asBool (pAt 0 r104.1)).bind fun b105 => if r104.1.length = 1 then (bif b105 then (some ([.p (.bool (decide (s2 = (⟨#[]⟩ : ByteArray))))], [])) else (some ([.p (.bool (false))], []))) else none) else (bif (n0 : Int) == 2 then ((ev E0 F_impl_within [.p (.int .i64 (n1)), .p (.int .i64 (0)), .p (.int .i64 (1))] []).bind fun r106 => (asBool (pAt 0 r106.1)).bind fun b107 => if r106.1.length = 1 then (bif b107 then (some ([.p (.bool (decide (s2 = (⟨#[]⟩ : ByteArray))))], [])) else (some ([.p (.bool (false))], []))) else none) else (bif (n0 : Int) == 3 then (bif (n1 : Int) == 0 then (some ([.p (.bool (decide (s2 = (⟨#[]⟩ : ByteArray))))], [])) else (some ([.p (.bool (false))], []))) else (bif (n0 : Int) == 4 then (bif (n1 : Int) == 0 then ((ev E0 F_impl_NameOK [.p (.str s2)] []).bind fun r108 => (asBool (pAt 0 r108.1)).bind fun b109 => if r108.1.length = 1 then (some ([.p (.bool (b109))], [])) else none) else (some ([.p (.bool (false))], []))) else (some ([.p (.bool (false))], []))))) := by kernel_rfl

/-! (impl.Sel).isRight$2 -/
noncomputable def impl_Sel_isRight_2_0 (b0 : Bool) (n1 : Int) (n2 : Int) (s3 : ByteArray) : Option Res := pt E0 F_impl_Sel_isRight_2 [] ⟨tl ud [(0, .p (.agg 4 [.bool (b0), .int .i64 (n1), .int .i64 (n2), .str s3]))] 0 7, tl .none [] 0 7, []⟩
theorem impl_Sel_isRight_2_0_ev (b0 : Bool) (n1 : Int) (n2 : Int) (s3 : ByteArray) : ev E0 F_impl_Sel_isRight_2 [.p (.agg 4 [.bool (b0), .int .i64 (n1), .int .i64 (n2), .str s3])] [] = impl_Sel_isRight_2_0 b0 n1 n2 s3 := (ev_eq _ _ _ _).trans (by kernel_rfl)
theorem impl_Sel_isRight_2_0_eq (b0 : Bool) (n1 : Int) (n2 : Int) (s3 : ByteArray) : impl_Sel_isRight_2_0 b0 n1 n2 s3 =
    (ev E0 F_impl_ValueOK [.p (.agg 3 [.int .i64 (n1), .int .i64 (n2), .str s3])] []).bind fun r105 => (asBool (pAt 0 r105.1)).bind fun b106 => if r105.1.length = 1 then (some ([.p (.bool (!(b106)))], [])) else none := by kernel_rfl

/-! slices.ContainsFunc[[]impl.Arg,impl.Arg] -/
noncomputable def slices_ContainsFunc_impl_Arg_impl_Arg_0 (l0 : List (List Pd)) : Option Res := pt E0 F_slices_ContainsFunc_impl_Arg_impl_Arg [] ⟨tl ud [(0, .p (.sl 4 l0)), (1, .p (.fn F_impl_Sel_isRight_1))] 0 9, tl .none [] 0 9, []⟩
noncomputable def slices_ContainsFunc_impl_Arg_impl_Arg_1 (l0 : List (List Pd)) (c1 : List Pd) : Option Res := pt E0 F_slices_ContainsFunc_impl_Arg_impl_Arg [] ⟨tl ud [(0, .p (.sl 4 l0)), (1, .fn F_impl_argsCode_1 [.ptr (.out 0) 0])] 0 9, tl .none [] 0 9, [.box 4 c1]⟩
noncomputable def slices_ContainsFunc_impl_Arg_impl_Arg_2 (l0 : List (List Pd)) (c1 : List Pd) : Option Res := pt E0 F_slices_ContainsFunc_impl_Arg_impl_Arg [] ⟨tl ud [(0, .p (.sl 4 l0)), (1, .fn F_impl_argsCode_2 [.ptr (.out 0) 0])] 0 9, tl .none [] 0 9, [.box 2 c1]⟩
theorem slices_ContainsFunc_impl_Arg_impl_Arg_0_ev (l0 : List (List Pd)) : ev E0 F_slices_ContainsFunc_impl_Arg_impl_Arg [.p (.sl 4 l0), .p (.fn F_impl_Sel_isRight_1)] [] = slices_ContainsFunc_impl_Arg_impl_Arg_0 l0 := (ev_eq _ _ _ _).trans (by kernel_rfl)
theorem slices_ContainsFunc_impl_Arg_impl_Arg_0_eq (l0 : List (List Pd)) : slices_ContainsFunc_impl_Arg_impl_Arg_0 l0 =
    (ev E0 F_slices_IndexFunc_impl_Arg_impl_Arg [.p (.sl 4 l0), .p (.fn F_impl_Sel_isRight_1)] []).bind fun r102 => (asInt .i64 (pAt 0 r102.1)).bind fun n103 => if r102.1.length = 1 then (some ([.p (.bool (decide ((n103 : Int) ≥ 0)))], [])) else none := by kernel_rfl
theorem slices_ContainsFunc_impl_Arg_impl_Arg_1_ev (l0 : List (List Pd)) (c1 : List Pd) : ev E0 F_slices_ContainsFunc_impl_Arg_impl_Arg [.p (.sl 4 l0), .fn F_impl_argsCode_1 [.ptr (.out 0) 0]] [.box 4 c1] = slices_ContainsFunc_impl_Arg_impl_Arg_1 l0 c1 := (ev_eq _ _ _ _).trans (by kernel_rfl)
theorem slices_ContainsFunc_impl_Arg_impl_Arg_1_eq (l0 : List (List Pd)) (c1 : List Pd) : slices_ContainsFunc_impl_Arg_impl_Arg_1 l0 c1 =
    (ev E0 F_slices_IndexFunc_impl_Arg_impl_Arg [.p (.sl 4 l0), .fn F_impl_argsCode_1 [.ptr (.out 0) 0]] [.box 4 c1]).bind fun r103 => (asInt .i64 (pAt 0 r103.1)).bind fun n104 => if r103.1.length = 1 then ((asBox 4 (r103.2.getD 0 .none)).bind fun c105 => if r103.2.length = 1 then (some ([.p (.bool (decide ((n104 : Int) ≥ 0)))], [.box 4 c105])) else none) else none := by kernel_rfl
theorem slices_ContainsFunc_impl_Arg_impl_Arg_2_ev (l0 : List (List Pd)) (c1 : List Pd) : ev E0 F_slices_ContainsFunc_impl_Arg_impl_Arg [.p (.sl 4 l0), .fn F_impl_argsCode_2 [.ptr (.out 0) 0]] [.box 2 c1] = slices_ContainsFunc_impl_Arg_impl_Arg_2 l0 c1 := (ev_eq _ _ _ _).trans (by kernel_rfl)
theorem slices_ContainsFunc_impl_Arg_impl_Arg_2_eq (l0 : List (List Pd)) (c1 : List Pd) : slices_ContainsFunc_impl_Arg_impl_Arg_2 l0 c1 =
    (ev E0 F_slices_IndexFunc_impl_Arg_impl_Arg [.p (.sl 4 l0), .fn F_impl_argsCode_2 [.ptr (.out 0) 0]] [.box 2 c1]).bind fun r103 => (asInt .i64 (pAt 0 r103.1)).bind fun n104 => if r103.1.length = 1 then ((asBox 2 (r103.2.getD 0 .none)).bind fun c105 => if r103.2.length = 1 then (some ([.p (.bool (decide ((n104 : Int) ≥ 0)))], [.box 2 c105])) else none) else none := by kernel_rfl

/-! slices.ContainsFunc[[]impl.Dir,impl.Dir] -/
noncomputable def slices_ContainsFunc_impl_Dir_impl_Dir_0 (l0 : List (List Pd)) : Option Res := pt E0 F_slices_ContainsFunc_impl_Dir_impl_Dir [] ⟨tl ud [(0, .p (.sl 4 l0)), (1, .p (.fn F_impl_Sel_isRight_2))] 0 9, tl .none [] 0 9, []⟩
noncomputable def slices_ContainsFunc_impl_Dir_impl_Dir_1 (l0 : List (List Pd)) : Option Res := pt E0 F_slices_ContainsFunc_impl_Dir_impl_Dir [] ⟨tl ud [(0, .p (.sl 4 l0)), (1, .p (.fn F_impl_checker_sel_1))] 0 9, tl .none [] 0 9, []⟩
theorem slices_ContainsFunc_impl_Dir_impl_Dir_0_ev (l0 : List (List Pd)) : ev E0 F_slices_ContainsFunc_impl_Dir_impl_Dir [.p (.sl 4 l0), .p (.fn F_impl_Sel_isRight_2)] [] = slices_ContainsFunc_impl_Dir_impl_Dir_0 l0 := (ev_eq _ _ _ _).trans (by kernel_rfl)
theorem slices_ContainsFunc_impl_Dir_impl_Dir_0_eq (l0 : List (List Pd)) : slices_ContainsFunc_impl_Dir_impl_Dir_0 l0 =
    (ev E0 F_slices_IndexFunc_impl_Dir_impl_Dir [.p (.sl 4 l0), .p (.fn F_impl_Sel_isRight_2)] []).bind fun r102 => (asInt .i64 (pAt 0 r102.1)).bind fun n103 => if r102.1.length = 1 then (some ([.p (.bool (decide ((n103 : Int) ≥ 0)))], [])) else none := by kernel_rfl
theorem slices_ContainsFunc_impl_Dir_impl_Dir_1_ev (l0 : List (List Pd)) : ev E0 F_slices_ContainsFunc_impl_Dir_impl_Dir [.p (.sl 4 l0), .p (.fn F_impl_checker_sel_1)] [] = slices_ContainsFunc_impl_Dir_impl_Dir_1 l0 := (ev_eq _ _ _ _).trans (by kernel_rfl)
theorem slices_ContainsFunc_impl_Dir_impl_Dir_1_eq (l0 : List (List Pd)) : slices_ContainsFunc_impl_Dir_impl_Dir_1 l0 =
    (ev E0 F_slices_IndexFunc_impl_Dir_impl_Dir [.p (.sl 4 l0), .p (.fn F_impl_checker_sel_1)] []).bind fun r102 => (asInt .i64 (pAt 0 r102.1)).bind fun n103 => if r102.1.length = 1 then (some ([.p (.bool (decide ((n103 : Int) ≥ 0)))], [])) else none := by kernel_rfl

/-! (impl.checker).sel$1 -/
noncomputable def impl_checker_sel_1_0 (b0 : Bool) (n1 : Int) (n2 : Int) (s3 : ByteArray) : Option Res := pt E0 F_impl_checker_sel_1 [] ⟨tl ud [(0, .p (.agg 4 [.bool (b0), .int .i64 (n1), .int .i64 (n2), .str s3]))] 0 13, tl .none [] 0 13, []⟩
theorem impl_checker_sel_1_0_ev (b0 : Bool) (n1 : Int) (n2 : Int) (s3 : ByteArray) : ev E0 F_impl_checker_sel_1 [.p (.agg 4 [.bool (b0), .int .i64 (n1), .int .i64 (n2), .str s3])] [] = impl_checker_sel_1_0 b0 n1 n2 s3 := (ev_eq _ _ _ _).trans (by kernel_rfl)
theorem impl_checker_sel_1_0_eq (b0 : Bool) (n1 : Int) (n2 : Int) (s3 : ByteArray) : impl_checker_sel_1_0 b0 n1 n2 s3 =
    bif (n1 : Int) != 2 then (some ([.p (.bool ((n1 : Int) != 4))], [])) else (some ([.p (.bool (false))], [])) := by kernel_rfl

/-! (impl.Doc).fragment -/
noncomputable def impl_Doc_fragment_0 (l0 : List (List Pd)) (s1 : ByteArray) : Option Res := pt E0 F_impl_Doc_fragment [] ⟨tl ud [(0, .p (.agg 1 [.sl 4 l0])), (1, .p (.str s1))] 0 19, tl .none [] 0 19, []⟩
theorem impl_Doc_fragment_0_ev (l0 : List (List Pd)) (s1 : ByteArray) : ev E0 F_impl_Doc_fragment [.p (.agg 1 [.sl 4 l0]), .p (.str s1)] [] = impl_Doc_fragment_0 l0 s1 := (ev_eq _ _ _ _).trans (by kernel_rfl)
theorem impl_Doc_fragment_0_eq (l0 : List (List Pd)) (s1 : ByteArray) : impl_Doc_fragment_0 l0 s1 =
    (ev E0 F_slices_IndexFunc_impl_Def_impl_Def [.p (.sl 4 l0), .fn F_impl_Doc_fragment_1 [.ptr (.out 0) 0]] [.box 1 [.str s1]]).bind fun r103 => (asInt .i64 (pAt 0 r103.1)).bind fun n104 => if r103.1.length = 1 then ((asBox 1 (r103.2.getD 0 .none)).bind fun c105 => if r103.2.length = 1 then (bif decide ((n104 : Int) < 0) then (some ([.p (.agg 4 [.int .i64 (0), .str (⟨#[]⟩ : ByteArray), .str (⟨#[]⟩ : ByteArray), .sl 6 (([] : List (List Pd)))]), .p (.bool (false))], [])) else (if 0 ≤ (n104 : Int) ∧ (n104 : Int) < (l0.length : Int) then (some ([.p (.agg 4 (l0.getD (n104 : Int).toNat [])), .p (.bool (true))], [])) else none)) else none) else none := by kernel_rfl

/-! (impl.checker).field -/
noncomputable def impl_checker_field_0 (l0 : List (List Pd)) (l1 : List (List Pd)) (s2 : ByteArray) (l3 : List (List Pd)) (n4 : Int) (s5 : ByteArray) (s6 : ByteArray) (l7 : List (List Pd)) (l8 : List (List Pd)) (l9 : List (List Pd)) : Option Res := pt E0 F_impl_checker_field [] ⟨tl ud [(0, .p (.agg 2 [.sl 2 l0, .sl 4 l1])), (1, .p (.agg 2 [.str s2, .sl 5 l3])), (2, .p (.agg 6 [.int .i64 (n4), .str s5, .str s6, .sl 4 l7, .sl 4 l8, .sl 6 l9]))] 0 52, tl .none [] 0 52, []⟩
theorem impl_checker_field_0_ev (l0 : List (List Pd)) (l1 : List (List Pd)) (s2 : ByteArray) (l3 : List (List Pd)) (n4 : Int) (s5 : ByteArray) (s6 : ByteArray) (l7 : List (List Pd)) (l8 : List (List Pd)) (l9 : List (List Pd)) : ev E0 F_impl_checker_field [.p (.agg 2 [.sl 2 l0, .sl 4 l1]), .p (.agg 2 [.str s2, .sl 5 l3]), .p (.agg 6 [.int .i64 (n4), .str s5, .str s6, .sl 4 l7, .sl 4 l8, .sl 6 l9])] [] = impl_checker_field_0 l0 l1 s2 l3 n4 s5 s6 l7 l8 l9 := (ev_eq _ _ _ _).trans (by kernel_rfl)
theorem impl_checker_field_0_eq (l0 : List (List Pd)) (l1 : List (List Pd)) (s2 : ByteArray) (l3 : List (List Pd)) (n4 : Int) (s5 : ByteArray) (s6 : ByteArray) (l7 : List (List Pd)) (l8 : List (List Pd)) (l9 : List (List Pd)) : impl_checker_field_0 l0 l1 s2 l3 n4 s5 s6 l7 l8 l9 =
    bif decide (s6 = (⟨#[95, 95, 116, 121, 112, 101, 110, 97, 109, 101]⟩ : ByteArray)) then (bif decide (((l7.length : Int) : Int) > 0) then (some ([.p (.str (⟨#[]⟩ : ByteArray)), .p (.int .i64 (10))], [])) else (bif decide (((l9.length : Int) : Int) > 0) then (some ([.p (.str (⟨#[]⟩ : ByteArray)), .p (.int .i64 (11))], [])) else (some ([.p (.str (⟨#[]⟩ : ByteArray)), .p (.int .i64 (0))], [])))) else ((ev E0 F_impl_TypeDef_fieldAt [.p (.agg 2 [.str s2, .sl 5 l3]), .p (.str s6)] []).bind fun r111 => (asInt .i64 (pAt 0 r111.1)).bind fun n112 => if r111.1.length = 1 then (bif decide ((n112 : Int) < 0) then (some ([.p (.str (⟨#[]⟩ : ByteArray)), .p (.int .i64 (9))], [])) else (if 0 ≤ (n112 : Int) ∧ (n112 : Int) < (l3.length : Int) then ((ev E0 F_impl_argsCode [.p (.agg 5 (l3.getD (n112 : Int).toNat [])), .p (.sl 4 l7)] []).bind fun r113 => (asInt .i64 (pAt 0 r113.1)).bind fun n114 => if r113.1.length = 1 then (bif (n114 : Int) != 0 then (some ([.p (.str (⟨#[]⟩ : ByteArray)), .p (.int .i64 (n114))], [])) else ((asStr (((l3.getD (n112 : Int).toNat []).getD 2 .undef))).bind fun s115 => bif !((decide (s115 = (⟨#[73, 110, 116]⟩ : ByteArray))) == (((l9.length : Int) : Int) == 0)) then (some ([.p (.str (⟨#[]⟩ : ByteArray)), .p (.int .i64 (11))], [])) else ((asStr (((l3.getD (n112 : Int).toNat []).getD 2 .undef))).bind fun s116 => some ([.p (.str s116), .p (.int .i64 (0))], [])))) else none) else none)) else none) := by kernel_rfl

/-! laws.eqFieldDef -/
noncomputable def laws_eqFieldDef_0 (s0 : ByteArray) (l1 : List (List Pd)) (s2 : ByteArray) (b3 : Bool) (b4 : Bool) (s5 : ByteArray) (l6 : List (List Pd)) (s7 : ByteArray) (b8 : Bool) (b9 : Bool) : Option Res := pt E0 F_laws_eqFieldDef [] ⟨tl ud [(0, .p (.agg 5 [.str s0, .sl 2 l1, .str s2, .bool (b3), .bool (b4)])), (1, .p (.agg 5 [.str s5, .sl 2 l6, .str s7, .bool (b8), .bool (b9)]))] 0 31, tl .none [] 0 31, []⟩
theorem laws_eqFieldDef_0_ev (s0 : ByteArray) (l1 : List (List Pd)) (s2 : ByteArray) (b3 : Bool) (b4 : Bool) (s5 : ByteArray) (l6 : List (List Pd)) (s7 : ByteArray) (b8 : Bool) (b9 : Bool) : ev E0 F_laws_eqFieldDef [.p (.agg 5 [.str s0, .sl 2 l1, .str s2, .bool (b3), .bool (b4)]), .p (.agg 5 [.str s5, .sl 2 l6, .str s7, .bool (b8), .bool (b9)])] [] = laws_eqFieldDef_0 s0 l1 s2 b3 b4 s5 l6 s7 b8 b9 := (ev_eq _ _ _ _).trans (by kernel_rfl)
theorem laws_eqFieldDef_0_eq (s0 : ByteArray) (l1 : List (List Pd)) (s2 : ByteArray) (b3 : Bool) (b4 : Bool) (s5 : ByteArray) (l6 : List (List Pd)) (s7 : ByteArray) (b8 : Bool) (b9 : Bool) : laws_eqFieldDef_0 s0 l1 s2 b3 b4 s5 l6 s7 b8 b9 =
    bif !decide (s0 = s5) then (some ([.p (.bool (false))], [])) else ((ev E0 F_laws_eqArgDefS [.p (.sl 2 l1), .p (.sl 2 l6)] []).bind fun r111 => (asBool (pAt 0 r111.1)).bind fun b112 => if r111.1.length = 1 then (bif !(b112) then (some ([.p (.bool (false))], [])) else (bif !decide (s2 = s7) then (some ([.p (.bool (false))], [])) else (bif !(b3 == b8) then (some ([.p (.bool (false))], [])) else (bif !(b4 == b9) then (some ([.p (.bool (false))], [])) else (some ([.p (.bool (true))], [])))))) else none) := by kernel_rfl

/-! laws.eqSel -/
noncomputable def laws_eqSel_0 (n0 : Int) (s1 : ByteArray) (s2 : ByteArray) (l3 : List (List Pd)) (l4 : List (List Pd)) (l5 : List (List Pd)) (n6 : Int) (s7 : ByteArray) (s8 : ByteArray) (l9 : List (List Pd)) (l10 : List (List Pd)) (l11 : List (List Pd)) : Option Res := pt E0 F_laws_eqSel [] ⟨tl ud [(0, .p (.agg 6 [.int .i64 (n0), .str s1, .str s2, .sl 4 l3, .sl 4 l4, .sl 6 l5])), (1, .p (.agg 6 [.int .i64 (n6), .str s7, .str s8, .sl 4 l9, .sl 4 l10, .sl 6 l11]))] 0 38, tl .none [] 0 38, []⟩
theorem laws_eqSel_0_ev (n0 : Int) (s1 : ByteArray) (s2 : ByteArray) (l3 : List (List Pd)) (l4 : List (List Pd)) (l5 : List (List Pd)) (n6 : Int) (s7 : ByteArray) (s8 : ByteArray) (l9 : List (List Pd)) (l10 : List (List Pd)) (l11 : List (List Pd)) : ev E0 F_laws_eqSel [.p (.agg 6 [.int .i64 (n0), .str s1, .str s2, .sl 4 l3, .sl 4 l4, .sl 6 l5]), .p (.agg 6 [.int .i64 (n6), .str s7, .str s8, .sl 4 l9, .sl 4 l10, .sl 6 l11])] [] = laws_eqSel_0 n0 s1 s2 l3 l4 l5 n6 s7 s8 l9 l10 l11 := (ev_eq _ _ _ _).trans (by kernel_rfl)
theorem laws_eqSel_0_eq (n0 : Int) (s1 : ByteArray) (s2 : ByteArray) (l3 : List (List Pd)) (l4 : List (List Pd)) (l5 : List (List Pd)) (n6 : Int) (s7 : ByteArray) (s8 : ByteArray) (l9 : List (List Pd)) (l10 : List (List Pd)) (l11 : List (List Pd)) : laws_eqSel_0 n0 s1 s2 l3 l4 l5 n6 s7 s8 l9 l10 l11 =
    bif (n0 : Int) != n6 then (some ([.p (.bool (false))], [])) else (bif !decide (s1 = s7) then (some ([.p (.bool (false))], [])) else (bif !decide (s2 = s8) then (some ([.p (.bool (false))], [])) else ((ev E0 F_laws_eqArgS [.p (.sl 4 l3), .p (.sl 4 l9)] []).bind fun r113 => (asBool (pAt 0 r113.1)).bind fun b114 => if r113.1.length = 1 then (bif !(b114) then (some ([.p (.bool (false))], [])) else ((ev E0 F_laws_eqDirS [.p (.sl 4 l4), .p (.sl 4 l10)] []).bind fun r115 => (asBool (pAt 0 r115.1)).bind fun b116 => if r115.1.length = 1 then (bif !(b116) then (some ([.p (.bool (false))], [])) else ((ev E0 F_laws_eqSelS [.p (.sl 6 l5), .p (.sl 6 l11)] []).bind fun r117 => (asBool (pAt 0 r117.1)).bind fun b118 => if r117.1.length = 1 then (bif !(b118) then (some ([.p (.bool (false))], [])) else (some ([.p (.bool (true))], []))) else none)) else none)) else none))) := by kernel_rfl

/-! laws.szArgDefS -/
noncomputable def laws_szArgDefS_0 (l0 : List (List Pd)) (n1 : Int) : Option Res := pt E0 F_laws_szArgDefS [] ⟨tl ud [(0, .p (.sl 2 l0)), (1, .p (.int .i64 (n1)))] 0 27, tl .none [] 0 27, []⟩
noncomputable def laws_szArgDefS_1 (l0 : List (List Pd)) (n1 : Int) (n2 : Int) : Option Res := pt E0 F_laws_szArgDefS [1, 1, 1, 0, 1, 0, 2] ⟨tl ud [(0, .p (.sl 2 l0)), (1, .p (.int .i64 (n1))), (5, .p (.int .i64 (n2)))] 0 27, tl .none [] 0 27, []⟩
theorem laws_szArgDefS_0_ev (l0 : List (List Pd)) (n1 : Int) : ev E0 F_laws_szArgDefS [.p (.sl 2 l0), .p (.int .i64 (n1))] [] = laws_szArgDefS_0 l0 n1 := (ev_eq _ _ _ _).trans (by kernel_rfl)
theorem laws_szArgDefS_0_eq (l0 : List (List Pd)) (n1 : Int) : laws_szArgDefS_0 l0 n1 =
    bif decide ((IntKind.i64.wrap (n1 - (l0.length : Int)) : Int) < 0) then (some ([.p (.int .i64 (-1))], [])) else (laws_szArgDefS_1 l0 (IntKind.i64.wrap (n1 - (l0.length : Int))) 0) := by kernel_rfl
theorem laws_szArgDefS_1_eq (l0 : List (List Pd)) (n1 : Int) (n2 : Int) : laws_szArgDefS_1 l0 n1 n2 =
    bif decide ((n2 : Int) < (l0.length : Int)) then (if 0 ≤ (n2 : Int) ∧ (n2 : Int) < (l0.length : Int) then ((ev E0 F_laws_szArgDef [.p (.agg 2 (l0.getD (n2 : Int).toNat [])), .p (.int .i64 (n1))] []).bind fun r104 => (asInt .i64 (pAt 0 r104.1)).bind fun n105 => if r104.1.length = 1 then (bif decide ((n105 : Int) < 0) then (some ([.p (.int .i64 (-1))], [])) else (laws_szArgDefS_1 l0 n105 (IntKind.i64.wrap (n2 + 1)))) else none) else none) else (some ([.p (.int .i64 (n1))], [])) := (pt_loop E0 F_laws_szArgDefS [1, 1, 1, 0, 1, 0] _ (by kernel_rfl)).trans (by kernel_rfl)

/-! laws.szArgS -/
noncomputable def laws_szArgS_0 (l0 : List (List Pd)) (n1 : Int) : Option Res := pt E0 F_laws_szArgS [] ⟨tl ud [(0, .p (.sl 4 l0)), (1, .p (.int .i64 (n1)))] 0 27, tl .none [] 0 27, []⟩
noncomputable def laws_szArgS_1 (l0 : List (List Pd)) (n1 : Int) (n2 : Int) : Option Res := pt E0 F_laws_szArgS [1, 1, 1, 0, 1, 0, 2] ⟨tl ud [(0, .p (.sl 4 l0)), (1, .p (.int .i64 (n1))), (5, .p (.int .i64 (n2)))] 0 27, tl .none [] 0 27, []⟩
theorem laws_szArgS_0_ev (l0 : List (List Pd)) (n1 : Int) : ev E0 F_laws_szArgS [.p (.sl 4 l0), .p (.int .i64 (n1))] [] = laws_szArgS_0 l0 n1 := (ev_eq _ _ _ _).trans (by kernel_rfl)
theorem laws_szArgS_0_eq (l0 : List (List Pd)) (n1 : Int) : laws_szArgS_0 l0 n1 =
    bif decide ((IntKind.i64.wrap (n1 - (l0.length : Int)) : Int) < 0) then (some ([.p (.int .i64 (-1))], [])) else (laws_szArgS_1 l0 (IntKind.i64.wrap (n1 - (l0.length : Int))) 0) := by kernel_rfl
theorem laws_szArgS_1_eq (l0 : List (List Pd)) (n1 : Int) (n2 : Int) : laws_szArgS_1 l0 n1 n2 =
    bif decide ((n2 : Int) < (l0.length : Int)) then (if 0 ≤ (n2 : Int) ∧ (n2 : Int) < (l0.length : Int) then ((ev E0 F_laws_szArg [.p (.agg 4 (l0.getD (n2 : Int).toNat [])), .p (.int .i64 (n1))] []).bind fun r104 => (asInt .i64 (pAt 0 r104.1)).bind fun n105 => if r104.1.length = 1 then (bif decide ((n105 : Int) < 0) then (some ([.p (.int .i64 (-1))], [])) else (laws_szArgS_1 l0 n105 (IntKind.i64.wrap (n2 + 1)))) else none) else none) else (some ([.p (.int .i64 (n1))], [])) := (pt_loop E0 F_laws_szArgS [1, 1, 1, 0, 1, 0] _ (by kernel_rfl)).trans (by kernel_rfl)

/-! laws.szDirS -/
noncomputable def laws_szDirS_0 (l0 : List (List Pd)) (n1 : Int) : Option Res := pt E0 F_laws_szDirS [] ⟨tl ud [(0, .p (.sl 4 l0)), (1, .p (.int .i64 (n1)))] 0 27, tl .none [] 0 27, []⟩
noncomputable def laws_szDirS_1 (l0 : List (List Pd)) (n1 : Int) (n2 : Int) : Option Res := pt E0 F_laws_szDirS [1, 1, 1, 0, 1, 0, 2] ⟨tl ud [(0, .p (.sl 4 l0)), (1, .p (.int .i64 (n1))), (5, .p (.int .i64 (n2)))] 0 27, tl .none [] 0 27, []⟩
theorem laws_szDirS_0_ev (l0 : List (List Pd)) (n1 : Int) : ev E0 F_laws_szDirS [.p (.sl 4 l0), .p (.int .i64 (n1))] [] = laws_szDirS_0 l0 n1 := (ev_eq _ _ _ _).trans (by kernel_rfl)
theorem laws_szDirS_0_eq (l0 : List (List Pd)) (n1 : Int) : laws_szDirS_0 l0 n1 =
    bif decide ((IntKind.i64.wrap (n1 - (l0.length : Int)) : Int) < 0) then (some ([.p (.int .i64 (-1))], [])) else (laws_szDirS_1 l0 (IntKind.i64.wrap (n1 - (l0.length : Int))) 0) := by kernel_rfl
theorem laws_szDirS_1_eq (l0 : List (List Pd)) (n1 : Int) (n2 : Int) : laws_szDirS_1 l0 n1 n2 =
    bif decide ((n2 : Int) < (l0.length : Int)) then (if 0 ≤ (n2 : Int) ∧ (n2 : Int) < (l0.length : Int) then ((ev E0 F_laws_szDir [.p (.agg 4 (l0.getD (n2 : Int).toNat [])), .p (.int .i64 (n1))] []).bind fun r104 => (asInt .i64 (pAt 0 r104.1)).bind fun n105 => if r104.1.length = 1 then (bif decide ((n105 : Int) < 0) then (some ([.p (.int .i64 (-1))], [])) else (laws_szDirS_1 l0 n105 (IntKind.i64.wrap (n2 + 1)))) else none) else none) else (some ([.p (.int .i64 (n1))], [])) := (pt_loop E0 F_laws_szDirS [1, 1, 1, 0, 1, 0] _ (by kernel_rfl)).trans (by kernel_rfl)

/-! spec.IsInt -/
noncomputable def spec_IsInt_0 (n0 : Int) : Option Res := pt E0 F_spec_IsInt [] ⟨tl ud [(0, .p (.int .i64 (n0)))] 0 5, tl .none [] 0 5, []⟩
theorem spec_IsInt_0_ev (n0 : Int) : ev E0 F_spec_IsInt [.p (.int .i64 (n0))] [] = spec_IsInt_0 n0 := (ev_eq _ _ _ _).trans (by kernel_rfl)
theorem spec_IsInt_0_eq (n0 : Int) : spec_IsInt_0 n0 =
    (ev E0 F_spec_l01In [.p (.int .i64 (n0)), .p (.int .i64 (-2147483648)), .p (.int .i64 (2147483647))] []).bind fun r102 => (asBool (pAt 0 r102.1)).bind fun b103 => if r102.1.length = 1 then (some ([.p (.bool (b103))], [])) else none := by kernel_rfl

/-! laws.toArgDefS -/
noncomputable def laws_toArgDefS_0 (l0 : List (List Pd)) : Option Res := pt E0 F_laws_toArgDefS [] ⟨tl ud [(0, .p (.sl 2 l0))] 0 23, tl .none [] 0 23, []⟩
noncomputable def laws_toArgDefS_1 (l0 : List (List Pd)) (n1 : Int) (e2 : List (List Pd)) : Option Res := pt E0 F_laws_toArgDefS [1, 1, 0, 1, 0, 2] ⟨tl ud [(0, .p (.sl 2 l0)), (3, .arr (.loc 7)), (4, .p (.int .i64 (n1)))] 0 23, tl .none [(7, .arr 71 2 24 false e2)] 0 23, []⟩
theorem laws_toArgDefS_0_ev (l0 : List (List Pd)) : ev E0 F_laws_toArgDefS [.p (.sl 2 l0)] [] = laws_toArgDefS_0 l0 := (ev_eq _ _ _ _).trans (by kernel_rfl)
theorem laws_toArgDefS_0_eq (l0 : List (List Pd)) : laws_toArgDefS_0 l0 =
    if 0 ≤ ((l0.length : Int) : Int) ∧ ((l0.length : Int) : Int) ≤ (l0.length : Int) ∧ ((l0.length : Int) : Int).toNat * 24 ≤ LIM ∧ 24 ≠ 0 then (laws_toArgDefS_1 l0 0 (List.replicate ((l0.length : Int) : Int).toNat [.str (⟨#[]⟩ : ByteArray), .bool (false)])) else none := by kernel_rfl
theorem laws_toArgDefS_1_eq (l0 : List (List Pd)) (n1 : Int) (e2 : List (List Pd)) : laws_toArgDefS_1 l0 n1 e2 =
    bif decide ((n1 : Int) < (l0.length : Int)) then (if 0 ≤ (n1 : Int) ∧ (n1 : Int) < (l0.length : Int) then ((ev E0 F_laws_toArgDef [.p (.agg 2 (l0.getD (n1 : Int).toNat []))] []).bind fun r104 => (asAgg 2 (pAt 0 r104.1)).bind fun c105 => if r104.1.length = 1 then (if 0 ≤ (n1 : Int) ∧ (n1 : Int) < (e2.length : Int) then (if 2 = 2 ∧ ((n1 : Int).toNat) < e2.length then (if 0 + 2 ≤ 2 then (laws_toArgDefS_1 l0 (IntKind.i64.wrap (n1 + 1)) (setEl e2 ((n1 : Int).toNat) 2 0 2 (.agg 2 c105))) else none) else none) else none) else none) else none) else (some ([.p (.sl 2 e2)], [])) := (pt_loop E0 F_laws_toArgDefS [1, 1, 0, 1, 0] _ (by kernel_rfl)).trans (by kernel_rfl)

/-! laws.toArgS -/
noncomputable def laws_toArgS_0 (l0 : List (List Pd)) : Option Res := pt E0 F_laws_toArgS [] ⟨tl ud [(0, .p (.sl 4 l0))] 0 23, tl .none [] 0 23, []⟩
noncomputable def laws_toArgS_1 (l0 : List (List Pd)) (n1 : Int) (e2 : List (List Pd)) : Option Res := pt E0 F_laws_toArgS [1, 1, 0, 1, 0, 2] ⟨tl ud [(0, .p (.sl 4 l0)), (3, .arr (.loc 7)), (4, .p (.int .i64 (n1)))] 0 23, tl .none [(7, .arr 127 4 48 false e2)] 0 23, []⟩
theorem laws_toArgS_0_ev (l0 : List (List Pd)) : ev E0 F_laws_toArgS [.p (.sl 4 l0)] [] = laws_toArgS_0 l0 := (ev_eq _ _ _ _).trans (by kernel_rfl)
theorem laws_toArgS_0_eq (l0 : List (List Pd)) : laws_toArgS_0 l0 =
    if 0 ≤ ((l0.length : Int) : Int) ∧ ((l0.length : Int) : Int) ≤ (l0.length : Int) ∧ ((l0.length : Int) : Int).toNat * 48 ≤ LIM ∧ 48 ≠ 0 then (laws_toArgS_1 l0 0 (List.replicate ((l0.length : Int) : Int).toNat [.str (⟨#[]⟩ : ByteArray), .int .i64 (0), .int .i64 (0), .str (⟨#[]⟩ : ByteArray)])) else none := by kernel_rfl
theorem laws_toArgS_1_eq (l0 : List (List Pd)) (n1 : Int) (e2 : List (List Pd)) : laws_toArgS_1 l0 n1 e2 =
    bif decide ((n1 : Int) < (l0.length : Int)) then (if 0 ≤ (n1 : Int) ∧ (n1 : Int) < (l0.length : Int) then ((ev E0 F_laws_toArg [.p (.agg 4 (l0.getD (n1 : Int).toNat []))] []).bind fun r104 => (asAgg 4 (pAt 0 r104.1)).bind fun c105 => if r104.1.length = 1 then (if 0 ≤ (n1 : Int) ∧ (n1 : Int) < (e2.length : Int) then (if 4 = 4 ∧ ((n1 : Int).toNat) < e2.length then (if 0 + 4 ≤ 4 then (laws_toArgS_1 l0 (IntKind.i64.wrap (n1 + 1)) (setEl e2 ((n1 : Int).toNat) 4 0 4 (.agg 4 c105))) else none) else none) else none) else none) else none) else (some ([.p (.sl 4 e2)], [])) := (pt_loop E0 F_laws_toArgS [1, 1, 0, 1, 0] _ (by kernel_rfl)).trans (by kernel_rfl)

/-! laws.toDirS -/
noncomputable def laws_toDirS_0 (l0 : List (List Pd)) : Option Res := pt E0 F_laws_toDirS [] ⟨tl ud [(0, .p (.sl 4 l0))] 0 23, tl .none [] 0 23, []⟩
noncomputable def laws_toDirS_1 (l0 : List (List Pd)) (n1 : Int) (e2 : List (List Pd)) : Option Res := pt E0 F_laws_toDirS [1, 1, 0, 1, 0, 2] ⟨tl ud [(0, .p (.sl 4 l0)), (3, .arr (.loc 7)), (4, .p (.int .i64 (n1)))] 0 23, tl .none [(7, .arr 125 4 40 false e2)] 0 23, []⟩
theorem laws_toDirS_0_ev (l0 : List (List Pd)) : ev E0 F_laws_toDirS [.p (.sl 4 l0)] [] = laws_toDirS_0 l0 := (ev_eq _ _ _ _).trans (by kernel_rfl)
theorem laws_toDirS_0_eq (l0 : List (List Pd)) : laws_toDirS_0 l0 =
    if 0 ≤ ((l0.length : Int) : Int) ∧ ((l0.length : Int) : Int) ≤ (l0.length : Int) ∧ ((l0.length : Int) : Int).toNat * 40 ≤ LIM ∧ 40 ≠ 0 then (laws_toDirS_1 l0 0 (List.replicate ((l0.length : Int) : Int).toNat [.bool (false), .int .i64 (0), .int .i64 (0), .str (⟨#[]⟩ : ByteArray)])) else none := by kernel_rfl
theorem laws_toDirS_1_eq (l0 : List (List Pd)) (n1 : Int) (e2 : List (List Pd)) : laws_toDirS_1 l0 n1 e2 =
    bif decide ((n1 : Int) < (l0.length : Int)) then (if 0 ≤ (n1 : Int) ∧ (n1 : Int) < (l0.length : Int) then ((ev E0 F_laws_toDir [.p (.agg 4 (l0.getD (n1 : Int).toNat []))] []).bind fun r104 => (asAgg 4 (pAt 0 r104.1)).bind fun c105 => if r104.1.length = 1 then (if 0 ≤ (n1 : Int) ∧ (n1 : Int) < (e2.length : Int) then (if 4 = 4 ∧ ((n1 : Int).toNat) < e2.length then (if 0 + 4 ≤ 4 then (laws_toDirS_1 l0 (IntKind.i64.wrap (n1 + 1)) (setEl e2 ((n1 : Int).toNat) 4 0 4 (.agg 4 c105))) else none) else none) else none) else none) else none) else (some ([.p (.sl 4 e2)], [])) := (pt_loop E0 F_laws_toDirS [1, 1, 0, 1, 0] _ (by kernel_rfl)).trans (by kernel_rfl)

/-! impl.IsInt -/
noncomputable def impl_IsInt_0 (n0 : Int) : Option Res := pt E0 F_impl_IsInt [] ⟨tl ud [(0, .p (.int .i64 (n0)))] 0 5, tl .none [] 0 5, []⟩
theorem impl_IsInt_0_ev (n0 : Int) : ev E0 F_impl_IsInt [.p (.int .i64 (n0))] [] = impl_IsInt_0 n0 := (ev_eq _ _ _ _).trans (by kernel_rfl)
theorem impl_IsInt_0_eq (n0 : Int) : impl_IsInt_0 n0 =
    (ev E0 F_impl_within [.p (.int .i64 (n0)), .p (.int .i64 (-2147483648)), .p (.int .i64 (2147483647))] []).bind fun r102 => (asBool (pAt 0 r102.1)).bind fun b103 => if r102.1.length = 1 then (some ([.p (.bool (b103))], [])) else none := by kernel_rfl

/-! slices.IndexFunc[[]impl.Arg,impl.Arg] -/
noncomputable def slices_IndexFunc_impl_Arg_impl_Arg_0 (l0 : List (List Pd)) : Option Res := pt E0 F_slices_IndexFunc_impl_Arg_impl_Arg [] ⟨tl ud [(0, .p (.sl 4 l0)), (1, .p (.fn F_impl_Sel_isRight_1))] 0 19, tl .none [] 0 19, []⟩
noncomputable def slices_IndexFunc_impl_Arg_impl_Arg_1 (l0 : List (List Pd)) (c1 : List Pd) : Option Res := pt E0 F_slices_IndexFunc_impl_Arg_impl_Arg [] ⟨tl ud [(0, .p (.sl 4 l0)), (1, .fn F_impl_argsCode_1 [.ptr (.out 0) 0])] 0 19, tl .none [] 0 19, [.box 4 c1]⟩
noncomputable def slices_IndexFunc_impl_Arg_impl_Arg_2 (l0 : List (List Pd)) (c1 : List Pd) : Option Res := pt E0 F_slices_IndexFunc_impl_Arg_impl_Arg [] ⟨tl ud [(0, .p (.sl 4 l0)), (1, .fn F_impl_argsCode_2 [.ptr (.out 0) 0])] 0 19, tl .none [] 0 19, [.box 2 c1]⟩
noncomputable def slices_IndexFunc_impl_Arg_impl_Arg_3 (l0 : List (List Pd)) (n1 : Int) (n2 : Int) : Option Res := pt E0 F_slices_IndexFunc_impl_Arg_impl_Arg [1, 0, 1, 0, 2] ⟨tl ud [(0, .p (.sl 4 l0)), (1, .p (.fn F_impl_Sel_isRight_1)), (7, .p (.int .i64 (n1))), (8, .p (.int .i64 (n2)))] 0 19, tl .none [] 0 19, []⟩
noncomputable def slices_IndexFunc_impl_Arg_impl_Arg_4 (l0 : List (List Pd)) (n1 : Int) (n2 : Int) (c3 : List Pd) : Option Res := pt E0 F_slices_IndexFunc_impl_Arg_impl_Arg [1, 0, 1, 0, 2] ⟨tl ud [(0, .p (.sl 4 l0)), (1, .fn F_impl_argsCode_1 [.ptr (.out 0) 0]), (7, .p (.int .i64 (n1))), (8, .p (.int .i64 (n2)))] 0 19, tl .none [] 0 19, [.box 4 c3]⟩
noncomputable def slices_IndexFunc_impl_Arg_impl_Arg_5 (l0 : List (List Pd)) (n1 : Int) (n2 : Int) (c3 : List Pd) : Option Res := pt E0 F_slices_IndexFunc_impl_Arg_impl_Arg [1, 0, 1, 0, 2] ⟨tl ud [(0, .p (.sl 4 l0)), (1, .fn F_impl_argsCode_2 [.ptr (.out 0) 0]), (7, .p (.int .i64 (n1))), (8, .p (.int .i64 (n2)))] 0 19, tl .none [] 0 19, [.box 2 c3]⟩
theorem slices_IndexFunc_impl_Arg_impl_Arg_0_ev (l0 : List (List Pd)) : ev E0 F_slices_IndexFunc_impl_Arg_impl_Arg [.p (.sl 4 l0), .p (.fn F_impl_Sel_isRight_1)] [] = slices_IndexFunc_impl_Arg_impl_Arg_0 l0 := (ev_eq _ _ _ _).trans (by kernel_rfl)
theorem slices_IndexFunc_impl_Arg_impl_Arg_0_eq (l0 : List (List Pd)) : slices_IndexFunc_impl_Arg_impl_Arg_0 l0 =
    slices_IndexFunc_impl_Arg_impl_Arg_3 l0 (l0.length : Int) 0 := by kernel_rfl
theorem slices_IndexFunc_impl_Arg_impl_Arg_1_ev (l0 : List (List Pd)) (c1 : List Pd) : ev E0 F_slices_IndexFunc_impl_Arg_impl_Arg [.p (.sl 4 l0), .fn F_impl_argsCode_1 [.ptr (.out 0) 0]] [.box 4 c1] = slices_IndexFunc_impl_Arg_impl_Arg_1 l0 c1 := (ev_eq _ _ _ _).trans (by kernel_rfl)
theorem slices_IndexFunc_impl_Arg_impl_Arg_1_eq (l0 : List (List Pd)) (c1 : List Pd) : slices_IndexFunc_impl_Arg_impl_Arg_1 l0 c1 =
    slices_IndexFunc_impl_Arg_impl_Arg_4 l0 (l0.length : Int) 0 c1 := by kernel_rfl
theorem slices_IndexFunc_impl_Arg_impl_Arg_2_ev (l0 : List (List Pd)) (c1 : List Pd) : ev E0 F_slices_IndexFunc_impl_Arg_impl_Arg [.p (.sl 4 l0), .fn F_impl_argsCode_2 [.ptr (.out 0) 0]] [.box 2 c1] = slices_IndexFunc_impl_Arg_impl_Arg_2 l0 c1 := (ev_eq _ _ _ _).trans (by kernel_rfl)
theorem slices_IndexFunc_impl_Arg_impl_Arg_2_eq (l0 : List (List Pd)) (c1 : List Pd) : slices_IndexFunc_impl_Arg_impl_Arg_2 l0 c1 =
    slices_IndexFunc_impl_Arg_impl_Arg_5 l0 (l0.length : Int) 0 c1 := by kernel_rfl
theorem slices_IndexFunc_impl_Arg_impl_Arg_3_eq (l0 : List (List Pd)) (n1 : Int) (n2 : Int) : slices_IndexFunc_impl_Arg_impl_Arg_3 l0 n1 n2 =
    bif decide ((n2 : Int) < n1) then (if 0 ≤ (n2 : Int) ∧ (n2 : Int) < (l0.length : Int) then ((ev E0 F_impl_Sel_isRight_1 [.p (.agg 4 (l0.getD (n2 : Int).toNat []))] []).bind fun r104 => (asBool (pAt 0 r104.1)).bind fun b105 => if r104.1.length = 1 then (bif b105 then (some ([.p (.int .i64 (n2))], [])) else (slices_IndexFunc_impl_Arg_impl_Arg_3 l0 n1 (IntKind.i64.wrap (n2 + 1)))) else none) else none) else (some ([.p (.int .i64 (-1))], [])) := (pt_loop E0 F_slices_IndexFunc_impl_Arg_impl_Arg [1, 0, 1, 0] _ (by kernel_rfl)).trans (by kernel_rfl)
theorem slices_IndexFunc_impl_Arg_impl_Arg_4_eq (l0 : List (List Pd)) (n1 : Int) (n2 : Int) (c3 : List Pd) : slices_IndexFunc_impl_Arg_impl_Arg_4 l0 n1 n2 c3 =
    bif decide ((n2 : Int) < n1) then (if 0 ≤ (n2 : Int) ∧ (n2 : Int) < (l0.length : Int) then ((ev E0 F_impl_argsCode_1 [.p (.agg 4 (l0.getD (n2 : Int).toNat [])), .ptr (.out 0) 0] [.box 4 c3]).bind fun r105 => (asBool (pAt 0 r105.1)).bind fun b106 => if r105.1.length = 1 then ((asBox 4 (r105.2.getD 0 .none)).bind fun c107 => if r105.2.length = 1 then (bif b106 then (some ([.p (.int .i64 (n2))], [.box 4 c107])) else (slices_IndexFunc_impl_Arg_impl_Arg_4 l0 n1 (IntKind.i64.wrap (n2 + 1)) c107)) else none) else none) else none) else (some ([.p (.int .i64 (-1))], [.box 4 c3])) := (pt_loop E0 F_slices_IndexFunc_impl_Arg_impl_Arg [1, 0, 1, 0] _ (by kernel_rfl)).trans (by kernel_rfl)
theorem slices_IndexFunc_impl_Arg_impl_Arg_5_eq (l0 : List (List Pd)) (n1 : Int) (n2 : Int) (c3 : List Pd) : slices_IndexFunc_impl_Arg_impl_Arg_5 l0 n1 n2 c3 =
    bif decide ((n2 : Int) < n1) then (if 0 ≤ (n2 : Int) ∧ (n2 : Int) < (l0.length : Int) then ((ev E0 F_impl_argsCode_2 [.p (.agg 4 (l0.getD (n2 : Int).toNat [])), .ptr (.out 0) 0] [.box 2 c3]).bind fun r105 => (asBool (pAt 0 r105.1)).bind fun b106 => if r105.1.length = 1 then ((asBox 2 (r105.2.getD 0 .none)).bind fun c107 => if r105.2.length = 1 then (bif b106 then (some ([.p (.int .i64 (n2))], [.box 2 c107])) else (slices_IndexFunc_impl_Arg_impl_Arg_5 l0 n1 (IntKind.i64.wrap (n2 + 1)) c107)) else none) else none) else none) else (some ([.p (.int .i64 (-1))], [.box 2 c3])) := (pt_loop E0 F_slices_IndexFunc_impl_Arg_impl_Arg [1, 0, 1, 0] _ (by kernel_rfl)).trans (by kernel_rfl)

/-! slices.IndexFunc[[]impl.Dir,impl.Dir] -/
noncomputable def slices_IndexFunc_impl_Dir_impl_Dir_0 (l0 : List (List Pd)) : Option Res := pt E0 F_slices_IndexFunc_impl_Dir_impl_Dir [] ⟨tl ud [(0, .p (.sl 4 l0)), (1, .p (.fn F_impl_Sel_isRight_2))] 0 19, tl .none [] 0 19, []⟩
noncomputable def slices_IndexFunc_impl_Dir_impl_Dir_1 (l0 : List (List Pd)) : Option Res := pt E0 F_slices_IndexFunc_impl_Dir_impl_Dir [] ⟨tl ud [(0, .p (.sl 4 l0)), (1, .p (.fn F_impl_checker_sel_1))] 0 19, tl .none [] 0 19, []⟩
noncomputable def slices_IndexFunc_impl_Dir_impl_Dir_2 (l0 : List (List Pd)) (n1 : Int) (n2 : Int) : Option Res := pt E0 F_slices_IndexFunc_impl_Dir_impl_Dir [1, 0, 1, 0, 2] ⟨tl ud [(0, .p (.sl 4 l0)), (1, .p (.fn F_impl_Sel_isRight_2)), (7, .p (.int .i64 (n1))), (8, .p (.int .i64 (n2)))] 0 19, tl .none [] 0 19, []⟩
noncomputable def slices_IndexFunc_impl_Dir_impl_Dir_3 (l0 : List (List Pd)) (n1 : Int) (n2 : Int) : Option Res := pt E0 F_slices_IndexFunc_impl_Dir_impl_Dir [1, 0, 1, 0, 2] ⟨tl ud [(0, .p (.sl 4 l0)), (1, .p (.fn F_impl_checker_sel_1)), (7, .p (.int .i64 (n1))), (8, .p (.int .i64 (n2)))] 0 19, tl .none [] 0 19, []⟩
theorem slices_IndexFunc_impl_Dir_impl_Dir_0_ev (l0 : List (List Pd)) : ev E0 F_slices_IndexFunc_impl_Dir_impl_Dir [.p (.sl 4 l0), .p (.fn F_impl_Sel_isRight_2)] [] = slices_IndexFunc_impl_Dir_impl_Dir_0 l0 := (ev_eq _ _ _ _).trans (by kernel_rfl)
theorem slices_IndexFunc_impl_Dir_impl_Dir_0_eq (l0 : List (List Pd)) : slices_IndexFunc_impl_Dir_impl_Dir_0 l0 =
    slices_IndexFunc_impl_Dir_impl_Dir_2 l0 (l0.length : Int) 0 := by kernel_rfl
theorem slices_IndexFunc_impl_Dir_impl_Dir_1_ev (l0 : List (List Pd)) : ev E0 F_slices_IndexFunc_impl_Dir_impl_Dir [.p (.sl 4 l0), .p (.fn F_impl_checker_sel_1)] [] = slices_IndexFunc_impl_Dir_impl_Dir_1 l0 := (ev_eq _ _ _ _).trans (by kernel_rfl)
theorem slices_IndexFunc_impl_Dir_impl_Dir_1_eq (l0 : List (List Pd)) : slices_IndexFunc_impl_Dir_impl_Dir_1 l0 =
    slices_IndexFunc_impl_Dir_impl_Dir_3 l0 (l0.length : Int) 0 := by kernel_rfl
theorem slices_IndexFunc_impl_Dir_impl_Dir_2_eq (l0 : List (List Pd)) (n1 : Int) (n2 : Int) : slices_IndexFunc_impl_Dir_impl_Dir_2 l0 n1 n2 =
    bif decide ((n2 : Int) < n1) then (if 0 ≤ (n2 : Int) ∧ (n2 : Int) < (l0.length : Int) then ((ev E0 F_impl_Sel_isRight_2 [.p (.agg 4 (l0.getD (n2 : Int).toNat []))] []).bind fun r104 => (asBool (pAt 0 r104.1)).bind fun b105 => if r104.1.length = 1 then (bif b105 then (some ([.p (.int .i64 (n2))], [])) else (slices_IndexFunc_impl_Dir_impl_Dir_2 l0 n1 (IntKind.i64.wrap (n2 + 1)))) else none) else none) else (some ([.p (.int .i64 (-1))], [])) := (pt_loop E0 F_slices_IndexFunc_impl_Dir_impl_Dir [1, 0, 1, 0] _ (by kernel_rfl)).trans (by kernel_rfl)
theorem slices_IndexFunc_impl_Dir_impl_Dir_3_eq (l0 : List (List Pd)) (n1 : Int) (n2 : Int) : slices_IndexFunc_impl_Dir_impl_Dir_3 l0 n1 n2 =
    bif decide ((n2 : Int) < n1) then (if 0 ≤ (n2 : Int) ∧ (n2 : Int) < (l0.length : Int) then ((ev E0 F_impl_checker_sel_1 [.p (.agg 4 (l0.getD (n2 : Int).toNat []))] []).bind fun r104 => (asBool (pAt 0 r104.1)).bind fun b105 => if r104.1.length = 1 then (bif b105 then (some ([.p (.int .i64 (n2))], [])) else (slices_IndexFunc_impl_Dir_impl_Dir_3 l0 n1 (IntKind.i64.wrap (n2 + 1)))) else none) else none) else (some ([.p (.int .i64 (-1))], [])) := (pt_loop E0 F_slices_IndexFunc_impl_Dir_impl_Dir [1, 0, 1, 0] _ (by kernel_rfl)).trans (by kernel_rfl)

/-! slices.IndexFunc[[]impl.Def,impl.Def] -/
noncomputable def slices_IndexFunc_impl_Def_impl_Def_0 (l0 : List (List Pd)) (s1 : ByteArray) : Option Res := pt E0 F_slices_IndexFunc_impl_Def_impl_Def [] ⟨tl ud [(0, .p (.sl 4 l0)), (1, .fn F_impl_Doc_fragment_1 [.ptr (.out 0) 0])] 0 19, tl .none [] 0 19, [.box 1 [.str s1]]⟩
noncomputable def slices_IndexFunc_impl_Def_impl_Def_1 (l0 : List (List Pd)) (n1 : Int) (n2 : Int) (s3 : ByteArray) : Option Res := pt E0 F_slices_IndexFunc_impl_Def_impl_Def [1, 0, 1, 0, 2] ⟨tl ud [(0, .p (.sl 4 l0)), (1, .fn F_impl_Doc_fragment_1 [.ptr (.out 0) 0]), (7, .p (.int .i64 (n1))), (8, .p (.int .i64 (n2)))] 0 19, tl .none [] 0 19, [.box 1 [.str s3]]⟩
noncomputable def slices_IndexFunc_impl_Def_impl_Def_2 (l0 : List (List Pd)) (n1 : Int) (n2 : Int) (c3 : List Pd) : Option Res := pt E0 F_slices_IndexFunc_impl_Def_impl_Def [1, 0, 1, 0, 2] ⟨tl ud [(0, .p (.sl 4 l0)), (1, .fn F_impl_Doc_fragment_1 [.ptr (.out 0) 0]), (7, .p (.int .i64 (n1))), (8, .p (.int .i64 (n2)))] 0 19, tl .none [] 0 19, [.box 1 c3]⟩
theorem slices_IndexFunc_impl_Def_impl_Def_0_ev (l0 : List (List Pd)) (s1 : ByteArray) : ev E0 F_slices_IndexFunc_impl_Def_impl_Def [.p (.sl 4 l0), .fn F_impl_Doc_fragment_1 [.ptr (.out 0) 0]] [.box 1 [.str s1]] = slices_IndexFunc_impl_Def_impl_Def_0 l0 s1 := (ev_eq _ _ _ _).trans (by kernel_rfl)
theorem slices_IndexFunc_impl_Def_impl_Def_0_eq (l0 : List (List Pd)) (s1 : ByteArray) : slices_IndexFunc_impl_Def_impl_Def_0 l0 s1 =
    slices_IndexFunc_impl_Def_impl_Def_1 l0 (l0.length : Int) 0 s1 := by kernel_rfl
theorem slices_IndexFunc_impl_Def_impl_Def_1_eq (l0 : List (List Pd)) (n1 : Int) (n2 : Int) (s3 : ByteArray) : slices_IndexFunc_impl_Def_impl_Def_1 l0 n1 n2 s3 =
    bif decide ((n2 : Int) < n1) then (if 0 ≤ (n2 : Int) ∧ (n2 : Int) < (l0.length : Int) then ((ev E0 F_impl_Doc_fragment_1 [.p (.agg 4 (l0.getD (n2 : Int).toNat [])), .ptr (.out 0) 0] [.box 1 [.str s3]]).bind fun r105 => (asBool (pAt 0 r105.1)).bind fun b106 => if r105.1.length = 1 then ((asBox 1 (r105.2.getD 0 .none)).bind fun c107 => if r105.2.length = 1 then (bif b106 then (some ([.p (.int .i64 (n2))], [.box 1 c107])) else (slices_IndexFunc_impl_Def_impl_Def_2 l0 n1 (IntKind.i64.wrap (n2 + 1)) c107)) else none) else none) else none) else (some ([.p (.int .i64 (-1))], [.box 1 [.str s3]])) := (pt_loop E0 F_slices_IndexFunc_impl_Def_impl_Def [1, 0, 1, 0] _ (by kernel_rfl)).trans (by kernel_rfl)
theorem slices_IndexFunc_impl_Def_impl_Def_2_eq (l0 : List (List Pd)) (n1 : Int) (n2 : Int) (c3 : List Pd) : slices_IndexFunc_impl_Def_impl_Def_2 l0 n1 n2 c3 =
    bif decide ((n2 : Int) < n1) then (if 0 ≤ (n2 : Int) ∧ (n2 : Int) < (l0.length : Int) then ((ev E0 F_impl_Doc_fragment_1 [.p (.agg 4 (l0.getD (n2 : Int).toNat [])), .ptr (.out 0) 0] [.box 1 c3]).bind fun r105 => (asBool (pAt 0 r105.1)).bind fun b106 => if r105.1.length = 1 then ((asBox 1 (r105.2.getD 0 .none)).bind fun c107 => if r105.2.length = 1 then (bif b106 then (some ([.p (.int .i64 (n2))], [.box 1 c107])) else (slices_IndexFunc_impl_Def_impl_Def_2 l0 n1 (IntKind.i64.wrap (n2 + 1)) c107)) else none) else none) else none) else (some ([.p (.int .i64 (-1))], [.box 1 c3])) := (pt_loop E0 F_slices_IndexFunc_impl_Def_impl_Def [1, 0, 1, 0] _ (by kernel_rfl)).trans (by kernel_rfl)

/-! (impl.Doc).fragment$1 -/
noncomputable def impl_Doc_fragment_1_0 (c0 : List Pd) (s1 : ByteArray) : Option Res := pt E0 F_impl_Doc_fragment_1 [] ⟨tl ud [(0, .p (.agg 4 c0)), (1, .ptr (.out 0) 0)] 0 13, tl .none [] 0 13, [.box 1 [.str s1]]⟩
noncomputable def impl_Doc_fragment_1_1 (c0 : List Pd) (c1 : List Pd) : Option Res := pt E0 F_impl_Doc_fragment_1 [] ⟨tl ud [(0, .p (.agg 4 c0)), (1, .ptr (.out 0) 0)] 0 13, tl .none [] 0 13, [.box 1 c1]⟩
theorem impl_Doc_fragment_1_0_ev (c0 : List Pd) (s1 : ByteArray) : ev E0 F_impl_Doc_fragment_1 [.p (.agg 4 c0), .ptr (.out 0) 0] [.box 1 [.str s1]] = impl_Doc_fragment_1_0 c0 s1 := (ev_eq _ _ _ _).trans (by kernel_rfl)
theorem impl_Doc_fragment_1_0_eq (c0 : List Pd) (s1 : ByteArray) : impl_Doc_fragment_1_0 c0 s1 =
    (asInt .i64 (c0.getD 0 .undef)).bind fun n103 => bif (n103 : Int) == 3 then ((asStr (c0.getD 1 .undef)).bind fun s104 => some ([.p (.bool (decide (s104 = s1)))], [.box 1 [.str s1]])) else (some ([.p (.bool (false))], [.box 1 [.str s1]])) := by kernel_rfl
theorem impl_Doc_fragment_1_1_ev (c0 : List Pd) (c1 : List Pd) : ev E0 F_impl_Doc_fragment_1 [.p (.agg 4 c0), .ptr (.out 0) 0] [.box 1 c1] = impl_Doc_fragment_1_1 c0 c1 := (ev_eq _ _ _ _).trans (by kernel_rfl)
theorem impl_Doc_fragment_1_1_eq (c0 : List Pd) (c1 : List Pd) : impl_Doc_fragment_1_1 c0 c1 =
    (asInt .i64 (c0.getD 0 .undef)).bind fun n103 => bif (n103 : Int) == 3 then ((asStr (c0.getD 1 .undef)).bind fun s104 => (asStr (c1.getD 0 .undef)).bind fun s105 => some ([.p (.bool (decide (s104 = s105)))], [.box 1 c1])) else (some ([.p (.bool (false))], [.box 1 c1])) := by kernel_rfl

/-! impl.argsCode -/
noncomputable def impl_argsCode_0 (s0 : ByteArray) (l1 : List (List Pd)) (s2 : ByteArray) (b3 : Bool) (b4 : Bool) (l5 : List (List Pd)) : Option Res := pt E0 F_impl_argsCode [] ⟨tl ud [(0, .p (.agg 5 [.str s0, .sl 2 l1, .str s2, .bool (b3), .bool (b4)])), (1, .p (.sl 4 l5))] 0 69, tl .none [] 0 69, []⟩
noncomputable def impl_argsCode_1 (l0 : List (List Pd)) (l1 : List (List Pd)) (n2 : Int) (n3 : Int) (s4 : ByteArray) (l5 : List (List Pd)) (s6 : ByteArray) (b7 : Bool) (b8 : Bool) : Option Res := pt E0 F_impl_argsCode [1, 0, 1, 0, 2] ⟨tl ud [(1, .p (.sl 4 l0)), (2, .ptr (.loc 2) 0), (11, .p (.sl 4 l1)), (12, .p (.int .i64 (n2))), (13, .p (.int .i64 (n3)))] 0 69, tl .none [(2, .box 5 [.str s4, .sl 2 l5, .str s6, .bool (b7), .bool (b8)])] 0 69, []⟩
noncomputable def impl_argsCode_2 (l0 : List (List Pd)) (l1 : List (List Pd)) (n2 : Int) (n3 : Int) (b4 : Bool) (s5 : ByteArray) (l6 : List (List Pd)) (s7 : ByteArray) (b8 : Bool) (b9 : Bool) : Option Res := pt E0 F_impl_argsCode [1, 0, 1, 0, 0, 1, 1, 0, 0, 1, 1, 1, 1] ⟨tl ud [(1, .p (.sl 4 l0)), (2, .ptr (.loc 2) 0), (11, .p (.sl 4 l1)), (12, .p (.int .i64 (n2))), (13, .p (.int .i64 (n3))), (51, .p (.bool (b4)))] 0 69, tl .none [(2, .box 5 [.str s5, .sl 2 l6, .str s7, .bool (b8), .bool (b9)])] 0 69, []⟩
noncomputable def impl_argsCode_3 (l0 : List (List Pd)) (l1 : List (List Pd)) (n2 : Int) (n3 : Int) : Option Res := pt E0 F_impl_argsCode [1, 1, 0, 1, 0, 2] ⟨tl ud [(1, .p (.sl 4 l0)), (54, .p (.sl 2 l1)), (55, .p (.int .i64 (n2))), (56, .p (.int .i64 (n3)))] 0 69, tl .none [] 0 69, []⟩
noncomputable def impl_argsCode_4 (l0 : List (List Pd)) (l1 : List (List Pd)) (n2 : Int) (n3 : Int) (b4 : Bool) : Option Res := pt E0 F_impl_argsCode [1, 1, 0, 1, 0, 0, 1, 1, 0, 0, 1, 1] ⟨tl ud [(1, .p (.sl 4 l0)), (54, .p (.sl 2 l1)), (55, .p (.int .i64 (n2))), (56, .p (.int .i64 (n3))), (67, .p (.bool (b4)))] 0 69, tl .none [] 0 69, []⟩
theorem impl_argsCode_0_ev (s0 : ByteArray) (l1 : List (List Pd)) (s2 : ByteArray) (b3 : Bool) (b4 : Bool) (l5 : List (List Pd)) : ev E0 F_impl_argsCode [.p (.agg 5 [.str s0, .sl 2 l1, .str s2, .bool (b3), .bool (b4)]), .p (.sl 4 l5)] [] = impl_argsCode_0 s0 l1 s2 b3 b4 l5 := (ev_eq _ _ _ _).trans (by kernel_rfl)
theorem impl_argsCode_0_eq (s0 : ByteArray) (l1 : List (List Pd)) (s2 : ByteArray) (b3 : Bool) (b4 : Bool) (l5 : List (List Pd)) : impl_argsCode_0 s0 l1 s2 b3 b4 l5 =
    impl_argsCode_1 l5 l5 (l5.length : Int) 0 s0 l1 s2 b3 b4 := by kernel_rfl
theorem impl_argsCode_1_eq (l0 : List (List Pd)) (l1 : List (List Pd)) (n2 : Int) (n3 : Int) (s4 : ByteArray) (l5 : List (List Pd)) (s6 : ByteArray) (b7 : Bool) (b8 : Bool) : impl_argsCode_1 l0 l1 n2 n3 s4 l5 s6 b7 b8 =
    bif decide ((n3 : Int) < n2) then (if 0 ≤ (n3 : Int) ∧ (n3 : Int) < (l1.length : Int) then ((asStr (((l1.getD (n3 : Int).toNat []).getD 0 .undef))).bind fun s110 => (ev E0 F_impl_FieldDef_argAt [.p (.agg 5 [.str s4, .sl 2 l5, .str s6, .bool (b7), .bool (b8)]), .p (.str s110)] []).bind fun r111 => (asInt .i64 (pAt 0 r111.1)).bind fun n112 => if r111.1.length = 1 then (if 0 ≤ (0 : Int) ∧ (0 : Int) ≤ n3 ∧ (n3 : Int) ≤ (l0.length : Int) then ((ev E0 F_slices_ContainsFunc_impl_Arg_impl_Arg [.p (.sl 4 ((l0.drop (0 : Int).toNat).take ((n3 : Int).toNat - (0 : Int).toNat))), .fn F_impl_argsCode_1 [.ptr (.out 0) 0]] [.box 4 (l1.getD (n3 : Int).toNat [])]).bind fun r113 => (asBool (pAt 0 r113.1)).bind fun b114 => if r113.1.length = 1 then ((asBox 4 (r113.2.getD 0 .none)).bind fun c115 => if r113.2.length = 1 then (bif decide ((n112 : Int) < 0) then (impl_argsCode_2 l0 l1 n2 n3 true s4 l5 s6 b7 b8) else ((asInt .i64 (c115.getD 1 .undef)).bind fun n116 => bif (n116 : Int) == 2 then (impl_argsCode_2 l0 l1 n2 n3 true s4 l5 s6 b7 b8) else ((asInt .i64 (c115.getD 1 .undef)).bind fun n117 => bif (n117 : Int) == 3 then (if 0 ≤ (n112 : Int) ∧ (n112 : Int) < (l5.length : Int) then ((asBool ((((l5.getD (n112 : Int).toNat []).drop 1).getD 0 .undef))).bind fun b118 => bif b118 then (impl_argsCode_2 l0 l1 n2 n3 true s4 l5 s6 b7 b8) else (impl_argsCode_2 l0 l1 n2 n3 b114 s4 l5 s6 b7 b8)) else none) else (impl_argsCode_2 l0 l1 n2 n3 b114 s4 l5 s6 b7 b8)))) else none) else none) else none) else none) else none) else (impl_argsCode_3 l0 l5 (l5.length : Int) 0) := (pt_loop E0 F_impl_argsCode [1, 0, 1, 0] _ (by kernel_rfl)).trans (by kernel_rfl)
theorem impl_argsCode_2_eq (l0 : List (List Pd)) (l1 : List (List Pd)) (n2 : Int) (n3 : Int) (b4 : Bool) (s5 : ByteArray) (l6 : List (List Pd)) (s7 : ByteArray) (b8 : Bool) (b9 : Bool) : impl_argsCode_2 l0 l1 n2 n3 b4 s5 l6 s7 b8 b9 =
    bif b4 then (some ([.p (.int .i64 (10))], [])) else (impl_argsCode_1 l0 l1 n2 (IntKind.i64.wrap (n3 + 1)) s5 l6 s7 b8 b9) := by kernel_rfl
theorem impl_argsCode_3_eq (l0 : List (List Pd)) (l1 : List (List Pd)) (n2 : Int) (n3 : Int) : impl_argsCode_3 l0 l1 n2 n3 =
    bif decide ((n3 : Int) < n2) then (if 0 ≤ (n3 : Int) ∧ (n3 : Int) < (l1.length : Int) then ((asBool (((l1.getD (n3 : Int).toNat []).getD 1 .undef))).bind fun b105 => bif b105 then ((ev E0 F_slices_ContainsFunc_impl_Arg_impl_Arg [.p (.sl 4 l0), .fn F_impl_argsCode_2 [.ptr (.out 0) 0]] [.box 2 (l1.getD (n3 : Int).toNat [])]).bind fun r106 => (asBool (pAt 0 r106.1)).bind fun b107 => if r106.1.length = 1 then ((asBox 2 (r106.2.getD 0 .none)).bind fun c108 => if r106.2.length = 1 then (impl_argsCode_4 l0 l1 n2 n3 (!(b107))) else none) else none) else (impl_argsCode_4 l0 l1 n2 n3 false)) else none) else (some ([.p (.int .i64 (0))], [])) := (pt_loop E0 F_impl_argsCode [1, 1, 0, 1, 0] _ (by kernel_rfl)).trans (by kernel_rfl)
theorem impl_argsCode_4_eq (l0 : List (List Pd)) (l1 : List (List Pd)) (n2 : Int) (n3 : Int) (b4 : Bool) : impl_argsCode_4 l0 l1 n2 n3 b4 =
    bif b4 then (some ([.p (.int .i64 (10))], [])) else (impl_argsCode_3 l0 l1 n2 (IntKind.i64.wrap (n3 + 1))) := by kernel_rfl

/-! laws.eqArgDefS -/
noncomputable def laws_eqArgDefS_0 (l0 : List (List Pd)) (l1 : List (List Pd)) : Option Res := pt E0 F_laws_eqArgDefS [] ⟨tl ud [(0, .p (.sl 2 l0)), (1, .p (.sl 2 l1))] 0 27, tl .none [] 0 27, []⟩
noncomputable def laws_eqArgDefS_1 (l0 : List (List Pd)) (l1 : List (List Pd)) (n2 : Int) : Option Res := pt E0 F_laws_eqArgDefS [1, 1, 0, 1, 0, 2] ⟨tl ud [(0, .p (.sl 2 l0)), (1, .p (.sl 2 l1)), (5, .p (.int .i64 (n2)))] 0 27, tl .none [] 0 27, []⟩
theorem laws_eqArgDefS_0_ev (l0 : List (List Pd)) (l1 : List (List Pd)) : ev E0 F_laws_eqArgDefS [.p (.sl 2 l0), .p (.sl 2 l1)] [] = laws_eqArgDefS_0 l0 l1 := (ev_eq _ _ _ _).trans (by kernel_rfl)
theorem laws_eqArgDefS_0_eq (l0 : List (List Pd)) (l1 : List (List Pd)) : laws_eqArgDefS_0 l0 l1 =
    bif ((l0.length : Int) : Int) != (l1.length : Int) then (some ([.p (.bool (false))], [])) else (laws_eqArgDefS_1 l0 l1 0) := by kernel_rfl
theorem laws_eqArgDefS_1_eq (l0 : List (List Pd)) (l1 : List (List Pd)) (n2 : Int) : laws_eqArgDefS_1 l0 l1 n2 =
    bif decide ((n2 : Int) < (l0.length : Int)) then (if 0 ≤ (n2 : Int) ∧ (n2 : Int) < (l0.length : Int) then (if 0 ≤ (n2 : Int) ∧ (n2 : Int) < (l1.length : Int) then ((ev E0 F_laws_eqArgDef [.p (.agg 2 (l0.getD (n2 : Int).toNat [])), .p (.agg 2 (l1.getD (n2 : Int).toNat []))] []).bind fun r104 => (asBool (pAt 0 r104.1)).bind fun b105 => if r104.1.length = 1 then (bif !(b105) then (some ([.p (.bool (false))], [])) else (laws_eqArgDefS_1 l0 l1 (IntKind.i64.wrap (n2 + 1)))) else none) else none) else none) else (some ([.p (.bool (true))], [])) := (pt_loop E0 F_laws_eqArgDefS [1, 1, 0, 1, 0] _ (by kernel_rfl)).trans (by kernel_rfl)

/-! laws.eqArgS -/
noncomputable def laws_eqArgS_0 (l0 : List (List Pd)) (l1 : List (List Pd)) : Option Res := pt E0 F_laws_eqArgS [] ⟨tl ud [(0, .p (.sl 4 l0)), (1, .p (.sl 4 l1))] 0 27, tl .none [] 0 27, []⟩
noncomputable def laws_eqArgS_1 (l0 : List (List Pd)) (l1 : List (List Pd)) (n2 : Int) : Option Res := pt E0 F_laws_eqArgS [1, 1, 0, 1, 0, 2] ⟨tl ud [(0, .p (.sl 4 l0)), (1, .p (.sl 4 l1)), (5, .p (.int .i64 (n2)))] 0 27, tl .none [] 0 27, []⟩
theorem laws_eqArgS_0_ev (l0 : List (List Pd)) (l1 : List (List Pd)) : ev E0 F_laws_eqArgS [.p (.sl 4 l0), .p (.sl 4 l1)] [] = laws_eqArgS_0 l0 l1 := (ev_eq _ _ _ _).trans (by kernel_rfl)
theorem laws_eqArgS_0_eq (l0 : List (List Pd)) (l1 : List (List Pd)) : laws_eqArgS_0 l0 l1 =
    bif ((l0.length : Int) : Int) != (l1.length : Int) then (some ([.p (.bool (false))], [])) else (laws_eqArgS_1 l0 l1 0) := by kernel_rfl
theorem laws_eqArgS_1_eq (l0 : List (List Pd)) (l1 : List (List Pd)) (n2 : Int) : laws_eqArgS_1 l0 l1 n2 =
    bif decide ((n2 : Int) < (l0.length : Int)) then (if 0 ≤ (n2 : Int) ∧ (n2 : Int) < (l0.length : Int) then (if 0 ≤ (n2 : Int) ∧ (n2 : Int) < (l1.length : Int) then ((ev E0 F_laws_eqArg [.p (.agg 4 (l0.getD (n2 : Int).toNat [])), .p (.agg 4 (l1.getD (n2 : Int).toNat []))] []).bind fun r104 => (asBool (pAt 0 r104.1)).bind fun b105 => if r104.1.length = 1 then (bif !(b105) then (some ([.p (.bool (false))], [])) else (laws_eqArgS_1 l0 l1 (IntKind.i64.wrap (n2 + 1)))) else none) else none) else none) else (some ([.p (.bool (true))], [])) := (pt_loop E0 F_laws_eqArgS [1, 1, 0, 1, 0] _ (by kernel_rfl)).trans (by kernel_rfl)

/-! laws.eqDirS -/
noncomputable def laws_eqDirS_0 (l0 : List (List Pd)) (l1 : List (List Pd)) : Option Res := pt E0 F_laws_eqDirS [] ⟨tl ud [(0, .p (.sl 4 l0)), (1, .p (.sl 4 l1))] 0 27, tl .none [] 0 27, []⟩
noncomputable def laws_eqDirS_1 (l0 : List (List Pd)) (l1 : List (List Pd)) (n2 : Int) : Option Res := pt E0 F_laws_eqDirS [1, 1, 0, 1, 0, 2] ⟨tl ud [(0, .p (.sl 4 l0)), (1, .p (.sl 4 l1)), (5, .p (.int .i64 (n2)))] 0 27, tl .none [] 0 27, []⟩
theorem laws_eqDirS_0_ev (l0 : List (List Pd)) (l1 : List (List Pd)) : ev E0 F_laws_eqDirS [.p (.sl 4 l0), .p (.sl 4 l1)] [] = laws_eqDirS_0 l0 l1 := (ev_eq _ _ _ _).trans (by kernel_rfl)
theorem laws_eqDirS_0_eq (l0 : List (List Pd)) (l1 : List (List Pd)) : laws_eqDirS_0 l0 l1 =
    bif ((l0.length : Int) : Int) != (l1.length : Int) then (some ([.p (.bool (false))], [])) else (laws_eqDirS_1 l0 l1 0) := by kernel_rfl
theorem laws_eqDirS_1_eq (l0 : List (List Pd)) (l1 : List (List Pd)) (n2 : Int) : laws_eqDirS_1 l0 l1 n2 =
    bif decide ((n2 : Int) < (l0.length : Int)) then (if 0 ≤ (n2 : Int) ∧ (n2 : Int) < (l0.length : Int) then (if 0 ≤ (n2 : Int) ∧ (n2 : Int) < (l1.length : Int) then ((ev E0 F_laws_eqDir [.p (.agg 4 (l0.getD (n2 : Int).toNat [])), .p (.agg 4 (l1.getD (n2 : Int).toNat []))] []).bind fun r104 => (asBool (pAt 0 r104.1)).bind fun b105 => if r104.1.length = 1 then (bif !(b105) then (some ([.p (.bool (false))], [])) else (laws_eqDirS_1 l0 l1 (IntKind.i64.wrap (n2 + 1)))) else none) else none) else none) else (some ([.p (.bool (true))], [])) := (pt_loop E0 F_laws_eqDirS [1, 1, 0, 1, 0] _ (by kernel_rfl)).trans (by kernel_rfl)

/-! laws.szArgDef -/
noncomputable def laws_szArgDef_0 (s0 : ByteArray) (b1 : Bool) (n2 : Int) : Option Res := pt E0 F_laws_szArgDef [] ⟨tl ud [(0, .p (.agg 2 [.str s0, .bool (b1)])), (1, .p (.int .i64 (n2)))] 0 13, tl .none [] 0 13, []⟩
theorem laws_szArgDef_0_ev (s0 : ByteArray) (b1 : Bool) (n2 : Int) : ev E0 F_laws_szArgDef [.p (.agg 2 [.str s0, .bool (b1)]), .p (.int .i64 (n2))] [] = laws_szArgDef_0 s0 b1 n2 := (ev_eq _ _ _ _).trans (by kernel_rfl)
theorem laws_szArgDef_0_eq (s0 : ByteArray) (b1 : Bool) (n2 : Int) : laws_szArgDef_0 s0 b1 n2 =
    bif decide ((IntKind.i64.wrap (n2 - (s0.size : Int)) : Int) < 0) then (some ([.p (.int .i64 (-1))], [])) else (some ([.p (.int .i64 (IntKind.i64.wrap (n2 - (s0.size : Int))))], [])) := by kernel_rfl

/-! laws.szArg -/
noncomputable def laws_szArg_0 (s0 : ByteArray) (n1 : Int) (n2 : Int) (s3 : ByteArray) (n4 : Int) : Option Res := pt E0 F_laws_szArg [] ⟨tl ud [(0, .p (.agg 4 [.str s0, .int .i64 (n1), .int .i64 (n2), .str s3])), (1, .p (.int .i64 (n4)))] 0 19, tl .none [] 0 19, []⟩
theorem laws_szArg_0_ev (s0 : ByteArray) (n1 : Int) (n2 : Int) (s3 : ByteArray) (n4 : Int) : ev E0 F_laws_szArg [.p (.agg 4 [.str s0, .int .i64 (n1), .int .i64 (n2), .str s3]), .p (.int .i64 (n4))] [] = laws_szArg_0 s0 n1 n2 s3 n4 := (ev_eq _ _ _ _).trans (by kernel_rfl)
theorem laws_szArg_0_eq (s0 : ByteArray) (n1 : Int) (n2 : Int) (s3 : ByteArray) (n4 : Int) : laws_szArg_0 s0 n1 n2 s3 n4 =
    bif decide ((IntKind.i64.wrap (n4 - (s0.size : Int)) : Int) < 0) then (some ([.p (.int .i64 (-1))], [])) else ((ev E0 F_laws_szValue [.p (.agg 3 [.int .i64 (n1), .int .i64 (n2), .str s3]), .p (.int .i64 (IntKind.i64.wrap (n4 - (s0.size : Int))))] []).bind fun r106 => (asInt .i64 (pAt 0 r106.1)).bind fun n107 => if r106.1.length = 1 then (bif decide ((n107 : Int) < 0) then (some ([.p (.int .i64 (-1))], [])) else (some ([.p (.int .i64 (n107))], []))) else none) := by kernel_rfl

/-! laws.szDir -/
noncomputable def laws_szDir_0 (b0 : Bool) (n1 : Int) (n2 : Int) (s3 : ByteArray) (n4 : Int) : Option Res := pt E0 F_laws_szDir [] ⟨tl ud [(0, .p (.agg 4 [.bool (b0), .int .i64 (n1), .int .i64 (n2), .str s3])), (1, .p (.int .i64 (n4)))] 0 12, tl .none [] 0 12, []⟩
theorem laws_szDir_0_ev (b0 : Bool) (n1 : Int) (n2 : Int) (s3 : ByteArray) (n4 : Int) : ev E0 F_laws_szDir [.p (.agg 4 [.bool (b0), .int .i64 (n1), .int .i64 (n2), .str s3]), .p (.int .i64 (n4))] [] = laws_szDir_0 b0 n1 n2 s3 n4 := (ev_eq _ _ _ _).trans (by kernel_rfl)
theorem laws_szDir_0_eq (b0 : Bool) (n1 : Int) (n2 : Int) (s3 : ByteArray) (n4 : Int) : laws_szDir_0 b0 n1 n2 s3 n4 =
    (ev E0 F_laws_szValue [.p (.agg 3 [.int .i64 (n1), .int .i64 (n2), .str s3]), .p (.int .i64 (n4))] []).bind fun r106 => (asInt .i64 (pAt 0 r106.1)).bind fun n107 => if r106.1.length = 1 then (bif decide ((n107 : Int) < 0) then (some ([.p (.int .i64 (-1))], [])) else (some ([.p (.int .i64 (n107))], []))) else none := by kernel_rfl

/-! laws.toArgDef -/
noncomputable def laws_toArgDef_0 (s0 : ByteArray) (b1 : Bool) : Option Res := pt E0 F_laws_toArgDef [] ⟨tl ud [(0, .p (.agg 2 [.str s0, .bool (b1)]))] 0 11, tl .none [] 0 11, []⟩
theorem laws_toArgDef_0_ev (s0 : ByteArray) (b1 : Bool) : ev E0 F_laws_toArgDef [.p (.agg 2 [.str s0, .bool (b1)])] [] = laws_toArgDef_0 s0 b1 := (ev_eq _ _ _ _).trans (by kernel_rfl)
theorem laws_toArgDef_0_eq (s0 : ByteArray) (b1 : Bool) : laws_toArgDef_0 s0 b1 =
    some ([.p (.agg 2 [.str s0, .bool (b1)])], []) := by kernel_rfl

/-! laws.toArg -/
noncomputable def laws_toArg_0 (s0 : ByteArray) (n1 : Int) (n2 : Int) (s3 : ByteArray) : Option Res := pt E0 F_laws_toArg [] ⟨tl ud [(0, .p (.agg 4 [.str s0, .int .i64 (n1), .int .i64 (n2), .str s3]))] 0 12, tl .none [] 0 12, []⟩
theorem laws_toArg_0_ev (s0 : ByteArray) (n1 : Int) (n2 : Int) (s3 : ByteArray) : ev E0 F_laws_toArg [.p (.agg 4 [.str s0, .int .i64 (n1), .int .i64 (n2), .str s3])] [] = laws_toArg_0 s0 n1 n2 s3 := (ev_eq _ _ _ _).trans (by kernel_rfl)
theorem laws_toArg_0_eq (s0 : ByteArray) (n1 : Int) (n2 : Int) (s3 : ByteArray) : laws_toArg_0 s0 n1 n2 s3 =
    (ev E0 F_laws_toValue [.p (.agg 3 [.int .i64 (n1), .int .i64 (n2), .str s3])] []).bind fun r105 => (asAgg 3 (pAt 0 r105.1)).bind fun c106 => if r105.1.length = 1 then (some ([.p (.agg 4 [.str s0, (c106.getD 0 .undef), (c106.getD 1 .undef), (c106.getD 2 .undef)])], [])) else none := by kernel_rfl

/-! laws.toDir -/
noncomputable def laws_toDir_0 (b0 : Bool) (n1 : Int) (n2 : Int) (s3 : ByteArray) : Option Res := pt E0 F_laws_toDir [] ⟨tl ud [(0, .p (.agg 4 [.bool (b0), .int .i64 (n1), .int .i64 (n2), .str s3]))] 0 12, tl .none [] 0 12, []⟩
theorem laws_toDir_0_ev (b0 : Bool) (n1 : Int) (n2 : Int) (s3 : ByteArray) : ev E0 F_laws_toDir [.p (.agg 4 [.bool (b0), .int .i64 (n1), .int .i64 (n2), .str s3])] [] = laws_toDir_0 b0 n1 n2 s3 := (ev_eq _ _ _ _).trans (by kernel_rfl)
theorem laws_toDir_0_eq (b0 : Bool) (n1 : Int) (n2 : Int) (s3 : ByteArray) : laws_toDir_0 b0 n1 n2 s3 =
    (ev E0 F_laws_toValue [.p (.agg 3 [.int .i64 (n1), .int .i64 (n2), .str s3])] []).bind fun r105 => (asAgg 3 (pAt 0 r105.1)).bind fun c106 => if r105.1.length = 1 then (some ([.p (.agg 4 [.bool (b0), (c106.getD 0 .undef), (c106.getD 1 .undef), (c106.getD 2 .undef)])], [])) else none := by kernel_rfl

/-! impl.argsCode$1 -/
noncomputable def impl_argsCode_1_0 (c0 : List Pd) (c1 : List Pd) : Option Res := pt E0 F_impl_argsCode_1 [] ⟨tl ud [(0, .p (.agg 4 c0)), (1, .ptr (.out 0) 0)] 0 9, tl .none [] 0 9, [.box 4 c1]⟩
theorem impl_argsCode_1_0_ev (c0 : List Pd) (c1 : List Pd) : ev E0 F_impl_argsCode_1 [.p (.agg 4 c0), .ptr (.out 0) 0] [.box 4 c1] = impl_argsCode_1_0 c0 c1 := (ev_eq _ _ _ _).trans (by kernel_rfl)
theorem impl_argsCode_1_0_eq (c0 : List Pd) (c1 : List Pd) : impl_argsCode_1_0 c0 c1 =
    (asStr (c0.getD 0 .undef)).bind fun s103 => (asStr (c1.getD 0 .undef)).bind fun s104 => some ([.p (.bool (decide (s103 = s104)))], [.box 4 c1]) := by kernel_rfl

/-! impl.argsCode$2 -/
noncomputable def impl_argsCode_2_0 (c0 : List Pd) (c1 : List Pd) : Option Res := pt E0 F_impl_argsCode_2 [] ⟨tl ud [(0, .p (.agg 4 c0)), (1, .ptr (.out 0) 0)] 0 9, tl .none [] 0 9, [.box 2 c1]⟩
theorem impl_argsCode_2_0_ev (c0 : List Pd) (c1 : List Pd) : ev E0 F_impl_argsCode_2 [.p (.agg 4 c0), .ptr (.out 0) 0] [.box 2 c1] = impl_argsCode_2_0 c0 c1 := (ev_eq _ _ _ _).trans (by kernel_rfl)
theorem impl_argsCode_2_0_eq (c0 : List Pd) (c1 : List Pd) : impl_argsCode_2_0 c0 c1 =
    (asStr (c0.getD 0 .undef)).bind fun s103 => (asStr (c1.getD 0 .undef)).bind fun s104 => some ([.p (.bool (decide (s103 = s104)))], [.box 2 c1]) := by kernel_rfl

/-! laws.eqArgDef -/
noncomputable def laws_eqArgDef_0 (s0 : ByteArray) (b1 : Bool) (s2 : ByteArray) (b3 : Bool) : Option Res := pt E0 F_laws_eqArgDef [] ⟨tl ud [(0, .p (.agg 2 [.str s0, .bool (b1)])), (1, .p (.agg 2 [.str s2, .bool (b3)]))] 0 15, tl .none [] 0 15, []⟩
theorem laws_eqArgDef_0_ev (s0 : ByteArray) (b1 : Bool) (s2 : ByteArray) (b3 : Bool) : ev E0 F_laws_eqArgDef [.p (.agg 2 [.str s0, .bool (b1)]), .p (.agg 2 [.str s2, .bool (b3)])] [] = laws_eqArgDef_0 s0 b1 s2 b3 := (ev_eq _ _ _ _).trans (by kernel_rfl)
theorem laws_eqArgDef_0_eq (s0 : ByteArray) (b1 : Bool) (s2 : ByteArray) (b3 : Bool) : laws_eqArgDef_0 s0 b1 s2 b3 =
    bif !decide (s0 = s2) then (some ([.p (.bool (false))], [])) else (bif !(b1 == b3) then (some ([.p (.bool (false))], [])) else (some ([.p (.bool (true))], []))) := by kernel_rfl

/-! laws.eqArg -/
noncomputable def laws_eqArg_0 (s0 : ByteArray) (n1 : Int) (n2 : Int) (s3 : ByteArray) (s4 : ByteArray) (n5 : Int) (n6 : Int) (s7 : ByteArray) : Option Res := pt E0 F_laws_eqArg [] ⟨tl ud [(0, .p (.agg 4 [.str s0, .int .i64 (n1), .int .i64 (n2), .str s3])), (1, .p (.agg 4 [.str s4, .int .i64 (n5), .int .i64 (n6), .str s7]))] 0 16, tl .none [] 0 16, []⟩
theorem laws_eqArg_0_ev (s0 : ByteArray) (n1 : Int) (n2 : Int) (s3 : ByteArray) (s4 : ByteArray) (n5 : Int) (n6 : Int) (s7 : ByteArray) : ev E0 F_laws_eqArg [.p (.agg 4 [.str s0, .int .i64 (n1), .int .i64 (n2), .str s3]), .p (.agg 4 [.str s4, .int .i64 (n5), .int .i64 (n6), .str s7])] [] = laws_eqArg_0 s0 n1 n2 s3 s4 n5 n6 s7 := (ev_eq _ _ _ _).trans (by kernel_rfl)
theorem laws_eqArg_0_eq (s0 : ByteArray) (n1 : Int) (n2 : Int) (s3 : ByteArray) (s4 : ByteArray) (n5 : Int) (n6 : Int) (s7 : ByteArray) : laws_eqArg_0 s0 n1 n2 s3 s4 n5 n6 s7 =
    bif !decide (s0 = s4) then (some ([.p (.bool (false))], [])) else ((ev E0 F_laws_eqValue [.p (.agg 3 [.int .i64 (n1), .int .i64 (n2), .str s3]), .p (.agg 3 [.int .i64 (n5), .int .i64 (n6), .str s7])] []).bind fun r109 => (asBool (pAt 0 r109.1)).bind fun b110 => if r109.1.length = 1 then (bif !(b110) then (some ([.p (.bool (false))], [])) else (some ([.p (.bool (true))], []))) else none) := by kernel_rfl

/-! laws.eqDir -/
noncomputable def laws_eqDir_0 (b0 : Bool) (n1 : Int) (n2 : Int) (s3 : ByteArray) (b4 : Bool) (n5 : Int) (n6 : Int) (s7 : ByteArray) : Option Res := pt E0 F_laws_eqDir [] ⟨tl ud [(0, .p (.agg 4 [.bool (b0), .int .i64 (n1), .int .i64 (n2), .str s3])), (1, .p (.agg 4 [.bool (b4), .int .i64 (n5), .int .i64 (n6), .str s7]))] 0 16, tl .none [] 0 16, []⟩
theorem laws_eqDir_0_ev (b0 : Bool) (n1 : Int) (n2 : Int) (s3 : ByteArray) (b4 : Bool) (n5 : Int) (n6 : Int) (s7 : ByteArray) : ev E0 F_laws_eqDir [.p (.agg 4 [.bool (b0), .int .i64 (n1), .int .i64 (n2), .str s3]), .p (.agg 4 [.bool (b4), .int .i64 (n5), .int .i64 (n6), .str s7])] [] = laws_eqDir_0 b0 n1 n2 s3 b4 n5 n6 s7 := (ev_eq _ _ _ _).trans (by kernel_rfl)
theorem laws_eqDir_0_eq (b0 : Bool) (n1 : Int) (n2 : Int) (s3 : ByteArray) (b4 : Bool) (n5 : Int) (n6 : Int) (s7 : ByteArray) : laws_eqDir_0 b0 n1 n2 s3 b4 n5 n6 s7 =
    bif !(b0 == b4) then (some ([.p (.bool (false))], [])) else ((ev E0 F_laws_eqValue [.p (.agg 3 [.int .i64 (n1), .int .i64 (n2), .str s3]), .p (.agg 3 [.int .i64 (n5), .int .i64 (n6), .str s7])] []).bind fun r109 => (asBool (pAt 0 r109.1)).bind fun b110 => if r109.1.length = 1 then (bif !(b110) then (some ([.p (.bool (false))], [])) else (some ([.p (.bool (true))], []))) else none) := by kernel_rfl

/-! laws.szValue -/
noncomputable def laws_szValue_0 (n0 : Int) (n1 : Int) (s2 : ByteArray) (n3 : Int) : Option Res := pt E0 F_laws_szValue [] ⟨tl ud [(0, .p (.agg 3 [.int .i64 (n0), .int .i64 (n1), .str s2])), (1, .p (.int .i64 (n3)))] 0 13, tl .none [] 0 13, []⟩
theorem laws_szValue_0_ev (n0 : Int) (n1 : Int) (s2 : ByteArray) (n3 : Int) : ev E0 F_laws_szValue [.p (.agg 3 [.int .i64 (n0), .int .i64 (n1), .str s2]), .p (.int .i64 (n3))] [] = laws_szValue_0 n0 n1 s2 n3 := (ev_eq _ _ _ _).trans (by kernel_rfl)
theorem laws_szValue_0_eq (n0 : Int) (n1 : Int) (s2 : ByteArray) (n3 : Int) : laws_szValue_0 n0 n1 s2 n3 =
    bif decide ((IntKind.i64.wrap (n3 - (s2.size : Int)) : Int) < 0) then (some ([.p (.int .i64 (-1))], [])) else (some ([.p (.int .i64 (IntKind.i64.wrap (n3 - (s2.size : Int))))], [])) := by kernel_rfl

/-! laws.toValue -/
noncomputable def laws_toValue_0 (n0 : Int) (n1 : Int) (s2 : ByteArray) : Option Res := pt E0 F_laws_toValue [] ⟨tl ud [(0, .p (.agg 3 [.int .i64 (n0), .int .i64 (n1), .str s2]))] 0 14, tl .none [] 0 14, []⟩
theorem laws_toValue_0_ev (n0 : Int) (n1 : Int) (s2 : ByteArray) : ev E0 F_laws_toValue [.p (.agg 3 [.int .i64 (n0), .int .i64 (n1), .str s2])] [] = laws_toValue_0 n0 n1 s2 := (ev_eq _ _ _ _).trans (by kernel_rfl)
theorem laws_toValue_0_eq (n0 : Int) (n1 : Int) (s2 : ByteArray) : laws_toValue_0 n0 n1 s2 =
    some ([.p (.agg 3 [.int .i64 (n0), .int .i64 (n1), .str s2])], []) := by kernel_rfl

/-! laws.eqValue -/
noncomputable def laws_eqValue_0 (n0 : Int) (n1 : Int) (s2 : ByteArray) (n3 : Int) (n4 : Int) (s5 : ByteArray) : Option Res := pt E0 F_laws_eqValue [] ⟨tl ud [(0, .p (.agg 3 [.int .i64 (n0), .int .i64 (n1), .str s2])), (1, .p (.agg 3 [.int .i64 (n3), .int .i64 (n4), .str s5]))] 0 20, tl .none [] 0 20, []⟩
theorem laws_eqValue_0_ev (n0 : Int) (n1 : Int) (s2 : ByteArray) (n3 : Int) (n4 : Int) (s5 : ByteArray) : ev E0 F_laws_eqValue [.p (.agg 3 [.int .i64 (n0), .int .i64 (n1), .str s2]), .p (.agg 3 [.int .i64 (n3), .int .i64 (n4), .str s5])] [] = laws_eqValue_0 n0 n1 s2 n3 n4 s5 := (ev_eq _ _ _ _).trans (by kernel_rfl)
theorem laws_eqValue_0_eq (n0 : Int) (n1 : Int) (s2 : ByteArray) (n3 : Int) (n4 : Int) (s5 : ByteArray) : laws_eqValue_0 n0 n1 s2 n3 n4 s5 =
    bif (n0 : Int) != n3 then (some ([.p (.bool (false))], [])) else (bif (n1 : Int) != n4 then (some ([.p (.bool (false))], [])) else (bif !decide (s2 = s5) then (some ([.p (.bool (false))], [])) else (some ([.p (.bool (true))], [])))) := by kernel_rfl

end Go.Proofs.YtlmmimhjfajhdaaGreat.Dm
