/- The library's functions by the kit's contracts: strconv.Itoa, strings.Join, strings.Split; impl.numberOf, which asks strconv.Atoi. -/
import Derived.Test.YtakbdjdafcjglaaGreatDoorDm19
import Derived.Test.YtakbdjdafcjglaaGreatDoorS2
import Derived.Shelf.Strconv.Itoa3
import Derived.Shelf.Strings.OnBuilder
import Derived.Shelf.Strings.Split
import Derived.Shelf.Strings.Prefix
import Derived.Shelf.Strconv.AtoiAll
import Derived.Shelf.Vars
import Derived.Lib.AtoiErrMem
import Derived.WalkKit
import Derived.BigCall
import Derived.BigGuard
namespace Go.Proofs.YtakbdjdafcjglaaGreatDoor.Dm
open Go.Shelf Go.RowKit
set_option linter.unusedVariables false
set_option maxRecDepth 100000
def laysIR : Ren := ⟨fun | 171 => 39 | 243 => 60 | 246 => 76 | 283 => 83 | 284 => 84 | 285 => 85 | 286 => 86 | 129 => 95 | 317 => 94 | 318 => 96 | 319 => 97 | 320 => 98 | 337 => 106 | 338 => 107 | n => n, fun | 3 => 3 | 9 => 9 | 2 => 2 | 4 => 4 | 171 => 88 | 0 => 0 | 53 => 89 | 37 => 22 | 5 => 5 | 173 => 92 | 212 => 100 | 51 => 101 | 20 => 20 | 213 => 102 | 46 => 103 | 232 => 118 | 233 => 119 | n => n, fun | 17 => 0 | 18 => 2 | 19 => 3 | n => n⟩
theorem laysI : LaysM.n171 Tryz.prog laysIR where
  mixed := by kernel_rfl
  f129 := Tryz.func95.trans (congrArg some (by kernel_rfl))
  f171 := Tryz.func39.trans (congrArg some (by kernel_rfl))
  f243 := Tryz.func60.trans (congrArg some (by kernel_rfl))
  f246 := Tryz.func76.trans (congrArg some (by kernel_rfl))
  f283 := Tryz.func83.trans (congrArg some (by kernel_rfl))
  f284 := Tryz.func84.trans (congrArg some (by kernel_rfl))
  f285 := Tryz.func85.trans (congrArg some (by kernel_rfl))
  f286 := Tryz.func86.trans (congrArg some (by kernel_rfl))
  f317 := Tryz.func94.trans (congrArg some (by kernel_rfl))
  f318 := Tryz.func96.trans (congrArg some (by kernel_rfl))
  f319 := Tryz.func97.trans (congrArg some (by kernel_rfl))
  f320 := Tryz.func98.trans (congrArg some (by kernel_rfl))
  f337 := Tryz.func106.trans (congrArg some (by kernel_rfl))
  f338 := Tryz.func107.trans (congrArg some (by kernel_rfl))
  t0 := Tryz.underlying0
  a0 := Tryz.isAgg0
  z0 := Tryz.sizeOf0
  v0 := Tryz.zeroValue0
  t2 := Tryz.underlying2
  a2 := Tryz.isAgg2
  z2 := Tryz.sizeOf2
  v2 := Tryz.zeroValue2
  t3 := Tryz.underlying3
  a3 := Tryz.isAgg3
  z3 := Tryz.sizeOf3
  v3 := Tryz.zeroValue3
  t4 := Tryz.underlying4
  a4 := Tryz.isAgg4
  z4 := Tryz.sizeOf4
  v4 := Tryz.zeroValue4
  t5 := Tryz.underlying5
  a5 := Tryz.isAgg5
  z5 := Tryz.sizeOf5
  v5 := Tryz.zeroValue5
  t9 := Tryz.underlying9
  a9 := Tryz.isAgg9
  z9 := Tryz.sizeOf9
  v9 := Tryz.zeroValue9
  t20 := Tryz.underlying20
  a20 := Tryz.isAgg20
  z20 := Tryz.sizeOf20
  v20 := Tryz.zeroValue20
  t37 := Tryz.underlying22
  a37 := Tryz.isAgg22
  z37 := Tryz.sizeOf22
  v37 := Tryz.zeroValue22
  t46 := Tryz.underlying103
  a46 := Tryz.isAgg103
  z46 := Tryz.sizeOf103
  v46 := Tryz.zeroValue103
  t51 := Tryz.underlying101
  a51 := Tryz.isAgg101
  z51 := Tryz.sizeOf101
  v51 := Tryz.zeroValue101
  t53 := Tryz.underlying89
  a53 := Tryz.isAgg89
  z53 := Tryz.sizeOf89
  v53 := Tryz.zeroValue89
  t171 := Tryz.underlying88
  a171 := Tryz.isAgg88
  z171 := Tryz.sizeOf88
  v171 := Tryz.zeroValue88
  t173 := Tryz.underlying92
  a173 := Tryz.isAgg92
  z173 := Tryz.sizeOf92
  v173 := Tryz.zeroValue92
  t212 := Tryz.underlying100
  a212 := Tryz.isAgg100
  z212 := Tryz.sizeOf100
  v212 := Tryz.zeroValue100
  t213 := Tryz.underlying102
  a213 := Tryz.isAgg102
  z213 := Tryz.sizeOf102
  t232 := Tryz.underlying118
  a232 := Tryz.isAgg118
  z232 := Tryz.sizeOf118
  v232 := Tryz.zeroValue118
  t233 := Tryz.underlying119
  a233 := Tryz.isAgg119
  z233 := Tryz.sizeOf119
  v233 := Tryz.zeroValue119
  g17 := by kernel_rfl
  g18 := by kernel_rfl
  g19 := by kernel_rfl
  i0 := by kernel_rfl
  i2 := by kernel_rfl
  i3 := by kernel_rfl
  i4 := by kernel_rfl
  i5 := by kernel_rfl
  i9 := by kernel_rfl
  i20 := by kernel_rfl
  i37 := by kernel_rfl
  i46 := by kernel_rfl
  i51 := by kernel_rfl
  i53 := by kernel_rfl
  i171 := by kernel_rfl
  i173 := by kernel_rfl
  i212 := by kernel_rfl
  i232 := by kernel_rfl
  i233 := by kernel_rfl
  m17 := by kernel_rfl
  m18 := by kernel_rfl
  m19 := by kernel_rfl
def laysJR : Ren := ⟨fun | 156 => 40 | 165 => 61 | 166 => 62 | 169 => 63 | 240 => 77 | 241 => 78 | 276 => 87 | 277 => 88 | n => n, fun | 31 => 23 | 9 => 9 | 3 => 3 | 4 => 4 | 0 => 0 | 20 => 20 | 72 => 74 | 76 => 78 | 70 => 72 | 37 => 22 | 75 => 77 | 127 => 86 | 164 => 94 | 5 => 5 | 80 => 42 | n => n, fun n => n⟩
theorem laysJ : Lays.n156 Tryz.prog laysJR where
  mixed := by kernel_rfl
  f156 := Tryz.func40.trans (congrArg some (by kernel_rfl))
  f165 := Tryz.func61.trans (congrArg some (by kernel_rfl))
  f166 := Tryz.func62.trans (congrArg some (by kernel_rfl))
  f169 := Tryz.func63.trans (congrArg some (by kernel_rfl))
  f240 := Tryz.func77.trans (congrArg some (by kernel_rfl))
  f241 := Tryz.func78.trans (congrArg some (by kernel_rfl))
  f276 := Tryz.func87.trans (congrArg some (by kernel_rfl))
  f277 := Tryz.func88.trans (congrArg some (by kernel_rfl))
  t0 := Tryz.underlying0
  a0 := Tryz.isAgg0
  z0 := Tryz.sizeOf0
  v0 := Tryz.zeroValue0
  t3 := Tryz.underlying3
  a3 := Tryz.isAgg3
  z3 := Tryz.sizeOf3
  v3 := Tryz.zeroValue3
  t4 := Tryz.underlying4
  a4 := Tryz.isAgg4
  z4 := Tryz.sizeOf4
  v4 := Tryz.zeroValue4
  t9 := Tryz.underlying9
  a9 := Tryz.isAgg9
  z9 := Tryz.sizeOf9
  v9 := Tryz.zeroValue9
  t20 := Tryz.underlying20
  a20 := Tryz.isAgg20
  z20 := Tryz.sizeOf20
  v20 := Tryz.zeroValue20
  t31 := Tryz.underlying23
  a31 := Tryz.isAgg23
  z31 := Tryz.sizeOf23
  v31 := Tryz.zeroValue23
  t37 := Tryz.underlying22
  a37 := Tryz.isAgg22
  z37 := Tryz.sizeOf22
  v37 := Tryz.zeroValue22
  t70 := Tryz.underlying72
  a70 := Tryz.isAgg72
  z70 := Tryz.sizeOf72
  v70 := Tryz.zeroValue72
  t72 := Tryz.underlying74
  a72 := Tryz.isAgg74
  z72 := Tryz.sizeOf74
  v72 := Tryz.zeroValue74
  t75 := Tryz.underlying77
  a75 := Tryz.isAgg77
  z75 := Tryz.sizeOf77
  v75 := Tryz.zeroValue77
  t76 := Tryz.underlying78
  a76 := Tryz.isAgg78
  z76 := Tryz.sizeOf78
  v76 := Tryz.zeroValue78
  t127 := Tryz.underlying86
  a127 := Tryz.isAgg86
  z127 := Tryz.sizeOf86
  v127 := Tryz.zeroValue86
  t164 := Tryz.underlying94
  a164 := Tryz.isAgg94
  z164 := Tryz.sizeOf94
  v164 := Tryz.zeroValue94
def laysSR : Ren := ⟨fun | 146 => 67 | 221 => 79 | 268 => 89 | 138 => 90 | 143 => 91 | 195 => 99 | 197 => 100 | 218 => 101 | 219 => 102 | 260 => 108 | 217 => 109 | 225 => 110 | 224 => 111 | 267 => 112 | 266 => 119 | 314 => 120 | n => n, fun | 9 => 9 | 31 => 23 | 3 => 3 | 4 => 4 | 0 => 0 | 105 => 106 | 21 => 21 | 5 => 5 | 46 => 103 | 119 => 120 | 139 => 123 | 138 => 122 | 146 => 124 | 51 => 101 | n => n, fun | 1 => 1 | 3 => 4 | 4 => 5 | n => n⟩
theorem laysS : Lays.n146 Tryz.prog laysSR where
  mixed := by kernel_rfl
  f138 := Tryz.func90.trans (congrArg some (by kernel_rfl))
  f143 := Tryz.func91.trans (congrArg some (by kernel_rfl))
  f146 := Tryz.func67.trans (congrArg some (by kernel_rfl))
  f195 := Tryz.func99.trans (congrArg some (by kernel_rfl))
  f197 := Tryz.func100.trans (congrArg some (by kernel_rfl))
  f217 := Tryz.func109.trans (congrArg some (by kernel_rfl))
  f218 := Tryz.func101.trans (congrArg some (by kernel_rfl))
  f219 := Tryz.func102.trans (congrArg some (by kernel_rfl))
  f221 := Tryz.func79.trans (congrArg some (by kernel_rfl))
  f224 := Tryz.func111.trans (congrArg some (by kernel_rfl))
  f225 := Tryz.func110.trans (congrArg some (by kernel_rfl))
  f260 := Tryz.func108.trans (congrArg some (by kernel_rfl))
  f266 := Tryz.func119.trans (congrArg some (by kernel_rfl))
  f267 := Tryz.func112.trans (congrArg some (by kernel_rfl))
  f268 := Tryz.func89.trans (congrArg some (by kernel_rfl))
  f314 := Tryz.func120.trans (congrArg some (by kernel_rfl))
  t0 := Tryz.underlying0
  a0 := Tryz.isAgg0
  z0 := Tryz.sizeOf0
  v0 := Tryz.zeroValue0
  t3 := Tryz.underlying3
  a3 := Tryz.isAgg3
  z3 := Tryz.sizeOf3
  v3 := Tryz.zeroValue3
  t4 := Tryz.underlying4
  a4 := Tryz.isAgg4
  z4 := Tryz.sizeOf4
  v4 := Tryz.zeroValue4
  t5 := Tryz.underlying5
  a5 := Tryz.isAgg5
  z5 := Tryz.sizeOf5
  v5 := Tryz.zeroValue5
  t9 := Tryz.underlying9
  a9 := Tryz.isAgg9
  z9 := Tryz.sizeOf9
  v9 := Tryz.zeroValue9
  t21 := Tryz.underlying21
  a21 := Tryz.isAgg21
  z21 := Tryz.sizeOf21
  v21 := Tryz.zeroValue21
  t31 := Tryz.underlying23
  a31 := Tryz.isAgg23
  z31 := Tryz.sizeOf23
  v31 := Tryz.zeroValue23
  t46 := Tryz.underlying103
  a46 := Tryz.isAgg103
  z46 := Tryz.sizeOf103
  v46 := Tryz.zeroValue103
  t51 := Tryz.underlying101
  a51 := Tryz.isAgg101
  z51 := Tryz.sizeOf101
  v51 := Tryz.zeroValue101
  t105 := Tryz.underlying106
  a105 := Tryz.isAgg106
  z105 := Tryz.sizeOf106
  v105 := Tryz.zeroValue106
  t119 := Tryz.underlying120
  a119 := Tryz.isAgg120
  z119 := Tryz.sizeOf120
  t138 := Tryz.underlying122
  a138 := Tryz.isAgg122
  z138 := Tryz.sizeOf122
  v138 := Tryz.zeroValue122
  t139 := Tryz.underlying123
  a139 := Tryz.isAgg123
  z139 := Tryz.sizeOf123
  v139 := Tryz.zeroValue123
  t146 := Tryz.underlying124
  a146 := Tryz.isAgg124
  z146 := Tryz.sizeOf124
  v146 := Tryz.zeroValue124
  g1 := by kernel_rfl
  g3 := by kernel_rfl
  g4 := by kernel_rfl
def laysAR : Ren := ⟨fun | 172 => 92 | 244 => 103 | 245 => 104 | 247 => 113 | 279 => 114 | 280 => 115 | 281 => 116 | 282 => 117 | 287 => 121 | 316 => 122 | 171 => 39 | 205 => 123 | 321 => 124 | 322 => 125 | 243 => 60 | 246 => 76 | 283 => 83 | 284 => 84 | 285 => 85 | 286 => 86 | 129 => 95 | 317 => 94 | 318 => 96 | 319 => 97 | 320 => 98 | 337 => 106 | 338 => 107 | n => n, fun | 9 => 9 | 3 => 3 | 75 => 77 | 76 => 78 | 4 => 4 | 5 => 5 | 167 => 111 | 37 => 22 | 0 => 0 | 85 => 112 | 2 => 2 | 168 => 114 | 53 => 89 | 175 => 126 | 46 => 103 | 210 => 130 | 127 => 86 | 145 => 135 | 143 => 133 | 21 => 21 | 171 => 88 | 173 => 92 | 212 => 100 | 51 => 101 | 20 => 20 | 213 => 102 | 232 => 118 | 233 => 119 | 80 => 42 | n => n, fun | 15 => 6 | 16 => 7 | 17 => 0 | 18 => 2 | 19 => 3 | n => n⟩
theorem laysA : LaysC.n172 Tryz.prog laysAR where
  mixed := by kernel_rfl
  f129 := Tryz.func95.trans (congrArg some (by kernel_rfl))
  f171 := Tryz.func39.trans (congrArg some (by kernel_rfl))
  f172 := Tryz.func92.trans (congrArg some (by kernel_rfl))
  f205 := Tryz.func123.trans (congrArg some (by kernel_rfl))
  f243 := Tryz.func60.trans (congrArg some (by kernel_rfl))
  f244 := Tryz.func103.trans (congrArg some (by kernel_rfl))
  f245 := Tryz.func104.trans (congrArg some (by kernel_rfl))
  f246 := Tryz.func76.trans (congrArg some (by kernel_rfl))
  f247 := Tryz.func113.trans (congrArg some (by kernel_rfl))
  f279 := Tryz.func114.trans (congrArg some (by kernel_rfl))
  f280 := Tryz.func115.trans (congrArg some (by kernel_rfl))
  f281 := Tryz.func116.trans (congrArg some (by kernel_rfl))
  f282 := Tryz.func117.trans (congrArg some (by kernel_rfl))
  f283 := Tryz.func83.trans (congrArg some (by kernel_rfl))
  f284 := Tryz.func84.trans (congrArg some (by kernel_rfl))
  f285 := Tryz.func85.trans (congrArg some (by kernel_rfl))
  f286 := Tryz.func86.trans (congrArg some (by kernel_rfl))
  f287 := Tryz.func121.trans (congrArg some (by kernel_rfl))
  f316 := Tryz.func122.trans (congrArg some (by kernel_rfl))
  f317 := Tryz.func94.trans (congrArg some (by kernel_rfl))
  f318 := Tryz.func96.trans (congrArg some (by kernel_rfl))
  f319 := Tryz.func97.trans (congrArg some (by kernel_rfl))
  f320 := Tryz.func98.trans (congrArg some (by kernel_rfl))
  f321 := Tryz.func124.trans (congrArg some (by kernel_rfl))
  f322 := Tryz.func125.trans (congrArg some (by kernel_rfl))
  f337 := Tryz.func106.trans (congrArg some (by kernel_rfl))
  f338 := Tryz.func107.trans (congrArg some (by kernel_rfl))
  t0 := Tryz.underlying0
  a0 := Tryz.isAgg0
  z0 := Tryz.sizeOf0
  v0 := Tryz.zeroValue0
  t2 := Tryz.underlying2
  a2 := Tryz.isAgg2
  z2 := Tryz.sizeOf2
  v2 := Tryz.zeroValue2
  t3 := Tryz.underlying3
  a3 := Tryz.isAgg3
  z3 := Tryz.sizeOf3
  v3 := Tryz.zeroValue3
  t4 := Tryz.underlying4
  a4 := Tryz.isAgg4
  z4 := Tryz.sizeOf4
  v4 := Tryz.zeroValue4
  t5 := Tryz.underlying5
  a5 := Tryz.isAgg5
  z5 := Tryz.sizeOf5
  v5 := Tryz.zeroValue5
  t9 := Tryz.underlying9
  a9 := Tryz.isAgg9
  z9 := Tryz.sizeOf9
  v9 := Tryz.zeroValue9
  t20 := Tryz.underlying20
  a20 := Tryz.isAgg20
  z20 := Tryz.sizeOf20
  v20 := Tryz.zeroValue20
  t21 := Tryz.underlying21
  a21 := Tryz.isAgg21
  z21 := Tryz.sizeOf21
  v21 := Tryz.zeroValue21
  t37 := Tryz.underlying22
  a37 := Tryz.isAgg22
  z37 := Tryz.sizeOf22
  v37 := Tryz.zeroValue22
  t46 := Tryz.underlying103
  a46 := Tryz.isAgg103
  z46 := Tryz.sizeOf103
  v46 := Tryz.zeroValue103
  t51 := Tryz.underlying101
  a51 := Tryz.isAgg101
  z51 := Tryz.sizeOf101
  v51 := Tryz.zeroValue101
  t53 := Tryz.underlying89
  a53 := Tryz.isAgg89
  z53 := Tryz.sizeOf89
  v53 := Tryz.zeroValue89
  t75 := Tryz.underlying77
  a75 := Tryz.isAgg77
  z75 := Tryz.sizeOf77
  v75 := Tryz.zeroValue77
  t76 := Tryz.underlying78
  a76 := Tryz.isAgg78
  z76 := Tryz.sizeOf78
  v76 := Tryz.zeroValue78
  t85 := Tryz.underlying112
  a85 := Tryz.isAgg112
  z85 := Tryz.sizeOf112
  v85 := Tryz.zeroValue112
  t127 := Tryz.underlying86
  a127 := Tryz.isAgg86
  z127 := Tryz.sizeOf86
  v127 := Tryz.zeroValue86
  t143 := Tryz.underlying133
  a143 := Tryz.isAgg133
  z143 := Tryz.sizeOf133
  v143 := Tryz.zeroValue133
  t145 := Tryz.underlying135
  a145 := Tryz.isAgg135
  z145 := Tryz.sizeOf135
  v145 := Tryz.zeroValue135
  t167 := Tryz.underlying111
  a167 := Tryz.isAgg111
  z167 := Tryz.sizeOf111
  v167 := Tryz.zeroValue111
  t168 := Tryz.underlying114
  a168 := Tryz.isAgg114
  z168 := Tryz.sizeOf114
  v168 := Tryz.zeroValue114
  t171 := Tryz.underlying88
  a171 := Tryz.isAgg88
  z171 := Tryz.sizeOf88
  v171 := Tryz.zeroValue88
  t173 := Tryz.underlying92
  a173 := Tryz.isAgg92
  z173 := Tryz.sizeOf92
  v173 := Tryz.zeroValue92
  t175 := Tryz.underlying126
  a175 := Tryz.isAgg126
  z175 := Tryz.sizeOf126
  v175 := Tryz.zeroValue126
  t210 := Tryz.underlying130
  a210 := Tryz.isAgg130
  z210 := Tryz.sizeOf130
  v210 := Tryz.zeroValue130
  t212 := Tryz.underlying100
  a212 := Tryz.isAgg100
  z212 := Tryz.sizeOf100
  v212 := Tryz.zeroValue100
  t213 := Tryz.underlying102
  a213 := Tryz.isAgg102
  z213 := Tryz.sizeOf102
  t232 := Tryz.underlying118
  a232 := Tryz.isAgg118
  z232 := Tryz.sizeOf118
  v232 := Tryz.zeroValue118
  t233 := Tryz.underlying119
  a233 := Tryz.isAgg119
  z233 := Tryz.sizeOf119
  v233 := Tryz.zeroValue119
  g15 := by kernel_rfl
  g16 := by kernel_rfl
  g17 := by kernel_rfl
  g18 := by kernel_rfl
  g19 := by kernel_rfl
  t80 := Tryz.underlying42
  a80 := Tryz.isAgg42
  z80 := Tryz.sizeOf42
  v80 := Tryz.zeroValue42
  i0 := by kernel_rfl
  i2 := by kernel_rfl
  i3 := by kernel_rfl
  i4 := by kernel_rfl
  i5 := by kernel_rfl
  i9 := by kernel_rfl
  i20 := by kernel_rfl
  i21 := by kernel_rfl
  i37 := by kernel_rfl
  i46 := by kernel_rfl
  i51 := by kernel_rfl
  i53 := by kernel_rfl
  i75 := by kernel_rfl
  i76 := by kernel_rfl
  i80 := by kernel_rfl
  i85 := by kernel_rfl
  i127 := by kernel_rfl
  i143 := by kernel_rfl
  i145 := by kernel_rfl
  i167 := by kernel_rfl
  i168 := by kernel_rfl
  i171 := by kernel_rfl
  i173 := by kernel_rfl
  i175 := by kernel_rfl
  i210 := by kernel_rfl
  i212 := by kernel_rfl
  i232 := by kernel_rfl
  i233 := by kernel_rfl
  m15 := by kernel_rfl
  m16 := by kernel_rfl
  m17 := by kernel_rfl
  m18 := by kernel_rfl
  m19 := by kernel_rfl
  c0 := by kernel_rfl
  c2 := by kernel_rfl
  c3 := by kernel_rfl
  c4 := by kernel_rfl
  c5 := by kernel_rfl
  c9 := by kernel_rfl
  c20 := by kernel_rfl
  c21 := by kernel_rfl
  c37 := by kernel_rfl
  c46 := by kernel_rfl
  c51 := by kernel_rfl
  c53 := by kernel_rfl
  c75 := by kernel_rfl
  c76 := by kernel_rfl
  c80 := by kernel_rfl
  c85 := by kernel_rfl
  c127 := by kernel_rfl
  c143 := by kernel_rfl
  c145 := by kernel_rfl
  c167 := by kernel_rfl
  c168 := by kernel_rfl
  c171 := by kernel_rfl
  c173 := by kernel_rfl
  c175 := by kernel_rfl
  c210 := by kernel_rfl
  c212 := by kernel_rfl
  c213 := by kernel_rfl
  c232 := by kernel_rfl
  c233 := by kernel_rfl
def laysTR : Ren := ⟨fun | 101 => 93 | 208 => 105 | 206 => 118 | n => n, fun | 9 => 9 | 4 => 4 | 3 => 3 | n => n, fun n => n⟩
theorem laysT : Lays.n101 Tryz.prog laysTR where
  mixed := by kernel_rfl
  f101 := Tryz.func93.trans (congrArg some (by kernel_rfl))
  f206 := Tryz.func118.trans (congrArg some (by kernel_rfl))
  f208 := Tryz.func105.trans (congrArg some (by kernel_rfl))
  t3 := Tryz.underlying3
  a3 := Tryz.isAgg3
  z3 := Tryz.sizeOf3
  v3 := Tryz.zeroValue3
  t4 := Tryz.underlying4
  a4 := Tryz.isAgg4
  z4 := Tryz.sizeOf4
  v4 := Tryz.zeroValue4
  t9 := Tryz.underlying9
  a9 := Tryz.isAgg9
  z9 := Tryz.sizeOf9
  v9 := Tryz.zeroValue9
theorem extraJ : Builder.Extra Tryz.prog laysJR where
  sizeBuilder := by kernel_rfl
  liesBuilder := by kernel_rfl
  t5 := Tryz.underlying5
  a5 := Tryz.isAgg5
  z5 := Tryz.sizeOf5
  v5 := Tryz.zeroValue5
  infoByte := by kernel_rfl
  cellsByte := by kernel_rfl
  sizeByte := by kernel_rfl
  neB5 := by decide
/-! ### what of the library's variables is kept -/
def tabG : Nat := laysIR.g 17
def maxG : Nat := laysSR.g 1
def synG : Nat := laysAR.g 15
def ranG : Nat := laysAR.g 16
theorem tabIs_keep {w w' : World} (h : Lib.TabIs Tryz.prog w "internal/strconv.uint64pow10" .u64 Lib.pow10Tab) (hb : w'.heap[tabG]? = w.heap[tabG]?) : Lib.TabIs Tryz.prog w' "internal/strconv.uint64pow10" .u64 Lib.pow10Tab := by
  unfold Lib.TabIs World.var? at h ⊢
  rw [laysI.m17] at h ⊢
  have hb : w'.heap[laysIR.g 17]? = w.heap[laysIR.g 17]? := hb
  simp only [Option.bind_some] at h ⊢
  rw [hb]
  exact h
structure Kept (w : World) : Prop where
  tab : Lib.TabIs Tryz.prog w "internal/strconv.uint64pow10" .u64 Lib.pow10Tab
  max : ∃ m, w.cell? ⟨maxG, 0, none⟩ = some (.int .i64 m)
  syn : ∃ t p, w.cell? ⟨synG, 0, none⟩ = some (.iface t p)
  ran : ∃ t p, w.cell? ⟨ranG, 0, none⟩ = some (.iface t p)
def keptG (b : Nat) : Prop := b = tabG ∨ b = maxG ∨ b = synG ∨ b = ranG
theorem Kept.keep {w w' : World} (h : Kept w) (hb : ∀ b, keptG b → w'.heap[b]? = w.heap[b]?) : Kept w' where
  tab := tabIs_keep h.tab (hb _ (.inl rfl))
  max := by
    obtain ⟨m, hm⟩ := h.max
    exact ⟨m, (cell_heap (hb _ (.inr (.inl rfl)))).trans hm⟩
  syn := by
    obtain ⟨t, p, hm⟩ := h.syn
    exact ⟨t, p, (cell_heap (hb _ (.inr (.inr (.inl rfl))))).trans hm⟩
  ran := by
    obtain ⟨t, p, hm⟩ := h.ran
    exact ⟨t, p, (cell_heap (hb _ (.inr (.inr (.inr rfl))))).trans hm⟩
def tabK : Kp := ⟨keptG, Kept, fun _ _ h _ hb => h.keep hb⟩
theorem tabLt {w : World} (h : Lib.TabIs Tryz.prog w "internal/strconv.uint64pow10" .u64 Lib.pow10Tab) : tabG < w.heap.size := by
  unfold Lib.TabIs World.var? at h
  rw [laysI.m17] at h
  simp only [Option.bind_some] at h
  rcases Nat.lt_or_ge tabG w.heap.size with q | q
  · exact q
  · exfalso
    have : w.heap[laysIR.g 17]? = none := Array.getElem?_eq_none q
    rw [this] at h
    cases h
theorem Kept.lt {w : World} (h : Kept w) : ∀ b, keptG b → b < w.heap.size := by
  rintro b (rfl | rfl | rfl | rfl)
  · exact tabLt h.tab
  · obtain ⟨m, hm⟩ := h.max; exact Lib.lt_of_cell hm
  · obtain ⟨t, p, hm⟩ := h.syn; exact Lib.lt_of_cell hm
  · obtain ⟨t, p, hm⟩ := h.ran; exact Lib.lt_of_cell hm
theorem Kept.below {w w' : World} (h : Kept w) (hb : Below w.heap.size w w') : Kept w' := h.keep fun b q => hb.block b (h.lt b q)
/-! ### impl.numberOf -/
theorem toList_inj {a b : ByteArray} (h : a.toList = b.toList) : a = b := by
  rw [ByteArray.toList_eq, ByteArray.toList_eq] at h
  cases a; cases b
  congr 1
  exact Array.toList_inj.1 h
def numV (s : ByteArray) : Value := match numO s with | some n => .tuple #[.int .i64 n, .bool true] | none => .tuple #[.int .i64 0, .bool false]
theorem numberOf_ok (s : ByteArray) (hs : s.size ≤ 1000000000) (w : World) (hK : Kept w) (n : Int) (h : Lib.atoiAll s.data.toList = .ok n) (v : Value)
    (hv : (if Lib.itoa n = s.data.toList ∧ (Lib.trimPrefix s.data.toList [45]).length ≤ 18 then Value.tuple #[.int .i64 n, .bool true] else .tuple #[.int .i64 0, .bool false]) = v) :
    Calls Tryz.prog 80 #[.string s] w fun e w' => e = .returned v ∧ Below w.heap.size w w' := by
  obtain ⟨b0, b1⟩ := Lib.atoiAll_bounds h
  have hA := Any.strconv_Atoi_ok laysA s (by omega) n h
  clear h
  have hI : ∀ w1 : World, Kept w1 → Calls Tryz.prog 39 #[.int .i64 n] w1 fun e w' => e = .returned (.string ⟨(Lib.itoa n).toArray⟩) ∧ Below w1.heap.size w1 w' := by
    intro w1 hK1
    refine (Any.strconv_Itoa laysI n b0 b1 w1 hK1.tab).mono ?_
    rintro e w' ⟨rfl, k, os, rfl⟩
    refine ⟨rfl, rfl, rfl, rfl, ?_, fun b hb => ?_⟩
    · show w1.heap.size ≤ (w1.heap ++ os).size
      simp
    · show (w1.heap ++ os)[b]? = w1.heap[b]?
      exact Array.getElem?_append_left hb
  have hT := fun w2 : World => Any.strings_TrimPrefix laysT s ⟨#[45]⟩ w2
  obtain ⟨t, ht⟩ : ∃ t : ByteArray, t = ⟨(Lib.itoa n).toArray⟩ := ⟨_, rfl⟩
  obtain ⟨u, hu⟩ : ∃ u : ByteArray, u = ⟨(Lib.trimPrefix s.data.toList ((⟨#[45]⟩ : ByteArray).data.toList)).toArray⟩ := ⟨_, rfl⟩
  rw [← hu] at hT
  rw [← ht] at hI
  have hus : u.size = (Lib.trimPrefix s.data.toList [45]).length := by rw [hu]; show (Lib.trimPrefix s.data.toList [45]).toArray.size = _; simp
  have hsz : u.size ≤ 1000000000 := by
    rw [hus]
    unfold Lib.trimPrefix
    have := Lib.size_eq s
    split
    · rw [List.length_drop]; omega
    · omega
  rw [← hus] at hv
  have hq : t = s ↔ Lib.itoa n = s.data.toList := ⟨fun q => by rw [← q, ht], fun q => by rw [ht, q]⟩
  have hv1 : t = s ∧ u.size ≤ 18 → Value.tuple #[.int .i64 n, .bool true] = v := fun q => by rw [← hv, if_pos ⟨hq.1 q.1, q.2⟩]
  have hv2 : ¬ (t = s ∧ u.size ≤ 18) → Value.tuple #[.int .i64 0, .bool false] = v := fun q => by rw [← hv, if_neg (fun r => q ⟨hq.2 r.1, r.2⟩)]
  clear hus hu ht hq hv
  by_cases hq : t = s
  · subst hq
    by_cases h18 : u.size ≤ 18
    · obtain rfl := hv1 ⟨rfl, h18⟩
      clear hv1 hv2
      go_enter Tryz.func80, Tryz.ntmps80
      go_wp2_with (go_at_call 92; refine (hA _).mono ?_; rintro e w1 ⟨rfl, hw⟩)
      have hb1 : Below w.heap.size w w1 := by
        rcases hw with rfl | ⟨t, rfl⟩
        · exact Below.refl _ _
        · exact Lib.bytesWorld_below _ _ _
      clear hw
      refine (hI _ (hK.below hb1)).mono ?_
      rintro e w2 ⟨rfl, hb2⟩
      go_wp2_with (go_at_call 93; refine (hT _).mono ?_; rintro e w3 ⟨rfl, rfl⟩)
      go_wp2
      go_ret2
      exact ⟨rfl, hb1.trans (hb2.mono hb1.size)⟩
    · obtain rfl := hv2 (fun q => h18 q.2)
      clear hv1 hv2
      go_enter Tryz.func80, Tryz.ntmps80
      go_wp2_with (go_at_call 92; refine (hA _).mono ?_; rintro e w1 ⟨rfl, hw⟩)
      have hb1 : Below w.heap.size w w1 := by
        rcases hw with rfl | ⟨t, rfl⟩
        · exact Below.refl _ _
        · exact Lib.bytesWorld_below _ _ _
      clear hw
      refine (hI _ (hK.below hb1)).mono ?_
      rintro e w2 ⟨rfl, hb2⟩
      go_wp2_with (go_at_call 93; refine (hT _).mono ?_; rintro e w3 ⟨rfl, rfl⟩)
      go_wp2
      go_ret2
      exact ⟨rfl, hb1.trans (hb2.mono hb1.size)⟩
  · obtain rfl := hv2 (fun q => hq q.1)
    clear hv1 hv2
    have hql : ¬ t.toList = s.toList := fun q => hq (toList_inj q)
    go_enter Tryz.func80, Tryz.ntmps80
    go_wp2_with (go_at_call 92; refine (hA _).mono ?_; rintro e w1 ⟨rfl, hw⟩)
    have hb1 : Below w.heap.size w w1 := by
      rcases hw with rfl | ⟨t, rfl⟩
      · exact Below.refl _ _
      · exact Lib.bytesWorld_below _ _ _
    clear hw
    refine (hI _ (hK.below hb1)).mono ?_
    rintro e w2 ⟨rfl, hb2⟩
    go_wp2
    go_ret2
    exact ⟨rfl, hb1.trans (hb2.mono hb1.size)⟩
theorem numberOf_calls (s : ByteArray) (hs : s.size ≤ 1000000000) (w : World) (hK : Kept w) : Calls Tryz.prog 80 #[.string s] w fun e w' => e = .returned (numV s) ∧ Below w.heap.size w w' := by
  rcases h : Lib.atoiAll s.data.toList with n | _ | _
  · refine numberOf_ok s hs w hK n h _ ?_
    unfold numV numO
    rw [h]
    simp only
    split <;> rfl
  · have hv0 : numV s = .tuple #[.int .i64 0, .bool false] := by unfold numV numO; rw [h]
    obtain ⟨t, p, hv⟩ := hK.syn
    rw [hv0]
    clear hv0
    go_enter Tryz.func80, Tryz.ntmps80
    go_wp2_with (go_at_call 92; refine (Any.strconv_Atoi_syntax laysA s (by omega) h (.iface t p) _ ?_ (.inr ⟨t, p, rfl⟩)).mono ?_)
    · exact hv
    rintro e w1 ⟨N, rfl, -, -, hb⟩
    go_wp2
    go_ret2
    exact ⟨rfl, hb⟩
  · have hv0 : numV s = .tuple #[.int .i64 0, .bool false] := by unfold numV numO; rw [h]
    obtain ⟨t, p, hv⟩ := hK.ran
    rw [hv0]
    clear hv0
    go_enter Tryz.func80, Tryz.ntmps80
    go_wp2_with (go_at_call 92; refine (Any.strconv_Atoi_range laysA s (by omega) h (.iface t p) _ ?_ (.inr ⟨t, p, rfl⟩)).mono ?_)
    · exact hv
    rintro e w1 ⟨N, rfl, -, -, hb⟩
    go_wp2
    go_ret2
    exact ⟨rfl, hb⟩
theorem strsOf_get : ∀ {es : List (List Pd)} {xs : List ByteArray}, strsOf es = some xs → xs.length = es.length ∧ ∀ (j : Nat) (x : ByteArray), xs[j]? = some x → es[j]? = some ([.str x] : List Pd)
  | [], xs, h => by
    simp only [strsOf] at h
    injection h with h; subst h
    exact ⟨rfl, fun j x hx => by simp at hx⟩
  | [.str s] :: es, xs, h => by
    simp only [strsOf] at h
    split at h
    · rename_i r hr
      injection h with h; subst h
      obtain ⟨q1, q2⟩ := strsOf_get hr
      refine ⟨by simp [q1], fun j x hx => ?_⟩
      cases j with
      | zero =>
        simp only [List.getElem?_cons_zero, Option.some.injEq] at hx ⊢
        rw [hx]
      | succ j =>
        simp only [List.getElem?_cons_succ] at hx ⊢
        exact q2 j x hx
    · cases h
  | [] :: _, _, h => by cases h
  | (.int .. :: _) :: _, _, h => by simp [strsOf] at h
  | (.bool _ :: _) :: _, _, h => by simp [strsOf] at h
  | (.agg .. :: _) :: _, _, h => by simp [strsOf] at h
  | (.sl .. :: _) :: _, _, h => by simp [strsOf] at h
  | (.fn _ :: _) :: _, _, h => by simp [strsOf] at h
  | (.undef :: _) :: _, _, h => by simp [strsOf] at h
  | (.str _ :: _ :: _) :: _, _, h => by simp [strsOf] at h
theorem args1 {vs : Array Value} (h : vs.size = 1) : ∃ v, vs = #[v] := by
  refine ⟨vs.getD 0 undef, ?_⟩
  apply Array.ext
  · simpa using h
  · intro i h1 h2
    have : i = 0 := by omega
    subst this
    simp [Array.getD_eq_getD_getElem?, h1]
theorem args2 {vs : Array Value} (h : vs.size = 2) : ∃ u v, vs = #[u, v] := by
  refine ⟨vs.getD 0 undef, vs.getD 1 undef, ?_⟩
  apply Array.ext
  · simpa using h
  · intro i h1 h2
    have : i = 0 ∨ i = 1 := by omega
    rcases this with q | q <;> subst q <;> simp [Array.getD_eq_getD_getElem?, h1]
/-- what a library's function tells -/
def LibSays (f : FuncId) (xs ys : List Pd) : Prop := ∀ (w : World) (ρ : Nm → Rz) (S : Nat → Nat → Prop) (vs : Array Value), Kept w → (∀ b o, S b o → b < w.heap.size) → vs.size = xs.length →
    (∀ j, j < xs.length → VP S w (xs.getD j .undef) (vs.getD j undef)) → Calls Tryz.prog f vs w fun e w' => ∃ v S', e = .returned v ∧ VD ρ S' w' (retV (ys.map .p)) v ∧ Below w.heap.size w w' ∧ (∀ b o, S b o → S' b o) ∧ ∀ b o, S' b o → S b o ∨ (w.heap.size ≤ b ∧ b < w'.heap.size)
theorem itoa_says {xs ys : List Pd} (hg : itoaL xs = some ys) : LibSays 39 xs ys := by
  intro w ρ S vs hk hS hsz hvs
  unfold itoaL at hg
  split at hg
  · rename_i n
    split at hg
    · rename_i hn
      injection hg with hg; subst hg
      have h0 := hvs 0 (by simp)
      obtain ⟨v, rfl⟩ := args1 hsz
      have h0 : VP S w (.int .i64 n) v := h0
      cases h0
      refine (Any.strconv_Itoa laysI n hn.1 hn.2 w hk.tab).mono ?_
      rintro e w' ⟨rfl, k, os, rfl⟩
      refine ⟨_, S, rfl, .p .str, ⟨rfl, rfl, rfl, ?_, fun b hb => ?_⟩, fun _ _ q => q, fun _ _ q => .inl q⟩
      · show w.heap.size ≤ (w.heap ++ os).size
        simp
      · show (w.heap ++ os)[b]? = w.heap[b]?
        exact Array.getElem?_append_left hb
    · cases hg
  · cases hg
theorem join_says {xs ys : List Pd} (hg : joinL xs = some ys) : LibSays 40 xs ys := by
  intro w ρ S vs hk hS hsz hvs
  unfold joinL at hg
  split at hg
  · rename_i es sep
    split at hg
    · rename_i ws hws
      split at hg
      · rename_i hl
        injection hg with hg; subst hg
        have h0 : VP S w (.sl 1 es) (vs.getD 0 undef) := hvs 0 (by simp)
        have h1 : VP S w (.str sep) (vs.getD 1 undef) := hvs 1 (by simp)
        obtain ⟨u, v, rfl⟩ := args2 hsz
        have h0 : VP S w (.sl 1 es) u := h0
        have h1 : VP S w (.str sep) v := h1
        obtain ⟨hwl, hwg⟩ := strsOf_get hws
        cases h1
        cases h0 with
        | sl ad vals q1 q2 q3 q4 q5 =>
          rename_i a len cap
          rcases Nat.eq_zero_or_pos len with hz | hp
          · subst hz
            have hes : es = [] := List.eq_nil_of_length_eq_zero q1.symm
            subst hes
            have hws : ws = [] := List.eq_nil_of_length_eq_zero (by simpa using hwl)
            subst hws
            refine (Any.strings_Join_none laysJ extraJ a cap sep w).mono ?_
            rintro e w' ⟨rfl, rfl⟩
            exact ⟨_, S, rfl, .p .str, Below.refl _ _, fun _ _ q => q, fun _ _ q => .inl q⟩
          · obtain ⟨rfl, hspot⟩ := q3 hp
            obtain ⟨bk, o, sp⟩ := ad
            have hspot : sp = none := hspot
            subst hspot
            have hcells : ∀ (j : Nat) x, ws[j]? = some x → w.cell? ⟨bk, o + j, none⟩ = some (.string x) := by
              intro j x hx
              have hj : j < len := by
                rw [q1, ← hwl]
                exact (List.getElem?_eq_some_iff.1 hx).1
              have c1 := (q4 j 0 hj (by omega)).2.1
              have c2 := q5 j 0 hj (by omega)
              have hgd : es.getD j [] = [.str x] := by rw [List.getD_eq_getElem?_getD, hwg j x hx]; rfl
              rw [hgd] at c2
              have c2 : VP S w (.str x) (vals j 0) := c2
              generalize vals j 0 = z at c1 c2
              cases c2
              simpa using c1
            have hbk : bk < w.heap.size := hS bk _ (q4 0 0 hp (by omega)).1
            have hlen : len = ws.length := by rw [q1, hwl]
            subst hlen
            refine (Any.strings_Join laysJ extraJ bk o cap ws sep w hcells hbk hl.1 q2 hl.2).mono ?_
            rintro e w' ⟨rfl, hb⟩
            exact ⟨_, S, rfl, .p .str, hb, fun _ _ q => q, fun _ _ q => .inl q⟩
      · cases hg
    · cases hg
  · cases hg
theorem split_says {xs ys : List Pd} (hg : splitL xs = some ys) : LibSays 67 xs ys := by
  intro w ρ S vs hk hS hsz hvs
  unfold splitL at hg
  split at hg
  · rename_i s sep
    split at hg
    · rename_i hc
      injection hg with hg; subst hg
      have h0 : VP S w (.str s) (vs.getD 0 undef) := hvs 0 (by simp)
      have h1 : VP S w (.str sep) (vs.getD 1 undef) := hvs 1 (by simp)
      obtain ⟨u, v, rfl⟩ := args2 hsz
      have h0 : VP S w (.str s) u := h0
      have h1 : VP S w (.str sep) v := h1
      cases h0
      cases h1
      obtain ⟨m, hm⟩ := hk.max
      refine (Any.strings_Split laysS (by kernel_rfl) s sep m w hc.1 hm hc.2).mono ?_
      rintro e w' ⟨rfl, rfl⟩
      have hlen := Lib.splitB_all sep hc.2 0 _ s rfl
      generalize Lib.splitB sep 0 (Lib.countB s sep) s = ps at hlen
      have hb : Below w.heap.size w (w.alloc (.cells (ps.map Value.string).toArray (laysSR.t 9))) := (Below.refl _ _).alloc (Nat.le_refl _) _
      refine ⟨_, fun b o => S b o ∨ b = w.heap.size, rfl, .p ?_, hb, fun _ _ q => .inl q, fun b o q => ?_⟩
      · have hl : ∀ i : Nat, i < Lib.countB s sep + 1 → ∃ x, ps[i]? = some x := fun i hi => ⟨ps[i], List.getElem?_eq_getElem (by omega)⟩
        refine .sl ⟨w.heap.size, 0, none⟩ (fun i _ => .string (ps.getD i ⟨#[]⟩)) (by simp [hlen]) (Nat.le_refl _) (fun _ => ⟨rfl, rfl⟩) (fun i j hi hj => ⟨.inr rfl, ?_, rfl⟩) (fun i j hi hj => ?_)
        · obtain ⟨x, hx⟩ := hl i hi
          have : 0 + i * 1 + j = i := by omega
          show (w.alloc _).cell? ⟨w.heap.size, 0 + i * 1 + j, none⟩ = _
          rw [this]
          have e2 : ps.getD i ⟨#[]⟩ = x := by rw [List.getD_eq_getElem?_getD, hx]; rfl
          rw [World.cell?_alloc_new, List.getElem?_toArray, List.getElem?_map, hx, e2]
          rfl
        · obtain ⟨x, hx⟩ := hl i hi
          have : j = 0 := by omega
          subst this
          have e1 : (ps.map fun t => ([.str t] : List Pd)).getD i [] = [.str x] := by rw [List.getD_eq_getElem?_getD, List.getElem?_map, hx]; rfl
          have e2 : ps.getD i ⟨#[]⟩ = x := by rw [List.getD_eq_getElem?_getD, hx]; rfl
          rw [e1, e2]
          exact .str
      · rcases q with q | q
        · exact .inl q
        · refine .inr ⟨by omega, ?_⟩
          show b < (w.heap.push _).size
          rw [Array.size_push]; omega
    · cases hg
  · cases hg
theorem num_says {xs ys : List Pd} (hg : numL xs = some ys) : LibSays 80 xs ys := by
  intro w ρ S vs hk hS hsz hvs
  unfold numL at hg
  split at hg
  · rename_i s
    split at hg
    · rename_i hc
      have hg : (match numO s with | some n => [Pd.int .i64 n, .bool true] | none => [.int .i64 0, .bool false]) = ys := by
        cases hn : numO s with
        | none => rw [hn] at hg; exact Option.some.inj hg
        | some n => rw [hn] at hg; exact Option.some.inj hg
      subst hg
      have h0 := hvs 0 (by simp)
      obtain ⟨v, rfl⟩ := args1 hsz
      have h0 : VP S w (.str s) v := h0
      cases h0
      refine (numberOf_calls s hc w hk).mono ?_
      rintro e w' ⟨rfl, hb⟩
      refine ⟨_, S, rfl, ?_, hb, fun _ _ q => q, fun _ _ q => .inl q⟩
      unfold numV
      cases numO s with
      | none =>
        refine .tup rfl fun j hj => ?_
        have hj : j < 2 := hj
        match j, hj with
        | 0, _ => exact .p .int
        | 1, _ => exact .p .bool
      | some n =>
        refine .tup rfl fun j hj => ?_
        have hj : j < 2 := hj
        match j, hj with
        | 0, _ => exact .p .int
        | 1, _ => exact .p .bool
    · cases hg
  · cases hg
theorem libs : LibOK E0 tabK := by
  intro f g hf xs ys hg w ρ S vs hk hS hsz hvs
  have hf : libT f = some g := hf
  unfold libT at hf
  split at hf
  · rename_i hfi
    injection hf with hf; subst hf; subst hfi
    exact itoa_says hg w ρ S vs hk.1 hS hsz hvs
  split at hf
  · rename_i hfi
    injection hf with hf; subst hf; subst hfi
    exact join_says hg w ρ S vs hk.1 hS hsz hvs
  split at hf
  · rename_i hfi
    injection hf with hf; subst hf; subst hfi
    exact split_says hg w ρ S vs hk.1 hS hsz hvs
  split at hf
  · rename_i hfi
    injection hf with hf; subst hf; subst hfi
    exact num_says hg w ρ S vs hk.1 hS hsz hvs
  · cases hf
end Go.Proofs.YtakbdjdafcjglaaGreatDoor.Dm
