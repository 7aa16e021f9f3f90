/- The library's functions by the kit's contracts: impl.numberOf of one digit, which asks strconv.Atoi and strconv.Itoa; impl.sameArgs. -/
import Derived.Test.YtambpnaakfodhaaGreatDoorDm19
import Derived.Test.YtambpnaakfodhaaGreatDoorS2
import Derived.Test.YtambpnaakfodhaaGreatDoorY3
import Derived.Shelf.Strconv.Itoa3
import Derived.Shelf.Strings.Prefix
import Derived.Shelf.Strconv.AtoiAll
import Derived.Shelf.Vars
import Derived.Lib.AtoiErrMem
import Derived.WalkKit
import Derived.BigCall
import Derived.BigGuard
namespace Go.Proofs.YtambpnaakfodhaaGreatDoor.Dm
open Go.Shelf Go.RowKit
set_option linter.unusedVariables false
set_option maxRecDepth 100000
def laysIR : Ren := ⟨fun | 171 => 193 | 243 => 214 | 246 => 240 | 283 => 258 | 284 => 259 | 285 => 260 | 286 => 261 | 129 => 234 | 317 => 266 | 318 => 267 | 319 => 268 | 320 => 269 | 337 => 272 | 338 => 273 | n => n, fun | 3 => 3 | 9 => 9 | 2 => 2 | 4 => 4 | 171 => 306 | 0 => 0 | 53 => 281 | 37 => 22 | 5 => 5 | 173 => 308 | 212 => 319 | 51 => 279 | 20 => 20 | 213 => 320 | 46 => 260 | 232 => 325 | 233 => 326 | n => n, fun | 17 => 3 | 18 => 4 | 19 => 5 | n => n⟩
theorem laysI : LaysM.n171 Tryz.prog laysIR where
  mixed := by kernel_rfl
  f129 := Tryz.func234.trans (congrArg some (by kernel_rfl))
  f171 := Tryz.func193.trans (congrArg some (by kernel_rfl))
  f243 := Tryz.func214.trans (congrArg some (by kernel_rfl))
  f246 := Tryz.func240.trans (congrArg some (by kernel_rfl))
  f283 := Tryz.func258.trans (congrArg some (by kernel_rfl))
  f284 := Tryz.func259.trans (congrArg some (by kernel_rfl))
  f285 := Tryz.func260.trans (congrArg some (by kernel_rfl))
  f286 := Tryz.func261.trans (congrArg some (by kernel_rfl))
  f317 := Tryz.func266.trans (congrArg some (by kernel_rfl))
  f318 := Tryz.func267.trans (congrArg some (by kernel_rfl))
  f319 := Tryz.func268.trans (congrArg some (by kernel_rfl))
  f320 := Tryz.func269.trans (congrArg some (by kernel_rfl))
  f337 := Tryz.func272.trans (congrArg some (by kernel_rfl))
  f338 := Tryz.func273.trans (congrArg some (by kernel_rfl))
  t0 := Tryz.underlying0
  a0 := Tryz.isAgg0
  z0 := Tryz.sizeOf0
  v0 := Tryz.zeroValue0
  t2 := Tryz.underlying2
  a2 := Tryz.isAgg2
  z2 := Tryz.sizeOf2
  v2 := Tryz.zeroValue2
  t3 := Tryz.underlying3
  a3 := Tryz.isAgg3
  z3 := Tryz.sizeOf3
  v3 := Tryz.zeroValue3
  t4 := Tryz.underlying4
  a4 := Tryz.isAgg4
  z4 := Tryz.sizeOf4
  v4 := Tryz.zeroValue4
  t5 := Tryz.underlying5
  a5 := Tryz.isAgg5
  z5 := Tryz.sizeOf5
  v5 := Tryz.zeroValue5
  t9 := Tryz.underlying9
  a9 := Tryz.isAgg9
  z9 := Tryz.sizeOf9
  v9 := Tryz.zeroValue9
  t20 := Tryz.underlying20
  a20 := Tryz.isAgg20
  z20 := Tryz.sizeOf20
  v20 := Tryz.zeroValue20
  t37 := Tryz.underlying22
  a37 := Tryz.isAgg22
  z37 := Tryz.sizeOf22
  v37 := Tryz.zeroValue22
  t46 := Tryz.underlying260
  a46 := Tryz.isAgg260
  z46 := Tryz.sizeOf260
  v46 := Tryz.zeroValue260
  t51 := Tryz.underlying279
  a51 := Tryz.isAgg279
  z51 := Tryz.sizeOf279
  v51 := Tryz.zeroValue279
  t53 := Tryz.underlying281
  a53 := Tryz.isAgg281
  z53 := Tryz.sizeOf281
  v53 := Tryz.zeroValue281
  t171 := Tryz.underlying306
  a171 := Tryz.isAgg306
  z171 := Tryz.sizeOf306
  v171 := Tryz.zeroValue306
  t173 := Tryz.underlying308
  a173 := Tryz.isAgg308
  z173 := Tryz.sizeOf308
  v173 := Tryz.zeroValue308
  t212 := Tryz.underlying319
  a212 := Tryz.isAgg319
  z212 := Tryz.sizeOf319
  v212 := Tryz.zeroValue319
  t213 := Tryz.underlying320
  a213 := Tryz.isAgg320
  z213 := Tryz.sizeOf320
  t232 := Tryz.underlying325
  a232 := Tryz.isAgg325
  z232 := Tryz.sizeOf325
  v232 := Tryz.zeroValue325
  t233 := Tryz.underlying326
  a233 := Tryz.isAgg326
  z233 := Tryz.sizeOf326
  v233 := Tryz.zeroValue326
  g17 := by kernel_rfl
  g18 := by kernel_rfl
  g19 := by kernel_rfl
  i0 := by kernel_rfl
  i2 := by kernel_rfl
  i3 := by kernel_rfl
  i4 := by kernel_rfl
  i5 := by kernel_rfl
  i9 := by kernel_rfl
  i20 := by kernel_rfl
  i37 := by kernel_rfl
  i46 := by kernel_rfl
  i51 := by kernel_rfl
  i53 := by kernel_rfl
  i171 := by kernel_rfl
  i173 := by kernel_rfl
  i212 := by kernel_rfl
  i232 := by kernel_rfl
  i233 := by kernel_rfl
  m17 := by kernel_rfl
  m18 := by kernel_rfl
  m19 := by kernel_rfl
def laysAR : Ren := ⟨fun | 172 => 198 | 244 => 221 | 245 => 222 | 247 => 245 | 279 => 246 | 280 => 247 | 281 => 248 | 282 => 249 | 287 => 262 | 316 => 263 | 171 => 193 | 205 => 264 | 321 => 270 | 322 => 271 | 243 => 214 | 246 => 240 | 283 => 258 | 284 => 259 | 285 => 260 | 286 => 261 | 129 => 234 | 317 => 266 | 318 => 267 | 319 => 268 | 320 => 269 | 337 => 272 | 338 => 273 | n => n, fun | 9 => 9 | 3 => 3 | 75 => 251 | 76 => 252 | 4 => 4 | 5 => 5 | 167 => 293 | 37 => 22 | 0 => 0 | 85 => 294 | 2 => 2 | 168 => 296 | 53 => 281 | 175 => 310 | 46 => 260 | 210 => 314 | 127 => 267 | 145 => 324 | 143 => 322 | 21 => 21 | 171 => 306 | 173 => 308 | 212 => 319 | 51 => 279 | 20 => 20 | 213 => 320 | 232 => 325 | 233 => 326 | 80 => 148 | n => n, fun | 15 => 1 | 16 => 2 | 17 => 3 | 18 => 4 | 19 => 5 | n => n⟩
theorem laysA : LaysC.n172 Tryz.prog laysAR where
  mixed := by kernel_rfl
  f129 := Tryz.func234.trans (congrArg some (by kernel_rfl))
  f171 := Tryz.func193.trans (congrArg some (by kernel_rfl))
  f172 := Tryz.func198.trans (congrArg some (by kernel_rfl))
  f205 := Tryz.func264.trans (congrArg some (by kernel_rfl))
  f243 := Tryz.func214.trans (congrArg some (by kernel_rfl))
  f244 := Tryz.func221.trans (congrArg some (by kernel_rfl))
  f245 := Tryz.func222.trans (congrArg some (by kernel_rfl))
  f246 := Tryz.func240.trans (congrArg some (by kernel_rfl))
  f247 := Tryz.func245.trans (congrArg some (by kernel_rfl))
  f279 := Tryz.func246.trans (congrArg some (by kernel_rfl))
  f280 := Tryz.func247.trans (congrArg some (by kernel_rfl))
  f281 := Tryz.func248.trans (congrArg some (by kernel_rfl))
  f282 := Tryz.func249.trans (congrArg some (by kernel_rfl))
  f283 := Tryz.func258.trans (congrArg some (by kernel_rfl))
  f284 := Tryz.func259.trans (congrArg some (by kernel_rfl))
  f285 := Tryz.func260.trans (congrArg some (by kernel_rfl))
  f286 := Tryz.func261.trans (congrArg some (by kernel_rfl))
  f287 := Tryz.func262.trans (congrArg some (by kernel_rfl))
  f316 := Tryz.func263.trans (congrArg some (by kernel_rfl))
  f317 := Tryz.func266.trans (congrArg some (by kernel_rfl))
  f318 := Tryz.func267.trans (congrArg some (by kernel_rfl))
  f319 := Tryz.func268.trans (congrArg some (by kernel_rfl))
  f320 := Tryz.func269.trans (congrArg some (by kernel_rfl))
  f321 := Tryz.func270.trans (congrArg some (by kernel_rfl))
  f322 := Tryz.func271.trans (congrArg some (by kernel_rfl))
  f337 := Tryz.func272.trans (congrArg some (by kernel_rfl))
  f338 := Tryz.func273.trans (congrArg some (by kernel_rfl))
  t0 := Tryz.underlying0
  a0 := Tryz.isAgg0
  z0 := Tryz.sizeOf0
  v0 := Tryz.zeroValue0
  t2 := Tryz.underlying2
  a2 := Tryz.isAgg2
  z2 := Tryz.sizeOf2
  v2 := Tryz.zeroValue2
  t3 := Tryz.underlying3
  a3 := Tryz.isAgg3
  z3 := Tryz.sizeOf3
  v3 := Tryz.zeroValue3
  t4 := Tryz.underlying4
  a4 := Tryz.isAgg4
  z4 := Tryz.sizeOf4
  v4 := Tryz.zeroValue4
  t5 := Tryz.underlying5
  a5 := Tryz.isAgg5
  z5 := Tryz.sizeOf5
  v5 := Tryz.zeroValue5
  t9 := Tryz.underlying9
  a9 := Tryz.isAgg9
  z9 := Tryz.sizeOf9
  v9 := Tryz.zeroValue9
  t20 := Tryz.underlying20
  a20 := Tryz.isAgg20
  z20 := Tryz.sizeOf20
  v20 := Tryz.zeroValue20
  t21 := Tryz.underlying21
  a21 := Tryz.isAgg21
  z21 := Tryz.sizeOf21
  v21 := Tryz.zeroValue21
  t37 := Tryz.underlying22
  a37 := Tryz.isAgg22
  z37 := Tryz.sizeOf22
  v37 := Tryz.zeroValue22
  t46 := Tryz.underlying260
  a46 := Tryz.isAgg260
  z46 := Tryz.sizeOf260
  v46 := Tryz.zeroValue260
  t51 := Tryz.underlying279
  a51 := Tryz.isAgg279
  z51 := Tryz.sizeOf279
  v51 := Tryz.zeroValue279
  t53 := Tryz.underlying281
  a53 := Tryz.isAgg281
  z53 := Tryz.sizeOf281
  v53 := Tryz.zeroValue281
  t75 := Tryz.underlying251
  a75 := Tryz.isAgg251
  z75 := Tryz.sizeOf251
  v75 := Tryz.zeroValue251
  t76 := Tryz.underlying252
  a76 := Tryz.isAgg252
  z76 := Tryz.sizeOf252
  v76 := Tryz.zeroValue252
  t85 := Tryz.underlying294
  a85 := Tryz.isAgg294
  z85 := Tryz.sizeOf294
  v85 := Tryz.zeroValue294
  t127 := Tryz.underlying267
  a127 := Tryz.isAgg267
  z127 := Tryz.sizeOf267
  v127 := Tryz.zeroValue267
  t143 := Tryz.underlying322
  a143 := Tryz.isAgg322
  z143 := Tryz.sizeOf322
  v143 := Tryz.zeroValue322
  t145 := Tryz.underlying324
  a145 := Tryz.isAgg324
  z145 := Tryz.sizeOf324
  v145 := Tryz.zeroValue324
  t167 := Tryz.underlying293
  a167 := Tryz.isAgg293
  z167 := Tryz.sizeOf293
  v167 := Tryz.zeroValue293
  t168 := Tryz.underlying296
  a168 := Tryz.isAgg296
  z168 := Tryz.sizeOf296
  v168 := Tryz.zeroValue296
  t171 := Tryz.underlying306
  a171 := Tryz.isAgg306
  z171 := Tryz.sizeOf306
  v171 := Tryz.zeroValue306
  t173 := Tryz.underlying308
  a173 := Tryz.isAgg308
  z173 := Tryz.sizeOf308
  v173 := Tryz.zeroValue308
  t175 := Tryz.underlying310
  a175 := Tryz.isAgg310
  z175 := Tryz.sizeOf310
  v175 := Tryz.zeroValue310
  t210 := Tryz.underlying314
  a210 := Tryz.isAgg314
  z210 := Tryz.sizeOf314
  v210 := Tryz.zeroValue314
  t212 := Tryz.underlying319
  a212 := Tryz.isAgg319
  z212 := Tryz.sizeOf319
  v212 := Tryz.zeroValue319
  t213 := Tryz.underlying320
  a213 := Tryz.isAgg320
  z213 := Tryz.sizeOf320
  t232 := Tryz.underlying325
  a232 := Tryz.isAgg325
  z232 := Tryz.sizeOf325
  v232 := Tryz.zeroValue325
  t233 := Tryz.underlying326
  a233 := Tryz.isAgg326
  z233 := Tryz.sizeOf326
  v233 := Tryz.zeroValue326
  g15 := by kernel_rfl
  g16 := by kernel_rfl
  g17 := by kernel_rfl
  g18 := by kernel_rfl
  g19 := by kernel_rfl
  t80 := Tryz.underlying148
  a80 := Tryz.isAgg148
  z80 := Tryz.sizeOf148
  v80 := Tryz.zeroValue148
  i0 := by kernel_rfl
  i2 := by kernel_rfl
  i3 := by kernel_rfl
  i4 := by kernel_rfl
  i5 := by kernel_rfl
  i9 := by kernel_rfl
  i20 := by kernel_rfl
  i21 := by kernel_rfl
  i37 := by kernel_rfl
  i46 := by kernel_rfl
  i51 := by kernel_rfl
  i53 := by kernel_rfl
  i75 := by kernel_rfl
  i76 := by kernel_rfl
  i80 := by kernel_rfl
  i85 := by kernel_rfl
  i127 := by kernel_rfl
  i143 := by kernel_rfl
  i145 := by kernel_rfl
  i167 := by kernel_rfl
  i168 := by kernel_rfl
  i171 := by kernel_rfl
  i173 := by kernel_rfl
  i175 := by kernel_rfl
  i210 := by kernel_rfl
  i212 := by kernel_rfl
  i232 := by kernel_rfl
  i233 := by kernel_rfl
  m15 := by kernel_rfl
  m16 := by kernel_rfl
  m17 := by kernel_rfl
  m18 := by kernel_rfl
  m19 := by kernel_rfl
  c0 := by kernel_rfl
  c2 := by kernel_rfl
  c3 := by kernel_rfl
  c4 := by kernel_rfl
  c5 := by kernel_rfl
  c9 := by kernel_rfl
  c20 := by kernel_rfl
  c21 := by kernel_rfl
  c37 := by kernel_rfl
  c46 := by kernel_rfl
  c51 := by kernel_rfl
  c53 := by kernel_rfl
  c75 := by kernel_rfl
  c76 := by kernel_rfl
  c80 := by kernel_rfl
  c85 := by kernel_rfl
  c127 := by kernel_rfl
  c143 := by kernel_rfl
  c145 := by kernel_rfl
  c167 := by kernel_rfl
  c168 := by kernel_rfl
  c171 := by kernel_rfl
  c173 := by kernel_rfl
  c175 := by kernel_rfl
  c210 := by kernel_rfl
  c212 := by kernel_rfl
  c213 := by kernel_rfl
  c232 := by kernel_rfl
  c233 := by kernel_rfl
def laysTR : Ren := ⟨fun | 101 => 199 | 208 => 223 | 206 => 180 | n => n, fun | 9 => 9 | 4 => 4 | 3 => 3 | n => n, fun n => n⟩
theorem laysT : Lays.n101 Tryz.prog laysTR where
  mixed := by kernel_rfl
  f101 := Tryz.func199.trans (congrArg some (by kernel_rfl))
  f206 := Tryz.func180.trans (congrArg some (by kernel_rfl))
  f208 := Tryz.func223.trans (congrArg some (by kernel_rfl))
  t3 := Tryz.underlying3
  a3 := Tryz.isAgg3
  z3 := Tryz.sizeOf3
  v3 := Tryz.zeroValue3
  t4 := Tryz.underlying4
  a4 := Tryz.isAgg4
  z4 := Tryz.sizeOf4
  v4 := Tryz.zeroValue4
  t9 := Tryz.underlying9
  a9 := Tryz.isAgg9
  z9 := Tryz.sizeOf9
  v9 := Tryz.zeroValue9
def tabG : Nat := laysIR.g 17
def synG : Nat := laysAR.g 15
def ranG : Nat := laysAR.g 16
theorem tabIs_keep {w w' : World} (h : Lib.TabIs Tryz.prog w "internal/strconv.uint64pow10" .u64 Lib.pow10Tab) (hb : w'.heap[tabG]? = w.heap[tabG]?) : Lib.TabIs Tryz.prog w' "internal/strconv.uint64pow10" .u64 Lib.pow10Tab := by
  unfold Lib.TabIs World.var? at h ⊢
  rw [laysI.m17] at h ⊢
  have hb : w'.heap[laysIR.g 17]? = w.heap[laysIR.g 17]? := hb
  simp only [Option.bind_some] at h ⊢
  rw [hb]
  exact h
structure Kept (w : World) : Prop where
  tab : Lib.TabIs Tryz.prog w "internal/strconv.uint64pow10" .u64 Lib.pow10Tab
  syn : ∃ t p, w.cell? ⟨synG, 0, none⟩ = some (.iface t p)
  ran : ∃ t p, w.cell? ⟨ranG, 0, none⟩ = some (.iface t p)
def keptG (b : Nat) : Prop := b = tabG ∨ b = synG ∨ b = ranG
theorem Kept.keep {w w' : World} (h : Kept w) (hb : ∀ b, keptG b → w'.heap[b]? = w.heap[b]?) : Kept w' where
  tab := tabIs_keep h.tab (hb _ (.inl rfl))
  syn := by
    obtain ⟨t, p, hm⟩ := h.syn
    exact ⟨t, p, (cell_heap (hb _ (.inr (.inl rfl)))).trans hm⟩
  ran := by
    obtain ⟨t, p, hm⟩ := h.ran
    exact ⟨t, p, (cell_heap (hb _ (.inr (.inr rfl)))).trans hm⟩
def tabK : Kp := ⟨keptG, Kept, fun _ _ h _ hb => h.keep hb⟩
theorem tabLt {w : World} (h : Lib.TabIs Tryz.prog w "internal/strconv.uint64pow10" .u64 Lib.pow10Tab) : tabG < w.heap.size := by
  unfold Lib.TabIs World.var? at h
  rw [laysI.m17] at h
  simp only [Option.bind_some] at h
  rcases Nat.lt_or_ge tabG w.heap.size with q | q
  · exact q
  · exfalso
    have : w.heap[laysIR.g 17]? = none := Array.getElem?_eq_none q
    rw [this] at h
    cases h
theorem Kept.lt {w : World} (h : Kept w) : ∀ b, keptG b → b < w.heap.size := by
  rintro b (rfl | rfl | rfl)
  · exact tabLt h.tab
  · obtain ⟨t, p, hm⟩ := h.syn; exact Lib.lt_of_cell hm
  · obtain ⟨t, p, hm⟩ := h.ran; exact Lib.lt_of_cell hm
theorem Kept.below {w w' : World} (h : Kept w) (hb : Below w.heap.size w w') : Kept w' := h.keep fun b q => hb.block b (h.lt b q)
theorem toList_inj {a b : ByteArray} (h : a.toList = b.toList) : a = b := by
  rw [ByteArray.toList_eq, ByteArray.toList_eq] at h
  cases a; cases b
  congr 1
  exact Array.toList_inj.1 h
theorem numberOf_ok (s : ByteArray) (hs : s.size ≤ 1000000000) (w : World) (hK : Kept w) (n : Int) (h : Lib.atoiAll s.data.toList = .ok n) (v : Value)
    (hv : (if Lib.itoa n = s.data.toList ∧ (Lib.trimPrefix s.data.toList [45]).length ≤ 18 then Value.tuple #[.int .i64 n, .bool true] else .tuple #[.int .i64 0, .bool false]) = v) :
    Calls Tryz.prog 179 #[.string s] w fun e w' => e = .returned v ∧ Below w.heap.size w w' := by
  obtain ⟨b0, b1⟩ := Lib.atoiAll_bounds h
  have hA := Any.strconv_Atoi_ok laysA s (by omega) n h
  clear h
  have hI : ∀ w1 : World, Kept w1 → Calls Tryz.prog 193 #[.int .i64 n] w1 fun e w' => e = .returned (.string ⟨(Lib.itoa n).toArray⟩) ∧ Below w1.heap.size w1 w' := by
    intro w1 hK1
    refine (Any.strconv_Itoa laysI n b0 b1 w1 hK1.tab).mono ?_
    rintro e w' ⟨rfl, k, os, rfl⟩
    refine ⟨rfl, rfl, rfl, rfl, ?_, fun b hb => ?_⟩
    · show w1.heap.size ≤ (w1.heap ++ os).size
      simp
    · show (w1.heap ++ os)[b]? = w1.heap[b]?
      exact Array.getElem?_append_left hb
  have hT := fun w2 : World => Any.strings_TrimPrefix laysT s ⟨#[45]⟩ w2
  obtain ⟨t, ht⟩ : ∃ t : ByteArray, t = ⟨(Lib.itoa n).toArray⟩ := ⟨_, rfl⟩
  obtain ⟨u, hu⟩ : ∃ u : ByteArray, u = ⟨(Lib.trimPrefix s.data.toList ((⟨#[45]⟩ : ByteArray).data.toList)).toArray⟩ := ⟨_, rfl⟩
  rw [← hu] at hT
  rw [← ht] at hI
  have hus : u.size = (Lib.trimPrefix s.data.toList [45]).length := by rw [hu]; show (Lib.trimPrefix s.data.toList [45]).toArray.size = _; simp
  have hsz : u.size ≤ 1000000000 := by
    rw [hus]
    unfold Lib.trimPrefix
    have := Lib.size_eq s
    split
    · rw [List.length_drop]; omega
    · omega
  rw [← hus] at hv
  have hq : t = s ↔ Lib.itoa n = s.data.toList := ⟨fun q => by rw [← q, ht], fun q => by rw [ht, q]⟩
  have hv1 : t = s ∧ u.size ≤ 18 → Value.tuple #[.int .i64 n, .bool true] = v := fun q => by rw [← hv, if_pos ⟨hq.1 q.1, q.2⟩]
  have hv2 : ¬ (t = s ∧ u.size ≤ 18) → Value.tuple #[.int .i64 0, .bool false] = v := fun q => by rw [← hv, if_neg (fun r => q ⟨hq.2 r.1, r.2⟩)]
  clear hus hu ht hq hv
  by_cases hq : t = s
  · subst hq
    by_cases h18 : u.size ≤ 18
    · obtain rfl := hv1 ⟨rfl, h18⟩
      clear hv1 hv2
      go_enter Tryz.func179, Tryz.ntmps179
      go_wp2_with (go_at_call 198; refine (hA _).mono ?_; rintro e w1 ⟨rfl, hw⟩)
      have hb1 : Below w.heap.size w w1 := by
        rcases hw with rfl | ⟨t, rfl⟩
        · exact Below.refl _ _
        · exact Lib.bytesWorld_below _ _ _
      clear hw
      refine (hI _ (hK.below hb1)).mono ?_
      rintro e w2 ⟨rfl, hb2⟩
      go_wp2_with (go_at_call 199; refine (hT _).mono ?_; rintro e w3 ⟨rfl, rfl⟩)
      go_wp2
      go_ret2
      exact ⟨rfl, hb1.trans (hb2.mono hb1.size)⟩
    · obtain rfl := hv2 (fun q => h18 q.2)
      clear hv1 hv2
      go_enter Tryz.func179, Tryz.ntmps179
      go_wp2_with (go_at_call 198; refine (hA _).mono ?_; rintro e w1 ⟨rfl, hw⟩)
      have hb1 : Below w.heap.size w w1 := by
        rcases hw with rfl | ⟨t, rfl⟩
        · exact Below.refl _ _
        · exact Lib.bytesWorld_below _ _ _
      clear hw
      refine (hI _ (hK.below hb1)).mono ?_
      rintro e w2 ⟨rfl, hb2⟩
      go_wp2_with (go_at_call 199; refine (hT _).mono ?_; rintro e w3 ⟨rfl, rfl⟩)
      go_wp2
      go_ret2
      exact ⟨rfl, hb1.trans (hb2.mono hb1.size)⟩
  · obtain rfl := hv2 (fun q => hq q.1)
    clear hv1 hv2
    have hql : ¬ t.toList = s.toList := fun q => hq (toList_inj q)
    go_enter Tryz.func179, Tryz.ntmps179
    go_wp2_with (go_at_call 198; refine (hA _).mono ?_; rintro e w1 ⟨rfl, hw⟩)
    have hb1 : Below w.heap.size w w1 := by
      rcases hw with rfl | ⟨t, rfl⟩
      · exact Below.refl _ _
      · exact Lib.bytesWorld_below _ _ _
    clear hw
    refine (hI _ (hK.below hb1)).mono ?_
    rintro e w2 ⟨rfl, hb2⟩
    go_wp2
    go_ret2
    exact ⟨rfl, hb1.trans (hb2.mono hb1.size)⟩
theorem args1 {vs : Array Value} (h : vs.size = 1) : ∃ v, vs = #[v] := by
  refine ⟨vs.getD 0 undef, ?_⟩
  apply Array.ext
  · simpa using h
  · intro i h1 h2
    have : i = 0 := by omega
    subst this
    simp [Array.getD_eq_getD_getElem?, h1]
theorem args2 {vs : Array Value} (h : vs.size = 2) : ∃ u v, vs = #[u, v] := by
  refine ⟨vs.getD 0 undef, vs.getD 1 undef, ?_⟩
  apply Array.ext
  · simpa using h
  · intro i h1 h2
    have : i = 0 ∨ i = 1 := by omega
    rcases this with q | q <;> subst q <;> simp [Array.getD_eq_getD_getElem?, h1]
def LibSays (f : FuncId) (xs ys : List Pd) : Prop := ∀ (w : World) (ρ : Nm → Rz) (S : Nat → Nat → Prop) (vs : Array Value), Kept w → (∀ b o, S b o → b < w.heap.size) → vs.size = xs.length →
    (∀ j, j < xs.length → VP S w (xs.getD j .undef) (vs.getD j undef)) → Calls Tryz.prog f vs w fun e w' => ∃ v S', e = .returned v ∧ VD ρ S' w' (retV (ys.map .p)) v ∧ Below w.heap.size w w' ∧ (∀ b o, S b o → S' b o) ∧ ∀ b o, S' b o → S b o ∨ (w.heap.size ≤ b ∧ b < w'.heap.size)
theorem atoi_digit (c : UInt8) (h : 48 ≤ c.toNat ∧ c.toNat ≤ 57) : Lib.atoiAll [c] = .ok ((c.toNat - 48 : Nat) : Int) := by
  have e : ∀ m : Fin 10, Lib.atoiAll [UInt8.ofNat (48 + m.val)] = .ok (m.val : Int) := by decide
  have := e ⟨c.toNat - 48, by omega⟩
  have hc : UInt8.ofNat (48 + (c.toNat - 48)) = c := by
    rw [show 48 + (c.toNat - 48) = c.toNat by omega]; simp
  rw [hc] at this
  exact this
theorem itoa_digit (c : UInt8) (h : 48 ≤ c.toNat ∧ c.toNat ≤ 57) : Lib.itoa ((c.toNat - 48 : Nat) : Int) = [c] := by
  unfold Lib.itoa
  rw [if_neg (by omega), Lib.decDigits, dif_pos (by omega)]
  have : 48 + (((c.toNat - 48 : Nat) : Int)).toNat = c.toNat := by omega
  rw [this]
  simp
theorem num_says {xs ys : List Pd} (hg : numL1 xs = some ys) : LibSays 179 xs ys := by
  intro w ρ S vs hk hS hsz hvs
  unfold numL1 at hg
  split at hg
  · rename_i s
    split at hg
    · rename_i c hc
      split at hg
      · rename_i hd
        injection hg with hg; subst hg
        have h0 := hvs 0 (by simp)
        obtain ⟨v, rfl⟩ := args1 hsz
        have h0 : VP S w (.str s) v := h0
        cases h0
        have hs1 : s.size = 1 := by rw [Lib.size_eq, hc]; rfl
        have hsz : s.size ≤ 1000000000 := by omega
        have ht : Lib.trimPrefix s.data.toList [45] = s.data.toList := by
          rw [hc]
          unfold Lib.trimPrefix
          have : Lib.hasPrefix [c] [45] = false := by
            have hne : c ≠ 45 := fun q => by rw [q] at hd; exact absurd hd.1 (by decide)
            show ([45].isPrefixOf [c]) = false
            simp only [List.isPrefixOf, Bool.and_true]
            exact beq_false_of_ne (fun q => hne q.symm)
          rw [this]; rfl
        refine (numberOf_ok s hsz w hk _ (by rw [hc]; exact atoi_digit c hd) _ rfl).mono ?_
        rintro e w' ⟨rfl, hb⟩
        rw [ht, hc, itoa_digit c hd, if_pos ⟨rfl, by simp⟩]
        refine ⟨_, S, rfl, ?_, hb, fun _ _ q => q, fun _ _ q => .inl q⟩
        refine .tup rfl fun j hj => ?_
        have hj : j < 2 := hj
        match j, hj with
        | 0, _ => exact .p .int
        | 1, _ => exact .p .bool
      · cases hg
    · cases hg
  · cases hg
theorem same_says {xs ys : List Pd} (hg : argsL xs = some ys) : LibSays 111 xs ys := by
  intro w ρ S vs hk hS hsz hvs
  unfold argsL at hg
  split at hg
  · injection hg with hg; subst hg
    have h0 : VP S w (.sl 4 []) (vs.getD 0 undef) := hvs 0 (by simp)
    have h1 : VP S w (.sl 4 []) (vs.getD 1 undef) := hvs 1 (by simp)
    obtain ⟨u, v, rfl⟩ := args2 hsz
    refine (same_calls [] [] (by simp) rfl hS h0 h1).mono ?_
    rintro e w' ⟨rfl, hb⟩
    exact ⟨_, S, rfl, .p .bool, hb, fun _ _ q => q, fun _ _ q => .inl q⟩
  · rename_i a k n t b l m u
    injection hg with hg; subst hg
    have h0 : VP S w (.sl 4 [[.str a, .int .i64 k, .int .i64 n, .str t]]) (vs.getD 0 undef) := hvs 0 (by simp)
    have h1 : VP S w (.sl 4 [[.str b, .int .i64 l, .int .i64 m, .str u]]) (vs.getD 1 undef) := hvs 1 (by simp)
    obtain ⟨x, y, rfl⟩ := args2 hsz
    refine (same_calls [(a, k, n, t)] [(b, l, m, u)] (by simp) rfl hS h0 h1).mono ?_
    rintro e w' ⟨rfl, hb⟩
    exact ⟨_, S, rfl, .p .bool, hb, fun _ _ q => q, fun _ _ q => .inl q⟩
  · cases hg
theorem libs : LibOK E0 tabK := by
  intro f g hf xs ys hg w ρ S vs hk hS hsz hvs
  have hf : libT f = some g := hf
  unfold libT at hf
  cases h1 : Nat.beq f 179 with
  | true =>
    rw [h1, cond_true] at hf
    injection hf with hf; subst hf
    obtain rfl := Nat.eq_of_beq_eq_true h1
    exact num_says hg w ρ S vs hk.1 hS hsz hvs
  | false =>
    rw [h1, cond_false] at hf
    cases h2 : Nat.beq f 111 with
    | true =>
      rw [h2, cond_true] at hf
      injection hf with hf; subst hf
      obtain rfl := Nat.eq_of_beq_eq_true h2
      exact same_says hg w ρ S vs hk.1 hS hsz hvs
    | false => rw [h2, cond_false] at hf; cases hf
end Go.Proofs.YtambpnaakfodhaaGreatDoor.Dm
