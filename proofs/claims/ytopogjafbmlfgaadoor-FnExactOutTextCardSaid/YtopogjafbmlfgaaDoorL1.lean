/- The library's functions by the kit's contracts: strconv.Itoa (its table of powers of ten in memory), strings.Join. -/
import Derived.Test.YtopogjafbmlfgaaDoorDm19
import Derived.Test.YtopogjafbmlfgaaDoorS2
import Derived.Shelf.Strconv.Itoa3
import Derived.Shelf.Strings.OnBuilder
namespace Go.Proofs.YtopogjafbmlfgaaDoor.Dm
open Go.Shelf Go.RowKit
set_option linter.unusedVariables false
set_option maxRecDepth 100000
def laysIR : Ren := ⟨fun | 171 => 23 | 243 => 30 | 246 => 40 | 283 => 45 | 284 => 46 | 285 => 47 | 286 => 48 | 129 => 52 | 317 => 51 | 318 => 53 | 319 => 54 | 320 => 55 | 337 => 56 | 338 => 57 | n => n, fun | 3 => 3 | 9 => 9 | 2 => 2 | 4 => 4 | 171 => 68 | 0 => 0 | 53 => 69 | 37 => 53 | 5 => 5 | 173 => 72 | 212 => 79 | 51 => 80 | 20 => 20 | 213 => 81 | 46 => 82 | 232 => 85 | 233 => 86 | n => n, fun | 17 => 0 | 18 => 2 | 19 => 3 | n => n⟩
theorem laysI : LaysM.n171 Tryd.prog laysIR where
  mixed := by kernel_rfl
  f129 := Tryd.func52.trans (congrArg some (by kernel_rfl))
  f171 := Tryd.func23.trans (congrArg some (by kernel_rfl))
  f243 := Tryd.func30.trans (congrArg some (by kernel_rfl))
  f246 := Tryd.func40.trans (congrArg some (by kernel_rfl))
  f283 := Tryd.func45.trans (congrArg some (by kernel_rfl))
  f284 := Tryd.func46.trans (congrArg some (by kernel_rfl))
  f285 := Tryd.func47.trans (congrArg some (by kernel_rfl))
  f286 := Tryd.func48.trans (congrArg some (by kernel_rfl))
  f317 := Tryd.func51.trans (congrArg some (by kernel_rfl))
  f318 := Tryd.func53.trans (congrArg some (by kernel_rfl))
  f319 := Tryd.func54.trans (congrArg some (by kernel_rfl))
  f320 := Tryd.func55.trans (congrArg some (by kernel_rfl))
  f337 := Tryd.func56.trans (congrArg some (by kernel_rfl))
  f338 := Tryd.func57.trans (congrArg some (by kernel_rfl))
  t0 := Tryd.underlying0
  a0 := Tryd.isAgg0
  z0 := Tryd.sizeOf0
  v0 := Tryd.zeroValue0
  t2 := Tryd.underlying2
  a2 := Tryd.isAgg2
  z2 := Tryd.sizeOf2
  v2 := Tryd.zeroValue2
  t3 := Tryd.underlying3
  a3 := Tryd.isAgg3
  z3 := Tryd.sizeOf3
  v3 := Tryd.zeroValue3
  t4 := Tryd.underlying4
  a4 := Tryd.isAgg4
  z4 := Tryd.sizeOf4
  v4 := Tryd.zeroValue4
  t5 := Tryd.underlying5
  a5 := Tryd.isAgg5
  z5 := Tryd.sizeOf5
  v5 := Tryd.zeroValue5
  t9 := Tryd.underlying9
  a9 := Tryd.isAgg9
  z9 := Tryd.sizeOf9
  v9 := Tryd.zeroValue9
  t20 := Tryd.underlying20
  a20 := Tryd.isAgg20
  z20 := Tryd.sizeOf20
  v20 := Tryd.zeroValue20
  t37 := Tryd.underlying53
  a37 := Tryd.isAgg53
  z37 := Tryd.sizeOf53
  v37 := Tryd.zeroValue53
  t46 := Tryd.underlying82
  a46 := Tryd.isAgg82
  z46 := Tryd.sizeOf82
  v46 := Tryd.zeroValue82
  t51 := Tryd.underlying80
  a51 := Tryd.isAgg80
  z51 := Tryd.sizeOf80
  v51 := Tryd.zeroValue80
  t53 := Tryd.underlying69
  a53 := Tryd.isAgg69
  z53 := Tryd.sizeOf69
  v53 := Tryd.zeroValue69
  t171 := Tryd.underlying68
  a171 := Tryd.isAgg68
  z171 := Tryd.sizeOf68
  v171 := Tryd.zeroValue68
  t173 := Tryd.underlying72
  a173 := Tryd.isAgg72
  z173 := Tryd.sizeOf72
  v173 := Tryd.zeroValue72
  t212 := Tryd.underlying79
  a212 := Tryd.isAgg79
  z212 := Tryd.sizeOf79
  v212 := Tryd.zeroValue79
  t213 := Tryd.underlying81
  a213 := Tryd.isAgg81
  z213 := Tryd.sizeOf81
  t232 := Tryd.underlying85
  a232 := Tryd.isAgg85
  z232 := Tryd.sizeOf85
  v232 := Tryd.zeroValue85
  t233 := Tryd.underlying86
  a233 := Tryd.isAgg86
  z233 := Tryd.sizeOf86
  v233 := Tryd.zeroValue86
  g17 := by kernel_rfl
  g18 := by kernel_rfl
  g19 := by kernel_rfl
  i0 := by kernel_rfl
  i2 := by kernel_rfl
  i3 := by kernel_rfl
  i4 := by kernel_rfl
  i5 := by kernel_rfl
  i9 := by kernel_rfl
  i20 := by kernel_rfl
  i37 := by kernel_rfl
  i46 := by kernel_rfl
  i51 := by kernel_rfl
  i53 := by kernel_rfl
  i171 := by kernel_rfl
  i173 := by kernel_rfl
  i212 := by kernel_rfl
  i232 := by kernel_rfl
  i233 := by kernel_rfl
  m17 := by kernel_rfl
  m18 := by kernel_rfl
  m19 := by kernel_rfl
def laysJR : Ren := ⟨fun | 156 => 24 | 165 => 31 | 166 => 32 | 169 => 33 | 240 => 41 | 241 => 42 | 276 => 49 | 277 => 50 | n => n, fun | 31 => 22 | 9 => 9 | 3 => 3 | 4 => 4 | 0 => 0 | 20 => 20 | 72 => 58 | 76 => 62 | 70 => 56 | 37 => 53 | 75 => 61 | 127 => 67 | 164 => 74 | 5 => 5 | 80 => 41 | n => n, fun n => n⟩
theorem laysJ : Lays.n156 Tryd.prog laysJR where
  mixed := by kernel_rfl
  f156 := Tryd.func24.trans (congrArg some (by kernel_rfl))
  f165 := Tryd.func31.trans (congrArg some (by kernel_rfl))
  f166 := Tryd.func32.trans (congrArg some (by kernel_rfl))
  f169 := Tryd.func33.trans (congrArg some (by kernel_rfl))
  f240 := Tryd.func41.trans (congrArg some (by kernel_rfl))
  f241 := Tryd.func42.trans (congrArg some (by kernel_rfl))
  f276 := Tryd.func49.trans (congrArg some (by kernel_rfl))
  f277 := Tryd.func50.trans (congrArg some (by kernel_rfl))
  t0 := Tryd.underlying0
  a0 := Tryd.isAgg0
  z0 := Tryd.sizeOf0
  v0 := Tryd.zeroValue0
  t3 := Tryd.underlying3
  a3 := Tryd.isAgg3
  z3 := Tryd.sizeOf3
  v3 := Tryd.zeroValue3
  t4 := Tryd.underlying4
  a4 := Tryd.isAgg4
  z4 := Tryd.sizeOf4
  v4 := Tryd.zeroValue4
  t9 := Tryd.underlying9
  a9 := Tryd.isAgg9
  z9 := Tryd.sizeOf9
  v9 := Tryd.zeroValue9
  t20 := Tryd.underlying20
  a20 := Tryd.isAgg20
  z20 := Tryd.sizeOf20
  v20 := Tryd.zeroValue20
  t31 := Tryd.underlying22
  a31 := Tryd.isAgg22
  z31 := Tryd.sizeOf22
  v31 := Tryd.zeroValue22
  t37 := Tryd.underlying53
  a37 := Tryd.isAgg53
  z37 := Tryd.sizeOf53
  v37 := Tryd.zeroValue53
  t70 := Tryd.underlying56
  a70 := Tryd.isAgg56
  z70 := Tryd.sizeOf56
  v70 := Tryd.zeroValue56
  t72 := Tryd.underlying58
  a72 := Tryd.isAgg58
  z72 := Tryd.sizeOf58
  v72 := Tryd.zeroValue58
  t75 := Tryd.underlying61
  a75 := Tryd.isAgg61
  z75 := Tryd.sizeOf61
  v75 := Tryd.zeroValue61
  t76 := Tryd.underlying62
  a76 := Tryd.isAgg62
  z76 := Tryd.sizeOf62
  v76 := Tryd.zeroValue62
  t127 := Tryd.underlying67
  a127 := Tryd.isAgg67
  z127 := Tryd.sizeOf67
  v127 := Tryd.zeroValue67
  t164 := Tryd.underlying74
  a164 := Tryd.isAgg74
  z164 := Tryd.sizeOf74
  v164 := Tryd.zeroValue74
theorem extraJ : Builder.Extra Tryd.prog laysJR where
  sizeBuilder := by kernel_rfl
  liesBuilder := by kernel_rfl
  t5 := Tryd.underlying5
  a5 := Tryd.isAgg5
  z5 := Tryd.sizeOf5
  v5 := Tryd.zeroValue5
  infoByte := by kernel_rfl
  cellsByte := by kernel_rfl
  sizeByte := by kernel_rfl
  neB5 := by decide
/-- the table of powers of ten is kept -/
def tabG : Nat := laysIR.g 17
theorem tabIs_keep {w w' : World} (h : Lib.TabIs Tryd.prog w "internal/strconv.uint64pow10" .u64 Lib.pow10Tab) (hb : w'.heap[tabG]? = w.heap[tabG]?) : Lib.TabIs Tryd.prog w' "internal/strconv.uint64pow10" .u64 Lib.pow10Tab := by
  unfold Lib.TabIs World.var? at h ⊢
  rw [laysI.m17] at h ⊢
  have hb : w'.heap[laysIR.g 17]? = w.heap[laysIR.g 17]? := hb
  simp only [Option.bind_some] at h ⊢
  rw [hb]
  exact h
def tabK : Kp := ⟨fun b => b = tabG, fun w => Lib.TabIs Tryd.prog w "internal/strconv.uint64pow10" .u64 Lib.pow10Tab, fun _ _ h _ hb => tabIs_keep h (hb tabG rfl)⟩
theorem tabLt {w : World} (h : Lib.TabIs Tryd.prog w "internal/strconv.uint64pow10" .u64 Lib.pow10Tab) : tabG < w.heap.size := by
  unfold Lib.TabIs World.var? at h
  rw [laysI.m17] at h
  simp only [Option.bind_some] at h
  rcases Nat.lt_or_ge tabG w.heap.size with q | q
  · exact q
  · exfalso
    have : w.heap[laysIR.g 17]? = none := Array.getElem?_eq_none q
    rw [this] at h
    cases h
theorem strsOf_get : ∀ {es : List (List Pd)} {xs : List ByteArray}, strsOf es = some xs → xs.length = es.length ∧ ∀ (j : Nat) (x : ByteArray), xs[j]? = some x → es[j]? = some ([.str x] : List Pd)
  | [], xs, h => by
    simp only [strsOf] at h
    injection h with h; subst h
    exact ⟨rfl, fun j x hx => by simp at hx⟩
  | [.str s] :: es, xs, h => by
    simp only [strsOf] at h
    split at h
    · rename_i r hr
      injection h with h; subst h
      obtain ⟨q1, q2⟩ := strsOf_get hr
      refine ⟨by simp [q1], fun j x hx => ?_⟩
      cases j with
      | zero =>
        simp only [List.getElem?_cons_zero, Option.some.injEq] at hx ⊢
        rw [hx]
      | succ j =>
        simp only [List.getElem?_cons_succ] at hx ⊢
        exact q2 j x hx
    · cases h
  | [] :: _, _, h => by cases h
  | (.int .. :: _) :: _, _, h => by simp [strsOf] at h
  | (.bool _ :: _) :: _, _, h => by simp [strsOf] at h
  | (.agg .. :: _) :: _, _, h => by simp [strsOf] at h
  | (.sl .. :: _) :: _, _, h => by simp [strsOf] at h
  | (.fn _ :: _) :: _, _, h => by simp [strsOf] at h
  | (.undef :: _) :: _, _, h => by simp [strsOf] at h
  | (.str _ :: _ :: _) :: _, _, h => by simp [strsOf] at h
theorem libs : LibOK E0 tabK := by
  intro f g hf xs y hg w S vs hk hS hsz hvs
  have hf : libT f = some g := hf
  unfold libT at hf
  split at hf
  · rename_i hfi
    injection hf with hf; subst hf
    unfold itoaL at hg
    split at hg
    · rename_i n
      split at hg
      · rename_i hn
        injection hg with hg; subst hg
        have h0 := hvs 0 (by simp)
        obtain ⟨v, rfl⟩ : ∃ v, vs = #[v] := by
          refine ⟨vs.getD 0 undef, ?_⟩
          have hs : vs.size = 1 := hsz
          apply Array.ext
          · simpa using hs
          · intro i h1 h2
            have : i = 0 := by omega
            subst this
            simp [Array.getD_eq_getD_getElem?, h1]
        have h0 : VP S w (.int .i64 n) v := h0
        cases h0
        have hc := Any.strconv_Itoa laysI n hn.1 hn.2 w hk.1
        have e : laysIR.f 171 = f := hfi.symm
        rw [e] at hc
        refine hc.mono ?_
        rintro e w' ⟨rfl, k, os, rfl⟩
        refine ⟨_, rfl, .str, ⟨rfl, rfl, rfl, ?_, fun b hb => ?_⟩⟩
        · show w.heap.size ≤ (w.heap ++ os).size
          simp
        · show (w.heap ++ os)[b]? = w.heap[b]?
          exact Array.getElem?_append_left hb
      · cases hg
    · cases hg
  · split at hf
    · rename_i hfi
      injection hf with hf; subst hf
      unfold joinL at hg
      split at hg
      · rename_i es sep
        split at hg
        · rename_i ws hws
          split at hg
          · rename_i hl
            injection hg with hg; subst hg
            have h0 : VP S w (.sl 1 es) (vs.getD 0 undef) := hvs 0 (by simp)
            have h1 : VP S w (.str sep) (vs.getD 1 undef) := hvs 1 (by simp)
            obtain ⟨u, v, rfl⟩ : ∃ u v, vs = #[u, v] := by
              refine ⟨vs.getD 0 undef, vs.getD 1 undef, ?_⟩
              have hs : vs.size = 2 := hsz
              apply Array.ext
              · simpa using hs
              · intro i h1 h2
                have : i = 0 ∨ i = 1 := by omega
                rcases this with q | q <;> subst q <;> simp [Array.getD_eq_getD_getElem?, h1]
            have h0 : VP S w (.sl 1 es) u := h0
            have h1 : VP S w (.str sep) v := h1
            obtain ⟨hwl, hwg⟩ := strsOf_get hws
            have ef : laysJR.f 156 = f := hfi.symm
            cases h1
            cases h0 with
            | sl ad vals q1 q2 q3 q4 q5 =>
              rename_i a len cap
              rcases Nat.eq_zero_or_pos len with hz | hp
              · subst hz
                have hes : es = [] := List.eq_nil_of_length_eq_zero q1.symm
                subst hes
                have hws : ws = [] := List.eq_nil_of_length_eq_zero (by simpa using hwl)
                subst hws
                have hc := Any.strings_Join_none laysJ extraJ a cap sep w
                rw [ef] at hc
                refine hc.mono ?_
                rintro e w' ⟨rfl, rfl⟩
                exact ⟨_, rfl, .str, Below.refl _ _⟩
              · obtain ⟨rfl, hspot⟩ := q3 hp
                obtain ⟨bk, o, sp⟩ := ad
                have hspot : sp = none := hspot
                subst hspot
                have hcells : ∀ (j : Nat) x, ws[j]? = some x → w.cell? ⟨bk, o + j, none⟩ = some (.string x) := by
                  intro j x hx
                  have hj : j < len := by
                    rw [q1, ← hwl]
                    exact (List.getElem?_eq_some_iff.1 hx).1
                  have c1 := (q4 j 0 hj (by omega)).2.1
                  have c2 := q5 j 0 hj (by omega)
                  have hgd : es.getD j [] = [.str x] := by rw [List.getD_eq_getElem?_getD, hwg j x hx]; rfl
                  rw [hgd] at c2
                  have c2 : VP S w (.str x) (vals j 0) := c2
                  generalize vals j 0 = z at c1 c2
                  cases c2
                  simpa using c1
                have hbk : bk < w.heap.size := hS bk _ (q4 0 0 hp (by omega)).1
                have hlen : len = ws.length := by rw [q1, hwl]
                subst hlen
                have hc := Any.strings_Join laysJ extraJ bk o cap ws sep w hcells hbk hl.1 q2 hl.2
                rw [ef] at hc
                refine hc.mono ?_
                rintro e w' ⟨rfl, hb⟩
                exact ⟨_, rfl, .str, hb⟩
          · cases hg
        · cases hg
      · cases hg
    · cases hf
end Go.Proofs.YtopogjafbmlfgaaDoor.Dm
