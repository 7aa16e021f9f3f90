/- The library's functions by the kit's contracts: strconv.Itoa (its table of powers of ten in memory), strings.Join. -/
import Derived.Test.YtlmmimhjfajhdaaGreatDoorDm19
import Derived.Test.YtlmmimhjfajhdaaGreatDoorS2
import Derived.Shelf.Strconv.Itoa3
import Derived.Shelf.Strings.OnBuilder
namespace Go.Proofs.YtlmmimhjfajhdaaGreatDoor.Dm
open Go.Shelf Go.RowKit
set_option linter.unusedVariables false
set_option maxRecDepth 100000
def laysIR : Ren := ⟨fun | 171 => 30 | 243 => 53 | 246 => 72 | 283 => 85 | 284 => 86 | 285 => 87 | 286 => 88 | 129 => 99 | 317 => 98 | 318 => 100 | 319 => 101 | 320 => 102 | 337 => 109 | 338 => 110 | n => n, fun | 3 => 3 | 9 => 9 | 2 => 2 | 4 => 4 | 171 => 129 | 0 => 0 | 53 => 130 | 37 => 95 | 5 => 5 | 173 => 133 | 212 => 146 | 51 => 147 | 20 => 20 | 213 => 148 | 46 => 149 | 232 => 163 | 233 => 164 | n => n, fun | 17 => 0 | 18 => 2 | 19 => 3 | n => n⟩
theorem laysI : LaysM.n171 Tryz.prog laysIR where
  mixed := by kernel_rfl
  f129 := Tryz.func99.trans (congrArg some (by kernel_rfl))
  f171 := Tryz.func30.trans (congrArg some (by kernel_rfl))
  f243 := Tryz.func53.trans (congrArg some (by kernel_rfl))
  f246 := Tryz.func72.trans (congrArg some (by kernel_rfl))
  f283 := Tryz.func85.trans (congrArg some (by kernel_rfl))
  f284 := Tryz.func86.trans (congrArg some (by kernel_rfl))
  f285 := Tryz.func87.trans (congrArg some (by kernel_rfl))
  f286 := Tryz.func88.trans (congrArg some (by kernel_rfl))
  f317 := Tryz.func98.trans (congrArg some (by kernel_rfl))
  f318 := Tryz.func100.trans (congrArg some (by kernel_rfl))
  f319 := Tryz.func101.trans (congrArg some (by kernel_rfl))
  f320 := Tryz.func102.trans (congrArg some (by kernel_rfl))
  f337 := Tryz.func109.trans (congrArg some (by kernel_rfl))
  f338 := Tryz.func110.trans (congrArg some (by kernel_rfl))
  t0 := Tryz.underlying0
  a0 := Tryz.isAgg0
  z0 := Tryz.sizeOf0
  v0 := Tryz.zeroValue0
  t2 := Tryz.underlying2
  a2 := Tryz.isAgg2
  z2 := Tryz.sizeOf2
  v2 := Tryz.zeroValue2
  t3 := Tryz.underlying3
  a3 := Tryz.isAgg3
  z3 := Tryz.sizeOf3
  v3 := Tryz.zeroValue3
  t4 := Tryz.underlying4
  a4 := Tryz.isAgg4
  z4 := Tryz.sizeOf4
  v4 := Tryz.zeroValue4
  t5 := Tryz.underlying5
  a5 := Tryz.isAgg5
  z5 := Tryz.sizeOf5
  v5 := Tryz.zeroValue5
  t9 := Tryz.underlying9
  a9 := Tryz.isAgg9
  z9 := Tryz.sizeOf9
  v9 := Tryz.zeroValue9
  t20 := Tryz.underlying20
  a20 := Tryz.isAgg20
  z20 := Tryz.sizeOf20
  v20 := Tryz.zeroValue20
  t37 := Tryz.underlying95
  a37 := Tryz.isAgg95
  z37 := Tryz.sizeOf95
  v37 := Tryz.zeroValue95
  t46 := Tryz.underlying149
  a46 := Tryz.isAgg149
  z46 := Tryz.sizeOf149
  v46 := Tryz.zeroValue149
  t51 := Tryz.underlying147
  a51 := Tryz.isAgg147
  z51 := Tryz.sizeOf147
  v51 := Tryz.zeroValue147
  t53 := Tryz.underlying130
  a53 := Tryz.isAgg130
  z53 := Tryz.sizeOf130
  v53 := Tryz.zeroValue130
  t171 := Tryz.underlying129
  a171 := Tryz.isAgg129
  z171 := Tryz.sizeOf129
  v171 := Tryz.zeroValue129
  t173 := Tryz.underlying133
  a173 := Tryz.isAgg133
  z173 := Tryz.sizeOf133
  v173 := Tryz.zeroValue133
  t212 := Tryz.underlying146
  a212 := Tryz.isAgg146
  z212 := Tryz.sizeOf146
  v212 := Tryz.zeroValue146
  t213 := Tryz.underlying148
  a213 := Tryz.isAgg148
  z213 := Tryz.sizeOf148
  t232 := Tryz.underlying163
  a232 := Tryz.isAgg163
  z232 := Tryz.sizeOf163
  v232 := Tryz.zeroValue163
  t233 := Tryz.underlying164
  a233 := Tryz.isAgg164
  z233 := Tryz.sizeOf164
  v233 := Tryz.zeroValue164
  g17 := by kernel_rfl
  g18 := by kernel_rfl
  g19 := by kernel_rfl
  i0 := by kernel_rfl
  i2 := by kernel_rfl
  i3 := by kernel_rfl
  i4 := by kernel_rfl
  i5 := by kernel_rfl
  i9 := by kernel_rfl
  i20 := by kernel_rfl
  i37 := by kernel_rfl
  i46 := by kernel_rfl
  i51 := by kernel_rfl
  i53 := by kernel_rfl
  i171 := by kernel_rfl
  i173 := by kernel_rfl
  i212 := by kernel_rfl
  i232 := by kernel_rfl
  i233 := by kernel_rfl
  m17 := by kernel_rfl
  m18 := by kernel_rfl
  m19 := by kernel_rfl
def laysJR : Ren := ⟨fun | 156 => 32 | 165 => 55 | 166 => 56 | 169 => 57 | 240 => 73 | 241 => 74 | 276 => 89 | 277 => 90 | n => n, fun | 31 => 65 | 9 => 9 | 3 => 3 | 4 => 4 | 0 => 0 | 20 => 20 | 72 => 97 | 76 => 101 | 70 => 94 | 37 => 95 | 75 => 100 | 127 => 116 | 164 => 135 | 5 => 5 | 80 => 50 | n => n, fun n => n⟩
theorem laysJ : Lays.n156 Tryz.prog laysJR where
  mixed := by kernel_rfl
  f156 := Tryz.func32.trans (congrArg some (by kernel_rfl))
  f165 := Tryz.func55.trans (congrArg some (by kernel_rfl))
  f166 := Tryz.func56.trans (congrArg some (by kernel_rfl))
  f169 := Tryz.func57.trans (congrArg some (by kernel_rfl))
  f240 := Tryz.func73.trans (congrArg some (by kernel_rfl))
  f241 := Tryz.func74.trans (congrArg some (by kernel_rfl))
  f276 := Tryz.func89.trans (congrArg some (by kernel_rfl))
  f277 := Tryz.func90.trans (congrArg some (by kernel_rfl))
  t0 := Tryz.underlying0
  a0 := Tryz.isAgg0
  z0 := Tryz.sizeOf0
  v0 := Tryz.zeroValue0
  t3 := Tryz.underlying3
  a3 := Tryz.isAgg3
  z3 := Tryz.sizeOf3
  v3 := Tryz.zeroValue3
  t4 := Tryz.underlying4
  a4 := Tryz.isAgg4
  z4 := Tryz.sizeOf4
  v4 := Tryz.zeroValue4
  t9 := Tryz.underlying9
  a9 := Tryz.isAgg9
  z9 := Tryz.sizeOf9
  v9 := Tryz.zeroValue9
  t20 := Tryz.underlying20
  a20 := Tryz.isAgg20
  z20 := Tryz.sizeOf20
  v20 := Tryz.zeroValue20
  t31 := Tryz.underlying65
  a31 := Tryz.isAgg65
  z31 := Tryz.sizeOf65
  v31 := Tryz.zeroValue65
  t37 := Tryz.underlying95
  a37 := Tryz.isAgg95
  z37 := Tryz.sizeOf95
  v37 := Tryz.zeroValue95
  t70 := Tryz.underlying94
  a70 := Tryz.isAgg94
  z70 := Tryz.sizeOf94
  v70 := Tryz.zeroValue94
  t72 := Tryz.underlying97
  a72 := Tryz.isAgg97
  z72 := Tryz.sizeOf97
  v72 := Tryz.zeroValue97
  t75 := Tryz.underlying100
  a75 := Tryz.isAgg100
  z75 := Tryz.sizeOf100
  v75 := Tryz.zeroValue100
  t76 := Tryz.underlying101
  a76 := Tryz.isAgg101
  z76 := Tryz.sizeOf101
  v76 := Tryz.zeroValue101
  t127 := Tryz.underlying116
  a127 := Tryz.isAgg116
  z127 := Tryz.sizeOf116
  v127 := Tryz.zeroValue116
  t164 := Tryz.underlying135
  a164 := Tryz.isAgg135
  z164 := Tryz.sizeOf135
  v164 := Tryz.zeroValue135
theorem extraJ : Builder.Extra Tryz.prog laysJR where
  sizeBuilder := by kernel_rfl
  liesBuilder := by kernel_rfl
  t5 := Tryz.underlying5
  a5 := Tryz.isAgg5
  z5 := Tryz.sizeOf5
  v5 := Tryz.zeroValue5
  infoByte := by kernel_rfl
  cellsByte := by kernel_rfl
  sizeByte := by kernel_rfl
  neB5 := by decide
/-- the table of powers of ten is kept -/
def tabG : Nat := laysIR.g 17
theorem tabIs_keep {w w' : World} (h : Lib.TabIs Tryz.prog w "internal/strconv.uint64pow10" .u64 Lib.pow10Tab) (hb : w'.heap[tabG]? = w.heap[tabG]?) : Lib.TabIs Tryz.prog w' "internal/strconv.uint64pow10" .u64 Lib.pow10Tab := by
  unfold Lib.TabIs World.var? at h ⊢
  rw [laysI.m17] at h ⊢
  have hb : w'.heap[laysIR.g 17]? = w.heap[laysIR.g 17]? := hb
  simp only [Option.bind_some] at h ⊢
  rw [hb]
  exact h
def tabK : Kp := ⟨fun b => b = tabG, fun w => Lib.TabIs Tryz.prog w "internal/strconv.uint64pow10" .u64 Lib.pow10Tab, fun _ _ h _ hb => tabIs_keep h (hb tabG rfl)⟩
theorem tabLt {w : World} (h : Lib.TabIs Tryz.prog w "internal/strconv.uint64pow10" .u64 Lib.pow10Tab) : tabG < w.heap.size := by
  unfold Lib.TabIs World.var? at h
  rw [laysI.m17] at h
  simp only [Option.bind_some] at h
  rcases Nat.lt_or_ge tabG w.heap.size with q | q
  · exact q
  · exfalso
    have : w.heap[laysIR.g 17]? = none := Array.getElem?_eq_none q
    rw [this] at h
    cases h
theorem strsOf_get : ∀ {es : List (List Pd)} {xs : List ByteArray}, strsOf es = some xs → xs.length = es.length ∧ ∀ (j : Nat) (x : ByteArray), xs[j]? = some x → es[j]? = some ([.str x] : List Pd)
  | [], xs, h => by
    simp only [strsOf] at h
    injection h with h; subst h
    exact ⟨rfl, fun j x hx => by simp at hx⟩
  | [.str s] :: es, xs, h => by
    simp only [strsOf] at h
    split at h
    · rename_i r hr
      injection h with h; subst h
      obtain ⟨q1, q2⟩ := strsOf_get hr
      refine ⟨by simp [q1], fun j x hx => ?_⟩
      cases j with
      | zero =>
        simp only [List.getElem?_cons_zero, Option.some.injEq] at hx ⊢
        rw [hx]
      | succ j =>
        simp only [List.getElem?_cons_succ] at hx ⊢
        exact q2 j x hx
    · cases h
  | [] :: _, _, h => by cases h
  | (.int .. :: _) :: _, _, h => by simp [strsOf] at h
  | (.bool _ :: _) :: _, _, h => by simp [strsOf] at h
  | (.agg .. :: _) :: _, _, h => by simp [strsOf] at h
  | (.sl .. :: _) :: _, _, h => by simp [strsOf] at h
  | (.fn _ :: _) :: _, _, h => by simp [strsOf] at h
  | (.undef :: _) :: _, _, h => by simp [strsOf] at h
  | (.str _ :: _ :: _) :: _, _, h => by simp [strsOf] at h
theorem libs : LibOK E0 tabK := by
  intro f g hf xs y hg w S vs hk hS hsz hvs
  have hf : libT f = some g := hf
  unfold libT at hf
  split at hf
  · rename_i hfi
    injection hf with hf; subst hf
    unfold itoaL at hg
    split at hg
    · rename_i n
      split at hg
      · rename_i hn
        injection hg with hg; subst hg
        have h0 := hvs 0 (by simp)
        obtain ⟨v, rfl⟩ : ∃ v, vs = #[v] := by
          refine ⟨vs.getD 0 undef, ?_⟩
          have hs : vs.size = 1 := hsz
          apply Array.ext
          · simpa using hs
          · intro i h1 h2
            have : i = 0 := by omega
            subst this
            simp [Array.getD_eq_getD_getElem?, h1]
        have h0 : VP S w (.int .i64 n) v := h0
        cases h0
        have hc := Any.strconv_Itoa laysI n hn.1 hn.2 w hk.1
        have e : laysIR.f 171 = f := hfi.symm
        rw [e] at hc
        refine hc.mono ?_
        rintro e w' ⟨rfl, k, os, rfl⟩
        refine ⟨_, rfl, .str, ⟨rfl, rfl, rfl, ?_, fun b hb => ?_⟩⟩
        · show w.heap.size ≤ (w.heap ++ os).size
          simp
        · show (w.heap ++ os)[b]? = w.heap[b]?
          exact Array.getElem?_append_left hb
      · cases hg
    · cases hg
  · split at hf
    · rename_i hfi
      injection hf with hf; subst hf
      unfold joinL at hg
      split at hg
      · rename_i es sep
        split at hg
        · rename_i ws hws
          split at hg
          · rename_i hl
            injection hg with hg; subst hg
            have h0 : VP S w (.sl 1 es) (vs.getD 0 undef) := hvs 0 (by simp)
            have h1 : VP S w (.str sep) (vs.getD 1 undef) := hvs 1 (by simp)
            obtain ⟨u, v, rfl⟩ : ∃ u v, vs = #[u, v] := by
              refine ⟨vs.getD 0 undef, vs.getD 1 undef, ?_⟩
              have hs : vs.size = 2 := hsz
              apply Array.ext
              · simpa using hs
              · intro i h1 h2
                have : i = 0 ∨ i = 1 := by omega
                rcases this with q | q <;> subst q <;> simp [Array.getD_eq_getD_getElem?, h1]
            have h0 : VP S w (.sl 1 es) u := h0
            have h1 : VP S w (.str sep) v := h1
            obtain ⟨hwl, hwg⟩ := strsOf_get hws
            have ef : laysJR.f 156 = f := hfi.symm
            cases h1
            cases h0 with
            | sl ad vals q1 q2 q3 q4 q5 =>
              rename_i a len cap
              rcases Nat.eq_zero_or_pos len with hz | hp
              · subst hz
                have hes : es = [] := List.eq_nil_of_length_eq_zero q1.symm
                subst hes
                have hws : ws = [] := List.eq_nil_of_length_eq_zero (by simpa using hwl)
                subst hws
                have hc := Any.strings_Join_none laysJ extraJ a cap sep w
                rw [ef] at hc
                refine hc.mono ?_
                rintro e w' ⟨rfl, rfl⟩
                exact ⟨_, rfl, .str, Below.refl _ _⟩
              · obtain ⟨rfl, hspot⟩ := q3 hp
                obtain ⟨bk, o, sp⟩ := ad
                have hspot : sp = none := hspot
                subst hspot
                have hcells : ∀ (j : Nat) x, ws[j]? = some x → w.cell? ⟨bk, o + j, none⟩ = some (.string x) := by
                  intro j x hx
                  have hj : j < len := by
                    rw [q1, ← hwl]
                    exact (List.getElem?_eq_some_iff.1 hx).1
                  have c1 := (q4 j 0 hj (by omega)).2.1
                  have c2 := q5 j 0 hj (by omega)
                  have hgd : es.getD j [] = [.str x] := by rw [List.getD_eq_getElem?_getD, hwg j x hx]; rfl
                  rw [hgd] at c2
                  have c2 : VP S w (.str x) (vals j 0) := c2
                  generalize vals j 0 = z at c1 c2
                  cases c2
                  simpa using c1
                have hbk : bk < w.heap.size := hS bk _ (q4 0 0 hp (by omega)).1
                have hlen : len = ws.length := by rw [q1, hwl]
                subst hlen
                have hc := Any.strings_Join laysJ extraJ bk o cap ws sep w hcells hbk hl.1 q2 hl.2
                rw [ef] at hc
                refine hc.mono ?_
                rintro e w' ⟨rfl, hb⟩
                exact ⟨_, rfl, .str, hb⟩
          · cases hg
        · cases hg
      · cases hg
    · cases hf
end Go.Proofs.YtlmmimhjfajhdaaGreatDoor.Dm
