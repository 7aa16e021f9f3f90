/- The machine over plain data and memory: what a call is handed, read as data. -/
import Derived.Test.YtmnoibkdmeajpaaGreatDm17
import Derived.ChangeShapes
import GoSem.ClaimChange
namespace Go.Proofs.YtmnoibkdmeajpaaGreat.Dm
set_option linter.unusedSectionVars false
open Go.RowKit
set_option linter.unusedVariables false
set_option linter.unusedSimpArgs false
inductive WT (P : Program) : TypeId → List Pd → Prop
 | bool {t b} : P.underlying t = some .bool → WT P t [.bool b]
 | int {t k n} : P.underlying t = some (.int k) → (Lit.int k n).wf = true → WT P t [.int k n]
 | str {t s} : P.underlying t = some .string → s.size ≤ maxLen → WT P t [.str s]
 | sl {t e es} : P.underlying t = some (.slice e) → es.length ≤ maxLen → (∀ x ∈ es, x.length = P.cellsOf e) → (∀ x ∈ es, WT P e x) → WT P t [.sl (P.cellsOf e) es]
 | struct {t fs xs} : P.underlying t = some (.struct fs) → xs.length = P.cellsOf t → (∀ f ∈ fs.toList, WT P f.type ((xs.drop f.offset).take (P.cellsOf f.type))) → WT P t xs
def laidC (P : Program) : Nat → List Field → Option Nat
 | acc, [] => some acc
 | acc, f :: fs => if f.offset = acc then laidC P (acc + P.cellsOf f.type) fs else none
def dataT (P : Program) (ts : List TypeId) (t : TypeId) : Bool := match P.underlying t with
 | some .bool => P.cellsOf t == 1
 | some (.int _) => P.cellsOf t == 1
 | some .string => P.cellsOf t == 1
 | some (.slice e) => P.cellsOf t == 1 && P.cellsOf e != 0 && ts.contains e
 | some (.struct fs) => laidC P 0 fs.toList == some (P.cellsOf t) && fs.toList.all (fun f => ts.contains f.type)
 | _ => false
def dataSet (P : Program) (ts : List TypeId) : Bool := ts.all (dataT P ts)
abbrev SW (W : World) : Nat → Nat → Prop := SZ W
structure Good (P : Program) (W : World) (t : TypeId) (cs : List Value) (xs : List Pd) : Prop where
 lx : xs.length = P.cellsOf t
 lc : cs.length = P.cellsOf t
 wt : WT P t xs
 one : ∀ j, j < P.cellsOf t → (cs.getD j undef).oneCell' = true
 vp : ∀ j, j < P.cellsOf t → VP (SW W) W (xs.getD j .undef) (cs.getD j undef)
variable {H : Type} {enc : TypeId × Value → H} {P : Program} {W : World} {spare : Nat → Bool} {held : Bool}
theorem mapM_get {α β : Type} {f : α → Option β} : ∀ {l : List α} {r : List β}, l.mapM f = some r → r.length = l.length ∧ ∀ i (h : i < l.length) , ∃ y, f l[i] = some y ∧ r[i]? = some y
 | [], r, h => by simp at h; subst h; exact ⟨rfl, fun i h => by cases h⟩
 | x :: l, r, h => by
  rw [List.mapM_cons] at h
  cases hx : f x with
  | none => rw [hx] at h; cases h
  | some y =>
   rw [hx] at h
   cases hl : l.mapM f with
   | none => rw [hl] at h; cases h
   | some ys =>
    rw [hl] at h
    injection h with h
    subst h
    obtain ⟨q1, q2⟩ := mapM_get hl
    refine ⟨by simp [q1], fun i hi => ?_⟩
    cases i with
    | zero => exact ⟨y, hx, rfl⟩
    | succ i =>
     obtain ⟨z, z1, z2⟩ := q2 i (by simpa using hi)
     exact ⟨z, z1, by simpa using z2⟩
theorem cells_get {a : Addr} {n : Nat} {cs : List Value} (h : W.cells? 0 a n = some cs) : cs.length = n ∧ ∀ i, i < n → W.cell? (a.add i) = some (cs.getD i undef) := by
 unfold World.cells? at h
 rw [if_pos (Nat.zero_le _)] at h
 obtain ⟨q1, q2⟩ := mapM_get h
 refine ⟨by rw [q1, List.length_range], fun i hi => ?_⟩
 obtain ⟨y, y1, y2⟩ := q2 i (by rw [List.length_range]; exact hi)
 rw [List.getElem_range] at y1
 rw [y1, List.getD_eq_getElem?_getD, y2]
 rfl
theorem cell_spot {a : Addr} {v : Value} (h : W.cell? a = some v) : a.spot = none ∧ a.block < W.heap.size := by
 unfold World.cell? at h
 split at h
 ·rename_i c e f hb
  split at h
  ·cases h
  ·rename_i hs
   exact ⟨by simpa using hs, (Array.getElem?_eq_some_iff.1 hb).1⟩
 ·cases h
theorem fields_vp {ts : List TypeId} {fuel : Nat} (ih : ∀ t, t ∈ ts → ∀ cs r, DataW.trod enc P W 0 spare held fuel t cs = some r → ∃ xs, Good P W t cs xs) (cs : List Value) : ∀ (fs : List Field) (acc n : Nat) (ys : List (DataW H × List MemPlace)), laidC P acc fs = some n → (∀ f ∈ fs, f.type ∈ ts) →
 fs.mapM (fun f => DataW.trod enc P W 0 spare held fuel f.type ((cs.drop f.offset).take (P.cellsOf f.type))) = some ys →
 ∃ xs : List Pd, acc ≤ n ∧ xs.length = n - acc ∧ (∀ f ∈ fs, acc ≤ f.offset ∧ WT P f.type ((xs.drop (f.offset - acc)).take (P.cellsOf f.type))) ∧ ∀ j, acc ≤ j → j < n → (cs.getD j undef).oneCell' = true ∧ VP (SW W) W (xs.getD (j - acc) .undef) (cs.getD j undef)
 | [], acc, n, ys, hl, _, _ => by
  simp only [laidC] at hl
  injection hl with hl; subst hl
  exact ⟨[], Nat.le_refl _, by simp, (fun f hf => by cases hf), fun j h1 h2 => by omega⟩
 | f :: fs, acc, n, ys, hl, hts, hm => by
  simp only [laidC] at hl
  split at hl
  ·rename_i hoff
   rw [List.mapM_cons] at hm
   cases hx : DataW.trod enc P W 0 spare held fuel f.type ((cs.drop f.offset).take (P.cellsOf f.type)) with
   | none => rw [hx] at hm; cases hm
   | some y =>
    rw [hx] at hm
    cases hr : fs.mapM (fun f => DataW.trod enc P W 0 spare held fuel f.type ((cs.drop f.offset).take (P.cellsOf f.type))) with
    | none => rw [hr] at hm; cases hm
    | some ys' =>
     obtain ⟨xf, g⟩ := ih f.type (hts f (List.mem_cons_self ..)) _ _ hx
     obtain ⟨xs, p1, p2, p3, p4⟩ := fields_vp ih cs fs (acc + P.cellsOf f.type) n ys' hl (fun f hf => hts f (List.mem_cons_of_mem _ hf)) hr
     refine ⟨xf ++ xs, by omega, by rw [List.length_append, g.lx, p2]; omega, fun f' hf' => ?_, fun j h1 h2 => ?_⟩
     ·rcases List.mem_cons.1 hf' with q | q
      ·subst q
       refine ⟨by omega, ?_⟩
       rw [hoff, Nat.sub_self, List.drop_zero]
       have : (xf ++ xs).take (P.cellsOf f'.type) = xf := by rw [← g.lx]; simp
       rw [this]; exact g.wt
      ·obtain ⟨q1, q2⟩ := p3 f' q
       refine ⟨by omega, ?_⟩
       have : (xf ++ xs).drop (f'.offset - acc) = xs.drop (f'.offset - (acc + P.cellsOf f.type)) := by
        rw [List.drop_append]
        have e1 : xf.drop (f'.offset - acc) = [] := List.drop_eq_nil_of_le (by rw [g.lx]; omega)
        rw [e1, g.lx, List.nil_append]
        congr 1
        omega
       rw [this]; exact q2
     ·by_cases hlt : j < acc + P.cellsOf f.type
      ·have hj : j - acc < P.cellsOf f.type := by omega
       have e1 : ((cs.drop f.offset).take (P.cellsOf f.type)).getD (j - acc) undef = cs.getD j undef := by
        simp only [List.getD_eq_getElem?_getD, List.getElem?_take, List.getElem?_drop]
        rw [if_pos hj, hoff]
        congr 2
        omega
       have e2 : (xf ++ xs).getD (j - acc) .undef = xf.getD (j - acc) .undef := by
        simp only [List.getD_eq_getElem?_getD]
        rw [List.getElem?_append_left (by rw [g.lx]; exact hj)]
       rw [e2, ← e1]
       exact ⟨g.one _ hj, g.vp _ hj⟩
      ·have e2 : (xf ++ xs).getD (j - acc) .undef = xs.getD (j - (acc + P.cellsOf f.type)) .undef := by
        simp only [List.getD_eq_getElem?_getD]
        rw [List.getElem?_append_right (by rw [g.lx]; omega), g.lx]
        congr 2
        omega
       rw [e2]
       exact p4 j (by omega) h2
  ·cases hl
theorem trod_vp {ts : List TypeId} (hts : dataSet P ts = true) : ∀ (fuel : Nat) (t : TypeId), t ∈ ts → ∀ cs r, DataW.trod enc P W 0 spare held fuel t cs = some r → ∃ xs, Good P W t cs xs
 | 0, t, _, cs, r, h => by cases h
 | fuel + 1, t, ht, cs, r, h => by
  have hp : dataT P ts t = true := List.all_eq_true.1 hts t ht
  unfold dataT at hp
  have one1 : ∀ {x : Pd} {v : Value}, P.cellsOf t = 1 → WT P t [x] → v.oneCell' = true → VP (SW W) W x v → Good P W t [v] [x] := by
   intro x v h1 h2 h3 h4
   refine ⟨by simp [h1], by simp [h1], h2, fun j hj => ?_, fun j hj => ?_⟩
   ·have : j = 0 := by omega
    subst this; exact h3
   ·have : j = 0 := by omega
    subst this; exact h4
  cases hu : P.underlying t with
  | none => rw [hu] at hp; cases hp
  | some d =>
   rw [hu] at hp
   unfold DataW.trod at h
   rw [hu] at h
   cases d with
   | bool =>
    split at h <;> rename_i hq <;> first
     | (injection h with h; subst h; exact ⟨[.bool _], one1 (by simpa using hp) (.bool hu) rfl .bool⟩)
     | (exfalso; simp at hq; done)
     | cases h
   | int k =>
    split at h <;> rename_i hq <;> first
     | (exfalso; simp at hq; done)
     | (injection hq with hq; injection hq with hq; subst hq; split at h
        ·rename_i hk
         obtain ⟨rfl, hw⟩ := hk
         exact ⟨[.int _ _], one1 (by simpa using hp) (.int hu hw) rfl .int⟩
        ·cases h)
     | cases h
   | string =>
    split at h <;> rename_i hq <;> first
     | (exfalso; simp at hq; done)
     | (split at h
        ·rename_i hk
         exact ⟨[.str _], one1 (by simpa using hp) (.str hu hk) rfl .str⟩
        ·cases h)
     | cases h
   | slice e =>
    simp only [Bool.and_eq_true, beq_iff_eq, bne_iff_ne, List.contains_iff_mem] at hp
    obtain ⟨⟨hp1, hz⟩, hp2⟩ := hp
    split at h <;> rename_i hq <;> first
     | (exfalso; simp at hq; done)
     | skip
    ·injection h with h
     exact ⟨[.sl (P.cellsOf e) []], one1 hp1 (.sl hu (Nat.zero_le _) (fun x hx => by cases hx) (fun x hx => by cases hx)) rfl (.sl ⟨0, 0, none⟩ (fun _ _ => undef) rfl (Nat.le_refl _) (fun q => by omega) (fun i j hi => by omega) (fun i j hi => by omega))⟩
    ·injection hq with hq; injection hq with hq; subst hq
     split at h
     ·rename_i hb
      obtain ⟨elems, he, h⟩ := Option.bind_eq_some_iff.1 h
      obtain ⟨el, hel⟩ := mapM_get he
      obtain ⟨rest, hr, _⟩ := Option.map_eq_some_iff.1 h
      have hlen0 := (mapM_get he).1
      rw [List.length_range] at hlen0
      rename_i a len cap _ _
      have hel : ∀ i, i < len → ∃ cs y xs, W.cells? 0 (a.add (i * P.cellsOf e)) (P.cellsOf e) = some cs ∧ elems[i]? = some y ∧ Good P W e cs xs := by
       intro i hi
       obtain ⟨y, y1, y2⟩ := (mapM_get he).2 i (by rw [List.length_range]; exact hi)
       rw [List.getElem_range] at y1
       obtain ⟨cs, c1, c2⟩ := Option.bind_eq_some_iff.1 y1
       obtain ⟨xs, g⟩ := trod_vp hts fuel e hp2 cs y c2
       exact ⟨cs, y, xs, c1, y2, g⟩
      have hch : ∃ (cf : Nat → List Value) (xf : Nat → List Pd), ∀ i, i < len → W.cells? 0 (a.add (i * P.cellsOf e)) (P.cellsOf e) = some (cf i) ∧ Good P W e (cf i) (xf i) := by
       refine ⟨fun i => if hi : i < len then Classical.choose (hel i hi) else [], fun i => if hi : i < len then Classical.choose (Classical.choose_spec (Classical.choose_spec (hel i hi))) else [], fun i hi => ?_⟩
       have := Classical.choose_spec (Classical.choose_spec (Classical.choose_spec (hel i hi)))
       simp only [hi, dite_true]
       exact ⟨this.1, this.2.2⟩
      obtain ⟨cf, xf, hcx⟩ := hch
      have hspot : ∀ i j, i < len → j < P.cellsOf e → a.spot = none ∧ a.block < W.heap.size ∧ W.cell? ⟨a.block, a.off + i * P.cellsOf e + j, none⟩ = some ((cf i).getD j undef) := by
       intro i j hi hj
       have h0 := (cells_get (hcx 0 (by omega)).1).2 0 (by omega)
       have e0 : (a.add (0 * P.cellsOf e)).add 0 = a := by simp [Addr.add]
       rw [e0] at h0
       obtain ⟨s1, s2⟩ := cell_spot h0
       have h1 := (cells_get (hcx i hi).1).2 j hj
       refine ⟨s1, s2, ?_⟩
       have e1 : (a.add (i * P.cellsOf e)).add j = ⟨a.block, a.off + i * P.cellsOf e + j, none⟩ := by
        rw [add_eq s1, add_eq rfl]
       rw [e1] at h1
       exact h1
      refine ⟨[.sl (P.cellsOf e) ((List.range len).map xf)], one1 hp1 (.sl hu (by simp; omega) (fun x hx => ?_) (fun x hx => ?_)) rfl (.sl a (fun i j => (cf i).getD j undef) (by simp) hb.2.1 (fun hl => ?_) (fun i j hi hj => ?_) (fun i j hi hj => ?_))⟩
      ·obtain ⟨i, hi, rfl⟩ := List.mem_map.1 hx
       rw [List.mem_range] at hi
       exact (hcx i hi).2.lx
      ·obtain ⟨i, hi, rfl⟩ := List.mem_map.1 hx
       rw [List.mem_range] at hi
       exact (hcx i hi).2.wt
      ·exact ⟨rfl, (hspot 0 0 hl (by omega)).1⟩
      ·obtain ⟨s1, s2, s3⟩ := hspot i j hi hj
       exact ⟨s2, s3, (hcx i hi).2.one j hj⟩
      ·have : ((List.range len).map xf).getD i [] = xf i := by
        rw [List.getD_eq_getElem?_getD, List.getElem?_map, List.getElem?_range hi]; rfl
       rw [this]
       exact (hcx i hi).2.vp j hj
     ·cases h
    ·cases h
   | struct fs =>
    simp only [Bool.and_eq_true, beq_iff_eq, List.all_eq_true, List.contains_iff_mem] at hp
    obtain ⟨hp1, hp2⟩ := hp
    have fin : ∀ {fs' : Array Field} {cs : List Value}, fs' = fs → (if cs.length = P.cellsOf t then (fs'.toList.mapM fun f => DataW.trod enc P W 0 spare held fuel f.type ((cs.drop f.offset).take (P.cellsOf f.type))).map fun xs => (DataW.agg (xs.map (·.1)), xs.flatMap (·.2)) else none) = some r → ∃ xs, Good P W t cs xs := by
     intro fs' cs e hh
     by_cases hlen : cs.length = P.cellsOf t
     ·rw [if_pos hlen] at hh
      subst e
      obtain ⟨ys, hy, _⟩ := Option.map_eq_some_iff.1 hh
      obtain ⟨xs, p1, p2, p3, p4⟩ := fields_vp (fun t ht cs r hr => trod_vp hts fuel t ht cs r hr) _ fs'.toList 0 (P.cellsOf t) ys hp1 (fun f hf => hp2 f hf) hy
      exact ⟨xs, by simpa using p2, hlen, .struct hu (by simpa using p2) (fun f hf => by simpa using (p3 f hf).2), fun j hj => (p4 j (Nat.zero_le _) hj).1, fun j hj => by simpa using (p4 j (Nat.zero_le _) hj).2⟩
     ·rw [if_neg hlen] at hh; cases hh
    split at h <;> rename_i hq <;> first
     | (exfalso; simp at hq; done)
     | exact fin rfl h
     | exact fin (by injection hq with hq; injection hq with hq; exact hq.symm) h
     | cases h
   | _ => cases hp
end Go.Proofs.YtmnoibkdmeajpaaGreat.Dm
