/- The machine over plain data and memory: when data stands for values, a state for a frame and its world. -/
import Derived.Test.YtopogjafbmlfgaaDoorDm3
import Derived.Below
import Derived.Laws.AppendOwn
import Derived.Laws.Cells
import Derived.Laws.Tables
namespace Go.Proofs.YtopogjafbmlfgaaDoor.Dm
open Go.RowKit
set_option linter.unusedVariables false
set_option linter.unusedSimpArgs false

/-! ### data stands for a value: S names the cells that stay as they are -/
inductive VP (S : Nat → Nat → Prop) (w : World) : Pd → Value → Prop
  | int {k n} : VP S w (.int k n) (.int k n)
  | bool {b} : VP S w (.bool b) (.bool b)
  | str {s} : VP S w (.str s) (.string s)
  | agg {n cs vs} : vs.size = n → (∀ j, j < n → (vs.getD j undef).oneCell' = true) → (∀ j, j < n → VP S w (cs.getD j .undef) (vs.getD j undef)) → VP S w (.agg n cs) (.agg vs)
  | sl {s es a len cap} (ad : Addr) (vals : Nat → Nat → Value) : len = es.length → len ≤ cap → (0 < len → a = some ad ∧ ad.spot = none) →
      (∀ i j, i < len → j < s → S ad.block (ad.off + i * s + j) ∧ w.cell? ⟨ad.block, ad.off + i * s + j, none⟩ = some (vals i j) ∧ (vals i j).oneCell' = true) →
      (∀ i j, i < len → j < s → VP S w ((es.getD i []).getD j .undef) (vals i j)) → VP S w (.sl s es) (.slice a len cap)
  | fn {f} : VP S w (.fn f) (.func (.func f) #[] #[])
  | undef {v} : VP S w .undef v
theorem VP.keep {S S' : Nat → Nat → Prop} {w w' : World} (hs : ∀ b o, S b o → S' b o) (hc : ∀ b o, S b o → w'.cell? ⟨b, o, none⟩ = w.cell? ⟨b, o, none⟩) {x : Pd} {v : Value} (h : VP S w x v) : VP S' w' x v := by
  induction h with
  | int => exact .int
  | bool => exact .bool
  | str => exact .str
  | agg h1 h2 _ ih => exact .agg h1 h2 ih
  | sl ad vals h1 h2 h3 h4 _ ih => exact .sl ad vals h1 h2 h3 (fun i j hi hj => ⟨hs _ _ (h4 i j hi hj).1, (hc _ _ (h4 i j hi hj).1).trans (h4 i j hi hj).2.1, (h4 i j hi hj).2.2⟩) ih
  | fn => exact .fn
  | undef => exact .undef

/-- What a name is in memory. -/
structure Rz where
  blk : Option Nat
  tip : Value
inductive VD (ρ : Nm → Rz) (S : Nat → Nat → Prop) (w : World) : Dv → Value → Prop
  | p {x v} : VP S w x v → VD ρ S w (.p x) v
  | nilsl {s} : VD ρ S w (.nilsl s) (.slice none 0 0)
  | ptr {m off b} : (ρ m).blk = some b → VD ρ S w (.ptr m off) (.pointer (some ⟨b, off, none⟩))
  | arr {m} : (ρ m).tip.oneCell' = true → VD ρ S w (.arr m) (ρ m).tip
  | el {m j s off b} : (ρ m).blk = some b → VD ρ S w (.el m j s off) (.pointer (some ⟨b, j * s + off, none⟩))
  | mp {m b} : (ρ m).blk = some b → VD ρ S w (.mp m) (.map (some b))
  | ro {s cs ad} (vals : Nat → Value) : ad.spot = none → (∀ j, j < s → S ad.block (ad.off + j) ∧ w.cell? ⟨ad.block, ad.off + j, none⟩ = some (vals j) ∧ (vals j).oneCell' = true) →
      (∀ j, j < s → VP S w (cs.getD j .undef) (vals j)) → VD ρ S w (.ro s cs) (.pointer (some ad))
  | agg {n ds vs} : ds.length ≤ n → vs.size = n → (∀ j, j < n → (vs.getD j undef).oneCell' = true) → (∀ j, j < n → VD ρ S w (ds.getD j ud) (vs.getD j undef)) → VD ρ S w (.agg n ds) (.agg vs)
  | fn {f ds vs} : vs.size = ds.length → (∀ j, j < ds.length → VD ρ S w (ds.getD j ud) (vs.getD j undef)) → VD ρ S w (.fn f ds) (.func (.func f) #[] vs)
  | tup {ds vs} : vs.size = ds.length → (∀ j, j < ds.length → VD ρ S w (ds.getD j ud) (vs.getD j undef)) → VD ρ S w (.tup ds) (.tuple vs)
theorem VD.un {ρ : Nm → Rz} {S : Nat → Nat → Prop} {w : World} {v : Value} : VD ρ S w ud v := .p .undef
theorem VD.keep {ρ ρ' : Nm → Rz} {S S' : Nat → Nat → Prop} {w w' : World} (hr : ∀ m, ρ' m = ρ m) (hs : ∀ b o, S b o → S' b o) (hc : ∀ b o, S b o → w'.cell? ⟨b, o, none⟩ = w.cell? ⟨b, o, none⟩) {d : Dv} {v : Value} (h : VD ρ S w d v) : VD ρ' S' w' d v := by
  have : ρ' = ρ := funext hr
  subst this
  induction h with
  | p h => exact .p (h.keep hs hc)
  | nilsl => exact .nilsl
  | ptr h => exact .ptr h
  | arr h => exact .arr h
  | el h => exact .el h
  | mp h => exact .mp h
  | ro vals h1 h2 h3 => exact .ro vals h1 (fun j hj => ⟨hs _ _ (h2 j hj).1, (hc _ _ (h2 j hj).1).trans (h2 j hj).2.1, (h2 j hj).2.2⟩) (fun j hj => (h3 j hj).keep hs hc)
  | agg h0 h1 h2 _ ih => exact .agg h0 h1 h2 ih
  | fn h1 _ ih => exact .fn h1 ih
  | tup h1 _ ih => exact .tup h1 ih

theorem scrubs_eq (m : Nm) : ∀ ds : List Dv, scrub.scrubs m ds = ds.map (scrub m)
  | [] => rfl
  | d :: ds => by rw [scrub.scrubs, scrubs_eq m ds]; rfl
theorem getD_map_ud {f : Dv → Dv} (hf : f ud = ud) (ds : List Dv) (j : Nat) : (ds.map f).getD j ud = f (ds.getD j ud) := by
  simp only [List.getD_eq_getElem?_getD, List.getElem?_map]
  cases ds[j]? with
  | none => exact hf.symm
  | some d => rfl
/-- What names m is forgotten: then m may be anything. -/
theorem VD.scrub_ {ρ ρ' : Nm → Rz} {m : Nm} (hr : ∀ m', m' ≠ m → ρ' m' = ρ m') {S : Nat → Nat → Prop} {w : World} {d : Dv} {v : Value} (h : VD ρ S w d v) : VD ρ' S w (scrub m d) v := by
  induction h with
  | p h => exact .p h
  | nilsl => exact .nilsl
  | ptr h =>
    unfold scrub; split
    · exact .un
    · rename_i hne; exact .ptr (by rw [hr _ hne]; exact h)
  | arr h =>
    rename_i m'
    unfold scrub; split
    · exact .un
    · rename_i hne; rw [← hr _ hne] at h ⊢; exact .arr h
  | el h =>
    unfold scrub; split
    · exact .un
    · rename_i hne; exact .el (by rw [hr _ hne]; exact h)
  | mp h =>
    unfold scrub; split
    · exact .un
    · rename_i hne; exact .mp (by rw [hr _ hne]; exact h)
  | ro vals h1 h2 h3 => exact .ro vals h1 h2 h3
  | agg h0 h1 h2 _ ih =>
    unfold scrub; rw [scrubs_eq]
    exact .agg (by rw [List.length_map]; exact h0) h1 h2 (fun j hj => by rw [getD_map_ud rfl]; exact ih j hj)
  | fn h1 _ ih =>
    unfold scrub; rw [scrubs_eq]
    exact .fn (by rw [List.length_map]; exact h1) (fun j hj => by rw [getD_map_ud rfl]; exact ih j (by rwa [List.length_map] at hj))
  | tup h1 _ ih =>
    unfold scrub; rw [scrubs_eq]
    exact .tup (by rw [List.length_map]; exact h1) (fun j hj => by rw [getD_map_ud rfl]; exact ih j (by rwa [List.length_map] at hj))

/-! ### objects -/
def ObRel (ρ : Nm → Rz) (S : Nat → Nat → Prop) (w : World) (o : Ob) (z : Rz) : Prop := match o with
  | .none => True
  | .box n cs => ∃ b vs ty, z.blk = some b ∧ w.heap[b]? = some (.cells vs ty (0, 0)) ∧ vs.size = n ∧ (∀ j, j < n → (vs.getD j undef).oneCell' = true) ∧ ∀ j, j < n → VP S w (cs.getD j .undef) (vs.getD j undef)
  | .mbox n ds => ∃ b vs ty, z.blk = some b ∧ w.heap[b]? = some (.cells vs ty (0, 0)) ∧ vs.size = n ∧ (∀ j, j < n → (vs.getD j undef).oneCell' = true) ∧ ∀ j, j < n → VD ρ S w (ds.getD j ud) (vs.getD j undef)
  | .map es => ∃ (b : Nat) (ents : Array MapEntry) (clock : Nat), z.blk = some b ∧ w.heap[b]? = some (.map ents clock) ∧ ents.size = es.length ∧ ∀ (i : Nat) (x : ByteArray × Pd), es[i]? = some x → ∃ en : MapEntry, ents[i]? = some en ∧ en.key = .string x.1 ∧ VP S w x.2 en.val
  | .arr e s _ _ es => ∃ xs, w.ownsRow 0 e s z.tip es.length xs ∧ z.blk = z.tip.ownBlock ∧ 0 < s ∧ (∀ u ∈ xs, u.oneCell' = true) ∧ ∀ i j, i < es.length → j < s → VP S w ((es.getD i []).getD j .undef) (xs.getD (i * s + j) undef)

structure Cx where
  w0 : World
  S0 : Nat → Nat → Prop
  F : Nat → Prop
  B : Nat → Option Rz
structure Core (cx : Cx) (ρ : Nm → Rz) (S : Nat → Nat → Prop) (L O : List Ob) (w : World) : Prop where
  ob : ∀ m, ObRel ρ S w (getOb L O m) (ρ m)
  ne : ∀ m m' b, getOb L O m ≠ .none → getOb L O m' ≠ .none → (ρ m).blk = some b → (ρ m').blk = some b → m = m'
  ss : ∀ m b o, getOb L O m ≠ .none → (ρ m).blk = some b → S b o → ∃ e s bb es, getOb L O m = .arr e s bb true es ∧ o < es.length * s
  own : ∀ m b, getOb L O m ≠ .none → (ρ m).blk = some b → b < w.heap.size ∧ (cx.w0.heap.size ≤ b ∨ cx.F b)
  sb : ∀ b o, S b o → b < w.heap.size
  s0 : ∀ b o, cx.S0 b o → S b o
  sn : ∀ b o, S b o → cx.S0 b o ∨ cx.w0.heap.size ≤ b ∨ cx.F b
  fr : ∀ b, b < cx.w0.heap.size → ¬ cx.F b → w.heap[b]? = cx.w0.heap[b]?
  sk : ∀ b o, cx.S0 b o → w.cell? ⟨b, o, none⟩ = cx.w0.cell? ⟨b, o, none⟩
  ws : cx.w0.heap.size ≤ w.heap.size
  os : w.os = cx.w0.os
  tape : w.tape = cx.w0.tape
  output : w.output = cx.w0.output
  bx : ∀ i z, cx.B i = some z → ρ (.out i) = z ∧ isArr (getOb L O (.out i)) = false
theorem isArr_scrub (m : Nm) (o : Ob) : isArr (scrubOb m o) = isArr o := by cases o <;> rfl
structure Rel (cx : Cx) (ρ : Nm → Rz) (S : Nat → Nat → Prop) (st : St) (a : Act) (w : World) : Prop where
  core : Core cx ρ S st.L st.O w
  nt : a.tmps.size = st.T.length
  df : a.defers = []
  tm : ∀ t, VD ρ S w (st.T.getD t ud) (a.tmps.getD t undef)

theorem getOb_set (L O : List Ob) (m m' : Nm) (o : Ob) : getOb (setL L m o) (setO O m o) m' = getOb L O m' ∨ (m' = m ∧ getOb (setL L m o) (setO O m o) m' = o) := by
  cases m with
  | loc s =>
    cases m' with
    | loc s' =>
      simp only [getOb, setL, List.getD_eq_getElem?_getD, List.getElem?_set]
      by_cases h : s = s'
      · subst h
        by_cases hl : s < L.length
        · right; simp [hl]
        · left; simp [hl]
      · left; simp [h]
    | out i => left; rfl
  | out i =>
    cases m' with
    | loc s' => left; rfl
    | out i' =>
      simp only [getOb, setO, List.getD_eq_getElem?_getD, List.getElem?_set]
      by_cases h : i = i'
      · subst h
        by_cases hl : i < O.length
        · right; simp [hl]
        · left; simp [hl]
      · left; simp [h]
theorem getOb_ne (L O : List Ob) {m m' : Nm} (h : m' ≠ m) (o : Ob) : getOb (setL L m o) (setO O m o) m' = getOb L O m' := by
  rcases getOb_set L O m m' o with h1 | h1
  · exact h1
  · exact absurd h1.1 h
/-- where m stands for an object, the new one takes its place -/
theorem getOb_self (L O : List Ob) {m : Nm} (h : getOb L O m ≠ .none) (o : Ob) : getOb (setL L m o) (setO O m o) m = o := by
  cases m with
  | loc s =>
    simp only [getOb, setL, List.getD_eq_getElem?_getD, List.getElem?_set] at h ⊢
    by_cases hl : s < L.length
    · simp [hl]
    · simp [hl] at h
  | out i =>
    simp only [getOb, setO, List.getD_eq_getElem?_getD, List.getElem?_set] at h ⊢
    by_cases hl : i < O.length
    · simp [hl]
    · simp [hl] at h
theorem getOb_map (L O : List Ob) {f : Ob → Ob} (hf : f .none = .none) (m : Nm) : getOb (L.map f) (O.map f) m = f (getOb L O m) := by
  cases m with
  | loc s =>
    simp only [getOb, List.getD_eq_getElem?_getD, List.getElem?_map]
    cases L[s]? <;> simp [hf]
  | out s =>
    simp only [getOb, List.getD_eq_getElem?_getD, List.getElem?_map]
    cases O[s]? <;> simp [hf]

theorem cell_heap {w w' : World} {b o : Nat} (h : w'.heap[b]? = w.heap[b]?) : w'.cell? ⟨b, o, none⟩ = w.cell? ⟨b, o, none⟩ := World.cell?_of_block (w := w) h
theorem ownsRow_keep {w w' : World} {base e s n : Nat} {v : Value} {xs : List Value} (h : w.ownsRow base e s v n xs) (hb : ∀ b, v.ownBlock = some b → w'.heap[b]? = w.heap[b]?) : w'.ownsRow base e s v n xs := by
  obtain ⟨h1, h2⟩ := h
  refine ⟨h1, ?_⟩
  rcases h2 with h2 | ⟨g, cap, cur, hv, hg, hh, r⟩
  · exact .inl h2
  · subst hv
    exact .inr ⟨g, cap, cur, rfl, hg, by rw [hb g rfl]; exact hh, r⟩
/-- an object whose block, and all that stays, is as it was -/
theorem ObRel.keep {ρ ρ' : Nm → Rz} {S S' : Nat → Nat → Prop} {w w' : World} {o : Ob} {z : Rz} (hr : ∀ m, ρ' m = ρ m) (hs : ∀ b o, S b o → S' b o) (hc : ∀ b o, S b o → w'.cell? ⟨b, o, none⟩ = w.cell? ⟨b, o, none⟩)
    (hb : ∀ b, z.blk = some b → w'.heap[b]? = w.heap[b]?) (h : ObRel ρ S w o z) : ObRel ρ' S' w' o z := by
  cases o with
  | none => trivial
  | box n cs =>
    obtain ⟨b, vs, ty, h1, h2, h3, h4, h5⟩ := h
    exact ⟨b, vs, ty, h1, by rw [hb b h1]; exact h2, h3, h4, fun j hj => (h5 j hj).keep hs hc⟩
  | mbox n ds =>
    obtain ⟨b, vs, ty, h1, h2, h3, h4, h5⟩ := h
    exact ⟨b, vs, ty, h1, by rw [hb b h1]; exact h2, h3, h4, fun j hj => (h5 j hj).keep hr hs hc⟩
  | arr e s bb ro es =>
    obtain ⟨xs, h1, h2, h3, h4, h5⟩ := h
    exact ⟨xs, ownsRow_keep h1 (fun b q => hb b (h2.trans q)), h2, h3, h4, fun i j hi hj => (h5 i j hi hj).keep hs hc⟩
  | map es =>
    obtain ⟨b, ents, clock, h1, h2, h3, h4⟩ := h
    exact ⟨b, ents, clock, h1, by rw [hb b h1]; exact h2, h3, fun i x hx => by
      obtain ⟨en, q1, q2, q3⟩ := h4 i x hx
      exact ⟨en, q1, q2, q3.keep hs hc⟩⟩
theorem ObRel.scrub_ {ρ ρ' : Nm → Rz} {m : Nm} (hr : ∀ m', m' ≠ m → ρ' m' = ρ m') {S : Nat → Nat → Prop} {w : World} {o : Ob} {z : Rz} (h : ObRel ρ S w o z) : ObRel ρ' S w (scrubOb m o) z := by
  cases o with
  | none => trivial
  | box n cs => exact h
  | mbox n ds =>
    obtain ⟨b, vs, ty, h1, h2, h3, h4, h5⟩ := h
    exact ⟨b, vs, ty, h1, h2, h3, h4, fun j hj => by rw [getD_map_ud rfl]; exact (h5 j hj).scrub_ hr⟩
  | arr e s bb ro es => exact h
  | map es => exact h
theorem scrubOb_none (m : Nm) : scrubOb m .none = .none := rfl
theorem scrubOb_eq_none {m : Nm} {o : Ob} (h : scrubOb m o = .none) : o = .none := by cases o <;> simp_all [scrubOb]
theorem scrubOb_arr {m : Nm} {o : Ob} {e s bb : Nat} {ro : Bool} {es : List (List Pd)} (h : o = .arr e s bb ro es) : scrubOb m o = .arr e s bb ro es := by subst h; rfl

/-- Nothing that is told of has turned, more may be there. -/
theorem Core.grow {cx : Cx} {ρ : Nm → Rz} {S : Nat → Nat → Prop} {L O : List Ob} {w w' : World} (h : Core cx ρ S L O w) (hb : ∀ b, b < w.heap.size → w'.heap[b]? = w.heap[b]?) (hz : w.heap.size ≤ w'.heap.size)
    (h1 : w'.os = w.os) (h2 : w'.tape = w.tape) (h3 : w'.output = w.output) : Core cx ρ S L O w' where
  ob m := by
    by_cases hl : getOb L O m = .none
    · rw [hl]; trivial
    · exact (h.ob m).keep (fun _ => rfl) (fun _ _ q => q) (fun b o q => cell_heap (hb b (h.sb b o q))) (fun b q => hb b (h.own m b hl q).1)
  ne := h.ne
  ss := h.ss
  own m b hl q := ⟨Nat.lt_of_lt_of_le (h.own m b hl q).1 hz, (h.own m b hl q).2⟩
  sb b o q := Nat.lt_of_lt_of_le (h.sb b o q) hz
  s0 := h.s0
  sn := h.sn
  fr b hb0 hF := (hb b (Nat.lt_of_lt_of_le hb0 h.ws)).trans (h.fr b hb0 hF)
  sk b o q := (cell_heap (hb b (h.sb b o (h.s0 b o q)))).trans (h.sk b o q)
  ws := Nat.le_trans h.ws hz
  os := h1.trans h.os
  tape := h2.trans h.tape
  output := h3.trans h.output
  bx := h.bx

/-- Name m now stands for ob' at z': its block is new, or the one that it had; all else that named m is forgotten. -/
theorem Core.put_ {cx : Cx} {ρ : Nm → Rz} {S : Nat → Nat → Prop} {L O : List Ob} {w w' : World} (h : Core cx ρ S L O w) (m : Nm) (ob' : Ob) (z' : Rz)
    (hz : w.heap.size ≤ w'.heap.size) (h1 : w'.os = w.os) (h2 : w'.tape = w.tape) (h3 : w'.output = w.output)
    (hb : ∀ b, b < w.heap.size → ¬ (getOb L O m ≠ .none ∧ (ρ m).blk = some b) → w'.heap[b]? = w.heap[b]?)
    (hc : ∀ b o, S b o → w'.cell? ⟨b, o, none⟩ = w.cell? ⟨b, o, none⟩)
    (hob : ObRel (fun n => if n = m then z' else ρ n) S w' ob' z')
    (hblk : ∀ b, z'.blk = some b → (w.heap.size ≤ b ∧ b < w'.heap.size) ∨ (getOb L O m ≠ .none ∧ (ρ m).blk = some b))
    (hss : ∀ b o, z'.blk = some b → S b o → ∃ e s bb es, ob' = .arr e s bb true es ∧ o < es.length * s) (hbx : ∀ i, m = .out i → isArr (getOb L O m) = true) :
    Core cx (fun n => if n = m then z' else ρ n) S (setL (L.map (scrubOb m)) m ob') (setO (O.map (scrubOb m)) m ob') w' := by
  have hself : ∀ m', getOb (setL (L.map (scrubOb m)) m ob') (setO (O.map (scrubOb m)) m ob') m' = scrubOb m (getOb L O m') ∨ (m' = m ∧ getOb (setL (L.map (scrubOb m)) m ob') (setO (O.map (scrubOb m)) m ob') m' = ob') := by
    intro m'
    rcases getOb_set (L.map (scrubOb m)) (O.map (scrubOb m)) m m' ob' with q | q
    · left; rw [q, getOb_map L O (scrubOb_none m)]
    · right; exact q
  have hlive : ∀ m', m' ≠ m → getOb (setL (L.map (scrubOb m)) m ob') (setO (O.map (scrubOb m)) m ob') m' = scrubOb m (getOb L O m') := by
    intro m' hm
    rcases hself m' with q | q
    · exact q
    · exact absurd q.1 hm
  have hne : ∀ m', m' ≠ m → getOb (setL (L.map (scrubOb m)) m ob') (setO (O.map (scrubOb m)) m ob') m' ≠ .none → getOb L O m' ≠ .none := by
    intro m' hm hl q
    rw [hlive m' hm, q] at hl
    exact hl rfl
  -- m itself: either the new object, or nothing is told of it
  have hm : getOb (setL (L.map (scrubOb m)) m ob') (setO (O.map (scrubOb m)) m ob') m = ob' ∨ getOb (setL (L.map (scrubOb m)) m ob') (setO (O.map (scrubOb m)) m ob') m = .none := by
    by_cases hl : getOb L O m = .none
    · rcases hself m with q | q
      · right; rw [q, hl]; rfl
      · left; exact q.2
    · left
      exact getOb_self _ _ (by rw [getOb_map L O (scrubOb_none m)]; exact fun q => hl (scrubOb_eq_none q)) _
  refine ⟨fun m' => ?_, fun m1 m2 b hl1 hl2 q1 q2 => ?_, fun m' b o hl q hS => ?_, fun m' b hl q => ?_, fun b o q => Nat.lt_of_lt_of_le (h.sb b o q) hz, h.s0, h.sn, fun b hb0 hF => ?_, fun b o q => (hc b o (h.s0 b o q)).trans (h.sk b o q), Nat.le_trans h.ws hz, h1.trans h.os, h2.trans h.tape, h3.trans h.output, fun i z q => ?_⟩
  · by_cases e : m' = m
    · subst e
      rcases hm with q | q
      · rw [q, if_pos rfl]; exact hob
      · rw [q]; trivial
    · rw [hlive m' e, if_neg e]
      by_cases hl : getOb L O m' = .none
      · rw [hl]; trivial
      · refine ((h.ob m').keep (ρ' := ρ) (fun _ => rfl) (fun _ _ q => q) hc (fun b q => hb b (h.own m' b hl q).1 (fun ⟨hlm, qm⟩ => e (h.ne m' m b hl hlm q qm)))).scrub_ (fun n hn => if_neg hn)
  · by_cases e1 : m1 = m
    · by_cases e2 : m2 = m
      · rw [e1, e2]
      · exfalso
        rw [if_pos e1] at q1
        rw [if_neg e2] at q2
        have hl2' := hne m2 e2 hl2
        rcases hblk b q1 with ⟨q, _⟩ | ⟨q, q'⟩
        · have := (h.own m2 b hl2' q2).1; omega
        · exact e2 (h.ne m2 m b hl2' q q2 q')
    · by_cases e2 : m2 = m
      · exfalso
        rw [if_neg e1] at q1
        rw [if_pos e2] at q2
        have hl1' := hne m1 e1 hl1
        rcases hblk b q2 with ⟨q, _⟩ | ⟨q, q'⟩
        · have := (h.own m1 b hl1' q1).1; omega
        · exact e1 (h.ne m1 m b hl1' q q1 q')
      · rw [if_neg e1] at q1
        rw [if_neg e2] at q2
        exact h.ne m1 m2 b (hne m1 e1 hl1) (hne m2 e2 hl2) q1 q2
  · by_cases e : m' = m
    · subst e
      rw [if_pos rfl] at q
      rcases hm with q' | q'
      · rw [q']; exact hss b o q hS
      · exact absurd q' hl
    · rw [if_neg e] at q
      obtain ⟨e', s, bb, es, q1, q2⟩ := h.ss m' b o (hne m' e hl) q hS
      exact ⟨e', s, bb, es, by rw [hlive m' e]; exact scrubOb_arr q1, q2⟩
  · by_cases e : m' = m
    · subst e
      rw [if_pos rfl] at q
      rcases hblk b q with ⟨q1, q2⟩ | ⟨q1, q2⟩
      · exact ⟨q2, .inl (Nat.le_trans h.ws q1)⟩
      · exact ⟨Nat.lt_of_lt_of_le (h.own m' b q1 q2).1 hz, (h.own m' b q1 q2).2⟩
    · rw [if_neg e] at q
      have := h.own m' b (hne m' e hl) q
      exact ⟨Nat.lt_of_lt_of_le this.1 hz, this.2⟩
  · refine (hb b (Nat.lt_of_lt_of_le hb0 h.ws) (fun ⟨q1, q2⟩ => ?_)).trans (h.fr b hb0 hF)
    rcases (h.own m b q1 q2).2 with q | q
    · omega
    · exact hF q
  · obtain ⟨q1, q2⟩ := h.bx i z q
    by_cases e : Nm.out i = m
    · subst e
      rw [hbx i rfl] at q2
      cases q2
    · rw [if_neg e, hlive _ e, isArr_scrub]
      exact ⟨q1, q2⟩
/-- The same where m stays where it was: nothing need be forgotten. -/
theorem Core.upd {cx : Cx} {ρ : Nm → Rz} {S : Nat → Nat → Prop} {L O : List Ob} {w w' : World} (h : Core cx ρ S L O w) (m : Nm) (hl : getOb L O m ≠ .none) (ob' : Ob)
    (hz : w.heap.size ≤ w'.heap.size) (h1 : w'.os = w.os) (h2 : w'.tape = w.tape) (h3 : w'.output = w.output)
    (hb : ∀ b, b < w.heap.size → (ρ m).blk ≠ some b → w'.heap[b]? = w.heap[b]?)
    (hc : ∀ b o, S b o → w'.cell? ⟨b, o, none⟩ = w.cell? ⟨b, o, none⟩)
    (hob : ObRel ρ S w' ob' (ρ m))
    (hss : ∀ b o, (ρ m).blk = some b → S b o → ∃ e s bb es, ob' = .arr e s bb true es ∧ o < es.length * s) (hia : isArr ob' = true → isArr (getOb L O m) = true) :
    Core cx ρ S (setL L m ob') (setO O m ob') w' := by
  have hne : ∀ m', m' ≠ m → getOb (setL L m ob') (setO O m ob') m' = getOb L O m' := fun m' e => getOb_ne L O e ob'
  have hm := getOb_self L O hl ob'
  have hlive : ∀ m', getOb (setL L m ob') (setO O m ob') m' ≠ .none → getOb L O m' ≠ .none := by
    intro m' q
    by_cases e : m' = m
    · rw [e]; exact hl
    · rwa [hne m' e] at q
  refine ⟨fun m' => ?_, fun m1 m2 b hl1 hl2 q1 q2 => h.ne m1 m2 b (hlive _ hl1) (hlive _ hl2) q1 q2, fun m' b o hl' q hS => ?_, fun m' b hl' q => ?_, fun b o q => Nat.lt_of_lt_of_le (h.sb b o q) hz, h.s0, h.sn, fun b hb0 hF => ?_, fun b o q => (hc b o (h.s0 b o q)).trans (h.sk b o q), Nat.le_trans h.ws hz, h1.trans h.os, h2.trans h.tape, h3.trans h.output, fun i z q => ?_⟩
  · by_cases e : m' = m
    · rw [e, hm]; exact hob
    · rw [hne m' e]
      by_cases hl' : getOb L O m' = .none
      · rw [hl']; trivial
      · exact (h.ob m').keep (fun _ => rfl) (fun _ _ q => q) hc (fun b q => hb b (h.own m' b hl' q).1 (fun q' => e (h.ne m' m b hl' hl q q')))
  · by_cases e : m' = m
    · rw [e] at q ⊢; rw [hm]; exact hss b o q hS
    · rw [hne m' e]; exact h.ss m' b o (hlive _ hl') q hS
  · exact ⟨Nat.lt_of_lt_of_le (h.own m' b (hlive _ hl') q).1 hz, (h.own m' b (hlive _ hl') q).2⟩
  · refine (hb b (Nat.lt_of_lt_of_le hb0 h.ws) (fun q => ?_)).trans (h.fr b hb0 hF)
    rcases (h.own m b hl q).2 with q' | q'
    · omega
    · exact hF q'
  · obtain ⟨q1, q2⟩ := h.bx i z q
    refine ⟨q1, ?_⟩
    by_cases e : Nm.out i = m
    · rw [e, hm]
      rw [e] at q2
      cases q3 : isArr ob' with
      | false => rfl
      | true => rw [hia q3] at q2; cases q2
    · rw [hne _ e]; exact q2

/-! ### rows of one's own that are only read from now on -/
theorem own_cells {w : World} {e s n : Nat} {v : Value} {xs : List Value} (h : w.ownsRow 0 e s v n xs) : ∃ a cap, v = .slice a n cap ∧ n ≤ cap ∧ (a = none → n = 0) ∧ ∀ g, v.ownBlock = some g → a = some ⟨g, 0, none⟩ ∧ g < w.heap.size ∧
    ∀ i, i < n * s → w.cell? ⟨g, i, none⟩ = some (xs.getD i undef) := by
  rcases h.2 with ⟨rfl, rfl⟩ | ⟨g, cap, cur, rfl, _, hg, hc, _, hs, ht⟩
  · exact ⟨none, 0, rfl, Nat.le_refl _, fun _ => rfl, fun g q => nomatch q⟩
  · refine ⟨some ⟨g, 0, none⟩, cap, rfl, hc, (fun q => nomatch q), fun g' q => ?_⟩
    have e1 : g = g' := by simpa [Value.ownBlock] using q
    subst e1
    refine ⟨rfl, (Array.getElem?_eq_some_iff.1 hg).1, fun i hi => ?_⟩
    have hlt : i < cur.size := by rw [hs]; exact Nat.lt_of_lt_of_le hi (Nat.mul_le_mul_right _ hc)
    rw [cell_of_row w g i cur e (0, 0) hg, ← ht]
    simp [List.getD_eq_getElem?_getD, List.getElem?_take, hi, hlt]
theorem Core.view_ {cx : Cx} {ρ : Nm → Rz} {S : Nat → Nat → Prop} {L O : List Ob} {w : World} (h : Core cx ρ S L O w) {m : Nm} {e s b : Nat} {ro : Bool} {es : List (List Pd)} (hm : getOb L O m = .arr e s b ro es) :
    ∃ S' : Nat → Nat → Prop, (∀ b o, S b o → S' b o) ∧ Core cx ρ S' (setL L m (.arr e s b true es)) (setO O m (.arr e s b true es)) w ∧ VP S' w (.sl s es) (ρ m).tip ∧ (ρ m).tip.oneCell' = true := by
  have hob := h.ob m
  rw [hm] at hob
  obtain ⟨xs, h1, h2, h3, h4, h5⟩ := hob
  obtain ⟨a, cap, ev, hcap, ha, hg⟩ := own_cells h1
  have hxl := h1.1
  have hl : getOb L O m ≠ .none := by rw [hm]; exact fun q => by cases q
  refine ⟨fun g o => S g o ∨ ((ρ m).tip.ownBlock = some g ∧ o < es.length * s), fun _ _ q => .inl q, ?_, ?_, by rw [ev]; rfl⟩
  · have hne : ∀ m', m' ≠ m → getOb (setL L m (.arr e s b true es)) (setO O m (.arr e s b true es)) m' = getOb L O m' := fun m' q => getOb_ne L O q _
    have hself := getOb_self L O hl (.arr e s b true es)
    have hlive : ∀ m', getOb (setL L m (.arr e s b true es)) (setO O m (.arr e s b true es)) m' ≠ .none → getOb L O m' ≠ .none := by
      intro m' q
      by_cases q' : m' = m
      · rw [q']; exact hl
      · rwa [hne m' q'] at q
    refine ⟨fun m' => ?_, fun m1 m2 b hl1 hl2 q1 q2 => h.ne m1 m2 b (hlive _ hl1) (hlive _ hl2) q1 q2, fun m' g o hl' q hS => ?_, fun m' g hl' q => h.own m' g (hlive _ hl') q, fun g o q => ?_, fun g o q => .inl (h.s0 g o q), fun g o q => ?_, h.fr, h.sk, h.ws, h.os, h.tape, h.output, fun i z q => ?_⟩
    · by_cases q' : m' = m
      · rw [q', hself]
        exact ⟨xs, h1, h2, h3, h4, fun i j hi hj => (h5 i j hi hj).keep (fun _ _ q => .inl q) (fun _ _ _ => rfl)⟩
      · rw [hne m' q']
        exact (h.ob m').keep (fun _ => rfl) (fun _ _ q => .inl q) (fun _ _ _ => rfl) (fun _ _ => rfl)
    · rcases hS with hS | ⟨q1, q2⟩
      · by_cases q' : m' = m
        · rw [q'] at q ⊢
          obtain ⟨e', s', bb', es', q3, q4⟩ := h.ss m g o hl q hS
          rw [hm] at q3
          injection q3 with e1 e2 e3 e4 e5
          subst e2 e5
          exact ⟨e, s, b, es, hself, q4⟩
        · rw [hne m' q']; exact h.ss m' g o (hlive _ hl') q hS
      · have q3 : (ρ m).blk = some g := h2.trans q1
        have : m' = m := h.ne m' m g (hlive _ hl') hl q q3
        rw [this]
        exact ⟨e, s, b, es, hself, q2⟩
    · rcases q with q | ⟨q1, _⟩
      · exact h.sb g o q
      · exact (hg g q1).2.1
    · rcases q with q | ⟨q1, _⟩
      · exact h.sn g o q
      · exact .inr (h.own m g hl (h2.trans q1)).2
    · obtain ⟨q1, q2⟩ := h.bx i z q
      by_cases e : Nm.out i = m
      · rw [e, hm] at q2; cases q2
      · rw [hne _ e]; exact ⟨q1, q2⟩
  · rw [ev]
    cases a with
    | none =>
      have h0 := ha rfl
      exact .sl ⟨0, 0, none⟩ (fun _ _ => undef) rfl hcap (fun q => by omega) (fun i j hi => by omega) (fun i j hi => by omega)
    | some ad =>
      have q : (ρ m).tip.ownBlock = some ad.block := by rw [ev]; rfl
      obtain ⟨q1, q2, q3⟩ := hg ad.block q
      injection q1 with q1
      have hidx : ∀ i j, i < es.length → j < s → i * s + j < es.length * s := fun i j hi hj => by
        have : i * s + s ≤ es.length * s := by rw [← Nat.succ_mul]; exact Nat.mul_le_mul_right _ hi
        omega
      refine .sl ad (fun i j => xs.getD (i * s + j) undef) rfl hcap (fun _ => ⟨rfl, by rw [q1]⟩) (fun i j hi hj => ?_) (fun i j hi hj => ?_)
      · have hh := hidx i j hi hj
        have hoff : ad.off = 0 := by rw [q1]
        rw [hoff, Nat.zero_add]
        refine ⟨.inr ⟨rfl, hh⟩, q3 _ hh, ?_⟩
        refine h4 _ ?_
        rw [List.getD_eq_getElem?_getD, List.getElem?_eq_getElem (by rw [hxl]; exact hh)]
        exact List.getElem_mem _
      · exact (h5 i j hi hj).keep (fun _ _ q => .inl q) (fun _ _ _ => rfl)

theorem oneCell_of_view1 {cx : Cx} {ρ : Nm → Rz} {S : Nat → Nat → Prop} {L O : List Ob} {w : World} (h : Core cx ρ S L O w) {d : Dv} {v : Value} (hd : VD ρ S w d v) {x : Pd} {L' O' : List Ob} (hv : view1 L O d = some (x, L', O')) :
    ∃ S' : Nat → Nat → Prop, (∀ b o, S b o → S' b o) ∧ Core cx ρ S' L' O' w ∧ VP S' w x v := by
  unfold view1 at hv
  split at hv
  · injection hv with hv; injection hv with e1 e2; injection e2 with e2 e3; subst e1 e2 e3
    cases hd with
    | p hd => exact ⟨S, fun _ _ q => q, h, hd⟩
  · injection hv with hv; injection hv with e1 e2; injection e2 with e2 e3; subst e1 e2 e3
    cases hd
    exact ⟨S, fun _ _ q => q, h, .sl ⟨0, 0, none⟩ (fun _ _ => undef) rfl (Nat.le_refl _) (fun q => by omega) (fun i j hi => by omega) (fun i j hi => by omega)⟩
  · split at hv
    · rename_i m _ e s b ro es hm
      injection hv with hv; injection hv with e1 e2; injection e2 with e2 e3; subst e1 e2 e3
      cases hd
      obtain ⟨S', q1, q2, q3, _⟩ := h.view_ hm
      exact ⟨S', q1, q2, q3⟩
    · cases hv
  · cases hv
theorem views_sound {cx : Cx} {ρ : Nm → Rz} : ∀ (ds : List Dv) {S : Nat → Nat → Prop} {L O : List Ob} {w : World} (h : Core cx ρ S L O w) (vals : Nat → Value) (hd : ∀ j, j < ds.length → VD ρ S w (ds.getD j ud) (vals j)) {xs : List Pd} {L' O' : List Ob} (hv : views L O ds = some (xs, L', O')),
    ∃ S' : Nat → Nat → Prop, (∀ b o, S b o → S' b o) ∧ Core cx ρ S' L' O' w ∧ xs.length = ds.length ∧ ∀ j, j < ds.length → VP S' w (xs.getD j .undef) (vals j)
  | [], S, L, O, w, h, vals, hd, xs, L', O', hv => by
    simp only [views] at hv
    injection hv with hv; injection hv with e1 e2; injection e2 with e2 e3; subst e1 e2 e3
    exact ⟨S, fun _ _ q => q, h, rfl, fun j hj => by cases hj⟩
  | d :: ds, S, L, O, w, h, vals, hd, xs, L', O', hv => by
    simp only [views] at hv
    split at hv
    · rename_i x L1 O1 hx
      split at hv
      · rename_i ys L2 O2 hy
        injection hv with hv; injection hv with e1 e2; injection e2 with e2 e3; subst e1 e2 e3
        obtain ⟨S1, q1, q2, q3⟩ := oneCell_of_view1 h (hd 0 (by simp)) hx
        obtain ⟨S2, q4, q5, q6, q7⟩ := views_sound ds q2 (fun j => vals (j + 1)) (fun j hj => (hd (j + 1) (by simpa using hj)).keep (fun _ => rfl) q1 (fun _ _ _ => rfl)) hy
        refine ⟨S2, fun b o q => q4 _ _ (q1 _ _ q), q5, by simp [q6], fun j hj => ?_⟩
        cases j with
        | zero => exact q3.keep q4 (fun _ _ _ => rfl)
        | succ j => exact q7 j (by simpa using hj)
      · cases hv
    · cases hv
theorem view_sound {cx : Cx} {ρ : Nm → Rz} {S : Nat → Nat → Prop} {L O : List Ob} {w : World} (h : Core cx ρ S L O w) {d : Dv} {v : Value} (hd : VD ρ S w d v) {x : Pd} {L' O' : List Ob} (hv : view L O d = some (x, L', O')) :
    ∃ S' : Nat → Nat → Prop, (∀ b o, S b o → S' b o) ∧ Core cx ρ S' L' O' w ∧ VP S' w x v := by
  unfold view at hv
  split at hv
  · split at hv
    · rename_i n ds _ xs L1 O1 hx
      injection hv with hv; injection hv with e1 e2; injection e2 with e2 e3; subst e1 e2 e3
      cases hd with
      | @agg _ _ vs h0 h1 h2 h3 =>
        obtain ⟨S', q1, q2, q3, q4⟩ := views_sound ds h (fun j => vs.getD j undef) (fun j hj => h3 j (by omega)) hx
        refine ⟨S', q1, q2, .agg h1 h2 fun j hj => ?_⟩
        by_cases hj' : j < ds.length
        · exact q4 j hj'
        · rw [List.getD_eq_getElem?_getD, List.getElem?_eq_none (by omega)]
          exact .undef
    · cases hv
  · exact oneCell_of_view1 h hd hv
end Go.Proofs.YtopogjafbmlfgaaDoor.Dm
