/- The machine over plain data and memory: when data stands for values, a state for a frame and its world. -/
import Derived.Test.YtmnoibkdmeajpaaGreatDm3
import Derived.Below
import Derived.Laws.AppendOwn
import Derived.Laws.Cells
import Derived.Laws.Tables
namespace Go.Proofs.YtmnoibkdmeajpaaGreat.Dm
set_option linter.unusedSectionVars false
open Go.RowKit
set_option linter.unusedVariables false
set_option linter.unusedSimpArgs false
inductive VP (S : Nat → Nat → Prop) (w : World) : Pd → Value → Prop
 | int {k n} : VP S w (.int k n) (.int k n)
 | bool {b} : VP S w (.bool b) (.bool b)
 | str {s} : VP S w (.str s) (.string s)
 | agg {n cs vs} : vs.size = n → (∀ j, j < n → (vs.getD j undef).oneCell' = true) → (∀ j, j < n → VP S w (cs.getD j .undef) (vs.getD j undef)) → VP S w (.agg n cs) (.agg vs)
 | sl {s es a len cap} (ad : Addr) (vals : Nat → Nat → Value) : len = es.length → len ≤ cap → (0 < len → a = some ad ∧ ad.spot = none) →
  (∀ i j, i < len → j < s → S ad.block (ad.off + i * s + j) ∧ w.cell? ⟨ad.block, ad.off + i * s + j, none⟩ = some (vals i j) ∧ (vals i j).oneCell' = true) →
  (∀ i j, i < len → j < s → VP S w ((es.getD i []).getD j .undef) (vals i j)) → VP S w (.sl s es) (.slice a len cap)
 | fn {f} : VP S w (.fn f) (.func (.func f) #[] #[])
 | undef {v} : VP S w .undef v
 | anyb {b} : VP S w .anyb (.bool b)
theorem VP.keep {S S' : Nat → Nat → Prop} {w w' : World} (hs : ∀ b o, S b o → S' b o) (hc : ∀ b o, S b o → w'.cell? ⟨b, o, none⟩ = w.cell? ⟨b, o, none⟩) {x : Pd} {v : Value} (h : VP S w x v) : VP S' w' x v := by
 induction h with
 | int => exact .int
 | bool => exact .bool
 | str => exact .str
 | agg h1 h2 _ ih => exact .agg h1 h2 ih
 | sl ad vals h1 h2 h3 h4 _ ih => exact .sl ad vals h1 h2 h3 (fun i j hi hj => ⟨hs _ _ (h4 i j hi hj).1, (hc _ _ (h4 i j hi hj).1).trans (h4 i j hi hj).2.1, (h4 i j hi hj).2.2⟩) ih
 | fn => exact .fn
 | undef => exact .undef
 | anyb => exact .anyb
structure Rz where
 blk : Option Nat
 tip : Value
 fp : Nat → Prop
 cl : Nat → Value
abbrev Rz.of (b : Option Nat) (t : Value) : Rz := ⟨b, t, fun _ => False, fun _ => undef⟩
inductive VD (ρ : Nm → Rz) (S : Nat → Nat → Prop) (w : World) : Dv → Value → Prop
 | p {x v} : VP S w x v → VD ρ S w (.p x) v
 | nilsl {s} : VD ρ S w (.nilsl s) (.slice none 0 0)
 | ptr {m off b} : (ρ m).blk = some b → VD ρ S w (.ptr m off) (.pointer (some ⟨b, off, none⟩))
 | arr {m} : (ρ m).tip.oneCell' = true → VD ρ S w (.arr m) (ρ m).tip
 | el {m j s off b} : (ρ m).blk = some b → VD ρ S w (.el m j s off) (.pointer (some ⟨b, j * s + off, none⟩))
 | mp {m b} : (ρ m).blk = some b → VD ρ S w (.mp m) (.map (some b))
 | sub {m j s off e s'} : ((ρ m).cl (j * s + off)).oneCell' = true → VD ρ S w (.sub m j s off e s') ((ρ m).cl (j * s + off))
 | ro {s cs ad} (vals : Nat → Value) : ad.spot = none → (∀ j, j < s → S ad.block (ad.off + j) ∧ w.cell? ⟨ad.block, ad.off + j, none⟩ = some (vals j) ∧ (vals j).oneCell' = true) →
  (∀ j, j < s → VP S w (cs.getD j .undef) (vals j)) → VD ρ S w (.ro s cs) (.pointer (some ad))
 | agg {n ds vs} : ds.length ≤ n → vs.size = n → (∀ j, j < n → (vs.getD j undef).oneCell' = true) → (∀ j, j < n → VD ρ S w (ds.getD j ud) (vs.getD j undef)) → VD ρ S w (.agg n ds) (.agg vs)
 | fn {f ds vs} : vs.size = ds.length → (∀ j, j < ds.length → VD ρ S w (ds.getD j ud) (vs.getD j undef)) → VD ρ S w (.fn f ds) (.func (.func f) #[] vs)
 | tup {ds vs} : vs.size = ds.length → (∀ j, j < ds.length → VD ρ S w (ds.getD j ud) (vs.getD j undef)) → VD ρ S w (.tup ds) (.tuple vs)
theorem VD.un {ρ : Nm → Rz} {S : Nat → Nat → Prop} {w : World} {v : Value} : VD ρ S w ud v := .p .undef
theorem VD.keep {ρ ρ' : Nm → Rz} {S S' : Nat → Nat → Prop} {w w' : World} (hr : ∀ m, ρ' m = ρ m) (hs : ∀ b o, S b o → S' b o) (hc : ∀ b o, S b o → w'.cell? ⟨b, o, none⟩ = w.cell? ⟨b, o, none⟩) {d : Dv} {v : Value} (h : VD ρ S w d v) : VD ρ' S' w' d v := by
 have : ρ' = ρ := funext hr
 subst this
 induction h with
 | p h => exact .p (h.keep hs hc)
 | nilsl => exact .nilsl
 | ptr h => exact .ptr h
 | arr h => exact .arr h
 | el h => exact .el h
 | mp h => exact .mp h
 | sub h => exact .sub h
 | ro vals h1 h2 h3 => exact .ro vals h1 (fun j hj => ⟨hs _ _ (h2 j hj).1, (hc _ _ (h2 j hj).1).trans (h2 j hj).2.1, (h2 j hj).2.2⟩) (fun j hj => (h3 j hj).keep hs hc)
 | agg h0 h1 h2 _ ih => exact .agg h0 h1 h2 ih
 | fn h1 _ ih => exact .fn h1 ih
 | tup h1 _ ih => exact .tup h1 ih
theorem scrubs_eq (m : Nm) : ∀ ds : List Dv, scrub.scrubs m ds = ds.map (scrub m)
 | [] => rfl
 | d :: ds => by rw [scrub.scrubs, scrubs_eq m ds]; rfl
theorem getD_map_ud {f : Dv → Dv} (hf : f ud = ud) (ds : List Dv) (j : Nat) : (ds.map f).getD j ud = f (ds.getD j ud) := by
 simp only [List.getD_eq_getElem?_getD, List.getElem?_map]
 cases ds[j]? with
 | none => exact hf.symm
 | some d => rfl
theorem VD.scrub_ {ρ ρ' : Nm → Rz} {m : Nm} (hr : ∀ m', m' ≠ m → ρ' m' = ρ m') {S : Nat → Nat → Prop} {w : World} {d : Dv} {v : Value} (h : VD ρ S w d v) : VD ρ' S w (scrub m d) v := by
 induction h with
 | p h => exact .p h
 | nilsl => exact .nilsl
 | ptr h =>
  unfold scrub; split
  ·exact .un
  ·rename_i hne; exact .ptr (by rw [hr _ hne]; exact h)
 | arr h =>
  rename_i m'
  unfold scrub; split
  ·exact .un
  ·rename_i hne; rw [← hr _ hne] at h ⊢; exact .arr h
 | el h =>
  unfold scrub; split
  ·exact .un
  ·rename_i hne; exact .el (by rw [hr _ hne]; exact h)
 | mp h =>
  unfold scrub; split
  ·exact .un
  ·rename_i hne; exact .mp (by rw [hr _ hne]; exact h)
 | @sub m' j s off e s' h =>
  unfold scrub; split
  ·exact .un
  ·rename_i hne; rw [← hr _ hne] at h ⊢; exact .sub h
 | ro vals h1 h2 h3 => exact .ro vals h1 h2 h3
 | agg h0 h1 h2 _ ih =>
  unfold scrub; rw [scrubs_eq]
  exact .agg (by rw [List.length_map]; exact h0) h1 h2 (fun j hj => by rw [getD_map_ud rfl]; exact ih j hj)
 | fn h1 _ ih =>
  unfold scrub; rw [scrubs_eq]
  exact .fn (by rw [List.length_map]; exact h1) (fun j hj => by rw [getD_map_ud rfl]; exact ih j (by rwa [List.length_map] at hj))
 | tup h1 _ ih =>
  unfold scrub; rw [scrubs_eq]
  exact .tup (by rw [List.length_map]; exact h1) (fun j hj => by rw [getD_map_ud rfl]; exact ih j (by rwa [List.length_map] at hj))
theorem scrubSs_eq (m : Nm) : ∀ ds : List Dv, scrubS.scrubSs m ds = ds.map (scrubS m)
 | [] => rfl
 | d :: ds => by rw [scrubS.scrubSs, scrubSs_eq m ds]; rfl
theorem VD.scrubS_ {ρ ρ' : Nm → Rz} {m : Nm} (hr : ∀ m', m' ≠ m → ρ' m' = ρ m') (hb : (ρ' m).blk = (ρ m).blk) (ht : (ρ' m).tip = (ρ m).tip) {S : Nat → Nat → Prop} {w : World} {d : Dv} {v : Value} (h : VD ρ S w d v) : VD ρ' S w (scrubS m d) v := by
 have hb' : ∀ m', (ρ' m').blk = (ρ m').blk := fun m' => by
  by_cases e : m' = m
  ·rw [e]; exact hb
  ·rw [hr _ e]
 have ht' : ∀ m', (ρ' m').tip = (ρ m').tip := fun m' => by
  by_cases e : m' = m
  ·rw [e]; exact ht
  ·rw [hr _ e]
 induction h with
 | p h => exact .p h
 | nilsl => exact .nilsl
 | ptr h => exact .ptr (by rw [hb']; exact h)
 | arr h => rename_i m'; rw [← ht' m'] at h ⊢; exact .arr h
 | el h => exact .el (by rw [hb']; exact h)
 | mp h => exact .mp (by rw [hb']; exact h)
 | @sub m' j s off e s' h =>
  unfold scrubS; split
  ·exact .un
  ·rename_i hne; rw [← hr _ hne] at h ⊢; exact .sub h
 | ro vals h1 h2 h3 => exact .ro vals h1 h2 h3
 | agg h0 h1 h2 _ ih =>
  unfold scrubS; rw [scrubSs_eq]
  exact .agg (by rw [List.length_map]; exact h0) h1 h2 (fun j hj => by rw [getD_map_ud rfl]; exact ih j hj)
 | fn h1 _ ih =>
  unfold scrubS; rw [scrubSs_eq]
  exact .fn (by rw [List.length_map]; exact h1) (fun j hj => by rw [getD_map_ud rfl]; exact ih j (by rwa [List.length_map] at hj))
 | tup h1 _ ih =>
  unfold scrubS; rw [scrubSs_eq]
  exact .tup (by rw [List.length_map]; exact h1) (fun j hj => by rw [getD_map_ud rfl]; exact ih j (by rwa [List.length_map] at hj))
theorem cell_heap {w w' : World} {b o : Nat} (h : w'.heap[b]? = w.heap[b]?) : w'.cell? ⟨b, o, none⟩ = w.cell? ⟨b, o, none⟩ := World.cell?_of_block (w := w) h
theorem ownsRow_keep {w w' : World} {base e s n : Nat} {v : Value} {xs : List Value} (h : w.ownsRow base e s v n xs) (hb : ∀ b, v.ownBlock = some b → w'.heap[b]? = w.heap[b]?) : w'.ownsRow base e s v n xs := by
 obtain ⟨h1, h2⟩ := h
 refine ⟨h1, ?_⟩
 rcases h2 with h2 | ⟨g, cap, cur, hv, hg, hh, r⟩
 ·exact .inl h2
 ·subst hv
  exact .inr ⟨g, cap, cur, rfl, hg, by rw [hb g rfl]; exact hh, r⟩
theorem own_cells {w : World} {e s n : Nat} {v : Value} {xs : List Value} (h : w.ownsRow 0 e s v n xs) : ∃ a cap, v = .slice a n cap ∧ n ≤ cap ∧ (a = none → n = 0) ∧ ∀ g, v.ownBlock = some g → a = some ⟨g, 0, none⟩ ∧ g < w.heap.size ∧
 ∀ i, i < n * s → w.cell? ⟨g, i, none⟩ = some (xs.getD i undef) := by
 rcases h.2 with ⟨rfl, rfl⟩ | ⟨g, cap, cur, rfl, _, hg, hc, _, hs, ht⟩
 ·exact ⟨none, 0, rfl, Nat.le_refl _, fun _ => rfl, fun g q => nomatch q⟩
 ·refine ⟨some ⟨g, 0, none⟩, cap, rfl, hc, (fun q => nomatch q), fun g' q => ?_⟩
  have e1 : g = g' := by simpa [Value.ownBlock] using q
  subst e1
  refine ⟨rfl, (Array.getElem?_eq_some_iff.1 hg).1, fun i hi => ?_⟩
  have hlt : i < cur.size := by rw [hs]; exact Nat.lt_of_lt_of_le hi (Nat.mul_le_mul_right _ hc)
  rw [cell_of_row w g i cur e (0, 0) hg, ← ht]
  simp [List.getD_eq_getElem?_getD, List.getElem?_take, hi, hlt]
def N0 : Nat → Nat → Prop := fun _ _ => False
theorem VP.of0 {S : Nat → Nat → Prop} {w : World} {x : Pd} {v : Value} (h : VP N0 w x v) : VP S w x v := h.keep (fun _ _ q => q.elim) (fun _ _ q => q.elim)
theorem VP.to0 {S : Nat → Nat → Prop} {w w' : World} {x : Pd} {v : Value} (h : VP S w x v) (hx : scalPd x = true) : VP N0 w' x v := by
 cases h with
 | int => exact .int
 | bool => exact .bool
 | str => exact .str
 | agg => cases hx
 | sl => cases hx
 | fn => exact .fn
 | undef => exact .undef
 | anyb => exact .anyb
def SX (mx : Bool) (S : Nat → Nat → Prop) : Nat → Nat → Prop := fun b o => mx = true ∧ S b o
theorem VP.toX {S : Nat → Nat → Prop} {w : World} {x : Pd} {v : Value} {mx : Bool} (h : VP S w x v) (hx : (mx || scalPd x) = true) : VP (SX mx S) w x v := by
 cases mx with
 | true => exact h.keep (fun _ _ q => ⟨rfl, q⟩) (fun _ _ _ => rfl)
 | false => exact (h.to0 hx).of0
theorem scal_getD {xs : List Pd} (h : xs.all scalPd = true) (j : Nat) : scalPd (xs.getD j .undef) = true := by
 rw [List.getD_eq_getElem?_getD]
 cases hj : xs[j]? with
 | none => rfl
 | some x => exact (List.all_eq_true.1 h) x (List.mem_of_getElem? hj)
theorem okEs_getD {es : List (List Pd)} (h : okEs es = true) (i j : Nat) : scalPd ((es.getD i []).getD j .undef) = true := by
 rw [List.getD_eq_getElem?_getD (l := es)]
 cases hi : es[i]? with
 | none => rfl
 | some c => exact scal_getD ((List.all_eq_true.1 h) c (List.mem_of_getElem? hi)) j
inductive VO (S : Nat → Nat → Prop) (w : World) : (Nat → Prop) → Pd → Value → Prop
 | p {ok x v} : VP S w x v → VO S w ok x v
 | ow {ok e s es v} (xs : List Value) (f : Nat → Nat) : 0 < s → w.ownsRow 0 e s v es.length xs → (∀ g, v.ownBlock = some g → ok g) → (∀ u ∈ xs, u.oneCell' = true) →
  (∀ i j, i < es.length → j < s → VO S w (fun k => ok k ∧ v.ownBlock ≠ some k ∧ f k = i * s + j) ((es.getD i []).getD j .undef) (xs.getD (i * s + j) undef)) → VO S w ok (.ow e s es) v
theorem VO.keep {S S' : Nat → Nat → Prop} {w w' : World} (hs : ∀ b o, S b o → S' b o) (hc : ∀ b o, S b o → w'.cell? ⟨b, o, none⟩ = w.cell? ⟨b, o, none⟩) {ok : Nat → Prop} {x : Pd} {v : Value} (h : VO S w ok x v)
 (hb : ∀ k, ok k → w'.heap[k]? = w.heap[k]?) : VO S' w' ok x v := by
 induction h with
 | p h => exact .p (h.keep hs hc)
 | ow xs f h0 h1 h2 h3 _ ih => exact .ow xs f h0 (ownsRow_keep h1 fun b q => hb b (h2 b q)) h2 h3 fun i j hi hj => ih i j hi hj fun k hk => hb k hk.1
theorem VO.mono {S : Nat → Nat → Prop} {w : World} {ok : Nat → Prop} {x : Pd} {v : Value} (h : VO S w ok x v) : ∀ {ok' : Nat → Prop}, (∀ k, ok k → ok' k) → VO S w ok' x v := by
 induction h with
 | p h => intro ok' _; exact .p h
 | ow xs f h0 h1 h2 h3 _ ih => intro ok' hk; exact .ow xs f h0 h1 (fun g q => hk g (h2 g q)) h3 fun i j hi hj => ih i j hi hj fun k hk' => ⟨hk k hk'.1, hk'.2⟩
theorem VP.cold_ {S : Nat → Nat → Prop} {w : World} {x : Pd} {v : Value} (h : VP S w x v) : cold x = x := by cases h <;> rfl
theorem colds_len : ∀ es : List (List Pd), (colds es).length = es.length
 | [] => rfl
 | c :: cs => by rw [colds, List.length_cons, colds_len cs, List.length_cons]
theorem coldc_get : ∀ (xs : List Pd) (j : Nat), (coldc xs).getD j .undef = cold (xs.getD j .undef)
 | [], j => by simp [coldc, cold]
 | x :: xs, 0 => by simp [coldc]
 | x :: xs, j + 1 => by simpa [coldc] using coldc_get xs j
theorem colds_get : ∀ (es : List (List Pd)) (i : Nat), (colds es).getD i [] = coldc (es.getD i [])
 | [], i => by simp [colds, coldc]
 | c :: cs, 0 => by simp [colds]
 | c :: cs, i + 1 => by simpa [colds] using colds_get cs i
theorem idx_lt {i j n s : Nat} (hi : i < n) (hj : j < s) : i * s + j < n * s := by
 have : i * s + s ≤ n * s := by rw [← Nat.succ_mul]; exact Nat.mul_le_mul_right _ hi
 omega
theorem VO.ofX {S : Nat → Nat → Prop} {w : World} {ok : Nat → Prop} {x : Pd} {v : Value} (h : VO (SX false S) w ok x v) : VO N0 w ok x v := h.keep (fun _ _ q => nomatch q.1) (fun _ _ _ => rfl) fun _ _ => rfl
theorem VO.toX {S : Nat → Nat → Prop} {w : World} {mx : Bool} {ok : Nat → Prop} {x : Pd} {v : Value} (h : VO N0 w ok x v) : VO (SX mx S) w ok x v := h.keep (fun _ _ q => q.elim) (fun _ _ _ => rfl) fun _ _ => rfl
theorem VO.inX {S : Nat → Nat → Prop} {w : World} {ok : Nat → Prop} {x : Pd} {v : Value} (h : VO S w ok x v) : VO (SX true S) w ok x v := h.keep (fun _ _ q => ⟨rfl, q⟩) (fun _ _ _ => rfl) fun _ _ => rfl
theorem VO.outX {S : Nat → Nat → Prop} {w : World} {mx : Bool} {ok : Nat → Prop} {x : Pd} {v : Value} (h : VO (SX mx S) w ok x v) : VO S w ok x v := h.keep (fun _ _ q => q.2) (fun _ _ _ => rfl) fun _ _ => rfl
theorem VO.cold_ {S S' : Nat → Nat → Prop} {w : World} (hs : ∀ b o, S b o → S' b o) {ok : Nat → Prop} {x : Pd} {v : Value} (h : VO S w ok x v) (hS : ∀ k o u, ok k → w.cell? ⟨k, o, none⟩ = some u → S' k o) : VP S' w (cold x) v := by
 induction h with
 | p h => rw [h.cold_]; exact h.keep hs (fun _ _ _ => rfl)
 | @ow ok e s es v xs f h0 h1 h2 h3 _ ih =>
  obtain ⟨a, cap, ev, hcap, ha, hg⟩ := own_cells h1
  have hxl := h1.1
  rw [cold, ev]
  cases a with
  | none =>
   have h0 := ha rfl
   exact .sl ⟨0, 0, none⟩ (fun _ _ => undef) (colds_len es).symm hcap (fun q => by omega) (fun i j hi => by omega) (fun i j hi => by omega)
  | some ad =>
   have q : v.ownBlock = some ad.block := by rw [ev]; rfl
   obtain ⟨q1, q2, q3⟩ := hg ad.block q
   injection q1 with q1
   refine .sl ad (fun i j => xs.getD (i * s + j) undef) (colds_len es).symm hcap (fun _ => ⟨rfl, by rw [q1]⟩) (fun i j hi hj => ?_) (fun i j hi hj => ?_)
   ·have hh := idx_lt hi hj
    have hoff : ad.off = 0 := by rw [q1]
    rw [hoff, Nat.zero_add]
    refine ⟨hS _ _ _ (h2 _ q) (q3 _ hh), q3 _ hh, ?_⟩
    refine h3 _ ?_
    rw [List.getD_eq_getElem?_getD, List.getElem?_eq_getElem (by rw [hxl]; exact hh)]
    exact List.getElem_mem _
   ·rw [colds_get, coldc_get]
    exact ih i j hi hj fun k o u hk hu => hS k o u hk.1 hu
def ObRel (ρ : Nm → Rz) (S : Nat → Nat → Prop) (w : World) (o : Ob) (z : Rz) : Prop := match o with
 | .none => True
 | .box n cs => ∃ b vs ty, z.blk = some b ∧ w.heap[b]? = some (.cells vs ty (0, 0)) ∧ vs.size = n ∧ (∀ j, j < n → (vs.getD j undef).oneCell' = true) ∧ ∀ j, j < n → VP S w (cs.getD j .undef) (vs.getD j undef)
 | .mbox n ds => ∃ b vs ty, z.blk = some b ∧ w.heap[b]? = some (.cells vs ty (0, 0)) ∧ vs.size = n ∧ (∀ j, j < n → (vs.getD j undef).oneCell' = true) ∧ ∀ j, j < n → VD ρ S w (ds.getD j ud) (vs.getD j undef)
 | .map es => ∃ (b : Nat) (ents : Array MapEntry) (clock : Nat), z.blk = some b ∧ w.heap[b]? = some (.map ents clock) ∧ ents.size = es.length ∧ ∀ (i : Nat) (x : ByteArray × Pd), es[i]? = some x → ∃ en : MapEntry, ents[i]? = some en ∧ en.key = .string x.1 ∧ VP S w x.2 en.val
 | .arr e s _ _ es => ∃ xs, w.ownsRow 0 e s z.tip es.length xs ∧ z.blk = z.tip.ownBlock ∧ 0 < s ∧ (∀ u ∈ xs, u.oneCell' = true) ∧ ∀ i j, i < es.length → j < s → VP S w ((es.getD i []).getD j .undef) (xs.getD (i * s + j) undef)
 | .oarr e s es => z.blk = z.tip.ownBlock ∧ z.tip.oneCell' = true ∧ VO N0 w z.fp (.ow e s es) z.tip ∧ ∀ i j b, i < es.length → j < s → isOwP ((es.getD i []).getD j .undef) = true → z.blk = some b → w.cell? ⟨b, i * s + j, none⟩ = some (z.cl (i * s + j))
 | .marr e s es lk => z.blk = z.tip.ownBlock ∧ z.tip.oneCell' = true ∧ VO S w z.fp (.ow e s es) z.tip ∧ ∀ j off n, lk = some (j, off, n) → j < es.length ∧ off < s ∧ ∀ b, z.blk = some b → w.cell? ⟨b, j * s + off, none⟩ = some (ρ n).tip
 | .gmap e s es lk => ∃ (b : Nat) (ents : Array MapEntry) (clock : Nat) (f : Nat → Nat), z.blk = some b ∧ z.fp b ∧ 0 < s ∧ w.heap[b]? = some (.map ents clock) ∧ ents.size = es.length ∧ (∀ (i : Nat) (x : ByteArray × Pd), es[i]? = some x → ∃ en : MapEntry, ents[i]? = some en ∧ en.key = .string x.1 ∧ en.val.oneCell' = true ∧ VO S w (fun k => z.fp k ∧ k ≠ b ∧ f k = i) x.2 en.val) ∧
  ∀ j n, lk = some (j, n) → ∀ en, ents[j]? = some en → en.val = (ρ n).tip
def obX (mx : Bool) (e s : Nat) (es : List (List Pd)) : Ob := if mx = true then .marr e s es none else .oarr e s es
def isO : Ob → Bool
 | .oarr .. => true
 | .marr .. => true
 | .gmap .. => true
 | _ => false
theorem isO_X (mx : Bool) (e s : Nat) (es : List (List Pd)) : isO (obX mx e s es) = true := by cases mx <;> rfl
theorem obX_rel {ρ : Nm → Rz} {S : Nat → Nat → Prop} {w : World} {mx : Bool} {e s : Nat} {es : List (List Pd)} {z : Rz} (h1 : z.blk = z.tip.ownBlock) (h2 : z.tip.oneCell' = true) (h3 : VO (SX mx S) w z.fp (.ow e s es) z.tip)
 (h4 : ∀ i j b, i < es.length → j < s → isOwP ((es.getD i []).getD j .undef) = true → z.blk = some b → w.cell? ⟨b, i * s + j, none⟩ = some (z.cl (i * s + j))) : ObRel ρ S w (obX mx e s es) z := by
 cases mx with
 | true => exact ⟨h1, h2, h3.outX, fun j off n q => nomatch q⟩
 | false => exact ⟨h1, h2, h3.ofX, h4⟩
structure Cx where
 w0 : World
 S0 : Nat → Nat → Prop
 F : Nat → Prop
 B : Nat → Option Rz
structure Core (cx : Cx) (ρ : Nm → Rz) (S : Nat → Nat → Prop) (L O : List Ob) (w : World) : Prop where
 ob : ∀ m, ObRel ρ S w (getOb L O m) (ρ m)
 ne : ∀ m m' b, getOb L O m ≠ .none → getOb L O m' ≠ .none → (ρ m).blk = some b → (ρ m').blk = some b → m = m'
 ss : ∀ m b o, getOb L O m ≠ .none → (ρ m).blk = some b → S b o → ∃ e s bb es, getOb L O m = .arr e s bb true es ∧ o < es.length * s
 own : ∀ m b, getOb L O m ≠ .none → (ρ m).blk = some b → b < w.heap.size ∧ (cx.w0.heap.size ≤ b ∨ cx.F b)
 sb : ∀ b o, S b o → b < w.heap.size
 s0 : ∀ b o, cx.S0 b o → S b o
 sn : ∀ b o, S b o → cx.S0 b o ∨ cx.w0.heap.size ≤ b ∨ cx.F b
 fr : ∀ b, b < cx.w0.heap.size → ¬ cx.F b → w.heap[b]? = cx.w0.heap[b]?
 sk : ∀ b o, cx.S0 b o → w.cell? ⟨b, o, none⟩ = cx.w0.cell? ⟨b, o, none⟩
 ws : cx.w0.heap.size ≤ w.heap.size
 os : w.os = cx.w0.os
 tape : w.tape = cx.w0.tape
 output : w.output = cx.w0.output
 bx : ∀ i z, cx.B i = some z → ρ (.out i) = z ∧ isArr (getOb L O (.out i)) = false
 fp : ∀ m k, isO (getOb L O m) = true → (ρ m).fp k → k < w.heap.size ∧ (cx.w0.heap.size ≤ k ∨ cx.F k) ∧ ∀ o, ¬ S k o
 fd : ∀ m m' k, isO (getOb L O m) = true → getOb L O m' ≠ .none → m' ≠ m → (ρ m).fp k → (ρ m').blk ≠ some k ∧ (isO (getOb L O m') = true → ¬ (ρ m').fp k)
theorem isArr_scrub (m : Nm) (o : Ob) : isArr (scrubOb m o) = isArr o := by cases o <;> rfl
structure Rel [Cfg] (cx : Cx) (ρ : Nm → Rz) (S : Nat → Nat → Prop) (st : St) (a : Act) (w : World) : Prop where
 core : Core cx ρ S st.L st.O w
 nt : a.tmps.size = st.T.length
 df : ∀ d ∈ a.defers, ∃ f cap, d = ⟨.fn (.func f) cap, #[]⟩ ∧ Cfg.qf f = some cap.size
 tm : ∀ t, VD ρ S w (st.T.getD t ud) (a.tmps.getD t undef)
theorem getOb_set (L O : List Ob) (m m' : Nm) (o : Ob) : getOb (setL L m o) (setO O m o) m' = getOb L O m' ∨ (m' = m ∧ getOb (setL L m o) (setO O m o) m' = o) := by
 cases m with
 | loc s =>
  cases m' with
  | loc s' =>
   simp only [getOb, setL, List.getD_eq_getElem?_getD, List.getElem?_set]
   by_cases h : s = s'
   ·subst h
    by_cases hl : s < L.length
    ·right; simp [hl]
    ·left; simp [hl]
   ·left; simp [h]
  | out i => left; rfl
 | out i =>
  cases m' with
  | loc s' => left; rfl
  | out i' =>
   simp only [getOb, setO, List.getD_eq_getElem?_getD, List.getElem?_set]
   by_cases h : i = i'
   ·subst h
    by_cases hl : i < O.length
    ·right; simp [hl]
    ·left; simp [hl]
   ·left; simp [h]
theorem getOb_ne (L O : List Ob) {m m' : Nm} (h : m' ≠ m) (o : Ob) : getOb (setL L m o) (setO O m o) m' = getOb L O m' := by
 rcases getOb_set L O m m' o with h1 | h1
 ·exact h1
 ·exact absurd h1.1 h
theorem getOb_self (L O : List Ob) {m : Nm} (h : getOb L O m ≠ .none) (o : Ob) : getOb (setL L m o) (setO O m o) m = o := by
 cases m with
 | loc s =>
  simp only [getOb, setL, List.getD_eq_getElem?_getD, List.getElem?_set] at h ⊢
  by_cases hl : s < L.length
  ·simp [hl]
  ·simp [hl] at h
 | out i =>
  simp only [getOb, setO, List.getD_eq_getElem?_getD, List.getElem?_set] at h ⊢
  by_cases hl : i < O.length
  ·simp [hl]
  ·simp [hl] at h
theorem getOb_map (L O : List Ob) {f : Ob → Ob} (hf : f .none = .none) (m : Nm) : getOb (L.map f) (O.map f) m = f (getOb L O m) := by
 cases m with
 | loc s =>
  simp only [getOb, List.getD_eq_getElem?_getD, List.getElem?_map]
  cases L[s]? <;> simp [hf]
 | out s =>
  simp only [getOb, List.getD_eq_getElem?_getD, List.getElem?_map]
  cases O[s]? <;> simp [hf]
theorem ObRel.keep {ρ ρ' : Nm → Rz} {S S' : Nat → Nat → Prop} {w w' : World} {o : Ob} {z : Rz} (hr : ∀ m, ρ' m = ρ m) (hs : ∀ b o, S b o → S' b o) (hc : ∀ b o, S b o → w'.cell? ⟨b, o, none⟩ = w.cell? ⟨b, o, none⟩)
 (hb : ∀ b, z.blk = some b → w'.heap[b]? = w.heap[b]?) (hf : isO o = true → ∀ k, z.fp k → w'.heap[k]? = w.heap[k]?) (h : ObRel ρ S w o z) : ObRel ρ' S' w' o z := by
 cases o with
 | none => trivial
 | box n cs =>
  obtain ⟨b, vs, ty, h1, h2, h3, h4, h5⟩ := h
  exact ⟨b, vs, ty, h1, by rw [hb b h1]; exact h2, h3, h4, fun j hj => (h5 j hj).keep hs hc⟩
 | mbox n ds =>
  obtain ⟨b, vs, ty, h1, h2, h3, h4, h5⟩ := h
  exact ⟨b, vs, ty, h1, by rw [hb b h1]; exact h2, h3, h4, fun j hj => (h5 j hj).keep hr hs hc⟩
 | arr e s bb ro es =>
  obtain ⟨xs, h1, h2, h3, h4, h5⟩ := h
  exact ⟨xs, ownsRow_keep h1 (fun b q => hb b (h2.trans q)), h2, h3, h4, fun i j hi hj => (h5 i j hi hj).keep hs hc⟩
 | map es =>
  obtain ⟨b, ents, clock, h1, h2, h3, h4⟩ := h
  exact ⟨b, ents, clock, h1, by rw [hb b h1]; exact h2, h3, fun i x hx => by
   obtain ⟨en, q1, q2, q3⟩ := h4 i x hx
   exact ⟨en, q1, q2, q3.keep hs hc⟩⟩
 | marr e s es lk =>
  obtain ⟨h1, h2, h3, h4⟩ := h
  exact ⟨h1, h2, h3.keep hs hc (hf rfl), fun j off n q => ⟨(h4 j off n q).1, (h4 j off n q).2.1, fun b hz => by rw [hr]; exact (cell_heap (hb b hz)).trans ((h4 j off n q).2.2 b hz)⟩⟩
 | oarr e s es =>
  obtain ⟨h1, h2, h3, h4⟩ := h
  exact ⟨h1, h2, h3.keep (fun _ _ q => q) (fun _ _ q => q.elim) (hf rfl), fun i j b hi hj ho hz => (cell_heap (hb b hz)).trans (h4 i j b hi hj ho hz)⟩
 | gmap e s es lk =>
  obtain ⟨b, ents, clock, f, h1, h2, h3, h4, h5, h6, h7⟩ := h
  exact ⟨b, ents, clock, f, h1, h2, h3, by rw [hb b h1]; exact h4, h5, fun i x hx => by
   obtain ⟨en, q1, q2, q3, q4⟩ := h6 i x hx
   exact ⟨en, q1, q2, q3, q4.keep hs hc fun k hk => hf rfl k hk.1⟩, fun j n q en hen => by rw [hr]; exact h7 j n q en hen⟩
theorem ObRel.scrub_ {ρ ρ' : Nm → Rz} {m : Nm} (hr : ∀ m', m' ≠ m → ρ' m' = ρ m') {S : Nat → Nat → Prop} {w : World} {o : Ob} {z : Rz} (h : ObRel ρ S w o z) : ObRel ρ' S w (scrubOb m o) z := by
 cases o with
 | none => trivial
 | box n cs => exact h
 | mbox n ds =>
  obtain ⟨b, vs, ty, h1, h2, h3, h4, h5⟩ := h
  exact ⟨b, vs, ty, h1, h2, h3, h4, fun j hj => by rw [getD_map_ud rfl]; exact (h5 j hj).scrub_ hr⟩
 | arr e s bb ro es => exact h
 | map es => exact h
 | oarr e s es => exact h
 | marr e s es lk =>
  obtain ⟨h1, h2, h3, h4⟩ := h
  refine ⟨h1, h2, h3, fun j off n q => ?_⟩
  cases lk with
  | none => cases q
  | some l =>
   obtain ⟨j', off', n'⟩ := l
   simp only [unlk] at q
   split at q
   ·cases q
   ·rename_i hne
    injection q with q; injection q with e1 e2; injection e2 with e2 e3; subst e1 e2 e3
    have := h4 j' off' n' rfl
    exact ⟨this.1, this.2.1, fun b hb => by rw [hr _ hne]; exact this.2.2 b hb⟩
 | gmap e s es lk =>
  obtain ⟨b, ents, clock, f, h1, h2, h3, h4, h5, h6, h7⟩ := h
  refine ⟨b, ents, clock, f, h1, h2, h3, h4, h5, h6, fun j n q en hen => ?_⟩
  cases lk with
  | none => cases q
  | some l =>
   obtain ⟨j', n'⟩ := l
   simp only [unlkG] at q
   split at q
   ·cases q
   ·rename_i hne
    injection q with q; injection q with e1 e2; subst e1 e2
    rw [hr _ hne]; exact h7 j' n' rfl en hen
theorem ObRel.scrubS_ {ρ ρ' : Nm → Rz} {m : Nm} (hr : ∀ m', m' ≠ m → ρ' m' = ρ m') (hb : (ρ' m).blk = (ρ m).blk) (ht : (ρ' m).tip = (ρ m).tip) {S : Nat → Nat → Prop} {w : World} {o : Ob} {z : Rz} (h : ObRel ρ S w o z) : ObRel ρ' S w (scrubObS m o) z := by
 cases o with
 | mbox n ds =>
  obtain ⟨b, vs, ty, h1, h2, h3, h4, h5⟩ := h
  exact ⟨b, vs, ty, h1, h2, h3, h4, fun j hj => by rw [getD_map_ud rfl]; exact (h5 j hj).scrubS_ hr hb ht⟩
 | none => trivial
 | box n cs => exact h
 | arr e s bb ro es => exact h
 | map es => exact h
 | oarr e s es => exact h
 | marr e s es lk =>
  have ht' : ∀ m', (ρ' m').tip = (ρ m').tip := fun m' => by
   by_cases e : m' = m
   ·rw [e]; exact ht
   ·rw [hr _ e]
  obtain ⟨h1, h2, h3, h4⟩ := h
  exact ⟨h1, h2, h3, fun j off n q => ⟨(h4 j off n q).1, (h4 j off n q).2.1, fun b hb => by rw [ht']; exact (h4 j off n q).2.2 b hb⟩⟩
 | gmap e s es lk =>
  have ht' : ∀ m', (ρ' m').tip = (ρ m').tip := fun m' => by
   by_cases e : m' = m
   ·rw [e]; exact ht
   ·rw [hr _ e]
  obtain ⟨b, ents, clock, f, h1, h2, h3, h4, h5, h6, h7⟩ := h
  exact ⟨b, ents, clock, f, h1, h2, h3, h4, h5, h6, fun j n q en hen => by rw [ht']; exact h7 j n q en hen⟩
theorem isO_scrub (m : Nm) (o : Ob) : isO (scrubOb m o) = isO o := by cases o <;> rfl
theorem scrubOb_none (m : Nm) : scrubOb m .none = .none := rfl
theorem scrubOb_eq_none {m : Nm} {o : Ob} (h : scrubOb m o = .none) : o = .none := by cases o <;> simp_all [scrubOb]
theorem scrubOb_arr {m : Nm} {o : Ob} {e s bb : Nat} {ro : Bool} {es : List (List Pd)} (h : o = .arr e s bb ro es) : scrubOb m o = .arr e s bb ro es := by subst h; rfl
theorem Core.grow {cx : Cx} {ρ : Nm → Rz} {S : Nat → Nat → Prop} {L O : List Ob} {w w' : World} (h : Core cx ρ S L O w) (hb : ∀ b, b < w.heap.size → w'.heap[b]? = w.heap[b]?) (hz : w.heap.size ≤ w'.heap.size)
 (h1 : w'.os = w.os) (h2 : w'.tape = w.tape) (h3 : w'.output = w.output) : Core cx ρ S L O w' where
 ob m := by
  by_cases hl : getOb L O m = .none
  ·rw [hl]; trivial
  ·exact (h.ob m).keep (fun _ => rfl) (fun _ _ q => q) (fun b o q => cell_heap (hb b (h.sb b o q))) (fun b q => hb b (h.own m b hl q).1) (fun ho k q => hb k (h.fp m k ho q).1)
 ne := h.ne
 ss := h.ss
 own m b hl q := ⟨Nat.lt_of_lt_of_le (h.own m b hl q).1 hz, (h.own m b hl q).2⟩
 sb b o q := Nat.lt_of_lt_of_le (h.sb b o q) hz
 s0 := h.s0
 sn := h.sn
 fr b hb0 hF := (hb b (Nat.lt_of_lt_of_le hb0 h.ws)).trans (h.fr b hb0 hF)
 sk b o q := (cell_heap (hb b (h.sb b o (h.s0 b o q)))).trans (h.sk b o q)
 ws := Nat.le_trans h.ws hz
 os := h1.trans h.os
 tape := h2.trans h.tape
 output := h3.trans h.output
 bx := h.bx
 fp m k ho q := ⟨Nat.lt_of_lt_of_le (h.fp m k ho q).1 hz, (h.fp m k ho q).2⟩
 fd := h.fd
theorem Core.put_ {cx : Cx} {ρ : Nm → Rz} {S : Nat → Nat → Prop} {L O : List Ob} {w w' : World} (h : Core cx ρ S L O w) (m : Nm) (ob' : Ob) (z' : Rz)
 (hz : w.heap.size ≤ w'.heap.size) (h1 : w'.os = w.os) (h2 : w'.tape = w.tape) (h3 : w'.output = w.output)
 (hb : ∀ b, b < w.heap.size → ¬ (getOb L O m ≠ .none ∧ (ρ m).blk = some b) → w'.heap[b]? = w.heap[b]?)
 (hc : ∀ b o, S b o → w'.cell? ⟨b, o, none⟩ = w.cell? ⟨b, o, none⟩)
 (hob : ObRel (fun n => if n = m then z' else ρ n) S w' ob' z')
 (hblk : ∀ b, z'.blk = some b → (w.heap.size ≤ b ∧ b < w'.heap.size) ∨ (getOb L O m ≠ .none ∧ (ρ m).blk = some b))
 (hss : ∀ b o, z'.blk = some b → S b o → ∃ e s bb es, ob' = .arr e s bb true es ∧ o < es.length * s) (hbx : ∀ i, m = .out i → isArr (getOb L O m) = true) (hno : isO ob' = false) :
 Core cx (fun n => if n = m then z' else ρ n) S (setL (L.map (scrubOb m)) m ob') (setO (O.map (scrubOb m)) m ob') w' := by
 have hself : ∀ m', getOb (setL (L.map (scrubOb m)) m ob') (setO (O.map (scrubOb m)) m ob') m' = scrubOb m (getOb L O m') ∨ (m' = m ∧ getOb (setL (L.map (scrubOb m)) m ob') (setO (O.map (scrubOb m)) m ob') m' = ob') := by
  intro m'
  rcases getOb_set (L.map (scrubOb m)) (O.map (scrubOb m)) m m' ob' with q | q
  ·left; rw [q, getOb_map L O (scrubOb_none m)]
  ·right; exact q
 have hlive : ∀ m', m' ≠ m → getOb (setL (L.map (scrubOb m)) m ob') (setO (O.map (scrubOb m)) m ob') m' = scrubOb m (getOb L O m') := by
  intro m' hm
  rcases hself m' with q | q
  ·exact q
  ·exact absurd q.1 hm
 have hne : ∀ m', m' ≠ m → getOb (setL (L.map (scrubOb m)) m ob') (setO (O.map (scrubOb m)) m ob') m' ≠ .none → getOb L O m' ≠ .none := by
  intro m' hm hl q
  rw [hlive m' hm, q] at hl
  exact hl rfl
 have hm : getOb (setL (L.map (scrubOb m)) m ob') (setO (O.map (scrubOb m)) m ob') m = ob' ∨ getOb (setL (L.map (scrubOb m)) m ob') (setO (O.map (scrubOb m)) m ob') m = .none := by
  by_cases hl : getOb L O m = .none
  ·rcases hself m with q | q
   ·right; rw [q, hl]; rfl
   ·left; exact q.2
  ·left
   exact getOb_self _ _ (by rw [getOb_map L O (scrubOb_none m)]; exact fun q => hl (scrubOb_eq_none q)) _
 refine ⟨fun m' => ?_, fun m1 m2 b hl1 hl2 q1 q2 => ?_, fun m' b o hl q hS => ?_, fun m' b hl q => ?_, fun b o q => Nat.lt_of_lt_of_le (h.sb b o q) hz, h.s0, h.sn, fun b hb0 hF => ?_, fun b o q => (hc b o (h.s0 b o q)).trans (h.sk b o q), Nat.le_trans h.ws hz, h1.trans h.os, h2.trans h.tape, h3.trans h.output, fun i z q => ?_, fun m' k ho q => ?_, fun m1 m2 k ho hl e q => ?_⟩
 ·by_cases e : m' = m
  ·subst e
   rcases hm with q | q
   ·rw [q, if_pos rfl]; exact hob
   ·rw [q]; trivial
  ·rw [hlive m' e, if_neg e]
   by_cases hl : getOb L O m' = .none
   ·rw [hl]; trivial
   ·refine ((h.ob m').keep (ρ' := ρ) (fun _ => rfl) (fun _ _ q => q) hc (fun b q => hb b (h.own m' b hl q).1 (fun ⟨hlm, qm⟩ => e (h.ne m' m b hl hlm q qm))) (fun ho k q => hb k (h.fp m' k ho q).1 (fun ⟨hlm, qm⟩ => (h.fd m' m k ho hlm (fun q => e q.symm) q).1 qm))).scrub_ (fun n hn => if_neg hn)
 ·by_cases e1 : m1 = m
  ·by_cases e2 : m2 = m
   ·rw [e1, e2]
   ·exfalso
    rw [if_pos e1] at q1
    rw [if_neg e2] at q2
    have hl2' := hne m2 e2 hl2
    rcases hblk b q1 with ⟨q, _⟩ | ⟨q, q'⟩
    ·have := (h.own m2 b hl2' q2).1; omega
    ·exact e2 (h.ne m2 m b hl2' q q2 q')
  ·by_cases e2 : m2 = m
   ·exfalso
    rw [if_neg e1] at q1
    rw [if_pos e2] at q2
    have hl1' := hne m1 e1 hl1
    rcases hblk b q2 with ⟨q, _⟩ | ⟨q, q'⟩
    ·have := (h.own m1 b hl1' q1).1; omega
    ·exact e1 (h.ne m1 m b hl1' q q1 q')
   ·rw [if_neg e1] at q1
    rw [if_neg e2] at q2
    exact h.ne m1 m2 b (hne m1 e1 hl1) (hne m2 e2 hl2) q1 q2
 ·by_cases e : m' = m
  ·subst e
   rw [if_pos rfl] at q
   rcases hm with q' | q'
   ·rw [q']; exact hss b o q hS
   ·exact absurd q' hl
  ·rw [if_neg e] at q
   obtain ⟨e', s, bb, es, q1, q2⟩ := h.ss m' b o (hne m' e hl) q hS
   exact ⟨e', s, bb, es, by rw [hlive m' e]; exact scrubOb_arr q1, q2⟩
 ·by_cases e : m' = m
  ·subst e
   rw [if_pos rfl] at q
   rcases hblk b q with ⟨q1, q2⟩ | ⟨q1, q2⟩
   ·exact ⟨q2, .inl (Nat.le_trans h.ws q1)⟩
   ·exact ⟨Nat.lt_of_lt_of_le (h.own m' b q1 q2).1 hz, (h.own m' b q1 q2).2⟩
  ·rw [if_neg e] at q
   have := h.own m' b (hne m' e hl) q
   exact ⟨Nat.lt_of_lt_of_le this.1 hz, this.2⟩
 ·refine (hb b (Nat.lt_of_lt_of_le hb0 h.ws) (fun ⟨q1, q2⟩ => ?_)).trans (h.fr b hb0 hF)
  rcases (h.own m b q1 q2).2 with q | q
  ·omega
  ·exact hF q
 ·obtain ⟨q1, q2⟩ := h.bx i z q
  by_cases e : Nm.out i = m
  ·subst e
   rw [hbx i rfl] at q2
   cases q2
  ·rw [if_neg e, hlive _ e, isArr_scrub]
   exact ⟨q1, q2⟩
 ·have e : m' ≠ m := fun e => by
   subst e
   rcases hm with q' | q' <;> rw [q'] at ho
   ·rw [hno] at ho; cases ho
   ·cases ho
  rw [if_neg e] at q
  rw [hlive m' e, isO_scrub] at ho
  have := h.fp m' k ho q
  exact ⟨Nat.lt_of_lt_of_le this.1 hz, this.2⟩
 ·have e1 : m1 ≠ m := fun e => by
   subst e
   rcases hm with q' | q' <;> rw [q'] at ho
   ·rw [hno] at ho; cases ho
   ·cases ho
  rw [if_neg e1] at q
  rw [hlive m1 e1, isO_scrub] at ho
  by_cases e2 : m2 = m
  ·subst e2
   rw [if_pos rfl]
   refine ⟨fun q2 => ?_, fun q2 => ?_⟩
   ·rcases hblk k q2 with ⟨q3, _⟩ | ⟨q3, q4⟩
    ·have := (h.fp m1 k ho q).1; omega
    ·exact (h.fd m1 m2 k ho q3 e q).1 q4
   ·rcases hm with q' | q' <;> rw [q'] at q2
    ·rw [hno] at q2; cases q2
    ·cases q2
  ·rw [if_neg e2]
   have := h.fd m1 m2 k ho (hne m2 e2 hl) e q
   rw [hlive m2 e2, isO_scrub]
   exact this
theorem Core.upd {cx : Cx} {ρ : Nm → Rz} {S : Nat → Nat → Prop} {L O : List Ob} {w w' : World} (h : Core cx ρ S L O w) (m : Nm) (hl : getOb L O m ≠ .none) (ob' : Ob)
 (hz : w.heap.size ≤ w'.heap.size) (h1 : w'.os = w.os) (h2 : w'.tape = w.tape) (h3 : w'.output = w.output)
 (hb : ∀ b, b < w.heap.size → (ρ m).blk ≠ some b → w'.heap[b]? = w.heap[b]?)
 (hc : ∀ b o, S b o → w'.cell? ⟨b, o, none⟩ = w.cell? ⟨b, o, none⟩)
 (hob : ObRel ρ S w' ob' (ρ m))
 (hss : ∀ b o, (ρ m).blk = some b → S b o → ∃ e s bb es, ob' = .arr e s bb true es ∧ o < es.length * s) (hia : isArr ob' = true → isArr (getOb L O m) = true) (hio : isO ob' = true → isO (getOb L O m) = true) :
 Core cx ρ S (setL L m ob') (setO O m ob') w' := by
 have hne : ∀ m', m' ≠ m → getOb (setL L m ob') (setO O m ob') m' = getOb L O m' := fun m' e => getOb_ne L O e ob'
 have hm := getOb_self L O hl ob'
 have hlive : ∀ m', getOb (setL L m ob') (setO O m ob') m' ≠ .none → getOb L O m' ≠ .none := by
  intro m' q
  by_cases e : m' = m
  ·rw [e]; exact hl
  ·rwa [hne m' e] at q
 refine ⟨fun m' => ?_, fun m1 m2 b hl1 hl2 q1 q2 => h.ne m1 m2 b (hlive _ hl1) (hlive _ hl2) q1 q2, fun m' b o hl' q hS => ?_, fun m' b hl' q => ?_, fun b o q => Nat.lt_of_lt_of_le (h.sb b o q) hz, h.s0, h.sn, fun b hb0 hF => ?_, fun b o q => (hc b o (h.s0 b o q)).trans (h.sk b o q), Nat.le_trans h.ws hz, h1.trans h.os, h2.trans h.tape, h3.trans h.output, fun i z q => ?_, fun m' k ho q => ?_, fun m1 m2 k ho hl' e q => ?_⟩
 ·by_cases e : m' = m
  ·rw [e, hm]; exact hob
  ·rw [hne m' e]
   by_cases hl' : getOb L O m' = .none
   ·rw [hl']; trivial
   ·exact (h.ob m').keep (fun _ => rfl) (fun _ _ q => q) hc (fun b q => hb b (h.own m' b hl' q).1 (fun q' => e (h.ne m' m b hl' hl q q'))) (fun ho k q => hb k (h.fp m' k ho q).1 (h.fd m' m k ho hl (fun q => e q.symm) q).1)
 ·by_cases e : m' = m
  ·rw [e] at q ⊢; rw [hm]; exact hss b o q hS
  ·rw [hne m' e]; exact h.ss m' b o (hlive _ hl') q hS
 ·exact ⟨Nat.lt_of_lt_of_le (h.own m' b (hlive _ hl') q).1 hz, (h.own m' b (hlive _ hl') q).2⟩
 ·refine (hb b (Nat.lt_of_lt_of_le hb0 h.ws) (fun q => ?_)).trans (h.fr b hb0 hF)
  rcases (h.own m b hl q).2 with q' | q'
  ·omega
  ·exact hF q'
 ·obtain ⟨q1, q2⟩ := h.bx i z q
  refine ⟨q1, ?_⟩
  by_cases e : Nm.out i = m
  ·rw [e, hm]
   rw [e] at q2
   cases q3 : isArr ob' with
   | false => rfl
   | true => rw [hia q3] at q2; cases q2
  ·rw [hne _ e]; exact q2
 ·have ho' : isO (getOb L O m') = true := by
   by_cases e : m' = m
   ·rw [e, hm] at ho; rw [e]; exact hio ho
   ·rwa [hne m' e] at ho
  have := h.fp m' k ho' q
  exact ⟨Nat.lt_of_lt_of_le this.1 hz, this.2⟩
 ·have hO : ∀ m', isO (getOb (setL L m ob') (setO O m ob') m') = true → isO (getOb L O m') = true := by
   intro m' ho
   by_cases e : m' = m
   ·rw [e, hm] at ho; rw [e]; exact hio ho
   ·rwa [hne m' e] at ho
  have := h.fd m1 m2 k (hO m1 ho) (hlive m2 hl') e q
  exact ⟨this.1, fun q2 => this.2 (hO m2 q2)⟩
theorem Core.view_ {cx : Cx} {ρ : Nm → Rz} {S : Nat → Nat → Prop} {L O : List Ob} {w : World} (h : Core cx ρ S L O w) {m : Nm} {e s b : Nat} {ro : Bool} {es : List (List Pd)} (hm : getOb L O m = .arr e s b ro es) :
 ∃ S' : Nat → Nat → Prop, (∀ b o, S b o → S' b o) ∧ Core cx ρ S' (setL L m (.arr e s b true es)) (setO O m (.arr e s b true es)) w ∧ VP S' w (.sl s es) (ρ m).tip ∧ (ρ m).tip.oneCell' = true := by
 have hob := h.ob m
 rw [hm] at hob
 obtain ⟨xs, h1, h2, h3, h4, h5⟩ := hob
 obtain ⟨a, cap, ev, hcap, ha, hg⟩ := own_cells h1
 have hxl := h1.1
 have hl : getOb L O m ≠ .none := by rw [hm]; exact fun q => by cases q
 refine ⟨fun g o => S g o ∨ ((ρ m).tip.ownBlock = some g ∧ o < es.length * s), fun _ _ q => .inl q, ?_, ?_, by rw [ev]; rfl⟩
 ·have hne : ∀ m', m' ≠ m → getOb (setL L m (.arr e s b true es)) (setO O m (.arr e s b true es)) m' = getOb L O m' := fun m' q => getOb_ne L O q _
  have hself := getOb_self L O hl (.arr e s b true es)
  have hlive : ∀ m', getOb (setL L m (.arr e s b true es)) (setO O m (.arr e s b true es)) m' ≠ .none → getOb L O m' ≠ .none := by
   intro m' q
   by_cases q' : m' = m
   ·rw [q']; exact hl
   ·rwa [hne m' q'] at q
  refine ⟨fun m' => ?_, fun m1 m2 b hl1 hl2 q1 q2 => h.ne m1 m2 b (hlive _ hl1) (hlive _ hl2) q1 q2, fun m' g o hl' q hS => ?_, fun m' g hl' q => h.own m' g (hlive _ hl') q, fun g o q => ?_, fun g o q => .inl (h.s0 g o q), fun g o q => ?_, h.fr, h.sk, h.ws, h.os, h.tape, h.output, fun i z q => ?_, fun m' k ho q => ?_, fun m1 m2 k ho hl' e q => ?_⟩
  ·by_cases q' : m' = m
   ·rw [q', hself]
    exact ⟨xs, h1, h2, h3, h4, fun i j hi hj => (h5 i j hi hj).keep (fun _ _ q => .inl q) (fun _ _ _ => rfl)⟩
   ·rw [hne m' q']
    exact (h.ob m').keep (fun _ => rfl) (fun _ _ q => .inl q) (fun _ _ _ => rfl) (fun _ _ => rfl) (fun _ _ _ => rfl)
  ·rcases hS with hS | ⟨q1, q2⟩
   ·by_cases q' : m' = m
    ·rw [q'] at q ⊢
     obtain ⟨e', s', bb', es', q3, q4⟩ := h.ss m g o hl q hS
     rw [hm] at q3
     injection q3 with e1 e2 e3 e4 e5
     subst e2 e5
     exact ⟨e, s, b, es, hself, q4⟩
    ·rw [hne m' q']; exact h.ss m' g o (hlive _ hl') q hS
   ·have q3 : (ρ m).blk = some g := h2.trans q1
    have : m' = m := h.ne m' m g (hlive _ hl') hl q q3
    rw [this]
    exact ⟨e, s, b, es, hself, q2⟩
  ·rcases q with q | ⟨q1, _⟩
   ·exact h.sb g o q
   ·exact (hg g q1).2.1
  ·rcases q with q | ⟨q1, _⟩
   ·exact h.sn g o q
   ·exact .inr (h.own m g hl (h2.trans q1)).2
  ·obtain ⟨q1, q2⟩ := h.bx i z q
   by_cases e : Nm.out i = m
   ·rw [e, hm] at q2; cases q2
   ·rw [hne _ e]; exact ⟨q1, q2⟩
  ·have e : m' ≠ m := fun e => by rw [e, hself] at ho; cases ho
   rw [hne m' e] at ho
   obtain ⟨q1, q2, q3⟩ := h.fp m' k ho q
   refine ⟨q1, q2, fun o q4 => ?_⟩
   rcases q4 with q4 | ⟨q4, _⟩
   ·exact q3 o q4
   ·exact (h.fd m' m k ho hl (fun q => e q.symm) q).1 (h2.trans q4)
  ·have e1 : m1 ≠ m := fun e => by rw [e, hself] at ho; cases ho
   rw [hne m1 e1] at ho
   have := h.fd m1 m2 k ho (hlive m2 hl') e q
   refine ⟨this.1, fun q2 => ?_⟩
   have e2 : m2 ≠ m := fun e => by rw [e, hself] at q2; cases q2
   rw [hne m2 e2] at q2
   exact this.2 q2
 ·rw [ev]
  cases a with
  | none =>
   have h0 := ha rfl
   exact .sl ⟨0, 0, none⟩ (fun _ _ => undef) rfl hcap (fun q => by omega) (fun i j hi => by omega) (fun i j hi => by omega)
  | some ad =>
   have q : (ρ m).tip.ownBlock = some ad.block := by rw [ev]; rfl
   obtain ⟨q1, q2, q3⟩ := hg ad.block q
   injection q1 with q1
   have hidx : ∀ i j, i < es.length → j < s → i * s + j < es.length * s := fun i j hi hj => by
    have : i * s + s ≤ es.length * s := by rw [← Nat.succ_mul]; exact Nat.mul_le_mul_right _ hi
    omega
   refine .sl ad (fun i j => xs.getD (i * s + j) undef) rfl hcap (fun _ => ⟨rfl, by rw [q1]⟩) (fun i j hi hj => ?_) (fun i j hi hj => ?_)
   ·have hh := hidx i j hi hj
    have hoff : ad.off = 0 := by rw [q1]
    rw [hoff, Nat.zero_add]
    refine ⟨.inr ⟨rfl, hh⟩, q3 _ hh, ?_⟩
    refine h4 _ ?_
    rw [List.getD_eq_getElem?_getD, List.getElem?_eq_getElem (by rw [hxl]; exact hh)]
    exact List.getElem_mem _
   ·exact (h5 i j hi hj).keep (fun _ _ q => .inl q) (fun _ _ _ => rfl)
theorem getOb_drop (L O : List Ob) {m : Nm} (hl : isLoc m = true) (m' : Nm) : getOb (setL L m .none) O m' = if m' = m then .none else getOb L O m' := by
 cases m with
 | out i => cases hl
 | loc s =>
  cases m' with
  | out i => rw [if_neg (fun q => by cases q)]; rfl
  | loc s' =>
   show (L.set s .none).getD s' .none = _
   rw [List.getD_eq_getElem?_getD, List.getElem?_set]
   by_cases e : s' = s
   ·subst e
    rw [if_pos rfl, if_pos rfl]
    split <;> rfl
   ·rw [if_neg (fun q => e q.symm), if_neg (fun q => by injection q with q; exact e q)]
    rfl
theorem Core.melt {cx : Cx} {ρ : Nm → Rz} {S : Nat → Nat → Prop} {L O : List Ob} {w : World} (h : Core cx ρ S L O w) {m : Nm} {e s : Nat} {es : List (List Pd)} (hl : isLoc m = true) (hO : isO (getOb L O m) = true) (h3 : VO S w (ρ m).fp (.ow e s es) (ρ m).tip) :
 ∃ S' : Nat → Nat → Prop, (∀ b o, S b o → S' b o) ∧ Core cx ρ S' (setL L m .none) O w ∧ VP S' w (.sl s (colds es)) (ρ m).tip := by
 have hg := getOb_drop L O hl
 have hlive : ∀ m', getOb (setL L m .none) O m' ≠ .none → m' ≠ m ∧ getOb (setL L m .none) O m' = getOb L O m' := by
  intro m' q
  rw [hg m'] at q ⊢
  by_cases e : m' = m
  ·rw [if_pos e] at q; exact absurd rfl q
  ·rw [if_neg e]; exact ⟨e, rfl⟩
 have hoo : ∀ o : Ob, isO o = true → o ≠ .none := fun o q e => by rw [e] at q; cases q
 refine ⟨fun g o => S g o ∨ ((ρ m).fp g ∧ ∃ u, w.cell? ⟨g, o, none⟩ = some u), fun _ _ q => .inl q, ?_, ?_⟩
 ·refine ⟨fun m' => ?_, fun m1 m2 b hl1 hl2 q1 q2 => ?_, fun m' g o hl' q hS => ?_, fun m' g hl' q => ?_, fun g o q => ?_, fun g o q => .inl (h.s0 g o q), fun g o q => ?_, h.fr, h.sk, h.ws, h.os, h.tape, h.output, fun i z q => ?_, fun m' k ho q => ?_, fun m1 m2 k ho hl' e q => ?_⟩
  ·by_cases hn : getOb (setL L m .none) O m' = .none
   ·rw [hn]; trivial
   ·rw [(hlive m' hn).2]
    exact (h.ob m').keep (fun _ => rfl) (fun _ _ q => .inl q) (fun _ _ _ => rfl) (fun _ _ => rfl) (fun _ _ _ => rfl)
  ·have e1 := hlive m1 hl1
   have e2 := hlive m2 hl2
   exact h.ne m1 m2 b (e1.2 ▸ hl1) (e2.2 ▸ hl2) q1 q2
  ·have e1 := hlive m' hl'
   rw [e1.2] at hl' ⊢
   rcases hS with hS | ⟨hS, _⟩
   ·exact h.ss m' g o hl' q hS
   ·exact absurd q (h.fd m m' g hO hl' e1.1 hS).1
  ·have e1 := hlive m' hl'
   exact h.own m' g (e1.2 ▸ hl') q
  ·rcases q with q | ⟨q, _⟩
   ·exact h.sb g o q
   ·exact (h.fp m g hO q).1
  ·rcases q with q | ⟨q, _⟩
   ·exact h.sn g o q
   ·exact .inr (h.fp m g hO q).2.1
  ·obtain ⟨q1, q2⟩ := h.bx i z q
   refine ⟨q1, ?_⟩
   rw [hg]
   split
   ·rfl
   ·exact q2
  ·have e1 := hlive m' (hoo _ ho)
   rw [e1.2] at ho
   obtain ⟨q1, q2, q3⟩ := h.fp m' k ho q
   refine ⟨q1, q2, fun o q4 => ?_⟩
   rcases q4 with q4 | ⟨q4, _⟩
   ·exact q3 o q4
   ·exact (h.fd m m' k hO (hoo _ ho) e1.1 q4).2 ho q
  ·have e1 := hlive m1 (hoo _ ho)
   have e2 := hlive m2 hl'
   rw [e1.2] at ho
   rw [e2.2] at hl' ⊢
   exact h.fd m1 m2 k ho hl' e q
 ·have := h3.cold_ (S' := fun g o => S g o ∨ ((ρ m).fp g ∧ ∃ u, w.cell? ⟨g, o, none⟩ = some u)) (fun _ _ q => .inl q) (fun k o u hk hu => .inr ⟨hk, u, hu⟩)
  rwa [cold] at this
theorem oneCell_of_view1 {cx : Cx} {ρ : Nm → Rz} {S : Nat → Nat → Prop} {L O : List Ob} {w : World} (h : Core cx ρ S L O w) {d : Dv} {v : Value} (hd : VD ρ S w d v) {x : Pd} {L' O' : List Ob} (hv : view1 L O d = some (x, L', O')) :
 ∃ S' : Nat → Nat → Prop, (∀ b o, S b o → S' b o) ∧ Core cx ρ S' L' O' w ∧ VP S' w x v := by
 unfold view1 at hv
 split at hv
 ·injection hv with hv; injection hv with e1 e2; injection e2 with e2 e3; subst e1 e2 e3
  cases hd with
  | p hd => exact ⟨S, fun _ _ q => q, h, hd⟩
 ·injection hv with hv; injection hv with e1 e2; injection e2 with e2 e3; subst e1 e2 e3
  cases hd
  exact ⟨S, fun _ _ q => q, h, .sl ⟨0, 0, none⟩ (fun _ _ => undef) rfl (Nat.le_refl _) (fun q => by omega) (fun i j hi => by omega) (fun i j hi => by omega)⟩
 ·split at hv
  ·rename_i m _ e s b ro es hm
   injection hv with hv; injection hv with e1 e2; injection e2 with e2 e3; subst e1 e2 e3
   cases hd
   obtain ⟨S', q1, q2, q3, _⟩ := h.view_ hm
   exact ⟨S', q1, q2, q3⟩
  ·rename_i m _ e s es hm
   split at hv
   ·rename_i hl
    injection hv with hv; injection hv with e1 e2; injection e2 with e2 e3; subst e1 e2 e3
    cases hd
    have hob := h.ob m
    rw [hm] at hob
    exact h.melt hl (by rw [hm]; rfl) (hob.2.2.1.keep (fun _ _ q => q.elim) (fun _ _ q => q.elim) fun _ _ => rfl)
   ·cases hv
  ·rename_i m _ e s es hm
   split at hv
   ·rename_i hl
    injection hv with hv; injection hv with e1 e2; injection e2 with e2 e3; subst e1 e2 e3
    cases hd
    have hob := h.ob m
    rw [hm] at hob
    exact h.melt hl (by rw [hm]; rfl) hob.2.2.1
   ·cases hv
  ·cases hv
 ·cases hv
theorem views_sound {cx : Cx} {ρ : Nm → Rz} : ∀ (ds : List Dv) {S : Nat → Nat → Prop} {L O : List Ob} {w : World} (h : Core cx ρ S L O w) (vals : Nat → Value) (hd : ∀ j, j < ds.length → VD ρ S w (ds.getD j ud) (vals j)) {xs : List Pd} {L' O' : List Ob} (hv : views L O ds = some (xs, L', O')),
 ∃ S' : Nat → Nat → Prop, (∀ b o, S b o → S' b o) ∧ Core cx ρ S' L' O' w ∧ xs.length = ds.length ∧ ∀ j, j < ds.length → VP S' w (xs.getD j .undef) (vals j)
 | [], S, L, O, w, h, vals, hd, xs, L', O', hv => by
  simp only [views] at hv
  injection hv with hv; injection hv with e1 e2; injection e2 with e2 e3; subst e1 e2 e3
  exact ⟨S, fun _ _ q => q, h, rfl, fun j hj => by cases hj⟩
 | d :: ds, S, L, O, w, h, vals, hd, xs, L', O', hv => by
  simp only [views] at hv
  split at hv
  ·rename_i x L1 O1 hx
   split at hv
   ·rename_i ys L2 O2 hy
    injection hv with hv; injection hv with e1 e2; injection e2 with e2 e3; subst e1 e2 e3
    obtain ⟨S1, q1, q2, q3⟩ := oneCell_of_view1 h (hd 0 (by simp)) hx
    obtain ⟨S2, q4, q5, q6, q7⟩ := views_sound ds q2 (fun j => vals (j + 1)) (fun j hj => (hd (j + 1) (by simpa using hj)).keep (fun _ => rfl) q1 (fun _ _ _ => rfl)) hy
    refine ⟨S2, fun b o q => q4 _ _ (q1 _ _ q), q5, by simp [q6], fun j hj => ?_⟩
    cases j with
    | zero => exact q3.keep q4 (fun _ _ _ => rfl)
    | succ j => exact q7 j (by simpa using hj)
   ·cases hv
  ·cases hv
theorem view_sound {cx : Cx} {ρ : Nm → Rz} {S : Nat → Nat → Prop} {L O : List Ob} {w : World} (h : Core cx ρ S L O w) {d : Dv} {v : Value} (hd : VD ρ S w d v) {x : Pd} {L' O' : List Ob} (hv : view L O d = some (x, L', O')) :
 ∃ S' : Nat → Nat → Prop, (∀ b o, S b o → S' b o) ∧ Core cx ρ S' L' O' w ∧ VP S' w x v := by
 unfold view at hv
 split at hv
 ·split at hv
  ·rename_i n ds _ xs L1 O1 hx
   injection hv with hv; injection hv with e1 e2; injection e2 with e2 e3; subst e1 e2 e3
   cases hd with
   | @agg _ _ vs h0 h1 h2 h3 =>
    obtain ⟨S', q1, q2, q3, q4⟩ := views_sound ds h (fun j => vs.getD j undef) (fun j hj => h3 j (by omega)) hx
    refine ⟨S', q1, q2, .agg h1 h2 fun j hj => ?_⟩
    by_cases hj' : j < ds.length
    ·exact q4 j hj'
    ·rw [List.getD_eq_getElem?_getD, List.getElem?_eq_none (by omega)]
     exact .undef
  ·cases hv
 ·exact oneCell_of_view1 h hd hv
def OwnAt (L O : List Ob) (ρ : Nm → Rz) (n : Nm) (k : Nat) : Prop := (isO (getOb L O n) = true ∧ (ρ n).fp k) ∨ ∃ e s b es, getOb L O n = .arr e s b false es ∧ (ρ n).blk = some k
theorem OwnAt.live {L O : List Ob} {ρ : Nm → Rz} {n : Nm} {k : Nat} (h : OwnAt L O ρ n k) : getOb L O n ≠ .none := by
 rcases h with ⟨h, _⟩ | ⟨e, s, b, es, h, _⟩
 ·exact fun q => by rw [q] at h; cases h
 ·exact fun q => by rw [q] at h; cases h
theorem Core.ownAt {cx : Cx} {ρ : Nm → Rz} {S : Nat → Nat → Prop} {L O : List Ob} {w : World} (h : Core cx ρ S L O w) {n : Nm} {k : Nat} (q : OwnAt L O ρ n k) :
 (k < w.heap.size ∧ (cx.w0.heap.size ≤ k ∨ cx.F k) ∧ ∀ o, ¬ S k o) ∧ ∀ n', getOb L O n' ≠ .none → n' ≠ n → (ρ n').blk ≠ some k ∧ (isO (getOb L O n') = true → ¬ (ρ n').fp k) := by
 have hl := q.live
 rcases q with ⟨q1, q2⟩ | ⟨e, s, b, es, q1, q2⟩
 ·exact ⟨h.fp n k q1 q2, fun n' hl' hne => h.fd n n' k q1 hl' hne q2⟩
 ·refine ⟨⟨(h.own n k hl q2).1, (h.own n k hl q2).2, fun o hS => ?_⟩, fun n' hl' hne => ⟨fun q3 => hne (h.ne n' n k hl' hl q3 q2), fun ho q3 => (h.fd n' n k ho hl (fun q => hne q.symm) q3).1 q2⟩⟩
  obtain ⟨e', s', b', es', p1, _⟩ := h.ss n k o hl q2 hS
  rw [q1] at p1
  cases p1
theorem getOb_rmAll : ∀ (ns : List Nm) (L O : List Ob), (∀ n ∈ ns, isLoc n = true) → ∀ m', getOb (rmAll ns L) O m' = if m' ∈ ns then .none else getOb L O m'
 | [], L, O, _, m' => by simp [rmAll]
 | n :: ns, L, O, h, m' => by
  rw [rmAll, getOb_rmAll ns _ O (fun x hx => h x (List.mem_cons_of_mem _ hx)), getOb_drop L O (h n (List.mem_cons_self ..))]
  by_cases e1 : m' ∈ ns
  ·rw [if_pos e1, if_pos (List.mem_cons_of_mem _ e1)]
  ·rw [if_neg e1]
   by_cases e2 : m' = n
   ·rw [if_pos e2, if_pos (by rw [e2]; exact List.mem_cons_self ..)]
   ·rw [if_neg e2, if_neg (fun q => by rcases List.mem_cons.1 q with q | q <;> contradiction)]
theorem Core.putR {cx : Cx} {ρ : Nm → Rz} {S : Nat → Nat → Prop} {L O : List Ob} {w w' : World} (h : Core cx ρ S L O w) {m : Nm} (hm : ∀ i, m = .out i → isArr (getOb L O m) = true) {ns : List Nm} (hns : ∀ n ∈ ns, isLoc n = true) (hmn : m ∉ ns) (z' : Rz) (ob' : Ob) (hio : isO ob' = true) (hzb : ∀ b, z'.blk = some b → z'.fp b) (φ : Ob → Ob)
 (hφ : ∀ (w : World) (o : Ob) (z : Rz), ObRel ρ S w o z → ObRel (fun n => if n = m then z' else ρ n) S w (φ o) z) (hφ0 : φ .none = .none) (hφ1 : ∀ o, φ o = .none → o = .none) (hφa : ∀ o, isArr (φ o) = isArr o)
 (hφo : ∀ o, isO (φ o) = isO o) (hφr : ∀ o e s b es, o = .arr e s b true es → φ o = .arr e s b true es)
 (hz : w.heap.size ≤ w'.heap.size) (h1 : w'.os = w.os) (h2 : w'.tape = w.tape) (h3 : w'.output = w.output)
 (hb : ∀ b, b < w.heap.size → (∀ n, n = m ∨ n ∈ ns → getOb L O n ≠ .none → (ρ n).blk ≠ some b ∧ (isO (getOb L O n) = true → ¬ (ρ n).fp b)) → w'.heap[b]? = w.heap[b]?)
 (hc : ∀ b o, S b o → w'.cell? ⟨b, o, none⟩ = w.cell? ⟨b, o, none⟩)
 (hob : ObRel (fun n => if n = m then z' else ρ n) S w' ob' z')
 (hfp : ∀ k, z'.fp k → (w.heap.size ≤ k ∧ k < w'.heap.size) ∨ ∃ n, (n = m ∨ n ∈ ns) ∧ OwnAt L O ρ n k) :
 Core cx (fun n => if n = m then z' else ρ n) S (setL ((rmAll ns L).map φ) m ob') (setO (O.map φ) m ob') w' := by
 have hother : ∀ m', m' ≠ m → getOb (setL ((rmAll ns L).map φ) m ob') (setO (O.map φ) m ob') m' = if m' ∈ ns then .none else φ (getOb L O m') := by
  intro m' hne
  rw [getOb_ne _ _ hne, getOb_map _ _ hφ0, getOb_rmAll ns L O hns]
  split
  ·exact hφ0
  ·rfl
 have hself : getOb (setL ((rmAll ns L).map φ) m ob') (setO (O.map φ) m ob') (m) = ob' ∨ getOb (setL ((rmAll ns L).map φ) m ob') (setO (O.map φ) m ob') (m) = .none := by
  rcases getOb_set ((rmAll ns L).map φ) (O.map φ) m m ob' with q | q
  ·by_cases hl : getOb ((rmAll ns L).map φ) (O.map φ) (m) = .none
   ·right; exact q.trans hl
   ·left; exact getOb_self _ _ hl _
  ·left; exact q.2
 have hlive : ∀ m', m' ≠ m → getOb (setL ((rmAll ns L).map φ) m ob') (setO (O.map φ) m ob') m' ≠ .none → m' ∉ ns ∧ getOb L O m' ≠ .none ∧ getOb (setL ((rmAll ns L).map φ) m ob') (setO (O.map φ) m ob') m' = φ (getOb L O m') := by
  intro m' hne q
  rw [hother m' hne] at q ⊢
  by_cases e : m' ∈ ns
  ·rw [if_pos e] at q; exact absurd rfl q
  ·rw [if_neg e] at q ⊢
   exact ⟨e, fun q' => q (by rw [q', hφ0]), rfl⟩
 have hoo : ∀ o : Ob, isO o = true → o ≠ .none := fun o q e => by rw [e] at q; cases q
 have hapart : ∀ m' k, m' ≠ m → m' ∉ ns → getOb L O m' ≠ .none → z'.fp k → (ρ m').blk ≠ some k ∧ (isO (getOb L O m') = true → ¬ (ρ m').fp k) := by
  intro m' k hne hnn hl' hk
  rcases hfp k hk with ⟨q1, q2⟩ | ⟨n, q1, q2⟩
  ·refine ⟨fun q3 => ?_, fun ho q3 => ?_⟩
   ·have := (h.own m' k hl' q3).1; omega
   ·have := (h.fp m' k ho q3).1; omega
  ·exact (h.ownAt q2).2 m' hl' (fun q => by rcases q1 with q1 | q1; exact hne (q.trans q1); exact hnn (q ▸ q1))
 have hkeep : ∀ m' b, m' ≠ m → m' ∉ ns → getOb L O m' ≠ .none → b < w.heap.size → ((ρ m').blk = some b ∨ (isO (getOb L O m') = true ∧ (ρ m').fp b)) → w'.heap[b]? = w.heap[b]? := by
  intro m' b hne hnn hl' hlt hq
  refine hb b hlt fun n hn hln => ?_
  have hnm : n ≠ m' := fun q => by rcases hn with hn | hn <;> rw [q] at hn; exact hne hn; exact hnn hn
  rcases hq with hq | ⟨ho, hq⟩
  ·refine ⟨fun q => hnm (h.ne n m' b hln hl' q hq), fun ho q => ?_⟩
   exact (h.fd n m' b ho hl' (fun q => hnm q.symm) q).1 hq
  ·exact h.fd m' n b ho hln hnm hq
 refine ⟨fun m' => ?_, fun m1 m2 b hl1 hl2 q1 q2 => ?_, fun m' b o hl q hS => ?_, fun m' b hl q => ?_, fun b o q => Nat.lt_of_lt_of_le (h.sb b o q) hz, h.s0, h.sn, fun b hb0 hF' => ?_, fun b o q => (hc b o (h.s0 b o q)).trans (h.sk b o q), Nat.le_trans h.ws hz, h1.trans h.os, h2.trans h.tape, h3.trans h.output, fun i z q => ?_, fun m' k ho q => ?_, fun m1 m2 k ho hl e q => ?_⟩
 ·by_cases e1 : m' = m
  ·subst e1
   rcases hself with q | q
   ·rw [q, if_pos rfl]; exact hob
   ·rw [q]; trivial
  ·by_cases hl : getOb (setL ((rmAll ns L).map φ) m ob') (setO (O.map φ) m ob') m' = .none
   ·rw [hl]; trivial
   ·obtain ⟨p1, p2, p3⟩ := hlive m' e1 hl
    rw [p3, if_neg e1]
    exact hφ w' _ _ ((h.ob m').keep (ρ' := ρ) (fun _ => rfl) (fun _ _ q => q) hc (fun b q => hkeep m' b e1 p1 p2 (h.own m' b p2 q).1 (.inl q)) (fun ho k q => hkeep m' k e1 p1 p2 (h.fp m' k ho q).1 (.inr ⟨ho, q⟩)))
 ·by_cases e1 : m1 = m
  ·by_cases e2 : m2 = m
   ·rw [e1, e2]
   ·exfalso
    rw [if_pos e1] at q1
    rw [if_neg e2] at q2
    obtain ⟨p1, p2, p3⟩ := hlive m2 e2 hl2
    exact (hapart m2 b e2 p1 p2 (hzb b q1)).1 q2
  ·obtain ⟨p1, p2, p3⟩ := hlive m1 e1 hl1
   rw [if_neg e1] at q1
   by_cases e2 : m2 = m
   ·exfalso
    rw [if_pos e2] at q2
    exact (hapart m1 b e1 p1 p2 (hzb b q2)).1 q1
   ·rw [if_neg e2] at q2
    obtain ⟨r1, r2, r3⟩ := hlive m2 e2 hl2
    exact h.ne m1 m2 b p2 r2 q1 q2
 ·by_cases e1 : m' = m
  ·exfalso
   subst e1
   rw [if_pos rfl] at q
   rcases hfp b (hzb b q) with ⟨q1, _⟩ | ⟨n, q1, q2⟩
   ·have := h.sb b o hS; omega
   ·exact (h.ownAt q2).1.2.2 o hS
  ·rw [if_neg e1] at q
   obtain ⟨p1, p2, p3⟩ := hlive m' e1 hl
   obtain ⟨e', s', bb, es', r1, r2⟩ := h.ss m' b o p2 q hS
   exact ⟨e', s', bb, es', by rw [p3]; exact hφr _ _ _ _ _ r1, r2⟩
 ·by_cases e1 : m' = m
  ·subst e1
   rw [if_pos rfl] at q
   rcases hfp b (hzb b q) with ⟨q1, q2⟩ | ⟨n, q1, q2⟩
   ·exact ⟨q2, .inl (Nat.le_trans h.ws q1)⟩
   ·have := (h.ownAt q2).1
    exact ⟨Nat.lt_of_lt_of_le this.1 hz, this.2.1⟩
  ·rw [if_neg e1] at q
   obtain ⟨p1, p2, p3⟩ := hlive m' e1 hl
   have := h.own m' b p2 q
   exact ⟨Nat.lt_of_lt_of_le this.1 hz, this.2⟩
 ·refine (hb b (Nat.lt_of_lt_of_le hb0 h.ws) (fun n hn hln => ⟨fun q => ?_, fun ho q => ?_⟩)).trans (h.fr b hb0 hF')
  ·rcases (h.own n b hln q).2 with q' | q'
   ·omega
   ·exact hF' q'
  ·rcases (h.fp n b ho q).2.1 with q' | q'
   ·omega
   ·exact hF' q'
 ·obtain ⟨q1, q2⟩ := h.bx i z q
  have hne : Nm.out i ≠ m := fun q => by
   have := hm i q.symm
   rw [← q, q2] at this
   cases this
  have hni : Nm.out i ∉ ns := fun q => by have := hns _ q; cases this
  rw [if_neg hne, hother _ hne, if_neg hni, hφa]
  exact ⟨q1, q2⟩
 ·by_cases e1 : m' = m
  ·subst e1
   rw [if_pos rfl] at q
   rcases hfp k q with ⟨q1, q2⟩ | ⟨n, q1, q2⟩
   ·exact ⟨q2, .inl (Nat.le_trans h.ws q1), fun o hS => by have := h.sb k o hS; omega⟩
   ·have := (h.ownAt q2).1
    exact ⟨Nat.lt_of_lt_of_le this.1 hz, this.2⟩
  ·rw [if_neg e1] at q
   obtain ⟨p1, p2, p3⟩ := hlive m' e1 (hoo _ ho)
   rw [p3, hφo] at ho
   have := h.fp m' k ho q
   exact ⟨Nat.lt_of_lt_of_le this.1 hz, this.2⟩
 ·by_cases e1 : m1 = m
  ·subst e1
   rw [if_pos rfl] at q
   rw [if_neg e]
   obtain ⟨p1, p2, p3⟩ := hlive m2 e hl
   have := hapart m2 k e p1 p2 q
   rw [p3, hφo]
   exact this
  ·rw [if_neg e1] at q
   obtain ⟨p1, p2, p3⟩ := hlive m1 e1 (hoo _ ho)
   rw [p3, hφo] at ho
   by_cases e2 : m2 = m
   ·subst e2
    rw [if_pos rfl]
    exact ⟨fun q2 => (hapart m1 k e1 p1 p2 (hzb k q2)).2 ho q, fun _ q2 => (hapart m1 k e1 p1 p2 q2).2 ho q⟩
   ·rw [if_neg e2]
    obtain ⟨r1, r2, r3⟩ := hlive m2 e2 hl
    have := h.fd m1 m2 k ho r2 e q
    rw [r3, hφo]
    exact this
theorem Core.putO {cx : Cx} {ρ : Nm → Rz} {S : Nat → Nat → Prop} {L O : List Ob} {w w' : World} (h : Core cx ρ S L O w) {m : Nm} (hm : isLoc m = true) {ns : List Nm} (hns : ∀ n ∈ ns, isLoc n = true) (hmn : m ∉ ns) (z' : Rz) {e s : Nat} {es : List (List Pd)} (φ : Ob → Ob)
 (hφ : ∀ (w : World) (o : Ob) (z : Rz), ObRel ρ S w o z → ObRel (fun n => if n = m then z' else ρ n) S w (φ o) z) (hφ0 : φ .none = .none) (hφ1 : ∀ o, φ o = .none → o = .none) (hφa : ∀ o, isArr (φ o) = isArr o)
 (hφo : ∀ o, isO (φ o) = isO o) (hφr : ∀ o e s b es, o = .arr e s b true es → φ o = .arr e s b true es)
 (hz : w.heap.size ≤ w'.heap.size) (h1 : w'.os = w.os) (h2 : w'.tape = w.tape) (h3 : w'.output = w.output)
 (hb : ∀ b, b < w.heap.size → (∀ n, n = m ∨ n ∈ ns → getOb L O n ≠ .none → (ρ n).blk ≠ some b ∧ (isO (getOb L O n) = true → ¬ (ρ n).fp b)) → w'.heap[b]? = w.heap[b]?)
 (hc : ∀ b o, S b o → w'.cell? ⟨b, o, none⟩ = w.cell? ⟨b, o, none⟩)
 (hob : ObRel (fun n => if n = m then z' else ρ n) S w' (.oarr e s es) z')
 (hfp : ∀ k, z'.fp k → (w.heap.size ≤ k ∧ k < w'.heap.size) ∨ ∃ n, (n = m ∨ n ∈ ns) ∧ OwnAt L O ρ n k) :
 Core cx (fun n => if n = m then z' else ρ n) S (setL ((rmAll ns L).map φ) m (.oarr e s es)) (O.map φ) w' := by
 have hO : (O.map φ) = setO (O.map φ) m (.oarr e s es) := by cases m with | loc sl => rfl | out i => cases hm
 have := h.putR (fun i q => by rw [q] at hm; cases hm) hns hmn z' (.oarr e s es) rfl (fun b q => by
  obtain ⟨o1, o2, o3, o4⟩ := hob
  cases o3 with
  | p o3 => cases o3
  | ow xs f _ _ g2 _ _ => exact g2 b (o1.symm.trans q)) φ hφ hφ0 hφ1 hφa hφo hφr hz h1 h2 h3 hb hc hob hfp
 rw [hO]
 exact this
end Go.Proofs.YtmnoibkdmeajpaaGreat.Dm
