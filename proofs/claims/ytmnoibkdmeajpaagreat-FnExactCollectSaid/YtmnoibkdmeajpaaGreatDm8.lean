/- The machine over plain data and memory: operations that make and write. -/
import Derived.Test.YtmnoibkdmeajpaaGreatDm7
import Derived.Maps.AppendAt
namespace Go.Proofs.YtmnoibkdmeajpaaGreat.Dm
set_option linter.unusedSectionVars false
open Go.RowKit
set_option linter.unusedVariables false
set_option linter.unusedSimpArgs false
variable [Cfg] {P : Program} {cx : Cx} {ρ : Nm → Rz} {S : Nat → Nat → Prop} {w : World} {st : St} {a : Act} {o : Oper} {d : Dv}
theorem boxO_rel {n b : Nat} {ds : List Dv} {vs : Array Value} {ty : TypeId} {z : Rz} (hz : z.blk = some b) (hb : w.heap[b]? = some (.cells vs ty (0, 0))) (h1 : vs.size = n) (h2 : ∀ j, j < n → (vs.getD j undef).oneCell' = true) (h3 : ∀ j, j < n → VD ρ S w (ds.getD j ud) (vs.getD j undef)) :
 ObRel ρ S w (boxO n ds) z := by
 unfold boxO
 split
 ·rename_i xs hx
  have := pures_eq hx
  subst this
  exact ⟨b, vs, ty, hz, hb, h1, h2, fun j hj => (by have := h3 j hj; rw [getD_map_p] at this; exact this.pd)⟩
 ·exact ⟨b, vs, ty, hz, hb, h1, h2, h3⟩
theorem cells_rel {n : Nat} {v : Value} (hd : VD ρ S w d v) (hn : sizeV d = some n) : v.cells.size = n ∧ (∀ j, j < n → (v.cells.getD j undef).oneCell' = true) ∧ ∀ j, j < n → VD ρ S w (cellV d j) (v.cells.getD j undef) := by
 have one : ∀ (d : Dv) (v : Value), VD ρ S w d v → (∀ j, cellV d j = d) → v.oneCell' = true → v.cells.size = 1 ∧ (∀ j, j < 1 → (v.cells.getD j undef).oneCell' = true) ∧ ∀ j, j < 1 → VD ρ S w (cellV d j) (v.cells.getD j undef) := by
  intro d v hv hc h1
  have e : v.cells = #[v] := by cases v <;> first | rfl | (simp [Value.oneCell'] at h1)
  rw [e]
  refine ⟨rfl, fun j hj => ?_, fun j hj => ?_⟩ <;> (have : j = 0 := by omega) <;> subst this
  ·exact h1
  ·rw [hc]; exact hv
 have hd0 := hd
 cases hd with
 | @p x _ hp =>
  cases hp with
  | @agg c cs vs h1 h2 h3 =>
   simp only [sizeV] at hn
   injection hn with hn; subst hn
   exact ⟨h1, h2, fun j hj => .p (h3 j hj)⟩
  | undef => simp only [sizeV] at hn; cases hn
  | int => simp only [sizeV] at hn; injection hn with hn; subst hn; exact one _ _ hd0 (fun _ => rfl) rfl
  | bool => simp only [sizeV] at hn; injection hn with hn; subst hn; exact one _ _ hd0 (fun _ => rfl) rfl
  | str => simp only [sizeV] at hn; injection hn with hn; subst hn; exact one _ _ hd0 (fun _ => rfl) rfl
  | sl _ _ _ _ _ _ _ => simp only [sizeV] at hn; injection hn with hn; subst hn; exact one _ _ hd0 (fun _ => rfl) rfl
  | fn => simp only [sizeV] at hn; injection hn with hn; subst hn; exact one _ _ hd0 (fun _ => rfl) rfl
  | anyb => simp only [sizeV] at hn; injection hn with hn; subst hn; exact one _ _ hd0 (fun _ => rfl) rfl
 | nilsl => simp only [sizeV] at hn; injection hn with hn; subst hn; exact one _ _ hd0 (fun _ => rfl) rfl
 | ptr _ => simp only [sizeV] at hn; injection hn with hn; subst hn; exact one _ _ hd0 (fun _ => rfl) rfl
 | arr h => simp only [sizeV] at hn; injection hn with hn; subst hn; exact one _ _ hd0 (fun _ => rfl) h
 | mp _ => simp only [sizeV] at hn; injection hn with hn; subst hn; exact one _ _ hd0 (fun _ => rfl) rfl
 | sub h => simp only [sizeV] at hn; injection hn with hn; subst hn; exact one _ _ hd0 (fun _ => rfl) h
 | el _ => simp only [sizeV] at hn; injection hn with hn; subst hn; exact one _ _ hd0 (fun _ => rfl) rfl
 | ro _ _ _ _ => simp only [sizeV] at hn; injection hn with hn; subst hn; exact one _ _ hd0 (fun _ => rfl) rfl
 | @agg c ds vs h0 h1 h2 h3 =>
  simp only [sizeV] at hn
  injection hn with hn; subst hn
  exact ⟨h1, h2, h3⟩
 | fn _ _ => simp only [sizeV] at hn; injection hn with hn; subst hn; exact one _ _ hd0 (fun _ => rfl) rfl
 | tup _ _ => simp only [sizeV] at hn; cases hn
theorem boxOf_rel {n b : Nat} {v : Value} {ty : TypeId} {z : Rz} (hd : VD ρ S w d v) (hn : sizeV d = some n) (hz : z.blk = some b) (hb : w.heap[b]? = some (.cells v.cells ty (0, 0))) : ObRel ρ S w (boxOf n d) z := by
 obtain ⟨h1, h2, h3⟩ := cells_rel hd hn
 have one : n = 1 → ObRel ρ S w (.mbox n [d]) z ∨ True := fun _ => .inr trivial
 unfold boxOf
 split
 ·rename_i c cs
  exact ⟨b, _, ty, hz, hb, h1, h2, fun j hj => (h3 j hj).pd⟩
 ·exact boxO_rel hz hb h1 h2 h3
 ·rename_i x hx
  have hn1 : n = 1 := by
   cases x <;> simp only [sizeV] at hn <;> first | (injection hn with hn; exact hn.symm) | (cases hn; done) | (exact absurd rfl (hx _ _))
  subst hn1
  refine ⟨b, _, ty, hz, hb, h1, h2, fun j hj => ?_⟩
  have : j = 0 := by omega
  subst this
  have := h3 0 (by omega)
  have e : cellV (.p x) 0 = .p x := by cases x <;> first | rfl | (exact absurd rfl (hx _ _))
  rw [e] at this
  exact this.pd
 ·rename_i hx1 hx2 hx3
  have hn1 : n = 1 := by
   cases d <;> simp only [sizeV] at hn <;> first | (injection hn with hn; exact hn.symm) | (cases hn; done) | (exact absurd rfl (hx3 _)) | (exact absurd rfl (hx2 _ _))
  subst hn1
  refine ⟨b, _, ty, hz, hb, h1, h2, fun j hj => ?_⟩
  have : j = 0 := by omega
  subst this
  have := h3 0 (by omega)
  have e : cellV d 0 = d := by cases d <;> first | rfl | (exact absurd rfl (hx3 _)) | (exact absurd rfl (hx2 _ _))
  rw [e] at this
  exact this
theorem zero_rel {t : TypeId} {zs : List Dv} (h : zeroD P t = some zs) : ∃ z, (∃ i, P.info? t = some i ∧ i.zero = some z) ∧ (∀ w, (zeroValue t).run P w = .ok z w) ∧ z.cells.size = zs.length ∧ (∀ j, j < zs.length → (z.cells.getD j undef).oneCell' = true) ∧ ∀ (ρ : Nm → Rz) (S : Nat → Nat → Prop) (w : World) j, j < zs.length → VD ρ S w (zs.getD j ud) (z.cells.getD j undef) := by
 unfold zeroD at h
 split at h
 ·rename_i i hi
  split at h
  ·rename_i z hz
   split at h
   ·rename_i hall
    injection h with h; subst h
    have hl := zeroC_len (strides P 8 t) z.cells.toList
    have hl' : (zeroC (strides P 8 t) z.cells.toList).length = z.cells.size := hl.trans Array.length_toList
    refine ⟨z, ⟨i, hi, hz⟩, fun w => by simp [zeroValue, typeInfo, hi, hz], hl'.symm, fun j hj => all_oneCell hall j (by omega), fun ρ S w j hj => ?_⟩
    rw [← getD_toList]
    exact zeroC_rel _ _ j (by omega)
   ·cases h
  ·cases h
 ·cases h
theorem VD.alloc_ (h : Rel cx ρ S st a w) (ob : Obj) {x : Dv} {v : Value} (hd : VD ρ S w x v) : VD ρ S (w.alloc ob) x v :=
 hd.keep (fun _ => rfl) (fun _ _ q => q) (fun b o q => cell_heap (heap_push_lt w _ b (h.core.sb b o q)))
theorem isO_boxO (n : Nat) (ds : List Dv) : isO (boxO n ds) = false := by unfold boxO; split <;> rfl
theorem isO_boxOf (n : Nat) (d : Dv) : isO (boxOf n d) = false := by
 unfold boxOf
 split
 ·rfl
 ·exact isO_boxO ..
 ·rfl
 ·rfl
theorem ok_alloc (h : Rel cx ρ S st a w) {t : TypeId} (ho : o.op = .alloc t) {zs : List Dv} {s : Nat} (hz : zeroD P t = some zs) : StepOK P cx o a w (.ptr (.loc s) 0) (st.fresh s (boxO zs.length zs)) := by
 obtain ⟨z, _, h1, h2, h3, h4⟩ := zero_rel hz
 refine .inl ⟨.pointer (some ⟨w.heap.size, 0, none⟩), w.alloc (.cells z.cells t), _, S, .inl ?_, h.fresh s _ z.cells t z ?_ (isO_boxO ..), ?_⟩
 ·unfold execOp; rw [ho]; dsimp only
  refine (Sem.run_bind ..).trans ?_
  have : (Instr.alloc t true (.tuple #[])).run P w = .ok (.pointer (some ⟨w.heap.size, 0, none⟩)) (w.alloc (.cells z.cells t)) := by
   unfold Instr.alloc
   rw [Sem.run_bind, h1, Result.andThen_ok]
   rfl
  rw [this]; rfl
 ·exact boxO_rel rfl (heap_alloc_new w _) h2 h3 (fun j hj => h4 _ _ _ j hj)
 ·exact .ptr (by simp)
theorem ok_box (h : Rel cx ρ S st a w) {t : TypeId} {x : Operand} (ho : o.op = .box t x) {n s : Nat} (hn : sizeV (opd P st t x) = some n) : StepOK P cx o a w (.ptr (.loc s) 0) (st.fresh s (boxOf n (opd P st t x))) := by
 have hx := opd_rel (P := P) h t x
 refine .inl ⟨.pointer (some ⟨w.heap.size, 0, none⟩), w.alloc (.cells (a.eval x).cells t), _, S, .inl ?_, h.fresh s _ (a.eval x).cells t (.pointer none) ?_ (isO_boxOf ..), ?_⟩
 ·unfold execOp; rw [ho]; rfl
 ·exact boxOf_rel (VD.alloc_ h _ hx) hn rfl (heap_alloc_new w _)
 ·exact .ptr (by simp)
theorem mixD_len (c off n : Nat) (old : Nat → Dv) (v : Dv) : (mixD c off n old v).length = c := by simp [mixD]
theorem mixD_get (c off n : Nat) (old : Nat → Dv) (v : Dv) (j : Nat) (hj : j < c) : (mixD c off n old v).getD j ud = if off ≤ j ∧ j < off + n then cellV v (j - off) else old j := by
 simp [mixD, List.getD_eq_getElem?_getD, hj]
theorem fold_set (vs : Array Value) (off : Nat) : ∀ (l : List (Value × Nat)) (cs : Array Value), (l.foldl (fun cs (x : Value × Nat) => cs.setIfInBounds (off + x.2) x.1) cs).size = cs.size := by
 intro l
 induction l with
 | nil => intro cs; rfl
 | cons x l ih => intro cs; simp [ih]
theorem fold_get (off : Nat) : ∀ (vs : List Value) (k : Nat) (cs : Array Value) (j : Nat), j < cs.size →
 ((vs.zipIdx k).foldl (fun cs (x : Value × Nat) => cs.setIfInBounds (off + x.2) x.1) cs).getD j undef = if off + k ≤ j ∧ j < off + k + vs.length then vs.getD (j - off - k) undef else cs.getD j undef := by
 intro vs
 induction vs with
 | nil => intro k cs j hj; simp; intro h1 h2; omega
 | cons v vs ih =>
  intro k cs j hj
  rw [List.zipIdx_cons, List.foldl_cons, ih (k + 1) _ j (by simpa using hj)]
  by_cases h1 : off + (k + 1) ≤ j ∧ j < off + (k + 1) + vs.length
  ·rw [if_pos h1, if_pos (by simp; omega)]
   rw [show j - off - k = (j - off - (k + 1)) + 1 from by omega]
   rfl
  ·rw [if_neg h1]
   by_cases h2 : j = off + k
   ·subst h2
    rw [if_pos (by simp)]
    simp [Array.getD_eq_getD_getElem?, Array.getElem?_setIfInBounds, hj]
   ·rw [if_neg (by simp; omega)]
    rw [Array.getD_eq_getD_getElem?, Array.getElem?_setIfInBounds, if_neg (fun e => h2 e.symm), ← Array.getD_eq_getD_getElem?]
theorem fill_rel (h : Rel cx ρ S st a w) {fs : Array Field} {c : Nat} (places : Array (Nat × Nat)) (hp : ∀ (i : Nat) (f : Field), fs[i]? = some f → places[i]? = some (f.offset, P.cellsOf f.type)) :
 ∀ (l : List (Nat × Operand)) (ds : List Dv) (cs : Array Value), ds.length = c → cs.size = c → (∀ j, j < c → (cs.getD j undef).oneCell' = true) → (∀ j, j < c → VD ρ S w (ds.getD j ud) (cs.getD j undef)) →
  ∀ ds', buildD P st fs c ds l = some ds' → ∃ cs', Instr.fill (places[·]?) cs (l.map fun q => (q.1, a.eval q.2)) = some cs' ∧ ds'.length = c ∧ cs'.size = c ∧ (∀ j, j < c → (cs'.getD j undef).oneCell' = true) ∧ ∀ j, j < c → VD ρ S w (ds'.getD j ud) (cs'.getD j undef)
 | [], ds, cs, h1, h2, h3, h4, ds', hd => by
  simp only [buildD] at hd
  injection hd with hd; subst hd
  exact ⟨cs, rfl, h1, h2, h3, h4⟩
 | (i, x) :: l, ds, cs, h1, h2, h3, h4, ds', hd => by
  simp only [buildD] at hd
  split at hd
  ·rename_i f hf
   split at hd
   ·rename_i hn
    split at hd
    ·rename_i hle
     obtain ⟨e1, e2, e3⟩ := cells_rel (opd_rel h f.type x) hn
     have hsz : ((a.eval x).cells.zipIdx.foldl (fun cs (x : Value × Nat) => cs.setIfInBounds (f.offset + x.2) x.1) cs).size = c := by
      rw [← Array.foldl_toList, fold_set #[]]; exact h2
     have hget : ∀ j, j < c → ((a.eval x).cells.zipIdx.foldl (fun cs (x : Value × Nat) => cs.setIfInBounds (f.offset + x.2) x.1) cs).getD j undef = if f.offset ≤ j ∧ j < f.offset + P.cellsOf f.type then (a.eval x).cells.getD (j - f.offset) undef else cs.getD j undef := by
      intro j hj
      rw [← Array.foldl_toList, Array.toList_zipIdx, fold_get f.offset _ 0 cs j (by omega)]
      simp only [Nat.add_zero, Nat.sub_zero, Array.length_toList, e1, getD_toList]
     obtain ⟨cs', g1, g2⟩ := fill_rel h places hp l _ _ (mixD_len ..) hsz (fun j hj => by
      rw [hget j hj]; split
      ·exact e2 _ (by omega)
      ·exact h3 j hj) (fun j hj => by
      rw [mixD_get _ _ _ _ _ j hj, hget j hj]; split
      ·exact e3 _ (by omega)
      ·exact h4 j hj) ds' hd
     refine ⟨cs', ?_, g2⟩
     rw [List.map_cons, Instr.fill]
     simp only [hp i f hf]
     rw [if_neg (by rw [e1, h2]; simp; omega)]
     exact g1
    ·cases hd
   ·cases hd
  ·cases hd
theorem ok_build (h : Rel cx ρ S st a w) {t : TypeId} {ps : Array (Nat × Operand)} (ho : o.op = .build t ps) {fs : Array Field} (hu : P.underlying t = some (.struct fs)) {zs ds : List Dv} (hz : zeroD P t = some zs)
 (hfs' : fs.toList.all (fun f => (P.info? f.type).isSome) = true)
 (hb : buildD P st fs zs.length zs ps.toList = some ds) : StepOK P cx o a w (aggD zs.length ds) st := by
 have hfs : ∀ f ∈ fs.toList, P.info? f.type ≠ none := fun f hf q => by
  have := List.all_eq_true.1 hfs' f hf
  rw [q] at this; cases this
 obtain ⟨z, _, h1, h2, h3, h4⟩ := zero_rel hz
 have hpl : ∀ l : List Field, (∀ f ∈ l, P.info? f.type ≠ none) → (l.mapM fun f => do pure (f.offset, ← sizeOf f.type) : Sem (List (Nat × Nat))).run P w = .ok (l.map fun f => (f.offset, P.cellsOf f.type)) w := by
  intro l hl
  induction l with
  | nil => rfl
  | cons f l ih =>
   have hf : ∃ i, P.info? f.type = some i := by
    cases hi : P.info? f.type with
    | none => exact absurd hi (hl f (by simp))
    | some i => exact ⟨i, rfl⟩
   obtain ⟨i, hi⟩ := hf
   have ih' := ih (fun f hf => hl f (by simp [hf]))
   have hs : (sizeOf f.type).run P w = .ok (P.cellsOf f.type) w := by simp [sizeOf, typeInfo, hi, Program.cellsOf]
   rw [List.mapM_cons, Sem.run_bind, Sem.run_bind, hs, Result.andThen_ok, Sem.run_pure, Result.andThen_ok, Sem.run_bind, ih']
   rfl
 obtain ⟨cs', g1, g2, g3, g4, g5⟩ := fill_rel (P := P) h (fs.map fun f => (f.offset, P.cellsOf f.type)) (fun i f hf => by simp [hf]) ps.toList zs z.cells rfl h2 h3 (fun j hj => h4 _ _ _ j hj) ds hb
 refine StepOK.val h (v := .agg cs') ?_ (aggD_rel (by omega) g3 g4 g5)
 unfold execOp; rw [ho]; dsimp only
 refine run_un1 ?_
 unfold Instr.build
 rw [Sem.run_bind, h1, Result.andThen_ok, Sem.run_bind, run_underlying hu, Result.andThen_ok]
 dsimp only
 have hm : (fs.mapM fun f => do pure (f.offset, ← sizeOf f.type) : Sem (Array (Nat × Nat))).run P w = .ok (fs.map fun f => (f.offset, P.cellsOf f.type)) w := by
  rw [Array.mapM_eq_mapM_toList, Sem.run_map, hpl fs.toList hfs, Result.andThen_ok]
  congr 1
  apply Array.ext'
  simp
 rw [Sem.run_bind, hm, Result.andThen_ok]
 have e : (ps.map fun x : Nat × Operand => (x.1, a.eval x.2)).toList = ps.toList.map fun q => (q.1, a.eval q.2) := by simp
 rw [show (Array.map (fun x : Nat × Operand => match x with | (i, x) => (i, a.eval x)) ps) = ps.map fun x : Nat × Operand => (x.1, a.eval x.2) from rfl, e, g1]
 rfl
theorem replicate_cells (z : Array Value) (s : Nat) (hz : z.size = s) (hs : 0 < s) (n i j : Nat) (hi : i < n) (hj : j < s) : ((Array.range (n * s)).map (fun k => z[k % z.size]!)).getD (i * s + j) undef = z.getD j undef := by
 have hlt : i * s + j < n * s := by
  have : i * s + s ≤ n * s := by rw [← Nat.succ_mul]; exact Nat.mul_le_mul_right _ hi
  omega
 have hm : (i * s + j) % s = j := by rw [Nat.add_comm, Nat.add_mul_mod_self_right, Nat.mod_eq_of_lt hj]
 subst hz
 simp only [Array.getD_eq_getD_getElem?, Array.getElem?_map, Array.getElem?_range, hlt, if_true, Option.map_some, Option.getD_some, hm]
 rw [getElem!_pos z j hj, Array.getElem?_eq_getElem hj]
 rfl
theorem Rel.freshRow {st : St} (h : Rel cx ρ S st a w) (s : Nat) {e sz b : Nat} {es : List (List Pd)} (cells : Array Value) (cap : Nat) (h0 : 0 < sz) (hcap : es.length ≤ cap) (hmax : cap ≤ maxLen) (hsz : cells.size = cap * sz)
 (h1 : ∀ j, j < cap * sz → (cells.getD j undef).oneCell' = true) (h2 : ∀ i j, i < es.length → j < sz → VP S (w.alloc (.cells cells e)) ((es.getD i []).getD j .undef) (cells.getD (i * sz + j) undef)) :
 Rel cx (fun n => if n = .loc s then .of (some w.heap.size) (.slice (some ⟨w.heap.size, 0, none⟩) es.length cap) else ρ n) S (st.fresh s (.arr e sz b false es)) a (w.alloc (.cells cells e)) := by
 refine h.fresh s _ cells e _ ?_
 have hle : es.length * sz ≤ cap * sz := Nat.mul_le_mul_right _ hcap
 have hcl : cells.toList.length = cells.size := by simp
 refine ⟨cells.toList.take (es.length * sz), ⟨by rw [List.length_take, hcl]; omega, .inr ⟨w.heap.size, cap, cells, rfl, Nat.zero_le _, heap_alloc_new w _, hcap, hmax, hsz, rfl⟩⟩, rfl, h0, ?_, ?_⟩
 ·intro u hu
  obtain ⟨i, hi, rfl⟩ := List.getElem_of_mem hu
  rw [List.length_take, hcl] at hi
  have := h1 i (by omega)
  rw [Array.getD_eq_getD_getElem?, Array.getElem?_eq_getElem (by omega)] at this
  simpa using this
 ·intro i j hi hj
  have hlt : i * sz + j < es.length * sz := by
   have : i * sz + sz ≤ es.length * sz := by rw [← Nat.succ_mul]; exact Nat.mul_le_mul_right _ hi
   omega
  have e1 : (cells.toList.take (es.length * sz)).getD (i * sz + j) undef = cells.getD (i * sz + j) undef := by
   rw [← getD_toList]
   simp only [List.getD_eq_getElem?_getD, List.getElem?_take, hlt, if_true]
  rw [e1]
  exact h2 i j hi hj
theorem zero_views {L O : List Ob} (P : Program) (t : TypeId) {zs : List Dv} {xs : List Pd} {L' O' : List Ob} (hz : zeroD P t = some zs) (hv : views L O zs = some (xs, L', O')) {z : Value} (hzr : ∀ (ρ : Nm → Rz) (S : Nat → Nat → Prop) (w : World) j, j < zs.length → VD ρ S w (zs.getD j ud) (z.cells.getD j undef)) :
 ∀ (S : Nat → Nat → Prop) (w : World) j, j < zs.length → VP S w (xs.getD j .undef) (z.cells.getD j undef) := by
 have key : ∀ (zs : List Dv) (xs : List Pd) (L O L' O' : List Ob), (∀ j, j < zs.length → ∃ s v, zs.getD j ud = constC s v) → views L O zs = some (xs, L', O') → ∀ j, j < zs.length → (zs.getD j ud = .p (xs.getD j .undef)) ∨ (∃ s, zs.getD j ud = .nilsl s ∧ xs.getD j .undef = .sl s []) := by
  intro zs
  induction zs with
  | nil => intro xs L O L' O' _ _ j hj; cases hj
  | cons d zs ih =>
   intro xs L O L' O' hc h j hj
   simp only [views] at h
   split at h
   ·rename_i x L1 O1 hx
    split at h
    ·rename_i ys L2 O2 hy
     injection h with h; injection h with h _; subst h
     cases j with
     | zero =>
      obtain ⟨s, v, hd⟩ := hc 0 (by simp)
      have hd' : d = constC s v := hd
      subst hd'
      unfold constC at hx ⊢
      split at hx <;> (simp only [view1] at hx; injection hx with hx; injection hx with hx _; subst hx) <;> first
       | exact .inl rfl
       | exact .inr ⟨_, rfl, rfl⟩
     | succ j => exact ih ys _ _ _ _ (fun j hj => hc (j + 1) (by simpa using hj)) hy j (by simpa using hj)
    ·cases h
   ·cases h
 have hcc : ∀ (ss : List Nat) (vs : List Value) j, j < (zeroC ss vs).length → ∃ s v, (zeroC ss vs).getD j ud = constC s v := by
  intro ss vs
  induction vs generalizing ss with
  | nil => intro j hj; simp [zeroC] at hj
  | cons v vs ih =>
   intro j hj
   cases ss with
   | nil =>
    cases j with
    | zero => exact ⟨0, v, rfl⟩
    | succ j => exact ih [] j (by simpa [zeroC] using hj)
   | cons s ss =>
    cases j with
    | zero => exact ⟨s, v, rfl⟩
    | succ j => exact ih ss j (by simpa [zeroC] using hj)
 have hzc : ∀ j, j < zs.length → ∃ s v, zs.getD j ud = constC s v := by
  unfold zeroD at hz
  split at hz
  ·split at hz
   ·split at hz
    ·injection hz with hz; subst hz; exact hcc _ _
    ·cases hz
   ·cases hz
  ·cases hz
 intro S w j hj
 have hr := hzr (fun _ => .of none undef) S w j hj
 rcases key zs xs L O L' O' hzc hv j hj with e | ⟨s, e1, e2⟩
 ·rw [e] at hr; exact hr.pd
 ·rw [e1] at hr
  rw [e2]
  generalize z.cells.getD j undef = v at hr ⊢
  cases hr
  exact .sl ⟨0, 0, none⟩ (fun _ _ => undef) rfl (Nat.le_refl _) (fun q => by omega) (fun i j hi => by omega) (fun i j hi => by omega)
end Go.Proofs.YtmnoibkdmeajpaaGreat.Dm
