/- The machine over plain data and memory: rows made, stores, append. -/
import Derived.Test.YtmnoibkdmeajpaaGreatDm8
import Derived.Laws.MakeOwn
namespace Go.Proofs.YtmnoibkdmeajpaaGreat.Dm
set_option linter.unusedSectionVars false
open Go.RowKit
set_option linter.unusedVariables false
set_option linter.unusedSimpArgs false
variable [Cfg] {P : Program} {cx : Cx} {ρ : Nm → Rz} {S : Nat → Nat → Prop} {w : World} {st : St} {a : Act} {o : Oper} {d : Dv}
theorem maxLen_big {n : Nat} (h : n ≤ 281474976710656) : n ≤ maxLen := by simp only [maxLen]; omega
theorem ok_makeSlice (h : Rel cx ρ S st a w) {t e : TypeId} {l c : Operand} (ho : o.op = .makeSlice t l c) (hu : P.underlying t = some (.slice e)) {n m : Int} (hl : opd P st 0 l = .p (.int .i64 n)) (hc : opd P st 0 c = .p (.int .i64 m)) (h0 : P.cellsOf e ≠ 0)
 (hnm : 0 ≤ n ∧ n ≤ m ∧ m.toNat * P.bytesOf e ≤ LIM ∧ P.bytesOf e ≠ 0) {zs : List Dv} (hz : zeroD P e = some zs) (hzl : zs.length = P.cellsOf e) {zp : List Pd} {L' O' : List Ob} (hv : views st.L st.O zs = some (zp, L', O')) (s : Nat) :
 StepOK P cx o a w (.arr (.loc s)) (st.fresh s (.arr e (P.cellsOf e) (P.bytesOf e) false (List.replicate n.toNat zp))) := by
 obtain ⟨hn0, hnm1, hb, hb0⟩ := hnm
 obtain ⟨z, ⟨i, hi, hiz⟩, h1, h2, h3, h4⟩ := zero_rel hz
 have el := (hl ▸ opd_rel h 0 l).int_inv
 have ec := (hc ▸ opd_rel h 0 c).int_inv
 obtain ⟨i', hi', hsz, hby⟩ := info_of_cells h0
 have : i' = i := by rw [hi] at hi'; injection hi' with q; exact q.symm
 subst this
 have hm47 : m.toNat ≤ 140737488355328 := by
  unfold LIM at hb
  have : m.toNat * 1 ≤ m.toNat * P.bytesOf e := Nat.mul_le_mul_left _ (by omega)
  omega
 have hbi : (P.bytesOf e : Int) * m ≤ 281474976710656 := by
  unfold LIM at hb
  have : ((m.toNat * P.bytesOf e : Nat) : Int) ≤ ((140737488355328 : Nat) : Int) := Int.ofNat_le.2 hb
  rw [Int.natCast_mul, Int.toNat_of_nonneg (by omega), Int.mul_comm] at this
  omega
 have hcells : ((Array.range (m.toNat * P.cellsOf e)).map fun k => z.cells[k % z.cells.size]!).size = m.toNat * P.cellsOf e := by simp
 have hzs : z.cells.size = P.cellsOf e := by omega
 have hget : ∀ i j, i < m.toNat → j < P.cellsOf e → ((Array.range (m.toNat * P.cellsOf e)).map fun k => z.cells[k % z.cells.size]!).getD (i * P.cellsOf e + j) undef = z.cells.getD j undef :=
  fun i j hi hj => replicate_cells z.cells (P.cellsOf e) hzs (by omega) m.toNat i j hi hj
 refine .inl ⟨.slice (some ⟨w.heap.size, 0, none⟩) n.toNat m.toNat, w.alloc (.cells ((Array.range (m.toNat * P.cellsOf e)).map fun k => z.cells[k % z.cells.size]!) e), _, S, .inl ?_,
  h.freshRow s _ m.toNat (by omega) (by rw [List.length_replicate]; omega) (maxLen_big (by omega)) hcells (fun k hk => ?_) (fun i j hi hj => ?_), ?_⟩
 ·unfold execOp; rw [ho]; dsimp only; rw [el, ec]
  refine (Sem.run_bind ..).trans ?_
  have hrun : (Instr.makeSlice t (.int .i64 n) (.int .i64 m)).run P w = .ok (.slice (some ⟨w.heap.size, 0, none⟩) n.toNat m.toNat) (w.alloc (.cells ((Array.range (m.toNat * P.cellsOf e)).map fun k => z.cells[k % z.cells.size]!) e)) := by
   have hr := run_make (P := P) w t e i' z hu hi hiz .i64 .i64 n m hn0 hnm1 (by rw [hby]; exact hbi) (by omega)
   rw [hsz] at hr
   exact hr
  rw [hrun]; rfl
 ·have hk' : k / P.cellsOf e < m.toNat := Nat.div_lt_of_lt_mul (by rw [Nat.mul_comm]; exact hk)
  have hm' : k % P.cellsOf e < P.cellsOf e := Nat.mod_lt _ (by omega)
  have := hget (k / P.cellsOf e) (k % P.cellsOf e) hk' hm'
  rw [Nat.div_add_mod'] at this
  rw [this]
  exact h3 _ (by omega)
 ·rw [List.length_replicate] at hi
  rw [hget i j (by omega) hj]
  have e1 : (List.replicate n.toNat zp).getD i [] = zp := by simp [List.getD_eq_getElem?_getD, hi]
  rw [e1]
  exact zero_views P e hz hv h4 S _ j (by omega)
 ·have : VD (fun n' => if n' = Nm.loc s then (.of (some w.heap.size) (.slice (some ⟨w.heap.size, 0, none⟩) (List.replicate n.toNat zp).length m.toNat) : Rz) else ρ n') S (w.alloc (.cells ((Array.range (m.toNat * P.cellsOf e)).map fun k => z.cells[k % z.cells.size]!) e)) (.arr (.loc s)) ((fun n' => if n' = Nm.loc s then (.of (some w.heap.size) (.slice (some ⟨w.heap.size, 0, none⟩) (List.replicate n.toNat zp).length m.toNat) : Rz) else ρ n') (.loc s)).tip := .arr (by simp [Value.oneCell'])
  simpa using this
theorem sizesAre_get {n : Nat} : ∀ {ds : List Dv}, sizesAre n ds = true → ∀ j, j < ds.length → sizeV (ds.getD j ud) = some n
 | [], _, j, hj => by cases hj
 | d :: ds, h, j, hj => by
  simp only [sizesAre, Bool.and_eq_true, beq_iff_eq] at h
  cases j with
  | zero => exact h.1
  | succ j => exact sizesAre_get h.2 j (by simpa using hj)
theorem view1_undef {L O L' O' : List Ob} {x : Pd} (h : view1 L O d = some (x, L', O')) (hx : x = .undef) : d = .p .undef := by
 subst hx
 unfold view1 at h
 split at h
 ·injection h with h; injection h with h _; subst h; rfl
 ·injection h with h; injection h with h _; cases h
 ·split at h
  ·injection h with h; injection h with h _; cases h
  ·split at h
   ·injection h with h; injection h with h _; cases h
   ·cases h
  ·split at h
   ·injection h with h; injection h with h _; cases h
   ·cases h
  ·cases h
 ·cases h
theorem view_undef {L O L' O' : List Ob} {x : Pd} (h : view L O d = some (x, L', O')) (hx : x = .undef) : d = .p .undef := by
 unfold view at h
 split at h
 ·split at h
  ·injection h with h; injection h with h _; subst h; cases hx
  ·cases h
 ·exact view1_undef h hx
theorem pcells_rel {n : Nat} {v : Value} {S' : Nat → Nat → Prop} {L O L' O' : List Ob} {x : Pd} (hd : VD ρ S w d v) (hn : sizeV d = some n) (hv : view L O d = some (x, L', O')) (hx : VP S' w x v) : ∀ j, j < n → VP S' w ((pcells x).getD j .undef) (v.cells.getD j undef) := by
 obtain ⟨h1, h2, h3⟩ := cells_rel hd hn
 have hne : x ≠ .undef := fun q => by
  have := view_undef hv q
  subst this
  simp only [sizeV] at hn
  cases hn
 intro j hj
 have one : ∀ (x : Pd) (v : Value), VP S' w x v → pcells x = [x] → v.cells = #[v] → v.cells.size = n → VP S' w ((pcells x).getD j .undef) (v.cells.getD j undef) := by
  intro x v q1 q2 q3 q4
  rw [q3] at q4
  have e : j = 0 := by simp at q4; omega
  subst e
  rw [q2, q3]
  exact q1
 have hx0 := hx
 cases hx with
 | @agg c cs vs q1 q2 q3 => exact q3 j (by have : vs.size = n := h1; omega)
 | int => exact one _ _ hx0 rfl rfl h1
 | bool => exact one _ _ hx0 rfl rfl h1
 | str => exact one _ _ hx0 rfl rfl h1
 | sl _ _ _ _ _ _ _ => exact one _ _ hx0 rfl rfl h1
 | fn => exact one _ _ hx0 rfl rfl h1
 | anyb => exact one _ _ hx0 rfl rfl h1
 | undef => exact absurd rfl hne
theorem viewAll_sound : ∀ (ds : List Dv) {S : Nat → Nat → Prop} {L O : List Ob} {w : World} (h : Core cx ρ S L O w) (vals : Nat → Value) (hd : ∀ j, j < ds.length → VD ρ S w (ds.getD j ud) (vals j)) {xs : List Pd} {L' O' : List Ob} (hv : viewAll L O ds = some (xs, L', O')),
 ∃ S' : Nat → Nat → Prop, (∀ b o, S b o → S' b o) ∧ Core cx ρ S' L' O' w ∧ xs.length = ds.length ∧ (∀ j, j < ds.length → VP S' w (xs.getD j .undef) (vals j)) ∧ ∀ j n, j < ds.length → sizeV (ds.getD j ud) = some n → ∀ k, k < n → VP S' w ((pcells (xs.getD j .undef)).getD k .undef) ((vals j).cells.getD k undef)
 | [], S, L, O, w, h, vals, hd, xs, L', O', hv => by
  simp only [viewAll] at hv
  injection hv with hv; injection hv with e1 e2; injection e2 with e2 e3; subst e1 e2 e3
  exact ⟨S, fun _ _ q => q, h, rfl, fun j hj => (by cases hj), fun j n hj => by cases hj⟩
 | d :: ds, S, L, O, w, h, vals, hd, xs, L', O', hv => by
  simp only [viewAll] at hv
  split at hv
  ·rename_i x L1 O1 hx
   split at hv
   ·rename_i ys L2 O2 hy
    injection hv with hv; injection hv with e1 e2; injection e2 with e2 e3; subst e1 e2 e3
    obtain ⟨S1, q1, q2, q3⟩ := view_sound h (hd 0 (by simp)) hx
    obtain ⟨S2, q4, q5, q6, q7, q8⟩ := viewAll_sound ds q2 (fun j => vals (j + 1)) (fun j hj => (hd (j + 1) (by simpa using hj)).keep (fun _ => rfl) q1 (fun _ _ _ => rfl)) hy
    refine ⟨S2, fun b o q => q4 _ _ (q1 _ _ q), q5, by simp [q6], fun j hj => ?_, fun j n hj hn k hk => ?_⟩
    ·cases j with
     | zero => exact q3.keep q4 (fun _ _ _ => rfl)
     | succ j => exact q7 j (by simpa using hj)
    ·cases j with
     | zero => exact (pcells_rel (hd 0 (by simp)) hn hx q3 k hk).keep q4 (fun _ _ _ => rfl)
     | succ j => exact q8 j n (by simpa using hj) hn k hk
   ·cases hv
  ·cases hv
theorem fill_rows {sz N : Nat} (f : Operand → Value) : ∀ (l : List (Nat × Operand)) (k : Nat) (cs : Array Value), range0 k l = true → (∀ q ∈ l, (f q.2).cells.size = sz) → cs.size = N * sz → k + l.length ≤ N →
 ∃ cs', Instr.fill (fun i => some (i * sz, sz)) cs (l.map fun q => (q.1, f q.2)) = some cs' ∧ cs'.size = N * sz ∧ (∀ i j, i < k → j < sz → cs'.getD (i * sz + j) undef = cs.getD (i * sz + j) undef) ∧ ∀ i j, i < l.length → j < sz → cs'.getD ((k + i) * sz + j) undef = (f ((l.getD i (0, .tmp 0)).2)).cells.getD j undef
 | [], k, cs, _, _, hs, _ => ⟨cs, rfl, hs, fun _ _ _ _ => rfl, fun i j hi => by cases hi⟩
 | (i0, x) :: l, k, cs, hr, hc, hs, hk => by
  simp only [range0, Bool.and_eq_true, beq_iff_eq] at hr
  obtain ⟨rfl, hr⟩ := hr
  simp only [List.length_cons] at hk
  have hx : (f x).cells.size = sz := hc _ (List.mem_cons_self ..)
  have hle : k * sz + sz ≤ N * sz := by rw [← Nat.succ_mul]; exact Nat.mul_le_mul_right _ (by omega)
  have hsz : ((f x).cells.zipIdx.foldl (fun cs (x : Value × Nat) => cs.setIfInBounds (k * sz + x.2) x.1) cs).size = N * sz := by
   rw [← Array.foldl_toList, fold_set #[]]; exact hs
  have hget : ∀ j, j < N * sz → ((f x).cells.zipIdx.foldl (fun cs (x : Value × Nat) => cs.setIfInBounds (k * sz + x.2) x.1) cs).getD j undef = if k * sz ≤ j ∧ j < k * sz + sz then (f x).cells.getD (j - k * sz) undef else cs.getD j undef := by
   intro j hj
   rw [← Array.foldl_toList, Array.toList_zipIdx, fold_get (k * sz) _ 0 cs j (by omega)]
   simp only [Nat.add_zero, Nat.sub_zero, Array.length_toList, hx, getD_toList]
  obtain ⟨cs', g1, g2, g3, g4⟩ := fill_rows f l (k + 1) _ hr (fun q hq => hc q (by simp [hq])) hsz (by omega)
  refine ⟨cs', ?_, g2, fun i j hi hj => ?_, fun i j hi hj => ?_⟩
  ·rw [List.map_cons, Instr.fill]
   simp only
   rw [if_neg (by rw [hx, hs]; simp; omega)]
   exact g1
  ·have hlt : i * sz + j < k * sz := by
    have : i * sz + sz ≤ k * sz := by rw [← Nat.succ_mul]; exact Nat.mul_le_mul_right _ hi
    omega
   rw [g3 i j (by omega) hj, hget _ (by omega), if_neg (by omega)]
  ·cases i with
   | zero =>
    rw [Nat.add_zero, g3 k j (by omega) hj, hget _ (by omega), if_pos (by omega)]
    rw [show k * sz + j - k * sz = j from by omega]
    rfl
   | succ i =>
    have := g4 i j (by simpa using hi) hj
    rw [show k + (i + 1) = k + 1 + i from by omega]
    exact this
theorem ok_buildSlice (h : Rel cx ρ S st a w) {t e : TypeId} {len : Nat} {ps : Array (Nat × Operand)} (ho : o.op = .buildSlice t len ps) (hu : P.underlying t = some (.slice e)) (h0 : P.cellsOf e ≠ 0) (hzo : zeroOK P e = true)
 (hc : ps.size = len ∧ range0 0 ps.toList = true ∧ len * P.cellsOf e ≤ 65536) (hsz : sizesAre (P.cellsOf e) (ps.toList.map fun q => opd P st e q.2) = true) {xs : List Pd} {L O : List Ob} (hv : viewAll st.L st.O (ps.toList.map fun q => opd P st e q.2) = some (xs, L, O)) (s : Nat) :
 StepOK P cx o a w (.arr (.loc s)) (St.fresh ⟨st.T, L, O⟩ s (.arr e (P.cellsOf e) (P.bytesOf e) false (xs.map pcells))) := by
 obtain ⟨hl, hr, hb⟩ := hc
 obtain ⟨i, hi, hsi, _⟩ := info_of_cells h0
 unfold zeroOK at hzo
 rw [hi] at hzo
 dsimp only at hzo
 cases hz : i.zero with
 | none => rw [hz] at hzo; cases hzo
 | some z =>
  rw [hz] at hzo
  simp only [beq_iff_eq] at hzo
  have hzs : z.cells.size = P.cellsOf e := by omega
  have hop : ∀ j, j < (ps.toList.map fun q => opd P st e q.2).length → VD ρ S w ((ps.toList.map fun q => opd P st e q.2).getD j ud) (a.eval (ps.toList.getD j (0, .tmp 0)).2) := by
   intro j hj
   rw [List.length_map] at hj
   have e1 : (ps.toList.map fun q => opd P st e q.2).getD j ud = opd P st e (ps.toList.getD j (0, .tmp 0)).2 := by
    simp only [List.getD_eq_getElem?_getD, List.getElem?_map, List.getElem?_eq_getElem hj]
    rfl
   rw [e1]
   exact opd_rel h e _
  obtain ⟨S', q1, q2, q3, q4, q5⟩ := viewAll_sound _ h.core _ hop hv
  rw [List.length_map] at q3 q4 q5
  have hpl : ps.toList.length = len := by simpa using hl
  have hsize : ∀ j, j < ps.toList.length → (a.eval (ps.toList.getD j (0, .tmp 0)).2).cells.size = P.cellsOf e ∧ ∀ k, k < P.cellsOf e → ((a.eval (ps.toList.getD j (0, .tmp 0)).2).cells.getD k undef).oneCell' = true := by
   intro j hj
   have h1 := cells_rel (hop j (by rw [List.length_map]; exact hj)) (sizesAre_get hsz j (by rw [List.length_map]; exact hj))
   exact ⟨h1.1, h1.2.1⟩
  obtain ⟨cs', g1, g2, _, g4⟩ := fill_rows (sz := P.cellsOf e) (N := len) a.eval ps.toList 0 ((Array.range (len * P.cellsOf e)).map fun k => (if len * P.cellsOf e = 0 then (#[] : Array Value) else z.cells)[k % (if len * P.cellsOf e = 0 then (#[] : Array Value) else z.cells).size]!) hr (fun q hq => by
   obtain ⟨j, hj, rfl⟩ := List.getElem_of_mem hq
   have := (hsize j hj).1
   rwa [List.getD_eq_getElem?_getD, List.getElem?_eq_getElem hj] at this) (by simp) (by omega)
  have hcell : ∀ k, k < len * P.cellsOf e → (cs'.getD k undef).oneCell' = true := by
   intro k hk
   have hk' : k / P.cellsOf e < len := Nat.div_lt_of_lt_mul (by rw [Nat.mul_comm]; exact hk)
   have hm' : k % P.cellsOf e < P.cellsOf e := Nat.mod_lt _ (by omega)
   have := g4 (k / P.cellsOf e) (k % P.cellsOf e) (by omega) hm'
   rw [Nat.zero_add, Nat.div_add_mod'] at this
   rw [this]
   exact (hsize _ (by omega)).2 _ hm'
  have hlen : (xs.map pcells).length = len := by rw [List.length_map]; omega
  refine .inl ⟨.slice (some ⟨w.heap.size, 0, none⟩) len len, w.alloc (.cells cs' e), _, S', .inl ?_, (h.core_ q1 q2).freshRow s cs' len (by omega) (by omega) (maxLen_big (by
   have : len * 1 ≤ len * P.cellsOf e := Nat.mul_le_mul_left _ (by omega)
   omega)) g2 hcell (fun i j hi' hj => ?_), ?_⟩
  ·unfold execOp; rw [ho]; dsimp only
   refine (Sem.run_bind ..).trans ?_
   have hrun : (Instr.buildSlice t len (ps.map fun x : Nat × Operand => (x.1, a.eval x.2))).run P w = .ok (.slice (some ⟨w.heap.size, 0, none⟩) len len) (w.alloc (.cells cs' e)) := by
    have hbig : ¬ (len * P.cellsOf e > 2 ^ 24) := by omega
    unfold Instr.buildSlice
    rw [Sem.run_bind, run_underlying hu, Result.andThen_ok]
    dsimp only
    rw [Sem.run_bind, run_sizeOf_ h0, Result.andThen_ok, if_neg hbig]
    have ee : (ps.map fun x : Nat × Operand => (x.1, a.eval x.2)).toList = ps.toList.map fun q => (q.1, a.eval q.2) := by simp
    by_cases hn : len * P.cellsOf e = 0
    ·simp only [hn, if_true] at g1 ⊢
     rw [Sem.run_bind, Sem.run_pure, Result.andThen_ok, ee, g1]
     rfl
    ·simp only [hn, if_false] at g1 ⊢
     rw [Sem.run_bind, show (zeroValue e).run P w = .ok z w from by simp [zeroValue, typeInfo, hi, hz], Result.andThen_ok, Sem.run_bind, Sem.run_pure, Result.andThen_ok, ee, g1]
     rfl
   rw [show (Array.map (fun x : Nat × Operand => match x with | (i, x) => (i, a.eval x)) ps) = ps.map fun x : Nat × Operand => (x.1, a.eval x.2) from rfl, hrun]
   rfl
  ·rw [hlen] at hi'
   have hc := g4 i j (by omega) hj
   rw [Nat.zero_add] at hc
   rw [hc]
   have e1 : (xs.map pcells).getD i [] = pcells (xs.getD i .undef) := by
    simp only [List.getD_eq_getElem?_getD, List.getElem?_map]
    rw [List.getElem?_eq_getElem (by omega)]
    rfl
   rw [e1]
   have := q5 i _ (by omega) (sizesAre_get hsz i (by rw [List.length_map]; omega)) j hj
   exact this.keep (fun _ _ q => q) (fun b o q => cell_heap (heap_push_lt w _ b (q2.sb b o q)))
  ·have : VD (fun n' => if n' = Nm.loc s then (.of (some w.heap.size) (.slice (some ⟨w.heap.size, 0, none⟩) (xs.map pcells).length len) : Rz) else ρ n') S' (w.alloc (.cells cs' e)) (.arr (.loc s)) ((fun n' => if n' = Nm.loc s then (.of (some w.heap.size) (.slice (some ⟨w.heap.size, 0, none⟩) (xs.map pcells).length len) : Rz) else ρ n') (.loc s)).tip := .arr (by simp [Value.oneCell'])
   simp only [if_true, hlen] at this
   simp only [hlen]
   exact this
def OwnSet (L O : List Ob) (ρ : Nm → Rz) (ms : List Nm) (k : Nat) : Prop := ∃ n, n ∈ ms ∧ OwnAt L O ρ n k
section
variable {L O : List Ob}
theorem Core.ownAt_inj (h : Core cx ρ S L O w) {n n' : Nm} {k : Nat} (q : OwnAt L O ρ n k) (q' : OwnAt L O ρ n' k) : n' = n := by
 refine Classical.byContradiction fun hne => ?_
 have := (h.ownAt q).2 n' q'.live hne
 rcases q' with ⟨p1, p2⟩ | ⟨e, s, b, es, p1, p2⟩
 ·exact this.2 p1 p2
 ·exact this.1 p2
theorem okX_getD {mx : Bool} {es : List (List Pd)} (h : (mx || okEs es) = true) (i j : Nat) : (mx || scalPd ((es.getD i []).getD j .undef)) = true := by
 cases mx with
 | true => rfl
 | false => exact okEs_getD h i j
theorem scalX_getD {mx : Bool} {xs : List Pd} (h : (mx || xs.all scalPd) = true) (j : Nat) : (mx || scalPd (xs.getD j .undef)) = true := by
 cases mx with
 | true => rfl
 | false => exact scal_getD h j
theorem pack1_sound (h : Core cx ρ S L O w) {r : Option (Nat × Nat)} {v : Value} (hd : VD ρ S w d v) {x : Pd} {ms : List Nm} {mx : Bool} (hp : pack1 mx L O r d = some (x, ms)) : VO (SX mx S) w (OwnSet L O ρ ms) x v := by
 unfold pack1 at hp
 split at hp
 ·split at hp
  ·rename_i hx
   injection hp with hp; injection hp with e1 e2; subst e1 e2
   exact .p (hd.pd.toX hx)
  ·cases hp
 ·cases hd
  split at hp
  ·split at hp
   ·cases hp
   ·rename_i hz
    injection hp with hp; injection hp with e1 e2; subst e1 e2
    exact .ow [] (fun _ => 0) (by omega) (World.ownsRow_nil _ _ _ _) (fun g q => nomatch q) (fun u q => nomatch q) fun i j hi => by cases hi
  ·injection hp with hp; injection hp with e1 e2; subst e1 e2
   exact .p (.sl ⟨0, 0, none⟩ (fun _ _ => undef) rfl (Nat.le_refl _) (fun q => by omega) (fun i j hi => by omega) (fun i j hi => by omega))
 ·rename_i m
  cases hd
  have hob := h.ob m
  split at hp
  ·rename_i e s
   split at hp
   ·rename_i e' s' b es hm
    split at hp
    ·rename_i hes
     obtain ⟨rfl, rfl, hok⟩ := hes
     injection hp with hp; injection hp with e1 e2; subst e1 e2
     rw [hm] at hob
     obtain ⟨xs, h1, h2, h3, h4, h5⟩ := hob
     exact .ow xs (fun _ => 0) h3 h1 (fun g q => ⟨m, List.mem_singleton.2 rfl, .inr ⟨_, _, _, _, hm, h2.trans q⟩⟩) h4 fun i j hi hj => .p ((h5 i j hi hj).toX (okX_getD hok i j))
    ·cases hp
   ·rename_i e' s' es hm
    split at hp
    ·rename_i hes
     obtain ⟨rfl, rfl⟩ := hes
     injection hp with hp; injection hp with e1 e2; subst e1 e2
     rw [hm] at hob
     obtain ⟨o1, o2, o3, o4⟩ := hob
     exact o3.toX.mono fun k hk => ⟨m, List.mem_singleton.2 rfl, .inl ⟨by rw [hm]; rfl, hk⟩⟩
    ·cases hp
   ·rename_i e' s' es hm
    split at hp
    ·rename_i hes
     obtain ⟨rfl, rfl, rfl⟩ := hes
     injection hp with hp; injection hp with e1 e2; subst e1 e2
     rw [hm] at hob
     obtain ⟨o1, o2, o3, o4⟩ := hob
     exact o3.inX.mono fun k hk => ⟨m, List.mem_singleton.2 rfl, .inl ⟨by rw [hm]; rfl, hk⟩⟩
    ·cases hp
   ·cases hp
  ·cases hp
 ·cases hp
theorem nodupN_append : ∀ {a b : List Nm}, nodupN (a ++ b) = true → nodupN b = true ∧ ∀ n ∈ a, n ∉ b
 | [], b, h => ⟨h, fun n q => by cases q⟩
 | m :: a, b, h => by
  simp only [List.cons_append, nodupN, Bool.and_eq_true, Bool.not_eq_true'] at h
  obtain ⟨q1, q2⟩ := nodupN_append h.2
  refine ⟨q1, fun n hn => ?_⟩
  rcases List.mem_cons.1 hn with q | q
  ·subst q
   intro hb
   have := h.1
   rw [List.contains_eq_mem, decide_eq_false_iff_not] at this
   exact this (List.mem_append_right _ hb)
  ·exact q2 n q
open Classical in
theorem two_parts {A B : Nat → Prop} (hAB : ∀ k, A k → ¬ B k) (f g : Nat → Nat) : ∃ h : Nat → Nat, (∀ k, A k → h k = f k) ∧ ∀ k, B k → h k = g k :=
 ⟨fun k => if A k then f k else g k, fun k hk => if_pos hk, fun k hk => if_neg fun q => hAB k q hk⟩
theorem packs_sound (h : Core cx ρ S L O w) {mx : Bool} : ∀ (ds : List Dv) (rs : List (Option (Nat × Nat))) (vals : Nat → Value) {xs : List Pd} {ms : List Nm}, packs mx L O rs ds = some (xs, ms) → nodupN ms = true → (∀ j, j < ds.length → VD ρ S w (ds.getD j ud) (vals j)) →
 ∃ f : Nat → Nat, ∀ j, j < ds.length → VO (SX mx S) w (fun k => OwnSet L O ρ ms k ∧ f k = j) (xs.getD j .undef) (vals j)
 | [], rs, vals, xs, ms, hp, hn, hd => ⟨fun _ => 0, fun j hj => by cases hj⟩
 | d :: ds, rs, vals, xs, ms, hp, hn, hd => by
  simp only [packs] at hp
  split at hp
  ·rename_i x m1 h1
   split at hp
   ·rename_i ys m2 h2
    injection hp with hp; injection hp with e1 e2; subst e1 e2
    obtain ⟨hn2, hdis⟩ := nodupN_append hn
    obtain ⟨f', hf'⟩ := packs_sound h ds rs.tail (fun j => vals (j + 1)) h2 hn2 (fun j hj => hd (j + 1) (by simpa using hj))
    have h0 := pack1_sound h (hd 0 (by simp)) h1
    obtain ⟨f, fa, fb⟩ := two_parts (A := OwnSet L O ρ m1) (B := OwnSet L O ρ m2) (fun k ⟨n, q1, q2⟩ ⟨n', q3, q4⟩ => hdis n q1 (by rw [h.ownAt_inj q4 q2]; exact q3)) (fun _ => 0) (fun k => f' k + 1)
    refine ⟨f, fun j hj => ?_⟩
    cases j with
    | zero => exact h0.mono fun k hk => ⟨by obtain ⟨n, q1, q2⟩ := hk; exact ⟨n, List.mem_append_left _ q1, q2⟩, fa k hk⟩
    | succ j =>
     refine (hf' j (by simpa using hj)).mono fun k hk => ⟨?_, by rw [fb k hk.1, hk.2]⟩
     obtain ⟨⟨n, q1, q2⟩, _⟩ := hk
     exact ⟨n, List.mem_append_right _ q1, q2⟩
   ·cases hp
  ·cases hp
theorem packV_sound (h : Core cx ρ S L O w) {t : TypeId} {v : Value} {n : Nat} (hd : VD ρ S w d v) (hn : sizeV d = some n) {xs : List Pd} {ms : List Nm} {mx : Bool} (hp : packV mx P L O t d = some (xs, ms)) (hnd : nodupN ms = true) :
 ∃ f : Nat → Nat, ∀ j, j < n → VO (SX mx S) w (fun k => OwnSet L O ρ ms k ∧ f k = j) (xs.getD j .undef) (v.cells.getD j undef) := by
 obtain ⟨n1, n2, n3⟩ := cells_rel hd hn
 unfold packV at hp
 split at hp
 ·rename_i x
  split at hp
  ·rename_i hok
   injection hp with hp; injection hp with e1 e2; subst e1 e2
   have := pcells_rel (L := []) (O := []) (L' := []) (O' := []) hd hn rfl hd.pd
   exact ⟨fun _ => 0, fun j hj => .p ((this j hj).toX (scalX_getD hok j))⟩
  ·cases hp
 ·rename_i n' ds
  split at hp
  ·rename_i hl
   simp only [sizeV] at hn
   injection hn with hn; subst hn
   exact (packs_sound h ds _ (fun j => v.cells.getD j undef) hp hnd (fun j hj => n3 j (by omega))).imp fun f hf j hj => hf j (by omega)
  ·cases hp
 ·rename_i hnp hna
  have h1 : n = 1 ∧ v.cells.getD 0 undef = v := by
   cases hd with
   | p hd => exact absurd rfl (hnp _)
   | agg => exact absurd rfl (hna _ _)
   | tup => simp only [sizeV] at hn; cases hn
   | nilsl => simp only [sizeV] at hn; injection hn with hn; exact ⟨hn.symm, rfl⟩
   | ptr _ => simp only [sizeV] at hn; injection hn with hn; exact ⟨hn.symm, rfl⟩
   | arr hh =>
    simp only [sizeV] at hn; injection hn with hn
    refine ⟨hn.symm, ?_⟩
    rename_i m
    generalize (ρ m).tip = v at *
    cases v <;> first | rfl | (simp [Value.oneCell'] at hh)
   | el _ => simp only [sizeV] at hn; injection hn with hn; exact ⟨hn.symm, rfl⟩
   | mp _ => simp only [sizeV] at hn; injection hn with hn; exact ⟨hn.symm, rfl⟩
   | sub hh =>
    simp only [sizeV] at hn; injection hn with hn
    refine ⟨hn.symm, ?_⟩
    generalize (ρ _).cl _ = v at *
    cases v <;> first | rfl | (simp [Value.oneCell'] at hh)
   | ro => simp only [sizeV] at hn; injection hn with hn; exact ⟨hn.symm, rfl⟩
   | fn => simp only [sizeV] at hn; injection hn with hn; exact ⟨hn.symm, rfl⟩
  obtain ⟨rfl, hv⟩ := h1
  refine (packs_sound h [d] _ (fun _ => v) hp hnd (fun j hj => ?_)).imp fun f hf j hj => ?_
  ·have : j = 0 := by simpa using hj
   subst this
   exact hd
  ·have : j = 0 := by omega
   subst this
   rw [hv]
   exact hf 0 (by simp)
end
end Go.Proofs.YtmnoibkdmeajpaaGreat.Dm
