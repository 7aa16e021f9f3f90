/- The machine over plain data and memory: stores, append. -/
import Derived.Test.YtopogjafbmlfgaaDoorDm9
namespace Go.Proofs.YtopogjafbmlfgaaDoor.Dm
open Go.RowKit
set_option linter.unusedVariables false
set_option linter.unusedSimpArgs false
variable {P : Program} {cx : Cx} {ρ : Nm → Rz} {S : Nat → Nat → Prop} {w : World} {st : St} {a : Act} {o : Oper} {d : Dv}

def newCells (cur vs : Array Value) (off : Nat) : Array Value := (cur.toList.take off ++ vs.toList ++ cur.toList.drop (off + vs.size)).toArray
theorem newCells_size (cur vs : Array Value) (off : Nat) (h : off + vs.size ≤ cur.size) : (newCells cur vs off).size = cur.size := by
  simp [newCells]; omega
theorem newCells_get (cur vs : Array Value) (off : Nat) (h : off + vs.size ≤ cur.size) (j : Nat) (hj : j < cur.size) : (newCells cur vs off).getD j undef = if off ≤ j ∧ j < off + vs.size then vs.getD (j - off) undef else cur.getD j undef := by
  have hl : (cur.toList.take off).length = off := by simp; omega
  unfold newCells
  rw [← getD_toList, ← getD_toList, ← getD_toList]
  simp only [List.getD_eq_getElem?_getD]
  by_cases h1 : j < off
  · rw [List.append_assoc, List.getElem?_append_left (by omega), List.getElem?_take, if_pos h1, if_neg (by omega)]
  · rw [List.append_assoc, List.getElem?_append_right (by omega), hl]
    by_cases h2 : j < off + vs.size
    · rw [List.getElem?_append_left (by simp; omega), if_pos ⟨by omega, h2⟩]
    · rw [List.getElem?_append_right (by simp; omega), if_neg (by omega), List.getElem?_drop]
      congr 2
      simp; omega
theorem run_storeAt {t : TypeId} {g off : Nat} {cur : Array Value} {ty : TypeId} {v : Value} (hz : P.cellsOf t ≠ 0) (hn : v.cells.size = P.cellsOf t) (h1 : ∀ j, j < P.cellsOf t → (v.cells.getD j undef).oneCell' = true) (hg : w.heap[g]? = some (.cells cur ty (0, 0))) (hle : off + P.cellsOf t ≤ cur.size) :
    (Instr.storeAt t (.pointer (some ⟨g, off, none⟩)) v).run P w = .ok () (w.setRow g (newCells cur v.cells off)) := by
  unfold Instr.storeAt
  simp only [Instr.sureAddr, Sem.run_bind, Sem.run_pure, Result.andThen_ok]
  unfold storeVar
  rw [Sem.run_bind, run_sizeOf_ hz, Result.andThen_ok, if_neg (by simp [hn])]
  have := run_storeCells_at P g off ty v.cells.toList 0 cur w hg (by simp; omega) (by
    intro u hu
    obtain ⟨i, hi, rfl⟩ := List.getElem_of_mem hu
    have hi' : i < v.cells.size := by simpa using hi
    have := h1 i (by omega)
    rw [Array.getD_eq_getD_getElem?, Array.getElem?_eq_getElem hi'] at this
    simpa using this)
  simp only [Nat.add_zero, Array.length_toList] at this
  exact this
theorem setRow_heap_ne (w : World) (g : Nat) (C : Array Value) (b : Nat) (h : b ≠ g) : (w.setRow g C).heap[b]? = w.heap[b]? := setRow_other w g b C h
theorem run_store_ {t : TypeId} {x y : Operand} (ho : o.op = .store t x y) {w' : World} (h : (Instr.storeAt t (a.eval x) (a.eval y)).run P w = .ok () w') : (execOp a.eval o).run P w = .ok .skip w' := by
  unfold execOp; rw [ho]; dsimp only
  rw [Sem.run_bind, h]; rfl
/-- a store into the block of m -/
theorem Rel.stored {st : St} (h : Rel cx ρ S st a w) {m : Nm} {g : Nat} {cur : Array Value} {ty : TypeId} (hl : getOb st.L st.O m ≠ .none) (hb : (ρ m).blk = some g) (hg : w.heap[g]? = some (.cells cur ty (0, 0)))
    (hS : ∀ o, ¬ S g o) (C : Array Value) (ob' : Ob) (hob : ObRel ρ S (w.setRow g C) ob' (ρ m)) (hia : isArr ob' = true → isArr (getOb st.L st.O m) = true) :
    Rel cx ρ S ⟨st.T, setL st.L m ob', setO st.O m ob'⟩ a (w.setRow g C) := by
  have hc : ∀ b o, S b o → (w.setRow g C).cell? ⟨b, o, none⟩ = w.cell? ⟨b, o, none⟩ := fun b o q => cell_heap (setRow_heap_ne w g C b (fun e => hS o (e ▸ q)))
  refine ⟨h.core.upd m hl ob' (by simp) rfl rfl rfl (fun b hb' hne => setRow_heap_ne w g C b (fun e => hne (e ▸ hb))) hc hob (fun b o q hs => ?_) hia, h.nt, h.df, fun t => (h.tm t).keep (fun _ => rfl) (fun _ _ q => q) hc⟩
  rw [hb] at q
  injection q with q
  subst q
  exact absurd hs (hS o)
theorem boxO_isArr (n : Nat) (ds : List Dv) : isArr (boxO n ds) = false := by unfold boxO; split <;> rfl
theorem boxOf_isArr (n : Nat) (d : Dv) : isArr (boxOf n d) = false := by unfold boxOf; split <;> first | rfl | exact boxO_isArr _ _
theorem storeOb_isArr {off n : Nat} {v : Dv} {x y : Ob} (h : storeOb off n v x = some y) : isArr y = false := by
  unfold storeOb at h
  split at h
  · split at h
    · split at h <;> (injection h with h; subst h) <;> first | exact boxOf_isArr _ _ | exact boxO_isArr _ _
    · cases h
  · split at h
    · split at h <;> (injection h with h; subst h) <;> first | exact boxOf_isArr _ _ | exact boxO_isArr _ _
    · cases h
  · cases h
theorem storeBox_sound (h : Rel cx ρ S st a w) {t : TypeId} {x y : Operand} (ho : o.op = .store t x y) (hz : P.cellsOf t ≠ 0) {m : Nm} {off : Nat} (hx : opd P st 0 x = .ptr m off) (hn : sizeV (opd P st t y) = some (P.cellsOf t)) {ob' : Ob}
    (hs : storeOb off (P.cellsOf t) (opd P st t y) (getOb st.L st.O m) = some ob') : StepOK P cx o a w ud ⟨st.T, setL st.L m ob', setO st.O m ob'⟩ := by
  have hs0 := hs
  have hvx := opd_rel (P := P) h 0 x
  have hvy := opd_rel (P := P) h t y
  rw [hx] at hvx
  generalize hex : a.eval x = vx at hvx
  generalize hey : a.eval y = vy at hvy
  have hob := h.core.ob m
  obtain ⟨n1, n2, n3⟩ := cells_rel hvy hn
  -- what both kinds of boxes have in common
  have main : ∀ (c : Nat) (old : Nat → Dv) (b : Nat) (vs : Array Value) (ty : TypeId), getOb st.L st.O m ≠ .none → (∀ e s bb es, getOb st.L st.O m ≠ .arr e s bb true es) → (ρ m).blk = some b → w.heap[b]? = some (.cells vs ty (0, 0)) → vs.size = c → (∀ j, j < c → (vs.getD j undef).oneCell' = true) → (∀ j, j < c → VD ρ S w (old j) (vs.getD j undef)) →
      off + P.cellsOf t ≤ c → ob' = (if P.cellsOf t = c then boxOf (P.cellsOf t) (opd P st t y) else boxO c (mixD c off (P.cellsOf t) old (opd P st t y))) → StepOK P cx o a w ud ⟨st.T, setL st.L m ob', setO st.O m ob'⟩ := by
    intro c old b vs ty hlive hna hb hg hsz h1 h2 hle hob'
    cases hvx with
    | ptr hb' =>
      rw [hb] at hb'
      injection hb' with hb'
      subst hb'
      have hS : ∀ o, ¬ S b o := fun o' q => by
        obtain ⟨e, s, bb, es, q1, _⟩ := h.core.ss m b o' hlive hb q
        exact hna e s bb es q1
      have hrun := run_storeAt (P := P) (w := w) (off := off) hz n1 n2 hg (by omega)
      have hc : ∀ b' o', S b' o' → (w.setRow b (newCells vs vy.cells off)).cell? ⟨b', o', none⟩ = w.cell? ⟨b', o', none⟩ := fun b' o' q => cell_heap (setRow_heap_ne w b _ b' (fun e => hS o' (e ▸ q)))
      refine .inl ⟨undef, _, ρ, S, .inr ⟨run_store_ ho (by rw [hex, hey]; exact hrun), rfl⟩, h.stored hlive hb hg hS _ ob' ?_ (fun q => absurd q (by rw [storeOb_isArr hs0]; exact Bool.noConfusion)), .un⟩
      have hheap := setRow_heap w b vs (newCells vs vy.cells off) ty (0, 0) hg
      have hlen : off + vy.cells.size ≤ vs.size := by omega
      rw [hob']
      split
      · rename_i hcc
        have hoff : off = 0 := by omega
        have hvv : newCells vs vy.cells off = vy.cells := by
          apply Array.ext'
          subst hoff
          unfold newCells
          simp; omega
        refine boxOf_rel (v := vy) (ty := ty) (hvy.keep (fun _ => rfl) (fun _ _ q => q) hc) hn hb ?_
        exact hheap.trans (congrArg (fun C => some (Obj.cells C ty)) hvv)
      · refine boxO_rel hb hheap (by rw [newCells_size _ _ _ hlen]; exact hsz) (fun j hj => ?_) (fun j hj => ?_)
        · rw [newCells_get _ _ _ hlen j (by omega)]
          split
          · exact n2 _ (by omega)
          · exact h1 j hj
        · rw [newCells_get _ _ _ hlen j (by omega), mixD_get _ _ _ _ _ j hj, n1]
          split
          · exact (n3 _ (by omega)).keep (fun _ => rfl) (fun _ _ q => q) hc
          · exact (h2 j hj).keep (fun _ => rfl) (fun _ _ q => q) hc
  unfold storeOb at hs
  split at hs
  · rename_i c cs hm
    rw [hm] at hob
    obtain ⟨b, vs, ty, q1, q2, q3, q4, q5⟩ := hob
    split at hs
    · rename_i hle
      refine main c (fun j => .p (cs.getD j .undef)) b vs ty (by rw [hm]; exact fun q => by cases q) (fun e s bb es => by rw [hm]; exact fun q => by cases q) q1 q2 q3 q4 (fun j hj => .p (q5 j hj)) hle ?_
      split at hs <;> (rename_i hcc; injection hs with hs; subst hs)
      · rw [if_pos hcc]
      · rw [if_neg hcc]
    · cases hs
  · rename_i c ds hm
    rw [hm] at hob
    obtain ⟨b, vs, ty, q1, q2, q3, q4, q5⟩ := hob
    split at hs
    · rename_i hle
      refine main c (fun j => ds.getD j ud) b vs ty (by rw [hm]; exact fun q => by cases q) (fun e s bb es => by rw [hm]; exact fun q => by cases q) q1 q2 q3 q4 q5 hle ?_
      split at hs <;> (rename_i hcc; injection hs with hs; subst hs)
      · rw [if_pos hcc]
      · rw [if_neg hcc]
    · cases hs
  · cases hs

theorem mixP_get (c off n : Nat) (cs ys : List Pd) (j : Nat) (hj : j < c) : (mixP c off n cs ys).getD j .undef = if off ≤ j ∧ j < off + n then ys.getD (j - off) .undef else cs.getD j .undef := by
  simp [mixP, List.getD_eq_getElem?_getD, hj]
theorem storeEl_sound (h : Rel cx ρ S st a w) {t : TypeId} {x y : Operand} (ho : o.op = .store t x y) (hz : P.cellsOf t ≠ 0) {m : Nm} {j s off e b : Nat} {es : List (List Pd)} (hx : opd P st 0 x = .el m j s off) (hn : sizeV (opd P st t y) = some (P.cellsOf t)) {xv : Pd} {L O : List Ob}
    (hv : view st.L st.O (opd P st t y) = some (xv, L, O)) (hm : getOb L O m = .arr e s b false es) (hj : j < es.length) (hle : off + P.cellsOf t ≤ s) :
    StepOK P cx o a w ud ⟨st.T, setL L m (.arr e s b false (setEl es j s off (P.cellsOf t) xv)), setO O m (.arr e s b false (setEl es j s off (P.cellsOf t) xv))⟩ := by
  have hvx := opd_rel (P := P) h 0 x
  have hvy := opd_rel (P := P) h t y
  rw [hx] at hvx
  generalize hex : a.eval x = vx at hvx
  generalize hey : a.eval y = vy at hvy
  obtain ⟨n1, n2, n3⟩ := cells_rel hvy hn
  obtain ⟨S', q1, q2, q3⟩ := view_sound h.core hvy hv
  have hpc := pcells_rel hvy hn hv q3
  have h' : Rel cx ρ S' ⟨st.T, L, O⟩ a w := h.core_ q1 q2
  have hob := q2.ob m
  rw [hm] at hob
  obtain ⟨xs, r1, r2, r3, r4, r5⟩ := hob
  cases hvx with
  | @el _ _ _ _ g hb =>
    have hown := r1
    rcases r1.2 with ⟨e1, e2⟩ | ⟨g', cap, cur, e1, _, hg, hnc, hcm, hcs, htake⟩
    · omega
    · have hgg : g' = g := by
        have := r2.symm.trans hb
        rw [e1] at this
        simpa [Value.ownBlock] using this
      subst hgg
      have hS : ∀ o, ¬ S' g' o := fun o' q => by
        obtain ⟨e', s', bb, es', p1, _⟩ := q2.ss m g' o' (by rw [hm]; exact fun q => by cases q) hb q
        rw [hm] at p1; injection p1 with _ _ _ p4; cases p4
      have hidx : j * s + s ≤ cur.size := by
        rw [hcs, ← Nat.succ_mul]; exact Nat.mul_le_mul_right _ (by omega)
      have hjs : j * s + s ≤ es.length * s := by rw [← Nat.succ_mul]; exact Nat.mul_le_mul_right _ hj
      have hesz : es.length * s ≤ cur.size := by rw [hcs]; exact Nat.mul_le_mul_right _ hnc
      have hlen : (j * s + off) + vy.cells.size ≤ cur.size := by omega
      have hrun := run_storeAt (P := P) (w := w) (off := j * s + off) hz n1 n2 hg (by omega)
      have hc : ∀ b' o', S' b' o' → (w.setRow g' (newCells cur vy.cells (j * s + off))).cell? ⟨b', o', none⟩ = w.cell? ⟨b', o', none⟩ := fun b' o' q => cell_heap (setRow_heap_ne w g' _ b' (fun e => hS o' (e ▸ q)))
      have hheap := setRow_heap w g' cur (newCells cur vy.cells (j * s + off)) e (0, 0) hg
      have hlx : xs.length = es.length * s := r1.1
      refine .inl ⟨undef, _, ρ, S', .inr ⟨run_store_ ho (by rw [hex, hey]; exact hrun), rfl⟩, h'.stored (st := ⟨st.T, L, O⟩) (by rw [hm]; exact fun q => by cases q) hb hg hS _ _ ?_ (fun _ => by rw [hm]; rfl), .un⟩
      have hl2 : (setEl es j s off (P.cellsOf t) xv).length = es.length := by simp [setEl]
      have hgetN : ∀ k, k < es.length * s → ((newCells cur vy.cells (j * s + off)).toList.take (es.length * s)).getD k undef = if j * s + off ≤ k ∧ k < j * s + off + P.cellsOf t then vy.cells.getD (k - (j * s + off)) undef else xs.getD k undef := by
        intro k hk
        have e3 : ((newCells cur vy.cells (j * s + off)).toList.take (es.length * s)).getD k undef = (newCells cur vy.cells (j * s + off)).getD k undef := by
          rw [← getD_toList]
          simp only [List.getD_eq_getElem?_getD, List.getElem?_take, hk, if_true]
        rw [e3, newCells_get _ _ _ hlen k (by omega), n1]
        split
        · rfl
        · rw [← htake, ← getD_toList]
          simp only [List.getD_eq_getElem?_getD, List.getElem?_take, hk, if_true]
      refine ⟨(newCells cur vy.cells (j * s + off)).toList.take (es.length * s), ?_, r2, r3, ?_, ?_⟩
      · rw [hl2]
        refine ⟨?_, .inr ⟨g', cap, newCells cur vy.cells (j * s + off), e1, Nat.zero_le _, hheap, hnc, hcm, by rw [newCells_size _ _ _ hlen]; exact hcs, rfl⟩⟩
        have := newCells_size cur vy.cells (j * s + off) hlen
        have hcl : (newCells cur vy.cells (j * s + off)).toList.length = (newCells cur vy.cells (j * s + off)).size := by simp
        rw [List.length_take, hcl]; omega
      · intro u hu
        obtain ⟨k, hk, rfl⟩ := List.getElem_of_mem hu
        have hk' : k < es.length * s := by rw [List.length_take] at hk; omega
        have := hgetN k hk'
        rw [List.getD_eq_getElem?_getD, List.getElem?_eq_getElem hk] at this
        simp only [Option.getD_some] at this
        rw [this]
        split
        · exact n2 _ (by omega)
        · refine r4 _ ?_
          rw [List.getD_eq_getElem?_getD, List.getElem?_eq_getElem (by omega)]
          exact List.getElem_mem _
      · intro i k hi hk
        rw [hl2] at hi
        have hik : i * s + k < es.length * s := by
          have : i * s + s ≤ es.length * s := by rw [← Nat.succ_mul]; exact Nat.mul_le_mul_right _ hi
          omega
        rw [hgetN _ hik]
        have hold := (r5 i k hi hk).keep (S' := S') (w' := w.setRow g' (newCells cur vy.cells (j * s + off))) (fun _ _ q => q) hc
        by_cases hij : i = j
        · subst hij
          have e4 : (setEl es i s off (P.cellsOf t) xv).getD i [] = if P.cellsOf t = s then pcells xv else mixP s off (P.cellsOf t) (es.getD i []) (pcells xv) := by
            simp [setEl, List.getD_eq_getElem?_getD, hi]
          rw [e4]
          split
          · rename_i hfull
            have hoff : off = 0 := by omega
            subst hoff
            rw [if_pos (by omega), show i * s + k - (i * s + 0) = k from by omega]
            exact (hpc k (by omega)).keep (fun _ _ q => q) hc
          · rw [mixP_get _ _ _ _ _ _ hk]
            by_cases hin : off ≤ k ∧ k < off + P.cellsOf t
            · rw [if_pos hin, if_pos (by omega), show i * s + k - (i * s + off) = k - off from by omega]
              exact (hpc _ (by omega)).keep (fun _ _ q => q) hc
            · rw [if_neg hin, if_neg (by omega)]
              exact hold
        · have e4 : (setEl es j s off (P.cellsOf t) xv).getD i [] = es.getD i [] := by
            simp only [setEl, List.getD_eq_getElem?_getD]
            rw [List.getElem?_set_ne (fun q => hij q.symm)]
          rw [e4]
          have hne : ¬ (j * s + off ≤ i * s + k ∧ i * s + k < j * s + off + P.cellsOf t) := by
            rintro ⟨p1, p2⟩
            rcases Nat.lt_or_gt_of_ne hij with q | q
            · have : i * s + s ≤ j * s := by rw [← Nat.succ_mul]; exact Nat.mul_le_mul_right _ q
              omega
            · have : j * s + s ≤ i * s := by rw [← Nat.succ_mul]; exact Nat.mul_le_mul_right _ q
              omega
          rw [if_neg hne]
          exact hold
theorem ok_store (h : Rel cx ρ S st a w) {t : TypeId} {x y : Operand} (ho : o.op = .store t x y) (hz : P.cellsOf t ≠ 0) {st' : St} (hd : storeD P st t (opd P st 0 x) (opd P st t y) some = some st') : StepOK P cx o a w ud st' := by
  unfold storeD at hd
  split at hd
  · rename_i hn
    split at hd
    · rename_i m off hx
      split at hd
      · rename_i ob' hs
        injection hd with hd; subst hd
        exact storeBox_sound h ho hz hx hn hs
      · cases hd
    · rename_i m j s off hx
      split at hd
      · rename_i xv L O hv
        split at hd
        · rename_i e s' b es hm
          split at hd
          · rename_i hc
            obtain ⟨rfl, hj⟩ := hc
            split at hd
            · rename_i hle
              injection hd with hd; subst hd
              exact storeEl_sound h ho hz hx hn hv hm hj hle
            · cases hd
          · cases hd
        · cases hd
      · cases hd
    · cases hd
  · cases hd
end Go.Proofs.YtopogjafbmlfgaaDoor.Dm
