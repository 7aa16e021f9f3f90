/- The machine over plain data and memory: stores, append. -/
import Derived.Test.YtmnoibkdmeajpaaGreatDm9
namespace Go.Proofs.YtmnoibkdmeajpaaGreat.Dm
set_option linter.unusedSectionVars false
open Go.RowKit
set_option linter.unusedVariables false
set_option linter.unusedSimpArgs false
variable [Cfg] {P : Program} {cx : Cx} {ρ : Nm → Rz} {S : Nat → Nat → Prop} {w : World} {st : St} {a : Act} {o : Oper} {d : Dv}
def newCells (cur vs : Array Value) (off : Nat) : Array Value := (cur.toList.take off ++ vs.toList ++ cur.toList.drop (off + vs.size)).toArray
theorem newCells_size (cur vs : Array Value) (off : Nat) (h : off + vs.size ≤ cur.size) : (newCells cur vs off).size = cur.size := by
 simp [newCells]; omega
theorem newCells_get (cur vs : Array Value) (off : Nat) (h : off + vs.size ≤ cur.size) (j : Nat) (hj : j < cur.size) : (newCells cur vs off).getD j undef = if off ≤ j ∧ j < off + vs.size then vs.getD (j - off) undef else cur.getD j undef := by
 have hl : (cur.toList.take off).length = off := by simp; omega
 unfold newCells
 rw [← getD_toList, ← getD_toList, ← getD_toList]
 simp only [List.getD_eq_getElem?_getD]
 by_cases h1 : j < off
 ·rw [List.append_assoc, List.getElem?_append_left (by omega), List.getElem?_take, if_pos h1, if_neg (by omega)]
 ·rw [List.append_assoc, List.getElem?_append_right (by omega), hl]
  by_cases h2 : j < off + vs.size
  ·rw [List.getElem?_append_left (by simp; omega), if_pos ⟨by omega, h2⟩]
  ·rw [List.getElem?_append_right (by simp; omega), if_neg (by omega), List.getElem?_drop]
   congr 2
   simp; omega
theorem run_storeAt {t : TypeId} {g off : Nat} {cur : Array Value} {ty : TypeId} {v : Value} (hz : P.cellsOf t ≠ 0) (hn : v.cells.size = P.cellsOf t) (h1 : ∀ j, j < P.cellsOf t → (v.cells.getD j undef).oneCell' = true) (hg : w.heap[g]? = some (.cells cur ty (0, 0))) (hle : off + P.cellsOf t ≤ cur.size) :
 (Instr.storeAt t (.pointer (some ⟨g, off, none⟩)) v).run P w = .ok () (w.setRow g (newCells cur v.cells off)) := by
 unfold Instr.storeAt
 simp only [Instr.sureAddr, Sem.run_bind, Sem.run_pure, Result.andThen_ok]
 unfold storeVar
 rw [Sem.run_bind, run_sizeOf_ hz, Result.andThen_ok, if_neg (by simp [hn])]
 have := run_storeCells_at P g off ty v.cells.toList 0 cur w hg (by simp; omega) (by
  intro u hu
  obtain ⟨i, hi, rfl⟩ := List.getElem_of_mem hu
  have hi' : i < v.cells.size := by simpa using hi
  have := h1 i (by omega)
  rw [Array.getD_eq_getD_getElem?, Array.getElem?_eq_getElem hi'] at this
  simpa using this)
 simp only [Nat.add_zero, Array.length_toList] at this
 exact this
theorem setRow_heap_ne (w : World) (g : Nat) (C : Array Value) (b : Nat) (h : b ≠ g) : (w.setRow g C).heap[b]? = w.heap[b]? := setRow_other w g b C h
theorem run_store_ {t : TypeId} {x y : Operand} (ho : o.op = .store t x y) {w' : World} (h : (Instr.storeAt t (a.eval x) (a.eval y)).run P w = .ok () w') : (execOp a.eval o).run P w = .ok .skip w' := by
 unfold execOp; rw [ho]; dsimp only
 rw [Sem.run_bind, h]; rfl
theorem Rel.stored {st : St} (h : Rel cx ρ S st a w) {m : Nm} {g : Nat} {cur : Array Value} {ty : TypeId} (hl : getOb st.L st.O m ≠ .none) (hb : (ρ m).blk = some g) (hg : w.heap[g]? = some (.cells cur ty (0, 0)))
 (hS : ∀ o, ¬ S g o) (C : Array Value) (ob' : Ob) (hob : ObRel ρ S (w.setRow g C) ob' (ρ m)) (hia : isArr ob' = true → isArr (getOb st.L st.O m) = true) (hio : isO ob' = true → isO (getOb st.L st.O m) = true) :
 Rel cx ρ S ⟨st.T, setL st.L m ob', setO st.O m ob'⟩ a (w.setRow g C) := by
 have hc : ∀ b o, S b o → (w.setRow g C).cell? ⟨b, o, none⟩ = w.cell? ⟨b, o, none⟩ := fun b o q => cell_heap (setRow_heap_ne w g C b (fun e => hS o (e ▸ q)))
 refine ⟨h.core.upd m hl ob' (by simp) rfl rfl rfl (fun b hb' hne => setRow_heap_ne w g C b (fun e => hne (e ▸ hb))) hc hob (fun b o q hs => ?_) hia hio, h.nt, h.df, fun t => (h.tm t).keep (fun _ => rfl) (fun _ _ q => q) hc⟩
 rw [hb] at q
 injection q with q
 subst q
 exact absurd hs (hS o)
theorem boxO_isArr (n : Nat) (ds : List Dv) : isArr (boxO n ds) = false := by unfold boxO; split <;> rfl
theorem boxOf_isArr (n : Nat) (d : Dv) : isArr (boxOf n d) = false := by unfold boxOf; split <;> first | rfl | exact boxO_isArr _ _
theorem storeOb_isArr {off n : Nat} {v : Dv} {x y : Ob} (h : storeOb off n v x = some y) : isArr y = false := by
 unfold storeOb at h
 split at h
 ·split at h
  ·split at h <;> (injection h with h; subst h) <;> first | exact boxOf_isArr _ _ | exact boxO_isArr _ _
  ·cases h
 ·split at h
  ·split at h <;> (injection h with h; subst h) <;> first | exact boxOf_isArr _ _ | exact boxO_isArr _ _
  ·cases h
 ·cases h
theorem storeOb_isO {off n : Nat} {v : Dv} {x y : Ob} (h : storeOb off n v x = some y) : isO y = false := by
 unfold storeOb at h
 split at h
 ·split at h
  ·split at h <;> (injection h with h; subst h) <;> first | exact isO_boxOf _ _ | exact isO_boxO _ _
  ·cases h
 ·split at h
  ·split at h <;> (injection h with h; subst h) <;> first | exact isO_boxOf _ _ | exact isO_boxO _ _
  ·cases h
 ·cases h
theorem storeBox_sound (h : Rel cx ρ S st a w) {t : TypeId} {x y : Operand} (ho : o.op = .store t x y) (hz : P.cellsOf t ≠ 0) {m : Nm} {off : Nat} (hx : opd P st 0 x = .ptr m off) (hn : sizeV (opd P st t y) = some (P.cellsOf t)) {ob' : Ob}
 (hs : storeOb off (P.cellsOf t) (opd P st t y) (getOb st.L st.O m) = some ob') : StepOK P cx o a w ud ⟨st.T, setL st.L m ob', setO st.O m ob'⟩ := by
 have hs0 := hs
 have hvx := opd_rel (P := P) h 0 x
 have hvy := opd_rel (P := P) h t y
 rw [hx] at hvx
 generalize hex : a.eval x = vx at hvx
 generalize hey : a.eval y = vy at hvy
 have hob := h.core.ob m
 obtain ⟨n1, n2, n3⟩ := cells_rel hvy hn
 have main : ∀ (c : Nat) (old : Nat → Dv) (b : Nat) (vs : Array Value) (ty : TypeId), getOb st.L st.O m ≠ .none → (∀ e s bb es, getOb st.L st.O m ≠ .arr e s bb true es) → (ρ m).blk = some b → w.heap[b]? = some (.cells vs ty (0, 0)) → vs.size = c → (∀ j, j < c → (vs.getD j undef).oneCell' = true) → (∀ j, j < c → VD ρ S w (old j) (vs.getD j undef)) →
  off + P.cellsOf t ≤ c → ob' = (if P.cellsOf t = c then boxOf (P.cellsOf t) (opd P st t y) else boxO c (mixD c off (P.cellsOf t) old (opd P st t y))) → StepOK P cx o a w ud ⟨st.T, setL st.L m ob', setO st.O m ob'⟩ := by
  intro c old b vs ty hlive hna hb hg hsz h1 h2 hle hob'
  cases hvx with
  | ptr hb' =>
   rw [hb] at hb'
   injection hb' with hb'
   subst hb'
   have hS : ∀ o, ¬ S b o := fun o' q => by
    obtain ⟨e, s, bb, es, q1, _⟩ := h.core.ss m b o' hlive hb q
    exact hna e s bb es q1
   have hrun := run_storeAt (P := P) (w := w) (off := off) hz n1 n2 hg (by omega)
   have hc : ∀ b' o', S b' o' → (w.setRow b (newCells vs vy.cells off)).cell? ⟨b', o', none⟩ = w.cell? ⟨b', o', none⟩ := fun b' o' q => cell_heap (setRow_heap_ne w b _ b' (fun e => hS o' (e ▸ q)))
   refine .inl ⟨undef, _, ρ, S, .inr ⟨.inl (run_store_ ho (by rw [hex, hey]; exact hrun)), rfl⟩, h.stored hlive hb hg hS _ ob' ?_ (fun q => absurd q (by rw [storeOb_isArr hs0]; exact Bool.noConfusion)) (fun q => absurd q (by rw [storeOb_isO hs0]; exact Bool.noConfusion)), .un⟩
   have hheap := setRow_heap w b vs (newCells vs vy.cells off) ty (0, 0) hg
   have hlen : off + vy.cells.size ≤ vs.size := by omega
   rw [hob']
   split
   ·rename_i hcc
    have hoff : off = 0 := by omega
    have hvv : newCells vs vy.cells off = vy.cells := by
     apply Array.ext'
     subst hoff
     unfold newCells
     simp; omega
    refine boxOf_rel (v := vy) (ty := ty) (hvy.keep (fun _ => rfl) (fun _ _ q => q) hc) hn hb ?_
    exact hheap.trans (congrArg (fun C => some (Obj.cells C ty)) hvv)
   ·refine boxO_rel hb hheap (by rw [newCells_size _ _ _ hlen]; exact hsz) (fun j hj => ?_) (fun j hj => ?_)
    ·rw [newCells_get _ _ _ hlen j (by omega)]
     split
     ·exact n2 _ (by omega)
     ·exact h1 j hj
    ·rw [newCells_get _ _ _ hlen j (by omega), mixD_get _ _ _ _ _ j hj, n1]
     split
     ·exact (n3 _ (by omega)).keep (fun _ => rfl) (fun _ _ q => q) hc
     ·exact (h2 j hj).keep (fun _ => rfl) (fun _ _ q => q) hc
 unfold storeOb at hs
 split at hs
 ·rename_i c cs hm
  rw [hm] at hob
  obtain ⟨b, vs, ty, q1, q2, q3, q4, q5⟩ := hob
  split at hs
  ·rename_i hle
   refine main c (fun j => .p (cs.getD j .undef)) b vs ty (by rw [hm]; exact fun q => by cases q) (fun e s bb es => by rw [hm]; exact fun q => by cases q) q1 q2 q3 q4 (fun j hj => .p (q5 j hj)) hle ?_
   split at hs <;> (rename_i hcc; injection hs with hs; subst hs)
   ·rw [if_pos hcc]
   ·rw [if_neg hcc]
  ·cases hs
 ·rename_i c ds hm
  rw [hm] at hob
  obtain ⟨b, vs, ty, q1, q2, q3, q4, q5⟩ := hob
  split at hs
  ·rename_i hle
   refine main c (fun j => ds.getD j ud) b vs ty (by rw [hm]; exact fun q => by cases q) (fun e s bb es => by rw [hm]; exact fun q => by cases q) q1 q2 q3 q4 q5 hle ?_
   split at hs <;> (rename_i hcc; injection hs with hs; subst hs)
   ·rw [if_pos hcc]
   ·rw [if_neg hcc]
  ·cases hs
 ·cases hs
theorem mixP_get (c off n : Nat) (cs ys : List Pd) (j : Nat) (hj : j < c) : (mixP c off n cs ys).getD j .undef = if off ≤ j ∧ j < off + n then ys.getD (j - off) .undef else cs.getD j .undef := by
 simp [mixP, List.getD_eq_getElem?_getD, hj]
theorem storeEl_sound (h : Rel cx ρ S st a w) {t : TypeId} {x y : Operand} (ho : o.op = .store t x y) (hz : P.cellsOf t ≠ 0) {m : Nm} {j s off e b : Nat} {es : List (List Pd)} (hx : opd P st 0 x = .el m j s off) (hn : sizeV (opd P st t y) = some (P.cellsOf t)) {xv : Pd} {L O : List Ob}
 (hv : view st.L st.O (opd P st t y) = some (xv, L, O)) (hm : getOb L O m = .arr e s b false es) (hj : j < es.length) (hle : off + P.cellsOf t ≤ s) :
 StepOK P cx o a w ud ⟨st.T, setL L m (.arr e s b false (setEl es j s off (P.cellsOf t) xv)), setO O m (.arr e s b false (setEl es j s off (P.cellsOf t) xv))⟩ := by
 have hvx := opd_rel (P := P) h 0 x
 have hvy := opd_rel (P := P) h t y
 rw [hx] at hvx
 generalize hex : a.eval x = vx at hvx
 generalize hey : a.eval y = vy at hvy
 obtain ⟨n1, n2, n3⟩ := cells_rel hvy hn
 obtain ⟨S', q1, q2, q3⟩ := view_sound h.core hvy hv
 have hpc := pcells_rel hvy hn hv q3
 have h' : Rel cx ρ S' ⟨st.T, L, O⟩ a w := h.core_ q1 q2
 have hob := q2.ob m
 rw [hm] at hob
 obtain ⟨xs, r1, r2, r3, r4, r5⟩ := hob
 cases hvx with
 | @el _ _ _ _ g hb =>
  have hown := r1
  rcases r1.2 with ⟨e1, e2⟩ | ⟨g', cap, cur, e1, _, hg, hnc, hcm, hcs, htake⟩
  ·omega
  ·have hgg : g' = g := by
    have := r2.symm.trans hb
    rw [e1] at this
    simpa [Value.ownBlock] using this
   subst hgg
   have hS : ∀ o, ¬ S' g' o := fun o' q => by
    obtain ⟨e', s', bb, es', p1, _⟩ := q2.ss m g' o' (by rw [hm]; exact fun q => by cases q) hb q
    rw [hm] at p1; injection p1 with _ _ _ p4; cases p4
   have hidx : j * s + s ≤ cur.size := by
    rw [hcs, ← Nat.succ_mul]; exact Nat.mul_le_mul_right _ (by omega)
   have hjs : j * s + s ≤ es.length * s := by rw [← Nat.succ_mul]; exact Nat.mul_le_mul_right _ hj
   have hesz : es.length * s ≤ cur.size := by rw [hcs]; exact Nat.mul_le_mul_right _ hnc
   have hlen : (j * s + off) + vy.cells.size ≤ cur.size := by omega
   have hrun := run_storeAt (P := P) (w := w) (off := j * s + off) hz n1 n2 hg (by omega)
   have hc : ∀ b' o', S' b' o' → (w.setRow g' (newCells cur vy.cells (j * s + off))).cell? ⟨b', o', none⟩ = w.cell? ⟨b', o', none⟩ := fun b' o' q => cell_heap (setRow_heap_ne w g' _ b' (fun e => hS o' (e ▸ q)))
   have hheap := setRow_heap w g' cur (newCells cur vy.cells (j * s + off)) e (0, 0) hg
   have hlx : xs.length = es.length * s := r1.1
   refine .inl ⟨undef, _, ρ, S', .inr ⟨.inl (run_store_ ho (by rw [hex, hey]; exact hrun)), rfl⟩, h'.stored (st := ⟨st.T, L, O⟩) (by rw [hm]; exact fun q => by cases q) hb hg hS _ _ ?_ (fun _ => by rw [hm]; rfl) (fun q => by cases q), .un⟩
   have hl2 : (setEl es j s off (P.cellsOf t) xv).length = es.length := by simp [setEl]
   have hgetN : ∀ k, k < es.length * s → ((newCells cur vy.cells (j * s + off)).toList.take (es.length * s)).getD k undef = if j * s + off ≤ k ∧ k < j * s + off + P.cellsOf t then vy.cells.getD (k - (j * s + off)) undef else xs.getD k undef := by
    intro k hk
    have e3 : ((newCells cur vy.cells (j * s + off)).toList.take (es.length * s)).getD k undef = (newCells cur vy.cells (j * s + off)).getD k undef := by
     rw [← getD_toList]
     simp only [List.getD_eq_getElem?_getD, List.getElem?_take, hk, if_true]
    rw [e3, newCells_get _ _ _ hlen k (by omega), n1]
    split
    ·rfl
    ·rw [← htake, ← getD_toList]
     simp only [List.getD_eq_getElem?_getD, List.getElem?_take, hk, if_true]
   refine ⟨(newCells cur vy.cells (j * s + off)).toList.take (es.length * s), ?_, r2, r3, ?_, ?_⟩
   ·rw [hl2]
    refine ⟨?_, .inr ⟨g', cap, newCells cur vy.cells (j * s + off), e1, Nat.zero_le _, hheap, hnc, hcm, by rw [newCells_size _ _ _ hlen]; exact hcs, rfl⟩⟩
    have := newCells_size cur vy.cells (j * s + off) hlen
    have hcl : (newCells cur vy.cells (j * s + off)).toList.length = (newCells cur vy.cells (j * s + off)).size := by simp
    rw [List.length_take, hcl]; omega
   ·intro u hu
    obtain ⟨k, hk, rfl⟩ := List.getElem_of_mem hu
    have hk' : k < es.length * s := by rw [List.length_take] at hk; omega
    have := hgetN k hk'
    rw [List.getD_eq_getElem?_getD, List.getElem?_eq_getElem hk] at this
    simp only [Option.getD_some] at this
    rw [this]
    split
    ·exact n2 _ (by omega)
    ·refine r4 _ ?_
     rw [List.getD_eq_getElem?_getD, List.getElem?_eq_getElem (by omega)]
     exact List.getElem_mem _
   ·intro i k hi hk
    rw [hl2] at hi
    have hik : i * s + k < es.length * s := by
     have : i * s + s ≤ es.length * s := by rw [← Nat.succ_mul]; exact Nat.mul_le_mul_right _ hi
     omega
    rw [hgetN _ hik]
    have hold := (r5 i k hi hk).keep (S' := S') (w' := w.setRow g' (newCells cur vy.cells (j * s + off))) (fun _ _ q => q) hc
    by_cases hij : i = j
    ·subst hij
     have e4 : (setEl es i s off (P.cellsOf t) xv).getD i [] = if P.cellsOf t = s then pcells xv else mixP s off (P.cellsOf t) (es.getD i []) (pcells xv) := by
      simp [setEl, List.getD_eq_getElem?_getD, hi]
     rw [e4]
     split
     ·rename_i hfull
      have hoff : off = 0 := by omega
      subst hoff
      rw [if_pos (by omega), show i * s + k - (i * s + 0) = k from by omega]
      exact (hpc k (by omega)).keep (fun _ _ q => q) hc
     ·rw [mixP_get _ _ _ _ _ _ hk]
      by_cases hin : off ≤ k ∧ k < off + P.cellsOf t
      ·rw [if_pos hin, if_pos (by omega), show i * s + k - (i * s + off) = k - off from by omega]
       exact (hpc _ (by omega)).keep (fun _ _ q => q) hc
      ·rw [if_neg hin, if_neg (by omega)]
       exact hold
    ·have e4 : (setEl es j s off (P.cellsOf t) xv).getD i [] = es.getD i [] := by
      simp only [setEl, List.getD_eq_getElem?_getD]
      rw [List.getElem?_set_ne (fun q => hij q.symm)]
     rw [e4]
     have hne : ¬ (j * s + off ≤ i * s + k ∧ i * s + k < j * s + off + P.cellsOf t) := by
      rintro ⟨p1, p2⟩
      rcases Nat.lt_or_gt_of_ne hij with q | q
      ·have : i * s + s ≤ j * s := by rw [← Nat.succ_mul]; exact Nat.mul_le_mul_right _ q
       omega
      ·have : j * s + s ≤ i * s := by rw [← Nat.succ_mul]; exact Nat.mul_le_mul_right _ q
       omega
     rw [if_neg hne]
     exact hold
theorem setCs_get {es : List (List Pd)} {j s off n : Nat} {xs : List Pd} (hj : j < es.length) (hle : off + n ≤ s) (i k : Nat) (hk : k < s) :
 ((setCs es j s off n xs).getD i []).getD k .undef = if i = j ∧ off ≤ k ∧ k < off + n then xs.getD (k - off) .undef else (es.getD i []).getD k .undef := by
 by_cases hij : i = j
 ·subst hij
  have e4 : (setCs es i s off n xs).getD i [] = if n = s then xs else mixP s off n (es.getD i []) xs := by
   simp [setCs, List.getD_eq_getElem?_getD, hj]
  rw [e4]
  split
  ·have : off = 0 := by omega
   subst this
   rw [if_pos ⟨rfl, by omega, by omega⟩, Nat.sub_zero]
  ·rw [mixP_get _ _ _ _ _ _ hk]
   by_cases hin : off ≤ k ∧ k < off + n
   ·rw [if_pos hin, if_pos ⟨rfl, hin⟩]
   ·rw [if_neg hin, if_neg fun q => hin q.2]
 ·have e4 : (setCs es j s off n xs).getD i [] = es.getD i [] := by
   simp only [setCs, List.getD_eq_getElem?_getD]
   rw [List.getElem?_set_ne (fun q => hij q.symm)]
  rw [e4, if_neg fun q => hij q.1]
theorem setCs_len {es : List (List Pd)} {j s off n : Nat} {xs : List Pd} : (setCs es j s off n xs).length = es.length := by simp [setCs]
theorem VO_store {K : Nat → Nat → Prop} {fp Q : Nat → Prop} {e s g cap j off n : Nat} {es : List (List Pd)} {tip vy : Value} {xs : List Value} {cur : Array Value} {ps : List Pd} {f fq : Nat → Nat}
 (g0 : 0 < s) (g1 : w.ownsRow 0 e s tip es.length xs) (g2 : ∀ b, tip.ownBlock = some b → fp b) (g3 : ∀ u ∈ xs, u.oneCell' = true)
 (g4 : ∀ i j, i < es.length → j < s → VO K w (fun k => fp k ∧ tip.ownBlock ≠ some k ∧ f k = i * s + j) ((es.getD i []).getD j .undef) (xs.getD (i * s + j) undef))
 (hv : tip = .slice (some ⟨g, 0, none⟩) es.length cap) (hg : w.heap[g]? = some (.cells cur e (0, 0))) (hnc : es.length ≤ cap) (hcm : cap ≤ maxLen) (hcs : cur.size = cap * s) (htake : cur.toList.take (es.length * s) = xs)
 (hj : j < es.length) (hle : off + n ≤ s) (n1 : vy.cells.size = n) (n2 : ∀ j, j < n → (vy.cells.getD j undef).oneCell' = true) 
 (hq : ∀ j, j < n → VO K w (fun k => Q k ∧ fq k = j) (ps.getD j .undef) (vy.cells.getD j undef)) (hdis : ∀ k, Q k → ¬ fp k) (hc : ∀ b' o', K b' o' → (w.setRow g (newCells cur vy.cells (j * s + off))).cell? ⟨b', o', none⟩ = w.cell? ⟨b', o', none⟩) :
 VO K (w.setRow g (newCells cur vy.cells (j * s + off))) (fun k => fp k ∨ Q k) (.ow e s (setCs es j s off n ps)) tip ∧
  ∀ k, k < es.length * s → (w.setRow g (newCells cur vy.cells (j * s + off))).cell? ⟨g, k, none⟩ = some ((newCells cur vy.cells (j * s + off)).getD k undef) := by
 have hjs : j * s + s ≤ es.length * s := by rw [← Nat.succ_mul]; exact Nat.mul_le_mul_right _ hj
 have hesz : es.length * s ≤ cur.size := by rw [hcs]; exact Nat.mul_le_mul_right _ hnc
 have hlen : (j * s + off) + vy.cells.size ≤ cur.size := by omega
 have hheap := setRow_heap w g cur (newCells cur vy.cells (j * s + off)) e (0, 0) hg
 have hob : tip.ownBlock = some g := by rw [hv]; rfl
 have hgetN : ∀ k, k < es.length * s → ((newCells cur vy.cells (j * s + off)).toList.take (es.length * s)).getD k undef = if j * s + off ≤ k ∧ k < j * s + off + n then vy.cells.getD (k - (j * s + off)) undef else xs.getD k undef := by
  intro k hk
  have e3 : ((newCells cur vy.cells (j * s + off)).toList.take (es.length * s)).getD k undef = (newCells cur vy.cells (j * s + off)).getD k undef := by
   rw [← getD_toList]
   simp only [List.getD_eq_getElem?_getD, List.getElem?_take, hk, if_true]
  rw [e3, newCells_get _ _ _ hlen k (by omega), n1]
  split
  ·rfl
  ·rw [← htake, ← getD_toList]
   simp only [List.getD_eq_getElem?_getD, List.getElem?_take, hk, if_true]
 have hlx : xs.length = es.length * s := g1.1
 have hsz := newCells_size cur vy.cells (j * s + off) hlen
 obtain ⟨h, fa, fb⟩ := two_parts (A := Q) (B := fp) hdis (fun k => j * s + off + fq k) f
 refine ⟨.ow ((newCells cur vy.cells (j * s + off)).toList.take (es.length * s)) h g0 ?_ (fun b q => .inl (g2 b q)) ?_ ?_, fun k hk => ?_⟩
 ·rw [setCs_len]
  refine ⟨?_, .inr ⟨g, cap, newCells cur vy.cells (j * s + off), hv, Nat.zero_le _, hheap, hnc, hcm, by rw [hsz]; exact hcs, rfl⟩⟩
  have hcl : (newCells cur vy.cells (j * s + off)).toList.length = (newCells cur vy.cells (j * s + off)).size := by simp
  rw [List.length_take, hcl]; omega
 ·intro u hu
  obtain ⟨k, hk, rfl⟩ := List.getElem_of_mem hu
  have hk' : k < es.length * s := by rw [List.length_take] at hk; omega
  have := hgetN k hk'
  rw [List.getD_eq_getElem?_getD, List.getElem?_eq_getElem hk] at this
  simp only [Option.getD_some] at this
  rw [this]
  split
  ·exact n2 _ (by omega)
  ·refine g3 _ ?_
   rw [List.getD_eq_getElem?_getD, List.getElem?_eq_getElem (by omega)]
   exact List.getElem_mem _
 ·intro i k hi hk
  rw [setCs_len] at hi
  rw [hgetN _ (idx_lt hi hk), setCs_get hj hle i k hk]
  have hkey : (i = j ∧ off ≤ k ∧ k < off + n) ↔ (j * s + off ≤ i * s + k ∧ i * s + k < j * s + off + n) := by
   constructor
   ·rintro ⟨rfl, a, b⟩; omega
   ·rintro ⟨a, b⟩
    have hij : i = j := by
     rcases Nat.lt_trichotomy i j with q | q | q
     ·have : i * s + s ≤ j * s := by rw [← Nat.succ_mul]; exact Nat.mul_le_mul_right _ q
      omega
     ·exact q
     ·have : j * s + s ≤ i * s := by rw [← Nat.succ_mul]; exact Nat.mul_le_mul_right _ q
      omega
    subst hij
    omega
  by_cases hin : i = j ∧ off ≤ k ∧ k < off + n
  ·rw [if_pos hin, if_pos (hkey.1 hin)]
   obtain ⟨rfl, a, b⟩ := hin
   have e1 : i * s + k - (i * s + off) = k - off := by omega
   rw [e1]
   refine ((hq (k - off) (by omega)).keep (fun _ _ q => q) hc fun b q => setRow_heap_ne w g _ b fun e => ?_).mono fun b q => ⟨.inr q.1, fun q2 => hdis b q.1 (g2 b q2), by rw [fa b q.1, q.2]; omega⟩
   exact hdis b q.1 (e ▸ g2 g hob)
  ·rw [if_neg hin, if_neg fun q => hin (hkey.2 q)]
   refine ((g4 i k hi hk).keep (fun _ _ q => q) hc fun b q => setRow_heap_ne w g _ b fun e => ?_).mono fun b q => ⟨.inl q.1, q.2.1, by rw [fb b q.1]; exact q.2.2⟩
   exact q.2.1 (e ▸ hob)
 ·rw [cell_of_row _ g k _ e (0, 0) hheap]
  have : k < (newCells cur vy.cells (j * s + off)).size := by omega
  simp [Array.getD_eq_getD_getElem?, this]
theorem VP.isOwP {x : Pd} {v : Value} (h : VP S w x v) : isOwP x = false := by cases h <;> rfl
theorem goodNs_get {m : Nm} {ns : List Nm} (h : goodNs m ns = true) : isLoc m = true ∧ (∀ n ∈ ns, isLoc n = true) ∧ nodupN ns = true ∧ m ∉ ns := by
 simp only [goodNs, Bool.and_eq_true, Bool.not_eq_true', List.all_eq_true] at h
 refine ⟨h.1, h.2.1, h.2.2.1, fun q => ?_⟩
 have := h.2.2.2
 rw [List.contains_eq_mem, decide_eq_false_iff_not] at this
 exact this q
theorem storeOw_sound (h : Rel cx ρ S st a w) {t : TypeId} {x y : Operand} (ho : o.op = .store t x y) (hz : P.cellsOf t ≠ 0) {m : Nm} {j s off e : Nat} {es : List (List Pd)} (hx : opd P st 0 x = .el m j s off) (hn : sizeV (opd P st t y) = some (P.cellsOf t))
 (hm : getOb st.L st.O m = .oarr e s es) (hj : j < es.length) (hle : off + P.cellsOf t ≤ s) {st' : St}
 (hd : (match opd P st t y with
  | .p x => if (pcells x).all scalPd = true then some { st with L := setL st.L m (.oarr e s (setCs es j s off (P.cellsOf t) (pcells x))), O := setO st.O m (.oarr e s (setCs es j s off (P.cellsOf t) (pcells x))) } else none
  | v => match packV false P st.L st.O t v with
   | some (xs, ns) => if goodNs m ns = true then
    some ⟨st.T.map (scrubS m), setL ((rmAll ns st.L).map (scrubObS m)) m (.oarr e s (setCs es j s off (P.cellsOf t) xs)), st.O.map (scrubObS m)⟩ else none
   | none => none) = some st') : StepOK P cx o a w ud st' := by
 have hvx := opd_rel (P := P) h 0 x
 have hvy := opd_rel (P := P) h t y
 rw [hx] at hvx
 generalize hex : a.eval x = vx at hvx
 generalize hey : a.eval y = vy at hvy
 obtain ⟨n1, n2, n3⟩ := cells_rel hvy hn
 have hob := h.core.ob m
 rw [hm] at hob
 obtain ⟨o1, o2, o3, o4⟩ := hob
 have hO : isO (getOb st.L st.O m) = true := by rw [hm]; rfl
 have hl : getOb st.L st.O m ≠ .none := by rw [hm]; exact fun q => by cases q
 cases o3 with
 | p o3 => cases o3
 | ow xs f g0 g1 g2 g3 g4 =>
 cases hvx with
 | @el _ _ _ _ g hb =>
 rcases g1.2 with ⟨e1, e2⟩ | ⟨g', cap, cur, e1, _, hg, hnc, hcm, hcs, htake⟩
 ·omega
 have hgg : g' = g := by
  have := o1.symm.trans hb
  rw [e1] at this
  simpa [Value.ownBlock] using this
 subst hgg
 have hS : ∀ o, ¬ S g' o := (h.core.fp m g' hO (g2 g' (o1.symm.trans hb))).2.2
 have hesz : es.length * s ≤ cur.size := by rw [hcs]; exact Nat.mul_le_mul_right _ hnc
 have hjs : j * s + s ≤ es.length * s := by rw [← Nat.succ_mul]; exact Nat.mul_le_mul_right _ hj
 have hrun := run_storeAt (P := P) (w := w) (off := j * s + off) hz n1 n2 hg (by omega)
 have hc : ∀ b' o', S b' o' → (w.setRow g' (newCells cur vy.cells (j * s + off))).cell? ⟨b', o', none⟩ = w.cell? ⟨b', o', none⟩ := fun b' o' q => cell_heap (setRow_heap_ne w g' _ b' (fun e => hS o' (e ▸ q)))
 have hrun' : (execOp a.eval o).run P w = .ok .skip (w.setRow g' (newCells cur vy.cells (j * s + off))) := run_store_ ho (by rw [hex, hey]; exact hrun)
 split at hd
 ·rename_i xp hxp
  split at hd
  case isFalse => cases hd
  rename_i hok
  injection hd with hd; subst hd
  rw [hxp] at hvy hn
  have hpc := pcells_rel (L := []) (O := []) (L' := []) (O' := []) hvy hn rfl hvy.pd
  obtain ⟨r1, r2⟩ := VO_store (Q := fun _ => False) (ps := pcells xp) (vy := vy) (n := P.cellsOf t) (off := off) (j := j) (fq := fun _ => 0) g0 g1 g2 g3 g4 e1 hg hnc hcm hcs htake hj hle n1 n2 (fun j hj => .p ((hpc j hj).to0 (scal_getD hok j))) (fun k q => q.elim) (fun _ _ q => q.elim)
  refine .inl ⟨undef, _, ρ, S, .inr ⟨.inl hrun', rfl⟩, h.stored hl hb hg hS _ _ ⟨o1, o2, r1.mono fun k q => q.elim id False.elim, fun i k b hi hk hio hb' => ?_⟩ (fun q => by cases q) (fun _ => hO), .un⟩
  rw [setCs_len] at hi
  rw [hb] at hb'; injection hb' with hb'; subst hb'
  rw [setCs_get hj hle i k hk] at hio
  split at hio
  ·rw [(hpc _ (by omega)).isOwP] at hio; cases hio
  ·rename_i hne
   have hold := o4 i k g' hi hk hio hb
   have hlt := idx_lt hi hk
   rw [← hold, r2 _ hlt, cell_of_row _ g' _ _ e (0, 0) hg]
   rw [newCells_get _ _ _ (by omega) _ (by omega), if_neg, Array.getD_eq_getD_getElem?]
   ·have : i * s + k < cur.size := by omega
    simp [this]
   ·rw [n1]
    rintro ⟨p1, p2⟩
    refine hne ?_
    rcases Nat.lt_trichotomy i j with q | q | q
    ·have : i * s + s ≤ j * s := by rw [← Nat.succ_mul]; exact Nat.mul_le_mul_right _ q
     omega
    ·subst q; omega
    ·have : j * s + s ≤ i * s := by rw [← Nat.succ_mul]; exact Nat.mul_le_mul_right _ q
     omega
 ·split at hd
  ·rename_i ps ns hp
   split at hd
   ·rename_i hgood
    injection hd with hd; subst hd
    obtain ⟨k1, k2, k3, k4⟩ := goodNs_get hgood
    obtain ⟨fq, hfq⟩ := packV_sound h.core hvy hn hp k3
    have hdis : ∀ k, OwnSet st.L st.O ρ ns k → ¬ (ρ m).fp k := fun k ⟨n', q1, q2⟩ q3 => (((h.core.ownAt q2).2 m hl (fun q => k4 (q ▸ q1))).2 hO) q3
    obtain ⟨r1, r2⟩ := VO_store (Q := OwnSet st.L st.O ρ ns) (ps := ps) (vy := vy) (n := P.cellsOf t) (off := off) (j := j) (fq := fq) g0 g1 g2 g3 g4 e1 hg hnc hcm hcs htake hj hle n1 n2 (fun j hj => (hfq j hj).ofX) hdis (fun _ _ q => q.elim)
    refine .inl ⟨undef, _, fun n => if n = m then ⟨(ρ m).blk, (ρ m).tip, fun k => (ρ m).fp k ∨ OwnSet st.L st.O ρ ns k, fun k => (newCells cur vy.cells (j * s + off)).getD k undef⟩ else ρ n, S, .inr ⟨.inl hrun', rfl⟩, ⟨?_, h.nt, h.df, fun t' => ?_⟩, .un⟩
    ·refine h.core.putO k1 k2 k4 _ (scrubObS m) (fun w o z q => q.scrubS_ (fun n hn => if_neg hn) (by simp) (by simp)) rfl (fun o q => ?_) (fun o => ?_) (fun o => ?_) (fun o e s b es q => ?_) (by simp) rfl rfl rfl (fun b hb' hne => setRow_heap_ne w g' _ b fun q => ?_) hc ⟨o1, o2, r1, fun i k b hi hk hio hb' => ?_⟩ (fun k q => ?_)
     ·cases o <;> first | rfl | cases q
     ·cases o <;> rfl
     ·cases o <;> rfl
     ·subst q; rfl
     ·exact (hne m (.inl rfl) hl).1 (q ▸ hb)
     ·rw [setCs_len] at hi
      have hb' : (ρ m).blk = some b := hb'
      rw [hb] at hb'; injection hb' with hb'; subst hb'
      exact r2 _ (idx_lt hi hk)
     ·rcases q with q | ⟨n', q1, q2⟩
      ·exact .inr ⟨m, .inl rfl, .inl ⟨hO, q⟩⟩
      ·exact .inr ⟨n', .inr q1, q2⟩
    ·show VD _ _ _ ((st.T.map (scrubS m)).getD t' ud) _
     rw [Tm.getD_map rfl]
     exact ((h.tm t').keep (ρ' := ρ) (fun _ => rfl) (fun _ _ q => q) hc).scrubS_ (fun n hn => if_neg hn) (by simp) (by simp)
   ·cases hd
  ·cases hd
theorem ok_store (h : Rel cx ρ S st a w) {t : TypeId} {x y : Operand} (ho : o.op = .store t x y) (hz : P.cellsOf t ≠ 0) {st' : St} (hd : storeD P st t (opd P st 0 x) (opd P st t y) some = some st') : StepOK P cx o a w ud st' := by
 rw [storeD_eq] at hd
 split at hd
 ·rename_i hn
  split at hd
  ·rename_i m off hx
   split at hd
   ·rename_i ob' hs
    injection hd with hd; subst hd
    exact storeBox_sound h ho hz hx hn hs
   ·cases hd
  ·rename_i m j s off hx
   split at hd
   ·rename_i e s' es hm
    split at hd
    ·rename_i hc
     obtain ⟨rfl, hj, hle⟩ := hc
     exact storeOw_sound h ho hz hx hn hm hj hle hd
    ·cases hd
   ·split at hd
    ·rename_i xv L O hv
     split at hd
     ·rename_i e s' b es hm
      split at hd
      ·rename_i hc
       obtain ⟨rfl, hj⟩ := hc
       split at hd
       ·rename_i hle
        injection hd with hd; subst hd
        exact storeEl_sound h ho hz hx hn hv hm hj hle
       ·cases hd
      ·cases hd
     ·cases hd
    ·cases hd
  ·cases hd
 ·cases hd
end Go.Proofs.YtmnoibkdmeajpaaGreat.Dm
