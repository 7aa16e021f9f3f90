/- The machine over plain data and memory: comparing, cutting, pointing. -/
import Derived.Test.YtmnoibkdmeajpaaGreatDm6
import Derived.Laws.StructEq
import Derived.Laws.BytesString
namespace Go.Proofs.YtmnoibkdmeajpaaGreat.Dm
set_option linter.unusedSectionVars false
open Go.RowKit
set_option linter.unusedVariables false
set_option linter.unusedSimpArgs false
variable [Cfg] {P : Program} {cx : Cx} {ρ : Nm → Rz} {S : Nat → Nat → Prop} {w : World} {st : St} {a : Act} {o : Oper} {d : Dv}
theorem run_part_ {t : TypeId} {dd : TypeDesc} (hu : P.underlying t = some dd) (hn : P.cellsOf t ≠ 0) (cs : Array Value) (off : Nat) (hle : off + P.cellsOf t ≤ cs.size) :
 (part t cs off).run P w = .ok (if isAggT P t = true then .agg (cs.extract off (off + P.cellsOf t)) else cs.getD off undef) w := by
 unfold part
 rw [Sem.run_bind, run_isAgg_ hu, Result.andThen_ok]
 cases hb : isAggT P t
 ·simp only [Bool.false_eq_true, if_false]
  have : off < cs.size := by omega
  simp [Array.getD_eq_getD_getElem?, this]
 ·simp only [if_true]
  rw [Sem.run_bind, run_sizeOf_ hn]
  rfl
theorem eqFields_sound {k D : Nat} {xs ys : List Pd} {A B : Array Value} {n : Nat} (hA : A.size = n) (hB : B.size = n)
 (h1 : ∀ j, j < n → VP S w (xs.getD j .undef) (A.getD j undef)) (h2 : ∀ j, j < n → VP S w (ys.getD j .undef) (B.getD j undef))
 (ih : ∀ (t : TypeId) (xs ys : List Pd) (A B : Array Value) (oa : Nat), oa + P.cellsOf t ≤ A.size → oa + P.cellsOf t ≤ B.size → P.cellsOf t ≠ 0 → (∀ j, j < P.cellsOf t → VP S w (xs.getD j .undef) (A.getD (oa + j) undef)) → (∀ j, j < P.cellsOf t → VP S w (ys.getD j .undef) (B.getD (oa + j) undef)) →
  ∀ b, eqCells P k t xs ys some = some b → ∃ dd, P.underlying t = some dd ∧ (Op.equalIn D t (if isAggT P t = true then .agg (A.extract oa (oa + P.cellsOf t)) else A.getD oa undef) (if isAggT P t = true then .agg (B.extract oa (oa + P.cellsOf t)) else B.getD oa undef)).run P w = .ok b w) :
 ∀ (fs : List Field) (b : Bool), eqCells.go P n fs xs ys some (eqCells P k) = some b → (Op.eqFields D A B fs).run P w = .ok b w
 | [], b, h => by simp only [eqCells.go] at h; injection h with h; subst h; rfl
 | f :: fs, b, h => by
  simp only [eqCells.go] at h
  split at h
  ·cases h
  ·rename_i hc
   rw [eqCells_bind] at h
   obtain ⟨b1, hb1, hb2⟩ := Option.bind_eq_some_iff.1 h
   have hn : f.name ≠ "_" := fun q => hc (.inl q)
   have hz : P.cellsOf f.type ≠ 0 := fun q => hc (.inr (.inl q))
   have hle : f.offset + P.cellsOf f.type ≤ n := Nat.le_of_not_lt fun q => hc (.inr (.inr q))
   obtain ⟨dd, hu, hr⟩ := ih f.type _ _ A B f.offset (by omega) (by omega) hz (fun j hj => by rw [dropC_getD]; exact h1 _ (by omega)) (fun j hj => by rw [dropC_getD]; exact h2 _ (by omega)) b1 hb1
   unfold Op.eqFields
   rw [if_pos hn, Sem.run_bind, run_part_ hu hz A f.offset (by omega), Result.andThen_ok, Sem.run_bind, run_part_ hu hz B f.offset (by omega), Result.andThen_ok, Sem.run_bind, hr, Result.andThen_ok]
   cases b1
   ·simp only [cond_false] at hb2
    injection hb2 with hb2; subst hb2
    simp
   ·simp only [cond_true] at hb2
    simp only [Bool.not_true, Bool.false_eq_true, if_false]
    exact eqFields_sound hA hB h1 h2 ih fs b hb2
theorem eqCells_sound : ∀ (k D : Nat), k ≤ D → ∀ (t : TypeId) (xs ys : List Pd) (A B : Array Value) (oa : Nat), oa + P.cellsOf t ≤ A.size → oa + P.cellsOf t ≤ B.size → P.cellsOf t ≠ 0 → (∀ j, j < P.cellsOf t → VP S w (xs.getD j .undef) (A.getD (oa + j) undef)) → (∀ j, j < P.cellsOf t → VP S w (ys.getD j .undef) (B.getD (oa + j) undef)) →
 ∀ b, eqCells P k t xs ys some = some b → ∃ dd, P.underlying t = some dd ∧ (Op.equalIn D t (if isAggT P t = true then .agg (A.extract oa (oa + P.cellsOf t)) else A.getD oa undef) (if isAggT P t = true then .agg (B.extract oa (oa + P.cellsOf t)) else B.getD oa undef)).run P w = .ok b w := by
 intro k
 induction k with
 | zero => intro D _ t xs ys A B oa _ _ _ _ _ b h; simp only [eqCells] at h; cases h
 | succ k ih =>
  intro D hD t xs ys A B oa hA hB hz h1 h2 b h
  obtain ⟨D, rfl⟩ : ∃ m, D = m + 1 := ⟨D - 1, by omega⟩
  have a1 := h1 0 (by omega)
  have a2 := h2 0 (by omega)
  rw [Nat.add_zero] at a1 a2
  unfold eqCells at h
  split at h
  ·rename_i kk hu
   obtain ⟨m, e1, h⟩ := Option.bind_eq_some_iff.1 h
   obtain ⟨m', e2, h⟩ := Option.bind_eq_some_iff.1 h
   injection h with h; subst h
   rw [asInt_eq e1] at a1; rw [asInt_eq e2] at a2
   refine ⟨_, hu, ?_⟩
   have hag : isAggT P t = false := by simp [isAggT, hu]
   simp only [hag, Bool.false_eq_true, if_false]
   generalize A.getD oa undef = va at a1 ⊢
   generalize B.getD oa undef = vb at a2 ⊢
   cases a1; cases a2
   exact run_equalIn_int w D t kk kk m m' hu
  ·rename_i hu
   obtain ⟨m, e1, h⟩ := Option.bind_eq_some_iff.1 h
   obtain ⟨m', e2, h⟩ := Option.bind_eq_some_iff.1 h
   injection h with h; subst h
   rw [asBool_eq e1] at a1; rw [asBool_eq e2] at a2
   refine ⟨_, hu, ?_⟩
   have hag : isAggT P t = false := by simp [isAggT, hu]
   simp only [hag, Bool.false_eq_true, if_false]
   generalize A.getD oa undef = va at a1 ⊢
   generalize B.getD oa undef = vb at a2 ⊢
   cases a1; cases a2
   exact run_equalIn_bool' w D t m m' hu
  ·rename_i hu
   obtain ⟨m, e1, h⟩ := Option.bind_eq_some_iff.1 h
   obtain ⟨m', e2, h⟩ := Option.bind_eq_some_iff.1 h
   injection h with h; subst h
   rw [asStr_eq e1] at a1; rw [asStr_eq e2] at a2
   refine ⟨_, hu, ?_⟩
   have hag : isAggT P t = false := by simp [isAggT, hu]
   simp only [hag, Bool.false_eq_true, if_false]
   generalize A.getD oa undef = va at a1 ⊢
   generalize B.getD oa undef = vb at a2 ⊢
   cases a1; cases a2
   rw [run_equalIn_string w D t m m' hu, toList_beq]
  ·rename_i fs hu
   split at h
   ·cases h
   ·rename_i hst
    have hag : isAggT P t = true := by simp [isAggT, hu]
    refine ⟨_, hu, ?_⟩
    simp only [hag, if_true]
    have hfs : P.fieldsOf t = fs := by simp [Program.fieldsOf, hu]
    rw [run_equalIn_struct w D t _ _ (by rw [hfs]; exact hu) (by simpa using hst), hfs]
    have hg : ∀ (C : Array Value), oa + P.cellsOf t ≤ C.size → ∀ j, j < P.cellsOf t → (C.extract oa (oa + P.cellsOf t)).getD j undef = C.getD (oa + j) undef := fun C hC j hj => by
     simp only [Array.getD_eq_getD_getElem?]
     congr 1
     rw [Array.getElem?_extract]
     simp; omega
    refine eqFields_sound (k := k) (n := P.cellsOf t) (by simp; omega) (by simp; omega) (fun j hj => by rw [hg A hA j hj]; exact h1 j hj) (fun j hj => by rw [hg B hB j hj]; exact h2 j hj) (ih D (by omega)) fs.toList b h
  ·cases h
set_option maxHeartbeats 1600000 in
theorem binD_sound (h : Rel cx ρ S st a w) {op : BinOp} {t ty : TypeId} {x y : Operand} (ho : o.op = .binOp op t x y ty) (hd : binD P op t (opd P st t x) (opd P st ty y) some = some d) : StepOK P cx o a w d st := by
 have hx := opd_rel (P := P) h t x
 have hy := opd_rel (P := P) h ty y
 generalize hex : a.eval x = vx at hx
 generalize hey : a.eval y = vy at hy
 unfold binD at hd
 split at hd
 ·rename_i kk m k' n e1 e2
  rw [e1] at hx; rw [e2] at hy
  split at hd
  ·rename_i e; subst e
   have := hx.int_inv; subst this
   have := hy.int_inv; subst this
   obtain ⟨v, h1, h2, h3, h4⟩ := intD_sound (P := P) (ρ := ρ) (S := S) (w := w) hd
   refine StepOK.val h (run_binOp ho hex hey (eqGuard_plain rfl (by simp)) ?_) h2
   unfold binOp
   cases op <;> first | exact absurd rfl h3 | exact absurd rfl h4 | (simp only [ne_eq, not_true, if_false]; exact h1)
  ·cases hd
 ·rename_i m n e1 e2
  rw [e1] at hx; rw [e2] at hy
  have := hx.str_inv; subst this
  have := hy.str_inv; subst this
  obtain ⟨v, h1, h2⟩ := strD_sound (P := P) (ρ := ρ) (S := S) (w := w) hd
  refine StepOK.val h (run_binOp ho hex hey (eqGuard_plain rfl (by simp)) ?_) h2
  unfold binOp
  cases op <;> first | exact h1 | (unfold strD at hd; cases hd)
 ·rename_i m n e1 e2
  rw [e1] at hx; rw [e2] at hy
  have := hx.bool_inv; subst this
  have := hy.bool_inv; subst this
  split at hd
  ·rename_i hu
   injection hd with hd; subst hd
   refine StepOK.val h (run_binOp (v := .bool (m == n)) ho hex hey (eqGuard_plain rfl (by simp)) ?_) (.p .bool)
   rw [show binOp .eql t (.bool m) (.bool n) = (do let b ← Op.equal t (.bool m) (.bool n); pure (Value.bool (b))) from rfl]
   rw [Sem.run_bind, Op.equal, show Op.maxDepth = 9999 + 1 from rfl, run_equalIn_bool' w 9999 t m n hu]
   rfl
  ·rename_i hu
   injection hd with hd; subst hd
   refine StepOK.val h (run_binOp (v := .bool (!(m == n))) ho hex hey (eqGuard_plain rfl (by simp)) ?_) (.p .bool)
   rw [show binOp .neq t (.bool m) (.bool n) = (do let b ← Op.equal t (.bool m) (.bool n); pure (Value.bool (!b))) from rfl]
   rw [Sem.run_bind, Op.equal, show Op.maxDepth = 9999 + 1 from rfl, run_equalIn_bool' w 9999 t m n hu]
   rfl
  ·cases hd
 ·rename_i c1 xs c2 ys e1 e2
  rw [e1] at hx; rw [e2] at hy
  split at hd
  ·rename_i hc
   obtain ⟨hc1, hc2, hn, hag, hgd⟩ := hc
   cases hx with
   | p hx => cases hy with
    | p hy => cases hx with
     | @agg _ _ A ha1 ha2 ha3 => cases hy with
      | @agg _ _ B hb1 hb2 hb3 =>
       have hext : ∀ C : Array Value, C.size = P.cellsOf t → C.extract 0 (0 + P.cellsOf t) = C := fun C hC => by
        rw [Nat.zero_add, ← hC]; exact Array.extract_size
       have key : ∀ b, eqCells P 6 t xs ys some = some b → (Op.equalIn 10000 t (.agg A) (.agg B)).run P w = .ok b w := by
        intro b hb
        obtain ⟨dd, _, hr⟩ := eqCells_sound (P := P) (S := S) (w := w) 6 10000 (by omega) t xs ys A B 0 (by omega) (by omega) (by omega) (fun j hj => by rw [Nat.zero_add]; exact ha3 j (by omega)) (fun j hj => by rw [Nat.zero_add]; exact hb3 j (by omega)) b hb
        rw [if_pos hag, if_pos hag, hext A (by omega), hext B (by omega)] at hr
        exact hr
       have hgg : (eqGuard op t x y (.agg A) (.agg B)).run P w = .ok () w := run_eqGuard_agg w op t x y A B hgd
       split at hd
       ·rw [eqCells_bind] at hd
        obtain ⟨b, hb1, hb2⟩ := Option.bind_eq_some_iff.1 hd
        injection hb2 with hb2; subst hb2
        refine StepOK.val h (run_binOp (v := .bool b) ho hex hey hgg ?_) (.p .bool)
        rw [run_eql_struct, key b hb1]; rfl
       ·rw [eqCells_bind] at hd
        obtain ⟨b, hb1, hb2⟩ := Option.bind_eq_some_iff.1 hd
        injection hb2 with hb2; subst hb2
        refine StepOK.val h (run_binOp (v := .bool (!b)) ho hex hey hgg ?_) (.p .bool)
        rw [run_neq_struct, key b hb1]; rfl
       ·cases hd
  ·cases hd
 ·rename_i e1 e2
  rw [e1] at hx; rw [e2] at hy
  cases hx; cases hy
  have hnil : ∀ e, P.underlying t = some (.slice e) → (Op.equal t (.slice none 0 0) (.slice none 0 0)).run P w = .ok true w := by
   intro e hu
   rw [Op.equal, show Op.maxDepth = 9999 + 1 from rfl]
   unfold Op.equalIn
   rw [Sem.run_bind, run_underlying hu]
   rfl
  split at hd
  ·rename_i hu
   injection hd with hd; subst hd
   refine StepOK.val h (run_binOp (v := .bool true) ho hex hey (eqGuard_plain rfl (by simp)) ?_) (.p .bool)
   rw [show binOp .eql t (.slice none 0 0) (.slice none 0 0) = (do let b ← Op.equal t (.slice none 0 0) (.slice none 0 0); pure (Value.bool b)) from rfl, Sem.run_bind, hnil _ hu]
   rfl
  ·rename_i hu
   injection hd with hd; subst hd
   refine StepOK.val h (run_binOp (v := .bool false) ho hex hey (eqGuard_plain rfl (by simp)) ?_) (.p .bool)
   rw [show binOp .neq t (.slice none 0 0) (.slice none 0 0) = (do let b ← Op.equal t (.slice none 0 0) (.slice none 0 0); pure (Value.bool (!b))) from rfl, Sem.run_bind, hnil _ hu]
   rfl
  ·cases hd
 ·rename_i s es s2 e1 e2
  rw [e1] at hx; rw [e2] at hy
  cases hy
  cases hx with
  | p hx =>
  cases hx with
  | @sl _ _ a0 len cap ad vals g1 g2 g3 g4 g5 =>
  have hnil : ∀ e, P.underlying t = some (.slice e) → ∃ b, (Op.equal t (.slice a0 len cap) (.slice none 0 0)).run P w = .ok b w ∧ (0 < es.length → b = false) := by
   intro e hu
   rw [Op.equal, show Op.maxDepth = 9999 + 1 from rfl]
   unfold Op.equalIn
   rw [Sem.run_bind, run_underlying hu]
   cases a0 with
   | none => exact ⟨true, rfl, fun q => by have := (g3 (by omega)).1; cases this⟩
   | some a1 => exact ⟨false, rfl, fun _ => rfl⟩
  split at hd
  ·rename_i hu
   obtain ⟨b, hb1, hb2⟩ := hnil _ hu
   have hrun : (execOp a.eval o).run P w = .ok (.value (.bool b)) w := by
    refine run_binOp (v := .bool b) ho hex hey (eqGuard_plain rfl (by simp)) ?_
    rw [show binOp .eql t (.slice a0 len cap) (.slice none 0 0) = (do let b ← Op.equal t (.slice a0 len cap) (.slice none 0 0); pure (Value.bool b)) from rfl, Sem.run_bind, hb1]
    rfl
   split at hd
   ·rename_i hlt
    injection hd with hd; subst hd
    rw [hb2 hlt] at hrun
    exact StepOK.val h hrun (.p .bool)
   ·injection hd with hd; subst hd
    exact StepOK.val h hrun (.p .anyb)
  ·rename_i hu
   obtain ⟨b, hb1, hb2⟩ := hnil _ hu
   have hrun : (execOp a.eval o).run P w = .ok (.value (.bool (!b))) w := by
    refine run_binOp (v := .bool (!b)) ho hex hey (eqGuard_plain rfl (by simp)) ?_
    rw [show binOp .neq t (.slice a0 len cap) (.slice none 0 0) = (do let b ← Op.equal t (.slice a0 len cap) (.slice none 0 0); pure (Value.bool (!b))) from rfl, Sem.run_bind, hb1]
    rfl
   split at hd
   ·rename_i hlt
    injection hd with hd; subst hd
    rw [hb2 hlt] at hrun
    exact StepOK.val h hrun (.p .bool)
   ·injection hd with hd; subst hd
    exact StepOK.val h hrun (.p .anyb)
  ·cases hd
 ·cases hd
theorem run_un1 {s : Sem Value} {v : Value} (hs : s.run P w = .ok v w) : ((do pure (.value (← s)) : Sem Next)).run P w = .ok (.value v) w := by
 rw [Sem.run_bind, hs]; rfl
theorem unD_sound (h : Rel cx ρ S st a w) {op : UnOp} {t : TypeId} {x : Operand} (ho : o.op = .unOp op t x) (hd : unD op (opd P st t x) some = some d) : StepOK P cx o a w d st := by
 have hx := opd_rel (P := P) h t x
 generalize hex : a.eval x = vx at hx
 unfold unD at hd
 split at hd
 ·rename_i b e
  rw [e] at hx
  have := hx.bool_inv; subst this
  injection hd with hd; subst hd
  refine StepOK.val h (v := .bool (!b)) ?_ (.p .bool)
  unfold execOp; rw [ho]; dsimp only; rw [hex]; rfl
 ·rename_i kk n e
  rw [e] at hx
  have := hx.int_inv; subst this
  injection hd with hd; subst hd
  refine StepOK.val h (v := .int kk (kk.wrap (0 - n))) ?_ (.p .int)
  unfold execOp; rw [ho]; dsimp only; rw [hex]; rfl
 ·cases hd
theorem ok_makeFunc (h : Rel cx ρ S st a w) {fn : Fn} {first cap : Array Operand} (ho : o.op = .makeFunc fn first cap) {f : FuncId} (hf : fn = .func f) (h0 : first.size = 0)
 (hd : d = (match opds P st cap.toList [] with | [] => .p (.fn f) | d :: ds => .fn f (d :: ds))) : StepOK P cx o a w d st := by
 have h0' : first = #[] := Array.eq_empty_of_size_eq_zero h0
 subst h0' hf
 refine StepOK.val h (v := .func (.func f) #[] (cap.map a.eval)) ?_ ?_
 ·unfold execOp; rw [ho]; simp [Instr.makeFunc]
 ·have hl : ∀ (l : List Operand), opds P st l [] = l.map (opd P st 0) := by
   intro l; induction l with
   | nil => rfl
   | cons x l ih => simp only [opds, ih]; rfl
  rw [hl] at hd
  have hr : ∀ j, j < (cap.toList.map (opd P st 0)).length → VD ρ S w ((cap.toList.map (opd P st 0)).getD j ud) ((cap.map a.eval).getD j undef) := by
   intro j hj
   rw [List.length_map] at hj
   have hj' : j < cap.size := by simpa using hj
   have e1 : (cap.toList.map (opd P st 0)).getD j ud = opd P st 0 (cap[j]'hj') := by simp [List.getD_eq_getElem?_getD, hj']
   have e2 : (cap.map a.eval).getD j undef = a.eval (cap[j]'hj') := by simp [Array.getD_eq_getD_getElem?, hj']
   rw [e1, e2]
   exact opd_rel h 0 _
  split at hd
  ·rename_i he
   subst hd
   have : cap = #[] := by
    have := congrArg List.length he
    simpa using this
   subst this
   rw [show (#[] : Array Operand).map a.eval = #[] from by simp]
   exact .p .fn
  ·rename_i d0 ds he
   subst hd
   rw [← he]
   exact .fn (by simp) hr
theorem ok_fieldAddr (h : Rel cx ρ S st a w) {t : TypeId} {x : Operand} {f : Nat} (ho : o.op = .fieldAddr t x f) (hd : fieldAddrD P t f (opd P st 0 x) some = some d) : StepOK P cx o a w d st := by
 have hx := opd_rel (P := P) h 0 x
 generalize hex : a.eval x = vx at hx
 unfold fieldAddrD at hd
 split at hd
 ·rename_i off n hf
  unfold fieldOf at hf
  split at hf
  ·rename_i fs hu
   split at hf
   ·rename_i fd hfd
    split at hf
    ·cases hf
    ·rename_i hz
     injection hf with hf; injection hf with hf1 hf2; subst hf1 hf2
     have run : ∀ ad : Addr, vx = .pointer (some ad) → (execOp a.eval o).run P w = .ok (.value (.pointer (some (ad.add fd.offset)))) w := by
      intro ad e
      subst e
      unfold execOp; rw [ho]; dsimp only; rw [hex]
      refine run_un1 ?_
      simp [Instr.fieldAt, run_underlying hu, hfd, Instr.sureAddr, fieldPlace, run_sizeOf_ hz, hz]
     split at hd
     ·rename_i m o' e
      rw [e] at hx
      injection hd with hd; subst hd
      cases hx with
      | ptr hb =>
       refine StepOK.val h (run _ rfl) ?_
       rw [add_eq rfl]
       exact .ptr hb
     ·rename_i m j s o' e
      rw [e] at hx
      injection hd with hd; subst hd
      cases hx with
      | el hb =>
       refine StepOK.val h (run _ rfl) ?_
       rw [add_eq rfl, Nat.add_assoc]
       exact .el hb
     ·rename_i s cs e
      rw [e] at hx
      split at hd
      ·rename_i hle
       injection hd with hd; subst hd
       cases hx with
       | @ro _ _ ad vals h1 h2 h3 =>
        refine StepOK.val h (run _ rfl) ?_
        rw [add_eq h1]
        exact .ro (fun j => vals (fd.offset + j)) rfl (fun j hj => by dsimp only; rw [Nat.add_assoc]; exact h2 _ (by omega)) (fun j hj => by rw [dropC_getD]; exact h3 _ (by omega))
      ·cases hd
     ·cases hd
   ·cases hf
  ·cases hf
 ·cases hd
theorem ok_indexAddr (h : Rel cx ρ S st a w) {t : TypeId} {x i : Operand} (ho : o.op = .indexAddr t x i) (hd : indexAddrD P st t (opd P st t x) (opd P st 0 i) some = some d) : StepOK P cx o a w d st := by
 have hx := opd_rel (P := P) h t x
 have hi := opd_rel (P := P) h 0 i
 generalize hex : a.eval x = vx at hx
 generalize hei : a.eval i = vi at hi
 unfold indexAddrD at hd
 split at hd
 ·rename_i e kk n hu ei
  rw [ei] at hi
  have := hi.int_inv; subst this
  have run : ∀ (ad : Addr) (len cap : Nat), vx = .slice (some ad) len cap → P.cellsOf e ≠ 0 → 0 ≤ n → n < (len : Int) → (execOp a.eval o).run P w = .ok (.value (.pointer (some (ad.add (n.toNat * P.cellsOf e))))) w := by
   intro ad len cap e1 hz h0 h1
   subst e1
   unfold execOp; rw [ho]; dsimp only; rw [hex, hei]
   refine run_un1 ?_
   simp [Instr.indexAt, asIntOf, run_underlying hu, h0, h1, run_sizeOf_ hz]
  split at hd
  ·rename_i s es e2
   rw [e2] at hx
   split at hd
   ·rename_i hs
    split at hd
    ·rename_i hb
     injection hd with hd; subst hd
     cases hx with
     | p hx => cases hx with
      | @sl _ _ a0 len cap ad vals g1 g2 g3 g4 g5 =>
       subst g1
       have hlt : n.toNat < es.length := by omega
       obtain ⟨g6, g7⟩ := g3 (by omega)
       subst g6
       refine StepOK.val h (run ad _ _ rfl (by omega) hb.1 hb.2) ?_
       rw [add_eq g7, ← hs.1]
       exact .ro (fun j => vals n.toNat j) rfl (fun j hj => g4 n.toNat j hlt hj) (fun j hj => g5 n.toNat j hlt hj)
    ·cases hd
   ·cases hd
  ·rename_i m e2
   rw [e2] at hx
   split at hd
   ·rename_i e' s bb ro es hm
    have hob := h.core.ob m
    rw [hm] at hob
    obtain ⟨xs, h1, h2, h3, h4, h5⟩ := hob
    split at hd
    ·rename_i hs
     split at hd
     ·rename_i hb
      injection hd with hd; subst hd
      cases hx with
      | arr _ =>
       obtain ⟨a0, cap, ev, hcap, ha, hg⟩ := own_cells h1
       cases a0 with
       | none => have := ha rfl; omega
       | some ad =>
        have q : (ρ m).tip.ownBlock = some ad.block := by rw [ev]; rfl
        obtain ⟨q1, _⟩ := hg ad.block q
        injection q1 with q1
        refine StepOK.val h (run ad _ cap ev (by omega) hb.1 hb.2) ?_
        have hoff : ad.off = 0 := by rw [q1]
        have hsp : ad.spot = none := by rw [q1]
        rw [add_eq hsp, hoff, Nat.zero_add, ← hs]
        exact .el (off := 0) (h2.trans q)
     ·cases hd
    ·cases hd
   ·rename_i e' s es hm
    have hob := h.core.ob m
    rw [hm] at hob
    obtain ⟨o1, o2, o3, o4⟩ := hob
    cases o3 with
    | p o3 => cases o3
    | ow xs f g0 g1 g2 g3 g4 =>
    split at hd
    ·rename_i hs
     split at hd
     ·rename_i hb
      injection hd with hd; subst hd
      cases hx with
      | arr _ =>
       obtain ⟨a0, cap, ev, hcap, ha, hg⟩ := own_cells g1
       cases a0 with
       | none => have := ha rfl; omega
       | some ad =>
        have q : (ρ m).tip.ownBlock = some ad.block := by rw [ev]; rfl
        obtain ⟨q1, _⟩ := hg ad.block q
        injection q1 with q1
        refine StepOK.val h (run ad _ cap ev (by omega) hb.1 hb.2) ?_
        have hoff : ad.off = 0 := by rw [q1]
        have hsp : ad.spot = none := by rw [q1]
        rw [add_eq hsp, hoff, Nat.zero_add, ← hs]
        exact .el (off := 0) (o1.trans q)
     ·cases hd
    ·cases hd
   ·rename_i e' s es lk hm
    have hob := h.core.ob m
    rw [hm] at hob
    obtain ⟨o1, o2, o3, o4⟩ := hob
    cases o3 with
    | p o3 => cases o3
    | ow xs f g0 g1 g2 g3 g4 =>
    split at hd
    ·rename_i hs
     split at hd
     ·rename_i hb
      injection hd with hd; subst hd
      cases hx with
      | arr _ =>
       obtain ⟨a0, cap, ev, hcap, ha, hg⟩ := own_cells g1
       cases a0 with
       | none => have := ha rfl; omega
       | some ad =>
        have q : (ρ m).tip.ownBlock = some ad.block := by rw [ev]; rfl
        obtain ⟨q1, _⟩ := hg ad.block q
        injection q1 with q1
        refine StepOK.val h (run ad _ cap ev (by omega) hb.1 hb.2) ?_
        have hoff : ad.off = 0 := by rw [q1]
        have hsp : ad.spot = none := by rw [q1]
        rw [add_eq hsp, hoff, Nat.zero_add, ← hs]
        exact .el (off := 0) (o1.trans q)
     ·cases hd
    ·cases hd
   ·cases hd
  ·cases hd
 ·cases hd
theorem ok_index (h : Rel cx ρ S st a w) {t : TypeId} {x i : Operand} (ho : o.op = .index t x i) (hu : P.underlying t = some .string) (hd : indexD (opd P st t x) (opd P st 0 i) some = some d) : StepOK P cx o a w d st := by
 have hx := opd_rel (P := P) h t x
 have hi := opd_rel (P := P) h 0 i
 generalize hex : a.eval x = vx at hx
 generalize hei : a.eval i = vi at hi
 unfold indexD at hd
 split at hd
 ·rename_i s kk n ex ei
  rw [ex] at hx
  rw [ei] at hi
  have := hi.int_inv; subst this
  have := hx.str_inv; subst this
  split at hd
  ·rename_i hb
   injection hd with hd; subst hd
   refine StepOK.val h (v := .int .u8 (bt s n.toNat)) ?_ (.p .int)
   unfold execOp; rw [ho]; dsimp only; rw [hex, hei]
   refine run_un1 ?_
   have hlt : n.toNat < s.size := by omega
   have hlt' : n.toNat < s.data.size := hlt
   have e : bt s n.toNat = ((s[n.toNat]'hlt).toNat : Int) := by
    unfold bt
    rw [List.getD_eq_getElem?_getD, List.getElem?_eq_getElem (by simpa using hlt')]
    rfl
   simp [Instr.index, asIntOf, run_underlying hu, hb.1, getElem?_pos s n.toNat hlt, e]
  ·cases hd
 ·cases hd
theorem ok_extract (h : Rel cx ρ S st a w) {x : Operand} {i : Nat} (ho : o.op = .extract x i) {ds : List Dv} (he : opd P st 0 x = .tup ds) (hd : ds[i]? = some d) : StepOK P cx o a w d st := by
 have hx := opd_rel (P := P) h 0 x
 generalize hex : a.eval x = vx at hx
 rw [he] at hx
 cases hx with
 | @tup _ vs h1 h2 =>
  have hi : i < ds.length := (List.getElem?_eq_some_iff.1 hd).1
  have := h2 i hi
  rw [List.getD_eq_getElem?_getD, hd] at this
  refine StepOK.val h (v := vs.getD i undef) ?_ this
  unfold execOp; rw [ho]; dsimp only; rw [hex]
  refine run_un1 ?_
  have hi' : i < vs.size := by omega
  simp [Instr.extract, hi', Array.getD_eq_getD_getElem?]
theorem ok_len (h : Rel cx ρ S st a w) {c : Call} (ho : o.op = .call c) (hc : c.callee = .builtin .len) {x : Operand} (hargs : c.args.toList = [x]) {t : TypeId} (ht : c.argTypes[0]? = some t)
 (hd : lenD P t st (opd P st t x) some = some d) : StepOK P cx o a w d st := by
 have hx := opd_rel (P := P) h t x
 generalize hex : a.eval x = vx at hx
 have hargs' : c.args = #[x] := Array.ext' (by simpa using hargs)
 have run : ∀ v, (Builtin.len_ c.argTypes o.type #[vx]).run P w = .ok v w → (execOp a.eval o).run P w = .ok (.value v) w := by
  intro v hv
  unfold execOp; rw [ho]; dsimp only
  simp only [resolve, hc, hargs', List.map_toArray, List.map_cons, List.map_nil, hex, Sem.run_bind, Sem.run_pure, Result.andThen_ok, invoke, builtin, hv]
 unfold lenD at hd
 split at hd
 ·rename_i hu
  split at hd
  ·rename_i s e
   rw [e] at hx
   have := hx.str_inv; subst this
   injection hd with hd; subst hd
   refine StepOK.val h (run (.int .i64 s.size) ?_) (.p .int)
   simp [Builtin.len_, ht, run_underlying hu, goInt]
  ·cases hd
 ·rename_i e hu
  split at hd
  ·rename_i s es e1
   rw [e1] at hx
   injection hd with hd; subst hd
   cases hx with
   | p hx => cases hx with
    | @sl _ _ a0 len cap ad vals g1 g2 g3 g4 g5 =>
     subst g1
     refine StepOK.val h (run (.int .i64 es.length) ?_) (.p .int)
     simp [Builtin.len_, ht, run_underlying hu, goInt]
  ·rename_i s e1
   rw [e1] at hx
   injection hd with hd; subst hd
   cases hx
   refine StepOK.val h (run (.int .i64 0) ?_) (.p .int)
   simp [Builtin.len_, ht, run_underlying hu, goInt]
  ·rename_i m e1
   rw [e1] at hx
   split at hd
   ·rename_i e' s bb ro es hm
    injection hd with hd; subst hd
    have hob := h.core.ob m
    rw [hm] at hob
    obtain ⟨xs, h1, h2, h3, h4, h5⟩ := hob
    obtain ⟨a0, cap, ev, _⟩ := own_cells h1
    cases hx
    refine StepOK.val h (run (.int .i64 es.length) ?_) (.p .int)
    rw [ev]
    simp [Builtin.len_, ht, run_underlying hu, goInt]
   ·rename_i e' s es hm
    injection hd with hd; subst hd
    have hob := h.core.ob m
    rw [hm] at hob
    obtain ⟨o1, o2, o3, o4⟩ := hob
    cases o3 with
    | p o3 => cases o3
    | ow xs f g0 g1 g2 g3 g4 =>
    obtain ⟨a0, cap, ev, _⟩ := own_cells g1
    cases hx
    refine StepOK.val h (run (.int .i64 es.length) ?_) (.p .int)
    rw [ev]
    simp [Builtin.len_, ht, run_underlying hu, goInt]
   ·rename_i e' s es lk hm
    injection hd with hd; subst hd
    have hob := h.core.ob m
    rw [hm] at hob
    obtain ⟨o1, o2, o3, o4⟩ := hob
    cases o3 with
    | p o3 => cases o3
    | ow xs f g0 g1 g2 g3 g4 =>
    obtain ⟨a0, cap, ev, _⟩ := own_cells g1
    cases hx
    refine StepOK.val h (run (.int .i64 es.length) ?_) (.p .int)
    rw [ev]
    simp [Builtin.len_, ht, run_underlying hu, goInt]
   ·cases hd
  ·cases hd
 ·cases hd
theorem StepOK.val' {S' : Nat → Nat → Prop} {st' : St} {v : Value} (h : Rel cx ρ S' st' a w) (hr : (execOp a.eval o).run P w = .ok (.value v) w) (hd : VD ρ S' w d v) : StepOK P cx o a w d st' :=
 .inl ⟨v, w, ρ, S', .inl hr, h, hd⟩
theorem bound_rel {dflt : Int} {x : Option Operand} {l : Int} (h : Rel cx ρ S st a w) (hb : boundD dflt (x.map (opd P st 0)) = some l) : (x = none ∧ l = dflt) ∨ ∃ y k, x = some y ∧ a.eval y = .int k l := by
 cases x with
 | none => simp only [Option.map_none, boundD] at hb; injection hb with hb; exact .inl ⟨rfl, hb.symm⟩
 | some y =>
  right
  have hy := opd_rel (P := P) h 0 y
  simp only [Option.map_some, boundD] at hb
  split at hb
  ·rename_i e; cases e
  ·rename_i kk n e
   injection hb with hb; subst hb
   injection e with e
   rw [e] at hy
   exact ⟨y, _, rfl, hy.int_inv⟩
  ·cases hb
theorem run_bounds {lo hi : Option Operand} {len cap : Nat} (isS : Bool) {l hh : Int} (hl : (lo = none ∧ l = 0) ∨ ∃ y k, lo = some y ∧ a.eval y = .int k l) (hhi : (hi = none ∧ hh = (len : Int)) ∨ ∃ y k, hi = some y ∧ a.eval y = .int k hh)
 (h0 : 0 ≤ l) (h1 : l ≤ hh) (h2 : hh ≤ (len : Int)) (hc : len ≤ cap) : (Instr.sliceBounds isS len cap (lo.map a.eval) (hi.map a.eval) none).run P w = .ok (l.toNat, hh.toNat, cap) w := by
 unfold Instr.sliceBounds
 have hb2 : 0 ≤ hh := by omega
 have hb3 : hh ≤ (cap : Int) := by omega
 rcases hl with ⟨rfl, rfl⟩ | ⟨y, k, rfl, hy⟩ <;> rcases hhi with ⟨rfl, rfl⟩ | ⟨z, k', rfl, hz⟩
 ·simp
 ·simp [hz, Instr.sliceBound, asIntOf, hb2, hb3]
 ·simp [hy, Instr.sliceBound, asIntOf, h0, h1]
 ·have : l ≤ (hh.toNat : Int) := by omega
  simp [hy, hz, Instr.sliceBound, asIntOf, h0, h1, hb2, hb3, this]
  intro q; omega
theorem ok_slice (h : Rel cx ρ S st a w) {t : TypeId} {x : Operand} {lo hi mx : Option Operand} (ho : o.op = .slice t x lo hi mx) {q : Dv × St}
 (hd : sliceD P st t (opd P st t x) (lo.map (opd P st 0)) (hi.map (opd P st 0)) (mx.map (opd P st 0)) pr = some q) : StepOK P cx o a w q.1 q.2 := by
 have hx := opd_rel (P := P) h t x
 generalize hex : a.eval x = vx at hx
 unfold sliceD at hd
 split at hd
 ·cases hd
 ·rename_i hmx
  have hmx' : mx = none := by cases mx with
   | none => rfl
   | some _ => cases hmx
  subst hmx'
  split at hd
  ·cases hd
  ·rename_i l hlo
   have hl := bound_rel h hlo
   split at hd
   ·rename_i hu
    split at hd
    ·rename_i s e
     rw [e] at hx
     have := hx.str_inv; subst this
     split at hd
     ·cases hd
     ·rename_i hh hhi
      have hr := bound_rel h hhi
      split at hd
      ·rename_i hc
       rw [bsub_eq] at hd
       injection hd with hd; subst hd
       refine StepOK.val h (v := .string (s.extract l.toNat hh.toNat)) ?_ (.p .str)
       unfold execOp; rw [ho]; dsimp only; rw [hex]
       refine run_un1 ?_
       have hb := run_bounds (P := P) (w := w) (cap := s.size) false hl hr hc.1 hc.2.1 hc.2.2 (Nat.le_refl _)
       simp [Instr.sliceAt, Instr.slice, run_underlying hu, hb]
      ·cases hd
    ·cases hd
   ·rename_i e hu
    split at hd
    ·cases hd
    ·rename_i hz
     split at hd
     ·rename_i y L O hv
      obtain ⟨es, he, hd⟩ := Option.bind_eq_some_iff.1 hd
      obtain ⟨S', q1, q2, q3⟩ := oneCell_of_view1 h.core hx hv
      rw [asSl_eq he] at q3
      split at hd
      ·cases hd
      ·rename_i hh hhi
       have hr := bound_rel h hhi
       split at hd
       ·rename_i hc
        injection hd with hd; subst hd
        cases q3 with
        | @sl _ _ a0 len cap ad vals g1 g2 g3 g4 g5 =>
         subst g1
         have hb := run_bounds (P := P) (w := w) (cap := cap) true hl hr hc.1 hc.2.1 hc.2.2 g2
         refine StepOK.val' (h.core_ q1 q2) (v := .slice (if cap = l.toNat then a0 else a0.map (·.add (l.toNat * P.cellsOf e))) (hh.toNat - l.toNat) (cap - l.toNat)) ?_ (.p ?_)
         ·unfold execOp; rw [ho]; dsimp only; rw [hex]
          refine run_un1 ?_
          simp [Instr.sliceAt, Instr.slice, run_underlying hu, hb, run_sizeOf_ hz]
         ·have hlen : ((es.drop l.toNat).take (hh.toNat - l.toNat)).length = hh.toNat - l.toNat := by
           rw [List.length_take, List.length_drop]; omega
          by_cases hne : hh.toNat - l.toNat = 0
          ·exact .sl ⟨0, 0, none⟩ (fun _ _ => undef) hlen.symm (by omega) (fun q => by omega) (fun i j hi => by omega) (fun i j hi => by omega)
          ·obtain ⟨g6, g7⟩ := g3 (by omega)
           subst g6
           have hcl : ¬ cap = l.toNat := by omega
           rw [if_neg hcl]
           have hget : ∀ i, i < hh.toNat - l.toNat → ((es.drop l.toNat).take (hh.toNat - l.toNat)).getD i [] = es.getD (l.toNat + i) [] := fun i hi => by
            simp only [List.getD_eq_getElem?_getD, List.getElem?_take, if_pos hi, List.getElem?_drop]
           refine .sl (ad.add (l.toNat * P.cellsOf e)) (fun i j => vals (l.toNat + i) j) hlen.symm (by omega) (fun _ => ⟨rfl, by rw [add_eq g7]⟩) (fun i j hi hj => ?_) (fun i j hi hj => ?_)
           ·rw [add_eq g7]
            have := g4 (l.toNat + i) j (by omega) hj
            rw [Nat.add_mul, ← Nat.add_assoc] at this
            exact this
           ·rw [hget i hi]
            exact g5 (l.toNat + i) j (by omega) hj
       ·cases hd
     ·cases hd
   ·cases hd
theorem bytesOf_spec : ∀ (es : List (List Pd)) (l : List UInt8), bytesOf es = some l → ∃ ns : List Int, ns.length = es.length ∧ l = ns.map (fun n => UInt8.ofNat n.toNat) ∧ ∀ i, i < es.length → (es.getD i []).getD 0 .undef = .int .u8 (ns.getD i 0)
 | [], l, h => by simp only [bytesOf] at h; injection h with h; subst h; exact ⟨[], rfl, rfl, fun i hi => by cases hi⟩
 | c :: es, l, h => by
  simp only [bytesOf] at h
  split at h
  ·rename_i n l' hn hl
   injection h with h; subst h
   obtain ⟨ns, h1, h2, h3⟩ := bytesOf_spec es l' hl
   refine ⟨n :: ns, by simp [h1], by simp [h2], fun i hi => ?_⟩
   cases i with
   | zero => exact asInt_eq hn
   | succ i => exact h3 i (by simpa using hi)
  ·cases h
theorem fold_push (ns : List Int) : ∀ (s : ByteArray), ns.foldl (fun r n => r.push (UInt8.ofNat n.toNat)) s = ⟨(s.data.toList ++ ns.map (fun n => UInt8.ofNat n.toNat)).toArray⟩ := by
 induction ns with
 | nil => intro s; cases s; simp
 | cons n ns ih =>
  intro s
  simp only [List.foldl_cons, ih, List.map_cons]
  congr 1
  simp [ByteArray.push]
theorem ok_convert (h : Rel cx ρ S st a w) {src dst : TypeId} {x : Operand} (ho : o.op = .convert src dst x) (hd : convD P st src dst (opd P st src x) some = some d) : StepOK P cx o a w d st := by
 have hx := opd_rel (P := P) h src x
 generalize hex : a.eval x = vx at hx
 unfold convD at hd
 split at hd
 ·rename_i k1 kk hu1 hu2
  split at hd
  ·rename_i k2 n e
   rw [e] at hx
   have := hx.int_inv; subst this
   injection hd with hd; subst hd
   refine StepOK.val h (v := .int kk (kk.wrap n)) ?_ (.p .int)
   unfold execOp; rw [ho]; dsimp only; rw [hex]
   refine run_un1 ?_
   simp [convert, run_underlying hu1, run_underlying hu2, Conv.intToInt]
  ·cases hd
 ·rename_i hu1 hu2
  split at hd
  ·rename_i s e
   rw [e] at hx
   have := hx.str_inv; subst this
   injection hd with hd; subst hd
   refine StepOK.val h (v := .string s) ?_ (.p .str)
   unfold execOp; rw [ho]; dsimp only; rw [hex]
   refine run_un1 ?_
   simp [convert, run_underlying hu1, run_underlying hu2]
  ·cases hd
 ·rename_i e hu1 hu2
  split at hd
  ·rename_i hue
   split at hd
   ·rename_i y L O hv
    obtain ⟨es, he, hd⟩ := Option.bind_eq_some_iff.1 hd
    obtain ⟨l, hl, hd⟩ := Option.bind_eq_some_iff.1 hd
    injection hd with hd; subst hd
    obtain ⟨S', q1, q2, q3⟩ := oneCell_of_view1 h.core hx hv
    rw [asSl_eq he] at q3
    obtain ⟨ns, n1, n2, n3⟩ := bytesOf_spec es l hl
    cases q3 with
    | @sl _ _ a0 len cap ad vals g1 g2 g3 g4 g5 =>
     subst g1
     refine StepOK.val h (v := .string ⟨l.toArray⟩) ?_ (.p .str)
     unfold execOp; rw [ho]; dsimp only; rw [hex]
     refine run_un1 ?_
     rw [run_convert_bytes_string w src dst e a0 es.length cap hu1 hue hu2]
     cases a0 with
     | none =>
      have : es.length = 0 := by
       rcases Nat.eq_zero_or_pos es.length with q | q
       ·exact q
       ·have := (g3 q).1; cases this
      have hns : ns = [] := List.eq_nil_of_length_eq_zero (by omega)
      subst n2 hns
      simp [Conv.bytesToString]
      rfl
     | some ad' =>
      rw [run_bytesToString w ad' es.length cap ns ?_, fold_push, n2]
      ·rfl
      ·have hcl : ∀ j v, (ns.map (Value.int .u8))[j]? = some v → w.cell? (ad'.add j) = some v := by
        intro j v hj
        have hj' : j < es.length := by
         have := (List.getElem?_eq_some_iff.1 hj).1
         rw [List.length_map, n1] at this
         exact this
        obtain ⟨e1, e2⟩ := g3 (by omega)
        injection e1 with e1; subst e1
        have hv := g5 j 0 hj' (by omega)
        rw [n3 j hj'] at hv
        have hc := (g4 j 0 hj' (by omega)).2.1
        rw [Nat.mul_one, Nat.add_zero] at hc
        rw [add_eq e2, hc]
        rw [List.getElem?_map] at hj
        have : ns[j]? = some (ns.getD j 0) := by
         rw [List.getD_eq_getElem?_getD, List.getElem?_eq_getElem (by omega)]; rfl
        rw [this] at hj
        injection hj with hj
        rw [← hj]
        generalize vals j 0 = vv at hv ⊢
        cases hv
        rfl
       have := run_loadCells_list (P := P) w ad' (ns.map (Value.int .u8)) hcl
       rw [List.length_map, n1] at this
       exact this
   ·cases hd
  ·cases hd
 ·cases hd
end Go.Proofs.YtmnoibkdmeajpaaGreat.Dm
