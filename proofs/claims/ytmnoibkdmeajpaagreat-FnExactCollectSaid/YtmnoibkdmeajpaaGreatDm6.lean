/- The machine over plain data and memory: one operation at a time. -/
import Derived.Test.YtmnoibkdmeajpaaGreatDm5
import Derived.Laws.Strings
namespace Go.Proofs.YtmnoibkdmeajpaaGreat.Dm
set_option linter.unusedSectionVars false
open Go.RowKit
set_option linter.unusedVariables false
set_option linter.unusedSimpArgs false
variable [Cfg] {P : Program} {cx : Cx} {ρ : Nm → Rz} {S : Nat → Nat → Prop} {w : World} {st : St} {a : Act}
def StepOK (P : Program) (cx : Cx) (o : Oper) (a : Act) (w : World) (d : Dv) (st' : St) : Prop :=
 (∃ v w' ρ' S', ((execOp a.eval o).run P w = .ok (.value v) w' ∨ (((execOp a.eval o).run P w = .ok .skip w' ∨ ∃ f cap, (execOp a.eval o).run P w = .ok (.defer ⟨.fn (.func f) cap, #[]⟩) w' ∧ Cfg.qf f = some cap.size) ∧ v = undef)) ∧ Rel cx ρ' S' st' a w' ∧ VD ρ' S' w' d v) ∨
 (∃ f args w1, (execOp a.eval o).run P w = .ok (.enter f args) w1 ∧ Calls P f args w1 fun e w' => ∃ v ρ' S', e = .returned v ∧ Rel cx ρ' S' st' a w' ∧ VD ρ' S' w' d v)
theorem StepOK.val {o : Oper} {d : Dv} {v : Value} (h : Rel cx ρ S st a w) (hr : (execOp a.eval o).run P w = .ok (.value v) w) (hd : VD ρ S w d v) : StepOK P cx o a w d st :=
 .inl ⟨v, w, ρ, S, .inl hr, h, hd⟩
theorem Rel.core_ {S' : Nat → Nat → Prop} {L O : List Ob} (h : Rel cx ρ S st a w) (hs : ∀ b o, S b o → S' b o) (hc : Core cx ρ S' L O w) : Rel cx ρ S' ⟨st.T, L, O⟩ a w :=
 ⟨hc, h.nt, h.df, fun t => (h.tm t).keep (fun _ => rfl) hs (fun _ _ _ => rfl)⟩
theorem heap_push_lt (w : World) (o : Obj) (b : Nat) (h : b < w.heap.size) : (w.alloc o).heap[b]? = w.heap[b]? := heap_alloc_old w o b h
theorem Rel.fresh {st : St} (h : Rel cx ρ S st a w) (s : Nat) (ob : Ob) (vs : Array Value) (ty : TypeId) (tip : Value)
 (hob : ObRel ρ S (w.alloc (.cells vs ty)) ob (.of (some w.heap.size) tip)) (hno : isO ob = false := by rfl) :
 Rel cx (fun n => if n = .loc s then .of (some w.heap.size) tip else ρ n) S (st.fresh s ob) a (w.alloc (.cells vs ty)) := by
 have hc : ∀ b o, S b o → (w.alloc (.cells vs ty)).cell? ⟨b, o, none⟩ = w.cell? ⟨b, o, none⟩ := fun b o q => cell_heap (heap_push_lt w _ b (h.core.sb b o q))
 refine ⟨h.core.put_ (.loc s) (scrubOb (.loc s) ob) _ (by simp) rfl rfl rfl (fun b hb _ => heap_push_lt w _ b hb) hc (hob.scrub_ (fun n hn => if_neg hn)) (fun b q => .inl ?_) (fun b o q hS => ?_) (fun i q => nomatch q) ((isO_scrub _ _).trans hno), ?_, h.df, fun t => ?_⟩
 ·injection q with q; subst q; simp
 ·injection q with q; subst q
  exact absurd (h.core.sb _ o hS) (by omega)
 ·show a.tmps.size = (st.T.map _).length
  exact h.nt
 ·show VD _ _ _ ((st.T.map (scrub (.loc s))).getD t ud) _
  rw [Tm.getD_map rfl]
  exact ((h.tm t).keep (ρ' := ρ) (fun _ => rfl) (fun _ _ q => q) hc).scrub_ (fun n hn => if_neg hn)
section
variable {o : Oper} {d : Dv}
theorem ok_move (h : Rel cx ρ S st a w) {x : Operand} (ho : o.op = .move x ∨ o.op = .assign x) : StepOK P cx o a w (opd P st o.type x) st := by
 refine StepOK.val h (v := a.eval x) ?_ (opd_rel h _ _)
 unfold execOp
 rcases ho with ho | ho <;> rw [ho] <;> rfl
theorem VD.bool_inv {b : Bool} {v : Value} (h : VD ρ S w (.p (.bool b)) v) : v = .bool b := by cases h with | p h => cases h; rfl
theorem VD.int_inv {k : IntKind} {n : Int} {v : Value} (h : VD ρ S w (.p (.int k n)) v) : v = .int k n := by cases h with | p h => cases h; rfl
theorem VD.str_inv {n : ByteArray} {v : Value} (h : VD ρ S w (.p (.str n)) v) : v = .string n := by cases h with | p h => cases h; rfl
theorem pickD_sound {b : Bool} {x y : Dv} {vx vy : Value} (hx : VD ρ S w x vx) (hy : VD ρ S w y vy) (h : pickD b x y some = some d) : VD ρ S w d (if b = true then vx else vy) := by
 unfold pickD at h
 split at h
 ·injection h with h; subst h
  rw [hx.bool_inv, hy.bool_inv]
  cases b <;> exact .p .bool
 ·cases b
  ·injection h with h; subst h; exact hy
  ·injection h with h; subst h; exact hx
theorem ok_pick (h : Rel cx ρ S st a w) {c x y : Operand} (ho : o.op = .pick c x y) {b : Bool} (hc : opd P st 0 c = .p (.bool b)) (hd : pickD b (opd P st o.type x) (opd P st o.type y) some = some d) : StepOK P cx o a w d st := by
 have e := (hc ▸ opd_rel h 0 c).bool_inv
 refine StepOK.val h (v := if b = true then a.eval x else a.eval y) ?_ (pickD_sound (opd_rel h _ _) (opd_rel h _ _) hd)
 unfold execOp
 rw [ho]
 cases b <;> simp [e, asBool, Go.asBool]
theorem ok_load (h : Rel cx ρ S st a w) {t : TypeId} {x : Operand} (ho : o.op = .load t x) (hd : loadD P st t (opd P st 0 x) some = some d) : StepOK P cx o a w d st := by
 obtain ⟨ad, v, h1, h2, h3⟩ := loadD_sound h.core (opd_rel h 0 x) hd
 refine StepOK.val h (v := v) ?_ h3
 unfold execOp
 rw [ho]
 simp [Instr.loadAt, h1, Instr.sureAddr, h2]
theorem ok_nilCheck (h : Rel cx ρ S st a w) {x : Operand} (ho : o.op = .nilCheck x) {q : Dv × St} (hd : stepOp (fun _ _ _ => none) P o st pr = some q) : StepOK P cx o a w q.1 q.2 := by
 unfold stepOp at hd
 rw [ho] at hd
 dsimp only at hd
 have hx := opd_rel (P := P) h 0 x
 have run : ∀ {v : Value}, a.eval x = v → (match v with | .pointer none | .nilIface | .nilFunc => False | .func (.method _) _ _ => False | _ => True) → (execOp a.eval o).run P w = .ok (.value v) w := by
  intro v e hv
  unfold execOp
  rw [ho]
  dsimp only
  rw [e]
  split <;> first | exact hv.elim | rfl
 have fin : ∀ {dd : Dv} {v : Value}, VD ρ S w dd v → a.eval x = v → (match v with | .pointer none | .nilIface | .nilFunc => False | .func (.method _) _ _ => False | _ => True) → pr dd st = some q → StepOK P cx o a w q.1 q.2 := by
  intro dd v hv e hm hq
  injection hq with hq; subst hq
  exact StepOK.val h (run e hm) hv
 generalize he : a.eval x = ev at hx
 split at hd
 ·rename_i m off hm
  rw [hm] at hx
  have hx' := hx
  cases hx with
  | ptr hb => exact fin hx' he trivial hd
 ·rename_i m off hm
  rw [hm] at hx
  have hx' := hx
  cases hx with
  | ro vals h1 h2 h3 => exact fin hx' he trivial hd
 ·rename_i m j s off hm
  rw [hm] at hx
  have hx' := hx
  cases hx with
  | el hb => exact fin hx' he trivial hd
 ·rename_i m off hm
  rw [hm] at hx
  have hx' := hx
  cases hx with
  | fn h1 h2 => exact fin hx' he trivial hd
 ·rename_i f hm
  rw [hm] at hx
  have hx' := hx
  cases hx with
  | p hx => cases hx; exact fin hx' he trivial hd
 ·cases hd
theorem run_binOp {op : BinOp} {t ty : TypeId} {x y : Operand} (ho : o.op = .binOp op t x y ty) {vx vy v : Value} (hx : a.eval x = vx) (hy : a.eval y = vy)
 (hg : (eqGuard op t x y vx vy).run P w = .ok () w) (hb : (binOp op t vx vy).run P w = .ok v w) : (execOp a.eval o).run P w = .ok (.value v) w := by
 unfold execOp
 rw [ho]
 simp [hx, hy, hg, hb]
theorem eqGuard_plain {op : BinOp} {t : TypeId} {x y : Operand} {vx vy : Value} (h1 : vx.oneCell' = true) (h2 : vx ≠ .nilIface) : (eqGuard op t x y vx vy).run P w = .ok () w := by
 cases op <;> first
  | rfl
  | (cases vx <;> first | rfl | (exact absurd rfl h2) | (simp [Value.oneCell'] at h1))
theorem intD_sound {op : BinOp} {k : IntKind} {m n : Int} (h : intD op k m n some = some d) : ∃ v, (match op with | .add | .sub | .mul => Op.intArith op k m n | .quo | .rem => Op.intDiv op k m n | .and | .or | .xor | .andNot => Op.intBits op k m n | _ => Op.intCmp op m n).run P w = .ok v w ∧ VD ρ S w d v ∧ op ≠ .shl ∧ op ≠ .shr := by
 unfold intD at h
 split at h <;> first
  | (cases h; done)
  | (injection h with h; subst h; refine ⟨_, rfl, ?_, by decide, by decide⟩; first | exact .p .int | exact .p .bool)
  | (split at h
     ·cases h
     ·rename_i hz
      injection h with h; subst h
      refine ⟨_, ?_, .p .int, by decide, by decide⟩
      simp [Op.intDiv, hz])
theorem toList_beq (a b : ByteArray) : (a.toList == b.toList) = decide (a = b) := by
 rw [Bool.eq_iff_iff]
 simp only [beq_iff_eq, decide_eq_true_eq]
 constructor
 ·intro h
  have : a.data = b.data := by
   have e : ∀ c : ByteArray, c.toList = c.data.toList := fun c => ByteArray.toList_eq c
   rw [e, e] at h
   exact Array.ext' h
  cases a; cases b; simp_all
 ·rintro rfl; rfl
theorem strD_sound {op : BinOp} {m n : ByteArray} (h : strD op m n some = some d) : ∃ v, (Op.stringOp op m n).run P w = .ok v w ∧ VD ρ S w d v := by
 unfold strD at h
 split at h <;> first
  | (cases h; done)
  | (injection h with h; subst h; refine ⟨_, rfl, ?_⟩; first | exact .p .bool | (simp only [toList_beq]; exact .p .bool))
  | (split at h
     ·rename_i hz
      rw [bcat_eq] at h
      injection h with h; subst h
      refine ⟨_, ?_, .p .str⟩
      have : ¬ ((m.size + n.size : Nat) : Int) > IntKind.i64.max := by
       unfold LIM at hz
       have e : IntKind.i64.max = 9223372036854775807 := rfl
       rw [e]; omega
      simp only [Op.stringOp, if_neg this]
      rfl
     ·cases h)
end
end Go.Proofs.YtmnoibkdmeajpaaGreat.Dm
