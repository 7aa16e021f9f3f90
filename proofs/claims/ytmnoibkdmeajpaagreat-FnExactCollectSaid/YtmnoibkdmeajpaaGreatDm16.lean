/- The machine over plain data: where an order is drawn, operations that only look change places. -/
import Derived.Test.YtmnoibkdmeajpaaGreatDm15
namespace Go.Proofs.YtmnoibkdmeajpaaGreat.Dm
set_option linter.unusedSectionVars false
open Go.RowKit
set_option linter.unusedVariables false
set_option linter.unusedSimpArgs false
variable [Cfg] {P : Program} {st st' : St} {o : Oper} {d : Dv}
theorem pureish_prep (L O : List Ob) : ∀ (ds : List Dv), pureish ds = true → ∃ as, prep L O ds = some (as, L, O) ∧ refsDs as = []
 | [], _ => ⟨[], rfl, rfl⟩
 | .p x :: ds, h => by
  obtain ⟨as, q1, q2⟩ := pureish_prep L O ds h
  exact ⟨.p x :: as, by simp only [prep, view, view1, q1], by simp only [refsDs, refsD, q2, List.nil_append]⟩
 | .nilsl s :: ds, h => by
  obtain ⟨as, q1, q2⟩ := pureish_prep L O ds h
  exact ⟨.p (.sl s []) :: as, by simp only [prep, view, view1, q1], by simp only [refsDs, refsD, q2, List.nil_append]⟩
 | .ptr .. :: _, h => by cases h
 | .arr _ :: _, h => by cases h
 | .el .. :: _, h => by cases h
 | .ro .. :: _, h => by cases h
 | .agg .. :: _, h => by cases h
 | .fn .. :: _, h => by cases h
 | .tup _ :: _, h => by cases h
 | .mp _ :: _, h => by cases h
 | .sub .. :: _, h => by cases h
theorem closeN_nil (L O : List Ob) : ∀ k, closeN L O k [] = []
 | 0 => rfl
 | k + 1 => by simp only [closeN, List.flatMap_nil, addN]; exact closeN_nil L O k
theorem pureish_peek (L O : List Ob) : ∀ (ds : List Dv), pureish ds = true → ∃ xs : List Pd, peekAll L O ds = some xs ∧ prep L O ds = some (xs.map .p, L, O)
 | [], _ => ⟨[], rfl, rfl⟩
 | .p x :: ds, h => by
  obtain ⟨xs, q1, q2⟩ := pureish_peek L O ds h
  exact ⟨x :: xs, by simp only [peekAll, peek, peek1, q1], by simp only [prep, view, view1, q2, List.map_cons]⟩
 | .nilsl s :: ds, h => by
  obtain ⟨xs, q1, q2⟩ := pureish_peek L O ds h
  exact ⟨.sl s [] :: xs, by simp only [peekAll, peek, peek1, q1], by simp only [prep, view, view1, q2, List.map_cons]⟩
 | .ptr .. :: _, h => by cases h
 | .arr _ :: _, h => by cases h
 | .el .. :: _, h => by cases h
 | .ro .. :: _, h => by cases h
 | .agg .. :: _, h => by cases h
 | .fn .. :: _, h => by cases h
 | .tup _ :: _, h => by cases h
 | .mp _ :: _, h => by cases h
 | .sub .. :: _, h => by cases h
def callV (P : Program) (rts : List TypeId) (call : CallF) (L O : List Ob) (f : FuncId) (args : List Dv) : Option (List Dv) := (peekAll L O args).bind fun as => (call f (as.map .p) []).bind fun r => castRs P r.1 some 0 rts []
theorem callD_look {R : Type} {rts : List TypeId} {call : CallF} {f : FuncId} {args : List Dv} (hf : (!Cfg.wr f && (!Cfg.own f && !Cfg.mak f)) = true) (h : pureish args = true ∨ (rts.all (scalT P) = true ∧ peekish args = true)) (T : Tm) (L O : List Ob) (k : Dv → St → Option R) : callD P rts call ⟨T, L, O⟩ f args k = (callV P rts call L O f args).bind fun ds => k (retV ds) ⟨T, L, O⟩ := by
 have hw : Cfg.wr f = false := by cases e : Cfg.wr f <;> simp [e] at hf ⊢
 have ho : Cfg.own f = false := by cases e : Cfg.own f <;> simp [e] at hf ⊢
 have hm : Cfg.mak f = false := by cases e : Cfg.mak f <;> simp [e] at hf ⊢
 have fin : ∀ xs : List Pd, peekAll L O args = some xs → (call f (xs.map .p) []).bind (fun r => castRs P r.1 (fun ds => k (retV ds) ⟨T, L, O⟩) 0 rts []) = (callV P rts call L O f args).bind fun ds => k (retV ds) ⟨T, L, O⟩ := by
  intro xs hx
  unfold callV
  rw [hx, Option.bind_some, Option.bind_assoc]
  congr 1
  funext r
  exact castRs_bind ..
 unfold callD
 simp only [hw, ho, hm, Bool.or_false, Bool.false_or, Bool.false_eq_true, if_false]
 by_cases hr : rts.all (scalT P) = true
 ·simp only [hr, if_true, Bool.true_and]
  cases hp : peekAll L O args with
  | some as =>
   rw [← fin as hp]
   unfold callB
   simp only [ho, Bool.false_eq_true, if_false]
  | none =>
   rcases h with h | ⟨_, h⟩
   ·obtain ⟨xs, p1, _⟩ := pureish_peek L O args h
    rw [p1] at hp; cases hp
   ·unfold callV
    simp only [h, if_true, hp, Option.bind_none]
 ·have h : pureish args = true := h.resolve_right fun q => hr q.1
  obtain ⟨xs, p1, p2⟩ := pureish_peek L O args h
  obtain ⟨as, q1, q2⟩ := pureish_prep L O args h
  have hx : as = xs.map .p := by
   have := p2.symm.trans q1
   simp only [Option.some.injEq, Prod.mk.injEq, and_true] at this
   exact this.symm
  rw [← fin xs p1]
  rw [hx] at q1 q2
  simp only [hr, Bool.false_and, Bool.false_eq_true, if_false, q1, q2, addN, closeN_nil]
theorem quiet_args {f : FuncId} {fn : Func} {args : List Dv} (hfn : P.funcs[f]? = some fn) (h : (pureish args || (scalF P f && peekish args)) = true) : pureish args = true ∨ (fn.resultTypes.toList.all (scalT P) = true ∧ peekish args = true) := by
 rw [Bool.or_eq_true, Bool.and_eq_true] at h
 refine h.imp id fun ⟨h1, h2⟩ => ⟨?_, h2⟩
 unfold scalF at h1
 rw [hfn] at h1
 exact h1
theorem sliceD_p {R : Type} (st st0 : St) (t : TypeId) (y : Pd) (lo hi mx : Option Dv) (k : Dv → St → Option R) : sliceD P st t (.p y) lo hi mx k = (sliceD P st0 t (.p y) lo hi mx (fun d _ => some d)).bind fun d => k d st := by
 unfold sliceD
 simp only [view1]
 repeat' (first | rfl | (rw [Option.bind_assoc]; congr 1; funext es) | split)
theorem sliceD_isP {st : St} {t : TypeId} {y : Pd} {lo hi mx : Option Dv} {d : Dv} (h : sliceD P st t (.p y) lo hi mx (fun d _ => some d) = some d) : ∃ x, d = .p x := by
 unfold sliceD at h
 simp only [view1] at h
 split at h
 ·cases h
 ·split at h
  ·cases h
  ·split at h
   ·split at h
    ·split at h
     ·cases h
     ·split at h
      ·injection h with h; exact ⟨_, h.symm⟩
      ·cases h
    ·cases h
   ·split at h
    ·cases h
    ·obtain ⟨es, _, h⟩ := Option.bind_eq_some_iff.1 h
     split at h
     ·cases h
     ·split at h
      ·injection h with h; exact ⟨_, h.symm⟩
      ·cases h
   ·cases h
theorem quiet_slice {t : TypeId} {x : Operand} {lo hi mx : Option Operand} (ho : o.op = .slice t x lo hi mx) (h : quietOK P o st = true) : ∃ y, opd P st t x = .p y := by
 unfold quietOK at h
 rw [ho] at h
 dsimp only at h
 split at h
 ·exact ⟨_, by assumption⟩
 ·cases h
theorem look_pr {call : CallF} (hl : lookOp o.op = true) (hq : quietOK P o st = true) {q : Dv × St} (h : stepOp call P o st pr = some q) : q.2 = st := by
 have fin : ∀ {x : Option Dv}, x.bind (fun d => pr d st) = some q → q.2 = st := by
  intro x hx
  obtain ⟨d, _, h2⟩ := of_pr hx
  rw [← h2]
 unfold stepOp at h
 split at h <;> rename_i ho <;> try (exfalso; rw [ho] at hl; exact Bool.noConfusion hl)
 ·injection h with h; rw [← h]
 ·injection h with h; rw [← h]
 ·split at h
  ·rw [pickD_bind] at h; exact fin h
  ·cases h
 ·split at h
  ·split at h
   ·split at h
    ·injection h with h; rw [← h]
    ·cases h
   ·cases h
  ·cases h
 ·rw [loadD_bind] at h; exact fin h
 ·split at h <;> first | (injection h with h; rw [← h]) | cases h
 ·rw [binD_bind] at h; exact fin h
 ·rw [unD_bind] at h; exact fin h
 ·rw [convD_bind] at h; exact fin h
 ·split at h
  ·split at h
   ·split at h <;> (injection h with h; rw [← h])
   ·cases h
  ·cases h
 ·obtain ⟨y, hy⟩ := quiet_slice ho hq
  rw [hy, sliceD_p st st] at h
  exact fin h
 ·rw [fieldAddrD_bind] at h; exact fin h
 ·rw [indexAddrD_bind] at h; exact fin h
 ·split at h
  ·rw [indexD_bind] at h; exact fin h
  ·cases h
 ·split at h
  ·split at h
   ·injection h with h; rw [← h]
   ·cases h
  ·cases h
 ·split at h <;> rename_i hc
  ·split at h
   ·rw [lenD_bind] at h; exact fin h
   ·cases h
  ·exfalso; rw [ho] at hl; simp only [lookOp, hc] at hl; exact Bool.noConfusion hl
  ·split at h
   ·injection h with h; rw [← h]
   ·cases h
  ·split at h
   ·injection h with h; rw [← h]
   ·cases h
  ·split at h
   ·rename_i f cap hf
    split at h
    ·rename_i fn hfn
     split at h
     ·unfold quietOK at hq
      rw [ho] at hq
      simp only [hc, hf, Bool.and_eq_true] at hq
      obtain ⟨hpf, hq⟩ := hq
      obtain ⟨T, L, O⟩ := st
      rw [callD_look (by simpa using hpf) (quiet_args hfn hq)] at h
      obtain ⟨ds, _, h3⟩ := Option.bind_eq_some_iff.1 h
      injection h3 with h3; rw [← h3]
     ·cases h
    ·cases h
   ·cases h
  ·cases h
 ·rw [lookD_bind] at h; exact fin h
 ·cases h
theorem opds_same {T T' : Tm} {L O : List Ob} : ∀ (xs : List Operand) (ts : List TypeId), (∀ x ∈ xs, ∀ t, opd P ⟨T', L, O⟩ t x = opd P ⟨T, L, O⟩ t x) → opds P ⟨T', L, O⟩ xs ts = opds P ⟨T, L, O⟩ xs ts
 | [], ts, h => rfl
 | x :: xs, [], h => by simp only [opds]; rw [h x (by simp), opds_same xs [] (fun y hy => h y (by simp [hy]))]
 | x :: xs, t :: ts, h => by simp only [opds]; rw [h x (by simp), opds_same xs ts (fun y hy => h y (by simp [hy]))]
theorem buildD_same {T T' : Tm} {L O : List Ob} {fs : Array Field} {c : Nat} : ∀ (ps : List (Nat × Operand)) (ds : List Dv), (∀ p ∈ ps, ∀ t, opd P ⟨T', L, O⟩ t p.2 = opd P ⟨T, L, O⟩ t p.2) → buildD P ⟨T', L, O⟩ fs c ds ps = buildD P ⟨T, L, O⟩ fs c ds ps
 | [], ds, h => rfl
 | (i, x) :: ps, ds, h => by
  have hx : ∀ t, opd P ⟨T', L, O⟩ t x = opd P ⟨T, L, O⟩ t x := h (i, x) (by simp)
  simp only [buildD, hx]
  split
  ·split
   ·split
    ·exact buildD_same ps _ (fun y hy => h y (by simp [hy]))
    ·rfl
   ·rfl
  ·rfl
theorem callee_same {T T' : Tm} {L O : List Ob} {x : Operand} (h : ∀ t, opd P ⟨T', L, O⟩ t x = opd P ⟨T, L, O⟩ t x) : callee P ⟨T', L, O⟩ x = callee P ⟨T, L, O⟩ x := by
 cases x with
 | tmp t =>
  have := h 0
  simp only [opd] at this
  simp only [callee, this]
 | _ => rfl
theorem quiet_same {T T' : Tm} {L O : List Ob} (h : ∀ x ∈ o.op.operands.toList, ∀ t, opd P ⟨T', L, O⟩ t x = opd P ⟨T, L, O⟩ t x) : quietOK P o ⟨T', L, O⟩ = quietOK P o ⟨T, L, O⟩ := by
 unfold quietOK
 split
 ·rename_i t len ps ho
  split
  ·rename_i e he
   rw [ho] at h
   have hl : (ps.toList.map fun q => opd P ⟨T', L, O⟩ e q.2) = ps.toList.map fun q => opd P ⟨T, L, O⟩ e q.2 := List.map_congr_left fun q hq => h q.2 (by
    have hq' : q ∈ ps := by simpa using hq
    simp only [Op.operands, Array.toList_map, List.mem_map]
    exact ⟨q, by simpa using hq', rfl⟩) e
   rw [hl]
  ·rfl
 ·rename_i c ho
  split
  ·rename_i x hc
   rw [ho] at h
   have h1 : ∀ t, opd P ⟨T', L, O⟩ t x = opd P ⟨T, L, O⟩ t x := h x (by simp [Op.operands, Call.operands, hc])
   have h2 : ∀ y ∈ c.args.toList, ∀ t, opd P ⟨T', L, O⟩ t y = opd P ⟨T, L, O⟩ t y := fun y hy => h y (by
    have : y ∈ c.args := by simpa using hy
    simp [Op.operands, Call.operands, hc, this])
   rw [callee_same h1, opds_same _ _ h2]
  ·rename_i hc
   rw [ho] at h
   have h2 : ∀ y ∈ c.args.toList, ∀ t, opd P ⟨T', L, O⟩ t y = opd P ⟨T, L, O⟩ t y := fun y hy => h y (by
    have : y ∈ c.args := by simpa using hy
    simp [Op.operands, Call.operands, hc, this])
   split
   ·rename_i a y he
    have ha := h2 (.tmp a) (by rw [he]; simp) 0
    have hy := h2 y (by rw [he]; simp)
    simp only [opd] at ha
    rw [ha]
    simp only [hy]
   ·rfl
  ·rfl
 ·rename_i t x _ _ _ ho
  rw [ho] at h
  rw [h x (by simp [Op.operands])]
 ·rfl
theorem look_same {call : CallF} {T T' : Tm} {L O : List Ob} (hl : lookOp o.op = true) (hq : quietOK P o ⟨T, L, O⟩ = true) (h : ∀ x ∈ o.op.operands.toList, ∀ t, opd P ⟨T', L, O⟩ t x = opd P ⟨T, L, O⟩ t x) :
 stepOp call P o ⟨T', L, O⟩ (fun d _ => some d) = stepOp call P o ⟨T, L, O⟩ (fun d _ => some d) := by
 unfold quietOK at hq
 unfold stepOp
 cases ho : o.op <;> simp only [ho, lookOp, Bool.false_eq_true] at hl <;> rw [ho] at h <;> simp only [Op.operands] at h
 case move x => simp only [h x (by simp)]
 case assign x => simp only [h x (by simp)]
 case pick c x y => simp only [h c (by simp), h x (by simp), h y (by simp)]
 case build t ps =>
  have hb : ∀ fs c ds, buildD P ⟨T', L, O⟩ fs c ds ps.toList = buildD P ⟨T, L, O⟩ fs c ds ps.toList := fun fs c ds => buildD_same _ _ fun p hp t => h p.2 (by
   have hp' : p ∈ ps := by simpa using hp
   simp only [Array.toList_map, List.mem_map]
   exact ⟨p, by simpa using hp', rfl⟩) t
  simp only [hb]
 case load t x => simp only [h x (by simp)]; rfl
 case nilCheck x => simp only [h x (by simp)]
 case binOp op t x y ty => simp only [h x (by simp), h y (by simp)]
 case unOp op t x => simp only [h x (by simp)]
 case convert s t x => simp only [h x (by simp)]; rfl
 case makeFunc fn first cap =>
  have hb : opds P ⟨T', L, O⟩ cap.toList [] = opds P ⟨T, L, O⟩ cap.toList [] := opds_same _ _ fun x hx => h x (by
   have : x ∈ cap := by simpa using hx
   simp [this])
  simp only [hb]
 case slice t x lo hi mx =>
  obtain ⟨y, hy⟩ := quiet_slice (o := o) (st := ⟨T, L, O⟩) ho (by unfold quietOK; exact hq)
  have hx := h x (by simp) t
  show sliceD P ⟨T', L, O⟩ t (opd P ⟨T', L, O⟩ t x) (lo.map (opd P ⟨T', L, O⟩ 0)) (hi.map (opd P ⟨T', L, O⟩ 0)) (mx.map (opd P ⟨T', L, O⟩ 0)) (fun d _ => some d) = sliceD P ⟨T, L, O⟩ t (opd P ⟨T, L, O⟩ t x) (lo.map (opd P ⟨T, L, O⟩ 0)) (hi.map (opd P ⟨T, L, O⟩ 0)) (mx.map (opd P ⟨T, L, O⟩ 0)) (fun d _ => some d)
  rw [hx, hy]
  have ho' : ∀ z : Option Operand, (∀ u, z = some u → opd P ⟨T', L, O⟩ 0 u = opd P ⟨T, L, O⟩ 0 u) → z.map (opd P ⟨T', L, O⟩ 0) = z.map (opd P ⟨T, L, O⟩ 0) := by
   intro z hz
   cases z with
   | none => rfl
   | some u => simp only [Option.map_some, hz u rfl]
  rw [ho' lo (fun u e => h u (by simp [e]) 0), ho' hi (fun u e => h u (by simp [e]) 0), ho' mx (fun u e => h u (by simp [e]) 0)]
  refine (sliceD_p ⟨T', L, O⟩ ⟨T, L, O⟩ t y _ _ _ _).trans ?_
  exact Option.bind_fun_some _
 case fieldAddr t x f => simp only [h x (by simp)]
 case indexAddr t x i => simp only [h x (by simp), h i (by simp)]; rfl
 case index t x i => simp only [h x (by simp), h i (by simp)]
 case extract t i => simp only [h t (by simp)]
 case lookup t m x ok => simp only [h m (by simp), h x (by simp)]; rfl
 case call c =>
  have h2 : ∀ y ∈ c.args.toList, ∀ t, opd P ⟨T', L, O⟩ t y = opd P ⟨T, L, O⟩ t y := fun y hy => h y (by
   have : y ∈ c.args := by simpa using hy
   cases hc : c.callee <;> simp [Call.operands, hc, this])
  cases hc : c.callee with
  | builtin b =>
   cases b <;> simp only [hc, Bool.false_eq_true] at hl
   case len =>
    simp only [hc]
    split
    ·rename_i x t hx ht
     rw [h2 x (by rw [hx]; simp)]; rfl
    ·rfl
   case max => simp only [hc]; rw [opds_same _ _ h2]
   case min => simp only [hc]; rw [opds_same _ _ h2]
  | value x =>
   have h1 : ∀ t, opd P ⟨T', L, O⟩ t x = opd P ⟨T, L, O⟩ t x := h x (by simp [Call.operands, hc])
   simp only [hc]
   rw [callee_same h1, opds_same _ _ h2]
   split
   ·rename_i f cap hf
    split
    ·rename_i fn hfn
     split
     ·rw [ho] at hq
      simp only [hc, hf, Bool.and_eq_true] at hq
      obtain ⟨hpf, hq⟩ := hq
      rw [callD_look (by simpa using hpf) (quiet_args hfn hq), callD_look (by simpa using hpf) (quiet_args hfn hq)]
     ·rfl
    ·rfl
   ·rfl
  | invoke r m => simp only [hc, Bool.false_eq_true] at hl
theorem put_LO (st : St) (dst : Option Tmp) (v : Dv) : (st.put dst v).L = st.L ∧ (st.put dst v).O = st.O := by cases dst <;> exact ⟨rfl, rfl⟩
mutual
theorem scrub_id (m : Nm) : ∀ d : Dv, mentD m d = false → scrub m d = d
 | .ptr m' off, h => by simp only [mentD, decide_eq_false_iff_not] at h; simp only [scrub, if_neg h]
 | .arr m', h => by simp only [mentD, decide_eq_false_iff_not] at h; simp only [scrub, if_neg h]
 | .el m' j s off, h => by simp only [mentD, decide_eq_false_iff_not] at h; simp only [scrub, if_neg h]
 | .mp m', h => by simp only [mentD, decide_eq_false_iff_not] at h; simp only [scrub, if_neg h]
 | .sub m' j s off e s', h => by simp only [mentD, decide_eq_false_iff_not] at h; simp only [scrub, if_neg h]
 | .agg n ds, h => by simp only [mentD] at h; simp only [scrub, scrubs_id m ds h]
 | .fn f ds, h => by simp only [mentD] at h; simp only [scrub, scrubs_id m ds h]
 | .tup ds, h => by simp only [mentD] at h; simp only [scrub, scrubs_id m ds h]
 | .p x, _ => by simp only [scrub]
 | .nilsl s, _ => by simp only [scrub]
 | .ro s cs, _ => by simp only [scrub]
theorem scrubs_id (m : Nm) : ∀ ds : List Dv, mentDs m ds = false → scrub.scrubs m ds = ds
 | [], _ => by simp only [scrub.scrubs]
 | d :: ds, h => by simp only [mentDs, Bool.or_eq_false_iff] at h; simp only [scrub.scrubs, scrub_id m d h.1, scrubs_id m ds h.2]
end
theorem mentDs_iff {m : Nm} : ∀ {ds : List Dv}, mentDs m ds = false ↔ ∀ d ∈ ds, mentD m d = false
 | [] => ⟨(fun _ d h => by cases h), fun _ => rfl⟩
 | d :: ds => by
  simp only [mentDs, Bool.or_eq_false_iff, mentDs_iff (ds := ds), List.mem_cons, forall_eq_or_imp]
structure Clean (m : Nm) (st : St) : Prop where
 T : ∀ j, mentD m (st.T.getD j ud) = false
 L : ∀ o ∈ st.L, mentOb m o = false
 O : ∀ o ∈ st.O, mentOb m o = false
theorem ment_getD {m : Nm} {ds : List Dv} (h : ∀ d ∈ ds, mentD m d = false) (i : Nat) : mentD m (ds.getD i ud) = false := by
 rw [List.getD_eq_getElem?_getD]
 cases hx : ds[i]? with
 | none => rfl
 | some d => exact h d (List.mem_of_getElem? hx)
theorem ment_getOb {m : Nm} {st : St} (h : Clean m st) (n : Nm) : mentOb m (getOb st.L st.O n) = false := by
 have one : ∀ (l : List Ob) (i : Nat), (∀ o ∈ l, mentOb m o = false) → mentOb m (l.getD i .none) = false := fun l i hl => by
  rw [List.getD_eq_getElem?_getD]
  cases hx : l[i]? with
  | none => rfl
  | some d => exact hl d (List.mem_of_getElem? hx)
 cases n with
 | loc s => exact one _ _ h.L
 | out i => exact one _ _ h.O
theorem scrubOb_id {m : Nm} {o : Ob} (h : mentOb m o = false) : scrubOb m o = o := by
 cases o with
 | mbox n ds =>
  simp only [mentOb] at h
  have : ds.map (scrub m) = ds := by
   rw [List.map_congr_left (g := id) (fun d hd => scrub_id m d (mentDs_iff.1 h d hd)), List.map_id]
  simp only [scrubOb, this]
 | marr e s es lk =>
  match lk, h with
  | none, _ => rfl
  | some (j, off, n), h =>
   simp only [mentOb, decide_eq_false_iff_not] at h
   simp only [scrubOb, unlk, if_neg h]
 | gmap e s es lk =>
  match lk, h with
  | none, _ => rfl
  | some (j, n), h =>
   simp only [mentOb, decide_eq_false_iff_not] at h
   simp only [scrubOb, unlkG, if_neg h]
 | _ => rfl
theorem aggD_ment {m : Nm} {ds : List Dv} (n : Nat) (h : mentDs m ds = false) : mentD m (aggD n ds) = false := by
 unfold aggD
 split
 ·rfl
 ·simp only [mentD]; exact h
theorem constC_ment {m : Nm} (s : Nat) (v : Value) : mentD m (constC s v) = false := by
 unfold constC
 split <;> rfl
theorem zeroC_ment {m : Nm} : ∀ (ss : List Nat) (vs : List Value), mentDs m (zeroC ss vs) = false
 | [], [] => rfl
 | s :: ss, [] => rfl
 | [], v :: vs => by simp only [zeroC, mentDs, constC_ment, zeroC_ment [] vs, Bool.or_self]
 | s :: ss, v :: vs => by simp only [zeroC, mentDs, constC_ment, zeroC_ment ss vs, Bool.or_self]
theorem opd_ment {m : Nm} {st : St} (h : Clean m st) (t : TypeId) (x : Operand) : mentD m (opd P st t x) = false := by
 cases x with
 | tmp y => exact h.T y
 | const v =>
  simp only [opd]
  unfold constD
  split
  ·split
   ·exact aggD_ment _ (zeroC_ment _ _)
   ·rfl
  ·exact constC_ment _ _
 | func f => rfl
 | global g => rfl
theorem loadD_ment {m : Nm} {st : St} {t : TypeId} {a d : Dv} (hc : Clean m st) (ha : mentD m a = false) (h : loadD P st t a some = some d) : mentD m d = false := by
 have hp : ∀ {x : Pd} {d : Dv}, cellAs P t x some = some d → mentD m d = false := fun hx => by rw [(cellAs_eq hx).1]; rfl
 unfold loadD at h
 split at h
 ·cases h
 split at h
 ·rename_i m' off
  have hob := ment_getOb hc m'
  split at h
  ·split at h
   ·split at h
    ·injection h with h; subst h; rfl
    ·split at h
     ·exact hp h
     ·cases h
   ·cases h
  ·rename_i c ds hm
   rw [hm] at hob
   simp only [mentOb] at hob
   have hds := mentDs_iff.1 hob
   split at h
   ·split at h
    ·injection h with h; subst h
     refine aggD_ment _ (mentDs_iff.2 fun d hd => hds d ?_)
     have := List.mem_of_mem_take hd
     unfold dropD at this
     split at this
     ·exact this
     ·exact List.mem_of_mem_drop this
    ·split at h
     ·unfold cellDv at h
      split at h
      ·exact hp h
      ·split at h
       ·injection h with h; subst h; exact ment_getD hds _
       ·cases h
     ·cases h
   ·cases h
  ·cases h
 ·split at h
  ·split at h
   ·injection h with h; subst h; rfl
   ·split at h
    ·exact hp h
    ·cases h
  ·cases h
 ·split at h
  ·split at h
   ·split at h
    ·injection h with h; subst h; rfl
    ·split at h
     ·exact hp h
     ·cases h
   ·cases h
  ·split at h
   ·split at h
    ·cases h
    ·split at h
     ·split at h
      ·obtain ⟨_, _, h⟩ := Option.bind_eq_some_iff.1 h
       injection h with h; subst h
       simp only [mentD] at ha ⊢
       exact ha
      ·exact hp h
     ·cases h
   ·cases h
  ·split at h
   ·split at h
    ·split at h
     ·injection h with h; subst h; rfl
     ·cases h
    ·split at h
     ·split at h
      ·cases h
      ·exact hp h
     ·cases h
   ·cases h
  ·cases h
 ·cases h
theorem intD_p {op : BinOp} {kk : IntKind} {a b : Int} {d : Dv} (h : intD op kk a b some = some d) : ∃ x, d = .p x := by
 unfold intD at h
 repeat' (first | (injection h with h; exact ⟨_, h.symm⟩) | cases h | split at h)
theorem strD_p {op : BinOp} {a b : ByteArray} {d : Dv} (h : strD op a b some = some d) : ∃ x, d = .p x := by
 unfold strD at h
 repeat' (first | (injection h with h; exact ⟨_, h.symm⟩) | cases h | split at h)
theorem binD_p {op : BinOp} {t : TypeId} {x y d : Dv} (h : binD P op t x y some = some d) : ∃ x, d = .p x := by
 unfold binD at h
 repeat' (first | (exact intD_p h) | (exact strD_p h) | (injection h with h; exact ⟨_, h.symm⟩) | cases h | (rw [eqCells_bind] at h; obtain ⟨b, _, h⟩ := Option.bind_eq_some_iff.1 h; injection h with h; exact ⟨_, h.symm⟩) | split at h)
theorem unD_p {op : UnOp} {x d : Dv} (h : unD op x some = some d) : ∃ x, d = .p x := by
 unfold unD at h
 repeat' (first | (injection h with h; exact ⟨_, h.symm⟩) | cases h | split at h)
theorem convD_p {st : St} {src dst : TypeId} {x d : Dv} (h : convD P st src dst x some = some d) : ∃ x, d = .p x := by
 unfold convD at h
 repeat' (first | (injection h with h; exact ⟨_, h.symm⟩) | cases h | (obtain ⟨es, _, h⟩ := Option.bind_eq_some_iff.1 h; obtain ⟨l, _, h⟩ := Option.bind_eq_some_iff.1 h; injection h with h; exact ⟨_, h.symm⟩) | split at h)
theorem indexD_p {x i d : Dv} (h : indexD x i some = some d) : ∃ x, d = .p x := by
 unfold indexD at h
 repeat' (first | (injection h with h; exact ⟨_, h.symm⟩) | cases h | split at h)
theorem lenD_p {t : TypeId} {st : St} {x d : Dv} (h : lenD P t st x some = some d) : ∃ x, d = .p x := by
 unfold lenD at h
 repeat' (first | (injection h with h; exact ⟨_, h.symm⟩) | cases h | split at h)
theorem fieldAddrD_ment {m : Nm} {t : TypeId} {f : Nat} {a d : Dv} (ha : mentD m a = false) (h : fieldAddrD P t f a some = some d) : mentD m d = false := by
 unfold fieldAddrD at h
 repeat' (first | (injection h with h; subst h; first | exact ha | rfl) | cases h | split at h)
theorem indexAddrD_ment {m : Nm} {t : TypeId} {st : St} {a i d : Dv} (ha : mentD m a = false) (h : indexAddrD P st t a i some = some d) : mentD m d = false := by
 unfold indexAddrD at h
 repeat' (first | (injection h with h; subst h; first | exact ha | rfl) | cases h | split at h)
theorem retV_ment {m : Nm} (ys : List Pd) : mentD m (retV (ys.map .p)) = false := by
 match ys with
 | [] => rfl
 | [y] => rfl
 | y :: z :: ys =>
  simp only [List.map_cons, retV, mentD]
  exact mentDs_iff.2 fun d hd => by
   rw [← List.map_cons, ← List.map_cons, List.mem_map] at hd
   obtain ⟨x, _, rfl⟩ := hd
   rfl
theorem cellV_ment {m : Nm} {v : Dv} (h : mentD m v = false) (j : Nat) : mentD m (cellV v j) = false := by
 unfold cellV
 split
 ·rfl
 ·simp only [mentD] at h
  exact ment_getD (mentDs_iff.1 h) j
 ·exact h
theorem buildD_ment {m : Nm} {st : St} {fs : Array Field} {c : Nat} (hc : Clean m st) : ∀ (ps : List (Nat × Operand)) (ds ds' : List Dv), mentDs m ds = false → buildD P st fs c ds ps = some ds' → mentDs m ds' = false
 | [], ds, ds', h, hb => by
  simp only [buildD] at hb
  injection hb with hb; subst hb; exact h
 | (i, x) :: ps, ds, ds', h, hb => by
  simp only [buildD] at hb
  split at hb
  ·split at hb
   ·split at hb
    ·refine buildD_ment hc ps _ ds' (mentDs_iff.2 fun d hd => ?_) hb
     unfold mixD at hd
     obtain ⟨j, _, rfl⟩ := List.mem_map.1 hd
     split
     ·exact cellV_ment (opd_ment hc _ _) _
     ·exact ment_getD (mentDs_iff.1 h) j
    ·cases hb
   ·cases hb
  ·cases hb
theorem zeroD_ment {m : Nm} {t : TypeId} {zs : List Dv} (hz : zeroD P t = some zs) : mentDs m zs = false := by
 unfold zeroD at hz
 split at hz
 ·split at hz
  ·split at hz
   ·injection hz with hz; rw [← hz]; exact zeroC_ment _ _
   ·cases hz
  ·cases hz
 ·cases hz
theorem opds_ment {m : Nm} {st : St} (hop : ∀ t x, mentD m (opd P st t x) = false) : ∀ (xs : List Operand) (ts : List TypeId), ∀ d ∈ opds P st xs ts, mentD m d = false
 | [], ts, d, h => by cases ts <;> simp [opds] at h
 | x :: xs, [], d, h => by
  simp only [opds, List.mem_cons] at h
  rcases h with rfl | h
  ·exact hop _ _
  ·exact opds_ment hop xs [] d h
 | x :: xs, t :: ts, d, h => by
  simp only [opds, List.mem_cons] at h
  rcases h with rfl | h
  ·exact hop _ _
  ·exact opds_ment hop xs ts d h
theorem lookD_ment {t : TypeId} {m x : Dv} {ok : Bool} {d : Dv} {n : Nm} (h : lookD P st t m x ok some = some d) : mentD n d = false := by
 unfold lookD at h
 split at h
 ·cases h
 ·split at h
  ·split at h
   ·split at h
    ·rw [cellAs_bind] at h
     obtain ⟨y, h1, h2⟩ := Option.bind_eq_some_iff.1 h
     have hx : mentD n y = false := by rw [(cellAs_eq h1).1]; rfl
     injection h2 with h2; rw [← h2]
     cases ok
     ·exact hx
     ·simp only [cond_true, mentD, mentDs, hx, Bool.or_self]
    ·cases h
   ·cases h
  ·cases h
theorem mentDs_of_mem {m : Nm} {d : Dv} {ds : List Dv} (hd : d ∈ ds) (h : mentD m d = true) : mentDs m ds = true := by
 cases hx : mentDs m ds with
 | true => rfl
 | false => rw [mentDs_iff.1 hx d hd] at h; cases h
theorem look_ment {call : CallF} {m : Nm} (hl : lookOp o.op = true) (hq : quietOK P o st = true) (hc : Clean m st) (h : stepOp call P o st (fun d _ => some d) = some d) : mentD m d = false := by
 have hop : ∀ t x, mentD m (opd P st t x) = false := fun t x => opd_ment hc t x
 have fp : (∃ x, d = Dv.p x) → mentD m d = false := fun ⟨x, e⟩ => by rw [e]; rfl
 unfold stepOp at h
 split at h <;> rename_i ho <;> try (exfalso; rw [ho] at hl; exact Bool.noConfusion hl)
 ·injection h with h; rw [← h]; exact hop _ _
 ·injection h with h; rw [← h]; exact hop _ _
 ·split at h
  ·unfold pickD at h
   split at h
   ·injection h with h; rw [← h]; rfl
   ·rename_i b _ _ _ _
    cases b with
    | true => simp only [cond_true] at h; injection h with h; rw [← h]; exact hop _ _
    | false => simp only [cond_false] at h; injection h with h; rw [← h]; exact hop _ _
  ·cases h
 ·split at h
  ·rename_i zs _ hz
   split at h
   ·split at h
    ·rename_i ds hb
     injection h with h; rw [← h]
     exact aggD_ment _ (buildD_ment hc _ _ _ (zeroD_ment hz) hb)
    ·cases h
   ·cases h
  ·cases h
 ·exact loadD_ment hc (hop _ _) h
 ·rename_i x
  have hx := hop 0 x
  split at h <;> first | (rename_i e; rw [e] at hx; injection h with h; rw [← h]; exact hx) | cases h
 ·exact fp (binD_p h)
 ·exact fp (unD_p h)
 ·exact fp (convD_p h)
 ·rename_i cap _
  split at h
  ·split at h
   ·split at h
    ·injection h with h; rw [← h]; rfl
    ·rename_i d0 ds e
     injection h with h; rw [← h]
     simp only [mentD]
     rw [← e]
     exact mentDs_iff.2 fun x hx => opds_ment hop _ _ x hx
   ·cases h
  ·cases h
 ·obtain ⟨y, hy⟩ := quiet_slice ho hq
  rw [hy] at h
  exact fp (sliceD_isP h)
 ·exact fieldAddrD_ment (hop _ _) h
 ·exact indexAddrD_ment (hop _ _) h
 ·split at h
  ·exact fp (indexD_p h)
  ·cases h
 ·rename_i t i
  have hx := hop 0 t
  split at h
  ·rename_i ds e
   rw [e] at hx
   simp only [mentD] at hx
   split at h
   ·rename_i d' hd
    injection h with h; rw [← h]
    exact mentDs_iff.1 hx _ (List.mem_of_getElem? hd)
   ·cases h
  ·cases h
 ·split at h <;> rename_i hcl
  ·split at h
   ·exact fp (lenD_p h)
   ·cases h
  ·exfalso; rw [ho] at hl; simp only [lookOp, hcl] at hl; exact Bool.noConfusion hl
  ·split at h
   ·injection h with h; rw [← h]; rfl
   ·cases h
  ·split at h
   ·injection h with h; rw [← h]; rfl
   ·cases h
  ·split at h
   ·rename_i f cap hf
    split at h
    ·rename_i fn hfn
     split at h
     ·unfold quietOK at hq
      rw [ho] at hq
      simp only [hcl, hf, Bool.and_eq_true] at hq
      obtain ⟨hpf, hq⟩ := hq
      obtain ⟨T, L, O⟩ := st
      rw [callD_look (by simpa using hpf) (quiet_args hfn hq)] at h
      obtain ⟨ds, h2, h3⟩ := Option.bind_eq_some_iff.1 h
      obtain ⟨as, _, h2⟩ := Option.bind_eq_some_iff.1 h2
      obtain ⟨r, _, h4⟩ := Option.bind_eq_some_iff.1 h2
      injection h3 with h3; rw [← h3]
      obtain ⟨ys, e1, _⟩ := castRs_eq _ _ _ _ h4
      rw [e1, List.nil_append]
      exact retV_ment ys
     ·cases h
    ·cases h
   ·cases h
  ·cases h
 ·exact lookD_ment h
 ·cases h
theorem peek1_ag {L O L' O' : List Ob} {d : Dv} (h : ∀ m, mentD m d = true → getOb L' O' m = getOb L O m) : peek1 L' O' d = peek1 L O d := by
 cases d <;> try rfl
 rename_i n
 simp only [peek1, h n (by simp [mentD])]
theorem peeks_ag {L O L' O' : List Ob} : ∀ {ds : List Dv}, (∀ m, mentDs m ds = true → getOb L' O' m = getOb L O m) → peeks L' O' ds = peeks L O ds
 | [], _ => rfl
 | d :: ds, h => by
  simp only [peeks, peek1_ag (L := L) (O := O) (L' := L') (O' := O') (d := d) (fun m q => h m (by simp [mentDs, q])), peeks_ag (L := L) (O := O) (L' := L') (O' := O') (ds := ds) (fun m q => h m (by simp [mentDs, q]))]
theorem peek_ag {L O L' O' : List Ob} {d : Dv} (h : ∀ m, mentD m d = true → getOb L' O' m = getOb L O m) : peek L' O' d = peek L O d := by
 unfold peek
 split
 ·rw [peeks_ag fun m q => h m (by simpa [mentD] using q)]
 ·exact peek1_ag h
theorem peekAll_ag {L O L' O' : List Ob} : ∀ {ds : List Dv}, (∀ d ∈ ds, ∀ m, mentD m d = true → getOb L' O' m = getOb L O m) → peekAll L' O' ds = peekAll L O ds
 | [], _ => rfl
 | d :: ds, h => by
  simp only [peekAll, peek_ag (L := L) (O := O) (L' := L') (O' := O') (h d (List.mem_cons_self ..)), peekAll_ag (L := L) (O := O) (L' := L') (O' := O') (ds := ds) (fun d hd => h d (List.mem_cons_of_mem _ hd))]
theorem opds_mem {st : St} : ∀ (xs : List Operand) (ts : List TypeId), ∀ d ∈ opds P st xs ts, ∃ x ∈ xs, ∃ t, d = opd P st t x
 | [], ts, d, h => by cases ts <;> simp [opds] at h
 | x :: xs, [], d, h => by
  simp only [opds, List.mem_cons] at h
  rcases h with rfl | h
  ·exact ⟨x, by simp, _, rfl⟩
  ·obtain ⟨y, h1, h2⟩ := opds_mem xs [] d h
   exact ⟨y, by simp [h1], h2⟩
 | x :: xs, t :: ts, d, h => by
  simp only [opds, List.mem_cons] at h
  rcases h with rfl | h
  ·exact ⟨x, by simp, _, rfl⟩
  ·obtain ⟨y, h1, h2⟩ := opds_mem xs ts d h
   exact ⟨y, by simp [h1], h2⟩
theorem opd_L (T : Tm) (L O L' O' : List Ob) (t : TypeId) (x : Operand) : opd P ⟨T, L', O'⟩ t x = opd P ⟨T, L, O⟩ t x := by cases x <;> rfl
theorem opds_L (T : Tm) (L O L' O' : List Ob) : ∀ xs ts, opds P ⟨T, L', O'⟩ xs ts = opds P ⟨T, L, O⟩ xs ts := by
 intro xs
 induction xs with
 | nil => intro ts; rfl
 | cons x xs ih =>
  intro ts
  cases ts with
  | nil => simp only [opds, opd_L T L O L' O', ih]
  | cons t ts => simp only [opds, opd_L T L O L' O', ih]
theorem quiet_L (T : Tm) (L O L' O' : List Ob) : quietOK P o ⟨T, L', O'⟩ = quietOK P o ⟨T, L, O⟩ := by
 unfold quietOK
 split
 ·split
  ·simp only [opd_L T L O L' O']
  ·rfl
 ·split
  ·rename_i x hc
   have hcal : callee P ⟨T, L', O'⟩ x = callee P ⟨T, L, O⟩ x := by cases x <;> rfl
   rw [hcal, opds_L T L O L' O']
  ·simp only [opd_L T L O L' O']
  ·rfl
 ·simp only [opd_L T L O L' O']
 ·rfl
theorem look_obs {call : CallF} {T : Tm} {L O L' O' : List Ob} (hl : lookOp o.op = true) (hq : quietOK P o ⟨T, L, O⟩ = true) (h : ∀ x ∈ o.op.operands.toList, ∀ t m, mentD m (opd P ⟨T, L, O⟩ t x) = true → getOb L' O' m = getOb L O m) :
 stepOp call P o ⟨T, L', O'⟩ (fun d _ => some d) = stepOp call P o ⟨T, L, O⟩ (fun d _ => some d) := by
 have hsame : ∀ t x, opd P ⟨T, L', O'⟩ t x = opd P ⟨T, L, O⟩ t x := fun t x => opd_L T L O L' O' t x
 have hopds : ∀ xs ts, opds P ⟨T, L', O'⟩ xs ts = opds P ⟨T, L, O⟩ xs ts := opds_L T L O L' O'
 unfold stepOp
 cases ho : o.op <;> simp only [ho, lookOp, Bool.false_eq_true] at hl <;> rw [ho] at h <;> simp only [Op.operands] at h
 case move x => simp only [hsame]
 case assign x => simp only [hsame]
 case pick c x y => simp only [hsame]
 case build t ps =>
  have hb : ∀ fs c ds (ps : List (Nat × Operand)), buildD P ⟨T, L', O'⟩ fs c ds ps = buildD P ⟨T, L, O⟩ fs c ds ps := by
   intro fs c ds ps
   induction ps generalizing ds with
   | nil => rfl
   | cons p ps ih => simp only [buildD, hsame, ih]
  simp only [hb]
 case load t x =>
  simp only [hsame]
  have hx := h x (by simp) 0
  generalize opd P ⟨T, L, O⟩ 0 x = a at hx
  unfold loadD
  cases a <;> (try rfl)
  ·rename_i n _
   simp only [hx n (by simp [mentD])]
  ·rename_i n _ _ _
   simp only [hx n (by simp [mentD])]
 case nilCheck x => simp only [hsame]
 case binOp op t x y ty => simp only [hsame]
 case unOp op t x => simp only [hsame]
 case convert sr dt x =>
  simp only [hsame]
  have hx := h x (by simp) sr
  generalize opd P ⟨T, L, O⟩ sr x = a at hx
  unfold convD
  have hv : ∀ {R : Type} (k : Pd → Option R), (match view1 L' O' a with | some (y, _, _) => k y | none => none) = (match view1 L O a with | some (y, _, _) => k y | none => none) := by
   intro R k
   cases a <;> (try rfl)
   rename_i n
   simp only [view1, hx n (by simp [mentD])]
   rcases getOb L O n with _ | _ | _ | _ | _ | _ | ⟨_, _, _, _ | _⟩ <;> first | rfl | (cases hil : isLoc n <;> simp only [hil, Bool.false_eq_true, if_false, if_true])
  split
  ·rfl
  ·rfl
  ·split
   ·exact hv _
   ·rfl
  ·rfl
 case makeFunc fn first cap => simp only [hopds]
 case slice t x lo hi mx =>
  obtain ⟨y, hy⟩ := quiet_slice ho hq
  have he : ∀ z : Option Operand, z.map (opd P ⟨T, L', O'⟩ 0) = z.map (opd P ⟨T, L, O⟩ 0) := by
   intro z
   cases z with
   | none => rfl
   | some u => simp only [Option.map_some, hsame]
  simp only [hsame, he]
  rw [hy]
  refine (sliceD_p ⟨T, L', O'⟩ ⟨T, L, O⟩ t y _ _ _ _).trans ?_
  exact Option.bind_fun_some _
 case fieldAddr t x f => simp only [hsame]
 case indexAddr t x i =>
  simp only [hsame]
  have hx := h x (by simp) t
  generalize opd P ⟨T, L, O⟩ t x = a at hx
  unfold indexAddrD
  split
  ·cases a with
   | arr m' =>
    dsimp only
    rw [hx m' (by simp [mentD])]
   | p y => cases y <;> rfl
   | _ => rfl
  ·rfl
 case index t x i => simp only [hsame]
 case extract t i => simp only [hsame]
 case lookup t m x ok =>
  simp only [hsame]
  have hx := h m (by simp) t
  generalize opd P ⟨T, L, O⟩ t m = a at hx
  unfold lookD
  split
  ·rfl
  ·cases a with
   | mp n =>
    have := hx n (by simp [mentD])
    generalize opd P ⟨T, L, O⟩ 0 x = b
    cases b with
    | p y =>
     cases y with
     | str key => dsimp only; rw [this]
     | _ => rfl
    | _ => rfl
   | _ => rfl
 case call c =>
  have h2 : ∀ y ∈ c.args.toList, ∀ t m, mentD m (opd P ⟨T, L, O⟩ t y) = true → getOb L' O' m = getOb L O m := fun y hy => h y (by
   have : y ∈ c.args := by simpa using hy
   cases hc : c.callee <;> simp [Call.operands, hc, this])
  cases hcl : c.callee with
  | builtin b =>
   cases b <;> simp only [hcl, Bool.false_eq_true] at hl
   case len =>
    simp only [hcl]
    split
    ·rename_i x t hx ht
     simp only [hsame]
     have hx := h2 x (by rw [hx]; simp) t
     generalize opd P ⟨T, L, O⟩ t x = a at hx
     unfold lenD
     split
     ·cases a with
      | p y => cases y <;> rfl
      | _ => rfl
     ·cases a with
      | arr m' =>
       dsimp only
       rw [hx m' (by simp [mentD])]
      | p y => cases y <;> rfl
      | _ => rfl
     ·rfl
    ·rfl
   case max => simp only [hcl, hopds]
   case min => simp only [hcl, hopds]
  | value x =>
   simp only [hcl]
   have h1 : ∀ t m, mentD m (opd P ⟨T, L, O⟩ t x) = true → getOb L' O' m = getOb L O m := h x (by simp [Call.operands, hcl])
   have hcal : callee P ⟨T, L', O'⟩ x = callee P ⟨T, L, O⟩ x := by cases x <;> rfl
   rw [hcal, hopds]
   split
   ·rename_i f cap hf
    split
    ·rename_i fn hfn
     split
     ·unfold quietOK at hq
      rw [ho] at hq
      simp only [hcl, hf, Bool.and_eq_true] at hq
      obtain ⟨hpf, hq⟩ := hq
      rw [callD_look (by simpa using hpf) (quiet_args hfn hq), callD_look (by simpa using hpf) (quiet_args hfn hq)]
      have : callV P fn.resultTypes.toList call L' O' f (opds P ⟨T, L, O⟩ c.args.toList c.argTypes.toList ++ cap) = callV P fn.resultTypes.toList call L O f (opds P ⟨T, L, O⟩ c.args.toList c.argTypes.toList ++ cap) := by
       unfold callV
       rw [peekAll_ag]
       intro d hd m hm
       rcases List.mem_append.1 hd with hd | hd
       ·obtain ⟨y, hy, t, rfl⟩ := opds_mem _ _ d hd
        exact h2 y hy t m hm
       ·unfold callee at hf
        split at hf
        ·injection hf with hf; injection hf with _ hf; subst hf; cases hd
        ·rename_i t
         have ht := h1 0 m
         simp only [opd] at ht
         split at hf
         ·injection hf with hf; injection hf with _ hf; subst hf; cases hd
         ·rename_i e
          rw [e] at ht
          injection hf with hf; injection hf with _ hf; subst hf
          exact ht (by simp only [mentD]; exact mentDs_of_mem hd hm)
         ·cases hf
        ·cases hf
      rw [this]
     ·rfl
    ·rfl
   ·rfl
  | invoke r m => simp only [hcl, Bool.false_eq_true] at hl
theorem look_agree {call : CallF} (hl : lookOp o.op = true) (hq : quietOK P o st = true) (h1 : ∀ x ∈ o.op.operands.toList, ∀ t, opd P st' t x = opd P st t x)
 (h2 : ∀ x ∈ o.op.operands.toList, ∀ t m, mentD m (opd P st t x) = true → getOb st'.L st'.O m = getOb st.L st.O m) :
 quietOK P o st' = true ∧ stepOp call P o st' (fun d _ => some d) = stepOp call P o st (fun d _ => some d) := by
 obtain ⟨T, L, O⟩ := st
 obtain ⟨T', L', O'⟩ := st'
 have e : ∀ t x, opd P ⟨T', L, O⟩ t x = opd P ⟨T', L', O'⟩ t x := fun t x => opd_L T' L' O' L O t x
 have h1' : ∀ x ∈ o.op.operands.toList, ∀ t, opd P ⟨T', L, O⟩ t x = opd P ⟨T, L, O⟩ t x := fun x hx t => (e t x).trans (h1 x hx t)
 have hq' : quietOK P o ⟨T', L, O⟩ = true := by rw [quiet_same h1']; exact hq
 refine ⟨by rw [quiet_L T' L O L' O']; exact hq', ?_⟩
 rw [look_obs hl hq' (fun x hx t m hm => h2 x hx t m (by rw [h1' x hx t] at hm; exact hm)), look_same hl hq h1']
theorem isBo_inv (h : isBo o = true) : ((∃ t len ps, o.op = .buildSlice t len ps) ∨ ∃ t, o.op = .alloc t) ∧ ∃ s, o.dst = some s := by
 unfold isBo at h
 split at h
 ·rename_i t len ps s h1 h2
  exact ⟨.inl ⟨t, len, ps, h1⟩, s, h2⟩
 ·rename_i t s h1 h2
  exact ⟨.inr ⟨t, h1⟩, s, h2⟩
 ·cases h
theorem allPd_view : ∀ {ds : List Dv}, allPd ds = true → ∃ xs : List Pd, ∀ L O, viewAll L O ds = some (xs, L, O)
 | [], _ => ⟨[], fun _ _ => rfl⟩
 | .p x :: ds, h => by
  obtain ⟨xs, q⟩ := allPd_view (ds := ds) h
  exact ⟨x :: xs, fun L O => by simp only [viewAll, view, view1, q]⟩
 | .nilsl _ :: _, h => by cases h
 | .ptr .. :: _, h => by cases h
 | .arr _ :: _, h => by cases h
 | .el .. :: _, h => by cases h
 | .ro .. :: _, h => by cases h
 | .agg .. :: _, h => by cases h
 | .fn .. :: _, h => by cases h
 | .tup _ :: _, h => by cases h
 | .mp _ :: _, h => by cases h
 | .sub .. :: _, h => by cases h
theorem build_ops {t : TypeId} {len : Nat} {ps : Array (Nat × Operand)} (ho : o.op = .buildSlice t len ps) {st st' : St} (h : ∀ x ∈ o.op.operands.toList, ∀ t, opd P st' t x = opd P st t x) (e : TypeId) : (ps.toList.map fun q => opd P st' e q.2) = ps.toList.map fun q => opd P st e q.2 := by
 rw [ho] at h
 refine List.map_congr_left fun q hq => h q.2 ?_ e
 have hq' : q ∈ ps := by simpa using hq
 simp only [Op.operands, Array.toList_map, List.mem_map]
 exact ⟨q, by simpa using hq', rfl⟩
def stp (call : CallF) (P : Program) (o : Oper) (st : St) : Option St := (stepOp call P o st pr).map fun q => q.2.put o.dst q.1
theorem stp_build {call : CallF} (hb : isBo o = true) : ∃ s v, o.dst = some s ∧ (v = .arr (.loc s) ∨ v = .ptr (.loc s) 0) ∧ ∀ st st1, quietOK P o st = true → stp call P o st = some st1 →
 ∃ ob, (∀ m, mentOb m ob = false) ∧ st1 = (st.fresh s ob).put o.dst v ∧
 ∀ st', (∀ x ∈ o.op.operands.toList, ∀ t, opd P st' t x = opd P st t x) → quietOK P o st' = true ∧ stp call P o st' = some ((st'.fresh s ob).put o.dst v) := by
 obtain ⟨hop, s, hd⟩ := isBo_inv hb
 rcases hop with ⟨t, len, ps, ho⟩ | ⟨t, ho⟩
 ·refine ⟨s, .arr (.loc s), hd, .inl rfl, fun st st1 hq h => ?_⟩
  obtain ⟨q, h1, h2⟩ := Option.map_eq_some_iff.1 h
  unfold quietOK at hq
  unfold stepOp at h1
  simp only [ho, hd] at h1 hq
  split at h1
  ·rename_i e s' he hs
   injection hs with hs; subst hs
   simp only [he, Bool.and_eq_true, Bool.not_eq_true'] at hq
   obtain ⟨hnr, hq1⟩ := hq
   obtain ⟨xs, hv⟩ := allPd_view hq1
   simp only [hnr, Bool.false_eq_true, if_false] at h1
   split at h1
   ·cases h1
   ·rename_i c1
    split at h1
    ·rename_i c2
     split at h1
     ·rename_i c3
      rw [hv] at h1
      injection h1 with h1
      subst h1
      refine ⟨.arr e (P.cellsOf e) (P.bytesOf e) false (xs.map pcells), fun _ => rfl, h2.symm, fun st' hsame => ?_⟩
      have hps := build_ops (P := P) ho hsame e
      refine ⟨by unfold quietOK; simp only [ho, he, hnr, hps, hq1, Bool.not_false, Bool.and_self], ?_⟩
      unfold stp stepOp
      simp only [ho, hd, he, hnr, Bool.false_eq_true, if_false]
      rw [if_neg c1, if_pos c2, hps, if_pos c3, hv]
      rfl
     ·cases h1
    ·cases h1
  ·cases h1
 ·refine ⟨s, .ptr (.loc s) 0, hd, .inr rfl, fun st st1 _ h => ?_⟩
  have hq : ∀ st' : St, quietOK P o st' = true := fun st' => by unfold quietOK; simp only [ho]
  obtain ⟨q, h1, h2⟩ := Option.map_eq_some_iff.1 h
  unfold stepOp at h1
  simp only [ho, hd] at h1
  split at h1
  ·rename_i zs s' hz hs
   injection hs with hs; subst hs
   injection h1 with h1
   subst h1
   have hm : ∀ m, mentOb m (boxO zs.length zs) = false := by
    intro m
    unfold boxO
    split
    ·rfl
    ·simp only [mentOb]
     exact zeroD_ment hz
   refine ⟨boxO zs.length zs, hm, h2.symm, fun st' hsame => ⟨hq st', ?_⟩⟩
   unfold stp stepOp
   simp only [ho, hd, hz]
   rfl
  ·cases h1
end Go.Proofs.YtmnoibkdmeajpaaGreat.Dm
