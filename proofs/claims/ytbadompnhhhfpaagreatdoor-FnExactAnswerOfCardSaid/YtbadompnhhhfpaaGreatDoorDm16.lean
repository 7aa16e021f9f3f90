/- The machine over plain data: where an order is drawn, operations that only look change places. -/
import Derived.Test.YtbadompnhhhfpaaGreatDoorDm15
namespace Go.Proofs.YtbadompnhhhfpaaGreatDoor.Dm
set_option linter.unusedSectionVars false
open Go.RowKit
set_option linter.unusedVariables false
set_option linter.unusedSimpArgs false
variable [Cfg] {P : Program} {st st' : St} {o : Oper} {d : Dv}
def lookOp : Op → Bool
  | .move _ | .assign _ | .pick .. | .build .. | .load .. | .nilCheck _ | .binOp .. | .unOp .. | .convert .. | .makeFunc .. | .slice .. | .fieldAddr .. | .indexAddr .. | .index .. | .extract .. => true
  | .call c => match c.callee with
    | .builtin .len | .builtin .max | .builtin .min | .value _ => true
    | _ => false
  | _ => false
theorem pureish_prep (L O : List Ob) : ∀ (ds : List Dv), pureish ds = true → ∃ as, prep L O ds = some (as, L, O) ∧ refsDs as = []
  | [], _ => ⟨[], rfl, rfl⟩
  | .p x :: ds, h => by
    obtain ⟨as, q1, q2⟩ := pureish_prep L O ds h
    exact ⟨.p x :: as, by simp only [prep, view, view1, q1], by simp only [refsDs, refsD, q2, List.nil_append]⟩
  | .nilsl s :: ds, h => by
    obtain ⟨as, q1, q2⟩ := pureish_prep L O ds h
    exact ⟨.p (.sl s []) :: as, by simp only [prep, view, view1, q1], by simp only [refsDs, refsD, q2, List.nil_append]⟩
  | .ptr .. :: _, h => by cases h
  | .arr _ :: _, h => by cases h
  | .el .. :: _, h => by cases h
  | .ro .. :: _, h => by cases h
  | .agg .. :: _, h => by cases h
  | .fn .. :: _, h => by cases h
  | .tup _ :: _, h => by cases h
  | .mp _ :: _, h => by cases h
  | .sub .. :: _, h => by cases h
theorem prep_pure_same {L O L' O' : List Ob} : ∀ {ds : List Dv} {as as' : List Dv}, pureish ds = true → prep L' O' ds = some (as', L', O') → prep L O ds = some (as, L, O) → as' = as
  | [], as, as', _, h1, h2 => by
    simp only [prep, Option.some.injEq, Prod.mk.injEq, and_true] at h1 h2
    rw [← h1, ← h2]
  | .p x :: ds, as, as', h, h1, h2 => by
    obtain ⟨bs, p1, _⟩ := pureish_prep L O ds h
    obtain ⟨bs', p1', _⟩ := pureish_prep L' O' ds h
    simp only [prep, view, view1, p1, p1', Option.some.injEq, Prod.mk.injEq, and_true] at h1 h2
    have := prep_pure_same (ds := ds) (as := bs) (as' := bs') h p1' p1
    rw [← h1, ← h2, this]
  | .nilsl s :: ds, as, as', h, h1, h2 => by
    obtain ⟨bs, p1, _⟩ := pureish_prep L O ds h
    obtain ⟨bs', p1', _⟩ := pureish_prep L' O' ds h
    simp only [prep, view, view1, p1, p1', Option.some.injEq, Prod.mk.injEq, and_true] at h1 h2
    have := prep_pure_same (ds := ds) (as := bs) (as' := bs') h p1' p1
    rw [← h1, ← h2, this]
  | .ptr .. :: _, _, _, h, _, _ => by cases h
  | .arr _ :: _, _, _, h, _, _ => by cases h
  | .el .. :: _, _, _, h, _, _ => by cases h
  | .ro .. :: _, _, _, h, _, _ => by cases h
  | .agg .. :: _, _, _, h, _, _ => by cases h
  | .fn .. :: _, _, _, h, _, _ => by cases h
  | .tup _ :: _, _, _, h, _, _ => by cases h
  | .mp _ :: _, _, _, h, _, _ => by cases h
  | .sub .. :: _, _, _, h, _, _ => by cases h
theorem closeN_nil (L O : List Ob) : ∀ k, closeN L O k [] = []
  | 0 => rfl
  | k + 1 => by simp only [closeN, List.flatMap_nil, addN]; exact closeN_nil L O k
theorem pureish_peek (L O : List Ob) : ∀ (ds : List Dv), pureish ds = true → ∃ xs : List Pd, peekAll L O ds = some xs ∧ prep L O ds = some (xs.map .p, L, O)
  | [], _ => ⟨[], rfl, rfl⟩
  | .p x :: ds, h => by
    obtain ⟨xs, q1, q2⟩ := pureish_peek L O ds h
    exact ⟨x :: xs, by simp only [peekAll, peek, peek1, q1], by simp only [prep, view, view1, q2, List.map_cons]⟩
  | .nilsl s :: ds, h => by
    obtain ⟨xs, q1, q2⟩ := pureish_peek L O ds h
    exact ⟨.sl s [] :: xs, by simp only [peekAll, peek, peek1, q1], by simp only [prep, view, view1, q2, List.map_cons]⟩
  | .ptr .. :: _, h => by cases h
  | .arr _ :: _, h => by cases h
  | .el .. :: _, h => by cases h
  | .ro .. :: _, h => by cases h
  | .agg .. :: _, h => by cases h
  | .fn .. :: _, h => by cases h
  | .tup _ :: _, h => by cases h
  | .mp _ :: _, h => by cases h
  | .sub .. :: _, h => by cases h
def callV (P : Program) (rts : List TypeId) (call : CallF) (L O : List Ob) (f : FuncId) (args : List Dv) : Option (List Dv) := (peekAll L O args).bind fun as => (call f (as.map .p) []).bind fun r => castRs P r.1 some 0 rts []
theorem callD_look {R : Type} {rts : List TypeId} {call : CallF} {f : FuncId} {args : List Dv} (hf : (!Cfg.wr f && (!Cfg.own f && !Cfg.mak f)) = true) (h : pureish args = true ∨ (rts.all (scalT P) = true ∧ peekish args = true)) (T : Tm) (L O : List Ob) (k : Dv → St → Option R) : callD P rts call ⟨T, L, O⟩ f args k = (callV P rts call L O f args).bind fun ds => k (retV ds) ⟨T, L, O⟩ := by
  have hw : Cfg.wr f = false := by cases e : Cfg.wr f <;> simp [e] at hf ⊢
  have ho : Cfg.own f = false := by cases e : Cfg.own f <;> simp [e] at hf ⊢
  have hm : Cfg.mak f = false := by cases e : Cfg.mak f <;> simp [e] at hf ⊢
  have fin : ∀ xs : List Pd, peekAll L O args = some xs → (call f (xs.map .p) []).bind (fun r => castRs P r.1 (fun ds => k (retV ds) ⟨T, L, O⟩) 0 rts []) = (callV P rts call L O f args).bind fun ds => k (retV ds) ⟨T, L, O⟩ := by
    intro xs hx
    unfold callV
    rw [hx, Option.bind_some, Option.bind_assoc]
    congr 1
    funext r
    exact castRs_bind ..
  unfold callD
  simp only [hw, ho, hm, Bool.or_false, Bool.false_or, Bool.false_eq_true, if_false]
  by_cases hr : rts.all (scalT P) = true
  · simp only [hr, if_true, Bool.true_and]
    cases hp : peekAll L O args with
    | some as =>
      rw [← fin as hp]
      unfold callB
      simp only [ho, Bool.false_eq_true, if_false]
    | none =>
      rcases h with h | ⟨_, h⟩
      · obtain ⟨xs, p1, _⟩ := pureish_peek L O args h
        rw [p1] at hp; cases hp
      · unfold callV
        simp only [h, if_true, hp, Option.bind_none]
  · have h : pureish args = true := h.resolve_right fun q => hr q.1
    obtain ⟨xs, p1, p2⟩ := pureish_peek L O args h
    obtain ⟨as, q1, q2⟩ := pureish_prep L O args h
    have hx : as = xs.map .p := by
      have := p2.symm.trans q1
      simp only [Option.some.injEq, Prod.mk.injEq, and_true] at this
      exact this.symm
    rw [← fin xs p1]
    rw [hx] at q1 q2
    simp only [hr, Bool.false_and, Bool.false_eq_true, if_false, q1, q2, addN, closeN_nil]
theorem quiet_args {f : FuncId} {fn : Func} {args : List Dv} (hfn : P.funcs[f]? = some fn) (h : (pureish args || (scalF P f && peekish args)) = true) : pureish args = true ∨ (fn.resultTypes.toList.all (scalT P) = true ∧ peekish args = true) := by
  rw [Bool.or_eq_true, Bool.and_eq_true] at h
  refine h.imp id fun ⟨h1, h2⟩ => ⟨?_, h2⟩
  unfold scalF at h1
  rw [hfn] at h1
  exact h1
theorem sliceD_p {R : Type} (st st0 : St) (t : TypeId) (y : Pd) (lo hi mx : Option Dv) (k : Dv → St → Option R) : sliceD P st t (.p y) lo hi mx k = (sliceD P st0 t (.p y) lo hi mx (fun d _ => some d)).bind fun d => k d st := by
  unfold sliceD
  simp only [view1]
  repeat' (first | rfl | (rw [Option.bind_assoc]; congr 1; funext es) | split)
theorem sliceD_isP {st : St} {t : TypeId} {y : Pd} {lo hi mx : Option Dv} {d : Dv} (h : sliceD P st t (.p y) lo hi mx (fun d _ => some d) = some d) : ∃ x, d = .p x := by
  unfold sliceD at h
  simp only [view1] at h
  split at h
  · cases h
  · split at h
    · cases h
    · split at h
      · split at h
        · split at h
          · cases h
          · split at h
            · injection h with h; exact ⟨_, h.symm⟩
            · cases h
        · cases h
      · split at h
        · cases h
        · obtain ⟨es, _, h⟩ := Option.bind_eq_some_iff.1 h
          split at h
          · cases h
          · split at h
            · injection h with h; exact ⟨_, h.symm⟩
            · cases h
      · cases h
theorem quiet_slice {t : TypeId} {x : Operand} {lo hi mx : Option Operand} (ho : o.op = .slice t x lo hi mx) (h : quietOK P o st = true) : ∃ y, opd P st t x = .p y := by
  unfold quietOK at h
  rw [ho] at h
  dsimp only at h
  split at h
  · exact ⟨_, by assumption⟩
  · cases h
theorem look_pr {call : CallF} (hl : lookOp o.op = true) (hq : quietOK P o st = true) {q : Dv × St} (h : stepOp call P o st pr = some q) : q.2 = st := by
  have fin : ∀ {x : Option Dv}, x.bind (fun d => pr d st) = some q → q.2 = st := by
    intro x hx
    obtain ⟨d, _, h2⟩ := of_pr hx
    rw [← h2]
  unfold stepOp at h
  split at h <;> rename_i ho <;> try (exfalso; rw [ho] at hl; exact Bool.noConfusion hl)
  · injection h with h; rw [← h]
  · injection h with h; rw [← h]
  · split at h
    · rw [pickD_bind] at h; exact fin h
    · cases h
  · split at h
    · split at h
      · split at h
        · injection h with h; rw [← h]
        · cases h
      · cases h
    · cases h
  · rw [loadD_bind] at h; exact fin h
  · split at h <;> first | (injection h with h; rw [← h]) | cases h
  · rw [binD_bind] at h; exact fin h
  · rw [unD_bind] at h; exact fin h
  · rw [convD_bind] at h; exact fin h
  · split at h
    · split at h
      · split at h <;> (injection h with h; rw [← h])
      · cases h
    · cases h
  · obtain ⟨y, hy⟩ := quiet_slice ho hq
    rw [hy, sliceD_p st st] at h
    exact fin h
  · rw [fieldAddrD_bind] at h; exact fin h
  · rw [indexAddrD_bind] at h; exact fin h
  · split at h
    · rw [indexD_bind] at h; exact fin h
    · cases h
  · split at h
    · split at h
      · injection h with h; rw [← h]
      · cases h
    · cases h
  · split at h <;> rename_i hc
    · split at h
      · rw [lenD_bind] at h; exact fin h
      · cases h
    · exfalso; rw [ho] at hl; simp only [lookOp, hc] at hl; exact Bool.noConfusion hl
    · split at h
      · injection h with h; rw [← h]
      · cases h
    · split at h
      · injection h with h; rw [← h]
      · cases h
    · split at h
      · rename_i f cap hf
        split at h
        · rename_i fn hfn
          split at h
          · unfold quietOK at hq
            rw [ho] at hq
            simp only [hc, hf, Bool.and_eq_true] at hq
            obtain ⟨hpf, hq⟩ := hq
            obtain ⟨T, L, O⟩ := st
            rw [callD_look (by simpa using hpf) (quiet_args hfn hq)] at h
            obtain ⟨ds, _, h3⟩ := Option.bind_eq_some_iff.1 h
            injection h3 with h3; rw [← h3]
          · cases h
        · cases h
      · cases h
    · cases h
  · cases h
def opsSame (P : Program) (T T' : Tm) (L O : List Ob) (l : List Operand) : Prop := ∀ x ∈ l, ∀ t, opd P ⟨T', L, O⟩ t x = opd P ⟨T, L, O⟩ t x
theorem opds_same {T T' : Tm} {L O : List Ob} : ∀ (xs : List Operand) (ts : List TypeId), (∀ x ∈ xs, ∀ t, opd P ⟨T', L, O⟩ t x = opd P ⟨T, L, O⟩ t x) → opds P ⟨T', L, O⟩ xs ts = opds P ⟨T, L, O⟩ xs ts
  | [], ts, h => rfl
  | x :: xs, [], h => by simp only [opds]; rw [h x (by simp), opds_same xs [] (fun y hy => h y (by simp [hy]))]
  | x :: xs, t :: ts, h => by simp only [opds]; rw [h x (by simp), opds_same xs ts (fun y hy => h y (by simp [hy]))]
theorem buildD_same {T T' : Tm} {L O : List Ob} {fs : Array Field} {c : Nat} : ∀ (ps : List (Nat × Operand)) (ds : List Dv), (∀ p ∈ ps, ∀ t, opd P ⟨T', L, O⟩ t p.2 = opd P ⟨T, L, O⟩ t p.2) → buildD P ⟨T', L, O⟩ fs c ds ps = buildD P ⟨T, L, O⟩ fs c ds ps
  | [], ds, h => rfl
  | (i, x) :: ps, ds, h => by
    have hx : ∀ t, opd P ⟨T', L, O⟩ t x = opd P ⟨T, L, O⟩ t x := h (i, x) (by simp)
    simp only [buildD, hx]
    split
    · split
      · split
        · exact buildD_same ps _ (fun y hy => h y (by simp [hy]))
        · rfl
      · rfl
    · rfl
theorem callee_same {T T' : Tm} {L O : List Ob} {x : Operand} (h : ∀ t, opd P ⟨T', L, O⟩ t x = opd P ⟨T, L, O⟩ t x) : callee P ⟨T', L, O⟩ x = callee P ⟨T, L, O⟩ x := by
  cases x with
  | tmp t =>
    have := h 0
    simp only [opd] at this
    simp only [callee, this]
  | _ => rfl
theorem quiet_same {T T' : Tm} {L O : List Ob} (h : ∀ x ∈ o.op.operands.toList, ∀ t, opd P ⟨T', L, O⟩ t x = opd P ⟨T, L, O⟩ t x) : quietOK P o ⟨T', L, O⟩ = quietOK P o ⟨T, L, O⟩ := by
  unfold quietOK
  split
  · rename_i t len ps ho
    split
    · rename_i e he
      rw [ho] at h
      have hl : (ps.toList.map fun q => opd P ⟨T', L, O⟩ e q.2) = ps.toList.map fun q => opd P ⟨T, L, O⟩ e q.2 := List.map_congr_left fun q hq => h q.2 (by
        have hq' : q ∈ ps := by simpa using hq
        simp only [Op.operands, Array.toList_map, List.mem_map]
        exact ⟨q, by simpa using hq', rfl⟩) e
      rw [hl]
    · rfl
  · rename_i c ho
    split
    · rename_i x hc
      rw [ho] at h
      have h1 : ∀ t, opd P ⟨T', L, O⟩ t x = opd P ⟨T, L, O⟩ t x := h x (by simp [Op.operands, Call.operands, hc])
      have h2 : ∀ y ∈ c.args.toList, ∀ t, opd P ⟨T', L, O⟩ t y = opd P ⟨T, L, O⟩ t y := fun y hy => h y (by
        have : y ∈ c.args := by simpa using hy
        simp [Op.operands, Call.operands, hc, this])
      rw [callee_same h1, opds_same _ _ h2]
    · rename_i hc
      rw [ho] at h
      have h2 : ∀ y ∈ c.args.toList, ∀ t, opd P ⟨T', L, O⟩ t y = opd P ⟨T, L, O⟩ t y := fun y hy => h y (by
        have : y ∈ c.args := by simpa using hy
        simp [Op.operands, Call.operands, hc, this])
      split
      · rename_i a y he
        have ha := h2 (.tmp a) (by rw [he]; simp) 0
        have hy := h2 y (by rw [he]; simp)
        simp only [opd] at ha
        rw [ha]
        simp only [hy]
      · rfl
    · rfl
  · rename_i t x _ _ _ ho
    rw [ho] at h
    rw [h x (by simp [Op.operands])]
  · rfl
theorem look_same {call : CallF} {T T' : Tm} {L O : List Ob} (hl : lookOp o.op = true) (hq : quietOK P o ⟨T, L, O⟩ = true) (h : ∀ x ∈ o.op.operands.toList, ∀ t, opd P ⟨T', L, O⟩ t x = opd P ⟨T, L, O⟩ t x) :
    stepOp call P o ⟨T', L, O⟩ (fun d _ => some d) = stepOp call P o ⟨T, L, O⟩ (fun d _ => some d) := by
  unfold quietOK at hq
  unfold stepOp
  cases ho : o.op <;> simp only [ho, lookOp, Bool.false_eq_true] at hl <;> rw [ho] at h <;> simp only [Op.operands] at h
  case move x => simp only [h x (by simp)]
  case assign x => simp only [h x (by simp)]
  case pick c x y => simp only [h c (by simp), h x (by simp), h y (by simp)]
  case build t ps =>
    have hb : ∀ fs c ds, buildD P ⟨T', L, O⟩ fs c ds ps.toList = buildD P ⟨T, L, O⟩ fs c ds ps.toList := fun fs c ds => buildD_same _ _ fun p hp t => h p.2 (by
      have hp' : p ∈ ps := by simpa using hp
      simp only [Array.toList_map, List.mem_map]
      exact ⟨p, by simpa using hp', rfl⟩) t
    simp only [hb]
  case load t x => simp only [h x (by simp)]; rfl
  case nilCheck x => simp only [h x (by simp)]
  case binOp op t x y ty => simp only [h x (by simp), h y (by simp)]
  case unOp op t x => simp only [h x (by simp)]
  case convert s t x => simp only [h x (by simp)]; rfl
  case makeFunc fn first cap =>
    have hb : opds P ⟨T', L, O⟩ cap.toList [] = opds P ⟨T, L, O⟩ cap.toList [] := opds_same _ _ fun x hx => h x (by
      have : x ∈ cap := by simpa using hx
      simp [this])
    simp only [hb]
  case slice t x lo hi mx =>
    obtain ⟨y, hy⟩ := quiet_slice (o := o) (st := ⟨T, L, O⟩) ho (by unfold quietOK; exact hq)
    have hx := h x (by simp) t
    show sliceD P ⟨T', L, O⟩ t (opd P ⟨T', L, O⟩ t x) (lo.map (opd P ⟨T', L, O⟩ 0)) (hi.map (opd P ⟨T', L, O⟩ 0)) (mx.map (opd P ⟨T', L, O⟩ 0)) (fun d _ => some d) = sliceD P ⟨T, L, O⟩ t (opd P ⟨T, L, O⟩ t x) (lo.map (opd P ⟨T, L, O⟩ 0)) (hi.map (opd P ⟨T, L, O⟩ 0)) (mx.map (opd P ⟨T, L, O⟩ 0)) (fun d _ => some d)
    rw [hx, hy]
    have ho' : ∀ z : Option Operand, (∀ u, z = some u → opd P ⟨T', L, O⟩ 0 u = opd P ⟨T, L, O⟩ 0 u) → z.map (opd P ⟨T', L, O⟩ 0) = z.map (opd P ⟨T, L, O⟩ 0) := by
      intro z hz
      cases z with
      | none => rfl
      | some u => simp only [Option.map_some, hz u rfl]
    rw [ho' lo (fun u e => h u (by simp [e]) 0), ho' hi (fun u e => h u (by simp [e]) 0), ho' mx (fun u e => h u (by simp [e]) 0)]
    refine (sliceD_p ⟨T', L, O⟩ ⟨T, L, O⟩ t y _ _ _ _).trans ?_
    exact Option.bind_fun_some _
  case fieldAddr t x f => simp only [h x (by simp)]
  case indexAddr t x i => simp only [h x (by simp), h i (by simp)]; rfl
  case index t x i => simp only [h x (by simp), h i (by simp)]
  case extract t i => simp only [h t (by simp)]
  case call c =>
    have h2 : ∀ y ∈ c.args.toList, ∀ t, opd P ⟨T', L, O⟩ t y = opd P ⟨T, L, O⟩ t y := fun y hy => h y (by
      have : y ∈ c.args := by simpa using hy
      cases hc : c.callee <;> simp [Call.operands, hc, this])
    cases hc : c.callee with
    | builtin b =>
      cases b <;> simp only [hc, Bool.false_eq_true] at hl
      case len =>
        simp only [hc]
        split
        · rename_i x t hx ht
          rw [h2 x (by rw [hx]; simp)]; rfl
        · rfl
      case max => simp only [hc]; rw [opds_same _ _ h2]
      case min => simp only [hc]; rw [opds_same _ _ h2]
    | value x =>
      have h1 : ∀ t, opd P ⟨T', L, O⟩ t x = opd P ⟨T, L, O⟩ t x := h x (by simp [Call.operands, hc])
      simp only [hc]
      rw [callee_same h1, opds_same _ _ h2]
      split
      · rename_i f cap hf
        split
        · rename_i fn hfn
          split
          · rw [ho] at hq
            simp only [hc, hf, Bool.and_eq_true] at hq
            obtain ⟨hpf, hq⟩ := hq
            rw [callD_look (by simpa using hpf) (quiet_args hfn hq), callD_look (by simpa using hpf) (quiet_args hfn hq)]
          · rfl
        · rfl
      · rfl
    | invoke r m => simp only [hc, Bool.false_eq_true] at hl
def optV (call : CallF) (P : Program) (ops : Array Oper) (o : Oper) (st : St) : Option Dv := match o.guard with
  | none => if quietOK P o st = true then stepOp call P o st (fun d _ => some d) else none
  | some (j, want) => match gslot ops j with
    | none => none
    | some g => match st.T.getD g ud with
      | .p (.bool b) => if b = want then (if quietOK P o st = true then stepOp call P o st (fun d _ => some d) else none) else some nix
      | .tup [] => some nix
      | _ => none
theorem opS_look {call : CallF} {ops : Array Oper} (hl : lookOp o.op = true) : opS true call P ops o st = (optV call P ops o st).map fun d => st.put o.dst d := by
  have step : ((stepQ true call P o st pr).map fun q => q.2.put o.dst q.1) = (if quietOK P o st = true then stepOp call P o st (fun d _ => some d) else none).map fun d => st.put o.dst d := by
    unfold stepQ
    simp only [if_true]
    split
    · rename_i hq
      rw [stepOp_bind (k := fun d _ => some d)]
      cases hs : stepOp call P o st pr with
      | none => rfl
      | some q =>
        have := look_pr hl hq hs
        simp only [Option.map_some, Option.bind_some, un2, this]
    · rfl
  unfold opS optV
  cases hg : o.guard with
  | none => exact step
  | some jw =>
    obtain ⟨j, want⟩ := jw
    dsimp only
    cases hs : gslot ops j with
    | none => rfl
    | some g =>
      dsimp only
      generalize st.T.getD g ud = x
      cases x with
      | p y =>
        cases y with
        | bool b =>
          dsimp only
          split
          · exact step
          · rfl
        | _ => rfl
      | tup ds => cases ds <;> rfl
      | _ => rfl
theorem put_LO (st : St) (dst : Option Tmp) (v : Dv) : (st.put dst v).L = st.L ∧ (st.put dst v).O = st.O := by cases dst <;> exact ⟨rfl, rfl⟩
theorem put_ne {st : St} {dst : Option Tmp} {v : Dv} {t : Tmp} (h : ∀ d, dst = some d → d ≠ t) : (st.put dst v).T.getD t ud = st.T.getD t ud := by
  cases dst with
  | none => rfl
  | some d =>
    show (st.T.set d v).getD t ud = _
    rw [Tm.getD_set, if_neg (h d rfl)]
theorem optV_put {call : CallF} {ops : Array Oper} (hl : lookOp o.op = true) {dst : Option Tmp} {v : Dv} (h : ∀ d, dst = some d → d ∉ o.looksAt ops) {d : Dv} (hd : optV call P ops o st = some d) : optV call P ops o (st.put dst v) = some d := by
  have hops : ∀ x ∈ o.op.operands.toList, ∀ t, opd P ⟨(st.put dst v).T, st.L, st.O⟩ t x = opd P ⟨st.T, st.L, st.O⟩ t x := by
    intro x hx t
    cases x with
    | tmp y =>
      exact put_ne (st := st) fun e he => fun q => h e he (by
        subst q
        exact List.mem_append_left _ (List.mem_filterMap.2 ⟨.tmp e, hx, rfl⟩))
    | _ => rfl
  have est : (st.put dst v) = ⟨(st.put dst v).T, st.L, st.O⟩ := by
    have := put_LO st dst v
    rw [← this.1, ← this.2]
  have step : (if quietOK P o st = true then stepOp call P o st (fun d _ => some d) else none) = some d → (if quietOK P o (st.put dst v) = true then stepOp call P o (st.put dst v) (fun d _ => some d) else none) = some d := by
    intro hx
    split at hx
    · rename_i hq
      rw [est, quiet_same (T := st.T) hops, if_pos hq, look_same (T := st.T) hl hq hops]
      exact hx
    · cases hx
  unfold optV at hd ⊢
  cases hg : o.guard with
  | none =>
    simp only [hg] at hd
    exact step hd
  | some jw =>
    obtain ⟨j, want⟩ := jw
    simp only [hg] at hd
    dsimp only
    cases hs : gslot ops j with
    | none => simp only [hs] at hd; cases hd
    | some g =>
      simp only [hs] at hd
      have e : (st.put dst v).T.getD g ud = st.T.getD g ud := put_ne fun t ht => fun q => h t ht (by
        subst q
        have hs' : (ops[j]?).bind (·.dst) = some t := hs
        exact List.mem_append_right _ (by rw [hg]; simp [hs']))
      dsimp only
      rw [e]
      split at hd
      · rename_i b hb
        split at hd
        · rename_i e'; rw [if_pos e']; exact step hd
        · rename_i e'; rw [if_neg e']; exact hd
      · exact hd
      · cases hd
theorem put_comm {x y : Option Tmp} (v u : Dv) (h : ∀ d, x = some d → y ≠ some d) : (st.put x v).put y u = (st.put y u).put x v := by
  cases x with
  | none => rfl
  | some d =>
    cases y with
    | none => rfl
    | some e =>
      have hne : d ≠ e := fun he => h d rfl (he ▸ rfl)
      simp only [St.put, Tm.set_comm _ _ _ hne]
theorem look_swap {call : CallF} {ops : Array Oper} {x y : Oper} (hx : lookOp x.op = true) (hy : lookOp y.op = true) (hap : x.apart ops y = true) {st st1 st2 : St} (h1 : opS true call P ops x st = some st1) (h2 : opS true call P ops y st1 = some st2) :
    ∃ st1', opS true call P ops y st = some st1' ∧ opS true call P ops x st1' = some st2 := by
  obtain ⟨a1, a2, a3⟩ := Oper.apart_spec hap
  rw [opS_look hx] at h1
  rw [opS_look hy] at h2
  obtain ⟨d1, e1, rfl⟩ := Option.map_eq_some_iff.1 h1
  obtain ⟨d2, e2, rfl⟩ := Option.map_eq_some_iff.1 h2
  -- y's value, were x not there yet
  have e3 : optV call P ops y st = some d2 := by
    have hback : (st.put x.dst d1).put x.dst (match x.dst with | some t => st.T.getD t ud | none => ud) = st := by
      cases hd : x.dst with
      | none => rfl
      | some t =>
        show (⟨(st.T.set t d1).set t (st.T.getD t ud), st.L, st.O⟩ : St) = st
        rw [Tm.set_back]
    have := optV_put (v := match x.dst with | some t => st.T.getD t ud | none => ud) hy a1 e2
    rwa [hback] at this
  refine ⟨st.put y.dst d2, by rw [opS_look hy, e3]; rfl, ?_⟩
  rw [opS_look hx, optV_put hx a3 e1]
  simp only [Option.map_some]
  rw [put_comm d1 d2 a2]
mutual
theorem scrub_id (m : Nm) : ∀ d : Dv, mentD m d = false → scrub m d = d
  | .ptr m' off, h => by simp only [mentD, decide_eq_false_iff_not] at h; simp only [scrub, if_neg h]
  | .arr m', h => by simp only [mentD, decide_eq_false_iff_not] at h; simp only [scrub, if_neg h]
  | .el m' j s off, h => by simp only [mentD, decide_eq_false_iff_not] at h; simp only [scrub, if_neg h]
  | .mp m', h => by simp only [mentD, decide_eq_false_iff_not] at h; simp only [scrub, if_neg h]
  | .sub m' j s off e s', h => by simp only [mentD, decide_eq_false_iff_not] at h; simp only [scrub, if_neg h]
  | .agg n ds, h => by simp only [mentD] at h; simp only [scrub, scrubs_id m ds h]
  | .fn f ds, h => by simp only [mentD] at h; simp only [scrub, scrubs_id m ds h]
  | .tup ds, h => by simp only [mentD] at h; simp only [scrub, scrubs_id m ds h]
  | .p x, _ => by simp only [scrub]
  | .nilsl s, _ => by simp only [scrub]
  | .ro s cs, _ => by simp only [scrub]
theorem scrubs_id (m : Nm) : ∀ ds : List Dv, mentDs m ds = false → scrub.scrubs m ds = ds
  | [], _ => by simp only [scrub.scrubs]
  | d :: ds, h => by simp only [mentDs, Bool.or_eq_false_iff] at h; simp only [scrub.scrubs, scrub_id m d h.1, scrubs_id m ds h.2]
end
theorem mentDs_iff {m : Nm} : ∀ {ds : List Dv}, mentDs m ds = false ↔ ∀ d ∈ ds, mentD m d = false
  | [] => ⟨(fun _ d h => by cases h), fun _ => rfl⟩
  | d :: ds => by
    simp only [mentDs, Bool.or_eq_false_iff, mentDs_iff (ds := ds), List.mem_cons, forall_eq_or_imp]
theorem mentObs_iff {m : Nm} : ∀ {ds : List Ob}, mentObs m ds = false ↔ ∀ d ∈ ds, mentOb m d = false
  | [] => ⟨(fun _ d h => by cases h), fun _ => rfl⟩
  | d :: ds => by
    simp only [mentObs, Bool.or_eq_false_iff, mentObs_iff (ds := ds), List.mem_cons, forall_eq_or_imp]
structure Clean (m : Nm) (st : St) : Prop where
  T : ∀ j, mentD m (st.T.getD j ud) = false
  L : ∀ o ∈ st.L, mentOb m o = false
  O : ∀ o ∈ st.O, mentOb m o = false
theorem clean_of {m : Nm} {st : St} (h : cleanSt m st = true) : Clean m st := by
  unfold cleanSt at h
  simp only [Bool.and_eq_true, Bool.not_eq_true'] at h
  refine ⟨fun j => ?_, mentObs_iff.1 h.2.1, mentObs_iff.1 h.2.2⟩
  by_cases hj : j < st.T.n
  · have := List.all_eq_true.1 h.1 j (List.mem_range.2 hj)
    show mentD m (st.T.f j) = false
    simpa using this
  · show mentD m (st.T.f j) = false
    rw [st.T.ok j (Nat.le_of_not_lt hj)]
    rfl
theorem ment_getD {m : Nm} {ds : List Dv} (h : ∀ d ∈ ds, mentD m d = false) (i : Nat) : mentD m (ds.getD i ud) = false := by
  rw [List.getD_eq_getElem?_getD]
  cases hx : ds[i]? with
  | none => rfl
  | some d => exact h d (List.mem_of_getElem? hx)
theorem ment_getOb {m : Nm} {st : St} (h : Clean m st) (n : Nm) : mentOb m (getOb st.L st.O n) = false := by
  have one : ∀ (l : List Ob) (i : Nat), (∀ o ∈ l, mentOb m o = false) → mentOb m (l.getD i .none) = false := fun l i hl => by
    rw [List.getD_eq_getElem?_getD]
    cases hx : l[i]? with
    | none => rfl
    | some d => exact hl d (List.mem_of_getElem? hx)
  cases n with
  | loc s => exact one _ _ h.L
  | out i => exact one _ _ h.O
theorem scrubOb_id {m : Nm} {o : Ob} (h : mentOb m o = false) : scrubOb m o = o := by
  cases o with
  | mbox n ds =>
    simp only [mentOb] at h
    have : ds.map (scrub m) = ds := by
      rw [List.map_congr_left (g := id) (fun d hd => scrub_id m d (mentDs_iff.1 h d hd)), List.map_id]
    simp only [scrubOb, this]
  | _ => rfl
theorem fresh_id {st : St} {s : Nat} {ob : Ob} (h : Clean (.loc s) st) (ho : mentOb (.loc s) ob = false) : St.fresh st s ob = ⟨st.T, st.L.set s ob, st.O⟩ := by
  unfold St.fresh
  have e1 : st.T.map (scrub (.loc s)) = st.T := by
    refine Tm.ext_ rfl fun j => ?_
    have h1 : ((st.T.map (scrub (.loc s))).getD j ud) = scrub (.loc s) (st.T.getD j ud) := Tm.getD_map rfl _ _
    exact h1.trans (scrub_id _ _ (h.T j))
  have e2 : st.L.map (scrubOb (.loc s)) = st.L := by rw [List.map_congr_left (f := scrubOb (.loc s)) (g := id) (fun d hd => scrubOb_id (h.L d hd)), List.map_id]
  have e3 : st.O.map (scrubOb (.loc s)) = st.O := by rw [List.map_congr_left (f := scrubOb (.loc s)) (g := id) (fun d hd => scrubOb_id (h.O d hd)), List.map_id]
  rw [scrubOb_id ho, e1, e2, e3]
theorem aggD_ment {m : Nm} {ds : List Dv} (n : Nat) (h : mentDs m ds = false) : mentD m (aggD n ds) = false := by
  unfold aggD
  split
  · rfl
  · simp only [mentD]; exact h
theorem constC_ment {m : Nm} (s : Nat) (v : Value) : mentD m (constC s v) = false := by
  unfold constC
  split <;> rfl
theorem zeroC_ment {m : Nm} : ∀ (ss : List Nat) (vs : List Value), mentDs m (zeroC ss vs) = false
  | [], [] => rfl
  | s :: ss, [] => rfl
  | [], v :: vs => by simp only [zeroC, mentDs, constC_ment, zeroC_ment [] vs, Bool.or_self]
  | s :: ss, v :: vs => by simp only [zeroC, mentDs, constC_ment, zeroC_ment ss vs, Bool.or_self]
theorem opd_ment {m : Nm} {st : St} (h : Clean m st) (t : TypeId) (x : Operand) : mentD m (opd P st t x) = false := by
  cases x with
  | tmp y => exact h.T y
  | const v =>
    simp only [opd]
    unfold constD
    split
    · split
      · exact aggD_ment _ (zeroC_ment _ _)
      · rfl
    · exact constC_ment _ _
  | func f => rfl
  | global g => rfl
theorem loadD_ment {m : Nm} {st : St} {t : TypeId} {a d : Dv} (hc : Clean m st) (ha : mentD m a = false) (h : loadD P st t a some = some d) : mentD m d = false := by
  have hp : ∀ {x : Pd} {d : Dv}, cellAs P t x some = some d → mentD m d = false := fun hx => by rw [(cellAs_eq hx).1]; rfl
  unfold loadD at h
  split at h
  · cases h
  split at h
  · rename_i m' off
    have hob := ment_getOb hc m'
    split at h
    · split at h
      · split at h
        · injection h with h; subst h; rfl
        · split at h
          · exact hp h
          · cases h
      · cases h
    · rename_i c ds hm
      rw [hm] at hob
      simp only [mentOb] at hob
      have hds := mentDs_iff.1 hob
      split at h
      · split at h
        · injection h with h; subst h
          refine aggD_ment _ (mentDs_iff.2 fun d hd => hds d ?_)
          have := List.mem_of_mem_take hd
          unfold dropD at this
          split at this
          · exact this
          · exact List.mem_of_mem_drop this
        · split at h
          · unfold cellDv at h
            split at h
            · exact hp h
            · split at h
              · injection h with h; subst h; exact ment_getD hds _
              · cases h
          · cases h
      · cases h
    · cases h
  · split at h
    · split at h
      · injection h with h; subst h; rfl
      · split at h
        · exact hp h
        · cases h
    · cases h
  · split at h
    · split at h
      · split at h
        · injection h with h; subst h; rfl
        · split at h
          · exact hp h
          · cases h
      · cases h
    · split at h
      · split at h
        · cases h
        · split at h
          · split at h
            · obtain ⟨_, _, h⟩ := Option.bind_eq_some_iff.1 h
              injection h with h; subst h
              simp only [mentD] at ha ⊢
              exact ha
            · exact hp h
          · cases h
      · cases h
    · cases h
  · cases h
theorem intD_p {op : BinOp} {kk : IntKind} {a b : Int} {d : Dv} (h : intD op kk a b some = some d) : ∃ x, d = .p x := by
  unfold intD at h
  repeat' (first | (injection h with h; exact ⟨_, h.symm⟩) | cases h | split at h)
theorem strD_p {op : BinOp} {a b : ByteArray} {d : Dv} (h : strD op a b some = some d) : ∃ x, d = .p x := by
  unfold strD at h
  repeat' (first | (injection h with h; exact ⟨_, h.symm⟩) | cases h | split at h)
theorem binD_p {op : BinOp} {t : TypeId} {x y d : Dv} (h : binD P op t x y some = some d) : ∃ x, d = .p x := by
  unfold binD at h
  repeat' (first | (exact intD_p h) | (exact strD_p h) | (injection h with h; exact ⟨_, h.symm⟩) | cases h | (rw [eqCells_bind] at h; obtain ⟨b, _, h⟩ := Option.bind_eq_some_iff.1 h; injection h with h; exact ⟨_, h.symm⟩) | split at h)
theorem unD_p {op : UnOp} {x d : Dv} (h : unD op x some = some d) : ∃ x, d = .p x := by
  unfold unD at h
  repeat' (first | (injection h with h; exact ⟨_, h.symm⟩) | cases h | split at h)
theorem convD_p {st : St} {src dst : TypeId} {x d : Dv} (h : convD P st src dst x some = some d) : ∃ x, d = .p x := by
  unfold convD at h
  repeat' (first | (injection h with h; exact ⟨_, h.symm⟩) | cases h | (obtain ⟨es, _, h⟩ := Option.bind_eq_some_iff.1 h; obtain ⟨l, _, h⟩ := Option.bind_eq_some_iff.1 h; injection h with h; exact ⟨_, h.symm⟩) | split at h)
theorem indexD_p {x i d : Dv} (h : indexD x i some = some d) : ∃ x, d = .p x := by
  unfold indexD at h
  repeat' (first | (injection h with h; exact ⟨_, h.symm⟩) | cases h | split at h)
theorem lenD_p {t : TypeId} {st : St} {x d : Dv} (h : lenD P t st x some = some d) : ∃ x, d = .p x := by
  unfold lenD at h
  repeat' (first | (injection h with h; exact ⟨_, h.symm⟩) | cases h | split at h)
theorem fieldAddrD_ment {m : Nm} {t : TypeId} {f : Nat} {a d : Dv} (ha : mentD m a = false) (h : fieldAddrD P t f a some = some d) : mentD m d = false := by
  unfold fieldAddrD at h
  repeat' (first | (injection h with h; subst h; first | exact ha | rfl) | cases h | split at h)
theorem indexAddrD_ment {m : Nm} {t : TypeId} {st : St} {a i d : Dv} (ha : mentD m a = false) (h : indexAddrD P st t a i some = some d) : mentD m d = false := by
  unfold indexAddrD at h
  repeat' (first | (injection h with h; subst h; first | exact ha | rfl) | cases h | split at h)
theorem retV_ment {m : Nm} (ys : List Pd) : mentD m (retV (ys.map .p)) = false := by
  match ys with
  | [] => rfl
  | [y] => rfl
  | y :: z :: ys =>
    simp only [List.map_cons, retV, mentD]
    exact mentDs_iff.2 fun d hd => by
      rw [← List.map_cons, ← List.map_cons, List.mem_map] at hd
      obtain ⟨x, _, rfl⟩ := hd
      rfl
def lookB : Op → Bool
  | .move _ | .assign _ | .build .. | .load .. | .nilCheck _ | .binOp .. | .unOp .. | .convert .. | .slice .. | .fieldAddr .. | .indexAddr .. | .index .. | .extract .. => true
  | .call c => match c.callee with
    | .builtin .len | .builtin .max | .builtin .min | .value _ => true
    | _ => false
  | _ => false
theorem lookB_look {op : Op} (h : lookB op = true) : lookOp op = true := by
  cases op <;> first | rfl | (exact h) | cases h
theorem cellV_ment {m : Nm} {v : Dv} (h : mentD m v = false) (j : Nat) : mentD m (cellV v j) = false := by
  unfold cellV
  split
  · rfl
  · simp only [mentD] at h
    exact ment_getD (mentDs_iff.1 h) j
  · exact h
theorem buildD_ment {m : Nm} {st : St} {fs : Array Field} {c : Nat} (hc : Clean m st) : ∀ (ps : List (Nat × Operand)) (ds ds' : List Dv), mentDs m ds = false → buildD P st fs c ds ps = some ds' → mentDs m ds' = false
  | [], ds, ds', h, hb => by
    simp only [buildD] at hb
    injection hb with hb; subst hb; exact h
  | (i, x) :: ps, ds, ds', h, hb => by
    simp only [buildD] at hb
    split at hb
    · split at hb
      · split at hb
        · refine buildD_ment hc ps _ ds' (mentDs_iff.2 fun d hd => ?_) hb
          unfold mixD at hd
          obtain ⟨j, _, rfl⟩ := List.mem_map.1 hd
          split
          · exact cellV_ment (opd_ment hc _ _) _
          · exact ment_getD (mentDs_iff.1 h) j
        · cases hb
      · cases hb
    · cases hb
theorem zeroD_ment {m : Nm} {t : TypeId} {zs : List Dv} (hz : zeroD P t = some zs) : mentDs m zs = false := by
  unfold zeroD at hz
  split at hz
  · split at hz
    · split at hz
      · injection hz with hz; rw [← hz]; exact zeroC_ment _ _
      · cases hz
    · cases hz
  · cases hz
theorem look_ment {call : CallF} {m : Nm} (hl : lookB o.op = true) (hq : quietOK P o st = true) (hc : Clean m st) (h : stepOp call P o st (fun d _ => some d) = some d) : mentD m d = false := by
  have hop : ∀ t x, mentD m (opd P st t x) = false := fun t x => opd_ment hc t x
  have fp : (∃ x, d = Dv.p x) → mentD m d = false := fun ⟨x, e⟩ => by rw [e]; rfl
  unfold stepOp at h
  split at h <;> rename_i ho <;> try (exfalso; rw [ho] at hl; exact Bool.noConfusion hl)
  · injection h with h; rw [← h]; exact hop _ _
  · injection h with h; rw [← h]; exact hop _ _
  · split at h
    · rename_i zs _ hz
      split at h
      · split at h
        · rename_i ds hb
          injection h with h; rw [← h]
          exact aggD_ment _ (buildD_ment hc _ _ _ (zeroD_ment hz) hb)
        · cases h
      · cases h
    · cases h
  · exact loadD_ment hc (hop _ _) h
  · rename_i x
    have hx := hop 0 x
    split at h <;> first | (rename_i e; rw [e] at hx; injection h with h; rw [← h]; exact hx) | cases h
  · exact fp (binD_p h)
  · exact fp (unD_p h)
  · exact fp (convD_p h)
  · obtain ⟨y, hy⟩ := quiet_slice ho hq
    rw [hy] at h
    exact fp (sliceD_isP h)
  · exact fieldAddrD_ment (hop _ _) h
  · exact indexAddrD_ment (hop _ _) h
  · split at h
    · exact fp (indexD_p h)
    · cases h
  · rename_i t i
    have hx := hop 0 t
    split at h
    · rename_i ds e
      rw [e] at hx
      simp only [mentD] at hx
      split at h
      · rename_i d' hd
        injection h with h; rw [← h]
        exact mentDs_iff.1 hx _ (List.mem_of_getElem? hd)
      · cases h
    · cases h
  · split at h <;> rename_i hcl
    · split at h
      · exact fp (lenD_p h)
      · cases h
    · exfalso; rw [ho] at hl; simp only [lookB, hcl] at hl; exact Bool.noConfusion hl
    · split at h
      · injection h with h; rw [← h]; rfl
      · cases h
    · split at h
      · injection h with h; rw [← h]; rfl
      · cases h
    · split at h
      · rename_i f cap hf
        split at h
        · rename_i fn hfn
          split at h
          · unfold quietOK at hq
            rw [ho] at hq
            simp only [hcl, hf, Bool.and_eq_true] at hq
            obtain ⟨hpf, hq⟩ := hq
            obtain ⟨T, L, O⟩ := st
            rw [callD_look (by simpa using hpf) (quiet_args hfn hq)] at h
            obtain ⟨ds, h2, h3⟩ := Option.bind_eq_some_iff.1 h
            obtain ⟨as, _, h2⟩ := Option.bind_eq_some_iff.1 h2
            obtain ⟨r, _, h4⟩ := Option.bind_eq_some_iff.1 h2
            injection h3 with h3; rw [← h3]
            obtain ⟨ys, e1, _⟩ := castRs_eq _ _ _ _ h4
            rw [e1, List.nil_append]
            exact retV_ment ys
          · cases h
        · cases h
      · cases h
    · cases h
  · cases h
theorem getOb_setNe {L O : List Ob} {s : Nat} {ob : Ob} {n : Nm} (h : n ≠ .loc s) : getOb (L.set s ob) O n = getOb L O n := by
  cases n with
  | loc s' =>
    have : s ≠ s' := fun e => h (by rw [e])
    simp only [getOb, List.getD_eq_getElem?_getD]
    rw [List.getElem?_set_ne this]
  | out i => rfl
theorem mentDs_append {m : Nm} : ∀ (ds es : List Dv), mentDs m (ds ++ es) = (mentDs m ds || mentDs m es)
  | [], es => by simp [mentDs]
  | d :: ds, es => by simp only [List.cons_append, mentDs, mentDs_append ds es, Bool.or_assoc]
theorem opds_ment {m : Nm} {st : St} (hop : ∀ t x, mentD m (opd P st t x) = false) : ∀ (xs : List Operand) (ts : List TypeId), ∀ d ∈ opds P st xs ts, mentD m d = false
  | [], ts, d, h => by cases ts <;> simp [opds] at h
  | x :: xs, [], d, h => by
    simp only [opds, List.mem_cons] at h
    rcases h with rfl | h
    · exact hop _ _
    · exact opds_ment hop xs [] d h
  | x :: xs, t :: ts, d, h => by
    simp only [opds, List.mem_cons] at h
    rcases h with rfl | h
    · exact hop _ _
    · exact opds_ment hop xs ts d h
theorem peek1_L {L O : List Ob} {s : Nat} (ob : Ob) {d : Dv} (h : mentD (.loc s) d = false) : peek1 (L.set s ob) O d = peek1 L O d := by
  cases d <;> try rfl
  rename_i n
  simp only [mentD, decide_eq_false_iff_not] at h
  simp only [peek1, getOb_setNe h]
theorem peeks_L {L O : List Ob} {s : Nat} (ob : Ob) : ∀ {ds : List Dv}, mentDs (.loc s) ds = false → peeks (L.set s ob) O ds = peeks L O ds
  | [], _ => rfl
  | d :: ds, h => by
    simp only [mentDs, Bool.or_eq_false_iff] at h
    simp only [peeks, peek1_L ob h.1, peeks_L ob h.2]
theorem peek_L {L O : List Ob} {s : Nat} (ob : Ob) {d : Dv} (h : mentD (.loc s) d = false) : peek (L.set s ob) O d = peek L O d := by
  unfold peek
  split
  · simp only [mentD] at h
    rw [peeks_L ob h]
  · exact peek1_L ob h
theorem peekAll_L {L O : List Ob} {s : Nat} (ob : Ob) : ∀ {ds : List Dv}, mentDs (.loc s) ds = false → peekAll (L.set s ob) O ds = peekAll L O ds
  | [], _ => rfl
  | d :: ds, h => by
    simp only [mentDs, Bool.or_eq_false_iff] at h
    simp only [peekAll, peek_L ob h.1, peekAll_L ob h.2]
theorem look_L {call : CallF} {T : Tm} {L O : List Ob} {s : Nat} (ob : Ob) (hl : lookB o.op = true) (hq : quietOK P o ⟨T, L, O⟩ = true) (hc : Clean (.loc s) ⟨T, L, O⟩) :
    stepOp call P o ⟨T, L.set s ob, O⟩ (fun d _ => some d) = stepOp call P o ⟨T, L, O⟩ (fun d _ => some d) := by
  have hop : ∀ t x, mentD (.loc s) (opd P ⟨T, L, O⟩ t x) = false := fun t x => opd_ment hc t x
  have hsame : ∀ t x, opd P ⟨T, L.set s ob, O⟩ t x = opd P ⟨T, L, O⟩ t x := fun t x => by cases x <;> rfl
  have hopds : ∀ xs ts, opds P ⟨T, L.set s ob, O⟩ xs ts = opds P ⟨T, L, O⟩ xs ts := by
    intro xs
    induction xs with
    | nil => intro ts; rfl
    | cons x xs ih =>
      intro ts
      cases ts with
      | nil => simp only [opds, hsame, ih]
      | cons t ts => simp only [opds, hsame, ih]
  have hptr : ∀ {n : Nm}, decide (n = Nm.loc s) = false → getOb (L.set s ob) O n = getOb L O n := fun h => getOb_setNe (by simpa using h)
  unfold stepOp
  cases ho : o.op <;> simp only [ho, lookB, Bool.false_eq_true] at hl
  case move x => simp only [hsame]
  case assign x => simp only [hsame]
  case build t ps =>
    have hb : ∀ fs c ds (ps : List (Nat × Operand)), buildD P ⟨T, L.set s ob, O⟩ fs c ds ps = buildD P ⟨T, L, O⟩ fs c ds ps := by
      intro fs c ds ps
      induction ps generalizing ds with
      | nil => rfl
      | cons p ps ih => simp only [buildD, hsame, ih]
    simp only [hb]
  case load t x =>
    simp only [hsame]
    have hx := hop 0 x
    generalize opd P ⟨T, L, O⟩ 0 x = a at hx
    unfold loadD
    cases a <;> simp only [mentD] at hx <;> (try rfl)
    · simp only [hptr hx]
    · simp only [hptr hx]
  case nilCheck x => simp only [hsame]
  case binOp op t x y ty => simp only [hsame]
  case unOp op t x => simp only [hsame]
  case convert sr dt x =>
    simp only [hsame]
    have hx := hop sr x
    generalize opd P ⟨T, L, O⟩ sr x = a at hx
    unfold convD
    have hv : ∀ {R : Type} (k : Pd → Option R), (match view1 (L.set s ob) O a with | some (y, _, _) => k y | none => none) = (match view1 L O a with | some (y, _, _) => k y | none => none) := by
      intro R k
      cases a <;> simp only [mentD] at hx <;> (try rfl)
      rename_i n
      simp only [view1, hptr hx]
      cases getOb L O n <;> first | rfl | (cases hil : isLoc n <;> simp only [hil, Bool.false_eq_true, if_false, if_true])
    split
    · rfl
    · rfl
    · split
      · exact hv _
      · rfl
    · rfl
  case slice t x lo hi mx =>
    obtain ⟨y, hy⟩ := quiet_slice ho hq
    have he : ∀ z : Option Operand, z.map (opd P ⟨T, L.set s ob, O⟩ 0) = z.map (opd P ⟨T, L, O⟩ 0) := by
      intro z
      cases z with
      | none => rfl
      | some u => simp only [Option.map_some, hsame]
    simp only [hsame, he]
    rw [hy]
    refine (sliceD_p ⟨T, L.set s ob, O⟩ ⟨T, L, O⟩ t y _ _ _ _).trans ?_
    exact Option.bind_fun_some _
  case fieldAddr t x f => simp only [hsame]
  case indexAddr t x i =>
    simp only [hsame]
    have hx := hop t x
    generalize opd P ⟨T, L, O⟩ t x = a at hx
    unfold indexAddrD
    split
    · cases a with
      | arr m' =>
        simp only [mentD] at hx
        dsimp only
        rw [hptr hx]
      | p y => cases y <;> rfl
      | _ => rfl
    · rfl
  case index t x i => simp only [hsame]
  case extract t i => simp only [hsame]
  case call c =>
    cases hcl : c.callee with
    | builtin b =>
      cases b <;> simp only [hcl, Bool.false_eq_true] at hl
      case len =>
        simp only [hcl]
        split
        · rename_i x t hx ht
          simp only [hsame]
          have hx := hop t x
          generalize opd P ⟨T, L, O⟩ t x = a at hx
          unfold lenD
          split
          · cases a with
            | p y => cases y <;> rfl
            | _ => rfl
          · cases a with
            | arr m' =>
              simp only [mentD] at hx
              dsimp only
              rw [hptr hx]
            | p y => cases y <;> rfl
            | _ => rfl
          · rfl
        · rfl
      case max => simp only [hcl, hopds]
      case min => simp only [hcl, hopds]
    | value x =>
      simp only [hcl]
      have hcal : callee P ⟨T, L.set s ob, O⟩ x = callee P ⟨T, L, O⟩ x := by cases x <;> rfl
      rw [hcal, hopds]
      split
      · rename_i f cap hf
        split
        · rename_i fn hfn
          split
          · unfold quietOK at hq
            rw [ho] at hq
            simp only [hcl, hf, Bool.and_eq_true] at hq
            obtain ⟨hpf, hq⟩ := hq
            rw [callD_look (by simpa using hpf) (quiet_args hfn hq), callD_look (by simpa using hpf) (quiet_args hfn hq)]
            have : callV P fn.resultTypes.toList call (L.set s ob) O f (opds P ⟨T, L, O⟩ c.args.toList c.argTypes.toList ++ cap) = callV P fn.resultTypes.toList call L O f (opds P ⟨T, L, O⟩ c.args.toList c.argTypes.toList ++ cap) := by
              unfold callV
              rw [peekAll_L ob]
              rw [mentDs_append]
              have hcap : mentDs (.loc s) cap = false := by
                unfold callee at hf
                split at hf
                · injection hf with hf; injection hf with _ hf; subst hf; rfl
                · rename_i t
                  have ht := hop 0 (.tmp t)
                  simp only [opd] at ht
                  split at hf
                  · injection hf with hf; injection hf with _ hf; subst hf; rfl
                  · rename_i e
                    rw [e] at ht
                    injection hf with hf; injection hf with _ hf; subst hf
                    simpa only [mentD] using ht
                  · cases hf
                · cases hf
              rw [hcap, Bool.or_false]
              exact mentDs_iff.2 fun d hd => opds_ment hop _ _ d hd
            rw [this]
          · rfl
        · rfl
      · rfl
    | invoke r m => simp only [hcl, Bool.false_eq_true] at hl
theorem opd_L (T : Tm) (L O L' O' : List Ob) (t : TypeId) (x : Operand) : opd P ⟨T, L', O'⟩ t x = opd P ⟨T, L, O⟩ t x := by cases x <;> rfl
theorem opds_L (T : Tm) (L O L' O' : List Ob) : ∀ xs ts, opds P ⟨T, L', O'⟩ xs ts = opds P ⟨T, L, O⟩ xs ts := by
  intro xs
  induction xs with
  | nil => intro ts; rfl
  | cons x xs ih =>
    intro ts
    cases ts with
    | nil => simp only [opds, opd_L T L O L' O', ih]
    | cons t ts => simp only [opds, opd_L T L O L' O', ih]
theorem quiet_L (T : Tm) (L O L' O' : List Ob) : quietOK P o ⟨T, L', O'⟩ = quietOK P o ⟨T, L, O⟩ := by
  unfold quietOK
  split
  · split
    · simp only [opd_L T L O L' O']
    · rfl
  · split
    · rename_i x hc
      have hcal : callee P ⟨T, L', O'⟩ x = callee P ⟨T, L, O⟩ x := by cases x <;> rfl
      rw [hcal, opds_L T L O L' O']
    · simp only [opd_L T L O L' O']
    · rfl
  · simp only [opd_L T L O L' O']
  · rfl
theorem optV_L {call : CallF} {ops : Array Oper} {T : Tm} {L O : List Ob} {s : Nat} (ob : Ob) (hl : lookB o.op = true) (hc : Clean (.loc s) ⟨T, L, O⟩) : optV call P ops o ⟨T, L.set s ob, O⟩ = optV call P ops o ⟨T, L, O⟩ := by
  have step : (if quietOK P o ⟨T, L.set s ob, O⟩ = true then stepOp call P o ⟨T, L.set s ob, O⟩ (fun d _ => some d) else none) = (if quietOK P o ⟨T, L, O⟩ = true then stepOp call P o ⟨T, L, O⟩ (fun d _ => some d) else none) := by
    rw [quiet_L T L O (L.set s ob) O]
    split
    · rename_i hq
      exact look_L ob hl hq hc
    · rfl
  unfold optV
  simp only [step]
theorem optV_ment {call : CallF} {ops : Array Oper} {m : Nm} (hl : lookB o.op = true) (hc : Clean m st) (h : optV call P ops o st = some d) : mentD m d = false := by
  have step : (if quietOK P o st = true then stepOp call P o st (fun d _ => some d) else none) = some d → mentD m d = false := by
    intro hx
    split at hx
    · rename_i hq
      exact look_ment hl hq hc hx
    · cases hx
  unfold optV at h
  split at h
  · exact step h
  · split at h
    · cases h
    · split at h
      · split at h
        · exact step h
        · injection h with h; rw [← h]; rfl
      · injection h with h; rw [← h]; rfl
      · cases h
theorem clean_put {m : Nm} {dst : Option Tmp} (hc : Clean m st) (hd : mentD m d = false) : Clean m (st.put dst d) := by
  cases dst with
  | none => exact hc
  | some t => exact ⟨fun j => by
      show mentD m ((st.T.set t d).getD j ud) = false
      rw [Tm.getD_set]
      split
      · split
        · exact hd
        · rfl
      · exact hc.T j, hc.L, hc.O⟩
def isBo (o : Oper) : Bool := match o.op, o.dst, o.guard with
  | .buildSlice .., some _, none => true
  | .alloc _, some _, none => true
  | _, _, _ => false
theorem isBo_inv (h : isBo o = true) : ((∃ t len ps, o.op = .buildSlice t len ps) ∨ ∃ t, o.op = .alloc t) ∧ ∃ s, o.dst = some s ∧ o.guard = none := by
  unfold isBo at h
  split at h
  · rename_i t len ps s h1 h2 h3
    exact ⟨.inl ⟨t, len, ps, h1⟩, s, h2, h3⟩
  · rename_i t s h1 h2 h3
    exact ⟨.inr ⟨t, h1⟩, s, h2, h3⟩
  · cases h
theorem allPd_view : ∀ {ds : List Dv}, allPd ds = true → ∃ xs : List Pd, ∀ L O, viewAll L O ds = some (xs, L, O)
  | [], _ => ⟨[], fun _ _ => rfl⟩
  | .p x :: ds, h => by
    obtain ⟨xs, q⟩ := allPd_view (ds := ds) h
    exact ⟨x :: xs, fun L O => by simp only [viewAll, view, view1, q]⟩
  | .nilsl _ :: _, h => by cases h
  | .ptr .. :: _, h => by cases h
  | .arr _ :: _, h => by cases h
  | .el .. :: _, h => by cases h
  | .ro .. :: _, h => by cases h
  | .agg .. :: _, h => by cases h
  | .fn .. :: _, h => by cases h
  | .tup _ :: _, h => by cases h
  | .mp _ :: _, h => by cases h
  | .sub .. :: _, h => by cases h
theorem build_ops {t : TypeId} {len : Nat} {ps : Array (Nat × Operand)} (ho : o.op = .buildSlice t len ps) {st st' : St} (h : ∀ x ∈ o.op.operands.toList, ∀ t, opd P st' t x = opd P st t x) (e : TypeId) : (ps.toList.map fun q => opd P st' e q.2) = ps.toList.map fun q => opd P st e q.2 := by
  rw [ho] at h
  refine List.map_congr_left fun q hq => h q.2 ?_ e
  have hq' : q ∈ ps := by simpa using hq
  simp only [Op.operands, Array.toList_map, List.mem_map]
  exact ⟨q, by simpa using hq', rfl⟩
def isBS (o : Oper) : Bool := match o.op with
  | .buildSlice .. => true
  | _ => false
theorem opS_build' {call : CallF} {ops : Array Oper} (hb : isBo o = true) : ∃ s v, o.dst = some s ∧ ((isBS o = true ∧ v = .arr (.loc s)) ∨ (isBS o = false ∧ v = .ptr (.loc s) 0)) ∧ ∀ st st1, Clean (.loc s) st → opS true call P ops o st = some st1 → ∃ ob, ((∀ m, mentOb m ob = false) ∧ (isBS o = true → ∃ e s b ro es, ob = .arr e s b ro es)) ∧ st1 = ⟨st.T.set s v, st.L.set s ob, st.O⟩ ∧
    ∀ st', (∀ x ∈ o.op.operands.toList, ∀ t, opd P st' t x = opd P st t x) → Clean (.loc s) st' → opS true call P ops o st' = some ⟨st'.T.set s v, st'.L.set s ob, st'.O⟩ := by
  obtain ⟨hop, s, hd, hg⟩ := isBo_inv hb
  rcases hop with ⟨t, len, ps, ho⟩ | ⟨t, ho⟩
  · have hbs : isBS o = true := by unfold isBS; rw [ho]
    refine ⟨s, .arr (.loc s), hd, .inl ⟨hbs, rfl⟩, fun st st1 hc h => ?_⟩
    unfold opS at h
    rw [hg] at h
    dsimp only at h
    obtain ⟨q, h1, h2⟩ := Option.map_eq_some_iff.1 h
    unfold stepQ at h1
    rw [if_pos rfl] at h1
    split at h1
    · rename_i hq
      have hq0 := hq
      unfold quietOK at hq
      unfold stepOp at h1
      simp only [ho, hd] at h1 hq
      split at h1
      · rename_i e s' he hs
        injection hs with hs; subst hs
        simp only [he, Bool.and_eq_true, Bool.not_eq_true'] at hq
        obtain ⟨hnr, hq1⟩ := hq
        obtain ⟨xs, hv⟩ := allPd_view hq1
        simp only [hnr, Bool.false_eq_true, if_false] at h1
        split at h1
        · cases h1
        · rename_i c1
          split at h1
          · rename_i c2
            split at h1
            · rename_i c3
              rw [hv] at h1
              injection h1 with h1
              subst h1
              refine ⟨.arr e (P.cellsOf e) (P.bytesOf e) false (xs.map pcells), ⟨fun _ => rfl, fun _ => ⟨_, _, _, _, _, rfl⟩⟩, ?_, fun st' hsame hc' => ?_⟩
              · rw [← h2, hd, fresh_id hc rfl]
                rfl
              · have hps := build_ops (P := P) ho hsame e
                have hq' : quietOK P o st' = true := by
                  unfold quietOK
                  simp only [ho, he, hnr, hps, hq1, Bool.not_false, Bool.and_self]
                unfold opS
                rw [hg]
                dsimp only
                unfold stepQ
                rw [if_pos rfl, if_pos hq']
                unfold stepOp
                simp only [ho, hd, he, hnr, Bool.false_eq_true, if_false]
                rw [if_neg c1, if_pos c2, hps, if_pos c3, hv]
                simp only [pr, Option.map_some]
                rw [fresh_id hc' rfl]
                rfl
            · cases h1
          · cases h1
      · cases h1
    · cases h1
  · have hbs : isBS o = false := by unfold isBS; rw [ho]
    refine ⟨s, .ptr (.loc s) 0, hd, .inr ⟨hbs, rfl⟩, fun st st1 hc h => ?_⟩
    have hq : ∀ st' : St, quietOK P o st' = true := fun st' => by unfold quietOK; simp only [ho]
    unfold opS at h
    rw [hg] at h
    dsimp only at h
    obtain ⟨q, h1, h2⟩ := Option.map_eq_some_iff.1 h
    unfold stepQ at h1
    rw [if_pos rfl, if_pos (hq st)] at h1
    unfold stepOp at h1
    simp only [ho, hd] at h1
    split at h1
    · rename_i zs s' hz hs
      injection hs with hs; subst hs
      injection h1 with h1
      subst h1
      have hm : ∀ m, mentOb m (boxO zs.length zs) = false := by
        intro m
        unfold boxO
        split
        · rfl
        · simp only [mentOb]
          unfold zeroD at hz
          split at hz
          · split at hz
            · split at hz
              · injection hz with hz; rw [← hz]; exact zeroC_ment _ _
              · cases hz
            · cases hz
          · cases hz
      refine ⟨boxO zs.length zs, ⟨hm, fun q => by rw [hbs] at q; cases q⟩, ?_, fun st' hsame hc' => ?_⟩
      · rw [← h2, hd, fresh_id hc (hm _)]
        rfl
      · unfold opS
        rw [hg]
        dsimp only
        unfold stepQ
        rw [if_pos rfl, if_pos (hq st')]
        unfold stepOp
        simp only [ho, hd, hz]
        simp only [pr, Option.map_some]
        rw [fresh_id hc' (hm _)]
        rfl
    · cases h1
theorem opS_build {call : CallF} {ops : Array Oper} (hb : isBo o = true) : ∃ s v, o.dst = some s ∧ ∀ st st1, Clean (.loc s) st → opS true call P ops o st = some st1 → ∃ ob, (∀ m, mentOb m ob = false) ∧ st1 = ⟨st.T.set s v, st.L.set s ob, st.O⟩ ∧
    ∀ st', (∀ x ∈ o.op.operands.toList, ∀ t, opd P st' t x = opd P st t x) → Clean (.loc s) st' → opS true call P ops o st' = some ⟨st'.T.set s v, st'.L.set s ob, st'.O⟩ := by
  obtain ⟨s, v, h1, _, h2⟩ := opS_build' (P := P) (call := call) (ops := ops) hb
  exact ⟨s, v, h1, fun st st1 hc h => by
    obtain ⟨ob, q1, q2⟩ := h2 st st1 hc h
    exact ⟨ob, q1.1, q2⟩⟩
theorem swap_build_look {call : CallF} {ops : Array Oper} {x y : Oper} (hx : isBo x = true) (hy : lookB y.op = true) (hap : x.apart ops y = true) {st st1 st2 : St} (hc : ∀ s, x.dst = some s → Clean (.loc s) st) (h1 : opS true call P ops x st = some st1) (h2 : opS true call P ops y st1 = some st2) :
    ∃ st1', opS true call P ops y st = some st1' ∧ opS true call P ops x st1' = some st2 := by
  obtain ⟨a1, a2, a3⟩ := Oper.apart_spec hap
  obtain ⟨s, v0, hd, hB⟩ := opS_build (P := P) (call := call) (ops := ops) hx
  have hc := hc s hd
  obtain ⟨ob, hob, e1, hagain⟩ := hB st st1 hc h1
  obtain ⟨T, L, O⟩ := st
  subst e1
  rw [opS_look (lookB_look hy)] at h2
  obtain ⟨d2, e2, rfl⟩ := Option.map_eq_some_iff.1 h2
  have e3 : optV call P ops y ⟨T, L.set s ob, O⟩ = some d2 := by
    have hback : (⟨T.set s v0, L.set s ob, O⟩ : St).put (some s) (T.getD s ud) = ⟨T, L.set s ob, O⟩ := by
      show (⟨(T.set s v0).set s (T.getD s ud), L.set s ob, O⟩ : St) = _
      rw [Tm.set_back]
    have := optV_put (P := P) (call := call) (ops := ops) (dst := some s) (v := T.getD s ud) (lookB_look hy) (fun d hd' => a1 d (by rw [hd]; exact hd')) e2
    rwa [hback] at this
  rw [optV_L ob hy hc] at e3
  have hm := optV_ment (m := .loc s) hy hc e3
  refine ⟨(⟨T, L, O⟩ : St).put y.dst d2, by rw [opS_look (lookB_look hy), e3]; rfl, ?_⟩
  rw [hagain _ (fun z hz t => ?_) (clean_put hc hm)]
  · have := a2 s hd
    cases hyd : y.dst with
    | none => rfl
    | some u =>
      have hne : u ≠ s := fun e => this (by rw [hyd, e])
      simp only [St.put, Tm.set_comm _ _ _ hne]
  · cases z with
    | tmp v =>
      exact put_ne (st := ⟨T, L, O⟩) fun e he => fun q => a3 e he (by
        subst q
        exact List.mem_append_left _ (List.mem_filterMap.2 ⟨.tmp e, hz, rfl⟩))
    | _ => rfl
theorem swap_look_build {call : CallF} {ops : Array Oper} {x y : Oper} (hx : lookB x.op = true) (hy : isBo y = true) (hap : x.apart ops y = true) {st st1 st2 : St} (hc : ∀ s, y.dst = some s → Clean (.loc s) st) (h1 : opS true call P ops x st = some st1) (h2 : opS true call P ops y st1 = some st2) :
    ∃ st1', opS true call P ops y st = some st1' ∧ opS true call P ops x st1' = some st2 := by
  obtain ⟨a1, a2, a3⟩ := Oper.apart_spec hap
  obtain ⟨s, v0, hd, hB⟩ := opS_build (P := P) (call := call) (ops := ops) hy
  have hc := hc s hd
  rw [opS_look (lookB_look hx)] at h1
  obtain ⟨d1, e1, rfl⟩ := Option.map_eq_some_iff.1 h1
  have hm := optV_ment (m := .loc s) hx hc e1
  obtain ⟨ob, hob, e2, hagain⟩ := hB _ _ (clean_put hc hm) h2
  have hB2 := hagain st (fun z hz t => by
    cases z with
    | tmp v =>
      exact (put_ne (st := st) fun e he => fun q => a1 e he (by
        subst q
        exact List.mem_append_left _ (List.mem_filterMap.2 ⟨.tmp e, hz, rfl⟩))).symm
    | _ => rfl) hc
  obtain ⟨T, L, O⟩ := st
  refine ⟨_, hB2, ?_⟩
  have e3 : optV call P ops x ⟨T, L.set s ob, O⟩ = some d1 := by rw [optV_L ob hx hc]; exact e1
  have e4 : optV call P ops x ⟨T.set s v0, L.set s ob, O⟩ = some d1 := optV_put (P := P) (call := call) (ops := ops) (st := ⟨T, L.set s ob, O⟩) (dst := some s) (v := v0) (lookB_look hx) (fun d hd' => a3 d (by rw [hd]; exact hd')) e3
  rw [opS_look (lookB_look hx), e4, e2]
  simp only [Option.map_some]
  cases hxd : x.dst with
  | none => rfl
  | some u =>
    have hne : u ≠ s := fun e => a2 u hxd (by rw [hd, e])
    simp only [St.put, Tm.set_comm _ _ _ hne]
def okLook (x y : Oper) : Bool := lookOp x.op && lookOp y.op
def okBuild (x y : Oper) : Bool := (lookB x.op && lookB y.op) || ((isBo x && lookB y.op) || (lookB x.op && isBo y))
def oneBo : List Oper → Bool
  | [] => true
  | o :: l => if isBo o then l.all (fun o => lookB o.op) else lookB o.op && oneBo l
def cleanFor (ops : Array Oper) (st : St) : Bool := ops.toList.all fun o => !isBo o || (match o.dst with
  | some s => cleanSt (.loc s) st
  | none => true)
def dr0 (ops : Array Oper) : Bool := drBack ops && drPairs ops okLook
def drB (ops : Array Oper) : Bool := drBack ops && ((oneBo ops.toList || ((sealed ops 1 && oneBo (ops.toList.take (ops.size - 1))) || (sealed ops 2 && oneBo (ops.toList.take (ops.size - 2))))) && drPairs ops okBuild)
def dr1 (ops : Array Oper) (st : St) : Bool := dr0 ops || (drB ops && cleanFor ops st)
theorem preAll_len (ops : Array Oper) : ∀ n, (preAll ops n).length = n
  | 0 => rfl
  | n + 1 => by simp [preAll, preAll_len ops n]
theorem preAll_get (ops : Array Oper) (n : Nat) : ∀ k j, j < n → (preAll ops (n + k)).getD j [] = (preAll ops n).getD j []
  | 0, j, h => rfl
  | k + 1, j, h => by
    rw [← preAll_get ops n k j h, ← Nat.add_assoc]
    simp only [preAll, List.getD_eq_getElem?_getD]
    rw [List.getElem?_append_left (by rw [preAll_len]; omega)]
theorem mem_foldl1 : ∀ (l s : List Nat) (p : Nat), p ∈ l.foldl (fun s p => if s.contains p then s else p :: s) s → p ∈ l ∨ p ∈ s
  | [], s, p, h => .inr h
  | x :: l, s, p, h => by
    simp only [List.foldl_cons] at h
    rcases mem_foldl1 l _ p h with q | q
    · exact .inl (List.mem_cons_of_mem _ q)
    · split at q
      · exact .inr q
      · rcases List.mem_cons.1 q with q | q
        · exact .inl (q ▸ List.mem_cons_self ..)
        · exact .inr q
theorem mem_pre1 {acc : List (List Nat)} {p : Nat} : ∀ (l : List Edge) (s : List Nat), p ∈ l.foldl (fun s e => if Region.binds .any e then (acc.getD e.on []).foldl (fun s p => if s.contains p then s else p :: s) (if s.contains e.on then s else e.on :: s) else s) s →
    p ∈ s ∨ ∃ e ∈ l, Region.binds .any e = true ∧ (p = e.on ∨ p ∈ acc.getD e.on [])
  | [], s, h => .inl h
  | x :: l, s, h => by
    simp only [List.foldl_cons] at h
    rcases mem_pre1 l _ h with q | ⟨e, q1, q2⟩
    · split at q
      · rename_i hb
        rcases mem_foldl1 _ _ _ q with q | q
        · exact .inr ⟨x, List.mem_cons_self .., hb, .inr q⟩
        · split at q
          · exact .inl q
          · rcases List.mem_cons.1 q with q | q
            · exact .inr ⟨x, List.mem_cons_self .., hb, .inl q⟩
            · exact .inl q
      · exact .inl q
    · exact .inr ⟨e, List.mem_cons_of_mem _ q1, q2⟩
theorem pre_listed {ops : Array Oper} {Ls : Nat → Prop} (hL : ∀ j o, Ls j → ops[j]? = some o → ∀ e ∈ o.after, Region.binds .any e = true → Ls e.on) :
    ∀ n j o, j < n → ops[j]? = some o → (∀ e ∈ o.after, Region.binds .any e = true → Ls e.on) → ∀ p ∈ (preAll ops n).getD j [], Ls p
  | 0, j, o, h, _, _, _, _ => by cases h
  | n + 1, j, o, h, ho, he, p, hp => by
    rcases Nat.lt_or_ge j n with hlt | hge
    · rw [preAll_get ops n 1 j hlt] at hp
      exact pre_listed hL n j o hlt ho he p hp
    · have : j = n := by omega
      subst this
      have hx : (preAll ops (j + 1)).getD j [] = pre1 (preAll ops j) o := by
        simp only [preAll, List.getD_eq_getElem?_getD, ho]
        rw [List.getElem?_append_right (by rw [preAll_len]; omega), preAll_len]
        simp
      rw [hx] at hp
      unfold pre1 at hp
      rcases mem_pre1 _ _ hp with q | ⟨e, q1, q2, q3⟩
      · cases q
      · have q1' : e ∈ o.after := by simpa using q1
        rcases q3 with q3 | q3
        · rw [q3]; exact he e q1' q2
        · -- one step further back
          rcases Nat.lt_or_ge e.on j with h2 | h2
          · cases hoe : ops[e.on]? with
            | none =>
              exfalso
              have hjlt := (Array.getElem?_eq_some_iff.1 ho).1
              rw [Array.getElem?_eq_none_iff] at hoe
              omega
            | some oe => exact pre_listed hL j e.on oe h2 hoe (hL e.on oe (he e q1' q2) hoe) p q3
          · exfalso
            rw [getD_ge (by rw [preAll_len]; omega)] at q3
            cases q3
theorem pre_lt {ops : Array Oper} (hback : ∀ j o, ops[j]? = some o → ∀ e ∈ o.after, Region.binds .any e = true → e.on < j) : ∀ n j p, j < n → p ∈ (preAll ops n).getD j [] → p < j
  | 0, j, p, h, _ => by cases h
  | n + 1, j, p, h, hp => by
    rcases Nat.lt_or_ge j n with hlt | hge
    · rw [preAll_get ops n 1 j hlt] at hp
      exact pre_lt hback n j p hlt hp
    · have : j = n := by omega
      subst this
      cases ho : ops[j]? with
      | none =>
        exfalso
        have hx : (preAll ops (j + 1)).getD j [] = [] := by
          simp only [preAll, List.getD_eq_getElem?_getD, ho]
          rw [List.getElem?_append_right (by rw [preAll_len]; omega), preAll_len]
          simp
        rw [hx] at hp
        cases hp
      | some o =>
        have hx : (preAll ops (j + 1)).getD j [] = pre1 (preAll ops j) o := by
          simp only [preAll, List.getD_eq_getElem?_getD, ho]
          rw [List.getElem?_append_right (by rw [preAll_len]; omega), preAll_len]
          simp
        rw [hx] at hp
        unfold pre1 at hp
        rcases mem_pre1 _ _ hp with q | ⟨e, q1, q2, q3⟩
        · cases q
        · have q1' : e ∈ o.after := by simpa using q1
          have hlt := hback j o ho e q1' q2
          rcases q3 with q3 | q3
          · omega
          · have := pre_lt hback j e.on p hlt q3
            omega
def doneFor (ops : Array Oper) (R : Nat → Prop) (j : Nat) : Prop := ∀ p ∈ (preAll ops ops.size).getD j [], ¬ R p
theorem move_front {qt : Bool} {call : CallF} {ops : Array Oper} {i : Nat} {l2 : List Nat} {st' : St} {J : (Nat → Prop) → St → Prop} (hmono : ∀ (R R' : Nat → Prop) st, (∀ k, R' k → R k) → (∀ k, k < ops.size → R k → R' k) → J R st → J R' st)
    {Good : Nat → Prop} (hstep : ∀ j (R : Nat → Prop) st st1, Good j → R j → doneFor ops R j → J R st → op1 qt call P ops j st = some st1 → J (fun k => R k ∧ k ≠ j) st1) : ∀ (l1 : List Nat) (R : Nat → Prop) (st : St), J R st → l1.Pairwise (· < ·) → i ∉ l1 → (∀ j ∈ l1, R j ∧ Good j) → (∀ j ∈ l1, ∀ p ∈ (preAll ops ops.size).getD j [], ¬ R p ∨ (p ∈ l1 ∧ p < j)) → R i → doneFor ops R i →
    (∀ j ∈ l1, ∀ (R : Nat → Prop) s s1 s2, R j → R i → doneFor ops R j → doneFor ops R i → J R s → op1 qt call P ops j s = some s1 → op1 qt call P ops i s1 = some s2 → ∃ s1', op1 qt call P ops i s = some s1' ∧ op1 qt call P ops j s1' = some s2) →
    evalL qt call P ops (l1 ++ i :: l2) st = some st' → ∃ st1, op1 qt call P ops i st = some st1 ∧ evalL qt call P ops (l1 ++ l2) st1 = some st'
  | [], R, st, _, _, _, _, _, _, _, _, h => by
    simp only [List.nil_append, evalL] at h
    exact Option.bind_eq_some_iff.1 h
  | j :: l1, R, st, hJ, hnd, hi, hR, hpre, hRi, hDi, hsw, h => by
    simp only [List.cons_append, evalL] at h
    obtain ⟨s1, h1, h2⟩ := Option.bind_eq_some_iff.1 h
    have hj := (hR j (List.mem_cons_self ..)).1
    have hg := (hR j (List.mem_cons_self ..)).2
    rw [List.pairwise_cons] at hnd
    have hij : i ≠ j := fun e => hi (by rw [e]; exact List.mem_cons_self ..)
    have hDj : doneFor ops R j := by
      intro p hp
      rcases hpre j (List.mem_cons_self ..) p hp with q | ⟨q1, q2⟩
      · exact q
      · exfalso
        rcases List.mem_cons.1 q1 with q1 | q1
        · omega
        · have := hnd.1 p q1; omega
    obtain ⟨s2, h3, h4⟩ := move_front hmono hstep l1 (fun k => R k ∧ k ≠ j) s1 (hstep j R st s1 hg hj hDj hJ h1) hnd.2 (fun q => hi (List.mem_cons_of_mem _ q)) (fun k hk => ⟨⟨(hR k (List.mem_cons_of_mem _ hk)).1, fun e => by have := hnd.1 k hk; omega⟩, (hR k (List.mem_cons_of_mem _ hk)).2⟩) (fun k hk p hp => by
      rcases hpre k (List.mem_cons_of_mem _ hk) p hp with q | ⟨q1, q2⟩
      · exact .inl fun q' => q q'.1
      · rcases List.mem_cons.1 q1 with q1 | q1
        · exact .inl fun q' => q'.2 q1
        · exact .inr ⟨q1, q2⟩) ⟨hRi, hij⟩ (fun p hp q => hDi p hp q.1) (fun k hk => hsw k (List.mem_cons_of_mem _ hk)) h2
    obtain ⟨s1', q1, q2⟩ := hsw j (List.mem_cons_self ..) R st s1 s2 hj hRi hDj hDi hJ h1 h3
    refine ⟨s1', q1, ?_⟩
    simp only [List.cons_append, evalL]
    rw [q2]
    exact h4
theorem order_ok {qt : Bool} {call : CallF} {ops : Array Oper} {J : (Nat → Prop) → St → Prop} (hm : P.follows .mixedOrders = true) (hback : drBack ops = true) (hmono : ∀ (R R' : Nat → Prop) st, (∀ k, R' k → R k) → (∀ k, k < ops.size → R k → R' k) → J R st → J R' st)
    {Good : Nat → Prop} (n : Nat) (hgood : ∀ j, j < n → Good j) (hsl : ∀ j, n ≤ j → j < ops.size → ∀ k, k < j → k ∈ (preAll ops ops.size).getD j []) (hempty : ∀ st (R : Nat → Prop), (∀ k, R k → n ≤ k) → J R st)
    (hstep : ∀ j (R : Nat → Prop) st st1, Good j → R j → doneFor ops R j → J R st → op1 qt call P ops j st = some st1 → J (fun k => R k ∧ k ≠ j) st1)
    (hswap : ∀ i j x y (R : Nat → Prop) s s1 s2, i < j → ops[i]? = some x → ops[j]? = some y → i ∉ (preAll ops ops.size).getD j [] → R i → R j → doneFor ops R i → doneFor ops R j → J R s → op1 qt call P ops i s = some s1 → op1 qt call P ops j s1 = some s2 → ∃ s1', op1 qt call P ops j s = some s1' ∧ op1 qt call P ops i s1' = some s2)
    {st st' : St} (h0 : J (fun _ => True) st) (hev : evalL qt call P ops (List.range ops.size) st = some st') (t : Nat) : evalL qt call P ops (Region.schedule (P.follows .mixedOrders) ops t) st = some st' := by
  simp only [Region.schedule, hm, Bool.true_or, if_true]
  have hback : ∀ j o, ops[j]? = some o → ∀ e ∈ o.after, Region.binds .any e = true → e.on < j := by
    intro j o ho e he hb
    unfold drBack at hback
    rw [List.all_eq_true] at hback
    have hmem : (o, j) ∈ ops.toList.zipIdx := by
      rw [List.mem_zipIdx_iff_getElem?]
      simpa using ho
    have := Array.all_eq_true_iff_forall_mem.1 (hback _ hmem) e he
    simpa [hb] using this
  have main : ∀ (fuel t : Nat) (listed : Array Bool) (st : St), J (fun k => listed.getD k true = false) st → listed.size = ops.size → ((List.range ops.size).filter fun i => !listed.getD i true).length ≤ fuel →
      (∀ j o, listed.getD j false = true → ops[j]? = some o → ∀ e ∈ o.after, Region.binds .any e = true → listed.getD e.on false = true) →
      evalL qt call P ops ((List.range ops.size).filter fun i => !listed.getD i true) st = some st' → evalL qt call P ops (Region.linearise.go .any ops fuel t listed []) st = some st' := by
    intro fuel
    induction fuel with
    | zero =>
      intro t listed st hJ hsz hf hcl h
      have : ((List.range ops.size).filter fun i => !listed.getD i true) = [] := List.eq_nil_of_length_eq_zero (by omega)
      rw [this] at h
      simpa [Region.linearise.go] using h
    | succ fuel ih =>
      intro t listed st hJ hsz hf hcl h
      simp only [Region.linearise.go]
      change evalL qt call P ops (match (Region.ready .any ops listed)[t % (Region.ready .any ops listed).length]? with
        | some i => Region.linearise.go .any ops fuel (t / (Region.ready .any ops listed).length) (listed.setIfInBounds i true) [i]
        | none => [].reverse) st = some st'
      cases hi : (Region.ready .any ops listed)[t % (Region.ready .any ops listed).length]? with
      | none =>
        have hnil : Region.ready .any ops listed = [] := by
          cases hr : Region.ready .any ops listed with
          | nil => rfl
          | cons x xs =>
            rw [hr] at hi
            have hlt : t % (x :: xs).length < (x :: xs).length := Nat.mod_lt _ (by simp)
            simp at hi
            simp at hlt
            omega
        have hrem : ((List.range ops.size).filter fun i => !listed.getD i true) = [] := by
          -- the first that isn't listed would be ready
          cases hrr : ((List.range ops.size).filter fun i => !listed.getD i true) with
          | nil => rfl
          | cons x xs =>
            exfalso
            obtain ⟨n, hn, hmin⟩ := least (p := fun i => i < ops.size ∧ listed.getD i true = false) ⟨x, by
              have : x ∈ ((List.range ops.size).filter fun i => !listed.getD i true) := by rw [hrr]; simp
              simpa [List.mem_filter] using this⟩
            have ho : ops[n]? = some ops[n] := Array.getElem?_eq_getElem hn.1
            have : n ∈ Region.ready .any ops listed := mem_ready.2 ⟨hn.2, ops[n], ho, fun e he hb => by
              have hlt := hback n _ ho e he hb
              cases hx : listed.getD e.on false with
              | true => rfl
              | false =>
                exfalso
                have hlt' : e.on < listed.size := by omega
                have h2 : listed.getD e.on true = false := by simpa [Array.getD_eq_getD_getElem?, hlt'] using hx
                have := hmin e.on ⟨by omega, h2⟩
                omega⟩
            rw [hnil] at this
            cases this
        rw [hrem] at h
        simpa using h
      | some i =>
        have hir : i ∈ Region.ready .any ops listed := List.mem_of_getElem? hi
        obtain ⟨hun, o, ho, hall⟩ := mem_ready.1 hir
        have hlt : i < ops.size := (Array.getElem?_eq_some_iff.1 ho).1
        simp only []
        rw [linearise_go_acc, List.reverse_singleton, List.singleton_append]
        have hsplit : ∀ p : Nat → Bool, (List.range ops.size).filter p = (List.range i).filter p ++ ((List.range' i (ops.size - i)).filter p) := by
          intro p
          rw [← List.filter_append, List.range_eq_range', List.range_eq_range']
          have := List.range'_append_1 (s := 0) (m := i) (n := ops.size - i)
          rw [Nat.zero_add, Nat.add_sub_cancel' (Nat.le_of_lt hlt)] at this
          rw [this]
        have hsplit2 : List.range' i (ops.size - i) = i :: List.range' (i + 1) (ops.size - i - 1) := by
          have : ops.size - i = (ops.size - i - 1) + 1 := by omega
          rw [this, List.range'_succ]
          rfl
        rw [hsplit, hsplit2, List.filter_cons_of_pos (by simp [hun])] at h
        have hun' : listed.getD i true = false := by simpa using hun
        have hDi : doneFor ops (fun k => listed.getD k true = false) i := by
          intro p hp q
          have := pre_listed (Ls := fun j => listed.getD j false = true) hcl ops.size i o hlt ho hall p hp
          have hps : p < listed.size := by
            rcases Nat.lt_or_ge p listed.size with h | h
            · exact h
            · rw [Array.getD_eq_getD_getElem?, Array.getElem?_eq_none h] at q
              cases q
          simp [Array.getD_eq_getD_getElem?, hps] at this q
          rw [this] at q
          cases q
        obtain ⟨st1, h1, h2⟩ := move_front hmono hstep ((List.range i).filter fun k => !listed.getD k true) (fun k => listed.getD k true = false) st hJ (List.pairwise_lt_range.filter _) (fun q => by
            rw [List.mem_filter, List.mem_range] at q
            omega) (fun j hj => by
            rw [List.mem_filter, List.mem_range] at hj
            refine ⟨by simpa using hj.2, ?_⟩
            rcases Nat.lt_or_ge j n with q | q
            · exact hgood j q
            · exfalso
              have hju : listed.getD j true = false := by simpa using hj.2
              have := pre_listed (Ls := fun j => listed.getD j false = true) hcl ops.size i o hlt ho hall j (hsl i (by omega) hlt j hj.1)
              have hjs : j < listed.size := by omega
              simp [Array.getD_eq_getD_getElem?, hjs] at this hju
              rw [this] at hju
              cases hju) (fun j hj p hp => by
            rw [List.mem_filter, List.mem_range] at hj
            have hpj : p < j := pre_lt hback ops.size j p (by omega) hp
            cases hx : listed.getD p true with
            | true => exact .inl (by simp)
            | false => exact .inr ⟨List.mem_filter.2 ⟨List.mem_range.2 (by omega), by simp [hx]⟩, hpj⟩) hun' hDi (fun j hj R s s1 s2 r1 r2 d1 d2 hJs q1 q2 => by
          rw [List.mem_filter, List.mem_range] at hj
          obtain ⟨hji, hju⟩ := hj
          have hju : listed.getD j true = false := by simpa using hju
          have hoj : ops[j]? = some (ops[j]'(by omega)) := Array.getElem?_eq_getElem (by omega)
          refine hswap j i _ _ R s s1 s2 hji hoj ho (fun q => ?_) r1 r2 d1 d2 hJs q1 q2
          have := pre_listed (Ls := fun j => listed.getD j false = true) hcl ops.size i o hlt ho hall j q
          have hjs : j < listed.size := by omega
          simp [Array.getD_eq_getD_getElem?, hjs] at this hju
          rw [this] at hju
          cases hju) h
        simp only [evalL]
        rw [h1]
        have hrest : ((List.range ops.size).filter fun k => !(listed.setIfInBounds i true).getD k true) = (List.range i).filter (fun k => !listed.getD k true) ++ (List.range' (i + 1) (ops.size - i - 1)).filter (fun k => !listed.getD k true) := by
          rw [hsplit, hsplit2, List.filter_cons_of_neg (by simp [hsz, hlt])]
          congr 1
          · refine List.filter_congr fun k hk => ?_
            rw [List.mem_range] at hk
            rw [getD_set_ne true (by omega)]
          · refine List.filter_congr fun k hk => ?_
            rw [List.mem_range'_1] at hk
            rw [getD_set_ne true (by omega)]
        show evalL qt call P ops _ st1 = some st'
        have hk0 : ∀ k, (listed.setIfInBounds i true).getD k true = false → listed.getD k true = false ∧ k ≠ i := fun k hk => by
          by_cases e : i = k
          · subst e
            exfalso
            simp [hsz, hlt] at hk
          · rw [getD_set_ne true e] at hk
            exact ⟨hk, fun q => e q.symm⟩
        have hJ1 : J (fun k => (listed.setIfInBounds i true).getD k true = false) st1 := by
          rcases Nat.lt_or_ge i n with hg | hg
          · exact hmono _ _ _ hk0 (fun k hk q => (getD_set_ne true (fun e => q.2 e.symm)).trans q.1) (hstep i _ st st1 (hgood i hg) hun' hDi hJ h1)
          · refine hempty st1 _ (fun k hk => Nat.le_of_not_lt fun hkn => ?_)
            obtain ⟨e1, e2⟩ := hk0 k hk
            have hks : k < listed.size := by
              rcases Nat.lt_or_ge k listed.size with h | h
              · exact h
              · rw [Array.getD_eq_getD_getElem?, Array.getElem?_eq_none h] at e1
                cases e1
            have := pre_listed (Ls := fun j => listed.getD j false = true) hcl ops.size i o hlt ho hall k (hsl i hg hlt k (by omega))
            simp [Array.getD_eq_getD_getElem?, hks] at this e1
            rw [this] at e1
            cases e1
        refine ih _ _ st1 hJ1 (by simp [hsz]) ?_ ?_ (by rw [hrest]; exact h2)
        · have : ((List.range ops.size).filter fun k => !listed.getD k true).length = ((List.range ops.size).filter fun k => !(listed.setIfInBounds i true).getD k true).length + 1 := by
            rw [hrest, hsplit, hsplit2, List.filter_cons_of_pos (by simp [hun])]
            simp
            omega
          omega
        · intro j oj hj hoj e he hb
          by_cases hij : i = j
          · subst hij
            rw [ho] at hoj
            injection hoj with hoj
            subst hoj
            exact getD_set_true (hall e he hb)
          · rw [getD_set_ne false hij] at hj
            exact getD_set_true (hcl j oj hj hoj e he hb)
  unfold Region.linearise
  refine main ops.size t (Array.replicate ops.size false) st (hmono _ _ _ (fun _ _ => trivial) (fun k hk _ => by simp [hk]) h0) (by simp) (by
    refine Nat.le_trans (List.length_filter_le _ _) ?_
    simp) (fun j o hj => ?_) ?_
  · exfalso
    rw [Array.getD_eq_getD_getElem?, Array.getElem?_replicate] at hj
    split at hj <;> cases hj
  · have : ((List.range ops.size).filter fun i => !(Array.replicate ops.size false).getD i true) = List.range ops.size := by
      rw [List.filter_eq_self]
      intro i hi
      rw [List.mem_range] at hi
      simp [hi]
    rw [this]
    exact hev
theorem pairs_get {ops : Array Oper} {ok : Oper → Oper → Bool} (h : drPairs ops ok = true) {i j : Nat} {x y : Oper} (hij : i < j) (hx : ops[i]? = some x) (hy : ops[j]? = some y) (hn : i ∉ (preAll ops ops.size).getD j []) : ok x y = true ∧ x.apart ops y = true := by
  have hj : j < ops.size := (Array.getElem?_eq_some_iff.1 hy).1
  have h1 := List.all_eq_true.1 (List.all_eq_true.1 h j (List.mem_range.2 hj)) i (List.mem_range.2 hij)
  simp only [hx, hy, Bool.or_eq_true, Bool.and_eq_true, List.contains_iff_mem] at h1
  exact h1.resolve_left hn
theorem oneBo_mem {l : List Oper} (h : oneBo l = true) : ∀ o ∈ l, isBo o = true ∨ lookB o.op = true := by
  induction l with
  | nil => intro x hx; cases hx
  | cons o l ih =>
    intro x hx
    unfold oneBo at h
    by_cases hb : isBo o = true
    · rw [if_pos hb] at h
      rcases List.mem_cons.1 hx with q | q
      · exact .inl (q ▸ hb)
      · exact .inr (List.all_eq_true.1 h x q)
    · rw [if_neg hb, Bool.and_eq_true] at h
      rcases List.mem_cons.1 hx with q | q
      · exact .inr (q ▸ h.1)
      · exact ih h.2 x q
theorem bo_not_look (h : isBo o = true) : lookB o.op = false := by
  obtain ⟨hop, _⟩ := isBo_inv h
  rcases hop with ⟨t, len, ps, ho⟩ | ⟨t, ho⟩ <;> (rw [ho]; rfl)
theorem oneBo_uniq : ∀ {l : List Oper}, oneBo l = true → ∀ (i j : Nat) x y, l[i]? = some x → l[j]? = some y → isBo x = true → isBo y = true → i = j
  | [], _, i, j, x, y, hx, _, _, _ => by simp at hx
  | o :: l, h, i, j, x, y, hx, hy, bx, by_ => by
    unfold oneBo at h
    have no : ∀ (k : Nat) z, l.all (fun o => lookB o.op) = true → l[k]? = some z → isBo z = true → False := fun k z hl hz bz => by
      have := List.all_eq_true.1 hl z (List.mem_of_getElem? hz)
      rw [bo_not_look bz] at this
      cases this
    split at h
    · cases i with
      | zero =>
        cases j with
        | zero => rfl
        | succ j => exact (no j y h (by simpa using hy) by_).elim
      | succ i => exact (no i x h (by simpa using hx) bx).elim
    · rename_i hb
      rw [Bool.and_eq_true] at h
      cases i with
      | zero =>
        simp only [List.getElem?_cons_zero, Option.some.injEq] at hx
        subst hx
        exact absurd bx hb
      | succ i =>
        cases j with
        | zero =>
          simp only [List.getElem?_cons_zero, Option.some.injEq] at hy
          subst hy
          exact absurd by_ hb
        | succ j => rw [oneBo_uniq h.2 i j x y (by simpa using hx) (by simpa using hy) bx by_]
theorem dr1_ok (hm : P.follows .mixedOrders = true) : DrOK1 P dr1 := by
  intro call ops st hdr st' hev t
  unfold dr1 at hdr
  rw [Bool.or_eq_true] at hdr
  rcases hdr with hdr | hdr
  · unfold dr0 at hdr
    rw [Bool.and_eq_true] at hdr
    refine order_ok (J := fun _ _ => True) (Good := fun _ => True) hm hdr.1 (fun _ _ _ _ _ _ => trivial) ops.size (fun _ _ => trivial) (fun j h1 h2 => absurd h2 (Nat.not_lt.2 h1)) (fun _ _ _ => trivial) (fun _ _ _ _ _ _ _ _ _ => trivial) (fun i j x y R s s1 s2 hij hx hy hn _ _ _ _ _ q1 q2 => ?_) trivial hev t
    obtain ⟨p1, p2⟩ := pairs_get hdr.2 hij hx hy hn
    unfold okLook at p1
    rw [Bool.and_eq_true] at p1
    unfold op1 at q1 q2 ⊢
    rw [hx] at q1 ⊢
    rw [hy] at q2 ⊢
    exact look_swap p1.1 p1.2 p2 q1 q2
  · unfold drB at hdr
    simp only [Bool.and_eq_true] at hdr
    obtain ⟨⟨hb, hone, hpairs⟩, hcl⟩ := hdr
    have hget : ∀ {k : Nat} {o : Oper}, ops[k]? = some o → ops.toList[k]? = some o := fun h => by simpa using h
    -- which ones look, or make; there is one that makes at most, but for the last
    have hkind : ∃ n, n ≤ ops.size ∧ (∀ j, n ≤ j → j < ops.size → ∀ k, k < j → k ∈ (preAll ops ops.size).getD j []) ∧ oneBo (ops.toList.take n) = true := by
      have hse : ∀ m, sealed ops m = true → ∀ j, ops.size - m ≤ j → j < ops.size → ∀ k, k < j → k ∈ (preAll ops ops.size).getD j [] := by
        intro m h1 j hj hjs k hk
        unfold sealed at h1
        have e : ops.size - 1 - (ops.size - 1 - j) = j := by omega
        have := List.all_eq_true.1 (List.all_eq_true.1 h1 (ops.size - 1 - j) (List.mem_range.2 (by omega))) k (List.mem_range.2 (by omega))
        rw [e] at this
        simpa using this
      simp only [Bool.or_eq_true, Bool.and_eq_true] at hone
      rcases hone with h | ⟨h1, h2⟩ | ⟨h1, h2⟩
      · exact ⟨ops.size, Nat.le_refl _, fun j h1 h2 => absurd h2 (Nat.not_lt.2 h1), by rw [List.take_of_length_le (by simp)]; exact h⟩
      · exact ⟨ops.size - 1, by omega, hse 1 h1, h2⟩
      · exact ⟨ops.size - 2, by omega, hse 2 h1, h2⟩
    obtain ⟨n, hnle, hn, hone⟩ := hkind
    have hgetn : ∀ {k : Nat} {o : Oper}, k < n → ops[k]? = some o → (ops.toList.take n)[k]? = some o := fun hk h => by
      rw [List.getElem?_take, if_pos hk]
      exact hget h
    have huniq : ∀ (i j : Nat) x y, i < n → j < n → ops[i]? = some x → ops[j]? = some y → isBo x = true → isBo y = true → i = j := fun i j x y hi hj hx hy => oneBo_uniq hone i j x y (hgetn hi hx) (hgetn hj hy)
    refine order_ok (J := fun R st => ∀ k o s, R k → k < n → ops[k]? = some o → isBo o = true → o.dst = some s → Clean (.loc s) st) (Good := fun j => j < n ∨ ops.size ≤ j) hm hb (fun R R' st h _ hJ k o s hk => hJ k o s (h k hk)) n (fun j hj => .inl hj) hn (fun st R h k o s hk hkn => absurd hkn (Nat.not_lt.2 (h k hk))) ?_ (fun i j x y R s s1 s2 hij hx hy hn' ri rj _ _ hJ q1 q2 => ?_) ?_ hev t
    · intro j R st st1 hg hj _ hJ h k o s hk hkn ho hbo hd
      unfold op1 at h
      cases hoj : ops[j]? with
      | none =>
        rw [hoj] at h
        injection h with h
        subst h
        exact hJ k o s hk.1 hkn ho hbo hd
      | some oj =>
        rw [hoj] at h
        have hjs := (Array.getElem?_eq_some_iff.1 hoj).1
        have hjn : j < n := by rcases hg with q | q <;> omega
        rcases oneBo_mem hone oj (List.mem_of_getElem? (hgetn hjn hoj)) with q | q
        · exact absurd (huniq k j o oj hkn hjn ho hoj hbo q) hk.2
        · dsimp only at h
          rw [opS_look (lookB_look q)] at h
          obtain ⟨d, e1, rfl⟩ := Option.map_eq_some_iff.1 h
          have hc := hJ k o s hk.1 hkn ho hbo hd
          exact clean_put hc (optV_ment q hc e1)
    · have hjn : j < n := by
        have hjs := (Array.getElem?_eq_some_iff.1 hy).1
        rcases Nat.lt_or_ge j n with q | q
        · exact q
        · exact absurd (hn j q hjs i hij) hn'
      obtain ⟨p1, p2⟩ := pairs_get hpairs hij hx hy hn'
      unfold okBuild at p1
      simp only [Bool.or_eq_true, Bool.and_eq_true] at p1
      unfold op1 at q1 q2 ⊢
      rw [hx] at q1 ⊢
      rw [hy] at q2 ⊢
      rcases p1 with p1 | p1 | p1
      · exact look_swap (lookB_look p1.1) (lookB_look p1.2) p2 q1 q2
      · exact swap_build_look p1.1 p1.2 p2 (fun s hs => hJ i x s ri (by omega) hx p1.1 hs) q1 q2
      · exact swap_look_build p1.1 p1.2 p2 (fun s hs => hJ j y s rj hjn hy p1.2 hs) q1 q2
    · intro k o s _ _ ho hbo hd
      unfold cleanFor at hcl
      have := List.all_eq_true.1 hcl o (List.mem_of_getElem? (hget ho))
      rw [hbo, hd] at this
      exact clean_of (by simpa using this)
end Go.Proofs.YtbadompnhhhfpaaGreatDoor.Dm
