/- The machine over plain data: where an order is drawn, operations that only look change places. -/
import Derived.Test.YtddlcoogocgfcaaDm15
namespace Go.Proofs.Ytddlcoogocgfcaa.Dm
open Go.RowKit
set_option linter.unusedVariables false
set_option linter.unusedSimpArgs false
variable {P : Program} {st st' : St} {o : Oper} {d : Dv}

def lookOp : Op → Bool
  | .move _ | .assign _ | .pick .. | .build .. | .load .. | .nilCheck _ | .binOp .. | .unOp .. | .convert .. | .makeFunc .. | .fieldAddr .. | .indexAddr .. | .index .. | .extract .. => true
  | .call c => match c.callee with
    | .builtin .len | .builtin .max | .builtin .min | .value _ => true
    | _ => false
  | _ => false

theorem pureish_prep (L O : List Ob) : ∀ (ds : List Dv), pureish ds = true → ∃ as, prep L O ds = some (as, L, O) ∧ refsDs as = []
  | [], _ => ⟨[], rfl, rfl⟩
  | .p x :: ds, h => by
    obtain ⟨as, q1, q2⟩ := pureish_prep L O ds h
    exact ⟨.p x :: as, by simp only [prep, view, view1, q1], by simp only [refsDs, refsD, q2, List.nil_append]⟩
  | .nilsl s :: ds, h => by
    obtain ⟨as, q1, q2⟩ := pureish_prep L O ds h
    exact ⟨.p (.sl s []) :: as, by simp only [prep, view, view1, q1], by simp only [refsDs, refsD, q2, List.nil_append]⟩
  | .ptr .. :: _, h => by cases h
  | .arr _ :: _, h => by cases h
  | .el .. :: _, h => by cases h
  | .ro .. :: _, h => by cases h
  | .agg .. :: _, h => by cases h
  | .fn .. :: _, h => by cases h
  | .tup _ :: _, h => by cases h
theorem closeN_nil (L O : List Ob) : ∀ k, closeN L O k [] = []
  | 0 => rfl
  | k + 1 => by simp only [closeN, List.flatMap_nil, addN]; exact closeN_nil L O k
theorem callD_pure {R : Type} {rts : List TypeId} {call : CallF} {f : FuncId} {args : List Dv} (h : pureish args = true) (T : List Dv) (L O : List Ob) : ∃ as, prep L O args = some (as, L, O) ∧ ∀ (T : List Dv) (k : Dv → St → Option R), callD P rts call ⟨T, L, O⟩ f args k = (call f as []).bind fun r => castRs P r.1 (fun ds => k (retV ds) ⟨T, L, O⟩) 0 rts [] := by
  obtain ⟨as, q1, q2⟩ := pureish_prep L O args h
  refine ⟨as, q1, fun T k => ?_⟩
  unfold callD
  simp only [q1, q2, addN, closeN_nil]
/-- the value that a look gives, and the state that it leaves -/
theorem look_pr {call : CallF} (hl : lookOp o.op = true) (hq : quietOK P o st = true) {q : Dv × St} (h : stepOp call P o st pr = some q) : q.2 = st := by
  have fin : ∀ {x : Option Dv}, x.bind (fun d => pr d st) = some q → q.2 = st := by
    intro x hx
    obtain ⟨d, _, h2⟩ := of_pr hx
    rw [← h2]
  unfold stepOp at h
  split at h <;> rename_i ho <;> try (exfalso; rw [ho] at hl; exact Bool.noConfusion hl)
  · injection h with h; rw [← h]
  · injection h with h; rw [← h]
  · split at h
    · rw [pickD_bind] at h; exact fin h
    · cases h
  · split at h
    · split at h
      · split at h
        · injection h with h; rw [← h]
        · cases h
      · cases h
    · cases h
  · rw [loadD_bind] at h; exact fin h
  · split at h <;> first | (injection h with h; rw [← h]) | cases h
  · rw [binD_bind] at h; exact fin h
  · rw [unD_bind] at h; exact fin h
  · rw [convD_bind] at h; exact fin h
  · split at h
    · split at h
      · split at h <;> (injection h with h; rw [← h])
      · cases h
    · cases h
  · rw [fieldAddrD_bind] at h; exact fin h
  · rw [indexAddrD_bind] at h; exact fin h
  · split at h
    · rw [indexD_bind] at h; exact fin h
    · cases h
  · split at h
    · split at h
      · injection h with h; rw [← h]
      · cases h
    · cases h
  · split at h <;> rename_i hc
    · split at h
      · rw [lenD_bind] at h; exact fin h
      · cases h
    · exfalso; rw [ho] at hl; simp only [lookOp, hc] at hl; exact Bool.noConfusion hl
    · split at h
      · injection h with h; rw [← h]
      · cases h
    · split at h
      · injection h with h; rw [← h]
      · cases h
    · split at h
      · rename_i f cap hf
        split at h
        · rename_i fn hfn
          split at h
          · unfold quietOK at hq
            rw [ho] at hq
            simp only [hc, hf] at hq
            obtain ⟨T, L, O⟩ := st
            obtain ⟨as, _, q2⟩ := callD_pure (P := P) (R := Dv × St) (rts := fn.resultTypes.toList) (call := call) (f := f) hq T L O
            rw [q2] at h
            obtain ⟨r, _, h2⟩ := Option.bind_eq_some_iff.1 h
            rw [castRs_bind] at h2
            obtain ⟨ds, _, h3⟩ := Option.bind_eq_some_iff.1 h2
            injection h3 with h3; rw [← h3]
          · cases h
        · cases h
      · cases h
    · cases h
  · cases h
def opsSame (P : Program) (T T' : List Dv) (L O : List Ob) (l : List Operand) : Prop := ∀ x ∈ l, ∀ t, opd P ⟨T', L, O⟩ t x = opd P ⟨T, L, O⟩ t x
theorem opds_same {T T' : List Dv} {L O : List Ob} : ∀ (xs : List Operand) (ts : List TypeId), (∀ x ∈ xs, ∀ t, opd P ⟨T', L, O⟩ t x = opd P ⟨T, L, O⟩ t x) → opds P ⟨T', L, O⟩ xs ts = opds P ⟨T, L, O⟩ xs ts
  | [], ts, h => rfl
  | x :: xs, [], h => by simp only [opds]; rw [h x (by simp), opds_same xs [] (fun y hy => h y (by simp [hy]))]
  | x :: xs, t :: ts, h => by simp only [opds]; rw [h x (by simp), opds_same xs ts (fun y hy => h y (by simp [hy]))]
theorem buildD_same {T T' : List Dv} {L O : List Ob} {fs : Array Field} {c : Nat} : ∀ (ps : List (Nat × Operand)) (ds : List Dv), (∀ p ∈ ps, ∀ t, opd P ⟨T', L, O⟩ t p.2 = opd P ⟨T, L, O⟩ t p.2) → buildD P ⟨T', L, O⟩ fs c ds ps = buildD P ⟨T, L, O⟩ fs c ds ps
  | [], ds, h => rfl
  | (i, x) :: ps, ds, h => by
    have hx : ∀ t, opd P ⟨T', L, O⟩ t x = opd P ⟨T, L, O⟩ t x := h (i, x) (by simp)
    simp only [buildD, hx]
    split
    · split
      · split
        · exact buildD_same ps _ (fun y hy => h y (by simp [hy]))
        · rfl
      · rfl
    · rfl
theorem callee_same {T T' : List Dv} {L O : List Ob} {x : Operand} (h : ∀ t, opd P ⟨T', L, O⟩ t x = opd P ⟨T, L, O⟩ t x) : callee P ⟨T', L, O⟩ x = callee P ⟨T, L, O⟩ x := by
  cases x with
  | tmp t =>
    have := h 0
    simp only [opd] at this
    simp only [callee, this]
  | _ => rfl
theorem quiet_same {T T' : List Dv} {L O : List Ob} (h : ∀ x ∈ o.op.operands.toList, ∀ t, opd P ⟨T', L, O⟩ t x = opd P ⟨T, L, O⟩ t x) : quietOK P o ⟨T', L, O⟩ = quietOK P o ⟨T, L, O⟩ := by
  unfold quietOK
  split
  · rename_i c ho
    split
    · rename_i x hc
      rw [ho] at h
      have h1 : ∀ t, opd P ⟨T', L, O⟩ t x = opd P ⟨T, L, O⟩ t x := h x (by simp [Op.operands, Call.operands, hc])
      have h2 : ∀ y ∈ c.args.toList, ∀ t, opd P ⟨T', L, O⟩ t y = opd P ⟨T, L, O⟩ t y := fun y hy => h y (by
        have : y ∈ c.args := by simpa using hy
        simp [Op.operands, Call.operands, hc, this])
      rw [callee_same h1, opds_same _ _ h2]
    · rfl
  · rfl
/-- a look sees what its operands are, and the objects -/
theorem look_same {call : CallF} {T T' : List Dv} {L O : List Ob} (hl : lookOp o.op = true) (hq : quietOK P o ⟨T, L, O⟩ = true) (h : ∀ x ∈ o.op.operands.toList, ∀ t, opd P ⟨T', L, O⟩ t x = opd P ⟨T, L, O⟩ t x) :
    stepOp call P o ⟨T', L, O⟩ (fun d _ => some d) = stepOp call P o ⟨T, L, O⟩ (fun d _ => some d) := by
  unfold quietOK at hq
  unfold stepOp
  cases ho : o.op <;> simp only [ho, lookOp, Bool.false_eq_true] at hl <;> rw [ho] at h <;> simp only [Op.operands] at h
  case move x => simp only [h x (by simp)]
  case assign x => simp only [h x (by simp)]
  case pick c x y => simp only [h c (by simp), h x (by simp), h y (by simp)]
  case build t ps =>
    have hb : ∀ fs c ds, buildD P ⟨T', L, O⟩ fs c ds ps.toList = buildD P ⟨T, L, O⟩ fs c ds ps.toList := fun fs c ds => buildD_same _ _ fun p hp t => h p.2 (by
      have hp' : p ∈ ps := by simpa using hp
      simp only [Array.toList_map, List.mem_map]
      exact ⟨p, by simpa using hp', rfl⟩) t
    simp only [hb]
  case load t x => simp only [h x (by simp)]; rfl
  case nilCheck x => simp only [h x (by simp)]
  case binOp op t x y ty => simp only [h x (by simp), h y (by simp)]
  case unOp op t x => simp only [h x (by simp)]
  case convert s t x => simp only [h x (by simp)]; rfl
  case makeFunc fn first cap =>
    have hb : opds P ⟨T', L, O⟩ cap.toList [] = opds P ⟨T, L, O⟩ cap.toList [] := opds_same _ _ fun x hx => h x (by
      have : x ∈ cap := by simpa using hx
      simp [this])
    simp only [hb]
  case fieldAddr t x f => simp only [h x (by simp)]
  case indexAddr t x i => simp only [h x (by simp), h i (by simp)]; rfl
  case index t x i => simp only [h x (by simp), h i (by simp)]
  case extract t i => simp only [h t (by simp)]
  case call c =>
    have h2 : ∀ y ∈ c.args.toList, ∀ t, opd P ⟨T', L, O⟩ t y = opd P ⟨T, L, O⟩ t y := fun y hy => h y (by
      have : y ∈ c.args := by simpa using hy
      cases hc : c.callee <;> simp [Call.operands, hc, this])
    cases hc : c.callee with
    | builtin b =>
      cases b <;> simp only [hc, Bool.false_eq_true] at hl
      case len =>
        simp only [hc]
        split
        · rename_i x t hx ht
          rw [h2 x (by rw [hx]; simp)]; rfl
        · rfl
      case max => simp only [hc]; rw [opds_same _ _ h2]
      case min => simp only [hc]; rw [opds_same _ _ h2]
    | value x =>
      have h1 : ∀ t, opd P ⟨T', L, O⟩ t x = opd P ⟨T, L, O⟩ t x := h x (by simp [Call.operands, hc])
      simp only [hc]
      rw [callee_same h1, opds_same _ _ h2]
      split
      · rename_i f cap hf
        split
        · rename_i fn hfn
          split
          · rw [ho] at hq
            simp only [hc, hf] at hq
            obtain ⟨as, _, q2⟩ := callD_pure (P := P) (R := Dv) (rts := fn.resultTypes.toList) (call := call) (f := f) hq T L O
            rw [q2, q2]
          · rfl
        · rfl
      · rfl
    | invoke r m => simp only [hc, Bool.false_eq_true] at hl
/-- the value of a step with its guard -/
def optV (call : CallF) (P : Program) (ops : Array Oper) (o : Oper) (st : St) : Option Dv := match o.guard with
  | none => if quietOK P o st = true then stepOp call P o st (fun d _ => some d) else none
  | some (j, want) => match gslot ops j with
    | none => none
    | some g => match st.T.getD g ud with
      | .p (.bool b) => if b = want then (if quietOK P o st = true then stepOp call P o st (fun d _ => some d) else none) else some nix
      | .tup [] => some nix
      | _ => none
theorem opS_look {call : CallF} {ops : Array Oper} (hl : lookOp o.op = true) : opS true call P ops o st = (optV call P ops o st).map fun d => st.put o.dst d := by
  have step : ((stepQ true call P o st pr).map fun q => q.2.put o.dst q.1) = (if quietOK P o st = true then stepOp call P o st (fun d _ => some d) else none).map fun d => st.put o.dst d := by
    unfold stepQ
    simp only [if_true]
    split
    · rename_i hq
      rw [stepOp_bind (k := fun d _ => some d)]
      cases hs : stepOp call P o st pr with
      | none => rfl
      | some q =>
        have := look_pr hl hq hs
        simp only [Option.map_some, Option.bind_some, un2, this]
    · rfl
  unfold opS optV
  cases hg : o.guard with
  | none => exact step
  | some jw =>
    obtain ⟨j, want⟩ := jw
    dsimp only
    cases hs : gslot ops j with
    | none => rfl
    | some g =>
      dsimp only
      generalize st.T.getD g ud = x
      cases x with
      | p y =>
        cases y with
        | bool b =>
          dsimp only
          split
          · exact step
          · rfl
        | _ => rfl
      | tup ds => cases ds <;> rfl
      | _ => rfl
theorem put_LO (st : St) (dst : Option Tmp) (v : Dv) : (st.put dst v).L = st.L ∧ (st.put dst v).O = st.O := by cases dst <;> exact ⟨rfl, rfl⟩
theorem put_ne {st : St} {dst : Option Tmp} {v : Dv} {t : Tmp} (h : ∀ d, dst = some d → d ≠ t) : (st.put dst v).T.getD t ud = st.T.getD t ud := by
  cases dst with
  | none => rfl
  | some d =>
    simp only [St.put, List.getD_eq_getElem?_getD]
    rw [List.getElem?_set_ne (h d rfl)]
theorem optV_put {call : CallF} {ops : Array Oper} (hl : lookOp o.op = true) {dst : Option Tmp} {v : Dv} (h : ∀ d, dst = some d → d ∉ o.looksAt ops) {d : Dv} (hd : optV call P ops o st = some d) : optV call P ops o (st.put dst v) = some d := by
  have hops : ∀ x ∈ o.op.operands.toList, ∀ t, opd P ⟨(st.put dst v).T, st.L, st.O⟩ t x = opd P ⟨st.T, st.L, st.O⟩ t x := by
    intro x hx t
    cases x with
    | tmp y =>
      exact put_ne (st := st) fun e he => fun q => h e he (by
        subst q
        exact List.mem_append_left _ (List.mem_filterMap.2 ⟨.tmp e, hx, rfl⟩))
    | _ => rfl
  have est : (st.put dst v) = ⟨(st.put dst v).T, st.L, st.O⟩ := by
    have := put_LO st dst v
    rw [← this.1, ← this.2]
  have step : (if quietOK P o st = true then stepOp call P o st (fun d _ => some d) else none) = some d → (if quietOK P o (st.put dst v) = true then stepOp call P o (st.put dst v) (fun d _ => some d) else none) = some d := by
    intro hx
    split at hx
    · rename_i hq
      rw [est, quiet_same (T := st.T) hops, if_pos hq, look_same (T := st.T) hl hq hops]
      exact hx
    · cases hx
  unfold optV at hd ⊢
  cases hg : o.guard with
  | none =>
    simp only [hg] at hd
    exact step hd
  | some jw =>
    obtain ⟨j, want⟩ := jw
    simp only [hg] at hd
    dsimp only
    cases hs : gslot ops j with
    | none => simp only [hs] at hd; cases hd
    | some g =>
      simp only [hs] at hd
      have e : (st.put dst v).T.getD g ud = st.T.getD g ud := put_ne fun t ht => fun q => h t ht (by
        subst q
        have hs' : (ops[j]?).bind (·.dst) = some t := hs
        exact List.mem_append_right _ (by rw [hg]; simp [hs']))
      dsimp only
      rw [e]
      split at hd
      · rename_i b hb
        split at hd
        · rename_i e'; rw [if_pos e']; exact step hd
        · rename_i e'; rw [if_neg e']; exact hd
      · exact hd
      · cases hd
theorem put_comm {x y : Option Tmp} (v u : Dv) (h : ∀ d, x = some d → y ≠ some d) : (st.put x v).put y u = (st.put y u).put x v := by
  cases x with
  | none => rfl
  | some d =>
    cases y with
    | none => rfl
    | some e =>
      have hne : d ≠ e := fun he => h d rfl (he ▸ rfl)
      simp only [St.put, List.set_comm _ _ hne]
/-- TWO LOOKS CHANGE PLACES. -/
theorem look_swap {call : CallF} {ops : Array Oper} {x y : Oper} (hx : lookOp x.op = true) (hy : lookOp y.op = true) (hap : x.apart ops y = true) {st st1 st2 : St} (h1 : opS true call P ops x st = some st1) (h2 : opS true call P ops y st1 = some st2) :
    ∃ st1', opS true call P ops y st = some st1' ∧ opS true call P ops x st1' = some st2 := by
  obtain ⟨a1, a2, a3⟩ := Oper.apart_spec hap
  rw [opS_look hx] at h1
  rw [opS_look hy] at h2
  obtain ⟨d1, e1, rfl⟩ := Option.map_eq_some_iff.1 h1
  obtain ⟨d2, e2, rfl⟩ := Option.map_eq_some_iff.1 h2
  -- y's value, were x not there yet
  have e3 : optV call P ops y st = some d2 := by
    have hback : (st.put x.dst d1).put x.dst (match x.dst with | some t => st.T.getD t ud | none => ud) = st := by
      cases hd : x.dst with
      | none => rfl
      | some t =>
        show (⟨(st.T.set t d1).set t (st.T.getD t ud), st.L, st.O⟩ : St) = st
        rw [List.set_set]
        exact put_same (st := st) (g := t) rfl
    have := optV_put (v := match x.dst with | some t => st.T.getD t ud | none => ud) hy a1 e2
    rwa [hback] at this
  refine ⟨st.put y.dst d2, by rw [opS_look hy, e3]; rfl, ?_⟩
  rw [opS_look hx, optV_put hx a3 e1]
  simp only [Option.map_some]
  rw [put_comm d1 d2 a2]

/-! ### orders -/
/-- all that stands before operation n, by edges that always bind -/
def pre1 (acc : List (List Nat)) (o : Oper) : List Nat :=
  o.after.toList.foldl (fun s e => if Region.binds .any e then (acc.getD e.on []).foldl (fun s p => if s.contains p then s else p :: s) (if s.contains e.on then s else e.on :: s) else s) []
def preAll (ops : Array Oper) : Nat → List (List Nat)
  | 0 => []
  | n + 1 => preAll ops n ++ [match ops[n]? with | some o => pre1 (preAll ops n) o | none => []]
def dr1 (ops : Array Oper) : Bool :=
  (ops.toList.zipIdx.all fun p => p.1.after.all fun e => !Region.binds .any e || decide (e.on < p.2)) &&
  (List.range ops.size).all fun j => (List.range j).all fun i => ((preAll ops ops.size).getD j []).contains i || (match ops[i]?, ops[j]? with
    | some x, some y => lookOp x.op && lookOp y.op && x.apart ops y
    | _, _ => false)
theorem preAll_len (ops : Array Oper) : ∀ n, (preAll ops n).length = n
  | 0 => rfl
  | n + 1 => by simp [preAll, preAll_len ops n]
theorem preAll_get (ops : Array Oper) (n : Nat) : ∀ k j, j < n → (preAll ops (n + k)).getD j [] = (preAll ops n).getD j []
  | 0, j, h => rfl
  | k + 1, j, h => by
    rw [← preAll_get ops n k j h, ← Nat.add_assoc]
    simp only [preAll, List.getD_eq_getElem?_getD]
    rw [List.getElem?_append_left (by rw [preAll_len]; omega)]
theorem mem_foldl1 : ∀ (l s : List Nat) (p : Nat), p ∈ l.foldl (fun s p => if s.contains p then s else p :: s) s → p ∈ l ∨ p ∈ s
  | [], s, p, h => .inr h
  | x :: l, s, p, h => by
    simp only [List.foldl_cons] at h
    rcases mem_foldl1 l _ p h with q | q
    · exact .inl (List.mem_cons_of_mem _ q)
    · split at q
      · exact .inr q
      · rcases List.mem_cons.1 q with q | q
        · exact .inl (q ▸ List.mem_cons_self ..)
        · exact .inr q
theorem mem_pre1 {acc : List (List Nat)} {p : Nat} : ∀ (l : List Edge) (s : List Nat), p ∈ l.foldl (fun s e => if Region.binds .any e then (acc.getD e.on []).foldl (fun s p => if s.contains p then s else p :: s) (if s.contains e.on then s else e.on :: s) else s) s →
    p ∈ s ∨ ∃ e ∈ l, Region.binds .any e = true ∧ (p = e.on ∨ p ∈ acc.getD e.on [])
  | [], s, h => .inl h
  | x :: l, s, h => by
    simp only [List.foldl_cons] at h
    rcases mem_pre1 l _ h with q | ⟨e, q1, q2⟩
    · split at q
      · rename_i hb
        rcases mem_foldl1 _ _ _ q with q | q
        · exact .inr ⟨x, List.mem_cons_self .., hb, .inr q⟩
        · split at q
          · exact .inl q
          · rcases List.mem_cons.1 q with q | q
            · exact .inr ⟨x, List.mem_cons_self .., hb, .inl q⟩
            · exact .inl q
      · exact .inl q
    · exact .inr ⟨e, List.mem_cons_of_mem _ q1, q2⟩
/-- what stands before is listed, where the list is closed under edges -/
theorem pre_listed {ops : Array Oper} {Ls : Nat → Prop} (hL : ∀ j o, Ls j → ops[j]? = some o → ∀ e ∈ o.after, Region.binds .any e = true → Ls e.on) :
    ∀ n j o, j < n → ops[j]? = some o → (∀ e ∈ o.after, Region.binds .any e = true → Ls e.on) → ∀ p ∈ (preAll ops n).getD j [], Ls p
  | 0, j, o, h, _, _, _, _ => by cases h
  | n + 1, j, o, h, ho, he, p, hp => by
    rcases Nat.lt_or_ge j n with hlt | hge
    · rw [preAll_get ops n 1 j hlt] at hp
      exact pre_listed hL n j o hlt ho he p hp
    · have : j = n := by omega
      subst this
      have hx : (preAll ops (j + 1)).getD j [] = pre1 (preAll ops j) o := by
        simp only [preAll, List.getD_eq_getElem?_getD, ho]
        rw [List.getElem?_append_right (by rw [preAll_len]; omega), preAll_len]
        simp
      rw [hx] at hp
      unfold pre1 at hp
      rcases mem_pre1 _ _ hp with q | ⟨e, q1, q2, q3⟩
      · cases q
      · have q1' : e ∈ o.after := by simpa using q1
        rcases q3 with q3 | q3
        · rw [q3]; exact he e q1' q2
        · -- one step further back
          rcases Nat.lt_or_ge e.on j with h2 | h2
          · cases hoe : ops[e.on]? with
            | none =>
              exfalso
              have hjlt := (Array.getElem?_eq_some_iff.1 ho).1
              rw [Array.getElem?_eq_none_iff] at hoe
              omega
            | some oe => exact pre_listed hL j e.on oe h2 hoe (hL e.on oe (he e q1' q2) hoe) p q3
          · exfalso
            rw [getD_ge (by rw [preAll_len]; omega)] at q3
            cases q3
theorem move_front {call : CallF} {ops : Array Oper} {i : Nat} {l2 : List Nat} {st' : St} : ∀ (l1 : List Nat) (st : St), (∀ j ∈ l1, ∀ s s1 s2, op1 true call P ops j s = some s1 → op1 true call P ops i s1 = some s2 → ∃ s1', op1 true call P ops i s = some s1' ∧ op1 true call P ops j s1' = some s2) →
    evalL true call P ops (l1 ++ i :: l2) st = some st' → ∃ st1, op1 true call P ops i st = some st1 ∧ evalL true call P ops (l1 ++ l2) st1 = some st'
  | [], st, _, h => by
    simp only [List.nil_append, evalL] at h
    exact Option.bind_eq_some_iff.1 h
  | j :: l1, st, hsw, h => by
    simp only [List.cons_append, evalL] at h
    obtain ⟨s1, h1, h2⟩ := Option.bind_eq_some_iff.1 h
    obtain ⟨s2, h3, h4⟩ := move_front l1 s1 (fun k hk => hsw k (List.mem_cons_of_mem _ hk)) h2
    obtain ⟨s1', q1, q2⟩ := hsw j (List.mem_cons_self ..) st s1 s2 h1 h3
    refine ⟨s1', q1, ?_⟩
    simp only [List.cons_append, evalL]
    rw [q2]
    exact h4
theorem dr1_ok (hm : P.follows .mixedOrders = true) : DrOK P dr1 := by
  intro call ops hdr st st' hev t
  simp only [Region.schedule, hm, Bool.true_or, if_true]
  unfold dr1 at hdr
  simp only [Bool.and_eq_true] at hdr
  obtain ⟨hback, hpair⟩ := hdr
  have hback : ∀ j o, ops[j]? = some o → ∀ e ∈ o.after, Region.binds .any e = true → e.on < j := by
    intro j o ho e he hb
    rw [List.all_eq_true] at hback
    have hmem : (o, j) ∈ ops.toList.zipIdx := by
      rw [List.mem_zipIdx_iff_getElem?]
      simpa using ho
    have := Array.all_eq_true_iff_forall_mem.1 (hback _ hmem) e he
    simpa [hb] using this
  have hpair : ∀ i j x y, i < j → ops[i]? = some x → ops[j]? = some y → i ∈ (preAll ops ops.size).getD j [] ∨ (lookOp x.op = true ∧ lookOp y.op = true ∧ x.apart ops y = true) := by
    intro i j x y hij hx hy
    have hj : j < ops.size := (Array.getElem?_eq_some_iff.1 hy).1
    have h1 := List.all_eq_true.1 (List.all_eq_true.1 hpair j (List.mem_range.2 hj)) i (List.mem_range.2 hij)
    simp only [hx, hy, Bool.or_eq_true, Bool.and_eq_true, List.contains_iff_mem] at h1
    rcases h1 with h1 | ⟨⟨h1, h2⟩, h3⟩
    · exact .inl h1
    · exact .inr ⟨h1, h2, h3⟩
  have main : ∀ (fuel t : Nat) (listed : Array Bool) (st : St), listed.size = ops.size → ((List.range ops.size).filter fun i => !listed.getD i true).length ≤ fuel →
      (∀ j o, listed.getD j false = true → ops[j]? = some o → ∀ e ∈ o.after, Region.binds .any e = true → listed.getD e.on false = true) →
      evalL true call P ops ((List.range ops.size).filter fun i => !listed.getD i true) st = some st' → evalL true call P ops (Region.linearise.go .any ops fuel t listed []) st = some st' := by
    intro fuel
    induction fuel with
    | zero =>
      intro t listed st hsz hf hcl h
      have : ((List.range ops.size).filter fun i => !listed.getD i true) = [] := List.eq_nil_of_length_eq_zero (by omega)
      rw [this] at h
      simpa [Region.linearise.go] using h
    | succ fuel ih =>
      intro t listed st hsz hf hcl h
      simp only [Region.linearise.go]
      change evalL true call P ops (match (Region.ready .any ops listed)[t % (Region.ready .any ops listed).length]? with
        | some i => Region.linearise.go .any ops fuel (t / (Region.ready .any ops listed).length) (listed.setIfInBounds i true) [i]
        | none => [].reverse) st = some st'
      cases hi : (Region.ready .any ops listed)[t % (Region.ready .any ops listed).length]? with
      | none =>
        have hnil : Region.ready .any ops listed = [] := by
          cases hr : Region.ready .any ops listed with
          | nil => rfl
          | cons x xs =>
            rw [hr] at hi
            have hlt : t % (x :: xs).length < (x :: xs).length := Nat.mod_lt _ (by simp)
            simp at hi
            simp at hlt
            omega
        have hrem : ((List.range ops.size).filter fun i => !listed.getD i true) = [] := by
          -- the first that isn't listed would be ready
          cases hrr : ((List.range ops.size).filter fun i => !listed.getD i true) with
          | nil => rfl
          | cons x xs =>
            exfalso
            obtain ⟨n, hn, hmin⟩ := least (p := fun i => i < ops.size ∧ listed.getD i true = false) ⟨x, by
              have : x ∈ ((List.range ops.size).filter fun i => !listed.getD i true) := by rw [hrr]; simp
              simpa [List.mem_filter] using this⟩
            have ho : ops[n]? = some ops[n] := Array.getElem?_eq_getElem hn.1
            have : n ∈ Region.ready .any ops listed := mem_ready.2 ⟨hn.2, ops[n], ho, fun e he hb => by
              have hlt := hback n _ ho e he hb
              cases hx : listed.getD e.on false with
              | true => rfl
              | false =>
                exfalso
                have hlt' : e.on < listed.size := by omega
                have h2 : listed.getD e.on true = false := by simpa [Array.getD_eq_getD_getElem?, hlt'] using hx
                have := hmin e.on ⟨by omega, h2⟩
                omega⟩
            rw [hnil] at this
            cases this
        rw [hrem] at h
        simpa using h
      | some i =>
        have hir : i ∈ Region.ready .any ops listed := List.mem_of_getElem? hi
        obtain ⟨hun, o, ho, hall⟩ := mem_ready.1 hir
        have hlt : i < ops.size := (Array.getElem?_eq_some_iff.1 ho).1
        simp only []
        rw [linearise_go_acc, List.reverse_singleton, List.singleton_append]
        have hsplit : ∀ p : Nat → Bool, (List.range ops.size).filter p = (List.range i).filter p ++ ((List.range' i (ops.size - i)).filter p) := by
          intro p
          rw [← List.filter_append, List.range_eq_range', List.range_eq_range']
          have := List.range'_append_1 (s := 0) (m := i) (n := ops.size - i)
          rw [Nat.zero_add, Nat.add_sub_cancel' (Nat.le_of_lt hlt)] at this
          rw [this]
        have hsplit2 : List.range' i (ops.size - i) = i :: List.range' (i + 1) (ops.size - i - 1) := by
          have : ops.size - i = (ops.size - i - 1) + 1 := by omega
          rw [this, List.range'_succ]
          rfl
        rw [hsplit, hsplit2, List.filter_cons_of_pos (by simp [hun])] at h
        obtain ⟨st1, h1, h2⟩ := move_front _ st (fun j hj s s1 s2 q1 q2 => by
          rw [List.mem_filter, List.mem_range] at hj
          obtain ⟨hji, hju⟩ := hj
          have hju : listed.getD j true = false := by simpa using hju
          have hoj : ops[j]? = some (ops[j]'(by omega)) := Array.getElem?_eq_getElem (by omega)
          rcases hpair j i _ _ hji hoj ho with q | ⟨l1, l2, l3⟩
          · exfalso
            have := pre_listed (Ls := fun j => listed.getD j false = true) hcl ops.size i o hlt ho hall j q
            have hjs : j < listed.size := by omega
            simp [Array.getD_eq_getD_getElem?, hjs] at this hju
            rw [this] at hju
            cases hju
          · unfold op1 at q1 q2 ⊢
            rw [hoj] at q1 ⊢
            rw [ho] at q2 ⊢
            exact look_swap l1 l2 l3 q1 q2) h
        simp only [evalL]
        rw [h1]
        have hrest : ((List.range ops.size).filter fun k => !(listed.setIfInBounds i true).getD k true) = (List.range i).filter (fun k => !listed.getD k true) ++ (List.range' (i + 1) (ops.size - i - 1)).filter (fun k => !listed.getD k true) := by
          rw [hsplit, hsplit2, List.filter_cons_of_neg (by simp [hsz, hlt])]
          congr 1
          · refine List.filter_congr fun k hk => ?_
            rw [List.mem_range] at hk
            rw [getD_set_ne true (by omega)]
          · refine List.filter_congr fun k hk => ?_
            rw [List.mem_range'_1] at hk
            rw [getD_set_ne true (by omega)]
        show evalL true call P ops _ st1 = some st'
        refine ih _ _ st1 (by simp [hsz]) ?_ ?_ (by rw [hrest]; exact h2)
        · have : ((List.range ops.size).filter fun k => !listed.getD k true).length = ((List.range ops.size).filter fun k => !(listed.setIfInBounds i true).getD k true).length + 1 := by
            rw [hrest, hsplit, hsplit2, List.filter_cons_of_pos (by simp [hun])]
            simp
            omega
          omega
        · intro j oj hj hoj e he hb
          by_cases hij : i = j
          · subst hij
            rw [ho] at hoj
            injection hoj with hoj
            subst hoj
            exact getD_set_true (hall e he hb)
          · rw [getD_set_ne false hij] at hj
            exact getD_set_true (hcl j oj hj hoj e he hb)
  unfold Region.linearise
  refine main ops.size t (Array.replicate ops.size false) st (by simp) (by
    refine Nat.le_trans (List.length_filter_le _ _) ?_
    simp) (fun j o hj => ?_) ?_
  · exfalso
    rw [Array.getD_eq_getD_getElem?, Array.getElem?_replicate] at hj
    split at hj <;> cases hj
  · have : ((List.range ops.size).filter fun i => !(Array.replicate ops.size false).getD i true) = List.range ops.size := by
      rw [List.filter_eq_self]
      intro i hi
      rw [List.mem_range] at hi
      simp [hi]
    rw [this]
    exact hev
end Go.Proofs.Ytddlcoogocgfcaa.Dm
