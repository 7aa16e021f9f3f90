/- The machine over plain data: what one operation reads and writes where an order is drawn. -/
import Derived.Test.YtakbdjdafcjglaaGreatDoorDm16
namespace Go.Proofs.YtakbdjdafcjglaaGreatDoor.Dm
set_option linter.unusedSectionVars false
open Go.RowKit
set_option linter.unusedVariables false
set_option linter.unusedSimpArgs false
variable [Cfg] {P : Program} {st st' st1 : St} {o : Oper} {d : Dv}

theorem Tm.set_set (T : Tm) (i : Nat) (d e : Dv) : (T.set i d).set i e = T.set i e := by
  refine Tm.ext_ rfl fun k => ?_
  simp only [Tm.set, beq_eq]
  by_cases h : k = i
  · subst h; simp
  · rw [decide_eq_false h]; rfl
/-- s is named by its own temporary alone -/
def Excl (s : Nat) (st : St) : Prop := Clean (.loc s) ⟨st.T.set s ud, st.L, st.O⟩
theorem Clean.excl {s : Nat} (h : Clean (.loc s) st) : Excl s st := ⟨fun j => by
  show mentD _ ((st.T.set s ud).getD j ud) = false
  rw [Tm.getD_set]
  split
  · split <;> rfl
  · exact h.T j, h.L, h.O⟩
structure PreApp (a : Nat) (st : St) : Prop where
  t : st.T.getD a ud = .arr (.loc a)
  l : ∃ e s b ro es, st.L.getD a .none = .arr e s b ro es
  x : Excl a st
theorem appOf_bo {a d : Nat} (h : appOf o = some (a, d)) : isBo o = false := by
  unfold appOf at h
  split at h
  · rename_i c d' ho hd hg
    unfold isBo
    rw [ho]
  · cases h
theorem appOf_inv {a d : Nat} (h : appOf o = some (a, d)) : ∃ c y, o.op = .call c ∧ o.dst = some d ∧ o.guard = none ∧ c.callee = .builtin .append ∧ c.args.toList = [.tmp a, y] ∧ a ≠ d := by
  unfold appOf at h
  split at h
  · rename_i c d' ho hd hg
    split at h
    · rename_i a' y hc ha
      split at h
      · cases h
      · rename_i hne
        injection h with h; injection h with h1 h2; subst h1 h2
        exact ⟨c, y, ho, hd, hg, hc, ha, hne⟩
    · cases h
  · cases h
theorem scrub_set {s : Nat} (hx : Excl s st) (ht : st.T.getD s ud = .arr (.loc s)) : st.T.map (scrub (.loc s)) = st.T.set s ud := by
  refine Tm.ext_ rfl fun j => ?_
  have h1 : ((st.T.map (scrub (.loc s))).getD j ud) = scrub (.loc s) (st.T.getD j ud) := Tm.getD_map rfl _ _
  show (st.T.map (scrub (.loc s))).getD j ud = (st.T.set s ud).getD j ud
  rw [h1, Tm.getD_set]
  by_cases e : s = j
  · subst e
    rw [if_pos rfl, ht]
    simp [scrub]
  · rw [if_neg e]
    have := hx.T j
    have h2 : (st.T.set s ud).getD j ud = st.T.getD j ud := by rw [Tm.getD_set, if_neg e]
    change mentD (.loc s) ((st.T.set s ud).getD j ud) = false at this
    rw [h2] at this
    exact scrub_id _ _ this
theorem pureish_one {y : Dv} (h : pureish [y] = true) : (∃ x, y = .p x) ∨ ∃ s, y = .nilsl s := by
  cases y <;> first | exact .inl ⟨_, rfl⟩ | exact .inr ⟨_, rfl⟩ | cases h
theorem scrubObs_id {m : Nm} {l : List Ob} (h : ∀ o ∈ l, mentOb m o = false) : l.map (scrubOb m) = l := by
  conv => rhs; rw [← List.map_id l]
  exact List.map_congr_left fun o ho => scrubOb_id (h o ho)
/-- the row after an append -/
def appV (P : Program) (t : TypeId) (y : Dv) (e0 s0 b0 : Nat) (ro0 : Bool) (es0 : List (List Pd)) : Option Ob := match P.underlying t with
  | some (.slice e) => if P.cellsOf e = 0 ∨ P.bytesOf e = 0 ∨ zeroOK P e = false then none else if Cfg.cur && rowful P e then none else
    (match y with
      | .p yv => asSl (P.cellsOf e) yv
      | .nilsl s => asSl (P.cellsOf e) (.sl s [])
      | _ => none).bind fun ys => if e0 = e ∧ s0 = P.cellsOf e then (if (es0.length + ys.length) * P.bytesOf e ≤ LIM then some (.arr e (P.cellsOf e) b0 ro0 (es0 ++ ys)) else none) else none
  | _ => none
theorem appV_arr {t : TypeId} {y : Dv} {e0 s0 b0 : Nat} {ro0 : Bool} {es0 : List (List Pd)} {ob : Ob} (h : appV P t y e0 s0 b0 ro0 es0 = some ob) : ∃ e s b ro es, ob = .arr e s b ro es := by
  unfold appV at h
  split at h
  · split at h
    · cases h
    · split at h
      · cases h
      · obtain ⟨ys, _, h⟩ := Option.bind_eq_some_iff.1 h
        split at h
        · split at h
          · injection h with h; exact ⟨_, _, _, _, _, h.symm⟩
          · cases h
        · cases h
  · cases h
theorem appendD_app {a s : Nat} {t : TypeId} {y : Dv} {st : St} (hp : PreApp a st) {e0 s0 b0 : Nat} {ro0 : Bool} {es0 : List (List Pd)} (hl : st.L.getD a .none = .arr e0 s0 b0 ro0 es0) (hy : pureish [y] = true) :
    appendD P st s t (.arr (.loc a)) y pr = (appV P t y e0 s0 b0 ro0 es0).map fun ob => (.arr (.loc a), ⟨st.T.set a ud, st.L.set a ob, st.O⟩) := by
  have hg : ∀ L O, getOb L O (.loc a) = L.getD a .none := fun _ _ => rfl
  have more : ∀ sz e ys, appendD.more P st pr st.L st.O sz e (.loc a) ys = (if e0 = e ∧ s0 = sz then (if (es0.length + ys.length) * P.bytesOf e ≤ LIM then some (Ob.arr e sz b0 ro0 (es0 ++ ys)) else none) else none).map fun ob => (Dv.arr (.loc a), (⟨st.T.set a ud, st.L.set a ob, st.O⟩ : St)) := by
    intro sz e ys
    unfold appendD.more
    rw [hg, hl]
    dsimp only
    split
    · split
      · rw [scrub_set hp.x hp.t, scrubObs_id hp.x.L, scrubObs_id hp.x.O]
        rfl
      · rfl
    · rfl
  rw [appendD_eq]
  unfold appV
  split
  · rename_i e he
    simp only [he]
    split
    · rfl
    · have how : ownAt st (.arr (.loc a)) = none := by
        unfold ownAt
        dsimp only
        rw [hg, hl]
      rw [how]
      dsimp only
      split
      · rfl
      · rcases pureish_one hy with ⟨x, rfl⟩ | ⟨s', rfl⟩
        · simp only [view1]
          cases asSl (P.cellsOf e) x with
          | none => rfl
          | some ys => exact more _ _ _
        · simp only [view1]
          cases asSl (P.cellsOf e) (.sl s' []) with
          | none => rfl
          | some ys => exact more _ _ _
  · rename_i hn
    split
    · rename_i e he
      exact absurd he (hn e)
    · rfl
/-- what an append onto a row named by its own temporary does -/
theorem app_eff {call : CallF} {a d : Nat} (ha : appOf o = some (a, d)) {st st1 : St} (hp : PreApp a st) (hq : quietOK P o st = true) (h : stp call P o st = some st1) :
    ∃ ob, (∀ m, mentOb m ob = false) ∧ st1 = ⟨(st.T.set a ud).set d (.arr (.loc a)), st.L.set a ob, st.O⟩ ∧
    ∀ st', (∀ x ∈ o.op.operands.toList, ∀ t, opd P st' t x = opd P st t x) → PreApp a st' → st'.L.getD a .none = st.L.getD a .none → quietOK P o st' = true ∧ stp call P o st' = some ⟨(st'.T.set a ud).set d (.arr (.loc a)), st'.L.set a ob, st'.O⟩ := by
  obtain ⟨c, y, ho, hd, hg, hcl, hargs, hne⟩ := appOf_inv ha
  obtain ⟨e0, s0, b0, ro0, es0, hl⟩ := hp.l
  obtain ⟨q, h1, h2⟩ := Option.map_eq_some_iff.1 h
  unfold quietOK at hq
  simp only [ho, hcl, hargs, hp.t, beq_self_eq_true, Bool.not_true, Bool.false_or] at hq
  unfold stepOp at h1
  simp only [ho, hcl, hargs, hd] at h1
  cases hts : c.argTypes.toList with
  | nil => rw [hts] at h1; cases h1
  | cons t ts =>
    rw [hts] at h1 hq
    cases ts with
    | nil => cases h1
    | cons t' ts =>
      cases ts with
      | cons _ _ => cases h1
      | nil =>
        dsimp only at h1
        split at h1
        case isFalse => cases h1
        rename_i htt
        have hx : ∀ t, opd P st t (.tmp a) = .arr (.loc a) := fun t => hp.t
        rw [hx] at h1
        rw [List.getD_cons_zero] at hq
        rw [appendD_app hp hl hq] at h1
        obtain ⟨ob, e1, e2⟩ := Option.map_eq_some_iff.1 h1
        subst e2
        obtain ⟨e9, s9, b9, ro9, es9, eo⟩ := appV_arr e1
        refine ⟨ob, fun m => by rw [eo]; rfl, by rw [← h2, hd]; rfl, fun st' hsame hp' hl' => ?_⟩
        have hys : ∀ t, opd P st' t y = opd P st t y := hsame y (by
          have : y ∈ c.args := by
            have : y ∈ c.args.toList := by rw [hargs]; simp
            simpa using this
          rw [ho]
          simp [Op.operands, Call.operands, hcl, this])
        refine ⟨?_, ?_⟩
        · unfold quietOK
          simp only [ho, hcl, hargs, hp'.t, beq_self_eq_true, Bool.not_true, Bool.false_or, hys, hts, List.getD_cons_zero]
          exact hq
        · unfold stp stepOp
          simp only [ho, hcl, hargs, hd, hts, if_pos htt, hys]
          have hx' : ∀ t, opd P st' t (.tmp a) = .arr (.loc a) := fun t => hp'.t
          rw [hx', appendD_app hp' (hl'.trans hl) hq, e1]
          rfl
theorem nmOf_app {a d : Nat} (h : appOf o = some (a, d)) : nmOf o = a := by unfold nmOf; rw [h]
theorem appOf_none (h : isBo o = true) : appOf o = none := by
  cases e : appOf o with
  | none => rfl
  | some q => rw [appOf_bo (a := q.1) (d := q.2) (by rw [e])] at h; cases h
theorem nmOf_bo {s : Nat} (h : isBo o = true) (hd : o.dst = some s) : nmOf o = s := by unfold nmOf; rw [appOf_none h, hd]; rfl
/-! ### names below a number -/
mutual
theorem und_ment {n : Nat} : ∀ d : Dv, undD n d = true → ∀ s, n ≤ s → mentD (.loc s) d = false
  | .ptr (.loc s') off, h, s, hs => by
    simp only [undD, blt_eq, decide_eq_true_eq] at h
    simp only [mentD, decide_eq_false_iff_not]
    intro e; injection e with e; omega
  | .arr (.loc s'), h, s, hs => by
    simp only [undD, blt_eq, decide_eq_true_eq] at h
    simp only [mentD, decide_eq_false_iff_not]
    intro e; injection e with e; omega
  | .el (.loc s') _ _ _, h, s, hs => by
    simp only [undD, blt_eq, decide_eq_true_eq] at h
    simp only [mentD, decide_eq_false_iff_not]
    intro e; injection e with e; omega
  | .mp (.loc s'), h, s, hs => by
    simp only [undD, blt_eq, decide_eq_true_eq] at h
    simp only [mentD, decide_eq_false_iff_not]
    intro e; injection e with e; omega
  | .sub (.loc s') _ _ _ _ _, h, s, hs => by
    simp only [undD, blt_eq, decide_eq_true_eq] at h
    simp only [mentD, decide_eq_false_iff_not]
    intro e; injection e with e; omega
  | .ptr (.out _) _, _, s, _ => by simp [mentD]
  | .arr (.out _), _, s, _ => by simp [mentD]
  | .el (.out _) _ _ _, _, s, _ => by simp [mentD]
  | .mp (.out _), _, s, _ => by simp [mentD]
  | .sub (.out _) _ _ _ _ _, _, s, _ => by simp [mentD]
  | .agg _ ds, h, s, hs => by simp only [undD] at h; simp only [mentD]; exact unds_ment ds h s hs
  | .fn _ ds, h, s, hs => by simp only [undD] at h; simp only [mentD]; exact unds_ment ds h s hs
  | .tup ds, h, s, hs => by simp only [undD] at h; simp only [mentD]; exact unds_ment ds h s hs
  | .p _, _, s, _ => rfl
  | .nilsl _, _, s, _ => rfl
  | .ro _ _, _, s, _ => rfl
theorem unds_ment {n : Nat} : ∀ ds : List Dv, undDs n ds = true → ∀ s, n ≤ s → mentDs (.loc s) ds = false
  | [], _, s, _ => rfl
  | d :: ds, h, s, hs => by
    simp only [undDs, Bool.and_eq_true] at h
    simp only [mentDs, und_ment d h.1 s hs, unds_ment ds h.2 s hs, Bool.or_self]
end
theorem undOb_ment {n : Nat} {ob : Ob} (h : undOb n ob = true) {s : Nat} (hs : n ≤ s) : mentOb (.loc s) ob = false := by
  cases ob with
  | mbox c ds => exact unds_ment ds h s hs
  | _ => rfl
/-- no name of an object that is not there yet -/
def Fresh (st : St) : Prop := ∀ s, st.L.length ≤ s → Clean (.loc s) st
theorem fresh_of (h : undSt st = true) : Fresh st := by
  unfold undSt at h
  simp only [Bool.and_eq_true, List.all_eq_true] at h
  intro s hs
  refine ⟨fun j => ?_, fun o ho => undOb_ment (h.2.1 o ho) hs, fun o ho => undOb_ment (h.2.2 o ho) hs⟩
  show mentD _ (st.T.f j) = false
  rcases Nat.lt_or_ge j st.T.n with q | q
  · exact und_ment _ (h.1 j (List.mem_range.2 q)) s hs
  · rw [st.T.ok j q]; rfl
theorem castP_some {t : TypeId} {x : Pd} {R : Type} {k : Pd → Option R} {r : R} (h : castP P t x k = some r) : ∃ y, k y = some r := by
  rw [castP_bind] at h
  obtain ⟨y, _, h⟩ := Option.bind_eq_some_iff.1 h
  exact ⟨y, h⟩
/-- names that are not among the new ones -/
def offN (b k : Nat) (m : Nm) : Prop := ∀ s, m = .loc s → s < b ∨ b + k ≤ s
theorem nameOwn_ment {b : Nat} {xs : List Pd} {rows : List (List (List Pd))} : ∀ (l : List (TypeId × Option (Nat × Nat))) (i c : Nat) (acc : List Dv) (aos : List Ob) (ds : List Dv) (os : List Ob),
    (∀ d ∈ acc, ∀ m, offN b c m → mentD m d = false) → aos.length = c → (∀ o ∈ aos, ∀ m, mentOb m o = false) → nameOwn P b xs rows (fun ds os => some (ds, os)) i c l acc aos = some (ds, os) →
    (∀ d ∈ ds, ∀ m, offN b os.length m → mentD m d = false) ∧ (∀ o ∈ os, ∀ m, mentOb m o = false)
  | [], i, c, acc, aos, ds, os, h1, h2, h3, h => by
    simp only [nameOwn] at h
    injection h with h; injection h with e1 e2; subst e1 e2
    rw [h2]
    exact ⟨h1, h3⟩
  | (t, some (e, s0)) :: l, i, c, acc, aos, ds, os, h1, h2, h3, h => by
    simp only [nameOwn] at h
    refine nameOwn_ment l _ _ _ _ _ _ (fun d hd m hs => ?_) (by rw [List.length_append, h2]; rfl) (fun o ho m => ?_) h
    · rcases List.mem_append.1 hd with q | q
      · exact h1 d q m fun s e => by rcases hs s e with q | q <;> omega
      · rw [List.mem_singleton] at q
        subst q
        simp only [mentD, decide_eq_false_iff_not]
        intro e
        rcases hs (b + c) e.symm with q | q <;> omega
    · rcases List.mem_append.1 ho with q | q
      · exact h3 o q m
      · rw [List.mem_singleton] at q
        subst q
        unfold rowOb
        split <;> rfl
  | (t, none) :: l, i, c, acc, aos, ds, os, h1, h2, h3, h => by
    simp only [nameOwn] at h
    split at h
    · obtain ⟨y, h⟩ := castP_some h
      refine nameOwn_ment l _ _ _ _ _ _ (fun d hd m hs => ?_) h2 h3 h
      rcases List.mem_append.1 hd with q | q
      · exact h1 d q m hs
      · rw [List.mem_singleton] at q
        subst q
        rfl
    · cases h
theorem regroup_ment {m : Nm} : ∀ (ts : List TypeId) (ds : List Dv), (∀ d ∈ ds, mentD m d = false) → ∀ d ∈ regroup P ts ds, mentD m d = false
  | [], ds, h, d, hd => by simp [regroup] at hd
  | t :: ts, ds, h, d, hd => by
    unfold regroup at hd
    split at hd
    · rcases List.mem_cons.1 hd with q | q
      · subst q
        simp only [mentD]
        exact mentDs_iff.2 fun x hx => h x (List.mem_of_mem_take hx)
      · exact regroup_ment ts _ (fun x hx => h x (List.mem_of_mem_drop hx)) d q
    · rcases List.mem_cons.1 hd with q | q
      · subst q
        cases ds with
        | nil => rfl
        | cons x xs => exact h x (List.mem_cons_self ..)
      · exact regroup_ment ts _ (fun x hx => h x (List.mem_of_mem_drop hx)) d q
theorem retV_ment' {m : Nm} {ds : List Dv} (h : ∀ d ∈ ds, mentD m d = false) : mentD m (retV ds) = false := by
  match ds, h with
  | [], _ => rfl
  | [d], h => exact h d (List.mem_cons_self ..)
  | d :: e :: ds, h =>
    simp only [retV, mentD]
    exact mentDs_iff.2 h
/-- what an own call gives, its arguments and the number of objects being known -/
def ownG (P : Program) (rts : List TypeId) (call : CallF) (f : FuncId) (b : Nat) (as : List Pd) : Option (List Dv × List Ob) :=
  if (rts.flatMap (cellTs P 8)).length ≠ (rowsOfTs P rts).length then none else
    (call f (as.map .p) []).bind fun r => (asOwn P rts r).bind fun q => nameOwn P b q.1 q.2 (fun ds os => some (ds, os)) 0 0 ((rts.flatMap (cellTs P 8)).zip (rowsOfTs P rts)) [] []
theorem ownG_ment {rts : List TypeId} {call : CallF} {f : FuncId} {b : Nat} {as : List Pd} {ds : List Dv} {os : List Ob} (h : ownG P rts call f b as = some (ds, os)) : (∀ d ∈ ds, ∀ m, offN b os.length m → mentD m d = false) ∧ (∀ o ∈ os, ∀ m, mentOb m o = false) := by
  unfold ownG at h
  split at h
  · cases h
  · obtain ⟨r, _, h⟩ := Option.bind_eq_some_iff.1 h
    obtain ⟨q, _, h⟩ := Option.bind_eq_some_iff.1 h
    exact nameOwn_ment _ _ _ _ _ _ _ (fun d hd => absurd hd List.not_mem_nil) rfl (fun o ho => absurd ho List.not_mem_nil) h
theorem scrubAll_fresh {n : Nat} : ∀ (k b : Nat) (d : Dv), (∀ s, b ≤ s → mentD (.loc s) d = false) → scrubAll (namesFrom b k) d = d
  | 0, b, d, h => rfl
  | k + 1, b, d, h => by
    show scrubAll (namesFrom (b + 1) k) (scrub (.loc b) d) = d
    rw [scrub_id _ _ (h b (Nat.le_refl _))]
    exact scrubAll_fresh (n := n) k (b + 1) d fun s hs => h s (by omega)
theorem scrubObAll_fresh : ∀ (k b : Nat) (o : Ob), (∀ s, b ≤ s → mentOb (.loc s) o = false) → scrubObAll (namesFrom b k) o = o
  | 0, b, o, h => rfl
  | k + 1, b, o, h => by
    show scrubObAll (namesFrom (b + 1) k) (scrubOb (.loc b) o) = o
    rw [scrubOb_id (h b (Nat.le_refl _))]
    exact scrubObAll_fresh k (b + 1) o fun s hs => h s (by omega)
theorem fresh_app (hf : Fresh st) (k : Nat) (os : List Ob) : (⟨st.T.map (scrubAll (namesFrom st.L.length k)), st.L.map (scrubObAll (namesFrom st.L.length k)) ++ os, st.O.map (scrubObAll (namesFrom st.L.length k))⟩ : St) = ⟨st.T, st.L ++ os, st.O⟩ := by
  have hT : st.T.map (scrubAll (namesFrom st.L.length k)) = st.T := by
    refine Tm.ext_ rfl fun j => ?_
    have := Tm.getD_map (scrubAll_ud (namesFrom st.L.length k)) st.T j
    show (st.T.map _).getD j ud = st.T.getD j ud
    rw [this]
    exact scrubAll_fresh (n := 0) k _ _ fun s hs => (hf s hs).T j
  have hl : ∀ l : List Ob, (∀ o ∈ l, ∀ s, st.L.length ≤ s → mentOb (.loc s) o = false) → l.map (scrubObAll (namesFrom st.L.length k)) = l := by
    intro l h
    conv => rhs; rw [← List.map_id l]
    exact List.map_congr_left fun o ho => scrubObAll_fresh k _ o (h o ho)
  rw [hT, hl st.L (fun o ho s hs => (hf s hs).L o ho), hl st.O (fun o ho s hs => (hf s hs).O o ho)]
/-- the step of an own call -/
theorem own_inv (h : ownO o = true) : ∃ c f, o.op = .call c ∧ c.callee = .value (.func f) ∧ (Cfg.own f = true ∨ Cfg.mak f = true) ∧ Cfg.wr f = false := by
  unfold ownO at h
  split at h
  · rename_i c ho
    refine ⟨c, ?_⟩
    split at h
    · rename_i f hc
      simp only [Bool.and_eq_true, Bool.not_eq_true', Bool.or_eq_true] at h
      exact ⟨f, ho, hc, h.1, h.2⟩
    · cases h
  · cases h
/-- what it gives in a state -/
def ownV (P : Program) (call : CallF) (o : Oper) (st : St) : Option (Dv × List Ob) := match o.op with
  | .call c => match c.callee with
    | .value (.func f) => match P.funcs[f]? with
      | some fn => if fn.body.isSome ∧ fn.name ≠ "runtime.NumGoroutine" then (if Cfg.mak f = true then (pureArgs (opds P st c.args.toList c.argTypes.toList)).bind fun as => (call f (as.map .p) []).bind fun r => mkTake P fn.resultTypes.toList r fun ob d => some (d (.loc st.L.length), [ob])
        else (peekAll st.L st.O (opds P st c.args.toList c.argTypes.toList)).bind fun as => (ownG P fn.resultTypes.toList call f st.L.length as).map fun q => (retV (regroup P fn.resultTypes.toList q.1), q.2)) else none
      | none => none
    | _ => none
  | _ => none
theorem fresh_app1 (hf : Fresh st) (os : List Ob) : (⟨st.T.map (scrub (.loc st.L.length)), st.L.map (scrubOb (.loc st.L.length)) ++ os, st.O.map (scrubOb (.loc st.L.length))⟩ : St) = ⟨st.T, st.L ++ os, st.O⟩ := fresh_app hf 1 os
theorem step_own {call : CallF} (h : ownO o = true) (hf : Fresh st) : stepOp call P o st pr = (ownV P call o st).map fun q => (q.1, (⟨st.T, st.L ++ q.2, st.O⟩ : St)) := by
  obtain ⟨c, f, ho, hc, hown, hwr⟩ := own_inv h
  unfold stepOp ownV
  simp only [ho, hc]
  have hcal : callee P st (.func f) = some (f, []) := rfl
  rw [hcal]
  dsimp only
  cases hfn : P.funcs[f]? with
  | none => rfl
  | some fn =>
    dsimp only
    split
    · rw [List.append_nil]
      unfold callD
      rw [if_neg (by simp [hwr])]
      by_cases hm : Cfg.mak f = true
      · rw [if_pos hm, if_pos hm]
        unfold callM
        cases hp : pureArgs (opds P st c.args.toList c.argTypes.toList) with
        | none => rfl
        | some as =>
          dsimp only
          rw [Option.bind_some]
          cases hcl : call f (as.map .p) [] with
          | none => rfl
          | some r =>
            rw [Option.bind_some, Option.bind_some, mkTake_bind]
            conv => rhs; rw [mkTake_bind]
            cases hn : mkTake P fn.resultTypes.toList r (fun ob d => some (ob, d)) with
            | none => rfl
            | some p =>
              rw [Option.bind_some, Option.bind_some, fresh_app1 hf]
              rfl
      · have hown := hown.resolve_right hm
        rw [if_neg hm, if_neg hm, hown, Bool.or_true, if_pos rfl]
        cases hp : peekAll st.L st.O (opds P st c.args.toList c.argTypes.toList) with
        | none => simp
        | some as =>
          dsimp only
          rw [Option.bind_some]
          unfold callB ownG
          rw [if_pos hown]
          split
          · rfl
          · cases hcl : call f (as.map .p) [] with
            | none => rfl
            | some r =>
              rw [Option.bind_some, Option.bind_some]
              cases ha : asOwn P fn.resultTypes.toList r with
              | none => rfl
              | some q =>
                rw [Option.bind_some, Option.bind_some, nameOwn_bind]
                cases hn : nameOwn P st.L.length q.1 q.2 (fun ds os => some (ds, os)) 0 0 ((fn.resultTypes.toList.flatMap (cellTs P 8)).zip (rowsOfTs P fn.resultTypes.toList)) [] [] with
                | none => rfl
                | some p =>
                  obtain ⟨ds, os⟩ := p
                  rw [Option.bind_some]
                  dsimp only
                  rw [fresh_app hf]
                  rfl
    · rfl
theorem mkTake_ment {rts : List TypeId} {r : Res} {b : Nat} {v : Dv} {os : List Ob} (h : mkTake P rts r (fun ob d => some (d (.loc b), [ob])) = some (v, os)) : (∀ m, offN b os.length m → mentD m v = false) ∧ (∀ o ∈ os, ∀ m, mentOb m o = false) := by
  rw [mkTake_bind] at h
  obtain ⟨⟨ob, d⟩, h1, h⟩ := Option.bind_eq_some_iff.1 h
  injection h with h; injection h with e1 e2; subst e1 e2
  have hne : ∀ m, offN b 1 m → Nm.loc b ≠ m := fun m hs e => by rcases hs b e.symm with q | q <;> omega
  rcases mkTake_inv h1 with ⟨es, _, q1, q2⟩ | ⟨n, cs, _, q1, q2⟩
  · simp only at q1 q2
    subst q1 q2
    refine ⟨fun m hs => ?_, fun o ho m => ?_⟩
    · simp only [mentD, decide_eq_false_iff_not]; exact hne m hs
    · rw [List.mem_singleton] at ho; subst ho; rfl
  · simp only at q1 q2
    subst q1 q2
    refine ⟨fun m hs => ?_, fun o ho m => ?_⟩
    · simp only [mentD, decide_eq_false_iff_not]; exact hne m hs
    · rw [List.mem_singleton] at ho; subst ho; rfl
theorem ownV_ment {call : CallF} {v : Dv} {os : List Ob} (h : ownV P call o st = some (v, os)) : (∀ m, offN st.L.length os.length m → mentD m v = false) ∧ (∀ o ∈ os, ∀ m, mentOb m o = false) := by
  unfold ownV at h
  split at h
  · split at h
    · split at h
      · split at h
        · split at h
          · obtain ⟨as, _, h⟩ := Option.bind_eq_some_iff.1 h
            obtain ⟨r, _, h⟩ := Option.bind_eq_some_iff.1 h
            exact mkTake_ment h
          · obtain ⟨as, _, h⟩ := Option.bind_eq_some_iff.1 h
            obtain ⟨q, hq, h⟩ := Option.map_eq_some_iff.1 h
            injection h with e1 e2; subst e1 e2
            have := ownG_ment hq
            exact ⟨fun m hs => retV_ment' (regroup_ment _ _ fun d hd => this.1 d hd m hs), this.2⟩
        · cases h
      · cases h
    · cases h
  · cases h

/-! ### what an operation names -/
mutual
theorem mentD_refs {m : Nm} : ∀ d : Dv, mentD m d = true → m ∈ refsD d
  | .ptr m' off, h => by simp only [mentD, decide_eq_true_eq] at h; simp [refsD, h]
  | .arr m', h => by simp only [mentD, decide_eq_true_eq] at h; simp [refsD, h]
  | .el m' j s off, h => by simp only [mentD, decide_eq_true_eq] at h; simp [refsD, h]
  | .mp m', h => by simp only [mentD, decide_eq_true_eq] at h; simp [refsD, h]
  | .sub m' j s off e s', h => by simp only [mentD, decide_eq_true_eq] at h; simp [refsD, h]
  | .agg n ds, h => by simp only [mentD] at h; simp only [refsD]; exact mentDs_refs ds h
  | .fn f ds, h => by simp only [mentD] at h; simp only [refsD]; exact mentDs_refs ds h
  | .tup ds, h => by simp only [mentD] at h; simp only [refsD]; exact mentDs_refs ds h
  | .p x, h => by simp [mentD] at h
  | .nilsl s, h => by simp [mentD] at h
  | .ro s cs, h => by simp [mentD] at h
theorem mentDs_refs {m : Nm} : ∀ ds : List Dv, mentDs m ds = true → m ∈ refsDs ds
  | [], h => by simp [mentDs] at h
  | d :: ds, h => by
    simp only [mentDs, Bool.or_eq_true] at h
    simp only [refsDs, List.mem_append]
    exact h.imp (mentD_refs d) (mentDs_refs ds)
end
theorem constD_ment {m : Nm} (t : TypeId) (v : Value) : mentD m (constD P t v) = false := by
  unfold constD
  split
  · split
    · exact aggD_ment _ (zeroC_ment _ _)
    · rfl
  · exact constC_ment _ _
theorem refsO_mem {m : Nm} {x : Operand} (hx : x ∈ o.op.operands.toList) {t : TypeId} (h : mentD m (opd P st t x) = true) : m ∈ refsO P o st := by
  refine List.mem_flatMap.2 ⟨x, hx, ?_⟩
  cases x with
  | tmp y => exact mentD_refs _ h
  | const v => simp only [opd, constD_ment] at h; cases h
  | func f => cases h
  | global g => cases h
theorem refsO_same (h : ∀ x ∈ o.op.operands.toList, ∀ t, opd P st' t x = opd P st t x) : refsO P o st' = refsO P o st := by
  unfold refsO
  have : ∀ l : List Operand, (∀ x ∈ l, ∀ t, opd P st' t x = opd P st t x) → l.flatMap (fun x => refsD (opd P st' 0 x)) = l.flatMap (fun x => refsD (opd P st 0 x)) := by
    intro l
    induction l with
    | nil => intro _; rfl
    | cons x l ih =>
      intro h
      simp only [List.flatMap_cons, h x (List.mem_cons_self ..), ih fun y hy => h y (List.mem_cons_of_mem _ hy)]
  exact this _ h
theorem opds_eq : ∀ (xs : List Operand) (ts : List TypeId), (∀ x ∈ xs, ∀ t, opd P st' t x = opd P st t x) → opds P st' xs ts = opds P st xs ts
  | [], ts, h => rfl
  | x :: xs, [], h => by simp only [opds]; rw [h x (by simp), opds_eq xs [] (fun y hy => h y (by simp [hy]))]
  | x :: xs, t :: ts, h => by simp only [opds]; rw [h x (by simp), opds_eq xs ts (fun y hy => h y (by simp [hy]))]
theorem args_mem {c : Call} (ho : o.op = .call c) {y : Operand} (hy : y ∈ c.args.toList) : y ∈ o.op.operands.toList := by
  have : y ∈ c.args := by simpa using hy
  rw [ho]
  simp only [Op.operands]
  cases hc : c.callee <;> simp [Call.operands, hc, this]

/-! ### what an operation reads and writes -/
def wtO (o : Oper) : List Nat := (match appOf o with | some (a, _) => [a] | none => []) ++ o.dst.toList
structure Ch (st st1 : St) (wt : List Nat) (w : List Nm) (k : Nat) : Prop where
  n : st1.T.n = st.T.n
  t : ∀ t, t ∉ wt → st1.T.getD t ud = st.T.getD t ud
  l : st1.L.length = st.L.length + k
  o : st1.O.length = st.O.length
  b : ∀ m, m ∉ w → offN st.L.length k m → getOb st1.L st1.O m = getOb st.L st.O m
structure Eff (o : Oper) (f : Fp) (st st1 : St) (k : Nat) : Prop where
  ch : Ch st st1 (wtO o) f.2 k
  cl : ∀ m, Clean m st → (isMk o = true → m ≠ .loc (nmOf o)) → offN st.L.length k m → Clean m st1
  wr : ∀ m ∈ f.2, (isMk o = true ∧ m = .loc (nmOf o)) ∨ (isArr (getOb st.L st.O m) = false ∧ getOb st.L st.O m ≠ .none)
  k0 : ownO o = false → k = 0
structure Same (o : Oper) (f : Fp) (st st1 st' st1' : St) (k : Nat) : Prop where
  t : ∀ t ∈ wtO o, st1'.T.getD t ud = st1.T.getD t ud
  b : ∀ m ∈ f.2, getOb st1'.L st1'.O m = getOb st1.L st1.O m
  w : ∀ s, st.L.length ≤ s → s < st.L.length + k → getOb st1'.L st1'.O (.loc s) = getOb st1.L st1.O (.loc s)
structure AgF (P : Program) (o : Oper) (f : Fp) (st st' : St) : Prop where
  n : st'.T.n = st.T.n
  x : ∀ x ∈ o.op.operands.toList, ∀ t, opd P st' t x = opd P st t x
  b : ∀ m, m ∈ f.1 ∨ m ∈ f.2 → getOb st'.L st'.O m = getOb st.L st.O m
  l : ownO o = true → st'.L.length = st.L.length
/-- what an operation that makes an object, or appends, finds -/
def PreM (o : Oper) (st : St) : Prop := match appOf o with
  | some (a, _) => PreApp a st
  | none => ∀ s, o.dst = some s → Clean (.loc s) st
structure Pre (o : Oper) (st : St) : Prop where
  fr : ownO o = true → Fresh st
  ma : isMk o = true → nmOf o < st.T.n ∧ nmOf o < st.L.length ∧ PreM o st
def Loc (call : CallF) (P : Program) (o : Oper) (f : Fp) (st st1 : St) : Prop := ∃ k, Eff o f st st1 k ∧ ∀ st', AgF P o f st st' → Pre o st' →
  ∃ st1', stp call P o st' = some st1' ∧ fpK P o st' = some f ∧ Eff o f st' st1' k ∧ Same o f st st1 st' st1' k
theorem clean_iff {m : Nm} : Clean m st ↔ (∀ j, mentD m (st.T.getD j ud) = false) ∧ ∀ n, mentOb m (getOb st.L st.O n) = false := by
  refine ⟨fun h => ⟨h.T, ment_getOb h⟩, fun h => ⟨h.1, fun ob ho => ?_, fun ob ho => ?_⟩⟩
  · obtain ⟨i, hi⟩ := List.mem_iff_getElem?.1 ho
    have := h.2 (.loc i)
    simpa [getOb, List.getD_eq_getElem?_getD, hi] using this
  · obtain ⟨i, hi⟩ := List.mem_iff_getElem?.1 ho
    have := h.2 (.out i)
    simpa [getOb, List.getD_eq_getElem?_getD, hi] using this
theorem put_n (st : St) (dst : Option Tmp) (v : Dv) : (st.put dst v).T.n = st.T.n := by cases dst <;> rfl
theorem put_at {v : Dv} {t : Nat} (h : o.dst = some t) : (st.put o.dst v).T.getD t ud = if t < st.T.n then v else ud := by
  rw [h]
  show (st.T.set t v).getD t ud = _
  rw [Tm.getD_set, if_pos rfl]
theorem ch_put (v : Dv) : Ch st (st.put o.dst v) (wtO o) [] 0 := by
  have h := put_LO st o.dst v
  refine ⟨put_n .., fun t ht => put_ne fun d hd e => ht ?_, by rw [h.1]; rfl, by rw [h.2], fun m _ _ => by rw [h.1, h.2]⟩
  subst e
  exact List.mem_append_right _ (by rw [hd]; simp)
theorem wt_dst (ha : appOf o = none) {t : Nat} (ht : t ∈ wtO o) : o.dst = some t := by
  unfold wtO at ht
  rw [ha] at ht
  simpa using ht
theorem not_app (h : ∀ c, o.op = .call c → c.callee ≠ .builtin .append) : appOf o = none := by
  cases e : appOf o with
  | none => rfl
  | some q =>
    obtain ⟨c, y, ho, _, _, hcl, _⟩ := appOf_inv (a := q.1) (d := q.2) (by rw [e])
    exact absurd hcl (h c ho)
theorem mk_look (hl : lookOp o.op = true) : isMk o = false ∧ appOf o = none := by
  have ha : appOf o = none := not_app fun c ho hc => by rw [ho] at hl; simp [lookOp, hc] at hl
  refine ⟨?_, ha⟩
  unfold isMk
  rw [ha]
  cases hb : isBo o with
  | false => rfl
  | true =>
    obtain ⟨hop, _⟩ := isBo_inv hb
    rcases hop with ⟨t, len, ps, ho⟩ | ⟨t, ho⟩ <;> (rw [ho] at hl; cases hl)
theorem stp_look {call : CallF} (hl : lookOp o.op = true) (hq : quietOK P o st = true) : stp call P o st = (stepOp call P o st fun d _ => some d).map fun d => st.put o.dst d := by
  unfold stp
  rw [stepOp_bind (k := fun d _ => some d)]
  cases hs : stepOp call P o st pr with
  | none => rfl
  | some q =>
    have := look_pr hl hq hs
    simp only [Option.map_some, Option.bind_some, un2, this]
theorem own_look (h : ownO o = true) : isMk o = false ∧ appOf o = none ∧ ∀ st : St, storeN P o st = none := by
  obtain ⟨c, f, ho, hc, _⟩ := own_inv h
  have ha : appOf o = none := not_app fun c' ho' hc' => by rw [ho] at ho'; injection ho' with e; rw [← e, hc] at hc'; cases hc'
  refine ⟨?_, ha, fun st => by unfold storeN; rw [ho]⟩
  unfold isMk
  rw [ha]
  cases hb : isBo o with
  | false => rfl
  | true =>
    obtain ⟨hop, _⟩ := isBo_inv hb
    rcases hop with ⟨t, len, ps, h'⟩ | ⟨t, h'⟩ <;> (rw [ho] at h'; cases h')
/-! ### looks -/
theorem loc_look {call : CallF} {f : Fp} (hl : lookOp o.op = true) (hq : quietOK P o st = true) (hf : f = (refsO P o st, [])) (hfp : ∀ st' : St, AgF P o f st st' → fpK P o st' = some f) (hno : ownO o = false) (h : stp call P o st = some st1) : Loc call P o f st st1 := by
  rw [stp_look hl hq] at h
  obtain ⟨d, h1, rfl⟩ := Option.map_eq_some_iff.1 h
  have eff : ∀ st0 : St, quietOK P o st0 = true → stepOp call P o st0 (fun d _ => some d) = some d → Eff o f st0 (st0.put o.dst d) 0 := fun st0 hq0 h0 =>
    ⟨by rw [hf]; exact ch_put d, fun m hc _ _ => clean_put hc (look_ment hl hq0 hc h0), (fun m hm => by rw [hf] at hm; cases hm), fun _ => rfl⟩
  refine ⟨0, eff st hq h1, fun st' ha _ => ?_⟩
  have hb := ha.b
  obtain ⟨q1, q2⟩ := look_agree (call := call) hl hq ha.x fun x hx t m hm => hb m (.inl (by rw [hf]; exact refsO_mem hx hm))
  refine ⟨st'.put o.dst d, by rw [stp_look hl q1, q2, h1]; rfl, hfp st' ha, eff st' q1 (q2.trans h1), fun t ht => ?_, (fun m hm => by rw [hf] at hm; cases hm), (fun s h1 h2 => by omega)⟩
  have hd := wt_dst (mk_look hl).2 ht
  rw [put_at hd, put_at hd, ha.n]
/-! ### a store by an address -/
theorem storeOb_ment {off n : Nat} {v : Dv} {ob ob' : Ob} {m : Nm} (h : storeOb off n v ob = some ob') (hv : mentD m v = false) (ho : mentOb m ob = false) : mentOb m ob' = false ∧ ob ≠ .none ∧ isArr ob = false ∧ ob' ≠ .none := by
  have hbox : ∀ n, mentOb m (boxOf n v) = false ∧ boxOf n v ≠ .none := by
    intro n
    unfold boxOf boxO
    cases v with
    | p x => cases x <;> exact ⟨rfl, fun q => by cases q⟩
    | agg k ds =>
      dsimp only
      split
      · exact ⟨rfl, fun q => by cases q⟩
      · exact ⟨by simpa [mentOb, mentD] using hv, fun q => by cases q⟩
    | _ => exact ⟨by simpa [mentOb, mentDs] using hv, fun q => by cases q⟩
  have hmix : ∀ (c : Nat) (old : Nat → Dv), (∀ j, mentD m (old j) = false) → mentOb m (boxO c (mixD c off n old v)) = false ∧ boxO c (mixD c off n old v) ≠ .none := by
    intro c old hold
    unfold boxO
    split
    · exact ⟨rfl, fun q => by cases q⟩
    · refine ⟨?_, fun q => by cases q⟩
      simp only [mentOb]
      refine mentDs_iff.2 fun d hd => ?_
      unfold mixD at hd
      obtain ⟨j, _, rfl⟩ := List.mem_map.1 hd
      split
      · exact cellV_ment hv _
      · exact hold j
  unfold storeOb at h
  split at h
  · rename_i c cs
    split at h
    · split at h
      · injection h with h; rw [← h]; exact ⟨(hbox _).1, (fun q => by cases q), rfl, (hbox _).2⟩
      · injection h with h; rw [← h]
        have := hmix c (fun j => .p (cs.getD j .undef)) (fun j => rfl)
        exact ⟨this.1, (fun q => by cases q), rfl, this.2⟩
    · cases h
  · rename_i c ds
    split at h
    · split at h
      · injection h with h; rw [← h]; exact ⟨(hbox _).1, (fun q => by cases q), rfl, (hbox _).2⟩
      · injection h with h; rw [← h]
        simp only [mentOb] at ho
        have := hmix c _ (fun j => ment_getD (mentDs_iff.1 ho) j)
        exact ⟨this.1, (fun q => by cases q), rfl, this.2⟩
    · cases h
  · cases h
theorem setLO_len (L O : List Ob) (m : Nm) (ob : Ob) : (setL L m ob).length = L.length ∧ (setO O m ob).length = O.length := by cases m <;> simp [setL, setO]
theorem clean_put_ob {m n : Nm} {ob : Ob} (hc : Clean m st) (ho : mentOb m ob = false) : Clean m ⟨st.T, setL st.L n ob, setO st.O n ob⟩ := by
  rw [clean_iff] at hc ⊢
  refine ⟨hc.1, fun n' => ?_⟩
  show mentOb m (getOb (setL st.L n ob) (setO st.O n ob) n') = false
  rcases getOb_set st.L st.O n n' ob with q | ⟨_, q⟩ <;> rw [q]
  · exact hc.2 n'
  · exact ho
theorem loc_store {call : CallF} {f : Fp} {m : Nm} (hs : storeN P o st = some m) (hf : f = ([], [m])) (h : stp call P o st = some st1) : Loc call P o f st st1 := by
  obtain ⟨t, a, v, off, ho, ha⟩ : ∃ t a v off, o.op = .store t a v ∧ opd P st 0 a = .ptr m off := by
    unfold storeN at hs
    split at hs
    · rename_i t a v ho
      split at hs
      · rename_i m' off e
        injection hs with hs; subst hs
        exact ⟨t, a, v, off, ho, e⟩
      · cases hs
    · cases hs
  have hno : ownO o = false := by unfold ownO; rw [ho]
  have hap : appOf o = none := not_app fun c hc => by rw [ho] at hc; cases hc
  have hmk : isMk o = false := by unfold isMk isBo; rw [hap, ho]; rfl
  have run : ∀ st0 : St, opd P st0 0 a = .ptr m off → stp call P o st0 = (if P.cellsOf t = 0 then none else if sizeV (opd P st0 t v) = some (P.cellsOf t) then (storeOb off (P.cellsOf t) (opd P st0 t v) (getOb st0.L st0.O m)).map fun ob => (⟨st0.T, setL st0.L m ob, setO st0.O m ob⟩ : St).put o.dst ud else none) := by
    intro st0 e
    unfold stp stepOp
    simp only [ho]
    split
    · rfl
    · unfold storeD
      rw [e]
      split
      · dsimp only
        split <;> rename_i e' <;> rw [e'] <;> rfl
      · rfl
  have hfp : ∀ st0 : St, opd P st0 0 a = .ptr m off → fpK P o st0 = some f := by
    intro st0 e
    have : storeN P o st0 = some m := by unfold storeN; rw [ho]; dsimp only; rw [e]
    unfold fpK
    rw [hno, this, hf]
    rfl
  rw [run st ha] at h
  split at h
  · cases h
  rename_i c1
  split at h
  case isFalse => cases h
  rename_i c2
  obtain ⟨ob, h1, h2⟩ := Option.map_eq_some_iff.1 h
  have live := storeOb_ment (m := m) h1
  have eff : ∀ (st0 : St) (d0 : Dv), storeOb off (P.cellsOf t) (opd P st0 t v) (getOb st0.L st0.O m) = some ob → getOb st0.L st0.O m ≠ .none ∧ Eff o f st0 ((⟨st0.T, setL st0.L m ob, setO st0.O m ob⟩ : St).put o.dst ud) 0 := by
    intro st0 d0 h0
    have hn : getOb st0.L st0.O m ≠ .none := by
      intro q; rw [q] at h0; cases h0
    have hLO := put_LO (⟨st0.T, setL st0.L m ob, setO st0.O m ob⟩ : St) o.dst ud
    have hlen := setLO_len st0.L st0.O m ob
    refine ⟨hn, ⟨put_n .., fun t ht => put_ne (st := ⟨st0.T, setL st0.L m ob, setO st0.O m ob⟩) fun d hd e => ht ?_, by rw [hLO.1]; exact hlen.1, by rw [hLO.2]; exact hlen.2, fun m' hm' _ => ?_⟩, fun m' hc _ _ => ?_, fun m' hm' => ?_, fun _ => rfl⟩
    · subst e; exact List.mem_append_right _ (by rw [hd]; simp)
    · rw [hLO.1, hLO.2]
      exact getOb_ne st0.L st0.O (fun e => hm' (by rw [hf, e]; simp)) ob
    · exact clean_put (clean_put_ob hc (storeOb_ment h0 (opd_ment hc _ _) (ment_getOb hc m)).1) rfl
    · rw [hf, List.mem_singleton] at hm'
      subst hm'
      right
      refine ⟨?_, hn⟩
      generalize getOb st0.L st0.O m' = ob0 at h0
      cases ob0 <;> first | rfl | cases h0
  obtain ⟨e1, e2⟩ := eff st ud h1
  subst h2
  refine ⟨0, e2, fun st' hag _ => ?_⟩
  have hx : ∀ y, y = a ∨ y = v → ∀ t, opd P st' t y = opd P st t y := fun y hy => hag.x y (by
    rw [ho]; simp only [Op.operands]; rcases hy with rfl | rfl <;> simp)
  have hb : getOb st'.L st'.O m = getOb st.L st.O m := hag.b m (.inr (by rw [hf]; simp))
  have ha' : opd P st' 0 a = .ptr m off := (hx a (.inl rfl) 0).trans ha
  have h1' : storeOb off (P.cellsOf t) (opd P st' t v) (getOb st'.L st'.O m) = some ob := by rw [hx v (.inr rfl), hb]; exact h1
  obtain ⟨e1', e2'⟩ := eff st' ud h1'
  refine ⟨_, by rw [run st' ha', if_neg c1, if_pos (by rw [hx v (.inr rfl)]; exact c2), h1']; rfl, hfp st' ha', e2', fun t ht => ?_, fun m' hm' => ?_, fun s h1 h2 => by omega⟩
  · have hd := wt_dst hap ht
    rw [put_at hd, put_at hd]
    show (if t < st'.T.n then ud else ud) = if t < st.T.n then ud else ud
    rw [ite_self, ite_self]
  · rw [hf, List.mem_singleton] at hm'
    subst hm'
    have q1 := put_LO (⟨st'.T, setL st'.L m' ob, setO st'.O m' ob⟩ : St) o.dst ud
    have q2 := put_LO (⟨st.T, setL st.L m' ob, setO st.O m' ob⟩ : St) o.dst ud
    rw [q1.1, q1.2, q2.1, q2.2]
    show getOb (setL st'.L m' ob) (setO st'.O m' ob) m' = getOb (setL st.L m' ob) (setO st.O m' ob) m'
    rw [getOb_self _ _ e1', getOb_self _ _ e1]
end Go.Proofs.YtakbdjdafcjglaaGreatDoor.Dm
