/- The machine over plain data: what one operation reads and writes where an order is drawn. -/
import Derived.Test.YtmnoibkdmeajpaaGreatDm16
namespace Go.Proofs.YtmnoibkdmeajpaaGreat.Dm
set_option linter.unusedSectionVars false
open Go.RowKit
set_option linter.unusedVariables false
set_option linter.unusedSimpArgs false
variable [Cfg] {P : Program} {st st' st1 : St} {o : Oper} {d : Dv}
theorem Tm.set_set (T : Tm) (i : Nat) (d e : Dv) : (T.set i d).set i e = T.set i e := by
 refine Tm.ext_ rfl fun k => ?_
 simp only [Tm.set_f, Tm.set_n, beq_eq]
 by_cases h : k = i
 ·subst h; simp
 ·rw [decide_eq_false h]; rfl
mutual
theorem und_ment {n : Nat} : ∀ d : Dv, undD n d = true → ∀ s, n ≤ s → mentD (.loc s) d = false
 | .ptr (.loc s') off, h, s, hs => by
  simp only [undD, blt_eq, decide_eq_true_eq] at h
  simp only [mentD, decide_eq_false_iff_not]
  intro e; injection e with e; omega
 | .arr (.loc s'), h, s, hs => by
  simp only [undD, blt_eq, decide_eq_true_eq] at h
  simp only [mentD, decide_eq_false_iff_not]
  intro e; injection e with e; omega
 | .el (.loc s') _ _ _, h, s, hs => by
  simp only [undD, blt_eq, decide_eq_true_eq] at h
  simp only [mentD, decide_eq_false_iff_not]
  intro e; injection e with e; omega
 | .mp (.loc s'), h, s, hs => by
  simp only [undD, blt_eq, decide_eq_true_eq] at h
  simp only [mentD, decide_eq_false_iff_not]
  intro e; injection e with e; omega
 | .sub (.loc s') _ _ _ _ _, h, s, hs => by
  simp only [undD, blt_eq, decide_eq_true_eq] at h
  simp only [mentD, decide_eq_false_iff_not]
  intro e; injection e with e; omega
 | .ptr (.out _) _, _, s, _ => by simp [mentD]
 | .arr (.out _), _, s, _ => by simp [mentD]
 | .el (.out _) _ _ _, _, s, _ => by simp [mentD]
 | .mp (.out _), _, s, _ => by simp [mentD]
 | .sub (.out _) _ _ _ _ _, _, s, _ => by simp [mentD]
 | .agg _ ds, h, s, hs => by simp only [undD] at h; simp only [mentD]; exact unds_ment ds h s hs
 | .fn _ ds, h, s, hs => by simp only [undD] at h; simp only [mentD]; exact unds_ment ds h s hs
 | .tup ds, h, s, hs => by simp only [undD] at h; simp only [mentD]; exact unds_ment ds h s hs
 | .p _, _, s, _ => rfl
 | .nilsl _, _, s, _ => rfl
 | .ro _ _, _, s, _ => rfl
theorem unds_ment {n : Nat} : ∀ ds : List Dv, undDs n ds = true → ∀ s, n ≤ s → mentDs (.loc s) ds = false
 | [], _, s, _ => rfl
 | d :: ds, h, s, hs => by
  simp only [undDs, Bool.and_eq_true] at h
  simp only [mentDs, und_ment d h.1 s hs, unds_ment ds h.2 s hs, Bool.or_self]
end
theorem undOb_ment {n : Nat} {ob : Ob} (h : undOb n ob = true) {s : Nat} (hs : n ≤ s) : mentOb (.loc s) ob = false := by
 cases ob with
 | mbox c ds => exact unds_ment ds h s hs
 | marr e z es lk =>
  match lk, h with
  | none, _ => rfl
  | some (_, _, .out _), _ => simp [mentOb]
  | some (_, _, .loc s'), h =>
   simp only [undOb, blt_eq, decide_eq_true_eq] at h
   simp only [mentOb, decide_eq_false_iff_not]
   intro e; injection e with e; omega
 | gmap e z es lk =>
  match lk, h with
  | none, _ => rfl
  | some (_, .out _), _ => simp [mentOb]
  | some (_, .loc s'), h =>
   simp only [undOb, blt_eq, decide_eq_true_eq] at h
   simp only [mentOb, decide_eq_false_iff_not]
   intro e; injection e with e; omega
 | _ => rfl
def Fresh (st : St) : Prop := ∀ s, st.L.length ≤ s → Clean (.loc s) st
theorem fresh_of (h : undSt st = true) : Fresh st := by
 unfold undSt at h
 simp only [Bool.and_eq_true, List.all_eq_true] at h
 intro s hs
 refine ⟨fun j => ?_, fun o ho => undOb_ment (h.2.1 o ho) hs, fun o ho => undOb_ment (h.2.2 o ho) hs⟩
 show mentD _ (st.T.f j) = false
 rcases Nat.lt_or_ge j st.T.n with q | q
 ·exact und_ment _ (h.1 j (List.mem_range.2 q)) s hs
 ·rw [st.T.ok j q]; rfl
theorem castP_some {t : TypeId} {x : Pd} {R : Type} {k : Pd → Option R} {r : R} (h : castP P t x k = some r) : ∃ y, k y = some r := by
 rw [castP_bind] at h
 obtain ⟨y, _, h⟩ := Option.bind_eq_some_iff.1 h
 exact ⟨y, h⟩
def offN (b k : Nat) (m : Nm) : Prop := ∀ s, m = .loc s → s < b ∨ b + k ≤ s
theorem nameOwn_ment {b : Nat} {xs : List Pd} {rows : List (List (List Pd))} : ∀ (l : List (TypeId × Option (Nat × Nat))) (i c : Nat) (acc : List Dv) (aos : List Ob) (ds : List Dv) (os : List Ob),
 (∀ d ∈ acc, ∀ m, offN b c m → mentD m d = false) → aos.length = c → (∀ o ∈ aos, ∀ m, mentOb m o = false) → nameOwn P b xs rows (fun ds os => some (ds, os)) i c l acc aos = some (ds, os) →
 (∀ d ∈ ds, ∀ m, offN b os.length m → mentD m d = false) ∧ (∀ o ∈ os, ∀ m, mentOb m o = false)
 | [], i, c, acc, aos, ds, os, h1, h2, h3, h => by
  simp only [nameOwn] at h
  injection h with h; injection h with e1 e2; subst e1 e2
  rw [h2]
  exact ⟨h1, h3⟩
 | (t, some (e, s0)) :: l, i, c, acc, aos, ds, os, h1, h2, h3, h => by
  simp only [nameOwn] at h
  refine nameOwn_ment l _ _ _ _ _ _ (fun d hd m hs => ?_) (by rw [List.length_append, h2]; rfl) (fun o ho m => ?_) h
  ·rcases List.mem_append.1 hd with q | q
   ·exact h1 d q m fun s e => by rcases hs s e with q | q <;> omega
   ·rw [List.mem_singleton] at q
    subst q
    simp only [mentD, decide_eq_false_iff_not]
    intro e
    rcases hs (b + c) e.symm with q | q <;> omega
  ·rcases List.mem_append.1 ho with q | q
   ·exact h3 o q m
   ·rw [List.mem_singleton] at q
    subst q
    unfold rowOb
    split <;> rfl
 | (t, none) :: l, i, c, acc, aos, ds, os, h1, h2, h3, h => by
  simp only [nameOwn] at h
  split at h
  ·obtain ⟨y, h⟩ := castP_some h
   refine nameOwn_ment l _ _ _ _ _ _ (fun d hd m hs => ?_) h2 h3 h
   rcases List.mem_append.1 hd with q | q
   ·exact h1 d q m hs
   ·rw [List.mem_singleton] at q
    subst q
    rfl
  ·cases h
theorem regroup_ment {m : Nm} : ∀ (ts : List TypeId) (ds : List Dv), (∀ d ∈ ds, mentD m d = false) → ∀ d ∈ regroup P ts ds, mentD m d = false
 | [], ds, h, d, hd => by simp [regroup] at hd
 | t :: ts, ds, h, d, hd => by
  unfold regroup at hd
  split at hd
  ·rcases List.mem_cons.1 hd with q | q
   ·subst q
    simp only [mentD]
    exact mentDs_iff.2 fun x hx => h x (List.mem_of_mem_take hx)
   ·exact regroup_ment ts _ (fun x hx => h x (List.mem_of_mem_drop hx)) d q
  ·rcases List.mem_cons.1 hd with q | q
   ·subst q
    cases ds with
    | nil => rfl
    | cons x xs => exact h x (List.mem_cons_self ..)
   ·exact regroup_ment ts _ (fun x hx => h x (List.mem_of_mem_drop hx)) d q
theorem retV_ment' {m : Nm} {ds : List Dv} (h : ∀ d ∈ ds, mentD m d = false) : mentD m (retV ds) = false := by
 match ds, h with
 | [], _ => rfl
 | [d], h => exact h d (List.mem_cons_self ..)
 | d :: e :: ds, h =>
  simp only [retV, mentD]
  exact mentDs_iff.2 h
def ownG (P : Program) (rts : List TypeId) (call : CallF) (f : FuncId) (b : Nat) (as : List Pd) : Option (List Dv × List Ob) :=
 if (rts.flatMap (cellTs P 8)).length ≠ (rowsOfTs P rts).length then none else
  (call f (as.map .p) []).bind fun r => (asOwn P rts r).bind fun q => nameOwn P b q.1 q.2 (fun ds os => some (ds, os)) 0 0 ((rts.flatMap (cellTs P 8)).zip (rowsOfTs P rts)) [] []
theorem ownG_ment {rts : List TypeId} {call : CallF} {f : FuncId} {b : Nat} {as : List Pd} {ds : List Dv} {os : List Ob} (h : ownG P rts call f b as = some (ds, os)) : (∀ d ∈ ds, ∀ m, offN b os.length m → mentD m d = false) ∧ (∀ o ∈ os, ∀ m, mentOb m o = false) := by
 unfold ownG at h
 split at h
 ·cases h
 ·obtain ⟨r, _, h⟩ := Option.bind_eq_some_iff.1 h
  obtain ⟨q, _, h⟩ := Option.bind_eq_some_iff.1 h
  exact nameOwn_ment _ _ _ _ _ _ _ (fun d hd => absurd hd List.not_mem_nil) rfl (fun o ho => absurd ho List.not_mem_nil) h
theorem scrubAll_fresh {n : Nat} : ∀ (k b : Nat) (d : Dv), (∀ s, b ≤ s → mentD (.loc s) d = false) → scrubAll (namesFrom b k) d = d
 | 0, b, d, h => rfl
 | k + 1, b, d, h => by
  show scrubAll (namesFrom (b + 1) k) (scrub (.loc b) d) = d
  rw [scrub_id _ _ (h b (Nat.le_refl _))]
  exact scrubAll_fresh (n := n) k (b + 1) d fun s hs => h s (by omega)
theorem scrubObAll_fresh : ∀ (k b : Nat) (o : Ob), (∀ s, b ≤ s → mentOb (.loc s) o = false) → scrubObAll (namesFrom b k) o = o
 | 0, b, o, h => rfl
 | k + 1, b, o, h => by
  show scrubObAll (namesFrom (b + 1) k) (scrubOb (.loc b) o) = o
  rw [scrubOb_id (h b (Nat.le_refl _))]
  exact scrubObAll_fresh k (b + 1) o fun s hs => h s (by omega)
theorem fresh_app (hf : Fresh st) (k : Nat) (os : List Ob) : (⟨st.T.map (scrubAll (namesFrom st.L.length k)), st.L.map (scrubObAll (namesFrom st.L.length k)) ++ os, st.O.map (scrubObAll (namesFrom st.L.length k))⟩ : St) = ⟨st.T, st.L ++ os, st.O⟩ := by
 have hT : st.T.map (scrubAll (namesFrom st.L.length k)) = st.T := by
  refine Tm.ext_ rfl fun j => ?_
  have := Tm.getD_map (scrubAll_ud (namesFrom st.L.length k)) st.T j
  show (st.T.map _).getD j ud = st.T.getD j ud
  rw [this]
  exact scrubAll_fresh (n := 0) k _ _ fun s hs => (hf s hs).T j
 have hl : ∀ l : List Ob, (∀ o ∈ l, ∀ s, st.L.length ≤ s → mentOb (.loc s) o = false) → l.map (scrubObAll (namesFrom st.L.length k)) = l := by
  intro l h
  conv => rhs; rw [← List.map_id l]
  exact List.map_congr_left fun o ho => scrubObAll_fresh k _ o (h o ho)
 rw [hT, hl st.L (fun o ho s hs => (hf s hs).L o ho), hl st.O (fun o ho s hs => (hf s hs).O o ho)]
theorem own_inv (h : ownO o = true) : ∃ c f, o.op = .call c ∧ c.callee = .value (.func f) ∧ (Cfg.own f = true ∨ Cfg.mak f = true) ∧ Cfg.wr f = false := by
 unfold ownO at h
 split at h
 ·rename_i c ho
  refine ⟨c, ?_⟩
  split at h
  ·rename_i f hc
   simp only [Bool.and_eq_true, Bool.not_eq_true', Bool.or_eq_true] at h
   exact ⟨f, ho, hc, h.1, h.2⟩
  ·cases h
 ·cases h
def ownV (P : Program) (call : CallF) (o : Oper) (st : St) : Option (Dv × List Ob) := match o.op with
 | .call c => match c.callee with
  | .value (.func f) => match P.funcs[f]? with
   | some fn => if fn.body.isSome ∧ fn.name ≠ "runtime.NumGoroutine" then (if Cfg.mak f = true then (pureArgs (opds P st c.args.toList c.argTypes.toList)).bind fun as => (call f (as.map .p) []).bind fun r => mkTake P fn.resultTypes.toList r fun ob d => some (d (.loc st.L.length), [ob])
    else (peekAll st.L st.O (opds P st c.args.toList c.argTypes.toList)).bind fun as => (ownG P fn.resultTypes.toList call f st.L.length as).map fun q => (retV (regroup P fn.resultTypes.toList q.1), q.2)) else none
   | none => none
  | _ => none
 | _ => none
theorem fresh_app1 (hf : Fresh st) (os : List Ob) : (⟨st.T.map (scrub (.loc st.L.length)), st.L.map (scrubOb (.loc st.L.length)) ++ os, st.O.map (scrubOb (.loc st.L.length))⟩ : St) = ⟨st.T, st.L ++ os, st.O⟩ := fresh_app hf 1 os
theorem step_own {call : CallF} (h : ownO o = true) (hf : Fresh st) : stepOp call P o st pr = (ownV P call o st).map fun q => (q.1, (⟨st.T, st.L ++ q.2, st.O⟩ : St)) := by
 obtain ⟨c, f, ho, hc, hown, hwr⟩ := own_inv h
 unfold stepOp ownV
 simp only [ho, hc]
 have hcal : callee P st (.func f) = some (f, []) := rfl
 rw [hcal]
 dsimp only
 cases hfn : P.funcs[f]? with
 | none => rfl
 | some fn =>
  dsimp only
  split
  ·rw [List.append_nil]
   unfold callD
   rw [if_neg (by simp [hwr])]
   by_cases hm : Cfg.mak f = true
   ·rw [if_pos hm, if_pos hm]
    unfold callM
    cases hp : pureArgs (opds P st c.args.toList c.argTypes.toList) with
    | none => rfl
    | some as =>
     dsimp only
     rw [Option.bind_some]
     cases hcl : call f (as.map .p) [] with
     | none => rfl
     | some r =>
      rw [Option.bind_some, Option.bind_some, mkTake_bind]
      conv => rhs; rw [mkTake_bind]
      cases hn : mkTake P fn.resultTypes.toList r (fun ob d => some (ob, d)) with
      | none => rfl
      | some p =>
       rw [Option.bind_some, Option.bind_some, fresh_app1 hf]
       rfl
   ·have hown := hown.resolve_right hm
    rw [if_neg hm, if_neg hm, hown, Bool.or_true, if_pos rfl]
    cases hp : peekAll st.L st.O (opds P st c.args.toList c.argTypes.toList) with
    | none => simp
    | some as =>
     dsimp only
     rw [Option.bind_some]
     unfold callB ownG
     rw [if_pos hown]
     split
     ·rfl
     ·cases hcl : call f (as.map .p) [] with
      | none => rfl
      | some r =>
       rw [Option.bind_some, Option.bind_some]
       cases ha : asOwn P fn.resultTypes.toList r with
       | none => rfl
       | some q =>
        rw [Option.bind_some, Option.bind_some, nameOwn_bind]
        cases hn : nameOwn P st.L.length q.1 q.2 (fun ds os => some (ds, os)) 0 0 ((fn.resultTypes.toList.flatMap (cellTs P 8)).zip (rowsOfTs P fn.resultTypes.toList)) [] [] with
        | none => rfl
        | some p =>
         obtain ⟨ds, os⟩ := p
         rw [Option.bind_some]
         dsimp only
         rw [fresh_app hf]
         rfl
  ·rfl
theorem mkTake_ment {rts : List TypeId} {r : Res} {b : Nat} {v : Dv} {os : List Ob} (h : mkTake P rts r (fun ob d => some (d (.loc b), [ob])) = some (v, os)) : (∀ m, offN b os.length m → mentD m v = false) ∧ (∀ o ∈ os, ∀ m, mentOb m o = false) := by
 rw [mkTake_bind] at h
 obtain ⟨⟨ob, d⟩, h1, h⟩ := Option.bind_eq_some_iff.1 h
 injection h with h; injection h with e1 e2; subst e1 e2
 have hne : ∀ m, offN b 1 m → Nm.loc b ≠ m := fun m hs e => by rcases hs b e.symm with q | q <;> omega
 rcases mkTake_inv h1 with ⟨es, _, q1, q2⟩ | ⟨n, cs, _, q1, q2⟩ | ⟨e, s, es, _, q1, q2⟩
 ·simp only at q1 q2
  subst q1 q2
  refine ⟨fun m hs => ?_, fun o ho m => ?_⟩
  ·simp only [mentD, decide_eq_false_iff_not]; exact hne m hs
  ·rw [List.mem_singleton] at ho; subst ho; rfl
 ·simp only at q1 q2
  subst q1 q2
  refine ⟨fun m hs => ?_, fun o ho m => ?_⟩
  ·simp only [mentD, decide_eq_false_iff_not]; exact hne m hs
  ·rw [List.mem_singleton] at ho; subst ho; rfl
 ·simp only at q1 q2
  subst q1 q2
  refine ⟨fun m hs => ?_, fun o ho m => ?_⟩
  ·simp only [mentD, decide_eq_false_iff_not]; exact hne m hs
  ·rw [List.mem_singleton] at ho; subst ho; rfl
theorem ownV_ment {call : CallF} {v : Dv} {os : List Ob} (h : ownV P call o st = some (v, os)) : (∀ m, offN st.L.length os.length m → mentD m v = false) ∧ (∀ o ∈ os, ∀ m, mentOb m o = false) := by
 unfold ownV at h
 split at h
 ·split at h
  ·split at h
   ·split at h
    ·split at h
     ·obtain ⟨as, _, h⟩ := Option.bind_eq_some_iff.1 h
      obtain ⟨r, _, h⟩ := Option.bind_eq_some_iff.1 h
      exact mkTake_ment h
     ·obtain ⟨as, _, h⟩ := Option.bind_eq_some_iff.1 h
      obtain ⟨q, hq, h⟩ := Option.map_eq_some_iff.1 h
      injection h with e1 e2; subst e1 e2
      have := ownG_ment hq
      exact ⟨fun m hs => retV_ment' (regroup_ment _ _ fun d hd => this.1 d hd m hs), this.2⟩
    ·cases h
   ·cases h
  ·cases h
 ·cases h
mutual
theorem mentD_refs {m : Nm} : ∀ d : Dv, mentD m d = true → m ∈ refsD d
 | .ptr m' off, h => by simp only [mentD, decide_eq_true_eq] at h; simp [refsD, h]
 | .arr m', h => by simp only [mentD, decide_eq_true_eq] at h; simp [refsD, h]
 | .el m' j s off, h => by simp only [mentD, decide_eq_true_eq] at h; simp [refsD, h]
 | .mp m', h => by simp only [mentD, decide_eq_true_eq] at h; simp [refsD, h]
 | .sub m' j s off e s', h => by simp only [mentD, decide_eq_true_eq] at h; simp [refsD, h]
 | .agg n ds, h => by simp only [mentD] at h; simp only [refsD]; exact mentDs_refs ds h
 | .fn f ds, h => by simp only [mentD] at h; simp only [refsD]; exact mentDs_refs ds h
 | .tup ds, h => by simp only [mentD] at h; simp only [refsD]; exact mentDs_refs ds h
 | .p x, h => by simp [mentD] at h
 | .nilsl s, h => by simp [mentD] at h
 | .ro s cs, h => by simp [mentD] at h
theorem mentDs_refs {m : Nm} : ∀ ds : List Dv, mentDs m ds = true → m ∈ refsDs ds
 | [], h => by simp [mentDs] at h
 | d :: ds, h => by
  simp only [mentDs, Bool.or_eq_true] at h
  simp only [refsDs, List.mem_append]
  exact h.imp (mentD_refs d) (mentDs_refs ds)
end
theorem constD_ment {m : Nm} (t : TypeId) (v : Value) : mentD m (constD P t v) = false := by
 unfold constD
 split
 ·split
  ·exact aggD_ment _ (zeroC_ment _ _)
  ·rfl
 ·exact constC_ment _ _
theorem refsO_mem {m : Nm} {x : Operand} (hx : x ∈ o.op.operands.toList) {t : TypeId} (h : mentD m (opd P st t x) = true) : m ∈ refsO P o st := by
 refine List.mem_flatMap.2 ⟨x, hx, ?_⟩
 cases x with
 | tmp y => exact mentD_refs _ h
 | const v => simp only [opd, constD_ment] at h; cases h
 | func f => cases h
 | global g => cases h
theorem refsO_same (h : ∀ x ∈ o.op.operands.toList, ∀ t, opd P st' t x = opd P st t x) : refsO P o st' = refsO P o st := by
 unfold refsO
 have : ∀ l : List Operand, (∀ x ∈ l, ∀ t, opd P st' t x = opd P st t x) → l.flatMap (fun x => refsD (opd P st' 0 x)) = l.flatMap (fun x => refsD (opd P st 0 x)) := by
  intro l
  induction l with
  | nil => intro _; rfl
  | cons x l ih =>
   intro h
   simp only [List.flatMap_cons, h x (List.mem_cons_self ..), ih fun y hy => h y (List.mem_cons_of_mem _ hy)]
 exact this _ h
theorem opds_eq : ∀ (xs : List Operand) (ts : List TypeId), (∀ x ∈ xs, ∀ t, opd P st' t x = opd P st t x) → opds P st' xs ts = opds P st xs ts
 | [], ts, h => rfl
 | x :: xs, [], h => by simp only [opds]; rw [h x (by simp), opds_eq xs [] (fun y hy => h y (by simp [hy]))]
 | x :: xs, t :: ts, h => by simp only [opds]; rw [h x (by simp), opds_eq xs ts (fun y hy => h y (by simp [hy]))]
theorem args_mem {c : Call} (ho : o.op = .call c) {y : Operand} (hy : y ∈ c.args.toList) : y ∈ o.op.operands.toList := by
 have : y ∈ c.args := by simpa using hy
 rw [ho]
 simp only [Op.operands]
 cases hc : c.callee <;> simp [Call.operands, hc, this]
mutual
theorem nud_scrub (m : Nm) : ∀ d : Dv, nudD (scrub m d) = true → scrub m d = d
 | .ptr m' off, h => by unfold scrub at h ⊢; split at h <;> first | (cases h; done) | rename_i e; rw [if_neg e]
 | .arr m', h => by unfold scrub at h ⊢; split at h <;> first | (cases h; done) | rename_i e; rw [if_neg e]
 | .el m' j s off, h => by unfold scrub at h ⊢; split at h <;> first | (cases h; done) | rename_i e; rw [if_neg e]
 | .mp m', h => by unfold scrub at h ⊢; split at h <;> first | (cases h; done) | rename_i e; rw [if_neg e]
 | .sub m' j s off e s', h => by unfold scrub at h ⊢; split at h <;> first | (cases h; done) | rename_i e; rw [if_neg e]
 | .agg n ds, h => by simp only [scrub, nudD] at h ⊢; rw [nud_scrubs m ds h]
 | .fn f ds, h => by simp only [scrub, nudD] at h ⊢; rw [nud_scrubs m ds h]
 | .tup ds, h => by simp only [scrub, nudD] at h ⊢; rw [nud_scrubs m ds h]
 | .p x, h => rfl
 | .nilsl s, h => rfl
 | .ro s cs, h => rfl
theorem nud_scrubs (m : Nm) : ∀ ds : List Dv, nudDs (scrub.scrubs m ds) = true → scrub.scrubs m ds = ds
 | [], h => rfl
 | d :: ds, h => by
  simp only [scrub.scrubs, nudDs, Bool.and_eq_true] at h ⊢
  rw [nud_scrub m d h.1, nud_scrubs m ds h.2]
end
theorem nud_scrubAll : ∀ (sc : List Nm) (d : Dv), nudD (scrubAll sc d) = true → scrubAll sc d = d
 | [], d, h => rfl
 | m :: sc, d, h => by
  have h1 : scrubAll sc (scrub m d) = scrub m d := nud_scrubAll sc (scrub m d) h
  have h2 : nudD (scrub m d) = true := by rw [← h1]; exact h
  exact h1.trans (nud_scrub m d h2)
theorem scrubAll_id : ∀ (sc : List Nm) (d : Dv), (∀ m ∈ sc, mentD m d = false) → scrubAll sc d = d
 | [], d, h => rfl
 | m :: sc, d, h => by
  show scrubAll sc (scrub m d) = d
  rw [scrub_id m d (h m (List.mem_cons_self ..))]
  exact scrubAll_id sc d fun n hn => h n (List.mem_cons_of_mem _ hn)
theorem scrubObAll_id : ∀ (sc : List Nm) (d : Ob), (∀ m ∈ sc, mentOb m d = false) → scrubObAll sc d = d
 | [], d, h => rfl
 | m :: sc, d, h => by
  show scrubObAll sc (scrubOb m d) = d
  rw [scrubOb_id (h m (List.mem_cons_self ..))]
  exact scrubObAll_id sc d fun n hn => h n (List.mem_cons_of_mem _ hn)
mutual
theorem scrub_comm (m n : Nm) : ∀ d : Dv, scrub m (scrub n d) = scrub n (scrub m d)
 | .ptr m' off => by by_cases e1 : m' = m <;> by_cases e2 : m' = n <;> simp [scrub, e1, e2] <;> (try (subst e1)) <;> simp_all [scrub]
 | .arr m' => by by_cases e1 : m' = m <;> by_cases e2 : m' = n <;> simp [scrub, e1, e2] <;> (try (subst e1)) <;> simp_all [scrub]
 | .el m' j s off => by by_cases e1 : m' = m <;> by_cases e2 : m' = n <;> simp [scrub, e1, e2] <;> (try (subst e1)) <;> simp_all [scrub]
 | .mp m' => by by_cases e1 : m' = m <;> by_cases e2 : m' = n <;> simp [scrub, e1, e2] <;> (try (subst e1)) <;> simp_all [scrub]
 | .sub m' j s off e s' => by by_cases e1 : m' = m <;> by_cases e2 : m' = n <;> simp [scrub, e1, e2] <;> (try (subst e1)) <;> simp_all [scrub]
 | .agg k ds => by simp only [scrub, scrubs_comm m n ds]
 | .fn f ds => by simp only [scrub, scrubs_comm m n ds]
 | .tup ds => by simp only [scrub, scrubs_comm m n ds]
 | .p x => rfl
 | .nilsl s => rfl
 | .ro s cs => rfl
theorem scrubs_comm (m n : Nm) : ∀ ds : List Dv, scrub.scrubs m (scrub.scrubs n ds) = scrub.scrubs n (scrub.scrubs m ds)
 | [] => rfl
 | d :: ds => by simp only [scrub.scrubs, scrub_comm m n d, scrubs_comm m n ds]
end
theorem scrub_all_comm (m : Nm) : ∀ (sc : List Nm) (d : Dv), scrubAll sc (scrub m d) = scrub m (scrubAll sc d)
 | [], d => rfl
 | n :: sc, d => by
  show scrubAll sc (scrub n (scrub m d)) = scrub m (scrubAll sc (scrub n d))
  rw [scrub_comm n m, scrub_all_comm m sc]
theorem scrubAll_comm : ∀ (a b : List Nm) (d : Dv), scrubAll a (scrubAll b d) = scrubAll b (scrubAll a d)
 | [], b, d => rfl
 | m :: a, b, d => by
  show scrubAll a (scrub m (scrubAll b d)) = scrubAll b (scrubAll a (scrub m d))
  rw [← scrub_all_comm m b, scrubAll_comm a b]
structure Upd where
 v : Dv
 sc : List Nm
 up : List (Nm × Ob)
 new : List Ob
def upGet : List (Nm × Ob) → Nm → Option Ob
 | [], _ => none
 | (n, ob) :: l, m => match upGet l m with
  | some ob' => some ob'
  | none => if n = m then some ob else none
theorem upGet_mem : ∀ {l : List (Nm × Ob)} {m : Nm} {ob : Ob}, upGet l m = some ob → (m, ob) ∈ l
 | (n, ob0) :: l, m, ob, h => by
  simp only [upGet] at h
  split at h
  ·rename_i ob' h'
   injection h with h; subst h
   exact List.mem_cons_of_mem _ (upGet_mem h')
  ·split at h
   ·rename_i e
    injection h with h; subst e h
    exact List.mem_cons_self ..
   ·cases h
structure Is (u : Upd) (o : Oper) (st st1 : St) : Prop where
 n : st1.T.n = st.T.n
 t : ∀ t, st1.T.getD t ud = if o.dst = some t ∧ t < st.T.n then u.v else scrubAll u.sc (st.T.getD t ud)
 l : st1.L.length = st.L.length + u.new.length
 o : st1.O.length = st.O.length
 b : ∀ m, offN st.L.length u.new.length m → getOb st1.L st1.O m = (upGet u.up m).getD (scrubObAll u.sc (getOb st.L st.O m))
 w : ∀ i, i < u.new.length → getOb st1.L st1.O (.loc (st.L.length + i)) = u.new.getD i .none
def May (f : Fp) (st : St) (k : Nat) (m : Nm) : Prop := m ∈ f.rd ∨ m ∈ f.wr ∨ (∃ n, (n ∈ f.rd ∨ n ∈ f.wr) ∧ mentOb m (getOb st.L st.O n) = true) ∨ ∃ i, i < k ∧ m = .loc (st.L.length + i)
structure Wf (u : Upd) (f : Fp) (o : Oper) (st : St) : Prop where
 sc : f.sc = u.sc
 s1 : ∀ m ∈ u.sc, m ∈ f.wr
 s2 : ∀ m ∈ u.sc, ∀ n, mentOb m (getOb st.L st.O n) = true → n ∈ f.wr
 u1 : ∀ q ∈ u.up, q.1 ∈ f.wr
 od : ∀ n ∈ f.wr, ∀ m, mentOb m (getOb st.L st.O n) = true → m ∈ f.rd
 v : ∀ m, mentD m u.v = true → May f st u.new.length m
 c : ∀ q ∈ u.up, ∀ m, mentOb m q.2 = true → May f st u.new.length m
 nw : ∀ q ∈ u.new, ∀ m, mentOb m q = false
 k : ownO o = false → u.new = []
 kw : ownO o = true → f.wr = []
end Go.Proofs.YtmnoibkdmeajpaaGreat.Dm
