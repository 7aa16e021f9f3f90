/- The machine over plain data: where an order is drawn, calls that give what is one's own. -/
import Derived.Test.YtbadompnhhhfpaaGreatDoorDm16B
namespace Go.Proofs.YtbadompnhhhfpaaGreatDoor.Dm
set_option linter.unusedSectionVars false
open Go.RowKit
set_option linter.unusedVariables false
set_option linter.unusedSimpArgs false
variable [Cfg] {P : Program} {st st' : St} {o : Oper} {d : Dv}
mutual
theorem und_ment {n : Nat} : ∀ d : Dv, undD n d = true → ∀ s, n ≤ s → mentD (.loc s) d = false
  | .ptr (.loc s') off, h, s, hs => by
    simp only [undD, blt_eq, decide_eq_true_eq] at h
    simp only [mentD, decide_eq_false_iff_not]
    intro e; injection e with e; omega
  | .arr (.loc s'), h, s, hs => by
    simp only [undD, blt_eq, decide_eq_true_eq] at h
    simp only [mentD, decide_eq_false_iff_not]
    intro e; injection e with e; omega
  | .el (.loc s') _ _ _, h, s, hs => by
    simp only [undD, blt_eq, decide_eq_true_eq] at h
    simp only [mentD, decide_eq_false_iff_not]
    intro e; injection e with e; omega
  | .mp (.loc s'), h, s, hs => by
    simp only [undD, blt_eq, decide_eq_true_eq] at h
    simp only [mentD, decide_eq_false_iff_not]
    intro e; injection e with e; omega
  | .sub (.loc s') _ _ _ _ _, h, s, hs => by
    simp only [undD, blt_eq, decide_eq_true_eq] at h
    simp only [mentD, decide_eq_false_iff_not]
    intro e; injection e with e; omega
  | .ptr (.out _) _, _, s, _ => by simp [mentD]
  | .arr (.out _), _, s, _ => by simp [mentD]
  | .el (.out _) _ _ _, _, s, _ => by simp [mentD]
  | .mp (.out _), _, s, _ => by simp [mentD]
  | .sub (.out _) _ _ _ _ _, _, s, _ => by simp [mentD]
  | .agg _ ds, h, s, hs => by simp only [undD] at h; simp only [mentD]; exact unds_ment ds h s hs
  | .fn _ ds, h, s, hs => by simp only [undD] at h; simp only [mentD]; exact unds_ment ds h s hs
  | .tup ds, h, s, hs => by simp only [undD] at h; simp only [mentD]; exact unds_ment ds h s hs
  | .p _, _, s, _ => rfl
  | .nilsl _, _, s, _ => rfl
  | .ro _ _, _, s, _ => rfl
theorem unds_ment {n : Nat} : ∀ ds : List Dv, undDs n ds = true → ∀ s, n ≤ s → mentDs (.loc s) ds = false
  | [], _, s, _ => rfl
  | d :: ds, h, s, hs => by
    simp only [undDs, Bool.and_eq_true] at h
    simp only [mentDs, und_ment d h.1 s hs, unds_ment ds h.2 s hs, Bool.or_self]
end
theorem undOb_ment {n : Nat} {ob : Ob} (h : undOb n ob = true) {s : Nat} (hs : n ≤ s) : mentOb (.loc s) ob = false := by
  cases ob with
  | mbox c ds => exact unds_ment ds h s hs
  | _ => rfl
def Fresh (st : St) : Prop := ∀ s, st.L.length ≤ s → Clean (.loc s) st
theorem fresh_of (h : undSt st = true) : Fresh st := by
  unfold undSt at h
  simp only [Bool.and_eq_true, List.all_eq_true] at h
  intro s hs
  refine ⟨fun j => ?_, fun o ho => undOb_ment (h.2.1 o ho) hs, fun o ho => undOb_ment (h.2.2 o ho) hs⟩
  show mentD _ (st.T.f j) = false
  rcases Nat.lt_or_ge j st.T.n with q | q
  · exact und_ment _ (h.1 j (List.mem_range.2 q)) s hs
  · rw [st.T.ok j q]; rfl
theorem see_inv (h : seeO o = true) : lookB o.op = true ∧ ∀ st : St, quietOK P o st = true := by
  unfold seeO at h
  split at h <;> first | (rename_i ho; exact ⟨by rw [ho]; rfl, fun st => by unfold quietOK; rw [ho]⟩) | cases h
theorem opS_see {call : CallF} {ops : Array Oper} {qt : Bool} (h : seeO o = true) : opS qt call P ops o st = (optV call P ops o st).map fun d => st.put o.dst d := by
  obtain ⟨hl, hq⟩ := see_inv (P := P) h
  rw [← opS_look (lookB_look hl)]
  have e : stepQ qt call P o st pr = stepQ true call P o st pr := by
    cases qt with
    | true => rfl
    | false =>
      unfold stepQ
      rw [if_neg (by simp), if_pos rfl, if_pos (hq st)]
  unfold opS
  rw [e]
theorem getOb_app {L O os : List Ob} {n : Nm} (h : ∀ s, L.length ≤ s → n ≠ .loc s) : getOb (L ++ os) O n = getOb L O n := by
  cases n with
  | out i => rfl
  | loc s =>
    have : s < L.length := Nat.lt_of_not_le fun q => h s q rfl
    show (L ++ os).getD s .none = L.getD s .none
    rw [List.getD_eq_getElem?_getD, List.getElem?_append_left this, ← List.getD_eq_getElem?_getD]
theorem see_app {call : CallF} {T : Tm} {L O os : List Ob} (hs : seeO o = true) (hf : Fresh ⟨T, L, O⟩) :
    stepOp call P o ⟨T, L ++ os, O⟩ (fun d _ => some d) = stepOp call P o ⟨T, L, O⟩ (fun d _ => some d) := by
  have hop : ∀ s, L.length ≤ s → ∀ t x, mentD (.loc s) (opd P ⟨T, L, O⟩ t x) = false := fun s h t x => opd_ment (hf s h) t x
  have hsame : ∀ t x, opd P ⟨T, L ++ os, O⟩ t x = opd P ⟨T, L, O⟩ t x := fun t x => by cases x <;> rfl
  unfold seeO at hs
  split at hs <;> first | cases hs | skip
  all_goals rename_i ho
  all_goals unfold stepOp; simp only [ho, hsame]
  · rename_i t x
    have hx := fun s h => hop s h 0 x
    generalize opd P ⟨T, L, O⟩ 0 x = a at hx
    have hget : ∀ {n : Nm}, (∀ s, L.length ≤ s → mentD (.loc s) (.ptr n 0) = false) → getOb (L ++ os) O n = getOb L O n := fun h => getOb_app fun s q e => by
      have := h s q
      simp only [mentD, decide_eq_false_iff_not] at this
      exact this e
    unfold loadD
    cases a with
    | ptr n off =>
      have hx' : ∀ s, L.length ≤ s → mentD (.loc s) (.ptr n 0) = false := fun s h => by have := hx s h; simpa only [mentD] using this
      simp only [hget hx']
    | el n j sz off =>
      have hx' : ∀ s, L.length ≤ s → mentD (.loc s) (.ptr n 0) = false := fun s h => by have := hx s h; simpa only [mentD] using this
      simp only [hget hx']
    | _ => rfl
  · rename_i t x i
    have hx := fun s h => hop s h t x
    generalize opd P ⟨T, L, O⟩ t x = a at hx
    unfold indexAddrD
    split
    · cases a with
      | arr n =>
        have hget : getOb (L ++ os) O n = getOb L O n := getOb_app fun s q e => by
          have := hx s q
          simp only [mentD, decide_eq_false_iff_not] at this
          exact this e
        dsimp only
        rw [hget]
      | p y => cases y <;> rfl
      | _ => rfl
    · rfl
theorem optV_app {call : CallF} {ops : Array Oper} {T : Tm} {L O os : List Ob} (hs : seeO o = true) (hf : Fresh ⟨T, L, O⟩) : optV call P ops o ⟨T, L ++ os, O⟩ = optV call P ops o ⟨T, L, O⟩ := by
  obtain ⟨hl, hq⟩ := see_inv (P := P) hs
  unfold optV
  simp only [hq, see_app hs hf]
theorem castP_some {t : TypeId} {x : Pd} {R : Type} {k : Pd → Option R} {r : R} (h : castP P t x k = some r) : ∃ y, k y = some r := by
  rw [castP_bind] at h
  obtain ⟨y, _, h⟩ := Option.bind_eq_some_iff.1 h
  exact ⟨y, h⟩
theorem nameOwn_ment {b : Nat} {xs : List Pd} {rows : List (List (List Pd))} : ∀ (l : List (TypeId × Option (Nat × Nat))) (i c : Nat) (acc : List Dv) (aos : List Ob) (ds : List Dv) (os : List Ob),
    (∀ d ∈ acc, ∀ s, b + c ≤ s → mentD (.loc s) d = false) → aos.length = c → (∀ o ∈ aos, ∀ m, mentOb m o = false) → nameOwn P b xs rows (fun ds os => some (ds, os)) i c l acc aos = some (ds, os) →
    (∀ d ∈ ds, ∀ s, b + os.length ≤ s → mentD (.loc s) d = false) ∧ (∀ o ∈ os, ∀ m, mentOb m o = false)
  | [], i, c, acc, aos, ds, os, h1, h2, h3, h => by
    simp only [nameOwn] at h
    injection h with h; injection h with e1 e2; subst e1 e2
    rw [h2]
    exact ⟨h1, h3⟩
  | (t, some (e, s0)) :: l, i, c, acc, aos, ds, os, h1, h2, h3, h => by
    simp only [nameOwn] at h
    refine nameOwn_ment l _ _ _ _ _ _ (fun d hd s hs => ?_) (by rw [List.length_append, h2]; rfl) (fun o ho m => ?_) h
    · rcases List.mem_append.1 hd with q | q
      · exact h1 d q s (by omega)
      · rw [List.mem_singleton] at q
        subst q
        simp only [mentD, decide_eq_false_iff_not]
        intro e; injection e with e; omega
    · rcases List.mem_append.1 ho with q | q
      · exact h3 o q m
      · rw [List.mem_singleton] at q
        subst q
        unfold rowOb
        split <;> rfl
  | (t, none) :: l, i, c, acc, aos, ds, os, h1, h2, h3, h => by
    simp only [nameOwn] at h
    split at h
    · obtain ⟨y, h⟩ := castP_some h
      refine nameOwn_ment l _ _ _ _ _ _ (fun d hd s hs => ?_) h2 h3 h
      rcases List.mem_append.1 hd with q | q
      · exact h1 d q s hs
      · rw [List.mem_singleton] at q
        subst q
        rfl
    · cases h
theorem regroup_ment {m : Nm} : ∀ (ts : List TypeId) (ds : List Dv), (∀ d ∈ ds, mentD m d = false) → ∀ d ∈ regroup P ts ds, mentD m d = false
  | [], ds, h, d, hd => by simp [regroup] at hd
  | t :: ts, ds, h, d, hd => by
    unfold regroup at hd
    split at hd
    · rcases List.mem_cons.1 hd with q | q
      · subst q
        simp only [mentD]
        exact mentDs_iff.2 fun x hx => h x (List.mem_of_mem_take hx)
      · exact regroup_ment ts _ (fun x hx => h x (List.mem_of_mem_drop hx)) d q
    · rcases List.mem_cons.1 hd with q | q
      · subst q
        cases ds with
        | nil => rfl
        | cons x xs => exact h x (List.mem_cons_self ..)
      · exact regroup_ment ts _ (fun x hx => h x (List.mem_of_mem_drop hx)) d q
theorem retV_ment' {m : Nm} {ds : List Dv} (h : ∀ d ∈ ds, mentD m d = false) : mentD m (retV ds) = false := by
  match ds, h with
  | [], _ => rfl
  | [d], h => exact h d (List.mem_cons_self ..)
  | d :: e :: ds, h =>
    simp only [retV, mentD]
    exact mentDs_iff.2 h
def ownG (P : Program) (rts : List TypeId) (call : CallF) (f : FuncId) (b : Nat) (as : List Pd) : Option (List Dv × List Ob) :=
  if (rts.flatMap (cellTs P 8)).length ≠ (rowsOfTs P rts).length then none else
    (call f (as.map .p) []).bind fun r => (asOwn P rts r).bind fun q => nameOwn P b q.1 q.2 (fun ds os => some (ds, os)) 0 0 ((rts.flatMap (cellTs P 8)).zip (rowsOfTs P rts)) [] []
theorem ownG_ment {rts : List TypeId} {call : CallF} {f : FuncId} {b : Nat} {as : List Pd} {ds : List Dv} {os : List Ob} (h : ownG P rts call f b as = some (ds, os)) : (∀ d ∈ ds, ∀ s, b + os.length ≤ s → mentD (.loc s) d = false) ∧ (∀ o ∈ os, ∀ m, mentOb m o = false) := by
  unfold ownG at h
  split at h
  · cases h
  · obtain ⟨r, _, h⟩ := Option.bind_eq_some_iff.1 h
    obtain ⟨q, _, h⟩ := Option.bind_eq_some_iff.1 h
    exact nameOwn_ment _ _ _ _ _ _ _ (fun d hd => absurd hd List.not_mem_nil) rfl (fun o ho => absurd ho List.not_mem_nil) h
theorem scrubAll_fresh {n : Nat} : ∀ (k b : Nat) (d : Dv), (∀ s, b ≤ s → mentD (.loc s) d = false) → scrubAll (namesFrom b k) d = d
  | 0, b, d, h => rfl
  | k + 1, b, d, h => by
    show scrubAll (namesFrom (b + 1) k) (scrub (.loc b) d) = d
    rw [scrub_id _ _ (h b (Nat.le_refl _))]
    exact scrubAll_fresh (n := n) k (b + 1) d fun s hs => h s (by omega)
theorem scrubObAll_fresh : ∀ (k b : Nat) (o : Ob), (∀ s, b ≤ s → mentOb (.loc s) o = false) → scrubObAll (namesFrom b k) o = o
  | 0, b, o, h => rfl
  | k + 1, b, o, h => by
    show scrubObAll (namesFrom (b + 1) k) (scrubOb (.loc b) o) = o
    rw [scrubOb_id (h b (Nat.le_refl _))]
    exact scrubObAll_fresh k (b + 1) o fun s hs => h s (by omega)
theorem fresh_app (hf : Fresh st) (k : Nat) (os : List Ob) : (⟨st.T.map (scrubAll (namesFrom st.L.length k)), st.L.map (scrubObAll (namesFrom st.L.length k)) ++ os, st.O.map (scrubObAll (namesFrom st.L.length k))⟩ : St) = ⟨st.T, st.L ++ os, st.O⟩ := by
  have hT : st.T.map (scrubAll (namesFrom st.L.length k)) = st.T := by
    refine Tm.ext_ rfl fun j => ?_
    have := Tm.getD_map (scrubAll_ud (namesFrom st.L.length k)) st.T j
    show (st.T.map _).getD j ud = st.T.getD j ud
    rw [this]
    exact scrubAll_fresh (n := 0) k _ _ fun s hs => (hf s hs).T j
  have hl : ∀ l : List Ob, (∀ o ∈ l, ∀ s, st.L.length ≤ s → mentOb (.loc s) o = false) → l.map (scrubObAll (namesFrom st.L.length k)) = l := by
    intro l h
    conv => rhs; rw [← List.map_id l]
    exact List.map_congr_left fun o ho => scrubObAll_fresh k _ o (h o ho)
  rw [hT, hl st.L (fun o ho s hs => (hf s hs).L o ho), hl st.O (fun o ho s hs => (hf s hs).O o ho)]
theorem own_inv (h : ownO o = true) : ∃ c f, o.op = .call c ∧ c.callee = .value (.func f) ∧ (Cfg.own f = true ∨ Cfg.mak f = true) ∧ Cfg.wr f = false := by
  unfold ownO at h
  split at h
  · rename_i c ho
    refine ⟨c, ?_⟩
    split at h
    · rename_i f hc
      simp only [Bool.and_eq_true, Bool.not_eq_true', Bool.or_eq_true] at h
      exact ⟨f, ho, hc, h.1, h.2⟩
    · cases h
  · cases h
def ownV (P : Program) (call : CallF) (o : Oper) (st : St) : Option (Dv × List Ob) := match o.op with
  | .call c => match c.callee with
    | .value (.func f) => match P.funcs[f]? with
      | some fn => if fn.body.isSome ∧ fn.name ≠ "runtime.NumGoroutine" then (if Cfg.mak f = true then (pureArgs (opds P st c.args.toList c.argTypes.toList)).bind fun as => (call f (as.map .p) []).bind fun r => mkTake P fn.resultTypes.toList r fun ob d => some (d (.loc st.L.length), [ob])
        else (peekAll st.L st.O (opds P st c.args.toList c.argTypes.toList)).bind fun as => (ownG P fn.resultTypes.toList call f st.L.length as).map fun q => (retV (regroup P fn.resultTypes.toList q.1), q.2)) else none
      | none => none
    | _ => none
  | _ => none
theorem fresh_app1 (hf : Fresh st) (os : List Ob) : (⟨st.T.map (scrub (.loc st.L.length)), st.L.map (scrubOb (.loc st.L.length)) ++ os, st.O.map (scrubOb (.loc st.L.length))⟩ : St) = ⟨st.T, st.L ++ os, st.O⟩ := fresh_app hf 1 os
theorem step_own {call : CallF} (h : ownO o = true) (hf : Fresh st) : stepOp call P o st pr = (ownV P call o st).map fun q => (q.1, (⟨st.T, st.L ++ q.2, st.O⟩ : St)) := by
  obtain ⟨c, f, ho, hc, hown, hwr⟩ := own_inv h
  unfold stepOp ownV
  simp only [ho, hc]
  have hcal : callee P st (.func f) = some (f, []) := rfl
  rw [hcal]
  dsimp only
  cases hfn : P.funcs[f]? with
  | none => rfl
  | some fn =>
    dsimp only
    split
    · rw [List.append_nil]
      unfold callD
      rw [if_neg (by simp [hwr])]
      by_cases hm : Cfg.mak f = true
      · rw [if_pos hm, if_pos hm]
        unfold callM
        cases hp : pureArgs (opds P st c.args.toList c.argTypes.toList) with
        | none => rfl
        | some as =>
          dsimp only
          rw [Option.bind_some]
          cases hcl : call f (as.map .p) [] with
          | none => rfl
          | some r =>
            rw [Option.bind_some, Option.bind_some, mkTake_bind]
            conv => rhs; rw [mkTake_bind]
            cases hn : mkTake P fn.resultTypes.toList r (fun ob d => some (ob, d)) with
            | none => rfl
            | some p =>
              rw [Option.bind_some, Option.bind_some, fresh_app1 hf]
              rfl
      · have hown := hown.resolve_right hm
        rw [if_neg hm, if_neg hm, hown, Bool.or_true, if_pos rfl]
        cases hp : peekAll st.L st.O (opds P st c.args.toList c.argTypes.toList) with
        | none => simp
        | some as =>
          dsimp only
          rw [Option.bind_some]
          unfold callB ownG
          rw [if_pos hown]
          split
          · rfl
          · cases hcl : call f (as.map .p) [] with
            | none => rfl
            | some r =>
              rw [Option.bind_some, Option.bind_some]
              cases ha : asOwn P fn.resultTypes.toList r with
              | none => rfl
              | some q =>
                rw [Option.bind_some, Option.bind_some, nameOwn_bind]
                cases hn : nameOwn P st.L.length q.1 q.2 (fun ds os => some (ds, os)) 0 0 ((fn.resultTypes.toList.flatMap (cellTs P 8)).zip (rowsOfTs P fn.resultTypes.toList)) [] [] with
                | none => rfl
                | some p =>
                  obtain ⟨ds, os⟩ := p
                  rw [Option.bind_some]
                  dsimp only
                  rw [fresh_app hf]
                  rfl
    · rfl
def ownW (call : CallF) (P : Program) (ops : Array Oper) (o : Oper) (st : St) : Option (Dv × List Ob) := match o.guard with
  | none => ownV P call o st
  | some (j, want) => match gslot ops j with
    | none => none
    | some g => match st.T.getD g ud with
      | .p (.bool b) => if b = want then ownV P call o st else some (nix, [])
      | .tup [] => some (nix, [])
      | _ => none
theorem opS_own {call : CallF} {ops : Array Oper} (h : ownO o = true) (hf : Fresh st) : opS false call P ops o st = (ownW call P ops o st).map fun q => (⟨st.T, st.L ++ q.2, st.O⟩ : St).put o.dst q.1 := by
  have step : ((stepQ false call P o st pr).map fun q => q.2.put o.dst q.1) = (ownV P call o st).map fun q => (⟨st.T, st.L ++ q.2, st.O⟩ : St).put o.dst q.1 := by
    unfold stepQ
    rw [if_neg (by simp), step_own h hf, Option.map_map]
    rfl
  have hnix : (⟨st.T, st.L ++ [], st.O⟩ : St) = st := by rw [List.append_nil]
  unfold opS ownW
  cases hg : o.guard with
  | none => exact step
  | some jw =>
    obtain ⟨j, want⟩ := jw
    dsimp only
    cases hs : gslot ops j with
    | none => rfl
    | some g =>
      dsimp only
      generalize st.T.getD g ud = x
      cases x with
      | p y =>
        cases y with
        | bool b =>
          dsimp only
          split
          · exact step
          · rw [Option.map_some, hnix]
        | _ => rfl
      | tup ds =>
        cases ds with
        | nil => dsimp only; rw [Option.map_some, hnix]
        | cons _ _ => rfl
      | _ => rfl
theorem mkTake_ment {rts : List TypeId} {r : Res} {b : Nat} {v : Dv} {os : List Ob} (h : mkTake P rts r (fun ob d => some (d (.loc b), [ob])) = some (v, os)) : (∀ s, b + os.length ≤ s → mentD (.loc s) v = false) ∧ (∀ o ∈ os, ∀ m, mentOb m o = false) := by
  rw [mkTake_bind] at h
  obtain ⟨⟨ob, d⟩, h1, h⟩ := Option.bind_eq_some_iff.1 h
  injection h with h; injection h with e1 e2; subst e1 e2
  have hne : ∀ s, b + 1 ≤ s → Nm.loc b ≠ Nm.loc s := fun s hs e => by injection e with e; omega
  rcases mkTake_inv h1 with ⟨es, _, q1, q2⟩ | ⟨n, cs, _, q1, q2⟩
  · simp only at q1 q2
    subst q1 q2
    refine ⟨fun s hs => ?_, fun o ho m => ?_⟩
    · simp only [mentD, decide_eq_false_iff_not]; exact hne s hs
    · rw [List.mem_singleton] at ho; subst ho; rfl
  · simp only at q1 q2
    subst q1 q2
    refine ⟨fun s hs => ?_, fun o ho m => ?_⟩
    · simp only [mentD, decide_eq_false_iff_not]; exact hne s hs
    · rw [List.mem_singleton] at ho; subst ho; rfl
theorem ownV_ment {call : CallF} {v : Dv} {os : List Ob} (h : ownV P call o st = some (v, os)) : (∀ s, st.L.length + os.length ≤ s → mentD (.loc s) v = false) ∧ (∀ o ∈ os, ∀ m, mentOb m o = false) := by
  unfold ownV at h
  split at h
  · split at h
    · split at h
      · split at h
        · split at h
          · obtain ⟨as, _, h⟩ := Option.bind_eq_some_iff.1 h
            obtain ⟨r, _, h⟩ := Option.bind_eq_some_iff.1 h
            exact mkTake_ment h
          · obtain ⟨as, _, h⟩ := Option.bind_eq_some_iff.1 h
            obtain ⟨q, hq, h⟩ := Option.map_eq_some_iff.1 h
            injection h with e1 e2; subst e1 e2
            have := ownG_ment hq
            exact ⟨fun s hs => retV_ment' (regroup_ment _ _ fun d hd => this.1 d hd s hs), this.2⟩
        · cases h
      · cases h
    · cases h
  · cases h
theorem ownW_ment {call : CallF} {ops : Array Oper} {v : Dv} {os : List Ob} (h : ownW call P ops o st = some (v, os)) : (∀ s, st.L.length + os.length ≤ s → mentD (.loc s) v = false) ∧ (∀ o ∈ os, ∀ m, mentOb m o = false) := by
  have hn : some (nix, ([] : List Ob)) = some (v, os) → (∀ s, st.L.length + os.length ≤ s → mentD (.loc s) v = false) ∧ (∀ o ∈ os, ∀ m, mentOb m o = false) := fun h => by
    injection h with h; injection h with e1 e2; subst e1 e2
    exact ⟨fun s _ => rfl, fun o ho => absurd ho List.not_mem_nil⟩
  unfold ownW at h
  split at h
  · exact ownV_ment h
  · split at h
    · cases h
    · split at h
      · split at h
        · exact ownV_ment h
        · exact hn h
      · exact hn h
      · cases h
theorem ownV_put {call : CallF} {ops : Array Oper} {dst : Option Tmp} {v : Dv} (h : ∀ d, dst = some d → d ∉ o.looksAt ops) : ownV P call o (st.put dst v) = ownV P call o st := by
  have hops : ∀ x ∈ o.op.operands.toList, ∀ t, opd P (st.put dst v) t x = opd P st t x := by
    intro x hx t
    cases x with
    | tmp y =>
      exact put_ne (st := st) fun e he => fun q => h e he (by
        subst q
        exact List.mem_append_left _ (List.mem_filterMap.2 ⟨.tmp e, hx, rfl⟩))
    | _ => rfl
  have e1 := put_LO st dst v
  unfold ownV
  split
  · rename_i c ho
    split
    · rename_i f hc
      split
      · split
        · rw [e1.1, e1.2]
          have hsame : opds P (st.put dst v) c.args.toList c.argTypes.toList = opds P st c.args.toList c.argTypes.toList := by
            have hst : (st.put dst v) = ⟨(st.put dst v).T, st.L, st.O⟩ := by rw [← e1.1, ← e1.2]
            rw [hst]
            refine opds_same (T := st.T) _ _ fun x hx t => ?_
            have := hops x (by
              rw [ho]
              simp only [Op.operands]
              unfold Call.operands
              rw [hc]
              simp
              exact .inr (by simpa using hx)) t
            rw [hst] at this
            exact this
          rw [hsame]
        · rfl
      · rfl
    · rfl
  · rfl
theorem ownW_put {call : CallF} {ops : Array Oper} {dst : Option Tmp} {v : Dv} (h : ∀ d, dst = some d → d ∉ o.looksAt ops) : ownW call P ops o (st.put dst v) = ownW call P ops o st := by
  unfold ownW
  rw [ownV_put h]
  split
  · rfl
  · rename_i j want hg
    split
    · rfl
    · rename_i g hs
      have e : (st.put dst v).T.getD g ud = st.T.getD g ud := put_ne fun t ht => fun q => h t ht (by
        subst q
        have hs' : (ops[j]?).bind (·.dst) = some t := hs
        exact List.mem_append_right _ (by rw [hg]; simp [hs']))
      rw [e]
theorem fresh_put {dst : Option Tmp} (hf : Fresh st) (hd : ∀ s, st.L.length ≤ s → mentD (.loc s) d = false) : Fresh (st.put dst d) := by
  intro s hs
  rw [(put_LO st dst d).1] at hs
  exact clean_put (hf s hs) (hd s hs)
theorem fresh_see {call : CallF} {ops : Array Oper} (h : seeO o = true) (hf : Fresh st) (hd : optV call P ops o st = some d) : ∀ s, st.L.length ≤ s → mentD (.loc s) d = false :=
  fun s hs => optV_ment (see_inv (P := P) h).1 (hf s hs) hd
theorem fresh_os (hf : Fresh st) {os : List Ob} (hos : ∀ o ∈ os, ∀ m, mentOb m o = false) : Fresh ⟨st.T, st.L ++ os, st.O⟩ := by
  intro s hs
  have hs' : st.L.length ≤ s := by
    have : (st.L ++ os).length ≤ s := hs
    rw [List.length_append] at this; omega
  have := hf s hs'
  refine ⟨this.T, fun o ho => ?_, this.O⟩
  rcases List.mem_append.1 ho with q | q
  · exact this.L o q
  · exact hos o q _
theorem swap_see_own {call : CallF} {ops : Array Oper} {x y : Oper} (hx : seeO x = true) (hy : ownO y = true) (hap : x.apart ops y = true) (hf : Fresh st) {st1 st2 : St} (h1 : opS false call P ops x st = some st1) (h2 : opS false call P ops y st1 = some st2) :
    ∃ st1', opS false call P ops y st = some st1' ∧ opS false call P ops x st1' = some st2 := by
  obtain ⟨a1, a2, a3⟩ := Oper.apart_spec hap
  rw [opS_see hx] at h1
  obtain ⟨d1, e1, rfl⟩ := Option.map_eq_some_iff.1 h1
  have hm := fresh_see hx hf e1
  rw [opS_own hy (fresh_put hf hm), ownW_put a1] at h2
  obtain ⟨⟨v, os⟩, e2, rfl⟩ := Option.map_eq_some_iff.1 h2
  refine ⟨_, by rw [opS_own hy hf, e2]; rfl, ?_⟩
  obtain ⟨T, L, O⟩ := st
  have e3 : optV call P ops x ⟨T, L ++ os, O⟩ = some d1 := by
    rw [optV_app hx hf]; exact e1
  rw [opS_see hx, optV_put (lookB_look (see_inv (P := P) hx).1) a3 e3]
  simp only [Option.map_some]
  have e4 : ((⟨T, L, O⟩ : St).put x.dst d1).T = ((⟨T, L ++ os, O⟩ : St).put x.dst d1).T := by cases x.dst <;> rfl
  have e5 := put_LO (⟨T, L, O⟩ : St) x.dst d1
  have e6 := put_LO (⟨T, L ++ os, O⟩ : St) x.dst d1
  have e7 : (⟨((⟨T, L, O⟩ : St).put x.dst d1).T, ((⟨T, L, O⟩ : St).put x.dst d1).L ++ os, ((⟨T, L, O⟩ : St).put x.dst d1).O⟩ : St) = (⟨T, L ++ os, O⟩ : St).put x.dst d1 := by
    cases x.dst <;> rfl
  rw [e7, put_comm v d1 (fun d hd => fun e => a2 d e hd)]
theorem swap_own_see {call : CallF} {ops : Array Oper} {x y : Oper} (hx : ownO x = true) (hy : seeO y = true) (hap : x.apart ops y = true) (hf : Fresh st) {st1 st2 : St} (h1 : opS false call P ops x st = some st1) (h2 : opS false call P ops y st1 = some st2) :
    ∃ st1', opS false call P ops y st = some st1' ∧ opS false call P ops x st1' = some st2 := by
  obtain ⟨a1, a2, a3⟩ := Oper.apart_spec hap
  rw [opS_own hx hf] at h1
  obtain ⟨⟨v, os⟩, e1, rfl⟩ := Option.map_eq_some_iff.1 h1
  rw [opS_see hy] at h2
  obtain ⟨d2, e2, rfl⟩ := Option.map_eq_some_iff.1 h2
  obtain ⟨T, L, O⟩ := st
  have e3 : optV call P ops y ⟨T, L ++ os, O⟩ = some d2 := by
    have hback : ((⟨T, L ++ os, O⟩ : St).put x.dst v).put x.dst (match x.dst with | some t => T.getD t ud | none => ud) = ⟨T, L ++ os, O⟩ := by
      cases hd : x.dst with
      | none => rfl
      | some t =>
        show (⟨(T.set t v).set t (T.getD t ud), L ++ os, O⟩ : St) = _
        rw [Tm.set_back]
    have := optV_put (P := P) (call := call) (ops := ops) (v := match x.dst with | some t => T.getD t ud | none => ud) (lookB_look (see_inv (P := P) hy).1) a1 e2
    rwa [hback] at this
  have e4 : optV call P ops y ⟨T, L, O⟩ = some d2 := by
    rw [optV_app hy hf] at e3; exact e3
  have hm := fresh_see hy hf e4
  refine ⟨_, by rw [opS_see hy, e4]; rfl, ?_⟩
  rw [opS_own hx (fresh_put hf hm), ownW_put a3, e1]
  simp only [Option.map_some]
  have e7 : (⟨((⟨T, L, O⟩ : St).put y.dst d2).T, ((⟨T, L, O⟩ : St).put y.dst d2).L ++ os, ((⟨T, L, O⟩ : St).put y.dst d2).O⟩ : St) = (⟨T, L ++ os, O⟩ : St).put y.dst d2 := by
    cases y.dst <;> rfl
  rw [e7, put_comm v d2 a2]
theorem pick_inv (h : pickO o = true) : lookOp o.op = true ∧ (∀ st : St, quietOK P o st = true) ∧ ∃ c x y, o.op = .pick c x y := by
  unfold pickO at h
  split at h
  · rename_i c x y ho
    exact ⟨by rw [ho]; rfl, fun st => by unfold quietOK; rw [ho], c, x, y, ho⟩
  · cases h
theorem opS_pick {call : CallF} {ops : Array Oper} (h : pickO o = true) : opS false call P ops o st = (optV call P ops o st).map fun d => st.put o.dst d := by
  obtain ⟨hl, hq, _⟩ := pick_inv (P := P) h
  rw [← opS_look hl]
  have e : stepQ false call P o st pr = stepQ true call P o st pr := by
    unfold stepQ
    rw [if_neg (by simp), if_pos rfl, if_pos (hq st)]
  unfold opS
  rw [e]
theorem pick_ment {call : CallF} {m : Nm} (h : pickO o = true) (hc : Clean m st) (hd : stepOp call P o st (fun d _ => some d) = some d) : mentD m d = false := by
  obtain ⟨_, _, c, x, y, ho⟩ := pick_inv (P := P) h
  have hop : ∀ t x, mentD m (opd P st t x) = false := fun t x => opd_ment hc t x
  unfold stepOp at hd
  simp only [ho] at hd
  split at hd
  · unfold pickD at hd
    split at hd
    · injection hd with hd; rw [← hd]; rfl
    · rename_i b _ _ _ _
      cases b with
      | true => simp only [cond_true] at hd; injection hd with hd; rw [← hd]; exact hop _ _
      | false => simp only [cond_false] at hd; injection hd with hd; rw [← hd]; exact hop _ _
  · cases hd
theorem fresh_pick {call : CallF} {ops : Array Oper} (h : pickO o = true) (hf : Fresh st) (hd : optV call P ops o st = some d) : ∀ s, st.L.length ≤ s → mentD (.loc s) d = false := by
  intro s hs
  have step : (if quietOK P o st = true then stepOp call P o st (fun d _ => some d) else none) = some d → mentD (.loc s) d = false := by
    intro hx
    rw [if_pos ((pick_inv (P := P) h).2.1 st)] at hx
    exact pick_ment h (hf s hs) hx
  unfold optV at hd
  split at hd
  · exact step hd
  · split at hd
    · cases hd
    · split at hd
      · split at hd
        · exact step hd
        · injection hd with hd; rw [← hd]; rfl
      · injection hd with hd; rw [← hd]; rfl
      · cases hd
theorem step_fresh {call : CallF} {ops : Array Oper} (h : (seeO o || (ownO o || pickO o)) = true) (hf : Fresh st) {st1 : St} (h1 : opS false call P ops o st = some st1) : Fresh st1 := by
  rw [Bool.or_eq_true, Bool.or_eq_true] at h
  rcases h with h | h | h
  · rw [opS_see h] at h1
    obtain ⟨d1, e1, rfl⟩ := Option.map_eq_some_iff.1 h1
    exact fresh_put hf (fresh_see h hf e1)
  · rw [opS_own h hf] at h1
    obtain ⟨⟨v, os⟩, e1, rfl⟩ := Option.map_eq_some_iff.1 h1
    have hm := ownW_ment e1
    refine fresh_put (fresh_os hf hm.2) fun s hs => hm.1 s ?_
    have : (st.L ++ os).length ≤ s := hs
    rwa [List.length_append] at this
  · rw [opS_pick h] at h1
    obtain ⟨d1, e1, rfl⟩ := Option.map_eq_some_iff.1 h1
    exact fresh_put hf (fresh_pick h hf e1)
theorem drO_ok (hm : P.follows .mixedOrders = true) : DrO P := by
  intro call ops st hdr st' hev t
  unfold drO at hdr
  simp only [Bool.and_eq_true, List.any_eq_true, decide_eq_true_eq] at hdr
  obtain ⟨_, ⟨hb, m, _, hse, hmle, hst⟩, hpairs, hun⟩ := hdr
  have hn : ∀ j, ops.size - m ≤ j → j < ops.size → ∀ k, k < j → k ∈ (preAll ops ops.size).getD j [] := by
    intro j hj hjs k hk
    unfold sealed at hse
    have e : ops.size - 1 - (ops.size - 1 - j) = j := by omega
    have := List.all_eq_true.1 (List.all_eq_true.1 hse (ops.size - 1 - j) (List.mem_range.2 (by omega))) k (List.mem_range.2 (by omega))
    rw [e] at this
    simpa using this
  generalize hN : ops.size - m = n at hst hn
  have kind : ∀ k o, k < n → ops[k]? = some o → (seeO o || (ownO o || pickO o)) = true := by
    intro k o hk ho
    refine List.all_eq_true.1 hst o ?_
    have : (ops.toList.take n)[k]? = some o := by rw [List.getElem?_take, if_pos hk]; simpa using ho
    exact List.mem_of_getElem? this
  refine order_ok (qt := false) (J := fun R st => (∃ k, R k ∧ k < n) → Fresh st) (Good := fun j => j < n ∨ ops.size ≤ j) hm hb (fun R R' st h1 h2 hJ hk => ?_) n (fun j hj => .inl hj) hn (fun st R h hk => ?_) (fun j R s s1 hg hRj hD hJ h hk => ?_) (fun i j x y R s s1 s2 hij hx hy hn' ri rj di dj hJ q1 q2 => ?_) (fun _ => fresh_of hun) hev t
  · obtain ⟨k, q1, q2⟩ := hk
    exact hJ ⟨k, h1 k q1, q2⟩
  · obtain ⟨k, q1, q2⟩ := hk
    exact absurd q2 (Nat.not_lt.2 (h k q1))
  · obtain ⟨k, q1, q2⟩ := hk
    have hf := hJ ⟨k, q1.1, q2⟩
    unfold op1 at h
    cases ho : ops[j]? with
    | none => rw [ho] at h; injection h with h; subst h; exact hf
    | some o =>
      rw [ho] at h
      have hjs := (Array.getElem?_eq_some_iff.1 ho).1
      exact step_fresh (kind j o (by rcases hg with q | q <;> omega) ho) hf h
  · have hjs := (Array.getElem?_eq_some_iff.1 hy).1
    have hjn : j < n := by
      rcases Nat.lt_or_ge j n with q | q
      · exact q
      · exact absurd (hn j q hjs i hij) hn'
    obtain ⟨p1, p2⟩ := pairs_get hpairs hij hx hy hn'
    have hf := hJ ⟨j, rj, hjn⟩
    unfold okOwn at p1
    simp only [Bool.or_eq_true, Bool.and_eq_true] at p1
    unfold op1 at q1 q2 ⊢
    rw [hx] at q1 ⊢
    rw [hy] at q2 ⊢
    rcases p1 with ⟨c1, c2⟩ | ⟨c1, c2⟩ | ⟨c1, c2⟩
    · have l1 := lookB_look (see_inv (P := P) c1).1
      have l2 := lookB_look (see_inv (P := P) c2).1
      have g1 : ∀ s, opS false call P ops x s = opS true call P ops x s := fun s => by rw [opS_see c1, opS_see c1]
      have g2 : ∀ s, opS false call P ops y s = opS true call P ops y s := fun s => by rw [opS_see c2, opS_see c2]
      dsimp only at q1 q2 ⊢
      rw [g1] at q1
      rw [g2] at q2
      obtain ⟨s1', z1, z2⟩ := look_swap l1 l2 p2 q1 q2
      exact ⟨s1', by rw [g2]; exact z1, by rw [g1]; exact z2⟩
    · exact swap_see_own c1 c2 p2 hf q1 q2
    · exact swap_own_see c1 c2 p2 hf q1 q2
theorem dr2_ok (hm : P.follows .mixedOrders = true) : DrOK P dr2 := ⟨dr2_ok1 hm, drO_ok hm⟩
end Go.Proofs.YtbadompnhhhfpaaGreatDoor.Dm
