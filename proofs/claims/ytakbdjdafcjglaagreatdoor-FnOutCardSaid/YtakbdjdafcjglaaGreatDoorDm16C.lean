/- The machine over plain data: what calls, and what makes an object, read and write where an order is drawn. -/
import Derived.Test.YtakbdjdafcjglaaGreatDoorDm16B
namespace Go.Proofs.YtakbdjdafcjglaaGreatDoor.Dm
set_option linter.unusedSectionVars false
open Go.RowKit
set_option linter.unusedVariables false
set_option linter.unusedSimpArgs false
variable [Cfg] {P : Program} {st st' st1 : St} {o : Oper} {d : Dv}

/-! ### calls that write boxes -/
def isBoxO (ob : Ob) : Prop := ∃ n cs, ob = .box n cs
def plainA : List Dv → List Dv
  | [] => []
  | .nilsl s :: ds => .p (.sl s []) :: plainA ds
  | d :: ds => d :: plainA ds
theorem boxNs_prep (L O : List Ob) : ∀ (ds : List Dv) (ns : List Nm), boxNs L O ds = some ns → prep L O ds = some (plainA ds, L, O) ∧ refsDs (plainA ds) = ns ∧ ∀ n ∈ ns, isBoxO (getOb L O n)
  | [], ns, h => by
    simp only [boxNs] at h
    injection h with h; subst h
    exact ⟨rfl, rfl, fun n hn => by cases hn⟩
  | .p x :: ds, ns, h => by
    simp only [boxNs] at h
    obtain ⟨q1, q2, q3⟩ := boxNs_prep L O ds ns h
    exact ⟨by simp only [prep, view, view1, q1, plainA], by simp only [plainA, refsDs, refsD, q2, List.nil_append], q3⟩
  | .nilsl s :: ds, ns, h => by
    simp only [boxNs] at h
    obtain ⟨q1, q2, q3⟩ := boxNs_prep L O ds ns h
    exact ⟨by simp only [prep, view, view1, q1, plainA], by simp only [plainA, refsDs, refsD, q2, List.nil_append], q3⟩
  | .ptr m off :: ds, ns, h => by
    simp only [boxNs] at h
    split at h
    · rename_i c cs hm
      split at h
      · rename_i ns' hns
        injection h with h; subst h
        obtain ⟨q1, q2, q3⟩ := boxNs_prep L O ds ns' hns
        refine ⟨by simp only [prep, q1, plainA], by simp only [plainA, refsDs, refsD, q2, List.singleton_append], fun n hn => ?_⟩
        rcases List.mem_cons.1 hn with rfl | hn
        · exact ⟨c, cs, hm⟩
        · exact q3 n hn
      · cases h
    · cases h
  | .arr _ :: _, _, h => by cases h
  | .el .. :: _, _, h => by cases h
  | .ro .. :: _, _, h => by cases h
  | .agg .. :: _, _, h => by cases h
  | .fn .. :: _, _, h => by cases h
  | .tup _ :: _, _, h => by cases h
  | .mp _ :: _, _, h => by cases h
  | .sub .. :: _, _, h => by cases h
theorem boxNs_peek (L O : List Ob) : ∀ (ds : List Dv) (ns : List Nm), boxNs L O ds = some ns → ns ≠ [] → peekAll L O ds = none ∧ peekish ds = false ∧ pureish ds = false
  | [], ns, h, hn => by
    simp only [boxNs] at h
    injection h with h
    exact absurd h.symm hn
  | .p x :: ds, ns, h, hn => by
    simp only [boxNs] at h
    obtain ⟨q1, q2, q3⟩ := boxNs_peek L O ds ns h hn
    exact ⟨by simp only [peekAll, peek, peek1, q1], by simp only [peekish, peekish1, q2, Bool.and_false], by simpa only [pureish] using q3⟩
  | .nilsl s :: ds, ns, h, hn => by
    simp only [boxNs] at h
    obtain ⟨q1, q2, q3⟩ := boxNs_peek L O ds ns h hn
    exact ⟨by simp only [peekAll, peek, peek1, q1], by simp only [peekish, peekish1, q2, Bool.and_false], by simpa only [pureish] using q3⟩
  | .ptr m off :: ds, ns, h, hn => ⟨rfl, rfl, rfl⟩
  | .arr _ :: _, _, h, _ => by cases h
  | .el .. :: _, _, h, _ => by cases h
  | .ro .. :: _, _, h, _ => by cases h
  | .agg .. :: _, _, h, _ => by cases h
  | .fn .. :: _, _, h, _ => by cases h
  | .tup _ :: _, _, h, _ => by cases h
  | .mp _ :: _, _, h, _ => by cases h
  | .sub .. :: _, _, h, _ => by cases h
theorem boxNs_ag {L O L' O' : List Ob} : ∀ (ds : List Dv) (ns : List Nm), boxNs L O ds = some ns → (∀ n ∈ ns, getOb L' O' n = getOb L O n) → boxNs L' O' ds = some ns
  | [], ns, h, _ => h
  | .p x :: ds, ns, h, hg => by simp only [boxNs] at h ⊢; exact boxNs_ag ds ns h hg
  | .nilsl s :: ds, ns, h, hg => by simp only [boxNs] at h ⊢; exact boxNs_ag ds ns h hg
  | .ptr m off :: ds, ns, h, hg => by
    simp only [boxNs] at h ⊢
    split at h
    · rename_i c cs hm
      split at h
      · rename_i ns' hns
        injection h with h; subst h
        rw [hg m (List.mem_cons_self ..), hm]
        dsimp only
        rw [boxNs_ag ds ns' hns fun n hn => hg n (List.mem_cons_of_mem _ hn)]
      · cases h
    · cases h
  | .arr _ :: _, _, h, _ => by cases h
  | .el .. :: _, _, h, _ => by cases h
  | .ro .. :: _, _, h, _ => by cases h
  | .agg .. :: _, _, h, _ => by cases h
  | .fn .. :: _, _, h, _ => by cases h
  | .tup _ :: _, _, h, _ => by cases h
  | .mp _ :: _, _, h, _ => by cases h
  | .sub .. :: _, _, h, _ => by cases h
theorem addN_new : ∀ (ms acc : List Nm), (acc ++ ms).Nodup → addN acc ms = acc ++ ms
  | [], acc, _ => by simp [addN]
  | m :: ms, acc, h => by
    have hm : m ∉ acc := fun q => (List.nodup_append.1 h).2.2 m q m (List.mem_cons_self ..) rfl
    simp only [addN, if_neg hm]
    rw [addN_new ms (acc ++ [m]) (by simpa using h)]
    simp
theorem closeN_box {L O : List Ob} {ns : List Nm} (h : ∀ n ∈ ns, isBoxO (getOb L O n)) : ∀ k, closeN L O k ns = ns
  | 0 => rfl
  | k + 1 => by
    have : (ns.flatMap fun m => refsOb (getOb L O m)) = [] := by
      rw [List.flatMap_eq_nil_iff]
      intro m hm
      obtain ⟨n, cs, e⟩ := h m hm
      rw [e]; rfl
    simp only [closeN, this, addN]
    exact closeN_box h k
theorem renObs_box (g : Nm → Option Nm) : ∀ (os : List Ob), (∀ o ∈ os, isBoxO o) → renObs g os = some os
  | [], _ => rfl
  | o :: os, h => by
    obtain ⟨n, cs, e⟩ := h o (List.mem_cons_self ..)
    subst e
    simp only [renObs, renOb, renObs_box g os fun o ho => h o (List.mem_cons_of_mem _ ho)]
theorem castObs_box {r : List Ob} : ∀ (l : List Ob) (i : Nat) (acc os : List Ob), (∀ o ∈ l, isBoxO o) → castObs r some i l acc = some os → ∃ zs : List Ob, os = acc ++ zs ∧ zs.length = l.length ∧ ∀ z ∈ zs, isBoxO z
  | [], i, acc, os, _, h => by
    simp only [castObs] at h
    split at h
    · injection h with h; subst h
      exact ⟨[], by simp, rfl, fun z hz => by cases hz⟩
    · cases h
  | o :: l, i, acc, os, hl, h => by
    obtain ⟨n, cs, e⟩ := hl o (List.mem_cons_self ..)
    subst e
    simp only [castObs] at h
    obtain ⟨cs', h1, h2⟩ := Option.bind_eq_some_iff.1 h
    obtain ⟨zs, q1, q2, q3⟩ := castObs_box l (i + 1) _ os (fun o ho => hl o (List.mem_cons_of_mem _ ho)) h2
    refine ⟨.box n (fillF cs cs') :: zs, by rw [q1]; simp, by simp [q2], fun z hz => ?_⟩
    rcases List.mem_cons.1 hz with rfl | hz
    · exact ⟨_, _, rfl⟩
    · exact q3 z hz
/-- what such a call gives -/
def callX (P : Program) (rts : List TypeId) (call : CallF) (f : FuncId) (args : List Dv) (ns : List Nm) (obs : List Ob) : Option (List Dv × List Ob) := match renDs (toOut ns) (plainA args) with
  | some as' => (call f as' obs).bind fun r => castRs P r.1 (fun ds => castObs r.2 (fun os1 => some (ds, os1)) 0 obs []) 0 rts []
  | none => none
theorem callX_inv {rts : List TypeId} {call : CallF} {f : FuncId} {args : List Dv} {ns : List Nm} {obs : List Ob} (hb : ∀ o ∈ obs, isBoxO o) {ds : List Dv} {os : List Ob} (h : callX P rts call f args ns obs = some (ds, os)) :
    (∃ ys : List Pd, ds = ys.map .p) ∧ os.length = obs.length ∧ ∀ z ∈ os, isBoxO z := by
  unfold callX at h
  split at h
  · obtain ⟨r, _, h⟩ := Option.bind_eq_some_iff.1 h
    rw [castRs_bind] at h
    obtain ⟨ds', h1, h⟩ := Option.bind_eq_some_iff.1 h
    rw [castObs_bind] at h
    obtain ⟨os', h2, h⟩ := Option.bind_eq_some_iff.1 h
    injection h with h; injection h with e1 e2; subst e1 e2
    obtain ⟨ys, q1, _⟩ := castRs_eq _ _ _ _ h1
    obtain ⟨zs, p1, p2, p3⟩ := castObs_box _ _ _ _ hb h2
    rw [List.nil_append] at q1 p1
    exact ⟨⟨ys, q1⟩, by rw [p1]; exact p2, by rw [p1]; exact p3⟩
  · cases h
theorem Tm.map_same (T : Tm) {g : Dv → Dv} (h : ∀ d, g d = d) : T.map g = T := by
  refine Tm.ext_ rfl fun j => ?_
  have := Tm.getD_map (h ud) T j
  exact this.trans (h _)
theorem callD_box {R : Type} {rts : List TypeId} {call : CallF} {f : FuncId} {args : List Dv} {n : Nm} {ns : List Nm} (hf : (!Cfg.wr f && (!Cfg.own f && !Cfg.mak f)) = true) {T : Tm} {L O : List Ob} (hb : boxNs L O args = some (n :: ns)) (hnd : nodupN (n :: ns) = true) (k : Dv → St → Option R) :
    callD P rts call ⟨T, L, O⟩ f args k = (callX P rts call f args (n :: ns) ((n :: ns).map (getOb L O))).bind fun q => k (retV q.1) ⟨T, (backAll L O (n :: ns) q.2).1, (backAll L O (n :: ns) q.2).2⟩ := by
  have hw : Cfg.wr f = false := by cases e : Cfg.wr f <;> simp [e] at hf ⊢
  have ho : Cfg.own f = false := by cases e : Cfg.own f <;> simp [e] at hf ⊢
  have hm : Cfg.mak f = false := by cases e : Cfg.mak f <;> simp [e] at hf ⊢
  obtain ⟨p1, p2, p3⟩ := boxNs_prep L O args _ hb
  obtain ⟨k1, k2, k3⟩ := boxNs_peek L O args _ hb (fun q => by cases q)
  have hclose : closeN L O 3 (addN [] (refsDs (plainA args))) = n :: ns := by
    rw [p2, addN_new _ _ (by rw [List.nil_append]; exact nodupN_get hnd), List.nil_append]
    exact closeN_box p3 3
  have hbs : ∀ ob ∈ (n :: ns).map (getOb L O), isBoxO ob := fun ob hob => by
    obtain ⟨m, hm, rfl⟩ := List.mem_map.1 hob
    exact p3 m hm
  have hfil : ((n :: ns).filter fun m => isArr (getOb L O m)) = [] := by
    rw [List.filter_eq_nil_iff]
    intro m hm
    obtain ⟨c, cs, e⟩ := p3 m hm
    rw [e]
    exact fun q => by cases q
  have hLm : ∀ l : List Ob, l.map (scrubObAll []) = l := fun l => by
    conv => rhs; rw [← List.map_id l]
    exact List.map_congr_left fun o _ => rfl
  unfold callD
  simp only [hw, ho, hm, Bool.or_false, Bool.false_or, Bool.false_eq_true, if_false, k1, k2, Bool.and_false, ite_self, p1, hclose]
  rw [renObs_box _ _ hbs]
  unfold callX
  cases hx : renDs (toOut (n :: ns)) (plainA args) with
  | none => rfl
  | some as' =>
    dsimp only
    cases hcl : call f as' ((n :: ns).map (getOb L O)) with
    | none => rfl
    | some r =>
      rw [Option.bind_some, Option.bind_some, castRs_bind]
      conv => rhs; rw [castRs_bind]
      cases h1 : castRs P r.1 some 0 rts [] with
      | none => rfl
      | some ds =>
        rw [Option.bind_some, Option.bind_some, castObs_bind]
        conv => rhs; rw [castObs_bind]
        cases h2 : castObs r.2 some 0 ((n :: ns).map (getOb L O)) [] with
        | none => rfl
        | some os1 =>
          rw [Option.bind_some, Option.bind_some, Option.bind_some]
          obtain ⟨zs, q1, _, q3⟩ := castObs_box _ _ _ _ hbs h2
          rw [List.nil_append] at q1
          subst q1
          rw [renObs_box _ _ q3]
          dsimp only
          unfold wb
          rw [hfil, Tm.map_same T (g := scrubAll []) (fun d => rfl), hLm, hLm]
theorem backAll_len : ∀ (ns : List Nm) (os L O : List Ob), (backAll L O ns os).1.length = L.length ∧ (backAll L O ns os).2.length = O.length
  | [], os, L, O => by cases os <;> exact ⟨rfl, rfl⟩
  | n :: ns, [], L, O => ⟨rfl, rfl⟩
  | n :: ns, o :: os, L, O => by
    simp only [backAll]
    have h := backAll_len ns os (setL L n o) (setO O n o)
    have q := setLO_len L O n o
    exact ⟨h.1.trans q.1, h.2.trans q.2⟩
theorem backAll_live : ∀ (ns : List Nm) (os L O : List Ob), ns.Nodup → os.length = ns.length → (∀ n ∈ ns, getOb L O n ≠ .none) → ∀ i m, ns[i]? = some m → getOb (backAll L O ns os).1 (backAll L O ns os).2 m = os.getD i .none
  | [], os, L, O, _, _, _, i, m, h => by simp at h
  | n :: ns, [], L, O, _, hl, _, i, m, h => by cases hl
  | n :: ns, o :: os, L, O, hn, hl, hlive, i, m, h => by
    obtain ⟨hn1, hn2⟩ := List.nodup_cons.1 hn
    have hl' : os.length = ns.length := by simpa using hl
    have hlive' : ∀ k ∈ ns, getOb (setL L n o) (setO O n o) k ≠ .none := fun k hk => by
      rw [getOb_ne L O (m := n) (m' := k) (fun e => hn1 (by rw [← e]; exact hk)) o]
      exact hlive k (List.mem_cons_of_mem _ hk)
    simp only [backAll]
    cases i with
    | zero =>
      simp at h
      subst h
      rw [(backAll_get ns os _ _ hn2 hl').1 n hn1, getOb_self L O (hlive n (List.mem_cons_self ..)) o]
      rfl
    | succ i =>
      rw [backAll_live ns os _ _ hn2 hl' hlive' i m (by simpa using h)]
      rfl
theorem callN_inv {ns : List Nm} (h : callN P o st = some ns) : ∃ c f n ns', o.op = .call c ∧ c.callee = .value (.func f) ∧ (!Cfg.wr f && (!Cfg.own f && !Cfg.mak f)) = true ∧ boxNs st.L st.O (opds P st c.args.toList c.argTypes.toList) = some (n :: ns') ∧ ns = n :: ns' ∧ nodupN (n :: ns') = true := by
  unfold callN at h
  split at h
  · rename_i c ho
    split at h
    · rename_i f hc
      cases hx : (!Cfg.wr f && (!Cfg.own f && !Cfg.mak f)) with
      | false => rw [hx] at h; cases h
      | true =>
        rw [hx, cond_true] at h
        split at h
        · rename_i n ns' hb
          cases hy : nodupN (n :: ns') with
          | false => rw [hy] at h; cases h
          | true =>
            rw [hy] at h
            injection h with h
            exact ⟨c, f, n, ns', ho, hc, hx, hb, h.symm, hy⟩
        · cases h
    · cases h
  · cases h
theorem callN_quiet (hq : quietOK P o st = true) : callN P o st = none := by
  cases h : callN P o st with
  | none => rfl
  | some ns =>
    obtain ⟨c, f, n, ns', ho, hc, hf, hb, _, _⟩ := callN_inv h
    obtain ⟨_, k2, k3⟩ := boxNs_peek _ _ _ _ hb (fun q => by cases q)
    unfold quietOK at hq
    have hcal : callee P st (.func f) = some (f, []) := rfl
    simp only [ho, hc, hcal, List.append_nil, k2, k3, Bool.and_false, Bool.or_self, Bool.false_eq_true] at hq
theorem loc_call {call : CallF} {f : Fp} {ns : List Nm} (hc : callN P o st = some ns) (hf : f = ([], ns)) (h : stp call P o st = some st1) : Loc call P o f st st1 := by
  obtain ⟨c, g, n, ns', ho, hcl, hg, hb, e, hnd⟩ := callN_inv hc
  subst e
  have hno : ownO o = false := by
    unfold ownO
    rw [ho]
    dsimp only
    rw [hcl]
    cases h1 : Cfg.wr g <;> cases h2 : Cfg.own g <;> cases h3 : Cfg.mak g <;> simp [h1, h2, h3] at hg ⊢
  have hap : appOf o = none := not_app fun c' ho' hc' => by rw [ho] at ho'; injection ho' with e; rw [← e, hcl] at hc'; cases hc'
  have hmk : isMk o = false := by unfold isMk isBo; rw [hap, ho]; rfl
  have run : ∀ st0 : St, boxNs st0.L st0.O (opds P st0 c.args.toList c.argTypes.toList) = some (n :: ns') → stp call P o st0 = (match P.funcs[g]? with
      | some fn => if fn.body.isSome ∧ fn.name ≠ "runtime.NumGoroutine" then (callX P fn.resultTypes.toList call g (opds P st0 c.args.toList c.argTypes.toList) (n :: ns') ((n :: ns').map (getOb st0.L st0.O))).map fun q => (⟨st0.T, (backAll st0.L st0.O (n :: ns') q.2).1, (backAll st0.L st0.O (n :: ns') q.2).2⟩ : St).put o.dst (retV q.1) else none
      | none => none) := by
    intro st0 hb0
    unfold stp stepOp
    have hcal : callee P st0 (.func g) = some (g, []) := rfl
    simp only [ho, hcl, hcal, List.append_nil]
    cases P.funcs[g]? with
    | none => rfl
    | some fn =>
      dsimp only
      split
      · obtain ⟨T, L, O⟩ := st0
        rw [callD_box hg hb0 hnd, Option.map_bind]
        cases callX P fn.resultTypes.toList call g (opds P ⟨T, L, O⟩ c.args.toList c.argTypes.toList) (n :: ns') ((n :: ns').map (getOb L O)) <;> rfl
      · rfl
  have hfp : ∀ st0 : St, boxNs st0.L st0.O (opds P st0 c.args.toList c.argTypes.toList) = some (n :: ns') → fpK P o st0 = some f := by
    intro st0 hb0
    have h1 : storeN P o st0 = none := by unfold storeN; rw [ho]
    have h2 : callN P o st0 = some (n :: ns') := by
      unfold callN
      rw [ho]
      dsimp only
      rw [hcl]
      dsimp only
      rw [hg, cond_true, hb0]
      dsimp only
      rw [hnd, cond_true]
    unfold fpK
    rw [hno, h1, h2, hf]
    rfl
  rw [run st hb] at h
  cases hfn : P.funcs[g]? with
  | none => rw [hfn] at h; cases h
  | some fn =>
    rw [hfn] at h
    dsimp only at h
    split at h
    case isFalse => cases h
    rename_i hbody
    obtain ⟨⟨ds, os⟩, h1, h2⟩ := Option.map_eq_some_iff.1 h
    have eff : ∀ (st0 : St), boxNs st0.L st0.O (opds P st0 c.args.toList c.argTypes.toList) = some (n :: ns') → callX P fn.resultTypes.toList call g (opds P st0 c.args.toList c.argTypes.toList) (n :: ns') ((n :: ns').map (getOb st0.L st0.O)) = some (ds, os) →
        Eff o f st0 ((⟨st0.T, (backAll st0.L st0.O (n :: ns') os).1, (backAll st0.L st0.O (n :: ns') os).2⟩ : St).put o.dst (retV ds)) 0 ∧ ∀ i m, (n :: ns')[i]? = some m → getOb (backAll st0.L st0.O (n :: ns') os).1 (backAll st0.L st0.O (n :: ns') os).2 m = os.getD i .none := by
      intro st0 hb0 h0
      obtain ⟨_, _, p3⟩ := boxNs_prep _ _ _ _ hb0
      have hbs : ∀ ob ∈ (n :: ns').map (getOb st0.L st0.O), isBoxO ob := fun ob hob => by
        obtain ⟨m, hm, rfl⟩ := List.mem_map.1 hob
        exact p3 m hm
      obtain ⟨⟨ys, hys⟩, hlen, hos⟩ := callX_inv hbs h0
      rw [List.length_map] at hlen
      have hget := (backAll_get (n :: ns') os st0.L st0.O (nodupN_get hnd) hlen).1
      have hlive := backAll_live (n :: ns') os st0.L st0.O (nodupN_get hnd) hlen (fun m hm => by obtain ⟨c, cs, e⟩ := p3 m hm; rw [e]; exact fun q => by cases q)
      have hbl := backAll_len (n :: ns') os st0.L st0.O
      have hLO := put_LO (⟨st0.T, (backAll st0.L st0.O (n :: ns') os).1, (backAll st0.L st0.O (n :: ns') os).2⟩ : St) o.dst (retV ds)
      refine ⟨⟨⟨put_n .., fun t ht => put_ne (st := ⟨st0.T, _, _⟩) fun d hd e => ht ?_, by rw [hLO.1]; exact hbl.1, by rw [hLO.2]; exact hbl.2, fun m hm _ => ?_⟩, fun m hcl _ _ => clean_put ?_ ?_, fun m hm => ?_, fun _ => rfl⟩, hlive⟩
      · subst e; exact List.mem_append_right _ (by rw [hd]; simp)
      · rw [hLO.1, hLO.2]
        exact hget m (by rw [hf] at hm; exact hm)
      · rw [clean_iff] at hcl ⊢
        refine ⟨hcl.1, fun m' => ?_⟩
        by_cases hm' : m' ∈ n :: ns'
        · obtain ⟨i, hi⟩ := List.mem_iff_getElem?.1 hm'
          show mentOb m (getOb (backAll st0.L st0.O (n :: ns') os).1 (backAll st0.L st0.O (n :: ns') os).2 m') = false
          rw [hlive i m' hi, List.getD_eq_getElem?_getD]
          cases hz : os[i]? with
          | none => rfl
          | some z =>
            obtain ⟨c, cs, e⟩ := hos z (List.mem_of_getElem? hz)
            rw [e]; rfl
        · show mentOb m (getOb (backAll st0.L st0.O (n :: ns') os).1 (backAll st0.L st0.O (n :: ns') os).2 m') = false
          rw [hget m' hm']
          exact hcl.2 m'
      · rw [hys]; exact retV_ment ys
      · rw [hf] at hm
        obtain ⟨c, cs, e⟩ := p3 m hm
        right
        rw [e]
        exact ⟨rfl, fun q => by cases q⟩
    obtain ⟨e1, e2⟩ := eff st hb h1
    subst h2
    refine ⟨0, e1, fun st' hag _ => ?_⟩
    have hops : opds P st' c.args.toList c.argTypes.toList = opds P st c.args.toList c.argTypes.toList := opds_eq _ _ fun x hx => hag.x x (args_mem ho hx)
    have hob : ∀ m ∈ n :: ns', getOb st'.L st'.O m = getOb st.L st.O m := fun m hm => hag.b m (.inr (by rw [hf]; exact hm))
    have hb' : boxNs st'.L st'.O (opds P st' c.args.toList c.argTypes.toList) = some (n :: ns') := by rw [hops]; exact boxNs_ag _ _ hb hob
    have hmap : (n :: ns').map (getOb st'.L st'.O) = (n :: ns').map (getOb st.L st.O) := List.map_congr_left hob
    have h1' : callX P fn.resultTypes.toList call g (opds P st' c.args.toList c.argTypes.toList) (n :: ns') ((n :: ns').map (getOb st'.L st'.O)) = some (ds, os) := by rw [hops, hmap]; exact h1
    obtain ⟨e1', e2'⟩ := eff st' hb' h1'
    refine ⟨_, by rw [run st' hb', hfn]; dsimp only; rw [if_pos hbody, h1']; rfl, hfp st' hb', e1', fun t ht => ?_, fun m hm => ?_, fun s h1 h2 => by omega⟩
    · have hd := wt_dst hap ht
      rw [put_at hd, put_at hd]
      show (if t < st'.T.n then retV ds else ud) = if t < st.T.n then retV ds else ud
      rw [hag.n]
    · rw [hf] at hm
      have q1 := put_LO (⟨st'.T, (backAll st'.L st'.O (n :: ns') os).1, (backAll st'.L st'.O (n :: ns') os).2⟩ : St) o.dst (retV ds)
      have q2 := put_LO (⟨st.T, (backAll st.L st.O (n :: ns') os).1, (backAll st.L st.O (n :: ns') os).2⟩ : St) o.dst (retV ds)
      rw [q1.1, q1.2, q2.1, q2.2]
      obtain ⟨i, hi⟩ := List.mem_iff_getElem?.1 hm
      exact (e2' i m hi).trans (e2 i m hi).symm

/-! ### calls that give what is one's own -/
theorem ownV_ag {call : CallF} (ho : ownO o = true) (h1 : ∀ x ∈ o.op.operands.toList, ∀ t, opd P st' t x = opd P st t x) (h2 : ∀ m ∈ refsO P o st, getOb st'.L st'.O m = getOb st.L st.O m) (h3 : st'.L.length = st.L.length) : ownV P call o st' = ownV P call o st := by
  obtain ⟨c, f, hop, hc, _⟩ := own_inv ho
  unfold ownV
  rw [hop]
  dsimp only
  rw [hc]
  dsimp only
  have hops : opds P st' c.args.toList c.argTypes.toList = opds P st c.args.toList c.argTypes.toList := opds_eq _ _ fun x hx => h1 x (args_mem hop hx)
  have hpk : peekAll st'.L st'.O (opds P st c.args.toList c.argTypes.toList) = peekAll st.L st.O (opds P st c.args.toList c.argTypes.toList) := peekAll_ag fun d hd m hm => by
    obtain ⟨x, hx, t, rfl⟩ := opds_mem _ _ d hd
    exact h2 m (refsO_mem (args_mem hop hx) hm)
  rw [hops, hpk, h3]
theorem loc_own {call : CallF} {f : Fp} (ho : ownO o = true) (hf : f = (refsO P o st, [])) (hp : Pre o st) (h : stp call P o st = some st1) : Loc call P o f st st1 := by
  obtain ⟨hmk, hap, hst⟩ := own_look (P := P) ho
  have run : ∀ st0 : St, Fresh st0 → stp call P o st0 = (ownV P call o st0).map fun q => (⟨st0.T, st0.L ++ q.2, st0.O⟩ : St).put o.dst q.1 := by
    intro st0 h0
    unfold stp
    rw [step_own ho h0, Option.map_map]
    rfl
  have hfp : ∀ st0 : St, refsO P o st0 = refsO P o st → fpK P o st0 = some f := by
    intro st0 e
    unfold fpK
    rw [ho, cond_true, e, hf]
  rw [run st (hp.fr ho)] at h
  obtain ⟨⟨v, os⟩, h1, h2⟩ := Option.map_eq_some_iff.1 h
  have eff : ∀ st0 : St, ownV P call o st0 = some (v, os) → Eff o f st0 ((⟨st0.T, st0.L ++ os, st0.O⟩ : St).put o.dst v) os.length := by
    intro st0 h0
    have hLO := put_LO (⟨st0.T, st0.L ++ os, st0.O⟩ : St) o.dst v
    obtain ⟨m1, m2⟩ := ownV_ment h0
    refine ⟨⟨put_n .., fun t ht => put_ne (st := ⟨st0.T, _, _⟩) fun d hd e => ht ?_, by rw [hLO.1]; exact List.length_append, by rw [hLO.2], fun m _ hm => ?_⟩, fun m hc _ hm => clean_put ⟨hc.T, fun ob hob => ?_, hc.O⟩ (m1 m hm), (fun m hm => by rw [hf] at hm; cases hm), (fun q => by rw [ho] at q; cases q)⟩
    · subst e; exact List.mem_append_right _ (by rw [hd]; simp)
    · rw [hLO.1, hLO.2]
      cases m with
      | out i => rfl
      | loc s =>
        show (st0.L ++ os).getD s .none = st0.L.getD s .none
        rw [List.getD_eq_getElem?_getD, List.getD_eq_getElem?_getD]
        rcases hm s rfl with q | q
        · rw [List.getElem?_append_left q]
        · rw [List.getElem?_eq_none (by rw [List.length_append]; omega), List.getElem?_eq_none (by omega)]
    · rcases List.mem_append.1 hob with q | q
      · exact hc.L ob q
      · exact m2 ob q m
  subst h2
  refine ⟨os.length, eff st h1, fun st' hag hp' => ?_⟩
  have h1' : ownV P call o st' = some (v, os) := by
    rw [ownV_ag ho hag.x (fun m hm => hag.b m (.inl (by rw [hf]; exact hm))) (hag.l ho)]; exact h1
  refine ⟨_, by rw [run st' (hp'.fr ho), h1']; rfl, hfp st' (refsO_same hag.x), eff st' h1', fun t ht => ?_, (fun m hm => by rw [hf] at hm; cases hm), fun s q1 q2 => ?_⟩
  · have hd := wt_dst hap ht
    rw [put_at hd, put_at hd]
    show (if t < st'.T.n then v else ud) = if t < st.T.n then v else ud
    rw [hag.n]
  · have k1 := put_LO (⟨st'.T, st'.L ++ os, st'.O⟩ : St) o.dst v
    have k2 := put_LO (⟨st.T, st.L ++ os, st.O⟩ : St) o.dst v
    rw [k1.1, k1.2, k2.1, k2.2]
    show (st'.L ++ os).getD s .none = (st.L ++ os).getD s .none
    have hl := hag.l ho
    rw [List.getD_eq_getElem?_getD, List.getD_eq_getElem?_getD, List.getElem?_append_right (by omega), List.getElem?_append_right (by omega), hl]

theorem getOb_setNe {L O : List Ob} {s : Nat} {ob : Ob} {n : Nm} (h : n ≠ .loc s) : getOb (L.set s ob) O n = getOb L O n := by
  cases n with
  | loc s' =>
    have : s ≠ s' := fun e => h (by rw [e])
    simp only [getOb, List.getD_eq_getElem?_getD]
    rw [List.getElem?_set_ne this]
  | out i => rfl
/-! ### what makes an object, or appends to a row made there -/
theorem mk_eff {call : CallF} (hm : isMk o = true) : ∃ d v, o.dst = some d ∧ nmOf o ∈ wtO o ∧ d ∈ wtO o ∧ (∀ t ∈ wtO o, t = nmOf o ∨ t = d) ∧ (∀ m, m ≠ .loc (nmOf o) → mentD m v = false) ∧ ∀ st st1, PreM o st → quietOK P o st = true → stp call P o st = some st1 →
    ∃ ob, ((∀ m, mentOb m ob = false) ∧ (isBS o = true → v = .arr (.loc (nmOf o)) ∧ d = nmOf o ∧ ∃ e s b ro es, ob = .arr e s b ro es)) ∧ st1 = ⟨(st.T.set (nmOf o) ud).set d v, st.L.set (nmOf o) ob, st.O⟩ ∧
    ∀ st', (∀ x ∈ o.op.operands.toList, ∀ t, opd P st' t x = opd P st t x) → PreM o st' → st'.L.getD (nmOf o) .none = st.L.getD (nmOf o) .none → quietOK P o st' = true ∧ stp call P o st' = some ⟨(st'.T.set (nmOf o) ud).set d v, st'.L.set (nmOf o) ob, st'.O⟩ := by
  cases e : appOf o with
  | some q =>
    obtain ⟨a, d⟩ := q
    obtain ⟨c, y, ho, hd, hg, hcl, hargs, hne⟩ := appOf_inv e
    have hbs : isBS o = false := by unfold isBS; rw [ho]
    have hpre : ∀ st, PreM o st → PreApp a st := fun st h => by unfold PreM at h; rw [e] at h; exact h
    have hwt : wtO o = [a, d] := by unfold wtO; rw [e, hd]; rfl
    rw [nmOf_app e, hwt]
    refine ⟨d, .arr (.loc a), hd, by simp, by simp, fun t ht => by simpa using ht, fun m hmm => by simp only [mentD, decide_eq_false_iff_not]; exact fun q => hmm q.symm, fun st st1 hp hq h => ?_⟩
    obtain ⟨ob, q1, q2, q3⟩ := app_eff (P := P) e (hpre _ hp) hq h
    exact ⟨ob, ⟨q1, fun q => by rw [hbs] at q; cases q⟩, q2, fun st' h1 h2 h3 => q3 st' h1 (hpre _ h2) h3⟩
  | none =>
    have hb : isBo o = true := by unfold isMk at hm; rw [e] at hm; simpa using hm
    have hpre : ∀ st, PreM o st → ∀ s, o.dst = some s → Clean (.loc s) st := fun st h => by unfold PreM at h; rw [e] at h; exact h
    obtain ⟨s, v, hd, hv, hB⟩ := stp_build (P := P) (call := call) hb
    have hwt : wtO o = [s] := by unfold wtO; rw [e, hd]; rfl
    rw [nmOf_bo hb hd, hwt]
    refine ⟨s, v, hd, by simp, by simp, fun t ht => .inl (by simpa using ht), fun m hmm => ?_, fun st st1 hp hq h => ?_⟩
    · rcases hv with ⟨_, rfl⟩ | ⟨_, rfl⟩ <;> (simp only [mentD, decide_eq_false_iff_not]; exact fun q => hmm q.symm)
    · obtain ⟨ob, q1, q2, q3⟩ := hB st st1 (hpre _ hp _ hd) hq h
      refine ⟨ob, ⟨q1.1, fun q => ?_⟩, by rw [q2, Tm.set_set], fun st' h1 h2 _ => by rw [Tm.set_set]; exact q3 st' h1 (hpre _ h2 _ hd)⟩
      rcases hv with ⟨_, h⟩ | ⟨h, _⟩
      · exact ⟨h, rfl, q1.2 q⟩
      · rw [h] at q; cases q
theorem mk_fp (hm : isMk o = true) (hq : quietOK P o st = true) : fpK P o st = some ([], [.loc (nmOf o)]) := by
  have hl : lookOp o.op = false := by
    cases h : lookOp o.op with
    | false => rfl
    | true => rw [(mk_look h).1] at hm; cases hm
  have hno : ownO o = false := by
    cases h : ownO o with
    | false => rfl
    | true => rw [(own_look (P := P) h).1] at hm; cases hm
  have hst : storeN P o st = none := by
    unfold storeN
    split
    · rename_i t a v ho
      exfalso
      unfold isMk isBo appOf at hm
      rw [ho] at hm
      simp at hm
    · rfl
  unfold fpK
  rw [hno, cond_false, hst]
  dsimp only
  rw [callN_quiet hq]
  dsimp only
  rw [hq, cond_true, hl, cond_false, hm, cond_true]
theorem loc_mk {call : CallF} {f : Fp} (hm : isMk o = true) (hq : quietOK P o st = true) (hf : f = ([], [.loc (nmOf o)])) (hp : Pre o st) (h : stp call P o st = some st1) : Loc call P o f st st1 := by
  have hno : ownO o = false := by
    cases h : ownO o with
    | false => rfl
    | true => rw [(own_look (P := P) h).1] at hm; cases hm
  obtain ⟨d, v, hd, w1, w2, w3, hv, hB⟩ := mk_eff (P := P) (call := call) hm
  obtain ⟨ob, hob, e1, again⟩ := hB st st1 (hp.ma hm).2.2 hq h
  have eff : ∀ st0 : St, nmOf o < st0.L.length → Eff o f st0 ⟨(st0.T.set (nmOf o) ud).set d v, st0.L.set (nmOf o) ob, st0.O⟩ 0 := by
    intro st0 hlt
    refine ⟨⟨rfl, fun t ht => ?_, by simp, rfl, fun m hm' _ => ?_⟩, fun m hc hne _ => ?_, fun m hm' => ?_, fun _ => rfl⟩
    · show ((st0.T.set (nmOf o) ud).set d v).getD t ud = _
      rw [Tm.getD_set, if_neg (fun e => ht (by rw [← e]; exact w2)), Tm.getD_set, if_neg (fun e => ht (by rw [← e]; exact w1))]
    · rw [hf] at hm'
      exact getOb_setNe fun e => hm' (by rw [e]; simp)
    · have hne := hne hm
      refine ⟨fun j => ?_, fun o' ho' => ?_, hc.O⟩
      · show mentD m (((st0.T.set (nmOf o) ud).set d v).getD j ud) = false
        rw [Tm.getD_set]
        split
        · split
          · exact hv m hne
          · rfl
        · rw [Tm.getD_set]
          split
          · split <;> rfl
          · exact hc.T j
      · rcases List.mem_or_eq_of_mem_set ho' with q | q
        · exact hc.L o' q
        · rw [q]; exact hob.1 _
    · rw [hf] at hm'
      exact .inl ⟨hm, by simpa using hm'⟩
  subst e1
  refine ⟨0, eff st (hp.ma hm).2.1, fun st' hag hp' => ?_⟩
  have hgd : st'.L.getD (nmOf o) .none = st.L.getD (nmOf o) .none := hag.b (.loc (nmOf o)) (.inr (by rw [hf]; simp))
  obtain ⟨q1, q2⟩ := again st' hag.x (hp'.ma hm).2.2 hgd
  refine ⟨_, q2, by rw [mk_fp hm q1, hf], eff st' (hp'.ma hm).2.1, fun t ht => ?_, fun m hm' => ?_, fun s h1 h2 => by omega⟩
  · show ((st'.T.set (nmOf o) ud).set d v).getD t ud = ((st.T.set (nmOf o) ud).set d v).getD t ud
    have hn : st'.T.n = st.T.n := hag.n
    have g : ∀ T : Tm, ((T.set (nmOf o) ud).set d v).getD t ud = if d = t then (if d < T.n then v else ud) else (T.set (nmOf o) ud).getD t ud := fun T => Tm.getD_set _ _ _ _
    rw [g, g, hn]
    split
    · rfl
    · rename_i hne
      rcases w3 t ht with q | q
      · rw [Tm.getD_set, Tm.getD_set, if_pos q.symm, if_pos q.symm, ite_self, ite_self]
      · exact absurd q.symm hne
  · rw [hf] at hm'
    have : m = .loc (nmOf o) := by simpa using hm'
    subst this
    show (st'.L.set (nmOf o) ob).getD (nmOf o) .none = (st.L.set (nmOf o) ob).getD (nmOf o) .none
    rw [List.getD_eq_getElem?_getD, List.getD_eq_getElem?_getD, List.getElem?_set_self (hp'.ma hm).2.1, List.getElem?_set_self (hp.ma hm).2.1]
/-- WHAT AN OPERATION DOES, IT DOES WHEREVER IT FINDS THE SAME. -/
theorem loc {call : CallF} {f : Fp} (hf : fpK P o st = some f) (hp : Pre o st) (h : stp call P o st = some st1) : Loc call P o f st st1 := by
  unfold fpK at hf
  cases hno : ownO o with
  | true =>
    rw [hno] at hf
    injection hf with hf
    exact loc_own hno hf.symm hp h
  | false =>
    rw [hno, cond_false] at hf
    cases hs : storeN P o st with
    | some m =>
      rw [hs] at hf
      injection hf with hf
      exact loc_store hs hf.symm h
    | none =>
      rw [hs] at hf
      dsimp only at hf
      cases hc : callN P o st with
      | some ns =>
        rw [hc] at hf
        injection hf with hf
        exact loc_call hc hf.symm h
      | none =>
        rw [hc] at hf
        dsimp only at hf
        cases hq : quietOK P o st with
        | false => rw [hq] at hf; cases hf
        | true =>
          rw [hq, cond_true] at hf
          cases hl : lookOp o.op with
          | true =>
            rw [hl, cond_true] at hf
            injection hf with hf
            refine loc_look hl hq hf.symm (fun st' hag => ?_) hno h
            obtain ⟨q1, _⟩ := look_agree (call := call) hl hq hag.x fun x hx t m hm => hag.b m (.inl (by rw [← hf]; exact refsO_mem hx hm))
            have hst : storeN P o st' = none := by
              unfold storeN
              split
              · rename_i ho
                rw [ho] at hl; cases hl
              · rfl
            unfold fpK
            rw [hno, cond_false, hst]
            dsimp only
            rw [callN_quiet q1]
            dsimp only
            rw [q1, cond_true, hl, cond_true, refsO_same hag.x, hf]
          | false =>
            rw [hl, cond_false] at hf
            cases hm : isMk o with
            | false => rw [hm] at hf; cases hf
            | true =>
              rw [hm] at hf
              injection hf with hf
              exact loc_mk hm hq hf.symm hp h
end Go.Proofs.YtakbdjdafcjglaaGreatDoor.Dm
