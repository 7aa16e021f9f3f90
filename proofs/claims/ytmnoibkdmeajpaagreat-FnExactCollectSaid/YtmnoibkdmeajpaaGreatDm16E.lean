/- The machine over plain data: each kind of operation where an order is drawn. -/
import Derived.Test.YtmnoibkdmeajpaaGreatDm16D
namespace Go.Proofs.YtmnoibkdmeajpaaGreat.Dm
set_option linter.unusedSectionVars false
open Go.RowKit
set_option linter.unusedVariables false
set_option linter.unusedSimpArgs false
variable [Cfg] {P : Program} {st st' st1 : St} {o : Oper} {d : Dv}
theorem storeOb_ment {off n : Nat} {v : Dv} {ob ob' : Ob} {m : Nm} (h : storeOb off n v ob = some ob') (hv : mentD m v = false) (ho : mentOb m ob = false) : mentOb m ob' = false ∧ ob ≠ .none ∧ isArr ob = false ∧ ob' ≠ .none := by
 have hbox : ∀ n, mentOb m (boxOf n v) = false ∧ boxOf n v ≠ .none := by
  intro n
  unfold boxOf boxO
  cases v with
  | p x => cases x <;> exact ⟨rfl, fun q => by cases q⟩
  | agg k ds =>
   dsimp only
   split
   ·exact ⟨rfl, fun q => by cases q⟩
   ·exact ⟨by simpa [mentOb, mentD] using hv, fun q => by cases q⟩
  | _ => exact ⟨by simpa [mentOb, mentDs] using hv, fun q => by cases q⟩
 have hmix : ∀ (c : Nat) (old : Nat → Dv), (∀ j, mentD m (old j) = false) → mentOb m (boxO c (mixD c off n old v)) = false ∧ boxO c (mixD c off n old v) ≠ .none := by
  intro c old hold
  unfold boxO
  split
  ·exact ⟨rfl, fun q => by cases q⟩
  ·refine ⟨?_, fun q => by cases q⟩
   simp only [mentOb]
   refine mentDs_iff.2 fun d hd => ?_
   unfold mixD at hd
   obtain ⟨j, _, rfl⟩ := List.mem_map.1 hd
   split
   ·exact cellV_ment hv _
   ·exact hold j
 unfold storeOb at h
 split at h
 ·rename_i c cs
  split at h
  ·split at h
   ·injection h with h; rw [← h]; exact ⟨(hbox _).1, (fun q => by cases q), rfl, (hbox _).2⟩
   ·injection h with h; rw [← h]
    have := hmix c (fun j => .p (cs.getD j .undef)) (fun j => rfl)
    exact ⟨this.1, (fun q => by cases q), rfl, this.2⟩
  ·cases h
 ·rename_i c ds
  split at h
  ·split at h
   ·injection h with h; rw [← h]; exact ⟨(hbox _).1, (fun q => by cases q), rfl, (hbox _).2⟩
   ·injection h with h; rw [← h]
    simp only [mentOb] at ho
    have := hmix c _ (fun j => ment_getD (mentDs_iff.1 ho) j)
    exact ⟨this.1, (fun q => by cases q), rfl, this.2⟩
  ·cases h
 ·cases h
theorem setLO_len (L O : List Ob) (m : Nm) (ob : Ob) : (setL L m ob).length = L.length ∧ (setO O m ob).length = O.length := by cases m <;> simp [setL, setO]
def isBoxO (ob : Ob) : Prop := ∃ n cs, ob = .box n cs
def plainA : List Dv → List Dv
 | [] => []
 | .nilsl s :: ds => .p (.sl s []) :: plainA ds
 | d :: ds => d :: plainA ds
theorem boxNs_prep (L O : List Ob) : ∀ (ds : List Dv) (ns : List Nm), boxNs L O ds = some ns → prep L O ds = some (plainA ds, L, O) ∧ refsDs (plainA ds) = ns ∧ ∀ n ∈ ns, isBoxO (getOb L O n)
 | [], ns, h => by
  simp only [boxNs] at h
  injection h with h; subst h
  exact ⟨rfl, rfl, fun n hn => by cases hn⟩
 | .p x :: ds, ns, h => by
  simp only [boxNs] at h
  obtain ⟨q1, q2, q3⟩ := boxNs_prep L O ds ns h
  exact ⟨by simp only [prep, view, view1, q1, plainA], by simp only [plainA, refsDs, refsD, q2, List.nil_append], q3⟩
 | .nilsl s :: ds, ns, h => by
  simp only [boxNs] at h
  obtain ⟨q1, q2, q3⟩ := boxNs_prep L O ds ns h
  exact ⟨by simp only [prep, view, view1, q1, plainA], by simp only [plainA, refsDs, refsD, q2, List.nil_append], q3⟩
 | .ptr m off :: ds, ns, h => by
  simp only [boxNs] at h
  split at h
  ·rename_i c cs hm
   split at h
   ·rename_i ns' hns
    injection h with h; subst h
    obtain ⟨q1, q2, q3⟩ := boxNs_prep L O ds ns' hns
    refine ⟨by simp only [prep, q1, plainA], by simp only [plainA, refsDs, refsD, q2, List.singleton_append], fun n hn => ?_⟩
    rcases List.mem_cons.1 hn with rfl | hn
    ·exact ⟨c, cs, hm⟩
    ·exact q3 n hn
   ·cases h
  ·cases h
 | .arr _ :: _, _, h => by cases h
 | .el .. :: _, _, h => by cases h
 | .ro .. :: _, _, h => by cases h
 | .agg .. :: _, _, h => by cases h
 | .fn .. :: _, _, h => by cases h
 | .tup _ :: _, _, h => by cases h
 | .mp _ :: _, _, h => by cases h
 | .sub .. :: _, _, h => by cases h
theorem boxNs_peek (L O : List Ob) : ∀ (ds : List Dv) (ns : List Nm), boxNs L O ds = some ns → ns ≠ [] → peekAll L O ds = none ∧ peekish ds = false ∧ pureish ds = false
 | [], ns, h, hn => by
  simp only [boxNs] at h
  injection h with h
  exact absurd h.symm hn
 | .p x :: ds, ns, h, hn => by
  simp only [boxNs] at h
  obtain ⟨q1, q2, q3⟩ := boxNs_peek L O ds ns h hn
  exact ⟨by simp only [peekAll, peek, peek1, q1], by simp only [peekish, peekish1, q2, Bool.and_false], by simpa only [pureish] using q3⟩
 | .nilsl s :: ds, ns, h, hn => by
  simp only [boxNs] at h
  obtain ⟨q1, q2, q3⟩ := boxNs_peek L O ds ns h hn
  exact ⟨by simp only [peekAll, peek, peek1, q1], by simp only [peekish, peekish1, q2, Bool.and_false], by simpa only [pureish] using q3⟩
 | .ptr m off :: ds, ns, h, hn => ⟨rfl, rfl, rfl⟩
 | .arr _ :: _, _, h, _ => by cases h
 | .el .. :: _, _, h, _ => by cases h
 | .ro .. :: _, _, h, _ => by cases h
 | .agg .. :: _, _, h, _ => by cases h
 | .fn .. :: _, _, h, _ => by cases h
 | .tup _ :: _, _, h, _ => by cases h
 | .mp _ :: _, _, h, _ => by cases h
 | .sub .. :: _, _, h, _ => by cases h
theorem boxNs_ag {L O L' O' : List Ob} : ∀ (ds : List Dv) (ns : List Nm), boxNs L O ds = some ns → (∀ n ∈ ns, getOb L' O' n = getOb L O n) → boxNs L' O' ds = some ns
 | [], ns, h, _ => h
 | .p x :: ds, ns, h, hg => by simp only [boxNs] at h ⊢; exact boxNs_ag ds ns h hg
 | .nilsl s :: ds, ns, h, hg => by simp only [boxNs] at h ⊢; exact boxNs_ag ds ns h hg
 | .ptr m off :: ds, ns, h, hg => by
  simp only [boxNs] at h ⊢
  split at h
  ·rename_i c cs hm
   split at h
   ·rename_i ns' hns
    injection h with h; subst h
    rw [hg m (List.mem_cons_self ..), hm]
    dsimp only
    rw [boxNs_ag ds ns' hns fun n hn => hg n (List.mem_cons_of_mem _ hn)]
   ·cases h
  ·cases h
 | .arr _ :: _, _, h, _ => by cases h
 | .el .. :: _, _, h, _ => by cases h
 | .ro .. :: _, _, h, _ => by cases h
 | .agg .. :: _, _, h, _ => by cases h
 | .fn .. :: _, _, h, _ => by cases h
 | .tup _ :: _, _, h, _ => by cases h
 | .mp _ :: _, _, h, _ => by cases h
 | .sub .. :: _, _, h, _ => by cases h
theorem addN_new : ∀ (ms acc : List Nm), (acc ++ ms).Nodup → addN acc ms = acc ++ ms
 | [], acc, _ => by simp [addN]
 | m :: ms, acc, h => by
  have hm : m ∉ acc := fun q => (List.nodup_append.1 h).2.2 m q m (List.mem_cons_self ..) rfl
  simp only [addN, if_neg hm]
  rw [addN_new ms (acc ++ [m]) (by simpa using h)]
  simp
theorem closeN_box {L O : List Ob} {ns : List Nm} (h : ∀ n ∈ ns, isBoxO (getOb L O n)) : ∀ k, closeN L O k ns = ns
 | 0 => rfl
 | k + 1 => by
  have : (ns.flatMap fun m => refsOb (getOb L O m)) = [] := by
   rw [List.flatMap_eq_nil_iff]
   intro m hm
   obtain ⟨n, cs, e⟩ := h m hm
   rw [e]; rfl
  simp only [closeN, this, addN]
  exact closeN_box h k
theorem renObs_box (g : Nm → Option Nm) : ∀ (os : List Ob), (∀ o ∈ os, isBoxO o) → renObs g os = some os
 | [], _ => rfl
 | o :: os, h => by
  obtain ⟨n, cs, e⟩ := h o (List.mem_cons_self ..)
  subst e
  simp only [renObs, renOb, renObs_box g os fun o ho => h o (List.mem_cons_of_mem _ ho)]
theorem castObs_box {r : List Ob} : ∀ (l : List Ob) (i : Nat) (acc os : List Ob), (∀ o ∈ l, isBoxO o) → castObs r some i l acc = some os → ∃ zs : List Ob, os = acc ++ zs ∧ zs.length = l.length ∧ ∀ z ∈ zs, isBoxO z
 | [], i, acc, os, _, h => by
  simp only [castObs] at h
  split at h
  ·injection h with h; subst h
   exact ⟨[], by simp, rfl, fun z hz => by cases hz⟩
  ·cases h
 | o :: l, i, acc, os, hl, h => by
  obtain ⟨n, cs, e⟩ := hl o (List.mem_cons_self ..)
  subst e
  simp only [castObs] at h
  obtain ⟨cs', h1, h2⟩ := Option.bind_eq_some_iff.1 h
  obtain ⟨zs, q1, q2, q3⟩ := castObs_box l (i + 1) _ os (fun o ho => hl o (List.mem_cons_of_mem _ ho)) h2
  refine ⟨.box n (fillF cs cs') :: zs, by rw [q1]; simp, by simp [q2], fun z hz => ?_⟩
  rcases List.mem_cons.1 hz with rfl | hz
  ·exact ⟨_, _, rfl⟩
  ·exact q3 z hz
def callX (P : Program) (rts : List TypeId) (call : CallF) (f : FuncId) (args : List Dv) (ns : List Nm) (obs : List Ob) : Option (List Dv × List Ob) := match renDs (toOut ns) (plainA args) with
 | some as' => (call f as' obs).bind fun r => castRs P r.1 (fun ds => castObs r.2 (fun os1 => some (ds, os1)) 0 obs []) 0 rts []
 | none => none
theorem callX_inv {rts : List TypeId} {call : CallF} {f : FuncId} {args : List Dv} {ns : List Nm} {obs : List Ob} (hb : ∀ o ∈ obs, isBoxO o) {ds : List Dv} {os : List Ob} (h : callX P rts call f args ns obs = some (ds, os)) :
 (∃ ys : List Pd, ds = ys.map .p) ∧ os.length = obs.length ∧ ∀ z ∈ os, isBoxO z := by
 unfold callX at h
 split at h
 ·obtain ⟨r, _, h⟩ := Option.bind_eq_some_iff.1 h
  rw [castRs_bind] at h
  obtain ⟨ds', h1, h⟩ := Option.bind_eq_some_iff.1 h
  rw [castObs_bind] at h
  obtain ⟨os', h2, h⟩ := Option.bind_eq_some_iff.1 h
  injection h with h; injection h with e1 e2; subst e1 e2
  obtain ⟨ys, q1, _⟩ := castRs_eq _ _ _ _ h1
  obtain ⟨zs, p1, p2, p3⟩ := castObs_box _ _ _ _ hb h2
  rw [List.nil_append] at q1 p1
  exact ⟨⟨ys, q1⟩, by rw [p1]; exact p2, by rw [p1]; exact p3⟩
 ·cases h
theorem Tm.map_same (T : Tm) {g : Dv → Dv} (h : ∀ d, g d = d) : T.map g = T := by
 refine Tm.ext_ rfl fun j => ?_
 have := Tm.getD_map (h ud) T j
 exact this.trans (h _)
theorem callD_box {R : Type} {rts : List TypeId} {call : CallF} {f : FuncId} {args : List Dv} {n : Nm} {ns : List Nm} (hf : (!Cfg.wr f && (!Cfg.own f && !Cfg.mak f)) = true) {T : Tm} {L O : List Ob} (hb : boxNs L O args = some (n :: ns)) (hnd : nodupN (n :: ns) = true) (k : Dv → St → Option R) :
 callD P rts call ⟨T, L, O⟩ f args k = (callX P rts call f args (n :: ns) ((n :: ns).map (getOb L O))).bind fun q => k (retV q.1) ⟨T, (backAll L O (n :: ns) q.2).1, (backAll L O (n :: ns) q.2).2⟩ := by
 have hw : Cfg.wr f = false := by cases e : Cfg.wr f <;> simp [e] at hf ⊢
 have ho : Cfg.own f = false := by cases e : Cfg.own f <;> simp [e] at hf ⊢
 have hm : Cfg.mak f = false := by cases e : Cfg.mak f <;> simp [e] at hf ⊢
 obtain ⟨p1, p2, p3⟩ := boxNs_prep L O args _ hb
 obtain ⟨k1, k2, k3⟩ := boxNs_peek L O args _ hb (fun q => by cases q)
 have hclose : closeN L O 3 (addN [] (refsDs (plainA args))) = n :: ns := by
  rw [p2, addN_new _ _ (by rw [List.nil_append]; exact nodupN_get hnd), List.nil_append]
  exact closeN_box p3 3
 have hbs : ∀ ob ∈ (n :: ns).map (getOb L O), isBoxO ob := fun ob hob => by
  obtain ⟨m, hm, rfl⟩ := List.mem_map.1 hob
  exact p3 m hm
 have hfil : ((n :: ns).filter fun m => isArr (getOb L O m)) = [] := by
  rw [List.filter_eq_nil_iff]
  intro m hm
  obtain ⟨c, cs, e⟩ := p3 m hm
  rw [e]
  exact fun q => by cases q
 have hLm : ∀ l : List Ob, l.map (scrubObAll []) = l := fun l => by
  conv => rhs; rw [← List.map_id l]
  exact List.map_congr_left fun o _ => rfl
 unfold callD
 simp only [hw, ho, hm, Bool.or_false, Bool.false_or, Bool.false_eq_true, if_false, k1, k2, Bool.and_false, ite_self, p1, hclose]
 rw [renObs_box _ _ hbs]
 unfold callX
 cases hx : renDs (toOut (n :: ns)) (plainA args) with
 | none => rfl
 | some as' =>
  dsimp only
  cases hcl : call f as' ((n :: ns).map (getOb L O)) with
  | none => rfl
  | some r =>
   rw [Option.bind_some, Option.bind_some, castRs_bind]
   conv => rhs; rw [castRs_bind]
   cases h1 : castRs P r.1 some 0 rts [] with
   | none => rfl
   | some ds =>
    rw [Option.bind_some, Option.bind_some, castObs_bind]
    conv => rhs; rw [castObs_bind]
    cases h2 : castObs r.2 some 0 ((n :: ns).map (getOb L O)) [] with
    | none => rfl
    | some os1 =>
     rw [Option.bind_some, Option.bind_some, Option.bind_some]
     obtain ⟨zs, q1, _, q3⟩ := castObs_box _ _ _ _ hbs h2
     rw [List.nil_append] at q1
     subst q1
     rw [renObs_box _ _ q3]
     dsimp only
     unfold wb
     rw [hfil, Tm.map_same T (g := scrubAll []) (fun d => rfl), hLm, hLm]
theorem backAll_len : ∀ (ns : List Nm) (os L O : List Ob), (backAll L O ns os).1.length = L.length ∧ (backAll L O ns os).2.length = O.length
 | [], os, L, O => by cases os <;> exact ⟨rfl, rfl⟩
 | n :: ns, [], L, O => ⟨rfl, rfl⟩
 | n :: ns, o :: os, L, O => by
  simp only [backAll]
  have h := backAll_len ns os (setL L n o) (setO O n o)
  have q := setLO_len L O n o
  exact ⟨h.1.trans q.1, h.2.trans q.2⟩
theorem backAll_live : ∀ (ns : List Nm) (os L O : List Ob), ns.Nodup → os.length = ns.length → (∀ n ∈ ns, getOb L O n ≠ .none) → ∀ i m, ns[i]? = some m → getOb (backAll L O ns os).1 (backAll L O ns os).2 m = os.getD i .none
 | [], os, L, O, _, _, _, i, m, h => by simp at h
 | n :: ns, [], L, O, _, hl, _, i, m, h => by cases hl
 | n :: ns, o :: os, L, O, hn, hl, hlive, i, m, h => by
  obtain ⟨hn1, hn2⟩ := List.nodup_cons.1 hn
  have hl' : os.length = ns.length := by simpa using hl
  have hlive' : ∀ k ∈ ns, getOb (setL L n o) (setO O n o) k ≠ .none := fun k hk => by
   rw [getOb_ne L O (m := n) (m' := k) (fun e => hn1 (by rw [← e]; exact hk)) o]
   exact hlive k (List.mem_cons_of_mem _ hk)
  simp only [backAll]
  cases i with
  | zero =>
   simp at h
   subst h
   rw [(backAll_get ns os _ _ hn2 hl').1 n hn1, getOb_self L O (hlive n (List.mem_cons_self ..)) o]
   rfl
  | succ i =>
   rw [backAll_live ns os _ _ hn2 hl' hlive' i m (by simpa using h)]
   rfl
theorem callN_inv {ns : List Nm} (h : callN P o st = some ns) : ∃ c f n ns', o.op = .call c ∧ c.callee = .value (.func f) ∧ (!Cfg.wr f && (!Cfg.own f && !Cfg.mak f)) = true ∧ boxNs st.L st.O (opds P st c.args.toList c.argTypes.toList) = some (n :: ns') ∧ ns = n :: ns' ∧ nodupN (n :: ns') = true := by
 unfold callN at h
 split at h
 ·rename_i c ho
  split at h
  ·rename_i f hc
   cases hx : (!Cfg.wr f && (!Cfg.own f && !Cfg.mak f)) with
   | false => rw [hx] at h; cases h
   | true =>
    rw [hx, cond_true] at h
    split at h
    ·rename_i n ns' hb
     cases hy : nodupN (n :: ns') with
     | false => rw [hy] at h; cases h
     | true =>
      rw [hy] at h
      injection h with h
      exact ⟨c, f, n, ns', ho, hc, hx, hb, h.symm, hy⟩
    ·cases h
  ·cases h
 ·cases h
theorem callN_quiet (hq : quietOK P o st = true) : callN P o st = none := by
 cases h : callN P o st with
 | none => rfl
 | some ns =>
  obtain ⟨c, f, n, ns', ho, hc, hf, hb, _, _⟩ := callN_inv h
  obtain ⟨_, k2, k3⟩ := boxNs_peek _ _ _ _ hb (fun q => by cases q)
  unfold quietOK at hq
  have hcal : callee P st (.func f) = some (f, []) := rfl
  simp only [ho, hc, hcal, List.append_nil, k2, k3, Bool.and_false, Bool.or_self, Bool.false_eq_true] at hq
def maskL (f : Nat → Nm) (ns : List Nm) : Nat → List Ob → List Ob
 | _, [] => []
 | i, ob :: os => (bif ns.contains (f i) then ob else .none) :: maskL f ns (i + 1) os
theorem maskL_get (f : Nat → Nm) (ns : List Nm) : ∀ (os : List Ob) (i k : Nat), (maskL f ns i os).getD k .none = if f (i + k) ∈ ns then os.getD k .none else .none
 | [], i, k => by simp [maskL]
 | o :: os, i, 0 => by
  simp only [maskL, List.getD_cons_zero, Nat.add_zero, List.contains_eq_mem]
  by_cases h : f i ∈ ns
  ·rw [if_pos h, decide_eq_true h]; rfl
  ·rw [if_neg h, decide_eq_false h]; rfl
 | o :: os, i, k + 1 => by
  simp only [maskL, List.getD_cons_succ]
  rw [maskL_get f ns os (i + 1) k, show i + 1 + k = i + (k + 1) by omega]
def only (ts : List Nat) (ns : List Nm) (st : St) : St := ⟨keepT ts st.T, maskL .loc ns 0 st.L, maskL .out ns 0 st.O⟩
theorem only_ob (ts : List Nat) (ns : List Nm) (m : Nm) : getOb (only ts ns st).L (only ts ns st).O m = if m ∈ ns then getOb st.L st.O m else .none := by
 cases m with
 | loc s =>
  show (maskL .loc ns 0 st.L).getD s .none = _
  rw [maskL_get, Nat.zero_add]
  rfl
 | out s =>
  show (maskL .out ns 0 st.O).getD s .none = _
  rw [maskL_get, Nat.zero_add]
  rfl
theorem opT_mem {y : Tmp} (h : Operand.tmp y ∈ o.op.operands.toList) : y ∈ opT o := List.mem_filterMap.2 ⟨.tmp y, h, rfl⟩
theorem findT_in (T : Tm) (j : Nat) : ∀ ks : List Nat, j ∈ ks → findT (ks.map fun k => (k, T.f k)) j = T.f j
 | [], h => by cases h
 | k :: ks, h => by
  simp only [List.map_cons, findT, beq_eq]
  by_cases e : k = j
  ·subst e; rw [decide_eq_true rfl]; rfl
  ·rw [decide_eq_false e]
   exact findT_in T j ks (by rcases List.mem_cons.1 h with q | q; exact absurd q.symm e; exact q)
theorem findT_out (T : Tm) (j : Nat) : ∀ ks : List Nat, j ∉ ks → findT (ks.map fun k => (k, T.f k)) j = ud
 | [], h => rfl
 | k :: ks, h => by
  simp only [List.map_cons, findT, beq_eq]
  rw [decide_eq_false fun e => h (by rw [e]; exact List.mem_cons_self ..)]
  exact findT_out T j ks fun q => h (List.mem_cons_of_mem _ q)
theorem only_T (ts : List Nat) (ns : List Nm) (t : Nat) : (only ts ns st).T.getD t ud = if t ∈ ts then st.T.getD t ud else ud := by
 show (keepT ts st.T).getD t ud = _
 simp only [keepT, Tm.of, Tm.getD, blt_eq]
 by_cases h : t < st.T.n
 ·rw [decide_eq_true h, cond_true]
  by_cases hm : t ∈ ts
  ·rw [if_pos hm, findT_in _ _ _ hm]
  ·rw [if_neg hm, findT_out _ _ _ hm]
 ·rw [decide_eq_false h, cond_false, st.T.ok t (Nat.le_of_not_lt h), ite_self]
theorem look_may {call : CallF} {m : Nm} (hl : lookOp o.op = true) (hq : quietOK P o st = true) (h : stepOp call P o st (fun d _ => some d) = some d) (hm : mentD m d = true) : m ∈ refsO P o st ∨ ∃ n ∈ refsO P o st, mentOb m (getOb st.L st.O n) = true := by
 refine Classical.byContradiction fun hno => ?_
 have h1 : m ∉ refsO P o st := fun q => hno (.inl q)
 have h2 : ∀ n ∈ refsO P o st, mentOb m (getOb st.L st.O n) = false := fun n hn => by
  cases hx : mentOb m (getOb st.L st.O n) with
  | false => rfl
  | true => exact absurd (.inr ⟨n, hn, hx⟩) hno
 obtain ⟨q1, q2⟩ := look_agree (call := call) (st' := only (opT o) (refsO P o st) st) hl hq (fun x hx t => by
  cases x with
  | tmp y =>
   show (only _ _ st).T.getD y ud = st.T.getD y ud
   rw [only_T, if_pos (opT_mem hx)]
  | _ => rfl) (fun x hx t n hn => by rw [only_ob, if_pos (refsO_mem hx hn)])
 rw [h] at q2
 have hc : Clean m (only (opT o) (refsO P o st) st) := by
  refine ⟨fun j => ?_, fun ob ho => ?_, fun ob ho => ?_⟩
  ·rw [only_T]
   split
   ·rename_i hj
    cases hx : mentD m (st.T.getD j ud) with
    | false => rfl
    | true =>
     obtain ⟨x, hx1, e⟩ := List.mem_filterMap.1 hj
     cases x with
     | tmp y => simp only [Option.some.injEq] at e; subst e; exact absurd (refsO_mem (t := 0) hx1 hx) h1
     | _ => cases e
   ·rfl
  ·obtain ⟨i, hi⟩ := List.mem_iff_getElem?.1 ho
   have := only_ob (st := st) (opT o) (refsO P o st) (.loc i)
   have e : getOb (only (opT o) (refsO P o st) st).L (only (opT o) (refsO P o st) st).O (.loc i) = ob := by
    show (only (opT o) (refsO P o st) st).L.getD i .none = ob
    rw [List.getD_eq_getElem?_getD, hi]; rfl
   rw [e] at this
   rw [this]
   split
   ·rename_i hn; exact h2 _ hn
   ·rfl
  ·obtain ⟨i, hi⟩ := List.mem_iff_getElem?.1 ho
   have := only_ob (st := st) (opT o) (refsO P o st) (.out i)
   have e : getOb (only (opT o) (refsO P o st) st).L (only (opT o) (refsO P o st) st).O (.out i) = ob := by
    show (only (opT o) (refsO P o st) st).O.getD i .none = ob
    rw [List.getD_eq_getElem?_getD, hi]; rfl
   rw [e] at this
   rw [this]
   split
   ·rename_i hn; exact h2 _ hn
   ·rfl
 rw [look_ment hl q1 hc q2] at hm
 cases hm
theorem stp_look {call : CallF} (hl : lookOp o.op = true) (hq : quietOK P o st = true) : stp call P o st = (stepOp call P o st fun d _ => some d).map fun d => st.put o.dst d := by
 unfold stp
 rw [stepOp_bind (k := fun d _ => some d)]
 cases hs : stepOp call P o st pr with
 | none => rfl
 | some q =>
  have := look_pr hl hq hs
  simp only [Option.map_some, Option.bind_some, un2, this]
theorem oneRow_pureish : ∀ {ds : List Dv}, pureish ds = true → oneRow ds = none
 | [], _ => rfl
 | .p x :: ds, h => oneRow_pureish (ds := ds) h
 | .nilsl s :: ds, h => oneRow_pureish (ds := ds) h
 | .ptr .. :: _, h => by cases h
 | .arr _ :: _, h => by cases h
 | .el .. :: _, h => by cases h
 | .ro .. :: _, h => by cases h
 | .agg .. :: _, h => by cases h
 | .fn .. :: _, h => by cases h
 | .tup _ :: _, h => by cases h
 | .mp _ :: _, h => by cases h
 | .sub .. :: _, h => by cases h
theorem call2N_quiet (hq : quietOK P o st = true) : call2N P o st = none := by
 unfold call2N
 split
 ·rename_i c ho
  split
  ·rename_i f hc
   split
   ·rename_i hcc
    unfold quietOK at hq
    rw [ho] at hq
    dsimp only at hq
    rw [hc] at hq
    dsimp only at hq
    have hcal : callee P st (.func f) = some (f, []) := rfl
    rw [hcal] at hq
    dsimp only at hq
    rw [List.append_nil, hcc.2, Bool.false_and, Bool.or_false, Bool.and_eq_true] at hq
    rw [oneRow_pureish hq.2]
   ·rfl
  ·rfl
 ·rfl
theorem look_not {call : CallF} (hl : lookOp o.op = true) (st : St) : storeN P o st = none ∧ appN P o st = none ∧ isBo o = false ∧ app2N P o st = none := by
 refine ⟨?_, ?_, ?_, ?_⟩
 ·unfold storeN
  cases ho : o.op <;> first | rfl | (rw [ho] at hl; cases hl)
 ·unfold appN
  cases ho : o.op with
  | call c =>
   cases hd : o.dst with
   | none => rfl
   | some s =>
    dsimp only
    rw [ho] at hl
    simp only [lookOp] at hl
    split
    ·rename_i hc _ _
     rw [hc] at hl
     cases hl
    ·rfl
  | _ => rfl
 ·unfold isBo
  cases ho : o.op <;> first | rfl | (rw [ho] at hl; cases hl)
 ·unfold app2N
  cases ho : o.op with
  | call c =>
   cases hd : o.dst with
   | none => rfl
   | some s =>
    dsimp only
    rw [ho] at hl
    simp only [lookOp] at hl
    split
    ·rename_i hc _ _
     rw [hc] at hl
     cases hl
    ·rfl
  | _ => rfl
theorem fpK_look (h0 : (noLink P o st && dstOK o st) = true) (h1 : (Cfg.mix && isMix P o st) = false) (hno : ownO o = false) (hq : quietOK P o st = true) (hl : lookOp o.op = true) : fpK P o st = some (mkFp P o st [] []) := by
 obtain ⟨q1, q2, q3, q5⟩ := look_not (P := P) (call := fun _ _ _ => none) hl st
 unfold fpK
 rw [h0, h1, hno, q1]
 dsimp only [Bool.not_true, cond_false]
 rw [callN_quiet hq, q2]
 dsimp only
 rw [q5]
 dsimp only
 rw [call2N_quiet hq]
 dsimp only
 rw [hq, hl]
 rfl
theorem may_refs {wr sc : List Nm} {k : Nat} {m : Nm} (h : m ∈ refsO P o st ∨ ∃ n ∈ refsO P o st, mentOb m (getOb st.L st.O n) = true) : May (mkFp P o st wr sc) st k m := by
 rcases h with q | ⟨n, q1, q2⟩
 ·exact .inl (List.mem_append_left _ q)
 ·exact .inr (.inr (.inl ⟨n, .inl (List.mem_append_left _ q1), q2⟩))
theorem loc_look {call : CallF} (h0 : (noLink P o st && dstOK o st) = true) (h1 : (Cfg.mix && isMix P o st) = false) (hno : ownO o = false) (hq : quietOK P o st = true) (hl : lookOp o.op = true) (h : stpM call P o st = some st1) : Loc call P o (mkFp P o st [] []) st st1 := by
 have h0' := h0
 simp only [Bool.and_eq_true] at h0'
 rw [stpM_old h0'.1 h1, stp_look hl hq] at h
 obtain ⟨d, hd, rfl⟩ := Option.map_eq_some_iff.1 h
 have is : ∀ st0 : St, Is ⟨d, [], [], []⟩ o st0 (st0.put o.dst d) := fun st0 => is_put st0.L st0.O rfl rfl fun m => rfl
 refine ⟨⟨d, [], [], []⟩, is st, wf_mk rfl (fun m hm => by cases hm) (fun q hq => by cases hq) (fun m hm => may_refs (look_may hl hq hd hm)) (fun q hq => by cases hq) (fun q hq => by cases hq) (fun _ => rfl) (fun q => by rw [hno] at q; cases q), fun st' ag pr => ?_⟩
 obtain ⟨q1, q2⟩ := look_agree (call := call) (st' := st') hl hq ag.x fun x hx t m hm => ag.refs m (refsO_mem hx hm)
 have h0n : (noLink P o st' && dstOK o st') = true := by rw [ag.noLink, dstOK_same ag.n]; exact h0
 have h1n : (Cfg.mix && isMix P o st') = false := by rw [isMix_same ag.x ag.refs]; exact h1
 have h0n' := h0n
 simp only [Bool.and_eq_true] at h0n'
 refine ⟨st'.put o.dst d, ?_, ?_, is st'⟩
 ·rw [stpM_old h0n'.1 h1n, stp_look hl q1, q2, hd]; rfl
 ·rw [fpK_look h0n h1n hno q1 hl, ag.same]
theorem fresh_is {s : Nat} {v : Dv} {ob : Ob} {L : List Ob} {up : List (Nm × Ob)} (hs : s < st.T.n) (hsz : st.T.n ≤ st.L.length) (hd : o.dst = some s) (hob : scrubOb (.loc s) ob = ob) (hl : L.length = st.L.length)
 (hL : ∀ m, getOb (L.map (scrubOb (.loc s))) (st.O.map (scrubOb (.loc s))) m = (upGet up m).getD (scrubOb (.loc s) (getOb st.L st.O m))) :
 Is ⟨v, [.loc s], up ++ [(.loc s, ob)], []⟩ o st ((St.fresh { st with L := L } s ob).put o.dst v) := by
 have h1 := put_LO (St.fresh { st with L := L } s ob) o.dst v
 refine ⟨by cases o.dst <;> rfl, fun t => ?_, by rw [h1.1]; simp [St.fresh, hl], by rw [h1.2]; simp [St.fresh], fun m _ => ?_, fun i hi => by cases hi⟩
 ·rw [hd]
  show ((st.T.map (scrub (.loc s))).set s v).getD t ud = _
  rw [Tm.getD_set]
  by_cases e : s = t
  ·subst e
   rw [if_pos rfl, if_pos (show s < (st.T.map (scrub (.loc s))).n from hs), if_pos ⟨rfl, hs⟩]
  ·rw [if_neg e, if_neg fun q => e (by injection q.1), Tm.getD_map rfl]
   rfl
 ·rw [h1.1, h1.2]
  have ap : ∀ (l : List (Nm × Ob)), upGet (l ++ [(.loc s, ob)]) m = if (.loc s : Nm) = m then some ob else upGet l m := by
   intro l
   induction l with
   | nil => simp [upGet]
   | cons q l ih =>
    obtain ⟨n, o'⟩ := q
    simp only [List.cons_append, upGet, ih]
    by_cases e : (.loc s : Nm) = m
    ·rw [if_pos e, if_pos e]
    ·rw [if_neg e, if_neg e]
  rw [ap]
  by_cases e : (.loc s : Nm) = m
  ·subst e
   rw [if_pos rfl]
   show ((L.map (scrubOb (.loc s))).set s (scrubOb (.loc s) ob)).getD s .none = ob
   rw [List.getD_eq_getElem?_getD, List.getElem?_set_self (by rw [List.length_map, hl]; omega), hob]
   rfl
  ·rw [if_neg e]
   show _ = (upGet up m).getD (scrubOb (.loc s) (getOb st.L st.O m))
   rw [← hL m]
   show getOb ((L.map (scrubOb (.loc s))).set s (scrubOb (.loc s) ob)) (st.O.map (scrubOb (.loc s))) m = _
   cases m with
   | out i => rfl
   | loc s' =>
    have hne : s ≠ s' := fun q => e (by rw [q])
    simp only [getOb, List.getD_eq_getElem?_getD]
    rw [List.getElem?_set_ne hne]
theorem bo_not (h : isBo o = true) (st : St) : lookOp o.op = false ∧ ownO o = false ∧ storeN P o st = none ∧ appN P o st = none ∧ app2N P o st = none := by
 obtain ⟨hop, s, hd⟩ := isBo_inv h
 rcases hop with ⟨t, len, ps, ho⟩ | ⟨t, ho⟩
 ·refine ⟨by rw [ho]; rfl, by unfold ownO; rw [ho], by unfold storeN; rw [ho], by unfold appN; rw [ho], by unfold app2N; rw [ho]⟩
 ·refine ⟨by rw [ho]; rfl, by unfold ownO; rw [ho], by unfold storeN; rw [ho], by unfold appN; rw [ho], by unfold app2N; rw [ho]⟩
theorem fpK_bo {s : Nat} (h0 : (noLink P o st && dstOK o st) = true) (h1 : (Cfg.mix && isMix P o st) = false) (hq : quietOK P o st = true) (hb : isBo o = true) (hd : o.dst = some s) : fpK P o st = some (mkFp P o st [.loc s] [.loc s]) := by
 obtain ⟨q1, q2, q3, q4, q5⟩ := bo_not (P := P) hb st
 unfold fpK
 rw [h0, h1, q2, q3]
 dsimp only [Bool.not_true, cond_false]
 rw [callN_quiet hq, q4]
 dsimp only
 rw [q5]
 dsimp only
 rw [call2N_quiet hq]
 dsimp only
 rw [hq, q1, hb, hd]
 rfl
theorem loc_bo {call : CallF} {s : Nat} (h0 : (noLink P o st && dstOK o st) = true) (h1 : (Cfg.mix && isMix P o st) = false) (hq : quietOK P o st = true) (hb : isBo o = true) (hd : o.dst = some s) (hp : PreS o st) (h : stpM call P o st = some st1) : Loc call P o (mkFp P o st [.loc s] [.loc s]) st st1 := by
 have hno := (bo_not (P := P) hb st).2.1
 have h0' := h0
 simp only [Bool.and_eq_true] at h0'
 rw [stpM_old h0'.1 h1] at h
 obtain ⟨s', v, hd', hv, hB⟩ := stp_build (P := P) (call := call) hb
 rw [hd] at hd'; injection hd' with hd'; subst hd'
 obtain ⟨ob, hob, e1, again⟩ := hB st st1 hq h
 have hlt : s < st.T.n := by
  have := h0'.2
  unfold dstOK at this
  rw [hd] at this
  simpa [blt_eq] using this
 have is : ∀ st0 : St, s < st0.T.n → st0.T.n ≤ st0.L.length → Is ⟨v, [.loc s], [(.loc s, ob)], []⟩ o st0 ((st0.fresh s ob).put o.dst v) := fun st0 g1 g2 =>
  fresh_is (st := st0) (L := st0.L) (up := []) g1 g2 hd (scrubOb_id (hob _)) rfl fun m => by rw [getOb_map _ _ (scrubOb_none _)]; rfl
 subst e1
 refine ⟨_, is st hlt hp.sz, wf_mk rfl (fun m hm => hm) (fun q hq => by rw [List.mem_singleton.1 hq]; simp) (fun m hm => ?_) (fun q hq m hm => ?_) (fun q hq => by cases hq) (fun _ => rfl) (fun q => by rw [hno] at q; cases q), fun st' ag pr => ?_⟩
 ·have : m = .loc s := by rcases hv with rfl | rfl <;> (simp only [mentD, decide_eq_true_eq] at hm; exact hm.symm)
  subst this
  exact .inr (.inl (List.mem_append_left _ (by simp)))
 ·rw [List.mem_singleton.1 hq, hob m] at hm
  cases hm
 ·obtain ⟨q1, q2⟩ := again st' ag.x
  have h0n : (noLink P o st' && dstOK o st') = true := by rw [ag.noLink, dstOK_same ag.n]; exact h0
  have h1n : (Cfg.mix && isMix P o st') = false := by rw [isMix_same ag.x ag.refs]; exact h1
  have h0n' := h0n
  simp only [Bool.and_eq_true] at h0n'
  refine ⟨_, ?_, ?_, is st' (by rw [ag.n]; exact hlt) pr.sz⟩
  ·rw [stpM_old h0n'.1 h1n, q2]
  ·rw [fpK_bo h0n h1n q1 hb hd, ag.same]
theorem store_inv {m : Nm} (hs : storeN P o st = some m) : ∃ t a v off, o.op = .store t a v ∧ opd P st 0 a = .ptr m off := by
 unfold storeN at hs
 split at hs
 ·rename_i t a v ho
  split at hs
  ·rename_i m' off e
   injection hs with hs; subst hs
   exact ⟨t, a, v, off, ho, e⟩
  ·cases hs
 ·cases hs
theorem loc_store {call : CallF} {m : Nm} (h0 : (noLink P o st && dstOK o st) = true) (h1 : (Cfg.mix && isMix P o st) = false) (hs : storeN P o st = some m) (h : stpM call P o st = some st1) : Loc call P o (mkFp P o st [m] []) st st1 := by
 obtain ⟨t, a, v, off, ho, ha⟩ := store_inv hs
 have hno : ownO o = false := by unfold ownO; rw [ho]
 have h0' := h0
 simp only [Bool.and_eq_true] at h0'
 rw [stpM_old h0'.1 h1] at h
 have run : ∀ st0 : St, opd P st0 0 a = .ptr m off → stp call P o st0 = (if P.cellsOf t = 0 then none else if sizeV (opd P st0 t v) = some (P.cellsOf t) then (storeOb off (P.cellsOf t) (opd P st0 t v) (getOb st0.L st0.O m)).map fun ob => (⟨st0.T, setL st0.L m ob, setO st0.O m ob⟩ : St).put o.dst ud else none) := by
  intro st0 e
  unfold stp stepOp
  simp only [ho]
  split
  ·rfl
  ·unfold storeD
   rw [e]
   split
   ·dsimp only
    split <;> rename_i e' <;> rw [e'] <;> rfl
   ·rfl
 have hfp : ∀ st0 : St, (noLink P o st0 && dstOK o st0) = true → (Cfg.mix && isMix P o st0) = false → opd P st0 0 a = .ptr m off → fpK P o st0 = some (mkFp P o st0 [m] []) := by
  intro st0 k0 k1 e
  have : storeN P o st0 = some m := by unfold storeN; rw [ho]; dsimp only; rw [e]
  unfold fpK
  rw [k0, k1, hno, this]
  rfl
 have hao : a ∈ o.op.operands.toList := by rw [ho]; simp [Op.operands]
 have hvo : v ∈ o.op.operands.toList := by rw [ho]; simp [Op.operands]
 rw [run st ha] at h
 split at h
 ·cases h
 rename_i c1
 split at h
 case isFalse => cases h
 rename_i c2
 obtain ⟨ob, g1, g2⟩ := Option.map_eq_some_iff.1 h
 have is : ∀ st0 : St, storeOb off (P.cellsOf t) (opd P st0 t v) (getOb st0.L st0.O m) = some ob → Is ⟨ud, [], [(m, ob)], []⟩ o st0 ((⟨st0.T, setL st0.L m ob, setO st0.O m ob⟩ : St).put o.dst ud) := fun st0 k0 => by
  have hlen := setLO_len st0.L st0.O m ob
  have hn : getOb st0.L st0.O m ≠ .none := fun q => by rw [q] at k0; cases k0
  refine is_put _ _ hlen.1 hlen.2 fun m' => ?_
  by_cases e : m = m'
  ·subst e
   rw [getOb_self _ _ hn]
   simp [upGet]
  ·rw [getOb_ne _ _ fun q => e q.symm]
   simp [upGet, e]
 subst g2
 refine ⟨_, is st g1, wf_mk rfl (fun m hm => by cases hm) (fun q hq => by rw [List.mem_singleton.1 hq]; simp) (fun m hm => by cases hm) (fun q hq m' hm => ?_) (fun q hq => by cases hq) (fun _ => rfl) (fun q => by rw [hno] at q; cases q), fun st' ag pr => ?_⟩
 ·rw [List.mem_singleton.1 hq] at hm
  cases hx : mentD m' (opd P st t v) with
  | true => exact may_refs (.inl (refsO_mem hvo hx))
  | false =>
   cases hy : mentOb m' (getOb st.L st.O m) with
   | true => exact .inr (.inr (.inl ⟨m, .inr (List.mem_append_left _ (by simp)), hy⟩))
   | false =>
    rw [(storeOb_ment g1 hx hy).1] at hm
    cases hm
 ·have h0n : (noLink P o st' && dstOK o st') = true := by rw [ag.noLink, dstOK_same ag.n]; exact h0
  have h1n : (Cfg.mix && isMix P o st') = false := by rw [isMix_same ag.x ag.refs]; exact h1
  have h0n' := h0n
  simp only [Bool.and_eq_true] at h0n'
  have ha' : opd P st' 0 a = .ptr m off := (ag.x a hao 0).trans ha
  have hb : getOb st'.L st'.O m = getOb st.L st.O m := ag.b m (.inr (List.mem_append_left _ (by simp)))
  have g1' : storeOb off (P.cellsOf t) (opd P st' t v) (getOb st'.L st'.O m) = some ob := by rw [ag.x v hvo, hb]; exact g1
  refine ⟨_, ?_, ?_, is st' g1'⟩
  ·rw [stpM_old h0n'.1 h1n, run st' ha', if_neg c1, if_pos (by rw [ag.x v hvo]; exact c2), g1']; rfl
  ·rw [hfp st' h0n h1n ha', ag.same]
theorem ownV_ag {call : CallF} (ho : ownO o = true) (h1 : ∀ x ∈ o.op.operands.toList, ∀ t, opd P st' t x = opd P st t x) (h2 : ∀ m ∈ refsO P o st, getOb st'.L st'.O m = getOb st.L st.O m) (h3 : st'.L.length = st.L.length) : ownV P call o st' = ownV P call o st := by
 obtain ⟨c, f, hop, hc, _⟩ := own_inv ho
 unfold ownV
 rw [hop]
 dsimp only
 rw [hc]
 dsimp only
 have hops : opds P st' c.args.toList c.argTypes.toList = opds P st c.args.toList c.argTypes.toList := opds_eq _ _ fun x hx => h1 x (args_mem hop hx)
 have hpk : peekAll st'.L st'.O (opds P st c.args.toList c.argTypes.toList) = peekAll st.L st.O (opds P st c.args.toList c.argTypes.toList) := peekAll_ag fun d hd m hm => by
  obtain ⟨x, hx, t, rfl⟩ := opds_mem _ _ d hd
  exact h2 m (refsO_mem (args_mem hop hx) hm)
 rw [hops, hpk, h3]
theorem loc_own {call : CallF} (h0 : (noLink P o st && dstOK o st) = true) (h1 : (Cfg.mix && isMix P o st) = false) (ho : ownO o = true) (hp : PreS o st) (h : stpM call P o st = some st1) : Loc call P o (mkFp P o st [] []) st st1 := by
 have h0' := h0
 simp only [Bool.and_eq_true] at h0'
 rw [stpM_old h0'.1 h1] at h
 have run : ∀ st0 : St, Fresh st0 → stp call P o st0 = (ownV P call o st0).map fun q => (⟨st0.T, st0.L ++ q.2, st0.O⟩ : St).put o.dst q.1 := by
  intro st0 h0
  unfold stp
  rw [step_own ho h0, Option.map_map]
  rfl
 have hfp : ∀ st0 : St, (noLink P o st0 && dstOK o st0) = true → (Cfg.mix && isMix P o st0) = false → fpK P o st0 = some (mkFp P o st0 [] []) := by
  intro st0 k0 k1
  unfold fpK
  rw [k0, k1, ho]
  rfl
 rw [run st (hp.fr ho)] at h
 obtain ⟨⟨v, os⟩, g1, g2⟩ := Option.map_eq_some_iff.1 h
 obtain ⟨m1, m2⟩ := ownV_ment g1
 have is : ∀ st0 : St, Is ⟨v, [], [], os⟩ o st0 ((⟨st0.T, st0.L ++ os, st0.O⟩ : St).put o.dst v) := by
  intro st0
  have hLO := put_LO (⟨st0.T, st0.L ++ os, st0.O⟩ : St) o.dst v
  have base := is_put (st := st0) (o := o) (v := v) st0.L st0.O rfl rfl (up := []) fun m => rfl
  refine ⟨by cases o.dst <;> rfl, fun t => ?_, by rw [hLO.1]; exact List.length_append, by rw [hLO.2], fun m hm => ?_, fun i hi => ?_⟩
  ·have := base.t t
   rw [← this]
   cases o.dst <;> rfl
  ·rw [hLO.1, hLO.2]
   cases m with
   | out i => rfl
   | loc s =>
    show (st0.L ++ os).getD s .none = st0.L.getD s .none
    rw [List.getD_eq_getElem?_getD, List.getD_eq_getElem?_getD]
    rcases hm s rfl with q | q
    ·rw [List.getElem?_append_left q]
    ·have q : st0.L.length + os.length ≤ s := q
     rw [List.getElem?_eq_none (by rw [List.length_append]; omega), List.getElem?_eq_none (by omega)]
  ·rw [hLO.1, hLO.2]
   show (st0.L ++ os).getD (st0.L.length + i) .none = os.getD i .none
   rw [List.getD_eq_getElem?_getD, List.getD_eq_getElem?_getD, List.getElem?_append_right (by omega)]
   congr 2
   omega
 subst g2
 refine ⟨_, is st, wf_mk rfl (fun m hm => by cases hm) (fun q hq => by cases hq) (fun m hm => ?_) (fun q hq => by cases hq) (fun q hq m => m2 q hq m) (fun q => by rw [ho] at q; cases q) (fun _ => ⟨rfl, rfl⟩), fun st' ag pr => ?_⟩
 ·rcases off_or st.L.length os.length m with q | ⟨i, q1, q2⟩
  ·rw [m1 m q] at hm; cases hm
  ·exact .inr (.inr (.inr ⟨i, q1, q2⟩))
 ·have h0n : (noLink P o st' && dstOK o st') = true := by rw [ag.noLink, dstOK_same ag.n]; exact h0
  have h1n : (Cfg.mix && isMix P o st') = false := by rw [isMix_same ag.x ag.refs]; exact h1
  have h0n' := h0n
  simp only [Bool.and_eq_true] at h0n'
  have g1' : ownV P call o st' = some (v, os) := by rw [ownV_ag ho ag.x ag.refs (ag.l ho)]; exact g1
  refine ⟨_, ?_, ?_, is st'⟩
  ·rw [stpM_old h0n'.1 h1n, run st' (pr.fr ho), g1']; rfl
  ·rw [hfp st' h0n h1n, ag.same]
def zipN : List Nm → List Ob → List (Nm × Ob)
 | n :: ns, o :: os => (n, o) :: zipN ns os
 | _, _ => []
theorem zipN_mem : ∀ (ns : List Nm) (os : List Ob) (q : Nm × Ob), q ∈ zipN ns os → q.1 ∈ ns ∧ q.2 ∈ os
 | n :: ns, o :: os, q, h => by
  rcases List.mem_cons.1 h with e | e
  ·subst e; exact ⟨List.mem_cons_self .., List.mem_cons_self ..⟩
  ·have := zipN_mem ns os q e
   exact ⟨List.mem_cons_of_mem _ this.1, List.mem_cons_of_mem _ this.2⟩
 | [], _, q, h => by simp [zipN] at h
 | _ :: _, [], q, h => by simp [zipN] at h
theorem zipN_none : ∀ (ns : List Nm) (os : List Ob) (m : Nm), m ∉ ns → upGet (zipN ns os) m = none
 | n :: ns, o :: os, m, h => by
  simp only [zipN, upGet, zipN_none ns os m fun q => h (List.mem_cons_of_mem _ q)]
  rw [if_neg fun e => h (by rw [e]; exact List.mem_cons_self ..)]
 | [], _, m, h => by simp [zipN, upGet]
 | _ :: _, [], m, h => by simp [zipN, upGet]
theorem zipN_get : ∀ (ns : List Nm) (os : List Ob) (i : Nat) (m : Nm), ns.Nodup → os.length = ns.length → ns[i]? = some m → upGet (zipN ns os) m = some (os.getD i .none)
 | n :: ns, o :: os, 0, m, hn, hl, h => by
  simp only [List.getElem?_cons_zero, Option.some.injEq] at h
  subst h
  simp only [zipN, upGet, zipN_none ns os n (List.nodup_cons.1 hn).1]
  simp
 | n :: ns, o :: os, i + 1, m, hn, hl, h => by
  simp only [zipN, upGet]
  rw [zipN_get ns os i m (List.nodup_cons.1 hn).2 (by simpa using hl) (by simpa using h)]
  simp
 | [], _, i, m, _, _, h => by simp at h
 | n :: ns, [], i, m, _, hl, h => by simp at hl
theorem loc_call {call : CallF} {ns0 : List Nm} (h0 : (noLink P o st && dstOK o st) = true) (h1 : (Cfg.mix && isMix P o st) = false) (hcn : callN P o st = some ns0) (h : stpM call P o st = some st1) : Loc call P o (mkFp P o st ns0 []) st st1 := by
 obtain ⟨c, g, n, ns', ho, hcl, hg, hb, e, hnd⟩ := callN_inv hcn
 subst e
 have h0' := h0
 simp only [Bool.and_eq_true] at h0'
 rw [stpM_old h0'.1 h1] at h
 have hno : ownO o = false := by
  unfold ownO
  rw [ho]
  dsimp only
  rw [hcl]
  cases h1 : Cfg.wr g <;> cases h2 : Cfg.own g <;> cases h3 : Cfg.mak g <;> simp [h1, h2, h3] at hg ⊢
 have run : ∀ st0 : St, boxNs st0.L st0.O (opds P st0 c.args.toList c.argTypes.toList) = some (n :: ns') → stp call P o st0 = (match P.funcs[g]? with
  | some fn => if fn.body.isSome ∧ fn.name ≠ "runtime.NumGoroutine" then (callX P fn.resultTypes.toList call g (opds P st0 c.args.toList c.argTypes.toList) (n :: ns') ((n :: ns').map (getOb st0.L st0.O))).map fun q => (⟨st0.T, (backAll st0.L st0.O (n :: ns') q.2).1, (backAll st0.L st0.O (n :: ns') q.2).2⟩ : St).put o.dst (retV q.1) else none
  | none => none) := by
  intro st0 hb0
  unfold stp stepOp
  have hcal : callee P st0 (.func g) = some (g, []) := rfl
  simp only [ho, hcl, hcal, List.append_nil]
  cases P.funcs[g]? with
  | none => rfl
  | some fn =>
   dsimp only
   split
   ·obtain ⟨T, L, O⟩ := st0
    rw [callD_box hg hb0 hnd, Option.map_bind]
    cases callX P fn.resultTypes.toList call g (opds P ⟨T, L, O⟩ c.args.toList c.argTypes.toList) (n :: ns') ((n :: ns').map (getOb L O)) <;> rfl
   ·rfl
 have hfp : ∀ st0 : St, (noLink P o st0 && dstOK o st0) = true → (Cfg.mix && isMix P o st0) = false → boxNs st0.L st0.O (opds P st0 c.args.toList c.argTypes.toList) = some (n :: ns') → fpK P o st0 = some (mkFp P o st0 (n :: ns') []) := by
  intro st0 k0 k1 hb0
  have h1 : storeN P o st0 = none := by unfold storeN; rw [ho]
  have h2 : callN P o st0 = some (n :: ns') := by
   unfold callN
   rw [ho]
   dsimp only
   rw [hcl]
   dsimp only
   rw [hg, cond_true, hb0]
   dsimp only
   rw [hnd, cond_true]
  unfold fpK
  rw [k0, k1, hno, h1, h2]
  rfl
 rw [run st hb] at h
 cases hfn : P.funcs[g]? with
 | none => rw [hfn] at h; cases h
 | some fn =>
  rw [hfn] at h
  dsimp only at h
  split at h
  case isFalse => cases h
  rename_i hbody
  obtain ⟨⟨ds, os⟩, g1, g2⟩ := Option.map_eq_some_iff.1 h
  have facts : ∀ (st0 : St), boxNs st0.L st0.O (opds P st0 c.args.toList c.argTypes.toList) = some (n :: ns') → callX P fn.resultTypes.toList call g (opds P st0 c.args.toList c.argTypes.toList) (n :: ns') ((n :: ns').map (getOb st0.L st0.O)) = some (ds, os) →
   Is ⟨retV ds, [], zipN (n :: ns') os, []⟩ o st0 ((⟨st0.T, (backAll st0.L st0.O (n :: ns') os).1, (backAll st0.L st0.O (n :: ns') os).2⟩ : St).put o.dst (retV ds)) ∧ (∃ ys : List Pd, ds = ys.map .p) ∧ ∀ z ∈ os, isBoxO z := by
   intro st0 hb0 k0
   obtain ⟨_, _, p3⟩ := boxNs_prep _ _ _ _ hb0
   have hbs : ∀ ob ∈ (n :: ns').map (getOb st0.L st0.O), isBoxO ob := fun ob hob => by
    obtain ⟨m, hm, rfl⟩ := List.mem_map.1 hob
    exact p3 m hm
   obtain ⟨⟨ys, hys⟩, hlen, hos⟩ := callX_inv hbs k0
   rw [List.length_map] at hlen
   have hget := (backAll_get (n :: ns') os st0.L st0.O (nodupN_get hnd) hlen).1
   have hlive := backAll_live (n :: ns') os st0.L st0.O (nodupN_get hnd) hlen (fun m hm => by obtain ⟨c, cs, e⟩ := p3 m hm; rw [e]; exact fun q => by cases q)
   have hbl := backAll_len (n :: ns') os st0.L st0.O
   refine ⟨is_put _ _ hbl.1 hbl.2 fun m => ?_, ⟨ys, hys⟩, hos⟩
   by_cases hm : m ∈ n :: ns'
   ·obtain ⟨i, hi⟩ := List.mem_iff_getElem?.1 hm
    rw [hlive i m hi, zipN_get _ _ i m (nodupN_get hnd) hlen hi]
    rfl
   ·rw [hget m hm, zipN_none _ _ m hm]
    rfl
  obtain ⟨i1, ⟨ys, hys⟩, hos⟩ := facts st hb g1
  subst g2
  refine ⟨_, i1, wf_mk rfl (fun m hm => by cases hm) (fun q hq => (zipN_mem _ _ q hq).1) (fun m hm => ?_) (fun q hq m hm => ?_) (fun q hq => by cases hq) (fun _ => rfl) (fun q => by rw [hno] at q; cases q), fun st' ag pr => ?_⟩
  ·rw [hys] at hm
   have : mentD m (retV (ys.map .p)) = false := retV_ment ys
   rw [this] at hm; cases hm
  ·obtain ⟨c, cs, e⟩ := hos q.2 (zipN_mem _ _ q hq).2
   rw [e] at hm; cases hm
  ·have h0n : (noLink P o st' && dstOK o st') = true := by rw [ag.noLink, dstOK_same ag.n]; exact h0
   have h1n : (Cfg.mix && isMix P o st') = false := by rw [isMix_same ag.x ag.refs]; exact h1
   have h0n' := h0n
   simp only [Bool.and_eq_true] at h0n'
   have hops := opds_sameX (P := P) ho ag.x
   have hob : ∀ m ∈ n :: ns', getOb st'.L st'.O m = getOb st.L st.O m := fun m hm => ag.b m (.inr (List.mem_append_left _ hm))
   have hb' : boxNs st'.L st'.O (opds P st' c.args.toList c.argTypes.toList) = some (n :: ns') := by rw [hops]; exact boxNs_ag _ _ hb hob
   have hmap : (n :: ns').map (getOb st'.L st'.O) = (n :: ns').map (getOb st.L st.O) := List.map_congr_left hob
   have g1' : callX P fn.resultTypes.toList call g (opds P st' c.args.toList c.argTypes.toList) (n :: ns') ((n :: ns').map (getOb st'.L st'.O)) = some (ds, os) := by rw [hops, hmap]; exact g1
   refine ⟨_, ?_, ?_, (facts st' hb' g1').1⟩
   ·rw [stpM_old h0n'.1 h1n, run st' hb', hfn]; dsimp only; rw [if_pos hbody, g1']; rfl
   ·rw [hfp st' h0n h1n hb', ag.same]
theorem upGet_snoc (m n : Nm) (ob : Ob) : ∀ l : List (Nm × Ob), upGet (l ++ [(n, ob)]) m = if n = m then some ob else upGet l m
 | [] => by simp [upGet]
 | (k, o') :: l => by
  simp only [List.cons_append, upGet, upGet_snoc m n ob l]
  by_cases e : n = m
  ·rw [if_pos e, if_pos e]
  ·rw [if_neg e, if_neg e]
theorem scr_is {m : Nm} {v : Dv} {ob : Ob} {L : List Ob} {up : List (Nm × Ob)} (hl : L.length = st.L.length) (hL : ∀ m', getOb (L.map (scrubOb m)) (st.O.map (scrubOb m)) m' = (upGet up m').getD (scrubOb m (getOb st.L st.O m')))
 (hlive : getOb (L.map (scrubOb m)) (st.O.map (scrubOb m)) m ≠ .none) :
 Is ⟨v, [m], up ++ [(m, ob)], []⟩ o st ((⟨st.T.map (scrub m), setL (L.map (scrubOb m)) m ob, setO (st.O.map (scrubOb m)) m ob⟩ : St).put o.dst v) := by
 have h1 := put_LO (⟨st.T.map (scrub m), setL (L.map (scrubOb m)) m ob, setO (st.O.map (scrubOb m)) m ob⟩ : St) o.dst v
 have hlen := setLO_len (L.map (scrubOb m)) (st.O.map (scrubOb m)) m ob
 refine ⟨by cases o.dst <;> rfl, fun t => ?_, by rw [h1.1, hlen.1]; simp [hl], by rw [h1.2, hlen.2]; simp, fun m' _ => ?_, fun i hi => by cases hi⟩
 ·cases hd : o.dst with
  | none =>
   show (st.T.map (scrub m)).getD t ud = _
   rw [Tm.getD_map rfl]
   simp [scrubAll]
  | some s =>
   show ((st.T.map (scrub m)).set s v).getD t ud = _
   rw [Tm.getD_set]
   by_cases e : s = t
   ·subst e
    by_cases hlt : s < st.T.n
    ·rw [if_pos rfl, if_pos (show s < (st.T.map (scrub m)).n from hlt), if_pos ⟨rfl, hlt⟩]
    ·rw [if_pos rfl, if_neg (show ¬ s < (st.T.map (scrub m)).n from hlt), if_neg fun q => hlt q.2]
     show ud = scrubAll [m] (st.T.f s)
     rw [st.T.ok s (Nat.le_of_not_lt hlt)]
     rfl
   ·rw [if_neg e, if_neg fun q => e (by injection q.1), Tm.getD_map rfl]
    rfl
 ·rw [h1.1, h1.2]
  rw [upGet_snoc]
  by_cases e : m = m'
  ·subst e
   rw [if_pos rfl]
   exact getOb_self _ _ hlive _
  ·rw [if_neg e]
   show getOb (setL (L.map (scrubOb m)) m ob) (setO (st.O.map (scrubOb m)) m ob) m' = _
   rw [getOb_ne _ _ fun q => e q.symm]
   exact hL m'
theorem pureish_one {y : Dv} (h : pureish [y] = true) : (∃ x, y = .p x) ∨ ∃ s, y = .nilsl s := by
 cases y <;> first | exact .inl ⟨_, rfl⟩ | exact .inr ⟨_, rfl⟩ | cases h
def appV (P : Program) (t : TypeId) (y : Dv) (e0 s0 b0 : Nat) (ro0 : Bool) (es0 : List (List Pd)) : Option Ob := match P.underlying t with
 | some (.slice e) => if P.cellsOf e = 0 ∨ P.bytesOf e = 0 ∨ zeroOK P e = false then none else if Cfg.cur && rowful P e then none else
  (match y with
   | .p yv => asSl (P.cellsOf e) yv
   | .nilsl s => asSl (P.cellsOf e) (.sl s [])
   | _ => none).bind fun ys => if e0 = e ∧ s0 = P.cellsOf e then (if (es0.length + ys.length) * P.bytesOf e ≤ LIM then some (.arr e (P.cellsOf e) b0 ro0 (es0 ++ ys)) else none) else none
 | _ => none
theorem appV_arr {t : TypeId} {y : Dv} {e0 s0 b0 : Nat} {ro0 : Bool} {es0 : List (List Pd)} {ob : Ob} (h : appV P t y e0 s0 b0 ro0 es0 = some ob) : ∃ e s b ro es, ob = .arr e s b ro es := by
 unfold appV at h
 split at h
 ·split at h
  ·cases h
  ·split at h
   ·cases h
   ·obtain ⟨ys, _, h⟩ := Option.bind_eq_some_iff.1 h
    split at h
    ·split at h
     ·injection h with h; exact ⟨_, _, _, _, _, h.symm⟩
     ·cases h
    ·cases h
 ·cases h
theorem appendD_arr {m : Nm} {s : Nat} {t : TypeId} {y : Dv} {st : St} {e0 s0 b0 : Nat} {ro0 : Bool} {es0 : List (List Pd)} (hl : getOb st.L st.O m = .arr e0 s0 b0 ro0 es0) (hy : pureish [y] = true) :
 appendD P st s t (.arr m) y pr = (appV P t y e0 s0 b0 ro0 es0).map fun ob => (.arr m, ⟨st.T.map (scrub m), setL (st.L.map (scrubOb m)) m ob, setO (st.O.map (scrubOb m)) m ob⟩) := by
 have more : ∀ sz e ys, appendD.more P st pr st.L st.O sz e m ys = (if e0 = e ∧ s0 = sz then (if (es0.length + ys.length) * P.bytesOf e ≤ LIM then some (Ob.arr e sz b0 ro0 (es0 ++ ys)) else none) else none).map fun ob => (Dv.arr m, (⟨st.T.map (scrub m), setL (st.L.map (scrubOb m)) m ob, setO (st.O.map (scrubOb m)) m ob⟩ : St)) := by
  intro sz e ys
  unfold appendD.more
  rw [hl]
  dsimp only
  split
  ·split <;> rfl
  ·rfl
 rw [appendD_eq]
 unfold appV
 split
 ·rename_i e he
  simp only [he]
  split
  ·rfl
  ·have how : ownAt st (.arr m) = none := by
    unfold ownAt
    dsimp only
    rw [hl]
   rw [how]
   dsimp only
   split
   ·rfl
   ·rcases pureish_one hy with ⟨x, rfl⟩ | ⟨s', rfl⟩
    ·simp only [view1]
     cases asSl (P.cellsOf e) x with
     | none => rfl
     | some ys => exact more _ _ _
    ·simp only [view1]
     cases asSl (P.cellsOf e) (.sl s' []) with
     | none => rfl
     | some ys => exact more _ _ _
 ·rename_i hn
  split
  ·rename_i e he
   exact absurd he (hn e)
  ·rfl
def appZ (P : Program) (t : TypeId) (y : Dv) : Option Ob := match P.underlying t with
 | some (.slice e) => if P.cellsOf e = 0 ∨ P.bytesOf e = 0 ∨ zeroOK P e = false then none else
  (match y with
   | .p yv => asSl (P.cellsOf e) yv
   | .nilsl s => asSl (P.cellsOf e) (.sl s [])
   | _ => none).bind fun ys => if ys.length * P.bytesOf e ≤ LIM then some (.arr e (P.cellsOf e) (P.bytesOf e) false ys) else none
 | _ => none
theorem appZ_arr {t : TypeId} {y : Dv} {ob : Ob} (h : appZ P t y = some ob) : ∃ e s b ro es, ob = .arr e s b ro es := by
 unfold appZ at h
 split at h
 ·split at h
  ·cases h
  ·obtain ⟨ys, _, h⟩ := Option.bind_eq_some_iff.1 h
   split at h
   ·injection h with h; exact ⟨_, _, _, _, _, h.symm⟩
   ·cases h
 ·cases h
theorem appendD_nil {s z : Nat} {t : TypeId} {y : Dv} {st : St} (hc : (Cfg.cur && elemR P t) = false) (hy : pureish [y] = true) :
 appendD P st s t (.nilsl z) y pr = (appZ P t y).map fun ob => (.arr (.loc s), st.fresh s ob) := by
 rw [appendD_eq]
 unfold appZ
 split
 ·rename_i e he
  simp only [he]
  split
  ·rfl
  ·have how : ownAt st (.nilsl z) = none := rfl
   rw [how]
   dsimp only
   have hr : (Cfg.cur && rowful P e) = false := by
    unfold elemR at hc
    rw [he] at hc
    exact hc
   rw [hr]
   simp only [Bool.false_eq_true, if_false]
   rcases pureish_one hy with ⟨x, rfl⟩ | ⟨s', rfl⟩
   ·simp only [view1]
    cases asSl (P.cellsOf e) x with
    | none => rfl
    | some ys =>
     simp only [Option.bind_some]
     split <;> rfl
   ·simp only [view1]
    cases asSl (P.cellsOf e) (.sl s' []) with
    | none => rfl
    | some ys =>
     simp only [Option.bind_some]
     split <;> rfl
 ·rename_i hn
  split
  ·rename_i e he
   exact absurd he (hn e)
  ·rfl
theorem appN_inv {m : Nm} (h : appN P o st = some m) : ∃ c s x y t t', o.op = .call c ∧ o.dst = some s ∧ c.callee = .builtin .append ∧ c.args.toList = [x, y] ∧ c.argTypes.toList = [t, t'] ∧ pureish [opd P st t y] = true ∧
 ((opd P st t x = .arr m ∧ ∃ e z b ro es, getOb st.L st.O m = .arr e z b ro es) ∨ (∃ z, opd P st t x = .nilsl z) ∧ (Cfg.cur && elemR P t) = false ∧ m = .loc s) := by
 unfold appN at h
 split at h
 ·rename_i c s ho hd
  split at h
  ·rename_i x y t t' hcl ha ht
   cases hp : pureish [opd P st t y] with
   | false => rw [hp] at h; cases h
   | true =>
    rw [hp, cond_true] at h
    refine ⟨c, s, x, y, t, t', ho, hd, hcl, ha, ht, hp, ?_⟩
    split at h
    ·rename_i m' hx
     split at h
     ·rename_i e z b ro es hm
      injection h with h; subst h
      exact .inl ⟨hx, _, _, _, _, _, hm⟩
     ·cases h
    ·rename_i z hx
     cases hc : (Cfg.cur && elemR P t) with
     | true => rw [hc] at h; cases h
     | false =>
      rw [hc, cond_false] at h
      injection h with h
      exact .inr ⟨⟨z, hx⟩, rfl, h.symm⟩
    ·cases h
  ·cases h
 ·cases h
theorem loc_app {call : CallF} {m : Nm} (h0 : (noLink P o st && dstOK o st) = true) (h1 : (Cfg.mix && isMix P o st) = false) (ha : appN P o st = some m) (hp : PreS o st) (h : stpM call P o st = some st1) : Loc call P o (mkFp P o st [m] [m]) st st1 := by
 obtain ⟨c, s, x, y, t, t', ho, hd, hcl, hargs, hts, hpu, hcase⟩ := appN_inv ha
 have h0' := h0
 simp only [Bool.and_eq_true] at h0'
 rw [stpM_old h0'.1 h1] at h
 have hno : ownO o = false := by unfold ownO; rw [ho]; dsimp only; rw [hcl]
 have hlt : s < st.T.n := by
  have := h0'.2
  unfold dstOK at this
  rw [hd] at this
  simpa [blt_eq] using this
 have hxo : x ∈ o.op.operands.toList := args_mem ho (by rw [hargs]; simp)
 have hyo : y ∈ o.op.operands.toList := args_mem ho (by rw [hargs]; simp)
 have run : ∀ st0 : St, stp call P o st0 = if t = t' then (appendD P st0 s t (opd P st0 t x) (opd P st0 t y) pr).map fun q => q.2.put o.dst q.1 else none := by
  intro st0
  unfold stp stepOp
  simp only [ho, hcl, hargs, hts, hd]
  split <;> rfl
 have fpk : ∀ st0 : St, (noLink P o st0 && dstOK o st0) = true → (Cfg.mix && isMix P o st0) = false → appN P o st0 = some m → fpK P o st0 = some (mkFp P o st0 [m] [m]) := by
  intro st0 k0 k1 k2
  have q1 : storeN P o st0 = none := by unfold storeN; rw [ho]
  have q2 : callN P o st0 = none := by unfold callN; rw [ho]; dsimp only; rw [hcl]
  unfold fpK
  rw [k0, k1, hno, q1, q2, k2]
  rfl
 have memw : ∀ st0 : St, m ∈ (mkFp P o st0 [m] [m]).wr := fun st0 => List.mem_append_left _ (by simp)
 rw [run] at h
 split at h
 case isFalse => cases h
 rename_i htt
 rcases hcase with ⟨hx, e0, z0, b0, ro0, es0, hm⟩ | ⟨⟨z, hx⟩, hc, hml⟩
 ·rw [hx, appendD_arr hm hpu, Option.map_map] at h
  obtain ⟨ob, g1, g2⟩ := Option.map_eq_some_iff.1 h
  obtain ⟨e9, s9, b9, ro9, es9, eo⟩ := appV_arr g1
  have is : ∀ st0 : St, getOb st0.L st0.O m = .arr e0 z0 b0 ro0 es0 → Is ⟨.arr m, [m], [(m, ob)], []⟩ o st0 ((⟨st0.T.map (scrub m), setL (st0.L.map (scrubOb m)) m ob, setO (st0.O.map (scrubOb m)) m ob⟩ : St).put o.dst (.arr m)) := fun st0 k0 =>
   scr_is (st := st0) (up := []) rfl (fun m' => by rw [getOb_map _ _ (scrubOb_none _)]; rfl) (by rw [getOb_map _ _ (scrubOb_none _), k0]; exact fun q => by cases q)
  subst g2
  refine ⟨_, is st hm, wf_mk rfl (fun m hm => hm) (fun q hq => by rw [List.mem_singleton.1 hq]; simp) (fun m' hm' => ?_) (fun q hq m' hm' => ?_) (fun q hq => by cases hq) (fun _ => rfl) (fun q => by rw [hno] at q; cases q), fun st' ag pr => ?_⟩
  ·simp only [mentD, decide_eq_true_eq] at hm'
   rw [← hm']
   exact .inr (.inl (memw st))
  ·rw [List.mem_singleton.1 hq, eo] at hm'
   cases hm'
  ·have h0n : (noLink P o st' && dstOK o st') = true := by rw [ag.noLink, dstOK_same ag.n]; exact h0
   have h1n : (Cfg.mix && isMix P o st') = false := by rw [isMix_same ag.x ag.refs]; exact h1
   have h0n' := h0n
   simp only [Bool.and_eq_true] at h0n'
   have hm' : getOb st'.L st'.O m = .arr e0 z0 b0 ro0 es0 := (ag.b m (.inr (memw st))).trans hm
   have hx' : opd P st' t x = .arr m := (ag.x x hxo t).trans hx
   have hy' := Ag.x (P := P) ag y hyo t
   refine ⟨_, ?_, ?_, is st' hm'⟩
   ·rw [stpM_old h0n'.1 h1n, run, if_pos htt, hx', hy', appendD_arr hm' hpu, g1]
    rfl
   ·rw [fpk st' h0n h1n (by
     unfold appN
     simp only [ho, hd, hcl, hargs, hts, hy', hpu, cond_true, hx', hm']), ag.same]
 ·subst hml
  rw [hx, appendD_nil hc hpu, Option.map_map] at h
  obtain ⟨ob, g1, g2⟩ := Option.map_eq_some_iff.1 h
  obtain ⟨e9, s9, b9, ro9, es9, eo⟩ := appZ_arr g1
  have is : ∀ st0 : St, s < st0.T.n → st0.T.n ≤ st0.L.length → Is ⟨.arr (.loc s), [.loc s], [(.loc s, ob)], []⟩ o st0 ((st0.fresh s ob).put o.dst (.arr (.loc s))) := fun st0 k1 k2 =>
   fresh_is (st := st0) (L := st0.L) (up := []) k1 k2 hd (by rw [eo]; rfl) rfl fun m => by rw [getOb_map _ _ (scrubOb_none _)]; rfl
  subst g2
  refine ⟨_, is st hlt hp.sz, wf_mk rfl (fun m hm => hm) (fun q hq => by rw [List.mem_singleton.1 hq]; simp) (fun m' hm' => ?_) (fun q hq m' hm' => ?_) (fun q hq => by cases hq) (fun _ => rfl) (fun q => by rw [hno] at q; cases q), fun st' ag pr => ?_⟩
  ·simp only [mentD, decide_eq_true_eq] at hm'
   rw [← hm']
   exact .inr (.inl (memw st))
  ·rw [List.mem_singleton.1 hq, eo] at hm'
   cases hm'
  ·have h0n : (noLink P o st' && dstOK o st') = true := by rw [ag.noLink, dstOK_same ag.n]; exact h0
   have h1n : (Cfg.mix && isMix P o st') = false := by rw [isMix_same ag.x ag.refs]; exact h1
   have h0n' := h0n
   simp only [Bool.and_eq_true] at h0n'
   have hx' : opd P st' t x = .nilsl z := (ag.x x hxo t).trans hx
   have hy' := Ag.x (P := P) ag y hyo t
   refine ⟨_, ?_, ?_, is st' (by rw [ag.n]; exact hlt) pr.sz⟩
   ·rw [stpM_old h0n'.1 h1n, run, if_pos htt, hx', hy', appendD_nil hc hpu, g1]
    rfl
   ·rw [fpk st' h0n h1n (by
     unfold appN
     simp only [ho, hd, hcl, hargs, hts, hy', hpu, cond_true, hx', hc, cond_false]), ag.same]
theorem app2N_inv {m n : Nm} (h : app2N P o st = some (m, n)) : ∃ c s x y t t' k e z b ro es, n = .loc k ∧ o.op = .call c ∧ o.dst = some s ∧ c.callee = .builtin .append ∧ c.args.toList = [x, y] ∧ c.argTypes.toList = [t, t'] ∧ opd P st t y = .arr (.loc k) ∧ getOb st.L st.O (.loc k) = .arr e z b ro es ∧
 ((opd P st t x = .arr m ∧ m ≠ .loc k ∧ ∃ e z b ro es, getOb st.L st.O m = .arr e z b ro es) ∨ (∃ z, opd P st t x = .nilsl z) ∧ (Cfg.cur && elemR P t) = false ∧ m = .loc s ∧ s ≠ k) := by
 unfold app2N at h
 split at h
 ·rename_i c s ho hd
  split at h
  ·rename_i x y t t' hcl ha ht
   split at h
   ·rename_i k hy
    split at h
    ·rename_i e z b ro es hk
     refine ⟨c, s, x, y, t, t', k, e, z, b, ro, es, ?_⟩
     split at h
     ·rename_i m' hx
      split at h
      ·rename_i e' z' b' ro' es' hm
       split at h
       ·cases h
       ·rename_i hne
        injection h with h; injection h with h1 h2; subst h1 h2
        exact ⟨rfl, ho, hd, hcl, ha, ht, hy, hk, .inl ⟨hx, hne, _, _, _, _, _, hm⟩⟩
      ·cases h
     ·rename_i z' hx
      split at h
      ·cases h
      ·rename_i hc
       injection h with h; injection h with h1 h2; subst h1 h2
       exact ⟨rfl, ho, hd, hcl, ha, ht, hy, hk, .inr ⟨⟨_, hx⟩, by cases hcc : (Cfg.cur && elemR P t) with
        | true => exact absurd (.inl hcc) hc
        | false => rfl, rfl, fun q => hc (.inr q)⟩⟩
     ·cases h
    ·cases h
   ·cases h
  ·cases h
 ·cases h
def viewN (st : St) (k e z b : Nat) (es : List (List Pd)) : St := ⟨st.T, setL st.L (.loc k) (.arr e z b true es), st.O⟩
theorem appendD_viewA {m : Nm} {s k e z b e1 z1 b1 : Nat} {t : TypeId} {ro ro1 : Bool} {es es1 : List (List Pd)} (hk : getOb st.L st.O (.loc k) = .arr e z b ro es) (hne : m ≠ .loc k) (hm : getOb st.L st.O m = .arr e1 z1 b1 ro1 es1) :
 appendD P st s t (.arr m) (.arr (.loc k)) pr = appendD P (viewN st k e z b es) s t (.arr m) (.p (.sl z es)) pr := by
 have hm' : getOb (viewN st k e z b es).L (viewN st k e z b es).O m = .arr e1 z1 b1 ro1 es1 := (getOb_ne st.L st.O (m := .loc k) (m' := m) hne _).trans hm
 have h1 : ownAt st (.arr m) = none := by unfold ownAt; simp only [hm]
 have h2 : ownAt (viewN st k e z b es) (.arr m) = none := by unfold ownAt; simp only [hm']
 rw [appendD_eq, appendD_eq, h1, h2]
 simp only [view1, hk, if_neg fun q : Nm.loc k = m => hne q.symm]
 rfl
theorem appendD_viewZ {s k e z b z0 : Nat} {t : TypeId} {ro : Bool} {es : List (List Pd)} (hk : getOb st.L st.O (.loc k) = .arr e z b ro es) (hc : (Cfg.cur && elemR P t) = false) :
 appendD P st s t (.nilsl z0) (.arr (.loc k)) pr = appendD P (viewN st k e z b es) s t (.nilsl z0) (.p (.sl z es)) pr := by
 have h1 : ownAt st (.nilsl z0) = none := rfl
 have h2 : ownAt (viewN st k e z b es) (.nilsl z0) = none := rfl
 rw [appendD_eq, appendD_eq, h1, h2]
 cases hu : P.underlying t with
 | none => rfl
 | some ty =>
 cases ty with
 | slice e0 =>
  have hr : (Cfg.cur && rowful P e0) = false := by
   unfold elemR at hc
   rw [hu] at hc
   exact hc
  simp only [hr, view1, hk]
  rfl
 | _ => rfl
theorem viewN_get {k e z b : Nat} {ro : Bool} {es : List (List Pd)} (hk : getOb st.L st.O (.loc k) = .arr e z b ro es) (m m' : Nm) : getOb ((viewN st k e z b es).L.map (scrubOb m)) (st.O.map (scrubOb m)) m' = (upGet [(.loc k, .arr e z b true es)] m').getD (scrubOb m (getOb st.L st.O m')) := by
 rw [getOb_map _ _ (scrubOb_none _)]
 by_cases e0 : m' = .loc k
 ·subst e0
  have : getOb (viewN st k e z b es).L st.O (.loc k) = .arr e z b true es := getOb_self st.L st.O (m := .loc k) (by rw [hk]; exact fun q => by cases q) _
  rw [this]
  simp [upGet, scrubOb]
 ·have : getOb (viewN st k e z b es).L st.O m' = getOb st.L st.O m' := getOb_ne st.L st.O (m := .loc k) e0 _
  rw [this]
  have e1 : ¬ Nm.loc k = m' := fun q => e0 q.symm
  simp only [upGet, if_neg e1, Option.getD_none]
theorem loc_app2 {call : CallF} {m n : Nm} (h0 : (noLink P o st && dstOK o st) = true) (h1 : (Cfg.mix && isMix P o st) = false) (ha0 : appN P o st = none) (ha : app2N P o st = some (m, n)) (hp : PreS o st) (h : stpM call P o st = some st1) : Loc call P o (mkFp P o st [m, n] [m]) st st1 := by
 obtain ⟨c, s, x, y, t, t', k, e, z, b, ro, es, rfl, ho, hd, hcl, hargs, hts, hy, hk, hcase⟩ := app2N_inv ha
 have h0' := h0
 simp only [Bool.and_eq_true] at h0'
 rw [stpM_old h0'.1 h1] at h
 have hno : ownO o = false := by unfold ownO; rw [ho]; dsimp only; rw [hcl]
 have hlt : s < st.T.n := by
  have := h0'.2
  unfold dstOK at this
  rw [hd] at this
  simpa [blt_eq] using this
 have hxo : x ∈ o.op.operands.toList := args_mem ho (by rw [hargs]; simp)
 have hyo : y ∈ o.op.operands.toList := args_mem ho (by rw [hargs]; simp)
 have run : ∀ st0 : St, stp call P o st0 = if t = t' then (appendD P st0 s t (opd P st0 t x) (opd P st0 t y) pr).map fun q => q.2.put o.dst q.1 else none := by
  intro st0
  unfold stp stepOp
  simp only [ho, hcl, hargs, hts, hd]
  split <;> rfl
 have hap : ∀ st0 : St, opd P st0 t y = .arr (.loc k) → appN P o st0 = none := fun st0 hy0 => by
  unfold appN
  simp only [ho, hd, hcl, hargs, hts, hy0, pureish, cond_false]
 have fpk : ∀ st0 : St, (noLink P o st0 && dstOK o st0) = true → (Cfg.mix && isMix P o st0) = false → opd P st0 t y = .arr (.loc k) → app2N P o st0 = some (m, .loc k) → fpK P o st0 = some (mkFp P o st0 [m, .loc k] [m]) := by
  intro st0 k0 k1 k2 k3
  have q1 : storeN P o st0 = none := by unfold storeN; rw [ho]
  have q2 : callN P o st0 = none := by unfold callN; rw [ho]; dsimp only; rw [hcl]
  unfold fpK
  rw [k0, k1, hno, q1, q2, hap st0 k2, k3]
  rfl
 have memw : ∀ (st0 : St) {q : Nm}, q ∈ [m, .loc k] → q ∈ (mkFp P o st0 [m, .loc k] [m]).wr := fun st0 q hq => List.mem_append_left _ hq
 rw [run] at h
 split at h
 case isFalse => cases h
 rename_i htt
 have fin : ∀ (ob : Ob) (F : St → St), (∀ q, mentOb q ob = false) → (.loc k ≠ m) → opd P st t x ≠ .p .undef ∨ True → st1 = F st →
  (∀ st0 : St, getOb st0.L st0.O (.loc k) = .arr e z b ro es → getOb st0.L st0.O m = getOb st.L st.O m → st0.T.n = st.T.n → st0.T.n ≤ st0.L.length → opd P st0 t x = opd P st t x → opd P st0 t y = .arr (.loc k) →
   Is ⟨.arr m, [m], [(.loc k, .arr e z b true es)] ++ [(m, ob)], []⟩ o st0 (F st0) ∧ stp call P o st0 = some (F st0) ∧ app2N P o st0 = some (m, .loc k)) → Loc call P o (mkFp P o st [m, .loc k] [m]) st st1 := by
  intro ob F k1 k2 _ k3 k4
  subst k3
  refine ⟨_, (k4 st hk rfl rfl hp.sz rfl hy).1, wf_mk rfl (fun q hq => by rw [List.mem_singleton.1 hq]; simp) (fun q hq => ?_) (fun m' hm' => ?_) (fun q hq m' hm' => ?_) (fun q hq => by cases hq) (fun _ => rfl) (fun q => by rw [hno] at q; cases q), fun st' ag pr => ?_⟩
  ·rcases List.mem_append.1 hq with hq | hq <;> rw [List.mem_singleton.1 hq] <;> simp
  ·simp only [mentD, decide_eq_true_eq] at hm'
   rw [← hm']
   exact .inr (.inl (memw st (by simp)))
  ·rcases List.mem_append.1 hq with hq | hq <;> rw [List.mem_singleton.1 hq] at hm'
   ·cases hm'
   ·rw [k1] at hm'; cases hm'
  ·have h0n : (noLink P o st' && dstOK o st') = true := by rw [ag.noLink, dstOK_same ag.n]; exact h0
   have h1n : (Cfg.mix && isMix P o st') = false := by rw [isMix_same ag.x ag.refs]; exact h1
   have h0n' := h0n
   simp only [Bool.and_eq_true] at h0n'
   have hy' : opd P st' t y = .arr (.loc k) := (Ag.x (P := P) ag y hyo t).trans hy
   obtain ⟨g1, g2, g3⟩ := k4 st' ((ag.b _ (.inr (memw st (by simp)))).trans hk) (ag.b m (.inr (memw st (by simp)))) ag.n pr.sz (Ag.x (P := P) ag x hxo t) hy'
   exact ⟨_, by rw [stpM_old h0n'.1 h1n]; exact g2, by rw [fpk st' h0n h1n hy' g3, ag.same], g1⟩
 have a2 : ∀ st0 : St, opd P st0 t y = .arr (.loc k) → getOb st0.L st0.O (.loc k) = .arr e z b ro es → app2N P o st0 = match opd P st0 t x with
  | .arr m => match getOb st0.L st0.O m with
   | .arr .. => if m = .loc k then none else some (m, .loc k)
   | _ => none
  | .nilsl _ => if (Cfg.cur && elemR P t) = true ∨ s = k then none else some (.loc s, .loc k)
  | _ => none := fun st0 k1 k2 => by
  unfold app2N
  simp only [ho, hd, hcl, hargs, hts, k1, k2]
  generalize opd P st0 t x = d0
  cases d0 with
  | arr m0 => dsimp only; cases getOb st0.L st0.O m0 <;> rfl
  | _ => rfl
 rcases hcase with ⟨hx, hne, e0, z0, b0, ro0, es0, hm⟩ | ⟨⟨z0, hx⟩, hc, rfl, hsk⟩
 ·rw [hx, hy, appendD_viewA hk hne hm, appendD_arr (st := viewN st k e z b es) (e0 := e0) (s0 := z0) (b0 := b0) (ro0 := ro0) (es0 := es0) ((getOb_ne st.L st.O (m := .loc k) (m' := m) hne _).trans hm) rfl, Option.map_map] at h
  obtain ⟨ob, g1, g2⟩ := Option.map_eq_some_iff.1 h
  obtain ⟨e9, s9, b9, ro9, es9, eo⟩ := appV_arr g1
  refine fin ob (fun st0 => (⟨st0.T.map (scrub m), setL ((viewN st0 k e z b es).L.map (scrubOb m)) m ob, setO (st0.O.map (scrubOb m)) m ob⟩ : St).put o.dst (.arr m)) (fun q => by rw [eo]; rfl) (fun q => hne q.symm) (.inr trivial) g2.symm fun st0 k1 k2 k3 k4 k5 k6 => ⟨?_, ?_, ?_⟩
  ·refine scr_is (st := st0) (L := (viewN st0 k e z b es).L) (up := [(.loc k, .arr e z b true es)]) (by simp [viewN, setL]) (fun m' => viewN_get k1 m m') ?_
   rw [viewN_get k1]
   simp only [upGet, if_neg fun q : Nm.loc k = m => hne q.symm, Option.getD_none]
   rw [k2, hm]
   exact fun q => by cases q
  ·rw [run, if_pos htt, k5, k6, hx, appendD_viewA k1 hne (k2.trans hm), appendD_arr (st := viewN st0 k e z b es) (e0 := e0) (s0 := z0) (b0 := b0) (ro0 := ro0) (es0 := es0) ((getOb_ne st0.L st0.O (m := .loc k) (m' := m) hne _).trans (k2.trans hm)) rfl, g1]
   rfl
  ·rw [a2 st0 k6 k1, k5, hx]
   simp only [k2.trans hm, if_neg hne]
 ·rw [hx, hy, appendD_viewZ hk hc, appendD_nil (st := viewN st k e z b es) hc rfl, Option.map_map] at h
  obtain ⟨ob, g1, g2⟩ := Option.map_eq_some_iff.1 h
  obtain ⟨e9, s9, b9, ro9, es9, eo⟩ := appZ_arr g1
  have hks : Nm.loc k ≠ .loc s := fun q => by injection q with q; exact hsk q.symm
  refine fin ob (fun st0 => ((viewN st0 k e z b es).fresh s ob).put o.dst (.arr (.loc s))) (fun q => by rw [eo]; rfl) hks (.inr trivial) g2.symm fun st0 k1 k2 k3 k4 k5 k6 => ⟨?_, ?_, ?_⟩
  ·exact fresh_is (st := st0) (L := (viewN st0 k e z b es).L) (up := [(.loc k, .arr e z b true es)]) (by rw [k3]; exact hlt) k4 hd (by rw [eo]; rfl) (by simp [viewN, setL]) fun m' => viewN_get k1 _ m'
  ·rw [run, if_pos htt, k5, k6, hx, appendD_viewZ k1 hc, appendD_nil (st := viewN st0 k e z b es) hc rfl, g1]
   rfl
  ·rw [a2 st0 k6 k1, k5, hx]
   dsimp only
   rw [if_neg fun q => by
    rcases q with q | q
    ·rw [hc] at q; cases q
    ·exact hsk q]
def rowArgs (z : Nat) (es : List (List Pd)) : List Dv → List Dv
 | [] => []
 | .p x :: l => .p x :: rowArgs z es l
 | .nilsl s :: l => .p (.sl s []) :: rowArgs z es l
 | .arr _ :: l => .p (.sl z es) :: rowArgs z es l
 | d :: l => d :: l
theorem rowArgs_pure {z : Nat} {es : List (List Pd)} : ∀ {ds : List Dv}, pureish ds = true → ∀ (L O : List Ob), prep L O ds = some (rowArgs z es ds, L, O) ∧ refsDs (rowArgs z es ds) = []
 | [], _, L, O => ⟨rfl, rfl⟩
 | .p x :: ds, h, L, O => by
  obtain ⟨q1, q2⟩ := rowArgs_pure (z := z) (es := es) (ds := ds) h L O
  exact ⟨by simp only [prep, view, view1, q1, rowArgs], by simp only [rowArgs, refsDs, refsD, q2, List.nil_append]⟩
 | .nilsl s :: ds, h, L, O => by
  obtain ⟨q1, q2⟩ := rowArgs_pure (z := z) (es := es) (ds := ds) h L O
  exact ⟨by simp only [prep, view, view1, q1, rowArgs], by simp only [rowArgs, refsDs, refsD, q2, List.nil_append]⟩
 | .ptr .. :: _, h, _, _ => by cases h
 | .arr _ :: _, h, _, _ => by cases h
 | .el .. :: _, h, _, _ => by cases h
 | .ro .. :: _, h, _, _ => by cases h
 | .agg .. :: _, h, _, _ => by cases h
 | .fn .. :: _, h, _, _ => by cases h
 | .tup _ :: _, h, _, _ => by cases h
 | .mp _ :: _, h, _, _ => by cases h
 | .sub .. :: _, h, _, _ => by cases h
theorem rowArgs_prep {k e z b : Nat} {ro : Bool} {es : List (List Pd)} {L O : List Ob} (hk : getOb L O (.loc k) = .arr e z b ro es) : ∀ {ds : List Dv}, oneRow ds = some k → prep L O ds = some (rowArgs z es ds, setL L (.loc k) (.arr e z b true es), O) ∧ refsDs (rowArgs z es ds) = []
 | [], h => by cases h
 | .p x :: ds, h => by
  obtain ⟨q1, q2⟩ := rowArgs_prep hk (ds := ds) h
  exact ⟨by simp only [prep, view, view1, q1, rowArgs], by simp only [rowArgs, refsDs, refsD, q2, List.nil_append]⟩
 | .nilsl s :: ds, h => by
  obtain ⟨q1, q2⟩ := rowArgs_prep hk (ds := ds) h
  exact ⟨by simp only [prep, view, view1, q1, rowArgs], by simp only [rowArgs, refsDs, refsD, q2, List.nil_append]⟩
 | .arr (.loc k') :: ds, h => by
  simp only [oneRow] at h
  split at h
  ·rename_i hp
   injection h with h; subst h
   obtain ⟨q1, q2⟩ := rowArgs_pure (z := z) (es := es) hp (setL L (.loc k') (.arr e z b true es)) O
   refine ⟨?_, by simp only [rowArgs, refsDs, refsD, q2, List.nil_append]⟩
   have hO : setO O (.loc k') (.arr e z b true es) = O := rfl
   simp only [prep, view, view1, hk, hO, q1, rowArgs]
  ·cases h
 | .arr (.out _) :: _, h => by cases h
 | .ptr .. :: _, h => by cases h
 | .el .. :: _, h => by cases h
 | .ro .. :: _, h => by cases h
 | .agg .. :: _, h => by cases h
 | .fn .. :: _, h => by cases h
 | .tup _ :: _, h => by cases h
 | .mp _ :: _, h => by cases h
 | .sub .. :: _, h => by cases h
def callR (P : Program) (rts : List TypeId) (call : CallF) (f : FuncId) (as : List Dv) : Option (List Dv) := (call f as []).bind fun r => castRs P r.1 some 0 rts []
theorem callD_row {rts : List TypeId} {call : CallF} {f : FuncId} {args : List Dv} {k e z b : Nat} {ro : Bool} {es : List (List Pd)} (hf : (!Cfg.wr f && (!Cfg.own f && !Cfg.mak f)) = true) (hs : rts.all (scalT P) = false) (ha : oneRow args = some k) (hk : getOb st.L st.O (.loc k) = .arr e z b ro es) :
 callD P rts call st f args pr = (callR P rts call f (rowArgs z es args)).map fun ds => (retV ds, viewN st k e z b es) := by
 have hw : Cfg.wr f = false := by cases e : Cfg.wr f <;> simp [e] at hf ⊢
 have ho : Cfg.own f = false := by cases e : Cfg.own f <;> simp [e] at hf ⊢
 have hm : Cfg.mak f = false := by cases e : Cfg.mak f <;> simp [e] at hf ⊢
 obtain ⟨q1, q2⟩ := rowArgs_prep hk ha
 unfold callD callR
 simp only [hw, ho, hm, hs, Bool.or_false, Bool.false_or, Bool.false_and, Bool.false_eq_true, if_false, q1, q2, addN, closeN_nil]
 rw [Option.map_bind]
 congr 1
 funext r
 rw [castRs_bind]
 show (castRs P r.1 some 0 rts []).bind _ = Option.map _ (castRs P r.1 some 0 rts [])
 cases castRs P r.1 some 0 rts [] <;> rfl
theorem call2N_inv {k : Nat} (h : call2N P o st = some k) : ∃ c f e z b ro es, o.op = .call c ∧ c.callee = .value (.func f) ∧ (!Cfg.wr f && (!Cfg.own f && !Cfg.mak f)) = true ∧ scalF P f = false ∧ oneRow (opds P st c.args.toList c.argTypes.toList) = some k ∧ getOb st.L st.O (.loc k) = .arr e z b ro es := by
 unfold call2N at h
 split at h
 ·rename_i c ho
  split at h
  ·rename_i f hc
   split at h
   ·rename_i hcc
    split at h
    ·rename_i k' hr
     split at h
     ·rename_i e z b ro es hk
      injection h with h; subst h
      exact ⟨c, f, e, z, b, ro, es, ho, hc, hcc.1, hcc.2, hr, hk⟩
     ·cases h
    ·cases h
   ·cases h
  ·cases h
 ·cases h
theorem oneRow_ref : ∀ {ds : List Dv} {k : Nat}, oneRow ds = some k → .loc k ∈ refsDs ds
 | .p x :: ds, k, h => by simp only [refsDs, refsD, List.nil_append]; exact oneRow_ref (ds := ds) h
 | .nilsl s :: ds, k, h => by simp only [refsDs, refsD, List.nil_append]; exact oneRow_ref (ds := ds) h
 | .arr (.loc k') :: ds, k, h => by
  simp only [oneRow] at h
  split at h
  ·injection h with h; subst h; simp [refsDs, refsD]
  ·cases h
 | [], _, h => by cases h
 | .arr (.out _) :: _, _, h => by cases h
 | .ptr .. :: _, _, h => by cases h
 | .el .. :: _, _, h => by cases h
 | .ro .. :: _, _, h => by cases h
 | .agg .. :: _, _, h => by cases h
 | .fn .. :: _, _, h => by cases h
 | .tup _ :: _, _, h => by cases h
 | .mp _ :: _, _, h => by cases h
 | .sub .. :: _, _, h => by cases h
theorem call2N_ref {k : Nat} (h : call2N P o st = some k) : .loc k ∈ refsO P o st := by
 obtain ⟨c, f, e, z, b, ro, es, ho, hc, hg, hs, hr, hk⟩ := call2N_inv h
 obtain ⟨x, q1, t, q2⟩ := opds_sub (P := P) (st := st) c.args.toList c.argTypes.toList (.loc k) (oneRow_ref hr)
 exact refsO_mem (args_mem ho q1) q2
theorem loc_call2 {call : CallF} {k : Nat} (h0 : (noLink P o st && dstOK o st) = true) (h1 : (Cfg.mix && isMix P o st) = false) (hcN : callN P o st = none) (h2 : call2N P o st = some k) (h : stpM call P o st = some st1) : Loc call P o (mkFp P o st [.loc k] []) st st1 := by
 obtain ⟨c, g, e, z, b, ro, es, ho, hcl, hg, hsc, hr, hk⟩ := call2N_inv h2
 have h0' := h0
 simp only [Bool.and_eq_true] at h0'
 rw [stpM_old h0'.1 h1] at h
 have hno : ownO o = false := by
  unfold ownO
  rw [ho]
  dsimp only
  rw [hcl]
  cases h1 : Cfg.wr g <;> cases h2 : Cfg.own g <;> cases h3 : Cfg.mak g <;> simp [h1, h2, h3] at hg ⊢
 have memw : ∀ (st0 : St), Nm.loc k ∈ (mkFp P o st0 [.loc k] []).wr := fun st0 => List.mem_append_left _ (by simp)
 cases hfn : P.funcs[g]? with
 | none =>
  exfalso
  unfold stp stepOp at h
  have hcal : callee P st (.func g) = some (g, []) := rfl
  simp only [ho, hcl, hcal, hfn] at h
  cases h
 | some fn =>
 have hsc' : fn.resultTypes.toList.all (scalT P) = false := by
  unfold scalF at hsc
  rw [hfn] at hsc
  exact hsc
 have run : ∀ st0 : St, oneRow (opds P st0 c.args.toList c.argTypes.toList) = some k → getOb st0.L st0.O (.loc k) = .arr e z b ro es → stp call P o st0 = if fn.body.isSome ∧ fn.name ≠ "runtime.NumGoroutine" then (callR P fn.resultTypes.toList call g (rowArgs z es (opds P st0 c.args.toList c.argTypes.toList))).map fun ds => (viewN st0 k e z b es).put o.dst (retV ds) else none := by
  intro st0 k1 k2
  unfold stp stepOp
  have hcal : callee P st0 (.func g) = some (g, []) := rfl
  simp only [ho, hcl, hcal, hfn, List.append_nil]
  split
  ·rw [callD_row hg hsc' k1 k2, Option.map_map]
   rfl
  ·rfl
 rw [run st hr hk] at h
 split at h
 case isFalse => cases h
 rename_i hbody
 obtain ⟨ds, g1, g2⟩ := Option.map_eq_some_iff.1 h
 have hpure : ∃ ys : List Pd, ds = ys.map .p := by
  unfold callR at g1
  obtain ⟨r, _, q2⟩ := Option.bind_eq_some_iff.1 g1
  obtain ⟨ys, q3, _⟩ := castRs_eq _ _ _ _ q2
  exact ⟨ys, by simpa using q3⟩
 obtain ⟨ys, hys⟩ := hpure
 have is : ∀ st0 : St, getOb st0.L st0.O (.loc k) = .arr e z b ro es → Is ⟨retV ds, [], [(.loc k, .arr e z b true es)], []⟩ o st0 ((viewN st0 k e z b es).put o.dst (retV ds)) := fun st0 k0 => by
  refine is_put (st := st0) (setL st0.L (.loc k) (.arr e z b true es)) st0.O (by simp [setL]) rfl fun m' => ?_
  by_cases e0 : m' = .loc k
  ·subst e0
   have : getOb (setL st0.L (.loc k) (.arr e z b true es)) st0.O (.loc k) = .arr e z b true es := getOb_self st0.L st0.O (m := .loc k) (by rw [k0]; exact fun q => by cases q) _
   rw [this]
   simp [upGet]
  ·have : getOb (setL st0.L (.loc k) (.arr e z b true es)) st0.O m' = getOb st0.L st0.O m' := getOb_ne st0.L st0.O (m := .loc k) e0 _
   rw [this]
   have e1 : ¬ Nm.loc k = m' := fun q => e0 q.symm
   simp only [upGet, if_neg e1, Option.getD_none]
 have fpk : ∀ st0 : St, (noLink P o st0 && dstOK o st0) = true → (Cfg.mix && isMix P o st0) = false → oneRow (opds P st0 c.args.toList c.argTypes.toList) = some k → getOb st0.L st0.O (.loc k) = .arr e z b ro es → fpK P o st0 = some (mkFp P o st0 [.loc k] []) := by
  intro st0 k0 k1 k2 k3
  have q1 : storeN P o st0 = none := by unfold storeN; rw [ho]
  have q2 : callN P o st0 = none := by
   unfold callN
   rw [ho]
   dsimp only
   rw [hcl]
   dsimp only
   rw [hg, cond_true]
   have : boxNs st0.L st0.O (opds P st0 c.args.toList c.argTypes.toList) = none := by
    generalize opds P st0 c.args.toList c.argTypes.toList = ds at k2
    induction ds with
    | nil => cases k2
    | cons d ds ih =>
     cases d with
     | p x => exact ih k2
     | nilsl s => exact ih k2
     | arr m => rfl
     | _ => cases k2
   rw [this]
  have q3 : appN P o st0 = none := by unfold appN; rw [ho]; cases o.dst <;> (dsimp only; try rw [hcl])
  have q4 : app2N P o st0 = none := by unfold app2N; rw [ho]; cases o.dst <;> (dsimp only; try rw [hcl])
  have q5 : call2N P o st0 = some k := by
   unfold call2N
   simp only [ho, hcl, hg, hsc, and_self, if_true, k2, k3]
  unfold fpK
  rw [k0, k1, hno, q1, q2, q3, q4, q5]
  rfl
 subst g2
 refine ⟨_, is st hk, wf_mk rfl (fun m hm => by cases hm) (fun q hq => by rw [List.mem_singleton.1 hq]; simp) (fun m hm => ?_) (fun q hq m hm => ?_) (fun q hq => by cases hq) (fun _ => rfl) (fun q => by rw [hno] at q; cases q), fun st' ag pr => ?_⟩
 ·rw [hys] at hm
  have : mentD m (retV (ys.map .p)) = false := retV_ment ys
  rw [this] at hm; cases hm
 ·rw [List.mem_singleton.1 hq] at hm; cases hm
 ·have h0n : (noLink P o st' && dstOK o st') = true := by rw [ag.noLink, dstOK_same ag.n]; exact h0
  have h1n : (Cfg.mix && isMix P o st') = false := by rw [isMix_same ag.x ag.refs]; exact h1
  have h0n' := h0n
  simp only [Bool.and_eq_true] at h0n'
  have hk' : getOb st'.L st'.O (.loc k) = .arr e z b ro es := (ag.b _ (.inr (memw st))).trans hk
  have hops : opds P st' c.args.toList c.argTypes.toList = opds P st c.args.toList c.argTypes.toList := opds_sameX ho (Ag.x (P := P) ag)
  have hr' : oneRow (opds P st' c.args.toList c.argTypes.toList) = some k := by rw [hops]; exact hr
  exact ⟨_, by rw [stpM_old h0n'.1 h1n, run st' hr' hk', if_pos hbody, hops, g1]; rfl, by rw [fpk st' h0n h1n hr' hk', ag.same], is st' hk'⟩
end Go.Proofs.YtmnoibkdmeajpaaGreat.Dm
