/- The machine over plain data: where an order is drawn, several new rows, and appends onto rows that were made there. -/
import Derived.Test.YtbadompnhhhfpaaGreatDoorDm16
namespace Go.Proofs.YtbadompnhhhfpaaGreatDoor.Dm
set_option linter.unusedSectionVars false
open Go.RowKit
set_option linter.unusedVariables false
set_option linter.unusedSimpArgs false
variable [Cfg] {P : Program} {st st' : St} {o : Oper} {d : Dv}
theorem Tm.set_set (T : Tm) (i : Nat) (d e : Dv) : (T.set i d).set i e = T.set i e := by
  refine Tm.ext_ rfl fun k => ?_
  simp only [Tm.set, beq_eq]
  by_cases h : k = i
  · subst h; simp
  · rw [decide_eq_false h]; rfl
def Excl (s : Nat) (st : St) : Prop := Clean (.loc s) ⟨st.T.set s ud, st.L, st.O⟩
theorem Clean.excl {s : Nat} (h : Clean (.loc s) st) : Excl s st := ⟨fun j => by
  show mentD _ ((st.T.set s ud).getD j ud) = false
  rw [Tm.getD_set]
  split
  · split <;> rfl
  · exact h.T j, h.L, h.O⟩
def appOf (o : Oper) : Option (Nat × Nat) := match o.op, o.dst, o.guard with
  | .call c, some d, none => match c.callee, c.args.toList with
    | .builtin .append, [.tmp a, y] => if a = d then none else some (a, d)
    | _, _ => none
  | _, _, _ => none
def isMk (o : Oper) : Bool := isBo o || (appOf o).isSome
def nmOf (o : Oper) : Nat := match appOf o with
  | some (a, _) => a
  | none => o.dst.getD 0
structure PreApp (a : Nat) (st : St) : Prop where
  t : st.T.getD a ud = .arr (.loc a)
  l : ∃ e s b ro es, st.L.getD a .none = .arr e s b ro es
  x : Excl a st
def Pre (o : Oper) (st : St) : Prop := match appOf o with
  | some (a, _) => PreApp a st
  | none => ∀ s, o.dst = some s → Clean (.loc s) st
theorem appOf_bo {a d : Nat} (h : appOf o = some (a, d)) : isBo o = false := by
  unfold appOf at h
  split at h
  · rename_i c d' ho hd hg
    unfold isBo
    rw [ho]
  · cases h
theorem appOf_inv {a d : Nat} (h : appOf o = some (a, d)) : ∃ c y, o.op = .call c ∧ o.dst = some d ∧ o.guard = none ∧ c.callee = .builtin .append ∧ c.args.toList = [.tmp a, y] ∧ a ≠ d := by
  unfold appOf at h
  split at h
  · rename_i c d' ho hd hg
    split at h
    · rename_i a' y hc ha
      split at h
      · cases h
      · rename_i hne
        injection h with h; injection h with h1 h2; subst h1 h2
        exact ⟨c, y, ho, hd, hg, hc, ha, hne⟩
    · cases h
  · cases h
theorem scrub_set {s : Nat} (hx : Excl s st) (ht : st.T.getD s ud = .arr (.loc s)) : st.T.map (scrub (.loc s)) = st.T.set s ud := by
  refine Tm.ext_ rfl fun j => ?_
  have h1 : ((st.T.map (scrub (.loc s))).getD j ud) = scrub (.loc s) (st.T.getD j ud) := Tm.getD_map rfl _ _
  show (st.T.map (scrub (.loc s))).getD j ud = (st.T.set s ud).getD j ud
  rw [h1, Tm.getD_set]
  by_cases e : s = j
  · subst e
    rw [if_pos rfl, ht]
    simp [scrub]
  · rw [if_neg e]
    have := hx.T j
    have h2 : (st.T.set s ud).getD j ud = st.T.getD j ud := by rw [Tm.getD_set, if_neg e]
    change mentD (.loc s) ((st.T.set s ud).getD j ud) = false at this
    rw [h2] at this
    exact scrub_id _ _ this
theorem pureish_one {y : Dv} (h : pureish [y] = true) : (∃ x, y = .p x) ∨ ∃ s, y = .nilsl s := by
  cases y <;> first | exact .inl ⟨_, rfl⟩ | exact .inr ⟨_, rfl⟩ | cases h
theorem scrubObs_id {m : Nm} {l : List Ob} (h : ∀ o ∈ l, mentOb m o = false) : l.map (scrubOb m) = l := by
  conv => rhs; rw [← List.map_id l]
  exact List.map_congr_left fun o ho => scrubOb_id (h o ho)
def appV (P : Program) (t : TypeId) (y : Dv) (e0 s0 b0 : Nat) (ro0 : Bool) (es0 : List (List Pd)) : Option Ob := match P.underlying t with
  | some (.slice e) => if P.cellsOf e = 0 ∨ P.bytesOf e = 0 ∨ zeroOK P e = false then none else if Cfg.cur && rowful P e then none else
    (match y with
      | .p yv => asSl (P.cellsOf e) yv
      | .nilsl s => asSl (P.cellsOf e) (.sl s [])
      | _ => none).bind fun ys => if e0 = e ∧ s0 = P.cellsOf e then (if (es0.length + ys.length) * P.bytesOf e ≤ LIM then some (.arr e (P.cellsOf e) b0 ro0 (es0 ++ ys)) else none) else none
  | _ => none
theorem appV_arr {t : TypeId} {y : Dv} {e0 s0 b0 : Nat} {ro0 : Bool} {es0 : List (List Pd)} {ob : Ob} (h : appV P t y e0 s0 b0 ro0 es0 = some ob) : ∃ e s b ro es, ob = .arr e s b ro es := by
  unfold appV at h
  split at h
  · split at h
    · cases h
    · split at h
      · cases h
      · obtain ⟨ys, _, h⟩ := Option.bind_eq_some_iff.1 h
        split at h
        · split at h
          · injection h with h; exact ⟨_, _, _, _, _, h.symm⟩
          · cases h
        · cases h
  · cases h
theorem appendD_app {a s : Nat} {t : TypeId} {y : Dv} {st : St} (hp : PreApp a st) {e0 s0 b0 : Nat} {ro0 : Bool} {es0 : List (List Pd)} (hl : st.L.getD a .none = .arr e0 s0 b0 ro0 es0) (hy : pureish [y] = true) :
    appendD P st s t (.arr (.loc a)) y pr = (appV P t y e0 s0 b0 ro0 es0).map fun ob => (.arr (.loc a), ⟨st.T.set a ud, st.L.set a ob, st.O⟩) := by
  have hg : ∀ L O, getOb L O (.loc a) = L.getD a .none := fun _ _ => rfl
  have more : ∀ sz e ys, appendD.more P st pr st.L st.O sz e (.loc a) ys = (if e0 = e ∧ s0 = sz then (if (es0.length + ys.length) * P.bytesOf e ≤ LIM then some (Ob.arr e sz b0 ro0 (es0 ++ ys)) else none) else none).map fun ob => (Dv.arr (.loc a), (⟨st.T.set a ud, st.L.set a ob, st.O⟩ : St)) := by
    intro sz e ys
    unfold appendD.more
    rw [hg, hl]
    dsimp only
    split
    · split
      · rw [scrub_set hp.x hp.t, scrubObs_id hp.x.L, scrubObs_id hp.x.O]
        rfl
      · rfl
    · rfl
  rw [appendD_eq]
  unfold appV
  split
  · rename_i e he
    simp only [he]
    split
    · rfl
    · have how : ownAt st (.arr (.loc a)) = none := by
        unfold ownAt
        dsimp only
        rw [hg, hl]
      rw [how]
      dsimp only
      split
      · rfl
      · rcases pureish_one hy with ⟨x, rfl⟩ | ⟨s', rfl⟩
        · simp only [view1]
          cases asSl (P.cellsOf e) x with
          | none => rfl
          | some ys => exact more _ _ _
        · simp only [view1]
          cases asSl (P.cellsOf e) (.sl s' []) with
          | none => rfl
          | some ys => exact more _ _ _
  · rename_i hn
    split
    · rename_i e he
      exact absurd he (hn e)
    · rfl
theorem app_eff {call : CallF} {ops : Array Oper} {a d : Nat} (ha : appOf o = some (a, d)) {st st1 : St} (hp : PreApp a st) (h : opS true call P ops o st = some st1) :
    ∃ ob, (∀ m, mentOb m ob = false) ∧ st1 = ⟨(st.T.set a ud).set d (.arr (.loc a)), st.L.set a ob, st.O⟩ ∧
    ∀ st', (∀ x ∈ o.op.operands.toList, ∀ t, opd P st' t x = opd P st t x) → PreApp a st' → st'.L.getD a .none = st.L.getD a .none → opS true call P ops o st' = some ⟨(st'.T.set a ud).set d (.arr (.loc a)), st'.L.set a ob, st'.O⟩ := by
  obtain ⟨c, y, ho, hd, hg, hcl, hargs, hne⟩ := appOf_inv ha
  obtain ⟨e0, s0, b0, ro0, es0, hl⟩ := hp.l
  unfold opS at h
  rw [hg] at h
  dsimp only at h
  obtain ⟨q, h1, h2⟩ := Option.map_eq_some_iff.1 h
  unfold stepQ at h1
  rw [if_pos rfl] at h1
  split at h1
  case isFalse => cases h1
  rename_i hq
  have hq0 := hq
  unfold quietOK at hq
  simp only [ho, hcl, hargs, hp.t, beq_self_eq_true, Bool.not_true, Bool.false_or] at hq
  unfold stepOp at h1
  simp only [ho, hcl, hargs, hd] at h1
  cases hts : c.argTypes.toList with
  | nil => rw [hts] at h1; cases h1
  | cons t ts =>
    rw [hts] at h1 hq
    cases ts with
    | nil => cases h1
    | cons t' ts =>
      cases ts with
      | cons _ _ => cases h1
      | nil =>
        dsimp only at h1
        split at h1
        case isFalse => cases h1
        rename_i htt
        have hx : ∀ t, opd P st t (.tmp a) = .arr (.loc a) := fun t => hp.t
        rw [hx] at h1
        rw [List.getD_cons_zero] at hq
        rw [appendD_app hp hl hq] at h1
        obtain ⟨ob, e1, e2⟩ := Option.map_eq_some_iff.1 h1
        subst e2
        obtain ⟨e9, s9, b9, ro9, es9, eo⟩ := appV_arr e1
        refine ⟨ob, fun m => by rw [eo]; rfl, by rw [← h2, hd]; rfl, fun st' hsame hp' hl' => ?_⟩
        have hys : ∀ t, opd P st' t y = opd P st t y := hsame y (by
          have : y ∈ c.args := by
            have : y ∈ c.args.toList := by rw [hargs]; simp
            simpa using this
          rw [ho]
          simp [Op.operands, Call.operands, hcl, this])
        have hq' : quietOK P o st' = true := by
          unfold quietOK
          simp only [ho, hcl, hargs, hp'.t, beq_self_eq_true, Bool.not_true, Bool.false_or, hys, hts, List.getD_cons_zero]
          exact hq
        unfold opS
        rw [hg]
        dsimp only
        unfold stepQ
        rw [if_pos rfl, if_pos hq']
        unfold stepOp
        simp only [ho, hcl, hargs, hd, hts, if_pos htt, hys]
        have hx' : ∀ t, opd P st' t (.tmp a) = .arr (.loc a) := fun t => hp'.t
        rw [hx', appendD_app hp' (hl'.trans hl) hq, e1]
        rfl
theorem nmOf_app {a d : Nat} (h : appOf o = some (a, d)) : nmOf o = a := by unfold nmOf; rw [h]
theorem appOf_none (h : isBo o = true) : appOf o = none := by
  cases e : appOf o with
  | none => rfl
  | some q => rw [appOf_bo (a := q.1) (d := q.2) (by rw [e])] at h; cases h
theorem nmOf_bo {s : Nat} (h : isBo o = true) (hd : o.dst = some s) : nmOf o = s := by unfold nmOf; rw [appOf_none h, hd]; rfl
theorem Pre.excl {s : Nat} (hm : isMk o = true) (h : Pre o st) (hs : nmOf o = s) : Excl s st := by
  unfold Pre at h
  split at h
  · rename_i a d e
    rw [nmOf_app e] at hs
    subst hs
    exact h.x
  · rename_i e
    unfold isMk at hm
    rw [e] at hm
    have hb : isBo o = true := by simpa using hm
    obtain ⟨_, s', hd, _⟩ := isBo_inv hb
    rw [nmOf_bo hb hd] at hs
    subst hs
    exact (h _ hd).excl
theorem mk_eff {call : CallF} {ops : Array Oper} (hm : isMk o = true) : ∃ d v, o.dst = some d ∧ (∀ m, m ≠ .loc (nmOf o) → mentD m v = false) ∧ ∀ st st1, Pre o st → opS true call P ops o st = some st1 →
    ∃ ob, ((∀ m, mentOb m ob = false) ∧ (isBS o = true → v = .arr (.loc (nmOf o)) ∧ d = nmOf o ∧ ∃ e s b ro es, ob = .arr e s b ro es)) ∧ st1 = ⟨(st.T.set (nmOf o) ud).set d v, st.L.set (nmOf o) ob, st.O⟩ ∧
    ∀ st', (∀ x ∈ o.op.operands.toList, ∀ t, opd P st' t x = opd P st t x) → Pre o st' → st'.L.getD (nmOf o) .none = st.L.getD (nmOf o) .none → opS true call P ops o st' = some ⟨(st'.T.set (nmOf o) ud).set d v, st'.L.set (nmOf o) ob, st'.O⟩ := by
  cases e : appOf o with
  | some q =>
    obtain ⟨a, d⟩ := q
    obtain ⟨c, y, ho, hd, hg, hcl, hargs, hne⟩ := appOf_inv e
    have hbs : isBS o = false := by unfold isBS; rw [ho]
    have hpre : ∀ st, Pre o st → PreApp a st := fun st h => by unfold Pre at h; rw [e] at h; exact h
    rw [nmOf_app e]
    refine ⟨d, .arr (.loc a), hd, fun m hmm => by simp only [mentD, decide_eq_false_iff_not]; exact fun q => hmm q.symm, fun st st1 hp h => ?_⟩
    obtain ⟨ob, q1, q2, q3⟩ := app_eff (P := P) e (hpre _ hp) h
    exact ⟨ob, ⟨q1, fun q => by rw [hbs] at q; cases q⟩, q2, fun st' h1 h2 h3 => q3 st' h1 (hpre _ h2) h3⟩
  | none =>
    have hb : isBo o = true := by unfold isMk at hm; rw [e] at hm; simpa using hm
    have hpre : ∀ st, Pre o st → ∀ s, o.dst = some s → Clean (.loc s) st := fun st h => by unfold Pre at h; rw [e] at h; exact h
    obtain ⟨s, v, hd, hv, hB⟩ := opS_build' (P := P) (call := call) (ops := ops) hb
    rw [nmOf_bo hb hd]
    refine ⟨s, v, hd, fun m hmm => ?_, fun st st1 hp h => ?_⟩
    · rcases hv with ⟨_, rfl⟩ | ⟨_, rfl⟩ <;> (simp only [mentD, decide_eq_false_iff_not]; exact fun q => hmm q.symm)
    · obtain ⟨ob, q1, q2, q3⟩ := hB st st1 (hpre _ hp _ hd) h
      refine ⟨ob, ⟨q1.1, fun q => ?_⟩, by rw [q2, Tm.set_set], fun st' h1 h2 _ => by rw [Tm.set_set]; exact q3 st' h1 (hpre _ h2 _ hd)⟩
      rcases hv with ⟨_, h⟩ | ⟨h, _⟩
      · exact ⟨h, rfl, q1.2 q⟩
      · rw [h] at q; cases q
theorem opd_put {dst : Option Tmp} {v : Dv} {x : Operand} (h : ∀ e, dst = some e → x ≠ .tmp e) (t : TypeId) : opd P (st.put dst v) t x = opd P st t x := by
  cases x with
  | tmp u => exact put_ne (st := st) fun e he q => h e he (by rw [q])
  | _ => rfl
theorem looks_of {ops : Array Oper} {x : Nat} (h : Operand.tmp x ∈ o.op.operands.toList) : x ∈ o.looksAt ops := List.mem_append_left _ (List.mem_filterMap.2 ⟨.tmp x, h, rfl⟩)
theorem Pre.keep_ {T' : Tm} {L' O' : List Ob} (hm : isMk o = true) (h : Pre o st) (ht : T'.getD (nmOf o) ud = st.T.getD (nmOf o) ud) (hl : L'.getD (nmOf o) .none = st.L.getD (nmOf o) .none) (hx : Excl (nmOf o) ⟨T', L', O'⟩) : Pre o ⟨T', L', O'⟩ := by
  unfold Pre at h ⊢
  split at h
  · rename_i a d e
    rw [nmOf_app e] at ht hl hx
    exact ⟨ht.trans h.t, by obtain ⟨e1, e2, e3, e4, e5, q⟩ := h.l; exact ⟨e1, e2, e3, e4, e5, hl.trans q⟩, hx⟩
  · rename_i e
    intro s hd
    have hb : isBo o = true := by unfold isMk at hm; rw [e] at hm; simpa using hm
    rw [nmOf_bo hb hd] at ht hl hx
    have hc := h s hd
    refine ⟨fun j => ?_, hx.L, hx.O⟩
    by_cases q : s = j
    · subst q
      rw [show (⟨T', L', O'⟩ : St).T = T' from rfl, ht]
      exact hc.T s
    · have := hx.T j
      change mentD _ ((T'.set s ud).getD j ud) = false at this
      rwa [Tm.getD_set, if_neg q] at this
theorem Excl.put {s : Nat} {dst : Option Tmp} (h : Excl s st) (hd : mentD (.loc s) d = false) : Excl s (st.put dst d) := by
  cases dst with
  | none => exact h
  | some u =>
    refine ⟨fun j => ?_, h.L, h.O⟩
    show mentD _ (((st.T.set u d).set s ud).getD j ud) = false
    have h0 := h.T j
    change mentD _ ((st.T.set s ud).getD j ud) = false at h0
    rw [Tm.getD_set] at h0 ⊢
    split
    · split <;> rfl
    · rename_i hj
      rw [if_neg hj] at h0
      rw [Tm.getD_set]
      split
      · split
        · exact hd
        · rfl
      · exact h0
theorem look_at {call : CallF} {ops : Array Oper} (hy : lookB o.op = true) {s : Nat} (hs : s ∉ o.looksAt ops) (hx : Excl s st) (ob : Ob) : optV call P ops o ⟨st.T, st.L.set s ob, st.O⟩ = optV call P ops o st ∧ ∀ v, optV call P ops o st = some v → mentD (.loc s) v = false := by
  have hback : ∀ L O, (⟨st.T.set s ud, L, O⟩ : St).put (some s) (st.T.getD s ud) = ⟨st.T, L, O⟩ := fun L O => by
    show (⟨(st.T.set s ud).set s (st.T.getD s ud), L, O⟩ : St) = _
    rw [Tm.set_back]
  have hoff : ∀ L O v, optV call P ops o ⟨st.T, L, O⟩ = some v → optV call P ops o ⟨st.T.set s ud, L, O⟩ = some v := fun L O v h => by
    have := optV_put (P := P) (call := call) (ops := ops) (st := ⟨st.T, L, O⟩) (dst := some s) (v := ud) (lookB_look hy) (fun d hd => by injection hd with hd; subst hd; exact hs) h
    exact this
  have hon : ∀ L O v, optV call P ops o ⟨st.T.set s ud, L, O⟩ = some v → optV call P ops o ⟨st.T, L, O⟩ = some v := fun L O v h => by
    have := optV_put (P := P) (call := call) (ops := ops) (dst := some s) (v := st.T.getD s ud) (lookB_look hy) (fun d hd => by injection hd with hd; subst hd; exact hs) h
    rwa [hback] at this
  have hL := optV_L (P := P) (call := call) (ops := ops) ob hy hx
  refine ⟨eq_of_iff fun v => ⟨fun h => ?_, fun h => ?_⟩, fun v h => optV_ment hy hx (hoff _ _ _ h)⟩
  · have := hoff _ _ _ h
    rw [hL] at this
    exact hon _ _ _ this
  · have := hoff _ _ _ h
    rw [← hL] at this
    exact hon _ _ _ this
def sepMk (ops : Array Oper) (x z : Oper) : Bool := !(z.looksAt ops).contains (nmOf x) && z.dst != some (nmOf x)
theorem sepMk_spec {ops : Array Oper} {x z : Oper} (h : sepMk ops x z = true) : nmOf x ∉ z.looksAt ops ∧ z.dst ≠ some (nmOf x) := by
  simpa [sepMk] using h
theorem look_2 {call : CallF} {ops : Array Oper} (hy : lookB o.op = true) {s : Nat} (hs : s ∉ o.looksAt ops) (hx : Excl s st) (ob : Ob) {d : Nat} (hd : d ∉ o.looksAt ops) (v : Dv) :
    optV call P ops o ⟨(st.T.set s ud).set d v, st.L.set s ob, st.O⟩ = optV call P ops o st := by
  rw [← (look_at (P := P) (call := call) hy hs hx ob).1]
  have put1 : ∀ {T : Tm} {L O : List Ob} {i : Nat} {u : Dv} {q : Dv}, i ∉ o.looksAt ops → optV call P ops o ⟨T, L, O⟩ = some q → optV call P ops o ⟨T.set i u, L, O⟩ = some q := fun hi h =>
    optV_put (P := P) (call := call) (ops := ops) (dst := some _) (lookB_look hy) (fun d hd => by injection hd with hd; subst hd; exact hi) h
  refine eq_of_iff fun q => ⟨fun h => ?_, fun h => put1 hd (put1 hs h)⟩
  have h1 := put1 (i := d) (u := (st.T.set s ud).getD d ud) hd h
  rw [Tm.set_back] at h1
  have h2 := put1 (i := s) (u := st.T.getD s ud) hs h1
  rwa [Tm.set_back] at h2
theorem swap_mk_look {call : CallF} {ops : Array Oper} {x y : Oper} (hx : isMk x = true) (hy : lookB y.op = true) (hap : x.apart ops y = true) (hsep : sepMk ops x y = true) {st st1 st2 : St} (hc : Pre x st) (h1 : opS true call P ops x st = some st1) (h2 : opS true call P ops y st1 = some st2) :
    ∃ st1', opS true call P ops y st = some st1' ∧ opS true call P ops x st1' = some st2 := by
  obtain ⟨a1, a2, a3⟩ := Oper.apart_spec hap
  obtain ⟨b1, b2⟩ := sepMk_spec hsep
  obtain ⟨d, v, hd, hv, hB⟩ := mk_eff (P := P) (call := call) (ops := ops) hx
  obtain ⟨ob, hob, e1, hagain⟩ := hB st st1 hc h1
  have hex := hc.excl hx rfl
  rw [opS_look (lookB_look hy)] at h2
  obtain ⟨d2, e2, rfl⟩ := Option.map_eq_some_iff.1 h2
  rw [e1, look_2 hy b1 hex ob (a1 d hd) v] at e2
  have hm := (look_at (P := P) (call := call) hy b1 hex ob).2 d2 e2
  refine ⟨st.put y.dst d2, by rw [opS_look (lookB_look hy), e2]; rfl, ?_⟩
  have hp' : Pre x (st.put y.dst d2) := by
    refine Pre.keep_ (T' := (st.put y.dst d2).T) (L' := (st.put y.dst d2).L) (O' := (st.put y.dst d2).O) hx hc ?_ (by rw [(put_LO st y.dst d2).1]) (hex.put hm)
    exact put_ne fun e he q => b2 (by rw [he, q])
  rw [hagain _ (fun z hz t => opd_put (fun e he q => a3 e he (looks_of (q ▸ hz))) t) hp' (by rw [(put_LO st y.dst d2).1]), e1]
  cases hyd : y.dst with
  | none => rfl
  | some u =>
    have n1 : u ≠ nmOf x := fun e => b2 (by rw [hyd, e])
    have n2 : u ≠ d := fun e => a2 d hd (by rw [hyd, e])
    simp only [St.put]
    rw [Tm.set_comm st.T _ _ n1, Tm.set_comm _ _ _ n2]
theorem swap_look_mk {call : CallF} {ops : Array Oper} {x y : Oper} (hx : lookB x.op = true) (hy : isMk y = true) (hap : x.apart ops y = true) (hsep : sepMk ops y x = true) {st st1 st2 : St} (hc : Pre y st) (h1 : opS true call P ops x st = some st1) (h2 : opS true call P ops y st1 = some st2) :
    ∃ st1', opS true call P ops y st = some st1' ∧ opS true call P ops x st1' = some st2 := by
  obtain ⟨a1, a2, a3⟩ := Oper.apart_spec hap
  obtain ⟨b1, b2⟩ := sepMk_spec hsep
  obtain ⟨d, v, hd, hv, hB⟩ := mk_eff (P := P) (call := call) (ops := ops) hy
  have hex := hc.excl hy rfl
  rw [opS_look (lookB_look hx)] at h1
  obtain ⟨d1, e1, rfl⟩ := Option.map_eq_some_iff.1 h1
  have hm := (look_at (P := P) (call := call) hx b1 hex .none).2 d1 e1
  have hp' : Pre y (st.put x.dst d1) := by
    refine Pre.keep_ (T' := (st.put x.dst d1).T) (L' := (st.put x.dst d1).L) (O' := (st.put x.dst d1).O) hy hc ?_ (by rw [(put_LO st x.dst d1).1]) (hex.put hm)
    exact put_ne fun e he q => b2 (by rw [he, q])
  obtain ⟨ob, hob, e2, hagain⟩ := hB _ _ hp' h2
  have hB2 := hagain st (fun z hz t => (opd_put (P := P) (st := st) (v := d1) (fun e he q => a1 e he (looks_of (q ▸ hz))) t).symm) hc (by rw [(put_LO st x.dst d1).1])
  refine ⟨_, hB2, ?_⟩
  rw [opS_look (lookB_look hx), look_2 hx b1 hex ob (a3 d hd) v, e1, e2]
  simp only [Option.map_some]
  cases hxd : x.dst with
  | none => rfl
  | some u =>
    have n1 : u ≠ nmOf y := fun e => b2 (by rw [hxd, e])
    have n2 : u ≠ d := fun e => a2 u hxd (by rw [hd, e])
    simp only [St.put]
    rw [Tm.set_comm st.T _ _ n1, Tm.set_comm _ _ _ n2]
theorem excl_eff {sx sy dx : Nat} {vx : Dv} {ob : Ob} (h : Excl sy st) (hne : sx ≠ sy) (hv : mentD (.loc sy) vx = false) (ho : mentOb (.loc sy) ob = false) : Excl sy ⟨(st.T.set sx ud).set dx vx, st.L.set sx ob, st.O⟩ := by
  have h1 : Excl sy (st.put (some sx) ud) := h.put rfl
  have h2 : Excl sy ((st.put (some sx) ud).put (some dx) vx) := h1.put hv
  refine ⟨h2.T, fun o hm => ?_, h2.O⟩
  rcases List.mem_or_eq_of_mem_set hm with q | q
  · exact h.L o q
  · rw [q]; exact ho
theorem getD_setL {l : List Ob} {i j : Nat} {o : Ob} (h : i ≠ j) : (l.set i o).getD j .none = l.getD j .none := by
  simp only [List.getD_eq_getElem?_getD, List.getElem?_set_ne h]
theorem setT2 {T : Tm} {i d j : Nat} {u v : Dv} (h1 : i ≠ j) (h2 : d ≠ j) : ((T.set i u).set d v).getD j ud = T.getD j ud := by
  rw [Tm.getD_set, if_neg h2, Tm.getD_set, if_neg h1]
theorem opd_eff {T : Tm} {L L' O O' : List Ob} {i d : Nat} {u v : Dv} {x : Operand} (h1 : x ≠ .tmp i) (h2 : x ≠ .tmp d) (t : TypeId) : opd P ⟨(T.set i u).set d v, L', O'⟩ t x = opd P ⟨T, L, O⟩ t x := by
  cases x with
  | tmp w => exact setT2 (fun e => h1 (by rw [e])) (fun e => h2 (by rw [e]))
  | _ => rfl
theorem Pre.eff {x : Oper} {st : St} {s d : Nat} {v : Dv} {ob : Ob} (hm : isMk o = true) (h : Pre o st) (hne : s ≠ nmOf o) (hd : d ≠ nmOf o) (hv : mentD (.loc (nmOf o)) v = false) (ho : mentOb (.loc (nmOf o)) ob = false) :
    Pre o ⟨(st.T.set s ud).set d v, st.L.set s ob, st.O⟩ :=
  h.keep_ hm (setT2 hne hd) (getD_setL hne) (excl_eff (h.excl hm rfl) hne hv ho)
theorem swap_mk_mk {call : CallF} {ops : Array Oper} {x y : Oper} (hx : isMk x = true) (hy : isMk y = true) (hap : x.apart ops y = true) (hs1 : sepMk ops x y = true) (hs2 : sepMk ops y x = true) (hne : nmOf x ≠ nmOf y) {st st1 st2 : St} (hcx : Pre x st) (hcy : Pre y st)
    (h1 : opS true call P ops x st = some st1) (h2 : opS true call P ops y st1 = some st2) : ∃ st1', opS true call P ops y st = some st1' ∧ opS true call P ops x st1' = some st2 := by
  obtain ⟨a1, a2, a3⟩ := Oper.apart_spec hap
  obtain ⟨b1, b2⟩ := sepMk_spec hs1
  obtain ⟨b3, b4⟩ := sepMk_spec hs2
  obtain ⟨dx, vx, hdx, hvx, hBx⟩ := mk_eff (P := P) (call := call) (ops := ops) hx
  obtain ⟨dy, vy, hdy, hvy, hBy⟩ := mk_eff (P := P) (call := call) (ops := ops) hy
  obtain ⟨obx, hobx, e1, againx⟩ := hBx st st1 hcx h1
  have l1 : Nm.loc (nmOf y) ≠ Nm.loc (nmOf x) := fun q => by injection q with q; exact hne q.symm
  have l2 : Nm.loc (nmOf x) ≠ Nm.loc (nmOf y) := fun q => by injection q with q; exact hne q
  have n1 : dx ≠ nmOf y := fun e => b4 (by rw [hdx, e])
  have n2 : dy ≠ nmOf x := fun e => b2 (by rw [hdy, e])
  have n3 : dx ≠ dy := fun e => a2 dx hdx (by rw [hdy, e])
  subst e1
  have hpy : Pre y ⟨(st.T.set (nmOf x) ud).set dx vx, st.L.set (nmOf x) obx, st.O⟩ := hcy.eff (x := x) hy hne n1 (hvx _ l1) (hobx.1 _)
  obtain ⟨oby, hoby, e2, againy⟩ := hBy _ _ hpy h2
  have hy' := againy st (fun z hz t => by
    obtain ⟨T, L, O⟩ := st
    exact (opd_eff (fun e => b1 (looks_of (e ▸ hz))) (fun e => a1 dx hdx (looks_of (e ▸ hz))) t).symm) hcy (getD_setL hne).symm
  refine ⟨_, hy', ?_⟩
  have hpx : Pre x ⟨(st.T.set (nmOf y) ud).set dy vy, st.L.set (nmOf y) oby, st.O⟩ := hcx.eff (x := y) hx (fun e => hne e.symm) n2 (hvy _ l2) (hoby.1 _)
  rw [againx _ (fun z hz t => by
    obtain ⟨T, L, O⟩ := st
    exact opd_eff (fun e => b3 (looks_of (e ▸ hz))) (fun e => a3 dy hdy (looks_of (e ▸ hz))) t) hpx (getD_setL fun e => hne e.symm), e2]
  congr 2
  · rw [Tm.set_comm _ (i := dy) (j := nmOf x) _ _ n2, Tm.set_comm _ (i := nmOf y) (j := nmOf x) _ _ (fun e => hne e.symm), Tm.set_comm _ (i := dy) (j := dx) _ _ (fun e => n3 e.symm), Tm.set_comm _ (i := nmOf y) (j := dx) _ _ (fun e => n1 e.symm)]
  · exact List.set_comm _ _ (fun e => hne e.symm)
def okMix (ops : Array Oper) (x y : Oper) : Bool := (lookB x.op && lookB y.op) || ((isMk x && (lookB y.op && sepMk ops x y)) || ((lookB x.op && (isMk y && sepMk ops y x)) || (isMk x && (isMk y && (sepMk ops x y && (sepMk ops y x && nmOf x != nmOf y))))))
def statZ (ops : Array Oper) (k : Nat) (o : Oper) (j : Nat) (z : Oper) : Bool := (z.dst != some (nmOf o) || (isBo z && (isBS z && ((appOf o).isSome && ((preAll ops ops.size).getD k []).contains j)))) && ((appOf o).isNone || !(z.looksAt ops).contains (nmOf o))
def statO (ops : Array Oper) (n k : Nat) (o : Oper) : Bool := (lookB o.op || isMk o) && (!isMk o || (((List.range n).all fun j => j == k || (match ops[j]? with
    | some z => statZ ops k o j z
    | none => true)) && ((appOf o).isNone || (List.range n).any fun j => j != k && (match ops[j]? with
    | some z => isBo z && z.dst == some (nmOf o)
    | none => false))))
def statC (ops : Array Oper) (n : Nat) : Bool := (List.range n).all fun k => match ops[k]? with
  | some o => statO ops n k o
  | none => true
def sizeFor (ops : Array Oper) (st : St) : Bool := ops.toList.all fun o => !isMk o || (decide (nmOf o < st.T.n) && decide (nmOf o < st.L.length))
def drC (ops : Array Oper) : Bool := drBack ops && (((List.range 5).any fun m => sealed ops m && (decide (m ≤ ops.size) && statC ops (ops.size - m))) && drPairs ops (okMix ops))
def dr2 (ops : Array Oper) (st : St) : Bool := dr1 ops st || (drC ops && (cleanFor ops st && sizeFor ops st))
theorem statC_get {ops : Array Oper} {n k : Nat} (h : statC ops n = true) (hk : k < n) (ho : ops[k]? = some o) : statO ops n k o = true := by
  have := List.all_eq_true.1 h k (List.mem_range.2 hk)
  rw [ho] at this
  exact this
theorem statO_z {ops : Array Oper} {n k j : Nat} {z : Oper} (h : statO ops n k o = true) (hm : isMk o = true) (hj : j < n) (hz : ops[j]? = some z) (hne : j ≠ k) :
    (z.dst = some (nmOf o) → isBo z = true ∧ isBS z = true ∧ (appOf o).isSome = true ∧ j ∈ (preAll ops ops.size).getD k []) ∧ ((appOf o).isSome = true → nmOf o ∉ z.looksAt ops) := by
  unfold statO at h
  simp only [Bool.and_eq_true, Bool.or_eq_true, hm, Bool.not_true, Bool.false_eq_true, false_or] at h
  have h1 := List.all_eq_true.1 h.2.1 j (List.mem_range.2 hj)
  rw [hz] at h1
  simp only [Bool.or_eq_true, beq_iff_eq] at h1
  have h1 := h1.resolve_left hne
  unfold statZ at h1
  simp only [Bool.and_eq_true, Bool.or_eq_true, bne_iff_ne, ne_eq, List.contains_iff_mem, Bool.not_eq_true', List.contains_eq_mem, decide_eq_true_eq, decide_eq_false_iff_not] at h1
  refine ⟨fun q => ?_, fun q => ?_⟩
  · obtain ⟨p1, p2, p3, p4⟩ := h1.1.resolve_left fun q' => q' q
    exact ⟨p1, p2, p3, p4⟩
  · refine h1.2.resolve_left fun q' => ?_
    cases e : appOf o <;> simp [e] at q q'
theorem mk_not_look (hm : isMk o = true) : lookB o.op = false := by
  unfold isMk at hm
  rw [Bool.or_eq_true] at hm
  rcases hm with hm | hm
  · exact bo_not_look hm
  · obtain ⟨⟨a, d⟩, e⟩ := Option.isSome_iff_exists.1 hm
    obtain ⟨c, y, ho, _, _, hcl, _, _⟩ := appOf_inv e
    rw [ho]
    simp [lookB, hcl]
def JP (ops : Array Oper) (n N M : Nat) (R : Nat → Prop) (st : St) : Prop := ∀ k, R k → k < n → st.T.n = N ∧ st.L.length = M ∧ ∀ o, ops[k]? = some o → isMk o = true → (∀ b z, b < n → ops[b]? = some z → isBo z = true → z.dst = some (nmOf o) → b ≠ k → ¬ R b) → Pre o st
theorem JP.pre {ops : Array Oper} {n N M : Nat} {R : Nat → Prop} (hst : statC ops n = true) (h : JP ops n N M R st) {k : Nat} (hR : R k) (hk : k < n) (hD : doneFor ops R k) (ho : ops[k]? = some o) (hm : isMk o = true) : Pre o st :=
  (h k hR hk).2.2 o ho hm fun b z hb hz hbo hd hne => hD b ((statO_z (statC_get hst hk ho) hm hb hz hne).1 hd).2.2.2
theorem app_looks {ops : Array Oper} (h : (appOf o).isSome = true) : nmOf o ∈ o.looksAt ops := by
  obtain ⟨⟨a, d⟩, e⟩ := Option.isSome_iff_exists.1 h
  obtain ⟨c, y, ho, _, _, hcl, hargs, _⟩ := appOf_inv e
  rw [nmOf_app e]
  refine looks_of ?_
  have : Operand.tmp a ∈ c.args := by
    have : Operand.tmp a ∈ c.args.toList := by rw [hargs]; simp
    simpa using this
  rw [ho]
  simp [Op.operands, Call.operands, hcl, this]
theorem JP.step {call : CallF} {ops : Array Oper} {n N M : Nat} (hst : statC ops n = true) (hsz : ∀ k o, k < n → ops[k]? = some o → isMk o = true → nmOf o < N ∧ nmOf o < M) {R : Nat → Prop} {j : Nat} {st st1 : St} (hj : j < n) (hRj : R j) (hD : doneFor ops R j) (hJ : JP ops n N M R st)
    (h : op1 true call P ops j st = some st1) (hjs : j < ops.size) : JP ops n N M (fun k => R k ∧ k ≠ j) st1 := by
  have hoj : ops[j]? = some (ops[j]'hjs) := Array.getElem?_eq_getElem hjs
  generalize ops[j]'hjs = oj at hoj
  unfold op1 at h
  rw [hoj] at h
  dsimp only at h
  have hsj := statC_get hst hj hoj
  have hkind : lookB oj.op = true ∨ isMk oj = true := by
    unfold statO at hsj
    simp only [Bool.and_eq_true, Bool.or_eq_true] at hsj
    exact hsj.1
  obtain ⟨hN, hM, _⟩ := hJ j hRj hj
  intro k hk hkn
  obtain ⟨hRk, hkj⟩ := hk
  rcases hkind with hl | hmj
  · rw [opS_look (lookB_look hl)] at h
    obtain ⟨d, e1, rfl⟩ := Option.map_eq_some_iff.1 h
    have hLO := put_LO st oj.dst d
    refine ⟨by cases oj.dst <;> exact hN, by rw [hLO.1]; exact hM, fun o ho hm hprem => ?_⟩
    have hz := statO_z (statC_get hst hkn ho) hm hj hoj fun e => hkj e.symm
    have hnb : oj.dst ≠ some (nmOf o) := fun q => by
      have := bo_not_look (hz.1 q).1
      rw [hl] at this; cases this
    have hp : Pre o st := (hJ k hRk hkn).2.2 o ho hm fun b z hb hbz hbo hd hne hRb => hprem b z hb hbz hbo hd hne ⟨hRb, fun e => by
      subst e
      rw [hoj] at hbz; injection hbz with hbz; subst hbz
      exact hnb hd⟩
    have hment : mentD (.loc (nmOf o)) d = false := by
      cases ha : appOf o with
      | some q => exact (look_at (P := P) (call := call) hl (hz.2 (by rw [ha]; rfl)) (hp.excl hm rfl) .none).2 d e1
      | none =>
        have hb : isBo o = true := by unfold isMk at hm; rw [ha] at hm; simpa using hm
        obtain ⟨_, s, hd, _⟩ := isBo_inv hb
        have hc : Clean (.loc s) st := by
          unfold Pre at hp
          rw [ha] at hp
          exact hp s hd
        rw [nmOf_bo hb hd]
        exact optV_ment hl hc e1
    exact Pre.keep_ (T' := (st.put oj.dst d).T) (L' := (st.put oj.dst d).L) (O' := (st.put oj.dst d).O) hm hp (put_ne fun e he q => hnb (by rw [he, q])) (by rw [hLO.1]) ((hp.excl hm rfl).put hment)
  · have hpj := hJ.pre hst hRj hj hD hoj hmj
    obtain ⟨dj, vj, hdj, hvj, hB⟩ := mk_eff (P := P) (call := call) (ops := ops) hmj
    obtain ⟨ob, hob, e1, _⟩ := hB st st1 hpj h
    refine ⟨by rw [e1]; exact hN, by rw [e1]; simpa using hM, fun o ho hm hprem => ?_⟩
    have hz := statO_z (statC_get hst hkn ho) hm hj hoj fun e => hkj e.symm
    by_cases hA : isBo oj = true ∧ oj.dst = some (nmOf o)
    · obtain ⟨p1, p2, p3, p4⟩ := hz.1 hA.2
      obtain ⟨q1, q2, q3⟩ := hob.2 p2
      have hnm : nmOf oj = nmOf o := nmOf_bo p1 hA.2
      obtain ⟨⟨a, d⟩, ea⟩ := Option.isSome_iff_exists.1 p3
      have hc : Clean (.loc (nmOf o)) st := by
        unfold Pre at hpj
        rw [appOf_none p1] at hpj
        exact hpj _ hA.2
      obtain ⟨s1, s2⟩ := hsz j oj hj hoj hmj
      have hna := nmOf_app ea
      unfold Pre
      rw [ea]
      dsimp only
      rw [e1]
      subst q1
      rw [hnm, hna] at s1 s2
      rw [hna] at hc
      rw [q2, hnm, hna]
      refine ⟨?_, ?_, ?_⟩
      · show ((st.T.set a ud).set a _).getD a ud = _
        rw [Tm.getD_set, if_pos rfl, if_pos (by show a < st.T.n; omega)]
      · obtain ⟨e2, e3, e4, e5, e6, q⟩ := q3
        refine ⟨e2, e3, e4, e5, e6, ?_⟩
        show (st.L.set a ob).getD a .none = _
        rw [List.getD_eq_getElem?_getD, List.getElem?_set_self (by omega), ← q]
        rfl
      · have h0 := hc.excl
        refine ⟨fun i => ?_, fun o' hm' => ?_, h0.O⟩
        · show mentD _ ((((st.T.set a ud).set a _).set a ud).getD i ud) = false
          rw [Tm.set_set, Tm.set_set]
          exact h0.T i
        · rcases List.mem_or_eq_of_mem_set hm' with q | q
          · exact hc.L o' q
          · rw [q]; exact hob.1 _
    · have hp : Pre o st := (hJ k hRk hkn).2.2 o ho hm fun b z hb hbz hbo hd hne hRb => hprem b z hb hbz hbo hd hne ⟨hRb, fun e => by
        subst e
        rw [hoj] at hbz; injection hbz with hbz; subst hbz
        exact hA ⟨hbo, hd⟩⟩
      have n1 : dj ≠ nmOf o := fun e => by
        have := hz.1 (by rw [hdj, e])
        exact hA ⟨this.1, by rw [hdj, e]⟩
      have n2 : nmOf oj ≠ nmOf o := by
        intro e
        cases hao : appOf o with
        | some q =>
          cases haj : appOf oj with
          | some q' =>
            have := hz.2 (by rw [hao]; rfl)
            rw [← e] at this
            exact this (app_looks (by rw [haj]; rfl))
          | none =>
            have hb : isBo oj = true := by unfold isMk at hmj; rw [haj] at hmj; simpa using hmj
            rw [nmOf_bo hb hdj] at e
            exact n1 e
        | none =>
          have hb : isBo o = true := by unfold isMk at hm; rw [hao] at hm; simpa using hm
          obtain ⟨_, s, hd, _⟩ := isBo_inv hb
          cases haj : appOf oj with
          | some q' =>
            have hz' := statO_z hsj hmj hkn ho hkj
            have := (hz'.1 (by rw [hd, e, nmOf_bo hb hd])).2.2.2
            exact hD k this hRk
          | none =>
            have hb' : isBo oj = true := by unfold isMk at hmj; rw [haj] at hmj; simpa using hmj
            rw [nmOf_bo hb' hdj] at e
            exact n1 e
      rw [e1]
      exact hp.eff (x := oj) hm n2 n1 (hvj _ fun q => by injection q with q; exact n2 q.symm) (hob.1 _)
theorem dr2_ok1 (hm : P.follows .mixedOrders = true) : DrOK1 P dr2 := by
  intro call ops st hdr st' hev t
  unfold dr2 at hdr
  rw [Bool.or_eq_true] at hdr
  rcases hdr with hdr | hdr
  · exact dr1_ok hm call ops st hdr st' hev t
  simp only [Bool.and_eq_true] at hdr
  obtain ⟨hdc, hcl, hsf⟩ := hdr
  unfold drC at hdc
  simp only [Bool.and_eq_true, List.any_eq_true, decide_eq_true_eq] at hdc
  obtain ⟨hb, ⟨m, _, hse, hmle, hst⟩, hpairs⟩ := hdc
  have hn : ∀ j, ops.size - m ≤ j → j < ops.size → ∀ k, k < j → k ∈ (preAll ops ops.size).getD j [] := by
    intro j hj hjs k hk
    unfold sealed at hse
    have e : ops.size - 1 - (ops.size - 1 - j) = j := by omega
    have := List.all_eq_true.1 (List.all_eq_true.1 hse (ops.size - 1 - j) (List.mem_range.2 (by omega))) k (List.mem_range.2 (by omega))
    rw [e] at this
    simpa using this
  generalize hN : ops.size - m = n at hst hn
  have hsz : ∀ k o, k < n → ops[k]? = some o → isMk o = true → nmOf o < st.T.n ∧ nmOf o < st.L.length := by
    intro k o _ ho hmk
    unfold sizeFor at hsf
    have := List.all_eq_true.1 hsf o (List.mem_of_getElem? (by simpa using ho))
    rw [hmk] at this
    simpa using this
  have base : JP ops n st.T.n st.L.length (fun _ => True) st := by
    intro k _ hkn
    refine ⟨rfl, rfl, fun o ho hmk hprem => ?_⟩
    cases ha : appOf o with
    | some q =>
      exfalso
      have hso := statC_get hst hkn ho
      unfold statO at hso
      simp only [Bool.and_eq_true, Bool.or_eq_true, hmk, ha, Bool.not_true, Bool.false_eq_true, false_or, Option.isNone_some, List.any_eq_true] at hso
      obtain ⟨j, hj1, hj2, hj3⟩ := hso.2.2
      have hjn := List.mem_range.1 hj1
      cases hz : ops[j]? with
      | none => rw [hz] at hj3; cases hj3
      | some z =>
        rw [hz] at hj3
        simp only [Bool.and_eq_true, beq_iff_eq, bne_iff_ne, ne_eq] at hj2 hj3
        exact hprem j z hjn hz hj3.1 hj3.2 hj2 trivial
    | none =>
      unfold Pre
      rw [ha]
      intro s hd
      have hbo : isBo o = true := by unfold isMk at hmk; rw [ha] at hmk; simpa using hmk
      unfold cleanFor at hcl
      have := List.all_eq_true.1 hcl o (List.mem_of_getElem? (by simpa using ho))
      rw [hbo, hd] at this
      exact clean_of (by simpa using this)
  refine order_ok (J := JP ops n st.T.n st.L.length) (Good := fun j => j < n ∨ ops.size ≤ j) hm hb (fun R R' st h1 h2 hJ k hk hkn => ?_) n (fun j hj => .inl hj) hn (fun st R h k hk hkn => absurd hkn (Nat.not_lt.2 (h k hk))) (fun j R s s1 hg hRj hD hJ h => ?_) (fun i j x y R s s1 s2 hij hx hy hn' ri rj di dj hJ q1 q2 => ?_) base hev t
  · obtain ⟨p1, p2, p3⟩ := hJ k (h1 k hk) hkn
    refine ⟨p1, p2, fun o ho hmk hprem => p3 o ho hmk fun b z hb' hz hbo hd hne hRb => ?_⟩
    exact hprem b z hb' hz hbo hd hne (h2 b (Array.getElem?_eq_some_iff.1 hz).1 hRb)
  · rcases Nat.lt_or_ge j ops.size with hjs | hjs
    · have hjn : j < n := by rcases hg with q | q <;> omega
      exact hJ.step hst hsz hjn hRj hD h hjs
    · unfold op1 at h
      rw [Array.getElem?_eq_none hjs] at h
      injection h with h
      subst h
      intro k hk hkn
      obtain ⟨p1, p2, p3⟩ := hJ k hk.1 hkn
      refine ⟨p1, p2, fun o ho hmk hprem => p3 o ho hmk fun b z hb' hz hbo hd hne hRb => hprem b z hb' hz hbo hd hne ⟨hRb, fun e => ?_⟩⟩
      have := (Array.getElem?_eq_some_iff.1 hz).1
      omega
  · have hjn : j < n := by
      have hjs := (Array.getElem?_eq_some_iff.1 hy).1
      rcases Nat.lt_or_ge j n with q | q
      · exact q
      · exact absurd (hn j q hjs i hij) hn'
    obtain ⟨p1, p2⟩ := pairs_get hpairs hij hx hy hn'
    unfold okMix at p1
    simp only [Bool.or_eq_true, Bool.and_eq_true, bne_iff_ne, ne_eq] at p1
    unfold op1 at q1 q2 ⊢
    rw [hx] at q1 ⊢
    rw [hy] at q2 ⊢
    rcases p1 with p1 | ⟨c1, c2, c3⟩ | ⟨c1, c2, c3⟩ | ⟨c1, c2, c3, c4, c5⟩
    · exact look_swap (lookB_look p1.1) (lookB_look p1.2) p2 q1 q2
    · exact swap_mk_look c1 c2 p2 c3 (hJ.pre hst ri (by omega) di hx c1) q1 q2
    · exact swap_look_mk c1 c2 p2 c3 (hJ.pre hst rj hjn dj hy c2) q1 q2
    · exact swap_mk_mk c1 c2 p2 c3 c4 c5 (hJ.pre hst ri (by omega) di hx c1) (hJ.pre hst rj hjn dj hy c2) q1 q2
end Go.Proofs.YtbadompnhhhfpaaGreatDoor.Dm
