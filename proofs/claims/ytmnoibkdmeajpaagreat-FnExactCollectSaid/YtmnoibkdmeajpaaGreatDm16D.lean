/- The machine over plain data: what each kind of operation reads and writes where an order is drawn. -/
import Derived.Test.YtmnoibkdmeajpaaGreatDm16C
namespace Go.Proofs.YtmnoibkdmeajpaaGreat.Dm
set_option linter.unusedSectionVars false
open Go.RowKit
set_option linter.unusedVariables false
set_option linter.unusedSimpArgs false
variable [Cfg] {P : Program} {st st' st1 : St} {o : Oper} {d : Dv}
theorem mentOb_refs {m : Nm} {ob : Ob} (h : mentOb m ob = true) : m ∈ refsOb ob := by
 cases ob with
 | mbox n ds => exact mentDs_refs ds h
 | marr e s es lk =>
  match lk, h with
  | some (j, off, n), h =>
   simp only [mentOb, decide_eq_true_eq] at h
   simp [refsOb, h]
 | gmap e s es lk =>
  match lk, h with
  | some (j, n), h =>
   simp only [mentOb, decide_eq_true_eq] at h
   simp [refsOb, h]
 | _ => cases h
theorem mentL_nil {f : Nat → Nm} {m : Nm} : ∀ (os : List Ob) (i : Nat), (∀ k, mentOb m (os.getD k .none) = false) → mentL f m i os = []
 | [], i, h => rfl
 | o :: os, i, h => by
  have h0 := h 0
  simp only [List.getD_cons_zero] at h0
  simp only [mentL, h0, cond_false]
  exact mentL_nil os (i + 1) fun k => by simpa using h (k + 1)
theorem mentL_same {f : Nat → Nm} {m : Nm} : ∀ (os os' : List Ob) (i : Nat), (∀ k, mentOb m (os'.getD k .none) = mentOb m (os.getD k .none)) → mentL f m i os' = mentL f m i os
 | [], os', i, h => mentL_nil os' i fun k => h k
 | o :: os, [], i, h => (mentL_nil (o :: os) i fun k => (h k).symm).symm
 | o :: os, o' :: os', i, h => by
  have h0 := h 0
  simp only [List.getD_cons_zero] at h0
  simp only [mentL, h0]
  rw [mentL_same os os' (i + 1) fun k => by simpa using h (k + 1)]
theorem mentL_mem {f : Nat → Nm} {m : Nm} : ∀ (os : List Ob) (i k : Nat), mentOb m (os.getD k .none) = true → f (i + k) ∈ mentL f m i os
 | [], i, k, h => by simp [mentOb] at h
 | o :: os, i, 0, h => by
  simp only [List.getD_cons_zero] at h
  simp only [mentL, h, cond_true]
  exact List.mem_cons_self ..
 | o :: os, i, k + 1, h => by
  have := mentL_mem (f := f) os (i + 1) k (by simpa using h)
  rw [show i + 1 + k = i + (k + 1) by omega] at this
  simp only [mentL]
  cases mentOb m o with
  | true => exact List.mem_cons_of_mem _ this
  | false => exact this
theorem mentL_inv {f : Nat → Nm} {m n : Nm} : ∀ (os : List Ob) (i : Nat), n ∈ mentL f m i os → ∃ k, n = f (i + k) ∧ mentOb m (os.getD k .none) = true
 | [], i, h => by cases h
 | o :: os, i, h => by
  simp only [mentL] at h
  have rest : n ∈ mentL f m (i + 1) os → ∃ k, n = f (i + k) ∧ mentOb m ((o :: os).getD k .none) = true := fun h => by
   obtain ⟨k, q1, q2⟩ := mentL_inv os (i + 1) h
   exact ⟨k + 1, by rw [q1]; congr 1; omega, by simpa using q2⟩
  cases hm : mentOb m o with
  | true =>
   rw [hm, cond_true] at h
   rcases List.mem_cons.1 h with q | q
   ·exact ⟨0, q, by simpa using hm⟩
   ·exact rest q
  | false =>
   rw [hm, cond_false] at h
   exact rest h
theorem mentN_iff {m n : Nm} : n ∈ mentN st m ↔ mentOb m (getOb st.L st.O n) = true := by
 unfold mentN
 rw [List.mem_append]
 constructor
 ·rintro (h | h)
  ·obtain ⟨k, rfl, q⟩ := mentL_inv _ _ h
   rw [Nat.zero_add]; exact q
  ·obtain ⟨k, rfl, q⟩ := mentL_inv _ _ h
   rw [Nat.zero_add]; exact q
 ·intro h
  cases n with
  | loc s =>
   left
   have := mentL_mem (f := .loc) st.L 0 s h
   rwa [Nat.zero_add] at this
  | out s =>
   right
   have := mentL_mem (f := .out) st.O 0 s h
   rwa [Nat.zero_add] at this
theorem mentN_same {m : Nm} (h : ∀ n, mentOb m (getOb st'.L st'.O n) = mentOb m (getOb st.L st.O n)) : mentN st' m = mentN st m := by
 unfold mentN
 rw [mentL_same st.L st'.L 0 fun k => h (.loc k), mentL_same st.O st'.O 0 fun k => h (.out k)]
theorem flatMap_same {α β : Type} {f g : α → List β} : ∀ {l : List α}, (∀ x ∈ l, f x = g x) → l.flatMap f = l.flatMap g
 | [], _ => rfl
 | x :: l, h => by
  simp only [List.flatMap_cons, h x (List.mem_cons_self ..), flatMap_same fun y hy => h y (List.mem_cons_of_mem _ hy)]
def SameX (P : Program) (o : Oper) (st st' : St) : Prop := ∀ x ∈ o.op.operands.toList, ∀ t, opd P st' t x = opd P st t x
theorem sameX_of (h : ∀ t ∈ opT o, st'.T.getD t ud = st.T.getD t ud) : SameX P o st st' := fun x hx t => by
 cases x with
 | tmp y => exact h y (List.mem_filterMap.2 ⟨.tmp y, hx, rfl⟩)
 | _ => rfl
theorem nuO_same (h : ∀ t ∈ opT o, st'.T.getD t ud = st.T.getD t ud) : nuO o st' = nuO o st := by
 unfold nuO
 have : ∀ l : List Operand, (∀ x ∈ l, x ∈ o.op.operands.toList) → (l.all fun x => match x with | .tmp t => nudD (st'.T.getD t ud) | _ => true) = l.all fun x => match x with | .tmp t => nudD (st.T.getD t ud) | _ => true := by
  intro l
  induction l with
  | nil => intro _; rfl
  | cons x l ih =>
   intro hl
   simp only [List.all_cons, ih fun y hy => hl y (List.mem_cons_of_mem _ hy)]
   cases x with
   | tmp y => simp only [h y (List.mem_filterMap.2 ⟨.tmp y, hl _ (List.mem_cons_self ..), rfl⟩)]
   | _ => rfl
 exact this _ fun _ h => h
theorem mkFp_same {wr sc : List Nm} (ht : ∀ t ∈ opT o, st'.T.getD t ud = st.T.getD t ud) (hb : ∀ m ∈ (mkFp P o st wr sc).wr, getOb st'.L st'.O m = getOb st.L st.O m) (hm : ∀ n, n ∉ (mkFp P o st wr sc).wr → ∀ m ∈ sc, mentOb m (getOb st'.L st'.O n) = false) :
 mkFp P o st' wr sc = mkFp P o st wr sc := by
 have hment : ∀ m ∈ sc, mentN st' m = mentN st m := fun m hsc => mentN_same fun n => by
  by_cases hn : n ∈ (mkFp P o st wr sc).wr
  ·rw [hb n hn]
  ·rw [hm n hn m hsc]
   cases hx : mentOb m (getOb st.L st.O n) with
   | false => rfl
   | true => exact absurd (List.mem_append_right _ (List.mem_flatMap.2 ⟨m, hsc, mentN_iff.2 hx⟩)) hn
 unfold mkFp at hb ⊢
 rw [nuO_same ht, refsO_same (sameX_of ht), flatMap_same hment]
 rw [flatMap_same (f := fun m => refsOb (getOb st'.L st'.O m)) (g := fun m => refsOb (getOb st.L st.O m)) fun m hm => by rw [hb m hm]]
theorem wf_mk {wr sc : List Nm} {u : Upd} (hs : u.sc = sc) (hsc : ∀ m ∈ sc, m ∈ wr) (hup : ∀ q ∈ u.up, q.1 ∈ wr) (hv : ∀ m, mentD m u.v = true → May (mkFp P o st wr sc) st u.new.length m) (hc : ∀ q ∈ u.up, ∀ m, mentOb m q.2 = true → May (mkFp P o st wr sc) st u.new.length m)
 (hn : ∀ q ∈ u.new, ∀ m, mentOb m q = false) (hk : ownO o = false → u.new = []) (hkw : ownO o = true → wr = [] ∧ sc = []) : Wf u (mkFp P o st wr sc) o st where
 sc := hs.symm
 s1 m hm := List.mem_append_left _ (hsc m (hs ▸ hm))
 s2 m hm n hx := List.mem_append_right _ (List.mem_flatMap.2 ⟨m, hs ▸ hm, mentN_iff.2 hx⟩)
 u1 q hq := List.mem_append_left _ (hup q hq)
 od n hn m hx := List.mem_append_right _ (List.mem_flatMap.2 ⟨n, hn, mentOb_refs hx⟩)
 v := hv
 c := hc
 nw := hn
 k := hk
 kw h := by
  obtain ⟨rfl, rfl⟩ := hkw h
  rfl
mutual
theorem refs_mentD {m : Nm} : ∀ d : Dv, m ∈ refsD d → mentD m d = true
 | .ptr m' _, h => by simpa [refsD, mentD, eq_comm] using h
 | .arr m', h => by simpa [refsD, mentD, eq_comm] using h
 | .el m' _ _ _, h => by simpa [refsD, mentD, eq_comm] using h
 | .mp m', h => by simpa [refsD, mentD, eq_comm] using h
 | .sub m' _ _ _ _ _, h => by simpa [refsD, mentD, eq_comm] using h
 | .agg _ ds, h => by simp only [refsD] at h; simp only [mentD]; exact refs_mentDs ds h
 | .fn _ ds, h => by simp only [refsD] at h; simp only [mentD]; exact refs_mentDs ds h
 | .tup ds, h => by simp only [refsD] at h; simp only [mentD]; exact refs_mentDs ds h
 | .p _, h => by simp [refsD] at h
 | .nilsl _, h => by simp [refsD] at h
 | .ro _ _, h => by simp [refsD] at h
theorem refs_mentDs {m : Nm} : ∀ ds : List Dv, m ∈ refsDs ds → mentDs m ds = true
 | [], h => by simp [refsDs] at h
 | d :: ds, h => by
  simp only [refsDs, List.mem_append] at h
  simp only [mentDs, Bool.or_eq_true]
  exact h.imp (refs_mentD d) (refs_mentDs ds)
end
theorem refs_mentOb {m : Nm} {ob : Ob} (h : m ∈ refsOb ob) : mentOb m ob = true := by
 cases ob with
 | mbox n ds => exact refs_mentDs ds h
 | marr e s es lk =>
  match lk, h with
  | some (j, off, n), h =>
   simp only [refsOb, List.mem_singleton] at h
   simp [mentOb, h]
 | gmap e s es lk =>
  match lk, h with
  | some (j, n), h =>
   simp only [refsOb, List.mem_singleton] at h
   simp [mentOb, h]
 | _ => cases h
theorem refsO_inv {m : Nm} (h : m ∈ refsO P o st) : ∃ t ∈ opT o, mentD m (st.T.getD t ud) = true := by
 unfold refsO at h
 obtain ⟨x, hx, hm⟩ := List.mem_flatMap.1 h
 have hm := refs_mentD _ hm
 cases x with
 | tmp t => exact ⟨t, List.mem_filterMap.2 ⟨.tmp t, hx, rfl⟩, hm⟩
 | const v => simp only [opd, constD_ment] at hm; cases hm
 | func f => cases hm
 | global g => cases hm
theorem tells_mk {ops : Array Oper} {wr sc : List Nm} (hg : ∀ t ∈ guT ops o, nudD (st.T.getD t ud) = true ∧ ∀ m, mentD m (st.T.getD t ud) = false) (hwr : ∀ m ∈ wr, m ∈ refsO P o st ∨ ∃ s, m = .loc s ∧ s < st.T.n) : Tells ops o (mkFp P o st wr sc) st where
 nu h _ t ht := by
  obtain ⟨x, hx, e⟩ := List.mem_filterMap.1 ht
  have := List.all_eq_true.1 h x hx
  cases x with
  | tmp y => simp only [Option.some.injEq] at e; subst e; exact this
  | _ => cases e
 gu := hg
 rd _ t ht m hm := by
  obtain ⟨x, hx, e⟩ := List.mem_filterMap.1 ht
  refine List.mem_append_left _ ?_
  cases x with
  | tmp y => simp only [Option.some.injEq] at e; subst e; exact refsO_mem (t := 0) hx hm
  | _ => cases e
 old B hB hT hO hN i hi := by
  refine Classical.byContradiction fun hlt => ?_
  have hlt : B ≤ i := Nat.le_of_not_lt hlt
  have href : .loc i ∈ refsO P o st → False := fun q => by
   obtain ⟨t, ht, hm⟩ := refsO_inv q
   rw [hT rfl t ht i hlt] at hm
   cases hm
  have hw : .loc i ∈ (mkFp P o st wr sc).wr → False := fun q => by
   rcases List.mem_append.1 q with q | q
   ·rcases hwr _ q with q | ⟨s, e, q⟩
    ·exact href q
    ·injection e with e; omega
   ·obtain ⟨m, _, q⟩ := List.mem_flatMap.1 q
    have := mentN_iff.1 q
    rw [hN i hlt] at this
    cases this
  rcases hi with q | q
  ·rcases List.mem_append.1 q with q | q
   ·exact href q
   ·obtain ⟨n, _, q⟩ := List.mem_flatMap.1 q
    have := refs_mentOb q
    rw [hO n i hlt] at this
    cases this
  ·exact hw q
theorem settle_none {m : Nm} (h : linkOf st m = none) (k : Nat) : settle (k + 1) m st = st := by
 unfold settle
 rw [h]
theorem settles_none : ∀ {ns : List Nm}, (∀ m ∈ ns, linkOf st m = none) → settles st ns = st
 | [], _ => rfl
 | n :: ns, h => by
  show settles (settle 4 n st) ns = st
  rw [settle_none (h n (List.mem_cons_self ..))]
  exact settles_none fun m hm => h m (List.mem_cons_of_mem _ hm)
theorem noLink_none (h : noLink P o st = true) (hm : Cfg.mix = true) : ∀ m ∈ preN P o st, linkOf st m = none := by
 unfold noLink at h
 rw [hm] at h
 simp only [Bool.not_true, Bool.false_or, List.all_eq_true, Bool.and_eq_true, Option.isNone_iff_eq_none] at h
 exact fun m hm' => (h m hm').1
theorem stepM_plain {R : Type} {call : CallF} (h : noLink P o st = true) (k : Dv → St → Option R) : stepM call P o st k = bif Cfg.mix && isMix P o st then mixOp P o st k else stepOp call P o st k := by
 unfold stepM
 cases hm : Cfg.mix with
 | false => rfl
 | true =>
  rw [if_pos rfl, settles_none (noLink_none h hm), Bool.true_and]
  cases isMix P o st <;> rfl
def stpM (call : CallF) (P : Program) (o : Oper) (st : St) : Option St := (stepM call P o st pr).map fun q => q.2.put o.dst q.1
theorem stpM_old {call : CallF} (h : noLink P o st = true) (hi : (Cfg.mix && isMix P o st) = false) : stpM call P o st = stp call P o st := by
 unfold stpM stp
 rw [stepM_plain h, hi]
 rfl
theorem opds_sub : ∀ (xs : List Operand) (ts : List TypeId) (m : Nm), m ∈ refsDs (opds P st xs ts) → ∃ x ∈ xs, ∃ t, mentD m (opd P st t x) = true
 | [], ts, m, h => by simp [opds, refsDs] at h
 | x :: xs, [], m, h => by
  simp only [opds, refsDs, List.mem_append] at h
  rcases h with h | h
  ·exact ⟨x, List.mem_cons_self .., 0, refs_mentD _ h⟩
  ·obtain ⟨y, q1, q2⟩ := opds_sub xs [] m h
   exact ⟨y, List.mem_cons_of_mem _ q1, q2⟩
 | x :: xs, t :: ts, m, h => by
  simp only [opds, refsDs, List.mem_append] at h
  rcases h with h | h
  ·exact ⟨x, List.mem_cons_self .., t, refs_mentD _ h⟩
  ·obtain ⟨y, q1, q2⟩ := opds_sub xs ts m h
   exact ⟨y, List.mem_cons_of_mem _ q1, q2⟩
theorem callee_sameX {c : Call} (ho : o.op = .call c) {x : Operand} (hc : c.callee = .value x) (h : SameX P o st st') : callee P st' x = callee P st x := by
 have hx : x ∈ o.op.operands.toList := by rw [ho]; simp [Op.operands, Call.operands, hc]
 unfold callee
 cases x with
 | tmp t =>
  have : st'.T.getD t ud = st.T.getD t ud := h _ hx 0
  simp only [this]
 | _ => rfl
theorem opds_sameX {c : Call} (ho : o.op = .call c) (h : SameX P o st st') : opds P st' c.args.toList c.argTypes.toList = opds P st c.args.toList c.argTypes.toList :=
 opds_eq _ _ fun x hx => h x (args_mem ho hx)
theorem addN_keeps {m : Nm} : ∀ (ms ns : List Nm), m ∈ ns → m ∈ addN ns ms
 | [], ns, h => h
 | x :: ms, ns, h => by
  unfold addN
  split
  ·exact addN_keeps ms ns h
  ·exact addN_keeps ms _ (List.mem_append_left _ h)
theorem closeN_keeps {L O : List Ob} {m : Nm} : ∀ (k : Nat) (ns : List Nm), m ∈ ns → m ∈ closeN L O k ns
 | 0, ns, h => h
 | k + 1, ns, h => closeN_keeps k _ (addN_keeps _ _ h)
theorem closeN_same {L O L' O' : List Ob} : ∀ (k : Nat) (ns : List Nm), (∀ m ∈ closeN L O k ns, getOb L' O' m = getOb L O m) → closeN L' O' k ns = closeN L O k ns
 | 0, ns, h => rfl
 | k + 1, ns, h => by
  have e : (ns.flatMap fun m => refsOb (getOb L' O' m)) = ns.flatMap fun m => refsOb (getOb L O m) := flatMap_same fun m hm => by
   rw [h m (closeN_keeps k _ (addN_keeps _ _ hm))]
  unfold closeN
  rw [e]
  exact closeN_same k _ h
theorem preN_same (h : SameX P o st st') (hb : ∀ m ∈ preN P o st, getOb st'.L st'.O m = getOb st.L st.O m) : preN P o st' = preN P o st := by
 revert hb
 unfold preN
 cases ho : o.op with
 | store t a v =>
  have h := h
  unfold SameX at h
  rw [ho] at h
  have h1 := h a (by simp [Op.operands]) 0
  have h2 := h v (by simp [Op.operands]) t
  simp only [h1, h2]
  exact fun _ => trivial
 | load t a =>
  have h := h
  unfold SameX at h
  rw [ho] at h
  have h1 := h a (by simp [Op.operands]) 0
  simp only [h1]
  exact fun _ => trivial
 | buildSlice t len ps =>
  intro _
  refine flatMap_same fun q hq => ?_
  rw [h q.2 (by
   have hq' : q ∈ ps := by simpa using hq
   rw [ho]
   simp only [Op.operands, Array.toList_map, List.mem_map]
   exact ⟨q, by simpa using hq', rfl⟩) 0]
 | slice t x lo hi mx =>
  have h := h
  unfold SameX at h
  rw [ho] at h
  have h1 := h x (by simp [Op.operands]) t
  simp only [h1]
  exact fun _ => trivial
 | convert src dst x =>
  have h := h
  unfold SameX at h
  rw [ho] at h
  have h1 := h x (by simp [Op.operands]) src
  simp only [h1]
  exact fun _ => trivial
 | lookup t m x ok =>
  have h := h
  unfold SameX at h
  rw [ho] at h
  have h1 := h m (by simp [Op.operands]) t
  simp only [h1]
  exact fun _ => trivial
 | mapUpdate t m x y =>
  have h := h
  unfold SameX at h
  rw [ho] at h
  have h1 := h m (by simp [Op.operands]) t
  have h2 := h y (by simp [Op.operands]) ((elemM P t).getD 0)
  simp only [h1, h2]
  exact fun _ => trivial
 | call c =>
  dsimp only
  cases hc : c.callee with
  | value x =>
   simp only [callee_sameX ho hc h, opds_sameX ho h]
   intro hb
   cases hcal : callee P st x with
   | none => rfl
   | some q => rw [hcal] at hb; exact closeN_same 3 _ hb
  | builtin b =>
   cases b with
   | append => simp only [opds_sameX ho h]; exact fun _ => trivial
   | _ => exact fun _ => rfl
  | _ => exact fun _ => rfl
 | _ => exact fun _ => rfl
theorem refsO_of {m : Nm} {x : Operand} (hx : x ∈ o.op.operands.toList) {t : TypeId} (h : m ∈ refsD (opd P st t x)) : m ∈ refsO P o st := refsO_mem hx (refs_mentD _ h)
theorem noLink_same (h : SameX P o st st') (hb : ∀ m ∈ refsO P o st, getOb st'.L st'.O m = getOb st.L st.O m) : noLink P o st' = noLink P o st := by
 have hr : refsO P o st' = refsO P o st := refsO_same h
 have go : ∀ {st st' : St}, SameX P o st st' → (∀ m ∈ refsO P o st, getOb st'.L st'.O m = getOb st.L st.O m) → refsO P o st' = refsO P o st → noLink P o st = true → noLink P o st' = true := by
  intro st st' h hb hr hn
  unfold noLink at hn ⊢
  cases hm : Cfg.mix with
  | false => rfl
  | true =>
   rw [hm] at hn
   simp only [Bool.not_true, Bool.false_or, List.all_eq_true, Bool.and_eq_true, decide_eq_true_eq] at hn ⊢
   rw [preN_same h fun m hm' => hb m (hn m hm').2]
   intro m hm'
   refine ⟨?_, by rw [hr]; exact (hn m hm').2⟩
   have := (hn m hm').1
   unfold linkOf at this ⊢
   rw [hb m (hn m hm').2]
   exact this
 have h' : SameX P o st' st := fun x hx t => (h x hx t).symm
 cases e : noLink P o st with
 | true => exact go h hb hr e
 | false =>
  cases e' : noLink P o st' with
  | false => rfl
  | true =>
   rw [go h' (fun m hm => (hb m (by rw [← hr]; exact hm)).symm) hr.symm e'] at e
   cases e
structure Ag (o : Oper) (f : Fp) (st st' : St) : Prop where
 n : st'.T.n = st.T.n
 t : ∀ t ∈ opT o, st'.T.getD t ud = st.T.getD t ud
 b : ∀ m, m ∈ f.rd ∨ m ∈ f.wr → getOb st'.L st'.O m = getOb st.L st.O m
 l : ownO o = true → st'.L.length = st.L.length
 m : ∀ n, n ∉ f.wr → ∀ m ∈ f.sc, mentOb m (getOb st'.L st'.O n) = false
theorem Ag.x {f : Fp} (h : Ag o f st st') : SameX P o st st' := sameX_of h.t
theorem Wf.to {u : Upd} {f : Fp} (w : Wf u f o st) (hb : ∀ m, m ∈ f.rd ∨ m ∈ f.wr → getOb st'.L st'.O m = getOb st.L st.O m) (hl : ownO o = true → st'.L.length = st.L.length) (hm : ∀ n, n ∉ f.wr → ∀ m ∈ f.sc, mentOb m (getOb st'.L st'.O n) = false) : Wf u f o st' := by
 have may : ∀ m, May f st u.new.length m → May f st' u.new.length m := fun m h => by
  rcases h with q | q | ⟨n, q1, q2⟩ | ⟨i, q1, q2⟩
  ·exact .inl q
  ·exact .inr (.inl q)
  ·exact .inr (.inr (.inl ⟨n, q1, by rw [hb n q1]; exact q2⟩))
  ·refine .inr (.inr (.inr ⟨i, q1, ?_⟩))
   cases hx : ownO o with
   | true => rw [hl hx]; exact q2
   | false => rw [w.k hx] at q1; cases q1
 refine ⟨w.sc, w.s1, fun m hm' n hx => ?_, w.u1, fun n hn m hx => w.od n hn m (by rw [← hb n (.inr hn)]; exact hx), fun m h => may m (w.v m h), fun q hq m h => may m (w.c q hq m h), w.nw, w.k, w.kw⟩
 refine Classical.byContradiction fun hn => ?_
 rw [hm n hn m (by rw [w.sc]; exact hm')] at hx
 cases hx
def Loc (call : CallF) (P : Program) (o : Oper) (f : Fp) (st st1 : St) : Prop := ∃ u, Is u o st st1 ∧ Wf u f o st ∧
 ∀ st', Ag o f st st' → PreS o st' → ∃ st1', stpM call P o st' = some st1' ∧ fpK P o st' = some f ∧ Is u o st' st1'
theorem Ag.same {wr sc : List Nm} (h : Ag o (mkFp P o st wr sc) st st') : mkFp P o st' wr sc = mkFp P o st wr sc := mkFp_same h.t (fun m hm => h.b m (.inr hm)) fun n hn m hm => h.m n hn m hm
theorem Ag.refs {wr sc : List Nm} (h : Ag o (mkFp P o st wr sc) st st') : ∀ m ∈ refsO P o st, getOb st'.L st'.O m = getOb st.L st.O m := fun m hm => h.b m (.inl (List.mem_append_left _ hm))
theorem Ag.noLink {wr sc : List Nm} (h : Ag o (mkFp P o st wr sc) st st') : noLink P o st' = noLink P o st := noLink_same h.x h.refs
theorem dstOK_same (h : st'.T.n = st.T.n) : dstOK o st' = dstOK o st := by
 unfold dstOK
 rw [h]
theorem isMix_same (h : SameX P o st st') (hb : ∀ m ∈ refsO P o st, getOb st'.L st'.O m = getOb st.L st.O m) : isMix P o st' = isMix P o st := by
 unfold isMix
 cases ho : o.op with
 | store t a v =>
  dsimp only
  have hx : a ∈ o.op.operands.toList := by rw [ho]; simp [Op.operands]
  rw [h a hx 0]
  cases ha : opd P st 0 a with
  | el m j s off => dsimp only; rw [hb m (refsO_of (t := 0) hx (by rw [ha]; simp [refsD]))]
  | _ => rfl
 | load t a =>
  dsimp only
  have hx : a ∈ o.op.operands.toList := by rw [ho]; simp [Op.operands]
  rw [h a hx 0]
  cases ha : opd P st 0 a with
  | el m j s off => dsimp only; rw [hb m (refsO_of (t := 0) hx (by rw [ha]; simp [refsD]))]
  | _ => rfl
 | lookup t x y ok =>
  dsimp only
  have hx : x ∈ o.op.operands.toList := by rw [ho]; simp [Op.operands]
  rw [h x hx t]
  cases ha : opd P st t x with
  | mp m => dsimp only; rw [hb m (refsO_of (t := t) hx (by rw [ha]; simp [refsD]))]
  | _ => rfl
 | mapUpdate t x y z =>
  dsimp only
  have hx : x ∈ o.op.operands.toList := by rw [ho]; simp [Op.operands]
  rw [h x hx t]
  cases ha : opd P st t x with
  | mp m => dsimp only; rw [hb m (refsO_of (t := t) hx (by rw [ha]; simp [refsD]))]
  | _ => rfl
 | call c =>
  dsimp only
  cases hc : c.callee with
  | builtin b =>
   cases b with
   | append =>
    dsimp only
    rw [opds_sameX ho h]
    cases hs : opds P st c.args.toList c.argTypes.toList with
    | nil => rfl
    | cons d ds =>
     cases d with
     | arr m =>
      dsimp only
      rw [hb m (by
       obtain ⟨x, q1, t, q2⟩ := opds_sub (P := P) (st := st) c.args.toList c.argTypes.toList m (by rw [hs]; simp [refsDs, refsD])
       exact refsO_mem (args_mem ho q1) q2)]
     | _ => rfl
   | _ => rfl
  | _ => rfl
 | _ => rfl
theorem is_put {v : Dv} (L O : List Ob) (hL : L.length = st.L.length) (hO : O.length = st.O.length) {up : List (Nm × Ob)} (hb : ∀ m, getOb L O m = (upGet up m).getD (getOb st.L st.O m)) : Is ⟨v, [], up, []⟩ o st ((⟨st.T, L, O⟩ : St).put o.dst v) := by
 have h1 := put_LO (⟨st.T, L, O⟩ : St) o.dst v
 refine ⟨by cases o.dst <;> rfl, fun t => ?_, by rw [h1.1]; exact hL, by rw [h1.2]; exact hO, fun m _ => by rw [h1.1, h1.2]; exact hb m, fun i hi => by cases hi⟩
 cases hd : o.dst with
 | none => simp [St.put, scrubAll]
 | some s =>
  show (st.T.set s v).getD t ud = _
  rw [Tm.getD_set]
  by_cases e : s = t
  ·subst e
   by_cases hlt : s < st.T.n
   ·rw [if_pos rfl, if_pos hlt, if_pos ⟨rfl, hlt⟩]
   ·rw [if_pos rfl, if_neg hlt, if_neg fun q => hlt q.2]
    show ud = st.T.f s
    exact (st.T.ok s (Nat.le_of_not_lt hlt)).symm
  ·rw [if_neg e, if_neg fun q => e (by injection q.1)]
   rfl
end Go.Proofs.YtmnoibkdmeajpaaGreat.Dm
