/- The machine over plain data: a limit of rounds satisfies its own equation. -/
import Derived.Test.YtmnoibkdmeajpaaGreatDm2
namespace Go.Proofs.YtmnoibkdmeajpaaGreat.Dm
set_option linter.unusedSectionVars false
set_option linter.unusedVariables false
set_option linter.unusedSimpArgs false
variable [Cfg] {R : Type}
theorem callB_local {P : Program} {rts : List TypeId} {call : CallF} {st : St} {f : FuncId} {args : List Pd} {q : Dv × St} (h : callB P rts call st f args pr = some q) :
 ∃ as os r, call f as os = some r ∧ ∀ call' : CallF, call' f as os = some r → callB P rts call' st f args pr = some q := by
 unfold callB at h
 split at h
 ·rename_i ho
  split at h
  ·cases h
  rename_i hl
  obtain ⟨r, hr, hk⟩ := Option.bind_eq_some_iff.1 h
  refine ⟨args.map .p, [], r, hr, fun call' h' => ?_⟩
  unfold callB
  rw [if_pos ho, if_neg hl, h', Option.bind_some]
  exact hk
 ·rename_i ho
  obtain ⟨r, hr, hk⟩ := Option.bind_eq_some_iff.1 h
  refine ⟨args.map .p, [], r, hr, fun call' h' => ?_⟩
  unfold callB
  rw [if_neg ho, h', Option.bind_some]
  exact hk
theorem callW_local {P : Program} {rts : List TypeId} {call : CallF} {st : St} {f : FuncId} {args : List Dv} {q : Dv × St} (h : callW P rts call st f args pr = some q) :
 ∃ as os r, call f as os = some r ∧ ∀ call' : CallF, call' f as os = some r → callW P rts call' st f args pr = some q := by
 unfold callW at h
 split at h
 ·cases h
 ·split at h
  ·rename_i h1
   split at h
   ·rename_i ds' rs h2
    split at h
    ·rename_i h3
     rw [upgD_bind] at h
     obtain ⟨st1, hst, h⟩ := Option.bind_eq_some_iff.1 h
     rw [rowsAt_bind] at h
     obtain ⟨os, ho, h⟩ := Option.bind_eq_some_iff.1 h
     obtain ⟨r, hr, hk⟩ := Option.bind_eq_some_iff.1 h
     refine ⟨_, os, r, hr, fun call' h' => ?_⟩
     unfold callW
     simp only [if_pos h1, h2, if_pos h3]
     rw [upgD_bind, hst, Option.bind_some, rowsAt_bind, ho, Option.bind_some, h', Option.bind_some]
     exact hk
    ·cases h
   ·cases h
  ·cases h
theorem callM_local {P : Program} {rts : List TypeId} {call : CallF} {st : St} {f : FuncId} {args : List Dv} {q : Dv × St} (h : callM P rts call st f args pr = some q) :
 ∃ as os r, call f as os = some r ∧ ∀ call' : CallF, call' f as os = some r → callM P rts call' st f args pr = some q := by
 unfold callM at h
 split at h
 ·cases h
 ·rename_i as hp
  obtain ⟨r, hr, hk⟩ := Option.bind_eq_some_iff.1 h
  refine ⟨as.map .p, [], r, hr, fun call' h' => ?_⟩
  unfold callM
  simp only [hp, h', Option.bind_some]
  exact hk
theorem callD_local {P : Program} {rts : List TypeId} {call : CallF} {st : St} {f : FuncId} {args : List Dv} {q : Dv × St} (h : callD P rts call st f args pr = some q) :
 ∃ as os r, call f as os = some r ∧ ∀ call' : CallF, call' f as os = some r → callD P rts call' st f args pr = some q := by
 unfold callD at h
 by_cases hw : Cfg.wr f = true
 ·rw [if_pos hw] at h
  obtain ⟨as, os, r, hr, hk⟩ := callW_local h
  refine ⟨as, os, r, hr, fun call' h' => ?_⟩
  unfold callD
  rw [if_pos hw]
  exact hk call' h'
 rw [if_neg hw] at h
 by_cases hm : Cfg.mak f = true
 ·rw [if_pos hm] at h
  obtain ⟨as, os, r, hr, hk⟩ := callM_local h
  refine ⟨as, os, r, hr, fun call' h' => ?_⟩
  unfold callD
  rw [if_neg hw, if_pos hm]
  exact hk call' h'
 rw [if_neg hm] at h
 split at h
 ·rename_i as hb
  obtain ⟨as', os, r, hr, hk⟩ := callB_local h
  refine ⟨as', os, r, hr, fun call' h' => ?_⟩
  unfold callD
  rw [if_neg hw, if_neg hm, hb]
  exact hk call' h'
 rename_i hb
 by_cases ho : (Cfg.own f || (rts.all (scalT P) && peekish args)) = true
 ·rw [if_pos ho] at h; cases h
 rw [if_neg ho] at h
 split at h
 ·cases h
 ·rename_i as L O hp
  split at h
  ·rename_i hc
   obtain ⟨r, hr, hk⟩ := Option.bind_eq_some_iff.1 h
   refine ⟨as, [], r, hr, fun call' h' => ?_⟩
   unfold callD
   rw [if_neg hw, if_neg hm, hb]
   simp only [hp, hc, h', Option.bind_some, if_neg ho]
   exact hk
  ·rename_i n ns hc
   split at h
   ·rename_i as' os h1 h2
    obtain ⟨r, hr, hk⟩ := Option.bind_eq_some_iff.1 h
    refine ⟨as', os, r, hr, fun call' h' => ?_⟩
    unfold callD
    rw [if_neg hw, if_neg hm, hb]
    simp only [hp, hc, h1, h2, h', Option.bind_some, if_neg ho]
    exact hk
   ·cases h
theorem stepOp_local {call : CallF} {P : Program} {o : Oper} {st : St} {q : Dv × St} (h : stepOp call P o st pr = some q) :
 (∀ call' : CallF, stepOp call' P o st pr = some q) ∨ ∃ f as os r, call f as os = some r ∧ ∀ call' : CallF, call' f as os = some r → stepOp call' P o st pr = some q := by
 cases ho : o.op
 case call c =>
  unfold stepOp at h
  rw [ho] at h
  dsimp only at h
  cases hc : c.callee with
  | value x =>
   rw [hc] at h
   dsimp only at h
   cases hcal : callee P st x with
   | none => rw [hcal] at h; cases h
   | some fc =>
    obtain ⟨f, cap⟩ := fc
    rw [hcal] at h
    dsimp only at h
    cases hf : P.funcs[f]? with
    | none => rw [hf] at h; cases h
    | some fn =>
     rw [hf] at h
     dsimp only at h
     by_cases hb : fn.body.isSome ∧ fn.name ≠ "runtime.NumGoroutine"
     ·rw [if_pos hb] at h
      obtain ⟨as, os, r, hr, hk⟩ := callD_local h
      refine .inr ⟨f, as, os, r, hr, fun call' h' => ?_⟩
      unfold stepOp
      rw [ho]
      simp only [hc, hcal, hf, if_pos hb]
      exact hk call' h'
     ·rw [if_neg hb] at h; cases h
  | invoke x m => rw [hc] at h; cases h
  | builtin bi =>
   refine .inl fun call' => ?_
   unfold stepOp
   rw [ho]
   dsimp only
   rw [hc] at h ⊢
   cases bi <;> exact h
 all_goals (refine .inl fun call' => ?_; unfold stepOp at h ⊢; rw [ho] at h ⊢; exact h)
theorem stepM_local {call : CallF} {P : Program} {o : Oper} {st : St} {q : Dv × St} (h : stepM call P o st pr = some q) :
 (∀ call' : CallF, stepM call' P o st pr = some q) ∨ ∃ f as os r, call f as os = some r ∧ ∀ call' : CallF, call' f as os = some r → stepM call' P o st pr = some q := by
 unfold stepM at h ⊢
 split at h
 ·rename_i h1
  split at h
  ·rename_i h2
   exact .inl fun call' => by rw [if_pos h1, if_pos h2]; exact h
  ·rename_i h2
   simp only [if_pos h1, if_neg h2]
   exact stepOp_local h
 ·rename_i h1
  simp only [if_neg h1]
  exact stepOp_local h
theorem stepM_mono {a b : CallF} (hab : LeC a b) {P : Program} {o : Oper} {st : St} {q : Dv × St} (h : stepM a P o st pr = some q) : stepM b P o st pr = some q := by
 rcases stepM_local h with h1 | ⟨f, as, os, r, hr, h1⟩
 ·exact h1 b
 ·exact h1 b (hab _ _ _ _ hr)
theorem stepM_cont {c : Nat → CallF} (hc : ChainC c) {P : Program} {o : Oper} {st : St} {q : Dv × St} (h : stepM (limC c) P o st pr = some q) : ∃ n, stepM (c n) P o st pr = some q := by
 rcases stepM_local h with h1 | ⟨f, as, os, r, hr, h1⟩
 ·exact ⟨0, h1 _⟩
 ·obtain ⟨n, hn⟩ := (limC_iff hc _ _ _ _).1 hr
  exact ⟨n, h1 _ hn⟩
theorem stepK_mono {a b : CallF} (hab : LeC a b) {P : Program} {o : Oper} {st : St} {k k' : Dv → St → Option R} (hk : ∀ d st r, k d st = some r → k' d st = some r) {r : R}
 (h : stepM a P o st k = some r) : stepM b P o st k' = some r := by
 rw [stepM_bind] at h ⊢
 obtain ⟨q, h1, h2⟩ := Option.bind_eq_some_iff.1 h
 exact Option.bind_eq_some_iff.2 ⟨q, stepM_mono hab h1, hk _ _ _ h2⟩
theorem stepK_cont {c : Nat → CallF} (hc : ChainC c) {P : Program} {o : Oper} {st : St} {k : Dv → St → Option R} {kn : Nat → Dv → St → Option R}
 (hm : ∀ n d st r, kn n d st = some r → kn (n + 1) d st = some r) (hk : ∀ d st r, k d st = some r → ∃ n, kn n d st = some r) {r : R}
 (h : stepM (limC c) P o st k = some r) : ∃ n, stepM (c n) P o st (kn n) = some r := by
 rw [stepM_bind] at h
 obtain ⟨q, h1, h2⟩ := Option.bind_eq_some_iff.1 h
 obtain ⟨n1, h1⟩ := stepM_cont hc h1
 obtain ⟨n2, h2⟩ := hk _ _ _ h2
 refine ⟨max n1 n2, ?_⟩
 rw [stepM_bind]
 have hm' : ∀ j, kn (n2 + j) q.1 q.2 = some r := by
  intro j; induction j with
  | zero => exact h2
  | succ j ih => exact hm _ _ _ _ ih
 refine Option.bind_eq_some_iff.2 ⟨q, stepM_mono (hc.le (Nat.le_max_left _ _)) h1, ?_⟩
 have := hm' (max n1 n2 - n2)
 rw [show n2 + (max n1 n2 - n2) = max n1 n2 from by omega] at this
 exact this
theorem evalOps_mono {a b : CallF} (hab : LeC a b) {P : Program} {ops : Array Oper} {k k' : St → Option R} (hk : LeF k k') :
 ∀ (l : List Oper) (st : St) (r : R), evalOps a P ops l st k = some r → evalOps b P ops l st k' = some r
 | [], st, r, h => hk _ _ h
 | o :: l, st, r, h => by
  have ih := evalOps_mono hab hk l (P := P) (ops := ops)
  cases hgd : o.guard with
  | none => simp only [evalOps, hgd] at h ⊢; exact stepK_mono hab (fun d st r h => ih _ _ h) h
  | some jw =>
   obtain ⟨j, want⟩ := jw
   simp only [evalOps, hgd] at h ⊢
   cases hgs : gslot ops j with
   | none => simp only [hgs] at h; cases h
   | some g =>
    simp only [hgs] at h ⊢
    split at h
    ·rename_i bb heq
     cases bb <;> cases want <;> simp only [cond_true, cond_false] at h ⊢ <;> first
      | exact ih _ _ h
      | exact stepK_mono hab (fun d st r h => ih _ _ h) h
    ·exact ih _ _ h
    ·cases h
theorem evalOps_cont {c : Nat → CallF} (hc : ChainC c) {P : Program} {ops : Array Oper} {k : St → Option R} {kn : Nat → St → Option R} (hm : Chain kn) (hk : ∀ st r, k st = some r → ∃ n, kn n st = some r) :
 ∀ (l : List Oper) (st : St) (r : R), evalOps (limC c) P ops l st k = some r → ∃ n, evalOps (c n) P ops l st (kn n) = some r
 | [], st, r, h => hk _ _ h
 | o :: l, st, r, h => by
  have ih := evalOps_cont hc hm hk l (P := P) (ops := ops)
  have hmm : ∀ n st r, evalOps (c n) P ops l st (kn n) = some r → evalOps (c (n + 1)) P ops l st (kn (n + 1)) = some r := fun n st r h => evalOps_mono (hc n) (hm n) l st r h
  have stp : ∀ (st0 : St), stepM (limC c) P o st0 (fun d st' => evalOps (limC c) P ops l (st'.put o.dst d) k) = some r → ∃ n, stepM (c n) P o st0 (fun d st' => evalOps (c n) P ops l (st'.put o.dst d) (kn n)) = some r :=
   fun st0 h => stepK_cont (kn := fun n d st' => evalOps (c n) P ops l (st'.put o.dst d) (kn n)) hc (fun n d st r h => hmm n _ _ h) (fun d st r h => ih _ _ h) h
  cases hgd : o.guard with
  | none => simp only [evalOps, hgd] at h ⊢; exact stp _ h
  | some jw =>
   obtain ⟨j, want⟩ := jw
   simp only [evalOps, hgd] at h ⊢
   cases hgs : gslot ops j with
   | none => simp only [hgs] at h; cases h
   | some g =>
    simp only [hgs] at h ⊢
    split at h
    ·rename_i bb heq
     cases bb <;> cases want <;> simp only [cond_true, cond_false] at h ⊢ <;> first
      | exact ih _ _ h
      | exact stp _ h
    ·exact ih _ _ h
    ·cases h
theorem evalD_mono {a b : CallF} (hab : LeC a b) {P : Program} {ops : Array Oper} {m : Nat} {k k' : St → Option R} (hk : LeF k k') :
 ∀ (l : List Oper) (i : Nat) (lg : List (Nat × Fp)) (st : St) (r : R), evalD a P ops m i lg l st k = some r → evalD b P ops m i lg l st k' = some r
 | [], i, lg, st, r, h => hk _ _ h
 | o :: l, i, lg, st, r, h => by
  have ih := evalD_mono hab hk l (P := P) (ops := ops) (m := m)
  have stp : ∀ st0 : St, (match fpK P o st0 with
   | some f => bif okLog ops i lg f then stepM a P o st0 fun d st' => evalD a P ops m (i + 1) ((i, f) :: lg) l (st'.put o.dst d) k else none
   | none => none) = some r → (match fpK P o st0 with
   | some f => bif okLog ops i lg f then stepM b P o st0 fun d st' => evalD b P ops m (i + 1) ((i, f) :: lg) l (st'.put o.dst d) k' else none
   | none => none) = some r := by
   intro st0 h
   split at h
   ·rename_i f hf
    cases hx : okLog ops i lg f with
    | false => rw [hx] at h; cases h
    | true =>
     rw [hx] at h
     simp only [cond_true] at h ⊢
     exact stepK_mono hab (fun d st r h => ih _ _ _ _ h) h
   ·cases h
  unfold evalD at h ⊢
  cases hb : Nat.ble m i with
  | true => rw [hb] at h; exact evalOps_mono hab hk _ _ _ h
  | false =>
   rw [hb] at h
   simp only [cond_false] at h ⊢
   cases hgd : o.guard with
   | none => simp only [hgd] at h; exact stp _ h
   | some jw =>
    obtain ⟨j, want⟩ := jw
    simp only [hgd] at h
    dsimp only
    cases hgs : gslot ops j with
    | none => simp only [hgs] at h; cases h
    | some g =>
     simp only [hgs] at h
     dsimp only
     split at h
     ·rename_i bb heq
      cases bb <;> cases want <;> simp only [cond_true, cond_false] at h ⊢ <;> first
       | exact ih _ _ _ _ h
       | exact stp _ h
     ·exact ih _ _ _ _ h
     ·cases h
theorem evalD_cont {c : Nat → CallF} (hc : ChainC c) {P : Program} {ops : Array Oper} {m : Nat} {k : St → Option R} {kn : Nat → St → Option R} (hm : Chain kn) (hk : ∀ st r, k st = some r → ∃ n, kn n st = some r) :
 ∀ (l : List Oper) (i : Nat) (lg : List (Nat × Fp)) (st : St) (r : R), evalD (limC c) P ops m i lg l st k = some r → ∃ n, evalD (c n) P ops m i lg l st (kn n) = some r
 | [], i, lg, st, r, h => hk _ _ h
 | o :: l, i, lg, st, r, h => by
  have ih := evalD_cont hc hm hk l (P := P) (ops := ops) (m := m)
  have hmm : ∀ n i lg st r, evalD (c n) P ops m i lg l st (kn n) = some r → evalD (c (n + 1)) P ops m i lg l st (kn (n + 1)) = some r := fun n i lg st r h => evalD_mono (hc n) (hm n) l i lg st r h
  have stp : ∀ st0 : St, (match fpK P o st0 with
   | some f => bif okLog ops i lg f then stepM (limC c) P o st0 fun d st' => evalD (limC c) P ops m (i + 1) ((i, f) :: lg) l (st'.put o.dst d) k else none
   | none => none) = some r → ∃ n, (match fpK P o st0 with
   | some f => bif okLog ops i lg f then stepM (c n) P o st0 fun d st' => evalD (c n) P ops m (i + 1) ((i, f) :: lg) l (st'.put o.dst d) (kn n) else none
   | none => none) = some r := by
   intro st0 h
   split at h
   ·rename_i f hf
    cases hx : okLog ops i lg f with
    | false => rw [hx] at h; cases h
    | true =>
     rw [hx] at h
     simp only [cond_true] at h ⊢
     exact stepK_cont (kn := fun n d st' => evalD (c n) P ops m (i + 1) ((i, f) :: lg) l (st'.put o.dst d) (kn n)) hc (fun n d st r h => hmm n _ _ _ _ h) (fun d st r h => ih _ _ _ _ h) h
   ·cases h
  unfold evalD at h
  simp only [evalD]
  cases hb : Nat.ble m i with
  | true => rw [hb] at h; exact evalOps_cont hc hm hk _ _ _ h
  | false =>
   rw [hb] at h
   simp only [cond_false] at h ⊢
   cases hgd : o.guard with
   | none => simp only [hgd] at h; exact stp _ h
   | some jw =>
    obtain ⟨j, want⟩ := jw
    simp only [hgd] at h
    dsimp only
    cases hgs : gslot ops j with
    | none => simp only [hgs] at h; cases h
    | some g =>
     simp only [hgs] at h
     dsimp only
     split at h
     ·rename_i bb heq
      cases bb <;> cases want <;> simp only [cond_true, cond_false] at h ⊢ <;> first
       | exact ih _ _ _ _ h
       | exact stp _ h
     ·exact ih _ _ _ _ h
     ·cases h
theorem rounds_le {S : Type} {G G' : (S → Option R) → S → Option R} (h : ∀ a b, LeF a b → LeF (G a) (G' b)) : ∀ n, LeF (rounds G n) (rounds G' n)
 | 0 => fun _ _ q => by cases q
 | n + 1 => h _ _ (rounds_le h n)
theorem rounds_chain {S : Type} {G : (S → Option R) → S → Option R} (h : ∀ a b, LeF a b → LeF (G a) (G b)) : Chain (rounds G)
 | 0 => fun _ _ q => by cases q
 | n + 1 => h _ _ (rounds_chain h n)
theorem agree_some {a b : Option R} {r : R} : agree a b = some r ↔ a = some r ∧ b = some r := by
 unfold agree
 constructor
 ·intro h
  split at h
  ·split at h
   ·rename_i x y e
    injection h with h; subst h e
    exact ⟨rfl, rfl⟩
   ·cases h
  ·cases h
 ·rintro ⟨rfl, rfl⟩
  simp
theorem evalC_mono (P : Program) : ∀ (c : Code) (an : Ann) {a b : CallF} (hab : LeC a b) {kn kn' : St → Option R} {ke ke' : Nat → St → Option R} {kr kr' : St → Option R},
 LeF kn kn' → (∀ i, LeF (ke i) (ke' i)) → LeF kr kr' → LeF (evalC a P c an kn ke kr) (evalC b P c an kn' ke' kr') := by
 intro c
 induction c with
 | skip => intro an a b hab kn kn' ke ke' kr kr' h1 h2 h3; simp only [evalC]; exact h1
 | region id ops draw =>
  intro an a b hab kn kn' ke ke' kr kr' h1 h2 h3 st r h
  simp only [evalC] at h ⊢
  by_cases hd : draw = true
  ·rw [if_pos hd] at h ⊢
   by_cases hco : isCoin ops = true
   ·rw [if_pos hco] at h ⊢
    rw [agree_some] at h ⊢
    exact ⟨evalOps_mono hab h1 _ _ _ h.1, evalOps_mono hab h1 _ _ _ h.2⟩
   rw [if_neg hco] at h ⊢
   by_cases hr : drS ops (frz P ops (setl st)) = true
   ·rw [if_pos hr] at h ⊢; exact evalD_mono hab h1 _ _ _ _ _ h
   ·rw [if_neg hr] at h; cases h
  ·rw [if_neg hd] at h ⊢; exact evalOps_mono hab h1 _ _ _ h
 | seq x y ihx ihy =>
  intro an a b hab kn kn' ke ke' kr kr' h1 h2 h3
  simp only [evalC, Ann.cutM_eq]
  exact ihx _ hab (fun st r h => ihy _ hab h1 h2 h3 _ _ h) h2 h3
 | cond c x y ihx ihy =>
  intro an a b hab kn kn' ke ke' kr kr' h1 h2 h3 st r h
  simp only [evalC] at h ⊢
  split at h
  ·rename_i b' _
   cases b'
   ·exact ihy _ hab h1 h2 h3 _ _ h
   ·exact ihx _ hab h1 h2 h3 _ _ h
  ·rw [agree_some] at h ⊢
   exact ⟨ihx _ hab h1 h2 h3 _ _ h.1, ihy _ hab h1 h2 h3 _ _ h.2⟩
  ·cases h
 | block id x ih =>
  intro an a b hab kn kn' ke ke' kr kr' h1 h2 h3
  simp only [evalC]
  refine ih _ hab h1 (fun i st r h => ?_) h3
  split at h
  ·rename_i e; rw [if_pos e]; exact h1 _ _ h
  ·rename_i e; rw [if_neg e]; exact h2 _ _ _ h
 | loop x ih =>
  intro an a b hab kn kn' ke ke' kr kr' h1 h2 h3 st r h
  simp only [evalC, loopFix] at h ⊢
  have hG : ∀ p q : St → Option R, LeF p q → LeF (evalC a P x an.l (fun st => p (an.keepM st)) ke kr) (evalC b P x an.l (fun st => q (an.keepM st)) ke' kr') :=
   fun p q hpq => ih _ hab (fun st r h => hpq _ _ h) h2 h3
  have hGa : ∀ p q : St → Option R, LeF p q → LeF (evalC a P x an.l (fun st => p (an.keepM st)) ke kr) (evalC a P x an.l (fun st => q (an.keepM st)) ke kr) :=
   fun p q hpq => ih _ (fun _ _ _ _ h => h) (fun st r h => hpq _ _ h) (fun _ => LeF.refl _) (LeF.refl _)
  have hGb : ∀ p q : St → Option R, LeF p q → LeF (evalC b P x an.l (fun st => p (an.keepM st)) ke' kr') (evalC b P x an.l (fun st => q (an.keepM st)) ke' kr') :=
   fun p q hpq => ih _ (fun _ _ _ _ h => h) (fun st r h => hpq _ _ h) (fun _ => LeF.refl _) (LeF.refl _)
  obtain ⟨n, hn⟩ := (lim_iff (rounds_chain hGa) _ _).1 h
  exact (lim_iff (rounds_chain hGb) _ _).2 ⟨n, rounds_le hG n _ _ hn⟩
 | exit id => intro an a b hab kn kn' ke ke' kr kr' h1 h2 h3; simp only [evalC]; exact h2 id
 | ret => intro an a b hab kn kn' ke ke' kr kr' h1 h2 h3; simp only [evalC]; exact h3
 | _ => intros; intro st r h; simp only [evalC] at h; cases h
theorem evalC_cont (P : Program) : ∀ (c : Code) (an : Ann) {cs : Nat → CallF} (hc : ChainC cs) {kn : St → Option R} {knn : Nat → St → Option R} {ke : Nat → St → Option R} {ken : Nat → Nat → St → Option R}
 {kr : St → Option R} {krn : Nat → St → Option R}, Chain knn → (∀ st r, kn st = some r → ∃ n, knn n st = some r) → (∀ i, Chain (fun n => ken n i)) → (∀ i st r, ke i st = some r → ∃ n, ken n i st = some r) →
 Chain krn → (∀ st r, kr st = some r → ∃ n, krn n st = some r) → ∀ st r, evalC (limC cs) P c an kn ke kr st = some r → ∃ n, evalC (cs n) P c an (knn n) (ken n) (krn n) st = some r := by
 intro c
 induction c with
 | skip => intro an cs hc kn knn ke ken kr krn m1 c1 m2 c2 m3 c3 st r h; simp only [evalC] at h ⊢; exact c1 _ _ h
 | region id ops draw =>
  intro an cs hc kn knn ke ken kr krn m1 c1 m2 c2 m3 c3 st r h
  simp only [evalC] at h ⊢
  by_cases hd : draw = true
  ·simp only [if_pos hd] at h ⊢
   by_cases hco : isCoin ops = true
   ·simp only [if_pos hco] at h ⊢
    rw [agree_some] at h
    obtain ⟨n1, g1⟩ := evalOps_cont hc m1 c1 _ _ _ h.1
    obtain ⟨n2, g2⟩ := evalOps_cont hc m1 c1 _ _ _ h.2
    have cx : ∀ l, Chain (fun n => fun st => evalOps (cs n) P ops l st (knn n)) := fun l n st r h => evalOps_mono (hc n) (m1 n) _ _ _ h
    exact ⟨max n1 n2, agree_some.2 ⟨(cx _).le (Nat.le_max_left _ _) _ _ g1, (cx _).le (Nat.le_max_right _ _) _ _ g2⟩⟩
   simp only [if_neg hco] at h ⊢
   by_cases hr : drS ops (frz P ops (setl st)) = true
   ·simp only [if_pos hr] at h ⊢
    exact evalD_cont hc m1 c1 _ _ _ _ _ h
   ·rw [if_neg hr] at h; cases h
  ·simp only [if_neg hd] at h ⊢; exact evalOps_cont hc m1 c1 _ _ _ h
 | seq x y ihx ihy =>
  intro an cs hc kn knn ke ken kr krn m1 c1 m2 c2 m3 c3 st r h
  simp only [evalC, Ann.cutM_eq] at h ⊢
  exact ihx _ hc (knn := fun n st => evalC (cs n) P y an.r (knn n) (ken n) (krn n) (an.keepM st))
   (fun n st r h => evalC_mono P y _ (hc n) (m1 n) (fun i => m2 i n) (m3 n) _ _ h) (fun st r h => ihy _ hc m1 c1 m2 c2 m3 c3 _ _ h) m2 c2 m3 c3 _ _ h
 | cond c x y ihx ihy =>
  intro an cs hc kn knn ke ken kr krn m1 c1 m2 c2 m3 c3 st r h
  simp only [evalC] at h ⊢
  split at h
  ·rename_i b' _
   cases b'
   ·exact ihy _ hc m1 c1 m2 c2 m3 c3 _ _ h
   ·exact ihx _ hc m1 c1 m2 c2 m3 c3 _ _ h
  ·rw [agree_some] at h
   obtain ⟨n1, g1⟩ := ihx _ hc m1 c1 m2 c2 m3 c3 _ _ h.1
   obtain ⟨n2, g2⟩ := ihy _ hc m1 c1 m2 c2 m3 c3 _ _ h.2
   have cx : Chain (fun n => evalC (cs n) P x an.l (knn n) (ken n) (krn n)) := fun n => evalC_mono P x _ (hc n) (m1 n) (fun i => m2 i n) (m3 n)
   have cy : Chain (fun n => evalC (cs n) P y an.r (knn n) (ken n) (krn n)) := fun n => evalC_mono P y _ (hc n) (m1 n) (fun i => m2 i n) (m3 n)
   exact ⟨max n1 n2, agree_some.2 ⟨cx.le (Nat.le_max_left _ _) _ _ g1, cy.le (Nat.le_max_right _ _) _ _ g2⟩⟩
  ·cases h
 | block id x ih =>
  intro an cs hc kn knn ke ken kr krn m1 c1 m2 c2 m3 c3 st r h
  simp only [evalC] at h ⊢
  refine ih _ hc m1 c1 (ken := fun n i st => if i = id then knn n st else ken n i st) (fun i n st r h => ?_) (fun i st r h => ?_) m3 c3 _ _ h
  ·split at h
   ·rename_i e; simp only [if_pos e]; exact m1 _ _ _ h
   ·rename_i e; simp only [if_neg e]; exact m2 _ _ _ _ h
  ·split at h
   ·rename_i e; simp only [if_pos e]; exact c1 _ _ h
   ·rename_i e; simp only [if_neg e]; exact c2 _ _ _ h
 | loop x ih =>
  intro an cs hc kn knn ke ken kr krn m1 c1 m2 c2 m3 c3 st r h
  simp only [evalC, loopFix] at h ⊢
  have hGi : ∀ p q : St → Option R, LeF p q → LeF (evalC (limC cs) P x an.l (fun st => p (an.keepM st)) ke kr) (evalC (limC cs) P x an.l (fun st => q (an.keepM st)) ke kr) :=
   fun p q hpq => evalC_mono P x _ (fun _ _ _ _ h => h) (fun st r h => hpq _ _ h) (fun _ => LeF.refl _) (LeF.refl _)
  have hGn : ∀ n, ∀ p q : St → Option R, LeF p q → LeF (evalC (cs n) P x an.l (fun st => p (an.keepM st)) (ken n) (krn n)) (evalC (cs n) P x an.l (fun st => q (an.keepM st)) (ken n) (krn n)) :=
   fun n p q hpq => evalC_mono P x _ (fun _ _ _ _ h => h) (fun st r h => hpq _ _ h) (fun _ => LeF.refl _) (LeF.refl _)
  have hGs : ∀ n, ∀ p q : St → Option R, LeF p q → LeF (evalC (cs n) P x an.l (fun st => p (an.keepM st)) (ken n) (krn n)) (evalC (cs (n + 1)) P x an.l (fun st => q (an.keepM st)) (ken (n + 1)) (krn (n + 1))) :=
   fun n p q hpq => evalC_mono P x _ (hc n) (fun st r h => hpq _ _ h) (fun i => m2 i n) (m3 n)
  have key : ∀ m st r, rounds (fun again => evalC (limC cs) P x an.l (fun st => again (an.keepM st)) ke kr) m st = some r →
   ∃ n, rounds (fun again => evalC (cs n) P x an.l (fun st => again (an.keepM st)) (ken n) (krn n)) m st = some r := by
   intro m
   induction m with
   | zero => intro st r h; cases h
   | succ m ihm =>
    intro st r h
    simp only [rounds] at h ⊢
    exact ih _ hc (knn := fun n st => rounds (fun again => evalC (cs n) P x an.l (fun st => again (an.keepM st)) (ken n) (krn n)) m (an.keepM st))
     (fun n st r h => rounds_le (hGs n) m _ _ h) (fun st r h => ihm _ _ h) m2 c2 m3 c3 _ _ h
  obtain ⟨m, hm⟩ := (lim_iff (rounds_chain hGi) _ _).1 h
  obtain ⟨n, hn⟩ := key m _ _ hm
  exact ⟨n, (lim_iff (rounds_chain (hGn n)) _ _).2 ⟨m, hn⟩⟩
 | exit id => intro an cs hc kn knn ke ken kr krn m1 c1 m2 c2 m3 c3 st r h; simp only [evalC] at h ⊢; exact c2 _ _ _ h
 | ret => intro an cs hc kn knn ke ken kr krn m1 c1 m2 c2 m3 c3 st r h; simp only [evalC] at h ⊢; exact c3 _ _ h
 | _ => intros; rename_i h; simp only [evalC] at h; cases h
theorem loop_eq (call : CallF) (P : Program) (x : Code) (an : Ann) (kp : St → St) (ke : Nat → St → Option R) (kr : St → Option R) (st : St) :
 loopFix (fun again st => evalC call P x an (fun st => again (kp st)) ke kr st) st =
  evalC call P x an (fun st => loopFix (fun again st => evalC call P x an (fun st => again (kp st)) ke kr st) (kp st)) ke kr st := by
 have hG : ∀ p q : St → Option R, LeF p q → LeF (evalC call P x an (fun st => p (kp st)) ke kr) (evalC call P x an (fun st => q (kp st)) ke kr) :=
  fun p q hpq => evalC_mono P x _ (fun _ _ _ _ h => h) (fun st r h => hpq _ _ h) (fun _ => LeF.refl _) (LeF.refl _)
 have hc := rounds_chain hG
 have hl : limC (fun _ => call) = call := by
  funext f as os
  exact eq_of_iff fun r => (limC_iff (c := fun _ => call) (fun _ _ _ _ _ h => h) f as os r).trans ⟨fun ⟨_, h⟩ => h, fun h => ⟨0, h⟩⟩
 refine eq_of_iff fun r => ⟨fun h => ?_, fun h => ?_⟩
 ·obtain ⟨n, hn⟩ := (lim_iff hc st r).1 h
  cases n with
  | zero => cases hn
  | succ n => exact hG _ _ (le_lim hc n) _ _ hn
 ·rw [← hl] at h
  obtain ⟨n, hn⟩ := evalC_cont P x an (cs := fun _ => call) (fun _ _ _ _ _ h => h)
   (knn := fun n st => rounds (fun again st => evalC call P x an (fun st => again (kp st)) ke kr st) n (kp st)) (fun n st r h => hc n _ _ h)
   (ke := ke) (ken := fun _ => ke) (kr := kr) (krn := fun _ => kr)
   (fun st r h => by
    have h' := h
    simp only [hl] at h'
    exact (lim_iff hc _ _).1 h')
   (fun _ _ => LeF.refl _) (fun i st r h => ⟨0, h⟩) (fun _ => LeF.refl _) (fun st r h => ⟨0, h⟩) st r h
  exact (lim_iff hc st r).2 ⟨n + 1, hn⟩
theorem body_mono (E : Env) {a b : CallF} (h : LeC a b) : LeC (body E a) (body E b) := by
 intro f as os r hb
 unfold body at hb ⊢
 split at hb
 ·exact hb
 split at hb
 ·cases hb
 ·split at hb
  ·cases hb
  ·split at hb
   ·cases hb
   rename_i hoo
   rw [if_neg hoo]
   exact @evalC_mono (Cfg.at_ inferInstance f) _ E.P _ _ _ _ h _ _ _ _ _ _ (LeF.refl _) (fun _ => LeF.refl _) (LeF.refl _) _ _ hb
theorem evalN_chain (E : Env) : ChainC (evalN E)
 | 0 => fun _ _ _ _ h => by cases h
 | n + 1 => body_mono E (evalN_chain E n)
theorem ev_limC (E : Env) : ev E = limC (evalN E) := rfl
theorem ev_iff (E : Env) (f : FuncId) (as : List Dv) (os : List Ob) (r : Res) : ev E f as os = some r ↔ ∃ n, evalN E n f as os = some r := limC_iff (evalN_chain E) f as os r
theorem ev_eq (E : Env) (f : FuncId) (as : List Dv) (os : List Ob) : ev E f as os = body E (ev E) f as os := by
 refine eq_of_iff fun r => ⟨fun h => ?_, fun h => ?_⟩
 ·obtain ⟨n, hn⟩ := (ev_iff E f as os r).1 h
  cases n with
  | zero => cases hn
  | succ n => exact body_mono E (fun f as os r h => (ev_iff E f as os r).2 ⟨n, h⟩) _ _ _ _ hn
 ·rw [ev_limC] at h
  unfold body at h
  have : ∃ n, body E (evalN E n) f as os = some r := by
   unfold body
   cases hg : E.lib f with
   | some g => rw [hg] at h; exact ⟨0, h⟩
   | none =>
   rw [hg] at h
   dsimp only at h ⊢
   cases hf : E.P.funcs[f]? with
   | none => rw [hf] at h; cases h
   | some fn =>
    rw [hf] at h
    dsimp only at h ⊢
    cases hb : fn.body with
    | none => rw [hb] at h; cases h
    | some c =>
     rw [hb] at h
     dsimp only at h ⊢
     by_cases hoo : ((Cfg.own f || Cfg.mak f) && !os.isEmpty) = true
     ·rw [if_pos hoo] at h; cases h
     simp only [if_neg hoo] at h ⊢
     exact @evalC_cont (Cfg.at_ inferInstance f) _ E.P c (E.ann f) (evalN E) (evalN_chain E) _ (fun _ => _) (fun _ _ => none) (fun _ _ _ => none) _ (fun _ => _) (fun _ => LeF.refl _) (fun st r h => ⟨0, h⟩) (fun _ _ => LeF.refl _) (fun _ _ _ h => by cases h) (fun _ => LeF.refl _) (fun st r h => ⟨0, h⟩) _ _ h
  obtain ⟨n, hn⟩ := this
  exact (ev_iff E f as os r).2 ⟨n + 1, hn⟩
end Go.Proofs.YtmnoibkdmeajpaaGreat.Dm
