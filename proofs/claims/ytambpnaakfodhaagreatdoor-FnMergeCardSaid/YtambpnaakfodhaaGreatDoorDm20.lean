/- The machine over plain data: runs on concrete data, by a count of rounds and of calls; what they come to, the machine comes to. -/
import Derived.Test.YtambpnaakfodhaaGreatDoorDm19
namespace Go.Proofs.YtambpnaakfodhaaGreatDoor.Dm
set_option linter.unusedSectionVars false
set_option linter.unusedVariables false
mutual
def beqP : Pd → Pd → Bool
  | .int k n, .int l m => decide (k = l) && decide (n = m)
  | .bool a, .bool b => a == b
  | .str s, .str t => decide (s = t)
  | .agg n cs, .agg m ds => n == m && beqPs cs ds
  | .sl s es, .sl z fs => s == z && beqPss es fs
  | .fn f, .fn g => f == g
  | .undef, .undef => true
  | .anyb, .anyb => true
  | .ow e s es, .ow f z fs => e == f && (s == z && beqPss es fs)
  | _, _ => false
def beqPs : List Pd → List Pd → Bool
  | [], [] => true
  | x :: xs, y :: ys => beqP x y && beqPs xs ys
  | _, _ => false
def beqPss : List (List Pd) → List (List Pd) → Bool
  | [], [] => true
  | x :: xs, y :: ys => beqPs x y && beqPss xs ys
  | _, _ => false
end
mutual
theorem beqP_eq : ∀ (a : Pd) {b : Pd}, beqP a b = true → a = b
  | .int k n, b, h => by cases b <;> first | (cases h; done) | (simp only [beqP, Bool.and_eq_true, decide_eq_true_eq] at h; rw [h.1, h.2])
  | .bool a, b, h => by cases b <;> first | (cases h; done) | (simp only [beqP, beq_iff_eq] at h; rw [h])
  | .str s, b, h => by cases b <;> first | (cases h; done) | (simp only [beqP, decide_eq_true_eq] at h; rw [h])
  | .agg n cs, b, h => by cases b <;> first | (cases h; done) | (simp only [beqP, Bool.and_eq_true, beq_iff_eq] at h; rw [h.1, beqPs_eq cs h.2])
  | .sl s es, b, h => by cases b <;> first | (cases h; done) | (simp only [beqP, Bool.and_eq_true, beq_iff_eq] at h; rw [h.1, beqPss_eq es h.2])
  | .fn f, b, h => by cases b <;> first | (cases h; done) | (simp only [beqP, beq_iff_eq] at h; rw [h])
  | .undef, b, h => by cases b <;> first | rfl | (cases h; done)
  | .anyb, b, h => by cases b <;> first | rfl | (cases h; done)
  | .ow e s es, b, h => by cases b <;> first | (cases h; done) | (simp only [beqP, Bool.and_eq_true, beq_iff_eq] at h; rw [h.1, h.2.1, beqPss_eq es h.2.2])
theorem beqPs_eq : ∀ (a : List Pd) {b : List Pd}, beqPs a b = true → a = b
  | [], b, h => by cases b <;> first | rfl | (cases h; done)
  | x :: xs, b, h => by cases b <;> first | (cases h; done) | (simp only [beqPs, Bool.and_eq_true] at h; rw [beqP_eq x h.1, beqPs_eq xs h.2])
theorem beqPss_eq : ∀ (a : List (List Pd)) {b : List (List Pd)}, beqPss a b = true → a = b
  | [], b, h => by cases b <;> first | rfl | (cases h; done)
  | x :: xs, b, h => by cases b <;> first | (cases h; done) | (simp only [beqPss, Bool.and_eq_true] at h; rw [beqPs_eq x h.1, beqPss_eq xs h.2])
end
mutual
def beqD : Dv → Dv → Bool
  | .p x, .p y => beqP x y
  | .nilsl s, .nilsl z => s == z
  | .ptr m o, .ptr n q => decide (m = n) && o == q
  | .arr m, .arr n => decide (m = n)
  | .mp m, .mp n => decide (m = n)
  | .agg n cs, .agg m ds => n == m && beqDs cs ds
  | .fn f cs, .fn g ds => f == g && beqDs cs ds
  | .tup cs, .tup ds => beqDs cs ds
  | _, _ => false
def beqDs : List Dv → List Dv → Bool
  | [], [] => true
  | x :: xs, y :: ys => beqD x y && beqDs xs ys
  | _, _ => false
end
mutual
theorem beqD_eq : ∀ (a : Dv) {b : Dv}, beqD a b = true → a = b
  | .p x, b, h => by cases b <;> first | (cases h; done) | (simp only [beqD] at h; rw [beqP_eq x h])
  | .nilsl s, b, h => by cases b <;> first | (cases h; done) | (simp only [beqD, beq_iff_eq] at h; rw [h])
  | .ptr m o, b, h => by cases b <;> first | (cases h; done) | (simp only [beqD, Bool.and_eq_true, beq_iff_eq, decide_eq_true_eq] at h; rw [h.1, h.2])
  | .arr m, b, h => by cases b <;> first | (cases h; done) | (simp only [beqD, decide_eq_true_eq] at h; rw [h])
  | .mp m, b, h => by cases b <;> first | (cases h; done) | (simp only [beqD, decide_eq_true_eq] at h; rw [h])
  | .agg n cs, b, h => by cases b <;> first | (cases h; done) | (simp only [beqD, Bool.and_eq_true, beq_iff_eq] at h; rw [h.1, beqDs_eq cs h.2])
  | .fn f cs, b, h => by cases b <;> first | (cases h; done) | (simp only [beqD, Bool.and_eq_true, beq_iff_eq] at h; rw [h.1, beqDs_eq cs h.2])
  | .tup cs, b, h => by cases b <;> first | (cases h; done) | (simp only [beqD] at h; rw [beqDs_eq cs h])
  | .el .., b, h => by cases b <;> cases h
  | .ro .., b, h => by cases b <;> cases h
  | .sub .., b, h => by cases b <;> cases h
theorem beqDs_eq : ∀ (a : List Dv) {b : List Dv}, beqDs a b = true → a = b
  | [], b, h => by cases b <;> first | rfl | (cases h; done)
  | x :: xs, b, h => by cases b <;> first | (cases h; done) | (simp only [beqDs, Bool.and_eq_true] at h; rw [beqD_eq x h.1, beqDs_eq xs h.2])
end
def beqM : List (ByteArray × Pd) → List (ByteArray × Pd) → Bool
  | [], [] => true
  | x :: xs, y :: ys => decide (x.1 = y.1) && (beqP x.2 y.2 && beqM xs ys)
  | _, _ => false
theorem beqM_eq : ∀ (a : List (ByteArray × Pd)) {b : List (ByteArray × Pd)}, beqM a b = true → a = b
  | [], b, h => by cases b <;> first | rfl | (cases h; done)
  | x :: xs, b, h => by cases b <;> first | (cases h; done) | (simp only [beqM, Bool.and_eq_true, decide_eq_true_eq] at h; rw [Prod.ext h.1 (beqP_eq _ h.2.1), beqM_eq xs h.2.2])
def beqO : Ob → Ob → Bool
  | .none, .none => true
  | .box n cs, .box m ds => n == m && beqPs cs ds
  | .mbox n cs, .mbox m ds => n == m && beqDs cs ds
  | .arr e s b r es, .arr f z c q fs => e == f && (s == z && (b == c && (r == q && beqPss es fs)))
  | .map es, .map fs => beqM es fs
  | .oarr e s es, .oarr f z fs => e == f && (s == z && beqPss es fs)
  | .marr e s es none, .marr f z fs none => e == f && (s == z && beqPss es fs)
  | .gmap e s es none, .gmap f z fs none => e == f && (s == z && beqM es fs)
  | _, _ => false
theorem beqO_eq (a : Ob) {b : Ob} (h : beqO a b = true) : a = b := by
  unfold beqO at h
  split at h <;> first | rfl | (cases h; done) | skip
  · simp only [Bool.and_eq_true, beq_iff_eq] at h; rw [h.1, beqPs_eq _ h.2]
  · simp only [Bool.and_eq_true, beq_iff_eq] at h; rw [h.1, beqDs_eq _ h.2]
  · simp only [Bool.and_eq_true, beq_iff_eq] at h; rw [h.1, h.2.1, h.2.2.1, h.2.2.2.1, beqPss_eq _ h.2.2.2.2]
  · rw [beqM_eq _ h]
  · simp only [Bool.and_eq_true, beq_iff_eq] at h; rw [h.1, h.2.1, beqPss_eq _ h.2.2]
  · simp only [Bool.and_eq_true, beq_iff_eq] at h; rw [h.1, h.2.1, beqPss_eq _ h.2.2]
  · simp only [Bool.and_eq_true, beq_iff_eq] at h; rw [h.1, h.2.1, beqM_eq _ h.2.2]
def beqOs : List Ob → List Ob → Bool
  | [], [] => true
  | x :: xs, y :: ys => beqO x y && beqOs xs ys
  | _, _ => false
theorem beqOs_eq : ∀ (a : List Ob) {b : List Ob}, beqOs a b = true → a = b
  | [], b, h => by cases b <;> first | rfl | (cases h; done)
  | x :: xs, b, h => by cases b <;> first | (cases h; done) | (simp only [beqOs, Bool.and_eq_true] at h; rw [beqO_eq x h.1, beqOs_eq xs h.2])
def agR : Option Res → Option Res → Option Res
  | some r, some q => if (beqDs r.1 q.1 && beqOs r.2 q.2) = true then some r else none
  | _, _ => none
theorem agR_some {a b : Option Res} {r : Res} (h : agR a b = some r) : a = some r ∧ b = some r := by
  unfold agR at h
  split at h
  · split at h
    · rename_i hd
      injection h with h; subst h
      simp only [Bool.and_eq_true] at hd
      exact ⟨rfl, congrArg some (Prod.ext (beqDs_eq _ hd.1) (beqOs_eq _ hd.2)).symm⟩
    · cases h
  · cases h
def normT (T : Tm) : Tm := Tm.of T.n (enumT 0 ((List.range T.n).map T.f))
theorem normT_eq [Cfg] (T : Tm) : normT T = T := by
  refine Tm.ext_ rfl fun j => ?_
  show (bif Nat.blt j T.n then findT (enumT 0 ((List.range T.n).map T.f)) j else ud) = T.f j
  rw [blt_eq]
  by_cases h : j < T.n
  · rw [decide_eq_true h, cond_true]
    have := find_enum ((List.range T.n).map T.f) 0 j
    rw [Nat.zero_add] at this
    rw [this, List.getD_eq_getElem?_getD, List.getElem?_map, List.getElem?_range h]
    rfl
  · rw [decide_eq_false h]
    exact (T.ok j (Nat.le_of_not_lt h)).symm
def normS (st : St) : St := { st with T := normT st.T }
theorem normS_eq [Cfg] (st : St) : normS st = st := by
  unfold normS
  rw [normT_eq]
section
variable [Cfg] {R : Type}
def evalCF (ag : Option R → Option R → Option R) (call : CallF) (P : Program) (lf : Nat) : Code → (St → Option R) → (Nat → St → Option R) → (St → Option R) → St → Option R
  | .skip, kn, _, _ => kn
  | .region _ ops draw, kn, _, _ => fun st => if draw = true then (if isCoin ops = true then ag (evalOps call P ops ops.toList st kn) (evalOps call P ops (coinR ops) st kn) else if drS ops (frz P ops (setl st)) = true then evalD call P ops (tailN ops) 0 [] ops.toList (frz P ops (setl st)) kn else none) else evalOps call P ops ops.toList st kn
  | .seq a b, kn, ke, kr => evalCF ag call P lf a (evalCF ag call P lf b kn ke kr) ke kr
  | .cond c x y, kn, ke, kr => fun st => match opd P st 0 c with
    | .p (.bool b) => bif b then evalCF ag call P lf x kn ke kr st else evalCF ag call P lf y kn ke kr st
    | .p .anyb => ag (evalCF ag call P lf x kn ke kr st) (evalCF ag call P lf y kn ke kr st)
    | _ => none
  | .block id body, kn, ke, kr => evalCF ag call P lf body kn (fun i st => if i = id then kn st else ke i st) kr
  | .loop body, _, ke, kr => fun st => rounds (fun again st => evalCF ag call P lf body (fun st => again (normS st)) ke kr st) lf st
  | .exit id, _, ke, _ => ke id
  | .ret, _, _, kr => kr
  | _, _, _, _ => fun _ => none
theorem evalC_fix {P : Program} {x : Code} {call : CallF} {ke : Nat → St → Option R} {kr : St → Option R} : Chain (rounds (fun (again : St → Option R) st => evalC call P x .z (fun st => again (Ann.keep .z st)) ke kr st)) :=
  rounds_chain fun p q hpq => evalC_mono P x _ (fun _ _ _ _ h => h) (fun st r h => hpq _ _ h) (fun _ => LeF.refl _) (LeF.refl _)
theorem evalCF_le {ag : Option R → Option R → Option R} (hag : ∀ {a b r}, ag a b = some r → a = some r ∧ b = some r) (P : Program) (lf : Nat) : ∀ (c : Code) {a b : CallF} (hab : LeC a b) {kn kn' : St → Option R} {ke ke' : Nat → St → Option R} {kr kr' : St → Option R},
    LeF kn kn' → (∀ i, LeF (ke i) (ke' i)) → LeF kr kr' → LeF (evalCF ag a P lf c kn ke kr) (evalC b P c .z kn' ke' kr') := by
  intro c
  induction c with
  | skip => intro a b hab kn kn' ke ke' kr kr' h1 h2 h3; simp only [evalC, evalCF]; exact h1
  | region id ops draw =>
    intro a b hab kn kn' ke ke' kr kr' h1 h2 h3 st r h
    simp only [evalC, evalCF] at h ⊢
    by_cases hd : draw = true
    · rw [if_pos hd] at h ⊢
      by_cases hco : isCoin ops = true
      · rw [if_pos hco] at h ⊢
        rw [agree_some]
        exact ⟨evalOps_mono hab h1 _ _ _ (hag h).1, evalOps_mono hab h1 _ _ _ (hag h).2⟩
      rw [if_neg hco] at h ⊢
      by_cases hr : drS ops (frz P ops (setl st)) = true
      · rw [if_pos hr] at h ⊢; exact evalD_mono hab h1 _ _ _ _ _ h
      · rw [if_neg hr] at h; cases h
    · rw [if_neg hd] at h ⊢; exact evalOps_mono hab h1 _ _ _ h
  | seq x y ihx ihy =>
    intro a b hab kn kn' ke ke' kr kr' h1 h2 h3
    simp only [evalC, evalCF, Ann.cut_eq]
    exact ihx hab (fun st r h => ihy hab h1 h2 h3 _ _ h) h2 h3
  | cond c x y ihx ihy =>
    intro a b hab kn kn' ke ke' kr kr' h1 h2 h3 st r h
    simp only [evalC, evalCF] at h ⊢
    split at h
    · rename_i b' hb'
      rw [hb']
      cases b'
      · exact ihy hab h1 h2 h3 _ _ h
      · exact ihx hab h1 h2 h3 _ _ h
    · rename_i hb'
      rw [hb']
      exact agree_some.2 ⟨ihx hab h1 h2 h3 _ _ (hag h).1, ihy hab h1 h2 h3 _ _ (hag h).2⟩
    · cases h
  | block id x ih =>
    intro a b hab kn kn' ke ke' kr kr' h1 h2 h3
    simp only [evalC, evalCF]
    refine ih hab h1 (fun i st r h => ?_) h3
    split at h
    · rename_i e; rw [if_pos e]; exact h1 _ _ h
    · rename_i e; rw [if_neg e]; exact h2 _ _ _ h
  | loop x ih =>
    intro a b hab kn kn' ke ke' kr kr' h1 h2 h3 st r h
    simp only [evalC, evalCF, loopFix] at h ⊢
    have hG : ∀ p q : St → Option R, LeF p q → LeF (evalCF ag a P lf x (fun st => p (normS st)) ke kr) (evalC b P x .z (fun st => q (Ann.keep .z st)) ke' kr') :=
      fun p q hpq => ih hab (fun st r h => hpq _ _ (by rw [normS_eq] at h; exact h)) h2 h3
    exact (lim_iff evalC_fix _ _).2 ⟨lf, rounds_le hG lf _ _ h⟩
  | exit id => intro a b hab kn kn' ke ke' kr kr' h1 h2 h3; simp only [evalC, evalCF]; exact h2 id
  | ret => intro a b hab kn kn' ke ke' kr kr' h1 h2 h3; simp only [evalC, evalCF]; exact h3
  | _ => intros; intro st r h; simp only [evalCF] at h; cases h
end
section
variable [Cfg]
def bodyF (P : Program) (ann : FuncId → Ann) (lib : FuncId → Option (List Pd → Option (List Pd))) (lf : Nat) (call : CallF) : CallF := fun f args O => match lib f with
  | some g => libD g args O
  | none => match P.funcs[f]? with
  | none => none
  | some fn => match fn.body with
    | none => none
    | some c => match ann f with
      | .z => if ((Cfg.own f || Cfg.mak f) && !O.isEmpty) = true then none else @evalCF (Cfg.at_ inferInstance f) _ agR call P lf c (@finish (Cfg.at_ inferInstance f) P fn) (fun _ _ => none) (@finish (Cfg.at_ inferInstance f) P fn) (start fn args O)
      | _ => none
def evalNF (P : Program) (ann : FuncId → Ann) (lib : FuncId → Option (List Pd → Option (List Pd))) (lf : Nat) : Nat → CallF
  | 0 => fun _ _ _ => none
  | n + 1 => bodyF P ann lib lf (evalNF P ann lib lf n)
theorem bodyF_le (E : Env) (lf : Nat) {a b : CallF} (h : LeC a b) : LeC (bodyF E.P E.ann E.lib lf a) (body E b) := by
  intro f as os r hb
  unfold bodyF at hb
  unfold body
  cases hl : E.lib f with
  | some g => rw [hl] at hb; exact hb
  | none =>
  rw [hl] at hb
  dsimp only at hb ⊢
  cases hf : E.P.funcs[f]? with
  | none => rw [hf] at hb; cases hb
  | some fn =>
  rw [hf] at hb
  dsimp only at hb ⊢
  cases hc : fn.body with
  | none => rw [hc] at hb; cases hb
  | some c =>
  rw [hc] at hb
  dsimp only at hb ⊢
  cases ha : E.ann f with
  | n k l r => rw [ha] at hb; cases hb
  | z =>
  rw [ha] at hb
  dsimp only at hb
  by_cases hoo : ((Cfg.own f || Cfg.mak f) && !os.isEmpty) = true
  · rw [if_pos hoo] at hb; cases hb
  rw [if_neg hoo] at hb ⊢
  exact @evalCF_le (Cfg.at_ inferInstance f) _ agR agR_some E.P lf _ _ _ h _ _ _ _ _ _ (LeF.refl _) (fun _ => LeF.refl _) (LeF.refl _) _ _ hb
theorem run_ev (E : Env) (lf n : Nat) {f : FuncId} {as : List Dv} {os : List Ob} {r : Res} (h : evalNF E.P E.ann E.lib lf n f as os = some r) : ev E f as os = some r := by
  have : ∀ n, LeC (evalNF E.P E.ann E.lib lf n) (evalN E n) := fun n => by
    induction n with
    | zero => intro f as os r h; cases h
    | succ n ih => exact bodyF_le E lf ih
  exact (ev_iff _ f as os r).2 ⟨n, this n _ _ _ _ h⟩
structure Told where
  f : FuncId
  as : List Dv
  os : List Ob
  r : Res
def tabC (l : List Told) (call : CallF) : CallF := fun f as os => match l.find? fun q => q.f == f && (beqDs q.as as && beqOs q.os os) with
  | some q => some q.r
  | none => call f as os
def evalNT (P : Program) (ann : FuncId → Ann) (lib : FuncId → Option (List Pd → Option (List Pd))) (lf : Nat) (l : List Told) : Nat → CallF
  | 0 => fun _ _ _ => none
  | n + 1 => bodyF P ann lib lf (tabC l (evalNT P ann lib lf l n))
theorem tabC_le {E : Env} {l : List Told} (h : ∀ q ∈ l, ev E q.f q.as q.os = some q.r) {call : CallF} (hc : LeC call (ev E)) : LeC (tabC l call) (ev E) := by
  intro f as os r q
  unfold tabC at q
  split at q
  · rename_i e he
    injection q with q; subst q
    have h1 := List.find?_some he
    simp only [Bool.and_eq_true, beq_iff_eq] at h1
    rw [← h1.1, ← beqDs_eq _ h1.2.1, ← beqOs_eq _ h1.2.2]
    exact h e (List.mem_of_find?_eq_some he)
  · exact hc _ _ _ _ q
theorem evalNT_le (E : Env) (lf : Nat) {l : List Told} (h : ∀ q ∈ l, ev E q.f q.as q.os = some q.r) : ∀ n, LeC (evalNT E.P E.ann E.lib lf l n) (ev E)
  | 0 => fun _ _ _ _ q => by cases q
  | n + 1 => fun f as os r q => by
    rw [ev_eq]
    exact bodyF_le E lf (tabC_le h (evalNT_le E lf h n)) _ _ _ _ q
def isR (r : Res) : Option Res → Bool
  | some q => beqDs r.1 q.1 && beqOs r.2 q.2
  | none => false
theorem isR_eq {r : Res} {o : Option Res} (h : isR r o = true) : o = some r := by
  unfold isR at h
  split at h
  · rename_i q
    simp only [Bool.and_eq_true] at h
    exact congrArg some (Prod.ext (beqDs_eq _ h.1) (beqOs_eq _ h.2)).symm
  · cases h
theorem told_ev (E : Env) (lf n : Nat) {l : List Told} (h : ∀ q ∈ l, ev E q.f q.as q.os = some q.r) {q : Told} (hq : isR q.r (evalNT E.P E.ann E.lib lf l n q.f q.as q.os) = true) : ev E q.f q.as q.os = some q.r :=
  evalNT_le E lf h n _ _ _ _ (isR_eq hq)
def isZ : Ann → Bool
  | .z => true
  | _ => false
def atF {R : Type} (ag : Option R → Option R → Option R) (call : CallF) (P : Program) (lf : Nat) : List Nat → Code → Ann → (St → Option R) → (Nat → St → Option R) → (St → Option R) → St → Option R
  | [], _, _, _, _, _ => fun _ => none
  | i :: p, c, an, kn, ke, kr => match c with
    | .seq _ b => bif i == 0 then (fun _ => none) else bif i == 3 then (bif isZ an.r then evalCF ag call P lf b kn ke kr else fun _ => none) else atF ag call P lf p b an.r kn ke kr
    | .block id b => atF ag call P lf p b an kn (fun i st => if i = id then kn st else ke i st) kr
    | _ => fun _ => none
theorem atF_le {R : Type} {ag : Option R → Option R → Option R} (hag : ∀ {a b r}, ag a b = some r → a = some r ∧ b = some r) (P : Program) (lf : Nat) {a b : CallF} (hab : LeC a b) : ∀ (p : List Nat) (c : Code) (an : Ann) (kn : St → Option R) (ke : Nat → St → Option R) (kr : St → Option R),
    LeF (atF ag a P lf p c an kn ke kr) (at_ b P p c an kn ke kr)
  | [], c, an, kn, ke, kr, st, r, h => by cases h
  | i :: p, c, an, kn, ke, kr, st, r, h => by
    cases c with
    | seq x y =>
      simp only [atF, at_] at h ⊢
      cases h0 : i == 0 with
      | true => simp only [h0, cond_true] at h; cases h
      | false =>
        simp only [h0, cond_false] at h ⊢
        cases h3 : i == 3 with
        | true =>
          simp only [h3, cond_true] at h ⊢
          cases hz : an.r with
          | n k l r => rw [hz] at h; cases h
          | z =>
            rw [hz] at h
            rw [stopF_eq]
            exact evalCF_le hag P lf y hab (LeF.refl _) (fun _ => LeF.refl _) (LeF.refl _) _ _ h
        | false =>
          simp only [h3, cond_false] at h ⊢
          exact atF_le hag P lf hab p y _ _ _ _ _ _ h
    | block id x =>
      simp only [atF, at_] at h ⊢
      exact atF_le hag P lf hab p x _ _ _ _ _ _ h
    | _ => simp only [atF] at h; cases h
def ptF (P : Program) (ann : FuncId → Ann) (lf : Nat) (call : CallF) (f : FuncId) (p : List Nat) (st : St) : Option Res := match P.funcs[f]? with
  | none => none
  | some fn => match fn.body with
    | none => none
    | some c => @atF (Cfg.at_ inferInstance f) _ agR call P lf p c (ann f) (@finish (Cfg.at_ inferInstance f) P fn) (fun _ _ => none) (@finish (Cfg.at_ inferInstance f) P fn) st
theorem ptF_le (E : Env) (lf : Nat) {call : CallF} (h : LeC call (ev E)) {f : FuncId} {p : List Nat} {st : St} {r : Res} (hr : ptF E.P E.ann lf call f p st = some r) : pt E f p st = some r := by
  unfold ptF at hr
  unfold pt
  cases hf : E.P.funcs[f]? with
  | none => rw [hf] at hr; cases hr
  | some fn =>
  rw [hf] at hr
  dsimp only at hr ⊢
  cases hc : fn.body with
  | none => rw [hc] at hr; cases hr
  | some c =>
  rw [hc] at hr
  dsimp only at hr ⊢
  exact @atF_le (Cfg.at_ inferInstance f) _ agR agR_some E.P lf _ _ h _ _ _ _ _ _ _ _ hr
theorem told_pt (E : Env) (lf n : Nat) {l : List Told} (h : ∀ q ∈ l, ev E q.f q.as q.os = some q.r) {f : FuncId} {p : List Nat} {st : St} {r : Res} (hr : isR r (ptF E.P E.ann lf (tabC l (evalNT E.P E.ann E.lib lf l n)) f p st) = true) : pt E f p st = some r :=
  ptF_le E lf (tabC_le h (evalNT_le E lf h n)) (isR_eq hr)
end
end Go.Proofs.YtambpnaakfodhaaGreatDoor.Dm
