/- The machine over plain data: places in a function's code, each with its equation. -/
import Derived.Test.YtmnoibkdmeajpaaGreatDm16I
namespace Go.Proofs.YtmnoibkdmeajpaaGreat.Dm
set_option linter.unusedSectionVars false
set_option linter.unusedVariables false
section
variable [Cfg] {R : Type}
noncomputable def at_ (call : CallF) (P : Program) : List Nat → Code → Ann → (St → Option R) → (Nat → St → Option R) → (St → Option R) → St → Option R
 | [], c, an, kn, ke, kr => evalC call P c an kn ke kr
 | i :: p, c, an, kn, ke, kr => match c with
  | .seq a b => bif i == 0 then at_ call P p a an.l (an.cutM (evalC call P b an.r kn ke kr)) ke kr else bif i == 3 then stopF (evalC call P b an.r kn ke kr) else at_ call P p b an.r kn ke kr
  | .cond _ x y => bif i == 0 then at_ call P p x an.l kn ke kr else at_ call P p y an.r kn ke kr
  | .block id b => at_ call P p b an kn (fun i st => if i = id then kn st else ke i st) kr
  | .loop b => bif i == 0 then at_ call P p b an.l (fun st => loopFix (fun again st => evalC call P b an.l (fun st => again (an.keepM st)) ke kr st) (an.keepM st)) ke kr
   else loopFix (fun again st => evalC call P b an.l (fun st => again (an.keepM st)) ke kr st)
  | _ => fun _ => none
def loopAt : List Nat → Code → Bool
 | [], c => match c with | .loop _ => true | _ => false
 | i :: p, c => match c with
  | .seq a b => bif i == 0 then loopAt p a else bif i == 3 then false else loopAt p b
  | .cond _ x y => bif i == 0 then loopAt p x else loopAt p y
  | .block _ b => loopAt p b
  | .loop b => bif i == 0 then loopAt p b else false
  | _ => false
theorem at_loop (call : CallF) (P : Program) : ∀ (p : List Nat) (c : Code) (an : Ann) (kn : St → Option R) (ke : Nat → St → Option R) (kr : St → Option R) (st : St), loopAt p c = true →
 at_ call P (p ++ [2]) c an kn ke kr st = at_ call P (p ++ [0]) c an kn ke kr st
 | [], c, an, kn, ke, kr, st, h => by
  cases c <;> simp only [loopAt, Bool.false_eq_true] at h
  simp only [List.nil_append, at_]
  exact loop_eq call P _ an.l an.keepM ke kr st
 | i :: p, c, an, kn, ke, kr, st, h => by
  cases c <;> simp only [loopAt, Bool.false_eq_true] at h
  case seq a b =>
   simp only [List.cons_append, at_]
   cases hi : i == 0 <;> simp only [hi, cond_true, cond_false] at h ⊢
   ·cases h3 : i == 3 <;> simp only [h3, cond_true, cond_false, Bool.false_eq_true] at h ⊢
    exact at_loop call P p b _ _ _ _ st h
   ·exact at_loop call P p a _ _ _ _ st h
  case cond c x y =>
   simp only [List.cons_append, at_]
   cases hi : i == 0 <;> simp only [hi, cond_true, cond_false] at h ⊢
   ·exact at_loop call P p y _ _ _ _ st h
   ·exact at_loop call P p x _ _ _ _ st h
  case block id b =>
   simp only [List.cons_append, at_]
   exact at_loop call P p b _ _ _ _ st h
  case loop b =>
   simp only [List.cons_append, at_]
   cases hi : i == 0 <;> simp only [hi, cond_true, cond_false, Bool.false_eq_true] at h ⊢
   exact at_loop call P p b _ _ _ _ st h
def seqAt : List Nat → Code → Bool
 | [], c => match c with | .seq _ _ => true | _ => false
 | i :: p, c => match c with
  | .seq a b => bif i == 0 then seqAt p a else bif i == 3 then false else seqAt p b
  | .cond _ x y => bif i == 0 then seqAt p x else seqAt p y
  | .block _ b => seqAt p b
  | .loop b => bif i == 0 then seqAt p b else false
  | _ => false
theorem at_stop (call : CallF) (P : Program) : ∀ (p : List Nat) (c : Code) (an : Ann) (kn : St → Option R) (ke : Nat → St → Option R) (kr : St → Option R) (st : St), seqAt p c = true →
 at_ call P (p ++ [3]) c an kn ke kr st = at_ call P (p ++ [1]) c an kn ke kr st
 | [], c, an, kn, ke, kr, st, h => by
  cases c <;> simp only [seqAt, Bool.false_eq_true] at h
  simp only [List.nil_append, at_]
  show stopF _ st = _
  rw [stopF_eq]
  rfl
 | i :: p, c, an, kn, ke, kr, st, h => by
  cases c <;> simp only [seqAt, Bool.false_eq_true] at h
  case seq a b =>
   simp only [List.cons_append, at_]
   cases hi : i == 0 <;> simp only [hi, cond_true, cond_false] at h ⊢
   ·cases h3 : i == 3 <;> simp only [h3, cond_true, cond_false, Bool.false_eq_true] at h ⊢
    exact at_stop call P p b _ _ _ _ st h
   ·exact at_stop call P p a _ _ _ _ st h
  case cond c x y =>
   simp only [List.cons_append, at_]
   cases hi : i == 0 <;> simp only [hi, cond_true, cond_false] at h ⊢
   ·exact at_stop call P p y _ _ _ _ st h
   ·exact at_stop call P p x _ _ _ _ st h
  case block id b =>
   simp only [List.cons_append, at_]
   exact at_stop call P p b _ _ _ _ st h
  case loop b =>
   simp only [List.cons_append, at_]
   cases hi : i == 0 <;> simp only [hi, cond_true, cond_false, Bool.false_eq_true] at h ⊢
   exact at_stop call P p b _ _ _ _ st h
end
section
variable [Cfg]
noncomputable def pt (E : Env) (f : FuncId) (p : List Nat) (st : St) : Option Res := match E.P.funcs[f]? with
 | none => none
 | some fn => match fn.body with
  | none => none
  | some c => @at_ (Cfg.at_ inferInstance f) _ (ev E) E.P p c (E.ann f) (@finish (Cfg.at_ inferInstance f) E.P fn) (fun _ _ => none) (@finish (Cfg.at_ inferInstance f) E.P fn) st
def entry (E : Env) (f : FuncId) (O : List Ob) : Bool := match E.lib f with
 | some _ => false
 | none => match E.P.funcs[f]? with
  | none => false
  | some fn => match fn.body with
   | none => false
   | some _ => !((Cfg.own f || Cfg.mak f) && !O.isEmpty)
def startOf (E : Env) (f : FuncId) (args : List Dv) (O : List Ob) : St := match E.P.funcs[f]? with
 | none => ⟨Tm.of 0 [], [], []⟩
 | some fn => start fn args O
theorem ev_at {E : Env} {f : FuncId} {args : List Dv} {O : List Ob} (h : entry E f O = true) : ev E f args O = pt E f [] (startOf E f args O) := by
 rw [ev_eq]
 unfold body pt startOf
 unfold entry at h
 split at h
 ·cases h
 ·rename_i hl
  rw [hl]
  dsimp only
  split at h
  ·cases h
  ·rename_i fn hf
   rw [hf]
   dsimp only
   split at h
   ·cases h
   ·rename_i c hb
    rw [hb]
    dsimp only
    have : ¬ ((Cfg.own f || Cfg.mak f) && !O.isEmpty) = true := by
     intro q
     rw [q] at h
     cases h
    rw [if_neg this]
    rfl
def loopIn (E : Env) (f : FuncId) (p : List Nat) : Bool := match E.P.funcs[f]? with
 | none => false
 | some fn => match fn.body with
  | none => false
  | some c => loopAt p c
theorem pt_loop (E : Env) (f : FuncId) (p : List Nat) (st : St) (h : loopIn E f p = true) : pt E f (p ++ [2]) st = pt E f (p ++ [0]) st := by
 unfold loopIn at h
 unfold pt
 split
 ·rename_i hf; simp [hf] at h
 ·rename_i fn hf
  rw [hf] at h
  dsimp only at h
  split
  ·rename_i hb; simp [hb] at h
  ·rename_i c hb
   rw [hb] at h
   exact @at_loop (Cfg.at_ inferInstance f) _ (ev E) E.P p c _ _ _ _ st h
def seqIn (E : Env) (f : FuncId) (p : List Nat) : Bool := match E.P.funcs[f]? with
 | none => false
 | some fn => match fn.body with
  | none => false
  | some c => seqAt p c
theorem pt_stop (E : Env) (f : FuncId) (p : List Nat) (st : St) (h : seqIn E f p = true) : pt E f (p ++ [3]) st = pt E f (p ++ [1]) st := by
 unfold seqIn at h
 unfold pt
 split
 ·rename_i hf; simp [hf] at h
 ·rename_i fn hf
  rw [hf] at h
  dsimp only at h
  split
  ·rename_i hb; simp [hb] at h
  ·rename_i c hb
   rw [hb] at h
   exact @at_stop (Cfg.at_ inferInstance f) _ (ev E) E.P p c _ _ _ _ st h
end
def tl {α : Type} (z : α) (l : List (Nat × α)) : Nat → Nat → List α
 | _, 0 => []
 | i, n + 1 => match l with
  | [] => z :: tl z [] (i + 1) n
  | (j, x) :: r => bif j == i then x :: tl z r (i + 1) n else z :: tl z l (i + 1) n
section
variable {R : Type}
end
end Go.Proofs.YtmnoibkdmeajpaaGreat.Dm
