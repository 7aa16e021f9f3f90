/- The machine over plain data and memory: regions, code, functions. -/
import Derived.Test.YtmnoibkdmeajpaaGreatDm13B
import Derived.Orders
namespace Go.Proofs.YtmnoibkdmeajpaaGreat.Dm
set_option linter.unusedSectionVars false
open Go.RowKit
set_option linter.unusedVariables false
set_option linter.unusedSimpArgs false
variable [Cfg] {P : Program} {cx : Cx} {ρ : Nm → Rz} {S : Nat → Nat → Prop} {w : World} {st st' : St} {a : Act} {o : Oper} {d : Dv}
def opS (call : CallF) (P : Program) (ops : Array Oper) (o : Oper) (st : St) : Option St := match o.guard with
 | none => (stepM call P o st pr).map fun q => q.2.put o.dst q.1
 | some (j, want) => match gslot ops j with
  | none => none
  | some g => match st.T.getD g ud with
   | .p (.bool b) => if b = want then (stepM call P o st pr).map fun q => q.2.put o.dst q.1 else some (st.put o.dst nix)
   | .tup [] => some (st.put o.dst nix)
   | _ => none
def evalO (call : CallF) (P : Program) (ops : Array Oper) : List Oper → St → Option St
 | [], st => some st
 | o :: l, st => (opS call P ops o st).bind (evalO call P ops l)
def op1 (call : CallF) (P : Program) (ops : Array Oper) (i : Nat) (st : St) : Option St := match ops[i]? with
 | none => some st
 | some o => opS call P ops o st
def evalL (call : CallF) (P : Program) (ops : Array Oper) : List Nat → St → Option St
 | [], st => some st
 | i :: l, st => (op1 call P ops i st).bind (evalL call P ops l)
theorem put_same {st : St} {g : Tmp} {x : Dv} (h : st.T.getD g ud = x) : st.put (some g) x = st := by
 unfold St.put
 have : st.T.set g x = st.T := by rw [← h]; exact Tm.set_same _ _
 simp only [this]
theorem evalOps_eq {R : Type} {call : CallF} {ops : Array Oper} {k : St → Option R} : ∀ (l : List Oper) (st : St), evalOps call P ops l st k = (evalO call P ops l st).bind k
 | [], st => rfl
 | o :: l, st => by
  have ih := evalOps_eq (call := call) (ops := ops) (k := k) l
  have step : ∀ st0, stepM call P o st0 (fun d st' => evalOps call P ops l (st'.put o.dst d) k) = (((stepM call P o st0 pr).map fun q => q.2.put o.dst q.1).bind (evalO call P ops l)).bind k := by
   intro st0
   rw [stepM_bind]
   cases stepM call P o st0 pr with
   | none => rfl
   | some q => exact ih _
  cases hgd : o.guard with
  | none => simp only [evalOps, evalO, opS, hgd]; exact step st
  | some jw =>
   obtain ⟨j, want⟩ := jw
   simp only [evalOps, evalO, opS, hgd]
   cases hgs : gslot ops j with
   | none => rfl
   | some g =>
    dsimp only
    split
    ·rename_i b hb
     rw [hb]
     dsimp only
     cases b with
     | true =>
      rw [put_same hb]
      cases want
      ·exact ih _
      ·exact step st
     | false =>
      rw [put_same hb]
      cases want
      ·exact step st
      ·exact ih _
    ·rename_i hb
     rw [hb]
     exact ih _
    ·rename_i hb hb2
     split
     ·rename_i b hb'
      exact absurd hb' (hb b)
     ·rename_i hb'
      exact absurd hb' hb2
     ·rfl
theorem evalL_range {call : CallF} {ops : Array Oper} : ∀ (n i : Nat) (st : St), i + n = ops.size → evalL call P ops (List.range' i n) st = evalO call P ops (ops.toList.drop i) st
 | 0, i, st, h => by
  rw [List.drop_eq_nil_of_le (by simp; omega)]; rfl
 | n + 1, i, st, h => by
  have hlt : i < ops.toList.length := by simp; omega
  rw [List.drop_eq_getElem_cons hlt, List.range'_succ]
  have e : ops[i]? = some ops.toList[i] := by simp
  simp only [evalL, evalO, op1, e]
  congr 1
  funext st'
  exact evalL_range n (i + 1) st' (by omega)
theorem evalOps_range {R : Type} {call : CallF} {ops : Array Oper} {k : St → Option R} (st : St) : evalOps call P ops ops.toList st k = (evalL call P ops (List.range ops.size) st).bind k := by
 rw [evalOps_eq, List.range_eq_range', evalL_range ops.size 0 st (by omega), List.drop_zero]
theorem Rel.put (h : Rel cx ρ S st a w) {v : Value} (hd : VD ρ S w d v) (dst : Option Tmp) : Rel cx ρ S (st.put dst d) (a.put dst v) w := by
 cases dst with
 | none => exact h
 | some t =>
  refine ⟨h.core, ?_, h.df, fun t' => ?_⟩
  ·simp only [St.put, Act.put, Array.size_setIfInBounds]; exact h.nt
  ·have hsz : a.tmps.size = st.T.n := h.nt
   have h0 := h.tm t'
   simp only [St.put, Act.put, Tm.getD_set, Array.getD_eq_getD_getElem?, Array.getElem?_setIfInBounds] at h0 ⊢
   by_cases e : t = t'
   ·subst e
    simp only [if_true]
    by_cases hlt : t < st.T.n
    ·have hlt' : t < a.tmps.size := by rw [hsz]; exact hlt
     rw [if_pos hlt, if_pos hlt']; exact hd
    ·have hlt' : ¬ t < a.tmps.size := by rw [hsz]; exact hlt
     rw [if_neg hlt, if_neg hlt']; exact .un
   ·simp only [if_neg e]; exact h0
theorem wanted_of {ops : Array Oper} (h : Rel cx ρ S st a w) {j : Nat} {want : Bool} {g : Tmp} {b : Bool} (hg : o.guard = some (j, want)) (hs : gslot ops j = some g) (hb : st.T.getD g ud = .p (.bool b)) :
 Region.wanted o (yielded ops a.tmps) = (b == want) := by
 have hv := h.tm g
 rw [hb] at hv
 have hv := hv.bool_inv
 have hv' : a.tmps[g]? = some (.bool b) := by
  rw [Array.getD_eq_getD_getElem?] at hv
  cases hx : a.tmps[g]? with
  | none => rw [hx] at hv; cases hv
  | some v => rw [hx] at hv; simpa using hv
 have hs' : (ops[j]?).bind (·.dst) = some g := hs
 unfold Region.wanted
 rw [hg]
 simp only [yielded, hs', Option.bind_some, hv']
 cases b <;> cases want <;> rfl
theorem StepOK.wp {q : Dv × St} (h : StepOK P cx o a w q.1 q.2) {K : Act → World → Prop} {Q : Exit → Act → World → Prop} (hK : ∀ ρ' S' a' w', Rel cx ρ' S' (q.2.put o.dst q.1) a' w' → K a' w') : o.wp P a w K Q := by
 unfold Oper.wp
 rcases h with ⟨v, w', ρ', S', hr, h1, h2⟩ | ⟨f, args, w1, hr, hc⟩
 ·rcases hr with hr | ⟨hr | ⟨f, cap, hr, hq⟩, rfl⟩
  ·rw [hr]; exact hK ρ' S' _ _ (h1.put h2 _)
  ·rw [hr]; exact hK ρ' S' _ _ (h1.put h2 _)
  ·rw [hr]
   have h3 : Rel cx ρ' S' q.2 { a with defers := ⟨.fn (.func f) cap, #[]⟩ :: a.defers } w' := ⟨h1.core, h1.nt, fun d hd => by
    rcases List.mem_cons.1 hd with e | hd
    ·exact ⟨f, cap, e, hq⟩
    ·exact h1.df d hd, h1.tm⟩
   exact hK ρ' S' _ _ (h3.put h2 _)
 ·rw [hr]
  refine Calls.mono hc fun e w' he => ?_
  obtain ⟨v, ρ', S', rfl, h1, h2⟩ := he
  exact hK ρ' S' _ _ (h1.put h2 _)
theorem opS_sound {call : CallF} {κ : Kp} (hcall : CallOK P κ call) (hk : Kx κ cx) {ops : Array Oper} {i : Nat} (ho : ops[i]? = some o) (h : Rel cx ρ S st a w) (hd : opS call P ops o st = some st') {K : Act → World → Prop} {Q : Exit → Act → World → Prop}
 (hK : ∀ ρ' S' a' w', Rel cx ρ' S' st' a' w' → K a' w') : wpOp P ops Q i K a w := by
 have go : Region.wanted o (yielded ops a.tmps) = true → ((stepM call P o st pr).map fun q => q.2.put o.dst q.1) = some st' → wpOp P ops Q i K a w := by
  intro hw hs
  obtain ⟨q, h1, h2⟩ := Option.map_eq_some_iff.1 hs
  subst h2
  unfold wpOp
  simp only [ho, hw, if_true]
  exact .inl ((stepM_sound hcall hk h h1).wp hK)
 unfold opS at hd
 split at hd
 ·rename_i hg
  exact go (by unfold Region.wanted; rw [hg]) hd
 ·rename_i j want hg
  split at hd
  ·cases hd
  ·rename_i g hs
   split at hd
   ·rename_i b hb
    have hw := wanted_of h hg hs hb
    split at hd
    ·rename_i e
     exact go (by rw [hw]; simpa using e) hd
    ·rename_i e
     injection hd with hd; subst hd
     unfold wpOp
     have hw' : Region.wanted o (yielded ops a.tmps) = false := by rw [hw]; simpa using e
     simp only [ho, hw', Bool.false_eq_true, if_false]
     exact hK ρ S _ _ (h.put (d := nix) (v := undef) (.tup rfl fun j hj => by cases hj) _)
   ·rename_i hb
    injection hd with hd; subst hd
    have hv := h.tm g
    rw [hb] at hv
    have hv' : a.tmps.getD g undef = .tuple #[] := by
     generalize a.tmps.getD g undef = v at hv
     cases hv with
     | tup h1 h2 => rw [Array.eq_empty_of_size_eq_zero h1]
    have hs' : (ops[j]?).bind (·.dst) = some g := hs
    have hw' : Region.wanted o (yielded ops a.tmps) = false := by
     unfold Region.wanted
     rw [hg]
     simp only [yielded, hs', Option.bind_some]
     rw [Array.getD_eq_getD_getElem?] at hv'
     cases hx : a.tmps[g]? with
     | none => rfl
     | some v =>
      rw [hx] at hv'
      simp only [Option.getD_some] at hv'
      subst hv'
      rfl
    unfold wpOp
    simp only [ho, hw', Bool.false_eq_true, if_false]
    exact hK ρ S _ _ (h.put (d := nix) (v := undef) (.tup rfl fun j hj => by cases hj) _)
   ·cases hd
theorem evalL_sound {call : CallF} {κ : Kp} (hcall : CallOK P κ call) (hk : Kx κ cx) {ops : Array Oper} {Q : Exit → Act → World → Prop} : ∀ (l : List Nat) {ρ : Nm → Rz} {S : Nat → Nat → Prop} {st : St} {a : Act} {w : World}, Rel cx ρ S st a w → evalL call P ops l st = some st' →
 (∀ ρ' S' a' w', Rel cx ρ' S' st' a' w' → Q .normal a' w') → wpOps P ops Q l a w
 | [], ρ, S, st, a, w, h, hd, hK => by
  simp only [evalL] at hd
  injection hd with hd; subst hd
  exact hK ρ S a w h
 | i :: l, ρ, S, st, a, w, h, hd, hK => by
  simp only [evalL] at hd
  obtain ⟨st1, h1, h2⟩ := Option.bind_eq_some_iff.1 hd
  rw [wpOps_cons]
  unfold op1 at h1
  split at h1
  ·rename_i ho
   injection h1 with h1; subst h1
   unfold wpOp
   simp only [ho]
   exact evalL_sound hcall hk l h h2 hK
  ·rename_i o ho
   exact opS_sound hcall hk ho h h1 fun ρ' S' a' w' h' => evalL_sound hcall hk l h' h2 hK
theorem Core.drop {L O L' O' : List Ob} (h : Core cx ρ S L O w) (hm : ∀ m, getOb L' O' m = getOb L O m ∨ (getOb L' O' m = .none ∧ ∃ s, m = .loc s)) : Core cx ρ S L' O' w := by
 have hl : ∀ m, getOb L' O' m ≠ .none → getOb L' O' m = getOb L O m := fun m q => (hm m).resolve_right fun ⟨q', _⟩ => q q'
 refine ⟨fun m => ?_, fun m1 m2 b hl1 hl2 => h.ne m1 m2 b (hl _ hl1 ▸ hl1) (hl _ hl2 ▸ hl2), fun m b o hlm q hS => ?_, fun m b hlm q => h.own m b (hl _ hlm ▸ hlm) q, h.sb, h.s0, h.sn, h.fr, h.sk, h.ws, h.os, h.tape, h.output, fun i z q => ?_, fun m k ho q => ?_, fun m1 m2 k ho hl2 e q => ?_⟩
 ·rcases hm m with q | ⟨q, _⟩
  ·rw [q]; exact h.ob m
  ·rw [q]; trivial
 ·rw [hl m hlm]; exact h.ss m b o (hl _ hlm ▸ hlm) q hS
 ·obtain ⟨q1, q2⟩ := h.bx i z q
  refine ⟨q1, ?_⟩
  rcases hm (.out i) with q | ⟨_, s, q⟩
  ·rw [q]; exact q2
  ·cases q
 ·have hlm : getOb L' O' m ≠ .none := fun q' => by rw [q'] at ho; cases ho
  rw [hl m hlm] at ho
  exact h.fp m k ho q
 ·have hlm : getOb L' O' m1 ≠ .none := fun q' => by rw [q'] at ho; cases ho
  rw [hl m1 hlm] at ho
  have e2 := hl m2 hl2
  rw [e2] at hl2 ⊢
  exact h.fd m1 m2 k ho hl2 e q
theorem findT_map (T : Tm) (j : Nat) : ∀ ks : List Nat, findT (ks.map fun k => (k, T.f k)) j = T.f j ∨ findT (ks.map fun k => (k, T.f k)) j = ud
 | [] => .inr rfl
 | k :: ks => by
  simp only [List.map_cons, findT, beq_eq]
  by_cases e : k = j
  ·subst e; rw [decide_eq_true rfl]; exact .inl rfl
  ·rw [decide_eq_false e]; exact findT_map T j ks
theorem keepT_get (ks : List Nat) (T : Tm) (j : Nat) : (keepT ks T).getD j ud = T.getD j ud ∨ (keepT ks T).getD j ud = ud := by
 simp only [keepT, Tm.of, Tm.getD, blt_eq]
 by_cases h : j < T.n
 ·rw [decide_eq_true h]; exact findT_map T j ks
 ·rw [decide_eq_false h]; exact .inr rfl
theorem keepL_get (ks : List Nat) : ∀ (T : List Ob) (i j : Nat), (keepL ks i T).getD j .none = T.getD j .none ∨ (keepL ks i T).getD j .none = .none
 | [], i, j => .inl rfl
 | d :: T, i, 0 => by
  simp only [keepL, List.getD_cons_zero]
  cases ks.contains i
  ·right; rfl
  ·left; rfl
 | d :: T, i, j + 1 => by
  simp only [keepL, List.getD_cons_succ]
  exact keepL_get ks T (i + 1) j
theorem Rel.keep_ (h : Rel cx ρ S st a w) (an : Ann) : Rel cx ρ S (an.keep st) a w := by
 unfold Ann.keep
 split
 ·rename_i ts ls _ _
  refine ⟨h.core.drop fun m => ?_, h.nt, h.df, fun t => ?_⟩
  ·cases m with
   | out i => left; rfl
   | loc s =>
    have ht : (st.L.take (topL st.T.n ls)).getD s .none = st.L.getD s .none ∨ (st.L.take (topL st.T.n ls)).getD s .none = .none := by
     rcases Nat.lt_or_ge s (topL st.T.n ls) with q | q
     ·left; simp only [List.getD_eq_getElem?_getD, List.getElem?_take, if_pos q]
     ·right; simp only [List.getD_eq_getElem?_getD, List.getElem?_take, if_neg (Nat.not_lt.2 q)]; rfl
    rcases keepL_get ls (st.L.take (topL st.T.n ls)) 0 s with q | q
    ·rcases ht with q' | q'
     ·left; exact q.trans q'
     ·right; exact ⟨q.trans q', s, rfl⟩
    ·right; exact ⟨q, s, rfl⟩
  ·rcases keepT_get ts st.T t with q | q
   ·show VD ρ S w ((keepT ts st.T).getD t ud) _
    rw [q]; exact h.tm t
   ·show VD ρ S w ((keepT ts st.T).getD t ud) _
    rw [q]; exact .un
 ·exact h
theorem Rel.drew (h : Rel cx ρ S st a w) : Rel cx ρ S st a { w with drawn := w.drawn + 1 } :=
 ⟨h.core.grow (fun _ _ => rfl) (Nat.le_refl _) rfl rfl rfl, h.nt, h.df, fun t => VD.keep (w := w) (w' := { w with drawn := w.drawn + 1 }) (fun _ => rfl) (fun _ _ q => q) (fun _ _ _ => rfl) (h.tm t)⟩
def DrOK (P : Program) : Prop := (∀ (ops : Array Oper), isCoin ops = true → ∀ t, Region.schedule (P.follows .mixedOrders) ops t = [0, 1, 2, 3] ∨ Region.schedule (P.follows .mixedOrders) ops t = [0, 2, 1, 3]) ∧ ∀ (R : Type) (call : CallF) (ops : Array Oper) (st : St) (k : St → Option R) (r : R), drS ops st = true → evalD call P ops (tailN ops) 0 [] ops.toList st k = some r →
 ∃ st', k st' = some r ∧ ∀ t, evalL call P ops (Region.schedule (P.follows .mixedOrders) ops t) st = some st'
theorem least {p : Nat → Prop} (h : ∃ n, p n) : ∃ n, p n ∧ ∀ m, p m → n ≤ m := by
 obtain ⟨n, hn⟩ := h
 induction n using Nat.strongRecOn with
 | _ n ih =>
  by_cases hx : ∃ m, m < n ∧ p m
  ·obtain ⟨m, h1, h2⟩ := hx
   exact ih m h1 h2
  ·exact ⟨n, hn, fun m hm => Nat.le_of_not_lt fun q => hx ⟨m, q, hm⟩⟩
theorem frz1_rel (h : Rel cx ρ S st a w) (t : Tmp) : ∃ S', Rel cx ρ S' (frz1 st t) a w := by
 unfold frz1
 split
 ·rename_i m hm
  split
  ·rename_i e s b ro es ho
   have ht := h.tm t
   rw [hm] at ht
   obtain ⟨S', q1, q2, q3⟩ := view_sound (x := .sl s es) (L' := setL st.L m (.arr e s b true es)) (O' := setO st.O m (.arr e s b true es)) h.core ht (by simp only [view, view1, ho])
   refine ⟨S', q2, h.nt, h.df, fun t' => ?_⟩
   have hk := (h.tm t').keep (ρ' := ρ) (fun _ => rfl) q1 (fun _ _ _ => rfl)
   show VD ρ S' w ((st.T.set t (.p (.sl s es))).getD t' ud) _
   rw [Tm.getD_set]
   by_cases e1 : t = t'
   ·subst e1
    rw [if_pos rfl]
    split
    ·exact .p q3
    ·exact .un
   ·rw [if_neg e1]
    exact hk
  ·exact ⟨S, h⟩
 ·exact ⟨S, h⟩
theorem frz_rel (ops : Array Oper) (h : Rel cx ρ S st a w) : ∃ S', Rel cx ρ S' (frz P ops st) a w := by
 unfold frz
 have : ∀ (l : List Tmp) {S : Nat → Nat → Prop} {st : St}, Rel cx ρ S st a w → ∃ S', Rel cx ρ S' (l.foldl frz1 st) a w := by
  intro l
  induction l with
  | nil => intro S st h; exact ⟨S, h⟩
  | cons t l ih =>
   intro S st h
   obtain ⟨S', h'⟩ := frz1_rel h t
   exact ih h'
 exact this _ h
theorem setl_rel (h : Rel cx ρ S st a w) : ∃ ρ', Rel cx ρ' S (setl st) a w := by
 unfold setl
 cases Cfg.mix with
 | false => exact ⟨ρ, h⟩
 | true =>
  obtain ⟨ρ', _, h'⟩ := settles_sound (allN st) h
  exact ⟨ρ', h'⟩
theorem coin_ops {ops : Array Oper} (h : isCoin ops = true) : ∃ a b c d, ops.toList = [a, b, c, d] := by
 unfold isCoin at h
 split at h
 ·rename_i a b c d e; exact ⟨a, b, c, d, e⟩
 ·cases h
theorem coin_size {ops : Array Oper} (h : isCoin ops = true) : List.range ops.size = [0, 1, 2, 3] := by
 obtain ⟨a, b, c, d, e⟩ := coin_ops h
 have : ops.size = 4 := by rw [← Array.length_toList, e]; rfl
 rw [this]
 rfl
theorem coin_eq {R : Type} {ops : Array Oper} (h : isCoin ops = true) {call : CallF} {k : St → Option R} (st : St) : evalOps call P ops (coinR ops) st k = (evalL call P ops [0, 2, 1, 3] st).bind k := by
 obtain ⟨a, b, c, d, e⟩ := coin_ops h
 have g : ∀ i, ops[i]? = ([a, b, c, d] : List Oper)[i]? := fun i => by rw [← e, Array.getElem?_toList]
 have g0 : ops[0]? = some a := g 0
 have g1 : ops[1]? = some b := g 1
 have g2 : ops[2]? = some c := g 2
 have g3 : ops[3]? = some d := g 3
 rw [evalOps_eq]
 unfold coinR
 rw [e]
 simp only [evalO, evalL, op1, g0, g1, g2, g3]
theorem Rel.keepM_ (h : Rel cx ρ S st a w) (an : Ann) : ∃ ρ', Rel cx ρ' S (an.keepM st) a w := by
 unfold Ann.keepM
 split
 ·obtain ⟨ρ1, h1⟩ := setl_rel h
  exact ⟨ρ1, h1.keep_ _⟩
 ·exact ⟨ρ, h⟩
theorem evalC_sound {R : Type} (hdr : DrOK P) {call : CallF} {κ : Kp} (hcall : CallOK P κ call) (hk : Kx κ cx) {r : R} : ∀ (c : Code) (an : Ann) (kn : St → Option R) (ke : Nat → St → Option R) (kr : St → Option R) (Q : Exit → Act → World → Prop),
 (∀ st, kn st = some r → ∀ ρ S a w, Rel cx ρ S st a w → Q .normal a w) → (∀ i st, ke i st = some r → ∀ ρ S a w, Rel cx ρ S st a w → Q (.exit i) a w) → (∀ st, kr st = some r → ∀ ρ S a w, Rel cx ρ S st a w → Q .ret a w) →
 ∀ st, evalC call P c an kn ke kr st = some r → ∀ ρ S a w, Rel cx ρ S st a w → c.wp P Q a w := by
 intro c
 induction c with
 | skip => intro an kn ke kr Q h1 h2 h3 st h ρ S a w hr; simp only [evalC] at h; exact wp_skip (h1 st h ρ S a w hr)
 | region id ops draw =>
  intro an kn ke kr Q h1 h2 h3 st h ρ S a w hr
  simp only [evalC] at h
  cases draw with
  | true =>
   rw [if_pos rfl] at h
   split at h
   ·rename_i hco
    rw [agree_some, evalOps_range, coin_eq hco] at h
    obtain ⟨⟨st1, p1, p2⟩, st2, p3, p4⟩ := And.imp Option.bind_eq_some_iff.1 Option.bind_eq_some_iff.1 h
    rw [coin_size hco] at p1
    refine wp_region_draw fun t => ?_
    rcases hdr.1 ops hco t with q | q <;> rw [q]
    ·exact evalL_sound hcall hk _ hr.drew p1 fun ρ' S' a' w' h' => h1 st1 p2 ρ' S' a' w' h'
    ·exact evalL_sound hcall hk _ hr.drew p3 fun ρ' S' a' w' h' => h1 st2 p4 ρ' S' a' w' h'
   split at h
   ·rename_i hd
    obtain ⟨ρ0, hr⟩ := setl_rel hr
    obtain ⟨S0, hr⟩ := frz_rel (P := P) ops hr
    obtain ⟨st1, q1, q2⟩ := hdr.2 R call ops _ kn r hd h
    exact wp_region_draw fun t => evalL_sound hcall hk _ hr.drew (q2 t) fun ρ' S' a' w' h' => h1 st1 q1 ρ' S' a' w' h'
   ·cases h
  | false =>
   rw [if_neg (by simp)] at h
   rw [evalOps_range] at h
   obtain ⟨st1, q1, q2⟩ := Option.bind_eq_some_iff.1 h
   exact wp_region (evalL_sound hcall hk _ hr q1 fun ρ' S' a' w' h' => h1 st1 q2 ρ' S' a' w' h')
 | seq x y ihx ihy =>
  intro an kn ke kr Q h1 h2 h3 st h ρ S a w hr
  simp only [evalC, Ann.cutM_eq] at h
  refine wp_seq (ihx _ _ _ _ _ ?_ ?_ ?_ st h ρ S a w hr)
  ·intro st1 q ρ1 S1 a1 w1 hr1
   obtain ⟨ρ2, hr2⟩ := hr1.keepM_ an
   exact ihy _ _ _ _ Q h1 h2 h3 _ q ρ2 S1 a1 w1 hr2
  ·intro i st1 q ρ1 S1 a1 w1 hr1; exact h2 i st1 q ρ1 S1 a1 w1 hr1
  ·intro st1 q ρ1 S1 a1 w1 hr1; exact h3 st1 q ρ1 S1 a1 w1 hr1
 | cond c x y ihx ihy =>
  intro an kn ke kr Q h1 h2 h3 st h ρ S a w hr
  simp only [evalC] at h
  split at h
  ·rename_i b hb
   have hc := opd_rel (P := P) hr 0 c
   rw [hb] at hc
   have hc := hc.bool_inv
   refine wp_cond_split hc (fun e => ?_) (fun e => ?_)
   ·subst e; exact ihx _ _ _ _ Q h1 h2 h3 _ h ρ S a w hr
   ·subst e; exact ihy _ _ _ _ Q h1 h2 h3 _ h ρ S a w hr
  ·rename_i hb
   rw [agree_some] at h
   have hc := opd_rel (P := P) hr 0 c
   rw [hb] at hc
   obtain ⟨b, hc⟩ : ∃ b, a.eval c = .bool b := by
    generalize a.eval c = v at hc
    cases hc with
    | p hc => cases hc; exact ⟨_, rfl⟩
   refine wp_cond_split hc (fun e => ?_) (fun e => ?_)
   ·exact ihx _ _ _ _ Q h1 h2 h3 _ h.1 ρ S a w hr
   ·exact ihy _ _ _ _ Q h1 h2 h3 _ h.2 ρ S a w hr
  ·cases h
 | block id x ih =>
  intro an kn ke kr Q h1 h2 h3 st h ρ S a w hr
  simp only [evalC] at h
  refine wp_block (ih _ _ _ _ _ ?_ ?_ ?_ st h ρ S a w hr)
  ·intro st1 q ρ1 S1 a1 w1 hr1; exact h1 st1 q ρ1 S1 a1 w1 hr1
  ·intro i st1 q ρ1 S1 a1 w1 hr1
   show (if i = id then Q .normal a1 w1 else Q (.exit i) a1 w1)
   by_cases e : i = id
   ·simp only [if_pos e] at q ⊢; exact h1 st1 q ρ1 S1 a1 w1 hr1
   ·simp only [if_neg e] at q ⊢; exact h2 i st1 q ρ1 S1 a1 w1 hr1
  ·intro st1 q ρ1 S1 a1 w1 hr1; exact h3 st1 q ρ1 S1 a1 w1 hr1
 | loop x ih =>
  intro an kn ke kr Q h1 h2 h3 st h ρ S a w hr
  simp only [evalC, loopFix] at h
  have hG : ∀ p q : St → Option R, LeF p q → LeF (evalC call P x an.l (fun st => p (an.keepM st)) ke kr) (evalC call P x an.l (fun st => q (an.keepM st)) ke kr) :=
   fun p q hpq => evalC_mono P x _ (fun _ _ _ _ h => h) (fun st r h => hpq _ _ h) (fun _ => LeF.refl _) (LeF.refl _)
  obtain ⟨n0, hn0⟩ := (lim_iff (rounds_chain hG) _ _).1 h
  obtain ⟨ρ0, hr0⟩ := hr.keepM_ an
  let J : Nat → Act → World → Prop := fun n a w => ∃ st ρ S, rounds (fun again => evalC call P x an.l (fun st => again (an.keepM st)) ke kr) n st = some r ∧ Rel cx ρ S st a w
  open Classical in
  refine wp_loop (fun a w => ∃ n, J n a w) (fun a w => if h : ∃ n, J n a w then Classical.choose (least h) else 0) ⟨n0, an.keepM st, ρ0, S, hn0, hr0⟩ ?_
  intro a1 w1 hI
  have hspec := (Classical.choose_spec (least hI)).1
  rw [dif_pos hI]
  generalize Classical.choose (least hI) = n at hspec
  obtain ⟨st1, ρ1, S1, q1, q2⟩ := hspec
  cases n with
  | zero => cases q1
  | succ n =>
   simp only [rounds] at q1
   refine ih _ _ _ _ _ ?_ ?_ ?_ st1 q1 ρ1 S1 a1 w1 q2
   ·intro st2 q ρ2 S2 a2 w2 hr2
    obtain ⟨ρ3, hr3⟩ := hr2.keepM_ an
    have hJ : J n a2 w2 := ⟨_, ρ3, S2, q, hr3⟩
    refine ⟨⟨n, hJ⟩, ?_⟩
    rw [dif_pos ⟨n, hJ⟩]
    exact Nat.lt_succ_of_le ((Classical.choose_spec (least ⟨n, hJ⟩)).2 n hJ)
   ·intro i st2 q ρ2 S2 a2 w2 hr2; exact h2 i st2 q ρ2 S2 a2 w2 hr2
   ·intro st2 q ρ2 S2 a2 w2 hr2; exact h3 st2 q ρ2 S2 a2 w2 hr2
 | exit id => intro an kn ke kr Q h1 h2 h3 st h ρ S a w hr; simp only [evalC] at h; exact wp_exit (h2 id st h ρ S a w hr)
 | ret => intro an kn ke kr Q h1 h2 h3 st h ρ S a w hr; simp only [evalC] at h; exact wp_ret (h3 st h ρ S a w hr)
 | _ => intros; rename_i h _ _ _ _ _; simp only [evalC] at h; cases h
end Go.Proofs.YtmnoibkdmeajpaaGreat.Dm
