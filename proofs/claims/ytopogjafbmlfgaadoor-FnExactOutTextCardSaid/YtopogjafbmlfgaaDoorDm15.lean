/- The machine over plain data and memory: functions. -/
import Derived.Test.YtopogjafbmlfgaaDoorDm14
namespace Go.Proofs.YtopogjafbmlfgaaDoor.Dm
open Go.RowKit
set_option linter.unusedVariables false
set_option linter.unusedSimpArgs false
variable {P : Program} {cx : Cx} {ρ : Nm → Rz} {S : Nat → Nat → Prop} {w : World} {st st' : St} {a : Act} {o : Oper} {d : Dv}

def resV (tmps : Array Value) : ResultVar → Sem Value
  | .tmp t => pure (tmps.getD t undef)
  | .cell a t => do loadVar t (← asAddr (tmps.getD a undef))
theorem resD_sound (h : Rel cx ρ S st a w) : ∀ (l : List ResultVar) (ds : List Dv), resD P st l = some ds → ∃ vs : List Value, (l.mapM (resV a.tmps)).run P w = .ok vs w ∧ vs.length = ds.length ∧ ∀ j, j < ds.length → VD ρ S w (ds.getD j ud) (vs.getD j undef)
  | [], ds, hd => by
    simp only [resD] at hd
    injection hd with hd; subst hd
    exact ⟨[], by simp, rfl, fun j hj => by cases hj⟩
  | .tmp t :: rs, ds, hd => by
    simp only [resD] at hd
    split at hd
    · rename_i ds' h1
      injection hd with hd; subst hd
      obtain ⟨vs, q1, q2, q3⟩ := resD_sound h rs ds' h1
      refine ⟨a.tmps.getD t undef :: vs, ?_, by simp [q2], fun j hj => ?_⟩
      · simp [List.mapM_cons, resV, q1]
      · cases j with
        | zero => exact h.tm t
        | succ j => exact q3 j (by simpa using hj)
    · cases hd
  | .cell b t :: rs, ds, hd => by
    simp only [resD] at hd
    rw [loadD_bind] at hd
    obtain ⟨d, h0, hd⟩ := Option.bind_eq_some_iff.1 hd
    split at hd
    · rename_i ds' h1
      injection hd with hd; subst hd
      obtain ⟨vs, q1, q2, q3⟩ := resD_sound h rs ds' h1
      obtain ⟨ad, v, e1, e2, e3⟩ := loadD_sound h.core (h.tm b) h0
      refine ⟨v :: vs, ?_, by simp [q2], fun j hj => ?_⟩
      · have e1' : a.tmps[b]?.getD undef = .pointer (some ad) := by rw [← Array.getD_eq_getD_getElem?]; exact e1
        simp [List.mapM_cons, resV, q1, e1', asAddr, e2]
      · cases j with
        | zero => exact e3
        | succ j => exact q3 j (by simpa using hj)
    · cases hd
theorem finish_sound {fn : Func} {r : Res} (h : Rel cx ρ S st a w) (hf : finish P fn st = some r) :
    ∃ v S', (results fn a.tmps).run P w = .ok v w ∧ Core cx ρ S' [] r.2 w ∧ VD ρ S' w (retV r.1) v := by
  unfold finish at hf
  split at hf
  · rename_i ds hds
    split at hf
    · rename_i xs L O hv
      split at hf
      · injection hf with hf; subst hf
        obtain ⟨vs, q1, q2, q3⟩ := resD_sound h _ ds hds
        obtain ⟨S', p1, p2, p3, p4, _⟩ := viewAll_sound ds h.core (fun j => vs.getD j undef) q3 hv
        refine ⟨if hh : vs.toArray.size = 1 then vs.toArray[0] else .tuple vs.toArray, S', ?_, p2.drop (fun m => ?_), ?_⟩
        · have e : (fn.results.mapM (resV a.tmps)).run P w = .ok vs.toArray w := by
            rw [Array.mapM_eq_mapM_toList]
            simp [q1]
          show ((fn.results.mapM (resV a.tmps)) >>= fun vs => pure (if h : vs.size = 1 then vs[0] else .tuple vs)).run P w = _
          rw [Sem.run_bind, e]
          rfl
        · cases m with
          | out i => left; rfl
          | loc s => right; exact ⟨by simp [getOb], s, rfl⟩
        · match xs, ds, vs, p3, q2, p4 with
          | [x], [d], [v], _, _, p4 =>
            have := p4 0 (by simp)
            exact .p (by simpa using this)
          | [], [], [], _, _, p4 => exact .tup (by simp) fun j hj => by cases hj
          | x :: y :: xs, d :: e :: ds, v :: u :: vs, p3, q2, p4 =>
            rw [dif_neg (by simp)]
            refine .tup ?_ fun j hj => ?_
            · simp at p3 q2 ⊢; omega
            · have hj' : j < (d :: e :: ds).length := by simp at p3 hj ⊢; omega
              have := p4 j hj'
              have e1 : ((x :: y :: xs).map Dv.p).getD j ud = .p ((x :: y :: xs).getD j .undef) := by
                rw [List.getD_eq_getElem?_getD, List.getElem?_map, List.getD_eq_getElem?_getD]
                cases (x :: y :: xs)[j]? <;> rfl
              have e2 : (v :: u :: vs).toArray.getD j undef = (v :: u :: vs).getD j undef := by
                simp [List.getD_eq_getElem?_getD]
              show VD ρ S' w (((x :: y :: xs).map Dv.p).getD j ud) _
              rw [e1, e2]
              exact .p this
      · cases hf
    · cases hf
  · cases hf
theorem find_enum_lt : ∀ (l : List Dv) (i j : Nat), j < i → findT (enumT i l) j = ud
  | [], _, _, _ => rfl
  | d :: l, i, j, h => by
    simp only [enumT, findT, beq_eq]
    rw [decide_eq_false (by omega)]
    exact find_enum_lt l (i + 1) j (by omega)
theorem find_enum : ∀ (l : List Dv) (i j : Nat), findT (enumT i l) (i + j) = l.getD j ud
  | [], _, j => by simp [enumT, findT]
  | d :: l, i, 0 => by simp [enumT, findT]
  | d :: l, i, j + 1 => by
    simp only [enumT, findT, beq_eq]
    rw [decide_eq_false (by omega)]
    have := find_enum l (i + 1) j
    have e : i + 1 + j = i + (j + 1) := by omega
    rw [e] at this
    simpa using this
/-- What the library's functions tell. -/
def LibOK (E : Env) (κ : Kp) : Prop := ∀ f g, E.lib f = some g → ∀ (xs : List Pd) (y : Pd), g xs = some y → ∀ (w : World) (S : Nat → Nat → Prop) (vs : Array Value), KOK κ w S → (∀ b o, S b o → b < w.heap.size) → vs.size = xs.length →
    (∀ j, j < xs.length → VP S w (xs.getD j .undef) (vs.getD j undef)) → Calls E.P f vs w fun e w' => ∃ v, e = .returned v ∧ VP S w' y v ∧ Below w.heap.size w w'
theorem LibOK.none {E : Env} {κ : Kp} (h : ∀ f, E.lib f = .none) : LibOK E κ := fun f g q => by rw [h f] at q; cases q
theorem pures_get : ∀ {ds : List Dv} {xs : List Pd}, pures ds = some xs → ds = xs.map .p
  | [], xs, h => by simp only [pures] at h; injection h with h; subst h; rfl
  | .p x :: ds, xs, h => by
    simp only [pures] at h
    split at h
    · rename_i ys hy
      injection h with h; subst h
      rw [pures_get hy]; rfl
    · cases h
  | .nilsl _ :: _, _, h => by cases h
  | .ptr .. :: _, _, h => by cases h
  | .arr _ :: _, _, h => by cases h
  | .el .. :: _, _, h => by cases h
  | .ro .. :: _, _, h => by cases h
  | .agg .. :: _, _, h => by cases h
  | .fn .. :: _, _, h => by cases h
  | .tup _ :: _, _, h => by cases h
  | .mp _ :: _, _, h => by cases h
theorem body_sound {E : Env} (hdr : DrOK E.P E.dr) {κ : Kp} (hlib : LibOK E κ) {call : CallF} (hcall : CallOK E.P κ call) : CallOK E.P κ (body E call) := by
  intro f as os r h w ρ S vs hk hc hsz hvs
  unfold body at h
  split at h
  · rename_i g hg
    unfold libD at h
    split at h
    · rename_i xs hx
      split at h
      · rename_i y hy
        injection h with h; subst h
        have hx' := pures_get hx
        subst hx'
        rw [List.length_map] at hsz hvs
        refine (hlib f g hg xs y hy w S vs hk hc.sb hsz fun j hj => ?_).mono ?_
        · have := hvs j hj
          have e : (xs.map Dv.p).getD j ud = .p (xs.getD j .undef) := by
            rw [List.getD_eq_getElem?_getD, List.getElem?_map, List.getD_eq_getElem?_getD]
            cases xs[j]? <;> rfl
          rw [e] at this
          exact this.pd
        · rintro e w' ⟨v, rfl, hv, hb⟩
          exact ⟨v, ρ, S, rfl, hc.grow (fun b q => hb.block b q) hb.size hb.os hb.tape hb.output, .p hv⟩
      · cases h
    · cases h
  split at h
  · cases h
  · rename_i fn hfn
    split at h
    · cases h
    · rename_i c hb
      refine calls_of_wp hfn hb ?_
      have hrel : Rel (cx0 w S ρ os) ρ S (start fn as os) { tmps := vs ++ Array.replicate (fn.ntmps - vs.size) undef, defers := [] } w := by
        refine ⟨hc.drop fun m => ?_, ?_, rfl, fun t => ?_⟩
        · cases m with
          | out i => left; rfl
          | loc s =>
            right
            refine ⟨?_, s, rfl⟩
            simp only [start, getOb, List.getD_eq_getElem?_getD, List.getElem?_replicate]
            split <;> rfl
        · show (vs ++ Array.replicate (fn.ntmps - vs.size) undef).size = as.length + (fn.ntmps - as.length)
          simp [hsz]
        · simp only [start]
          by_cases hlt : t < as.length
          · have e1 : (Tm.of (as.length + (fn.ntmps - as.length)) (enumT 0 as)).getD t ud = as.getD t ud := by
              simp only [Tm.getD, Tm.of, blt_eq]
              rw [decide_eq_true (by omega), cond_true]
              have := find_enum as 0 t
              rw [Nat.zero_add] at this
              exact this
            have hlt' : t < vs.size := by rw [hsz]; exact hlt
            have e2 : (vs ++ Array.replicate (fn.ntmps - vs.size) undef).getD t undef = vs.getD t undef := by
              simp only [Array.getD_eq_getD_getElem?]
              rw [Array.getElem?_append_left hlt']
            rw [e1, e2]
            exact hvs t hlt
          · have e1 : (Tm.of (as.length + (fn.ntmps - as.length)) (enumT 0 as)).getD t ud = ud := by
              simp only [Tm.getD, Tm.of]
              have := find_enum as 0 t
              rw [Nat.zero_add] at this
              rw [this, List.getD_eq_getElem?_getD, List.getElem?_eq_none (Nat.le_of_not_lt hlt)]
              cases Nat.blt t (as.length + (fn.ntmps - as.length)) <;> rfl
            rw [e1]; exact .un
      refine evalC_sound hdr hcall (hk.toCx hc) c (E.ann f) (finish E.P fn) (fun _ _ => none) (finish E.P fn) _ ?_ (fun i st hx => by cases hx) ?_ _ h ρ S _ w hrel
      all_goals
        intro st hfin ρ' S' a' w' hr
        obtain ⟨v, S2, q1, q2, q3⟩ := finish_sound hr hfin
        exact ⟨hr.df, v, q1, v, ρ', S2, rfl, q2, q3⟩
/-- WHAT THE MACHINE SAYS, MEMORY DOES. -/
theorem ev_sound {E : Env} (hdr : DrOK E.P E.dr) {κ : Kp} (hlib : LibOK E κ) : CallOK E.P κ (ev E) := by
  have hn : ∀ n, CallOK E.P κ (evalN E n) := by
    intro n
    induction n with
    | zero => intro f as os r h; cases h
    | succ n ih => exact body_sound hdr hlib ih
  intro f as os r h
  obtain ⟨n, hx⟩ := (ev_iff E f as os r).1 h
  exact hn n f as os r hx
end Go.Proofs.YtopogjafbmlfgaaDoor.Dm
