/- The machine over plain data and memory: every operation. -/
import Derived.Test.YtlmmimhjfajhdaaGreatDoorDm12
namespace Go.Proofs.YtlmmimhjfajhdaaGreatDoor.Dm
open Go.RowKit
set_option linter.unusedVariables false
set_option linter.unusedSimpArgs false
variable {P : Program} {cx : Cx} {ρ : Nm → Rz} {S : Nat → Nat → Prop} {w : World} {st : St} {a : Act} {o : Oper} {d : Dv}

theorem opds_rel (h : Rel cx ρ S st a w) : ∀ (xs : List Operand) (ts : List TypeId), (opds P st xs ts).length = xs.length ∧ ∀ j, j < xs.length → VD ρ S w ((opds P st xs ts).getD j ud) ((xs.map a.eval).getD j undef)
  | [], ts => ⟨rfl, fun j hj => by cases hj⟩
  | x :: xs, [] => by
    obtain ⟨q1, q2⟩ := opds_rel h xs []
    refine ⟨by simp [opds, q1], fun j hj => ?_⟩
    cases j with
    | zero => exact opd_rel h 0 x
    | succ j => exact q2 j (by simpa using hj)
  | x :: xs, t :: ts => by
    obtain ⟨q1, q2⟩ := opds_rel h xs ts
    refine ⟨by simp [opds, q1], fun j hj => ?_⟩
    cases j with
    | zero => exact opd_rel h t x
    | succ j => exact q2 j (by simpa using hj)
theorem callee_rel (h : Rel cx ρ S st a w) {x : Operand} {f : FuncId} {cap : List Dv} (hc : callee P st x = some (f, cap)) :
    ∃ cv : Array Value, a.eval x = .func (.func f) #[] cv ∧ cv.size = cap.length ∧ ∀ j, j < cap.length → VD ρ S w (cap.getD j ud) (cv.getD j undef) := by
  unfold callee at hc
  split at hc
  · injection hc with hc; injection hc with e1 e2; subst e1 e2
    exact ⟨#[], rfl, rfl, fun j hj => by cases hj⟩
  · rename_i t
    have ht := h.tm t
    have he : a.eval (.tmp t) = a.tmps.getD t undef := rfl
    split at hc
    · rename_i f' hx
      injection hc with hc; injection hc with e1 e2; subst e1 e2
      rw [hx] at ht
      rw [he]
      generalize a.tmps.getD t undef = v at ht
      cases ht with
      | p ht => cases ht; exact ⟨#[], rfl, rfl, fun j hj => by cases hj⟩
    · rename_i f' cap' hx
      injection hc with hc; injection hc with e1 e2; subst e1 e2
      rw [hx] at ht
      rw [he]
      generalize a.tmps.getD t undef = v at ht
      cases ht with
      | fn h1 h2 => exact ⟨_, rfl, h1, h2⟩
    · cases hc
  · cases hc
theorem ok_call {call : CallF} {κ : Kp} (hcall : CallOK P κ call) (hk : Kx κ cx) (h : Rel cx ρ S st a w) {c : Call} (ho : o.op = .call c) {x : Operand} (hc : c.callee = .value x) {f : FuncId} {cap : List Dv} (hf : callee P st x = some (f, cap)) {fn : Func} (hfn : P.funcs[f]? = some fn)
    (hb : fn.body.isSome = true ∧ fn.name ≠ "runtime.NumGoroutine") {q : Dv × St} (hd : callD P fn.resultTypes.toList call st f (opds P st c.args.toList c.argTypes.toList ++ cap) pr = some q) : StepOK P cx o a w q.1 q.2 := by
  obtain ⟨cv, e1, e2, e3⟩ := callee_rel h hf
  obtain ⟨o1, o2⟩ := opds_rel (P := P) h c.args.toList c.argTypes.toList
  have hsz : (c.args.map a.eval).size = c.args.toList.length := by simp
  refine callD_sound hcall hk h (vs := c.args.map a.eval ++ cv) ?_ (fun j hj => ?_) ?_ hd
  · rw [Array.size_append, List.length_append, hsz, o1, e2]
  · rw [List.length_append, o1] at hj
    by_cases hlt : j < c.args.toList.length
    · have q1 : (opds P st c.args.toList c.argTypes.toList ++ cap).getD j ud = (opds P st c.args.toList c.argTypes.toList).getD j ud := by
        simp only [List.getD_eq_getElem?_getD]
        rw [List.getElem?_append_left (by omega)]
      have q2 : (c.args.map a.eval ++ cv).getD j undef = (c.args.toList.map a.eval).getD j undef := by
        simp only [Array.getD_eq_getD_getElem?, List.getD_eq_getElem?_getD]
        rw [Array.getElem?_append_left (by omega)]
        simp
      rw [q1, q2]
      exact o2 j hlt
    · have q1 : (opds P st c.args.toList c.argTypes.toList ++ cap).getD j ud = cap.getD (j - c.args.toList.length) ud := by
        simp only [List.getD_eq_getElem?_getD]
        rw [List.getElem?_append_right (by omega), o1]
      have q2 : (c.args.map a.eval ++ cv).getD j undef = cv.getD (j - c.args.toList.length) undef := by
        simp only [Array.getD_eq_getD_getElem?]
        rw [Array.getElem?_append_right (by omega), hsz]
      rw [q1, q2]
      exact e3 _ (by omega)
  · unfold execOp
    rw [ho]
    dsimp only
    obtain ⟨hb1, hb2⟩ := hb
    have hb3 : fn.body.isNone = false := by cases hx : fn.body with
      | none => rw [hx] at hb1; cases hb1
      | some _ => rfl
    simp [resolve, hc, e1, Deferred.ofValue, invoke, callFunc, hfn, hb2, hb3]
    intro hx
    rw [hx] at hb3
    cases hb3
theorem ok_max (h : Rel cx ρ S st a w) {c : Call} (ho : o.op = .call c) (hc : c.callee = .builtin .max) {n : Int} (hd : maxL true (opds P st c.args.toList c.argTypes.toList) = some n) : StepOK P cx o a w (.p (.int .i64 n)) st := by
  obtain ⟨o1, o2⟩ := opds_rel (P := P) h c.args.toList c.argTypes.toList
  unfold maxL at hd
  split at hd
  · rename_i x y hl
    injection hd with hd; subst hd
    rw [hl] at o1 o2
    have hlen : c.args.toList.length = 2 := o1.symm
    have e0 := o2 0 (by omega)
    have e1 := o2 1 (by omega)
    obtain ⟨u, v, huv⟩ : ∃ u v, c.args.toList = [u, v] := by
      match hh : c.args.toList, hlen with
      | [u, v], _ => exact ⟨u, v, rfl⟩
    have hargs : c.args = #[u, v] := Array.ext' (by simpa using huv)
    rw [huv] at e0 e1
    have e0 := VD.int_inv e0
    have e1 := VD.int_inv e1
    have e0 : a.eval u = .int .i64 x := by simpa using e0
    have e1 : a.eval v = .int .i64 y := by simpa using e1
    refine StepOK.val h (v := .int .i64 (if y > x then y else x)) ?_ (.p (by simpa using VP.int))
    unfold execOp; rw [ho]; dsimp only
    simp [resolve, hc, hargs, invoke, builtin, Builtin.max_, Builtin.max2, e0, e1]
  · cases hd
theorem ok_min (h : Rel cx ρ S st a w) {c : Call} (ho : o.op = .call c) (hc : c.callee = .builtin .min) {n : Int} (hd : maxL false (opds P st c.args.toList c.argTypes.toList) = some n) : StepOK P cx o a w (.p (.int .i64 n)) st := by
  obtain ⟨o1, o2⟩ := opds_rel (P := P) h c.args.toList c.argTypes.toList
  unfold maxL at hd
  split at hd
  · rename_i x y hl
    injection hd with hd; subst hd
    rw [hl] at o1 o2
    have hlen : c.args.toList.length = 2 := o1.symm
    have e0 := o2 0 (by omega)
    have e1 := o2 1 (by omega)
    obtain ⟨u, v, huv⟩ : ∃ u v, c.args.toList = [u, v] := by
      match hh : c.args.toList, hlen with
      | [u, v], _ => exact ⟨u, v, rfl⟩
    have hargs : c.args = #[u, v] := Array.ext' (by simpa using huv)
    rw [huv] at e0 e1
    have e0 := VD.int_inv e0
    have e1 := VD.int_inv e1
    have e0 : a.eval u = .int .i64 x := by simpa using e0
    have e1 : a.eval v = .int .i64 y := by simpa using e1
    refine StepOK.val h (v := .int .i64 (if y < x then y else x)) ?_ (.p (by simpa using VP.int))
    unfold execOp; rw [ho]; dsimp only
    simp [resolve, hc, hargs, invoke, builtin, Builtin.min_, Builtin.min2, e0, e1]
  · cases hd

/-- the given continuation taken apart -/
theorem of_pr {α : Type} {x : Option α} {f : α → Dv × St} {q : Dv × St} (h : x.bind (fun d => some (f d)) = some q) : ∃ y, x = some y ∧ f y = q := by
  obtain ⟨y, h1, h2⟩ := Option.bind_eq_some_iff.1 h
  injection h2 with h2
  exact ⟨y, h1, h2⟩
/-- EVERY OPERATION. -/
theorem stepOp_sound {call : CallF} {κ : Kp} (hcall : CallOK P κ call) (hk : Kx κ cx) (h : Rel cx ρ S st a w) {q : Dv × St} (hd : stepOp call P o st pr = some q) : StepOK P cx o a w q.1 q.2 := by
  have hd0 := hd
  unfold stepOp at hd
  split at hd
  · rename_i x ho; injection hd with hd; subst hd; exact ok_move h (.inl ho)
  · rename_i x ho; injection hd with hd; subst hd; exact ok_move h (.inr ho)
  · rename_i c x y ho
    split at hd
    · rename_i b hb
      rw [pickD_bind] at hd
      obtain ⟨d, h1, h2⟩ := of_pr hd
      subst h2
      exact ok_pick h ho hb h1
    · cases hd
  · rename_i t ho
    split at hd
    · rename_i zs s hz _
      injection hd with hd; subst hd
      exact ok_alloc h ho hz
    · cases hd
  · rename_i t x ho
    split at hd
    · rename_i n s hn _
      injection hd with hd; subst hd
      exact ok_box h ho hn
    · cases hd
  · rename_i t ps ho
    split at hd
    · rename_i fs zs hu hz
      split at hd
      · rename_i hfs
        split at hd
        · rename_i ds hb
          injection hd with hd; subst hd
          exact ok_build h ho hu hz hfs hb
        · cases hd
      · cases hd
    · cases hd
  · rename_i t len ps ho
    split at hd
    · rename_i e s hu _
      split at hd
      · cases hd
      · rename_i hz
        split at hd
        · rename_i hc
          split at hd
          · rename_i hsz
            split at hd
            · rename_i xs L O hv
              injection hd with hd; subst hd
              exact ok_buildSlice h ho hu (fun q => hz (.inl q)) (by cases hzo : zeroOK P e with
                | true => rfl
                | false => exact absurd (.inr hzo) hz) hc hsz hv s
            · cases hd
          · cases hd
        · cases hd
    · cases hd
  · rename_i t l c ho
    split at hd
    · rename_i e s n m hu _ hl hc
      split at hd
      · cases hd
      · rename_i hz
        split at hd
        · rename_i hb
          split at hd
          · rename_i zs hzs
            split at hd
            · cases hd
            · rename_i hlen
              split at hd
              · rename_i zp L O hv
                injection hd with hd; subst hd
                exact ok_makeSlice h ho hu hl hc hz hb hzs (by simpa using hlen) hv s
              · cases hd
          · cases hd
        · cases hd
    · cases hd
  · rename_i t x ho
    rw [loadD_bind] at hd
    obtain ⟨d, h1, h2⟩ := of_pr hd
    subst h2
    exact ok_load h ho h1
  · rename_i t x y ho
    split at hd
    · cases hd
    · rename_i hz
      rw [storeD_bind] at hd
      obtain ⟨d, h1, h2⟩ := of_pr (f := fun st' => (ud, st')) hd
      subst h2
      exact ok_store h ho hz h1
  · rename_i x ho
    refine ok_nilCheck h ho ?_
    unfold stepOp
    rw [ho]
    exact hd
  · rename_i op t x y ty ho
    rw [binD_bind] at hd
    obtain ⟨d, h1, h2⟩ := of_pr hd
    subst h2
    exact binD_sound h ho h1
  · rename_i op t x ho
    rw [unD_bind] at hd
    obtain ⟨d, h1, h2⟩ := of_pr hd
    subst h2
    exact unD_sound h ho h1
  · rename_i s t x ho
    rw [convD_bind] at hd
    obtain ⟨d, h1, h2⟩ := of_pr hd
    subst h2
    exact ok_convert h ho h1
  · rename_i fn first cap ho
    split at hd
    · rename_i f
      split at hd
      · rename_i h0
        have e2 : q.2 = st := by
          split at hd <;> (injection hd with hd; subst hd; rfl)
        rw [e2]
        refine ok_makeFunc h ho rfl h0 ?_
        split at hd <;> (injection hd with hd; subst hd)
        · rename_i he; rw [he]
        · rename_i he; rw [he]
      · cases hd
    · cases hd
  · rename_i t x lo hi mx ho
    exact ok_slice h ho hd
  · rename_i t x f ho
    rw [fieldAddrD_bind] at hd
    obtain ⟨d, h1, h2⟩ := of_pr hd
    subst h2
    exact ok_fieldAddr h ho h1
  · rename_i t x i ho
    rw [indexAddrD_bind] at hd
    obtain ⟨d, h1, h2⟩ := of_pr hd
    subst h2
    exact ok_indexAddr h ho h1
  · rename_i t x i ho
    split at hd
    · rename_i hu
      rw [indexD_bind] at hd
      obtain ⟨d, h1, h2⟩ := of_pr hd
      subst h2
      exact ok_index h ho hu h1
    · cases hd
  · rename_i t i ho
    split at hd
    · rename_i ds he
      split at hd
      · rename_i d hi
        injection hd with hd; subst hd
        exact ok_extract h ho he hi
      · cases hd
    · cases hd
  · rename_i c ho
    split at hd
    · rename_i hc
      split at hd
      · rename_i x t hargs ht
        rw [lenD_bind] at hd
        obtain ⟨d, h1, h2⟩ := of_pr hd
        subst h2
        exact ok_len h ho hc hargs ht h1
      · cases hd
    · rename_i hc
      split at hd
      · rename_i x y t t' s hargs hts _
        split at hd
        · rename_i e
          subst e
          exact ok_append h ho hc hargs hts hd
        · cases hd
      · cases hd
    · rename_i hc
      split at hd
      · rename_i n hn
        injection hd with hd; subst hd
        exact ok_max h ho hc hn
      · cases hd
    · rename_i hc
      split at hd
      · rename_i n hn
        injection hd with hd; subst hd
        exact ok_min h ho hc hn
      · cases hd
    · rename_i x hc
      split at hd
      · rename_i f cap hf
        split at hd
        · rename_i fn hfn
          split at hd
          · rename_i hb
            exact ok_call hcall hk h ho hc hf hfn hb hd
          · cases hd
        · cases hd
      · cases hd
    · cases hd
  · cases hd
end Go.Proofs.YtlmmimhjfajhdaaGreatDoor.Dm
