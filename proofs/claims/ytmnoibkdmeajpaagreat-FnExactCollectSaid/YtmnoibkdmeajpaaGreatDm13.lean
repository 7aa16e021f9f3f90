/- The machine over plain data and memory: every operation. -/
import Derived.Test.YtmnoibkdmeajpaaGreatDm12
import Derived.MapKept
namespace Go.Proofs.YtmnoibkdmeajpaaGreat.Dm
set_option linter.unusedSectionVars false
open Go.RowKit
set_option linter.unusedVariables false
set_option linter.unusedSimpArgs false
variable [Cfg] {P : Program} {cx : Cx} {ρ : Nm → Rz} {S : Nat → Nat → Prop} {w : World} {st : St} {a : Act} {o : Oper} {d : Dv}
theorem opds_rel (h : Rel cx ρ S st a w) : ∀ (xs : List Operand) (ts : List TypeId), (opds P st xs ts).length = xs.length ∧ ∀ j, j < xs.length → VD ρ S w ((opds P st xs ts).getD j ud) ((xs.map a.eval).getD j undef)
 | [], ts => ⟨rfl, fun j hj => by cases hj⟩
 | x :: xs, [] => by
  obtain ⟨q1, q2⟩ := opds_rel h xs []
  refine ⟨by simp [opds, q1], fun j hj => ?_⟩
  cases j with
  | zero => exact opd_rel h 0 x
  | succ j => exact q2 j (by simpa using hj)
 | x :: xs, t :: ts => by
  obtain ⟨q1, q2⟩ := opds_rel h xs ts
  refine ⟨by simp [opds, q1], fun j hj => ?_⟩
  cases j with
  | zero => exact opd_rel h t x
  | succ j => exact q2 j (by simpa using hj)
theorem callee_rel (h : Rel cx ρ S st a w) {x : Operand} {f : FuncId} {cap : List Dv} (hc : callee P st x = some (f, cap)) :
 ∃ cv : Array Value, a.eval x = .func (.func f) #[] cv ∧ cv.size = cap.length ∧ ∀ j, j < cap.length → VD ρ S w (cap.getD j ud) (cv.getD j undef) := by
 unfold callee at hc
 split at hc
 ·injection hc with hc; injection hc with e1 e2; subst e1 e2
  exact ⟨#[], rfl, rfl, fun j hj => by cases hj⟩
 ·rename_i t
  have ht := h.tm t
  have he : a.eval (.tmp t) = a.tmps.getD t undef := rfl
  split at hc
  ·rename_i f' hx
   injection hc with hc; injection hc with e1 e2; subst e1 e2
   rw [hx] at ht
   rw [he]
   generalize a.tmps.getD t undef = v at ht
   cases ht with
   | p ht => cases ht; exact ⟨#[], rfl, rfl, fun j hj => by cases hj⟩
  ·rename_i f' cap' hx
   injection hc with hc; injection hc with e1 e2; subst e1 e2
   rw [hx] at ht
   rw [he]
   generalize a.tmps.getD t undef = v at ht
   cases ht with
   | fn h1 h2 => exact ⟨_, rfl, h1, h2⟩
  ·cases hc
 ·cases hc
theorem ok_call {call : CallF} {κ : Kp} (hcall : CallOK P κ call) (hk : Kx κ cx) (h : Rel cx ρ S st a w) {c : Call} (ho : o.op = .call c) {x : Operand} (hc : c.callee = .value x) {f : FuncId} {cap : List Dv} (hf : callee P st x = some (f, cap)) {fn : Func} (hfn : P.funcs[f]? = some fn)
 (hb : fn.body.isSome = true ∧ fn.name ≠ "runtime.NumGoroutine") {q : Dv × St} (hd : callD P fn.resultTypes.toList call st f (opds P st c.args.toList c.argTypes.toList ++ cap) pr = some q) : StepOK P cx o a w q.1 q.2 := by
 obtain ⟨cv, e1, e2, e3⟩ := callee_rel h hf
 obtain ⟨o1, o2⟩ := opds_rel (P := P) h c.args.toList c.argTypes.toList
 have hsz : (c.args.map a.eval).size = c.args.toList.length := by simp
 refine callD_sound hcall hk h (vs := c.args.map a.eval ++ cv) ?_ (fun j hj => ?_) ?_ hd
 ·rw [Array.size_append, List.length_append, hsz, o1, e2]
 ·rw [List.length_append, o1] at hj
  by_cases hlt : j < c.args.toList.length
  ·have q1 : (opds P st c.args.toList c.argTypes.toList ++ cap).getD j ud = (opds P st c.args.toList c.argTypes.toList).getD j ud := by
    simp only [List.getD_eq_getElem?_getD]
    rw [List.getElem?_append_left (by omega)]
   have q2 : (c.args.map a.eval ++ cv).getD j undef = (c.args.toList.map a.eval).getD j undef := by
    simp only [Array.getD_eq_getD_getElem?, List.getD_eq_getElem?_getD]
    rw [Array.getElem?_append_left (by omega)]
    simp
   rw [q1, q2]
   exact o2 j hlt
  ·have q1 : (opds P st c.args.toList c.argTypes.toList ++ cap).getD j ud = cap.getD (j - c.args.toList.length) ud := by
    simp only [List.getD_eq_getElem?_getD]
    rw [List.getElem?_append_right (by omega), o1]
   have q2 : (c.args.map a.eval ++ cv).getD j undef = cv.getD (j - c.args.toList.length) undef := by
    simp only [Array.getD_eq_getD_getElem?]
    rw [Array.getElem?_append_right (by omega), hsz]
   rw [q1, q2]
   exact e3 _ (by omega)
 ·unfold execOp
  rw [ho]
  dsimp only
  obtain ⟨hb1, hb2⟩ := hb
  have hb3 : fn.body.isNone = false := by cases hx : fn.body with
   | none => rw [hx] at hb1; cases hb1
   | some _ => rfl
  simp [resolve, hc, e1, Deferred.ofValue, invoke, callFunc, hfn, hb2, hb3]
  intro hx
  rw [hx] at hb3
  cases hb3
theorem ok_max (h : Rel cx ρ S st a w) {c : Call} (ho : o.op = .call c) (hc : c.callee = .builtin .max) {n : Int} (hd : maxL true (opds P st c.args.toList c.argTypes.toList) = some n) : StepOK P cx o a w (.p (.int .i64 n)) st := by
 obtain ⟨o1, o2⟩ := opds_rel (P := P) h c.args.toList c.argTypes.toList
 unfold maxL at hd
 split at hd
 ·rename_i x y hl
  injection hd with hd; subst hd
  rw [hl] at o1 o2
  have hlen : c.args.toList.length = 2 := o1.symm
  have e0 := o2 0 (by omega)
  have e1 := o2 1 (by omega)
  obtain ⟨u, v, huv⟩ : ∃ u v, c.args.toList = [u, v] := by
   match hh : c.args.toList, hlen with
   | [u, v], _ => exact ⟨u, v, rfl⟩
  have hargs : c.args = #[u, v] := Array.ext' (by simpa using huv)
  rw [huv] at e0 e1
  have e0 := VD.int_inv e0
  have e1 := VD.int_inv e1
  have e0 : a.eval u = .int .i64 x := by simpa using e0
  have e1 : a.eval v = .int .i64 y := by simpa using e1
  refine StepOK.val h (v := .int .i64 (if y > x then y else x)) ?_ (.p (by simpa using VP.int))
  unfold execOp; rw [ho]; dsimp only
  simp [resolve, hc, hargs, invoke, builtin, Builtin.max_, Builtin.max2, e0, e1]
 ·cases hd
theorem ok_min (h : Rel cx ρ S st a w) {c : Call} (ho : o.op = .call c) (hc : c.callee = .builtin .min) {n : Int} (hd : maxL false (opds P st c.args.toList c.argTypes.toList) = some n) : StepOK P cx o a w (.p (.int .i64 n)) st := by
 obtain ⟨o1, o2⟩ := opds_rel (P := P) h c.args.toList c.argTypes.toList
 unfold maxL at hd
 split at hd
 ·rename_i x y hl
  injection hd with hd; subst hd
  rw [hl] at o1 o2
  have hlen : c.args.toList.length = 2 := o1.symm
  have e0 := o2 0 (by omega)
  have e1 := o2 1 (by omega)
  obtain ⟨u, v, huv⟩ : ∃ u v, c.args.toList = [u, v] := by
   match hh : c.args.toList, hlen with
   | [u, v], _ => exact ⟨u, v, rfl⟩
  have hargs : c.args = #[u, v] := Array.ext' (by simpa using huv)
  rw [huv] at e0 e1
  have e0 := VD.int_inv e0
  have e1 := VD.int_inv e1
  have e0 : a.eval u = .int .i64 x := by simpa using e0
  have e1 : a.eval v = .int .i64 y := by simpa using e1
  refine StepOK.val h (v := .int .i64 (if y < x then y else x)) ?_ (.p (by simpa using VP.int))
  unfold execOp; rw [ho]; dsimp only
  simp [resolve, hc, hargs, invoke, builtin, Builtin.min_, Builtin.min2, e0, e1]
 ·cases hd
theorem of_pr {α : Type} {x : Option α} {f : α → Dv × St} {q : Dv × St} (h : x.bind (fun d => some (f d)) = some q) : ∃ y, x = some y ∧ f y = q := by
 obtain ⟨y, h1, h2⟩ := Option.bind_eq_some_iff.1 h
 injection h2 with h2
 exact ⟨y, h1, h2⟩
theorem elemM_inv {t et : TypeId} (h : elemM P t = some et) : ∃ kt, P.underlying t = some (.map kt et) ∧ P.underlying kt = some .string := by
 unfold elemM at h
 split at h
 ·rename_i kt e hu
  split at h
  ·rename_i hk
   injection h with h; subst h
   refine ⟨kt, hu, ?_⟩
   unfold isStrT at hk
   split at hk
   ·assumption
   ·cases hk
  ·cases h
 ·cases h
theorem zeroP_run {t : TypeId} {z : Pd} (h : zeroP P t = some z) : ∃ zv, (∀ w, (zeroValue t).run P w = .ok zv w) ∧ ∀ S w, VP S w z zv := by
 unfold zeroP at h
 split at h
 ·rename_i i hi
  split at h
  ·rename_i k n hz
   injection h with h; subst h
   exact ⟨_, fun w => by simp [zeroValue, typeInfo, hi, hz], fun _ _ => .int⟩
  ·rename_i b hz
   injection h with h; subst h
   exact ⟨_, fun w => by simp [zeroValue, typeInfo, hi, hz], fun _ _ => .bool⟩
  ·rename_i s hz
   injection h with h; subst h
   exact ⟨_, fun w => by simp [zeroValue, typeInfo, hi, hz], fun _ _ => .str⟩
  ·cases h
 ·cases h
def EntsOK (S : Nat → Nat → Prop) (w : World) (es : List (ByteArray × Pd)) (l : List MapEntry) : Prop := l.length = es.length ∧ ∀ (i : Nat) (x : ByteArray × Pd), es[i]? = some x → ∃ en : MapEntry, l[i]? = some en ∧ en.key = .string x.1 ∧ VP S w x.2 en.val
theorem findNow_rel (key : ByteArray) : ∀ (es : List (ByteArray × Pd)) (l : List MapEntry) (i0 : Nat), EntsOK S w es l →
 (findM es key = none ∧ Instr.findNow .string (.string key) l i0 = some none ∧ ∀ y, setM es key y = es ++ [(key, y)]) ∨
 (∃ (i : Nat) (en : MapEntry) (x : Pd), findM es key = some x ∧ Instr.findNow .string (.string key) l i0 = some (some (i0 + i, en.val)) ∧ i < es.length ∧ l[i]? = some en ∧ en.key = .string key ∧ VP S w x en.val ∧ ∀ y, setM es key y = es.set i (key, y))
 | [], l, i0, h => by
  have : l = [] := List.eq_nil_of_length_eq_zero h.1
  subst this
  exact .inl ⟨rfl, rfl, fun y => rfl⟩
 | (k, v) :: es, [], i0, h => by cases h.1
 | (k, v) :: es, e :: l, i0, h => by
  obtain ⟨en, q1, q2, q3⟩ := h.2 0 (k, v) rfl
  simp only [List.getElem?_cons_zero, Option.some.injEq] at q1
  subst q1
  have hsame : ∃ r, Instr.sameNow .string (.string key) e.key = some r ∧ (r = true ↔ k = key) := by
   rw [q2]
   obtain ⟨r, r1, r2⟩ := MapKept.sameNow_of_keys (d := .string) (a := .string key) (b := .string k) trivial trivial
   refine ⟨r, r1, r2.trans ?_⟩
   constructor
   ·intro e; injection e with e; exact e.symm
   ·intro e; rw [e]
  obtain ⟨r, r1, r2⟩ := hsame
  by_cases hk : k = key
  ·refine .inr ⟨0, e, v, by simp [findM, hk], ?_, by simp, rfl, by rw [q2, hk], q3, fun y => by simp [setM, hk]⟩
   have : r = true := r2.2 hk
   simp [Instr.findNow, r1, this]
  ·have hr : r = false := by
    cases r with
    | false => rfl
    | true => exact absurd (r2.1 rfl) hk
   have ht : EntsOK S w es l := ⟨by have := h.1; simpa using this, fun i x hx => by
    obtain ⟨en, p1, p2, p3⟩ := h.2 (i + 1) x (by simpa using hx)
    exact ⟨en, by simpa using p1, p2, p3⟩⟩
   rcases findNow_rel key es l (i0 + 1) ht with ⟨g1, g2, g3⟩ | ⟨i, en, x, g1, g2, g3, g4, g5, g6, g7⟩
   ·exact .inl ⟨by simp [findM, hk, g1], by simp [Instr.findNow, r1, hr, g2], fun y => by simp [setM, hk, g3]⟩
   ·refine .inr ⟨i + 1, en, x, by simp [findM, hk, g1], ?_, by simpa using g3, by simpa using g4, g5, g6, fun y => by simp [setM, hk, g7]⟩
    have : i0 + 1 + i = i0 + (i + 1) := by omega
    simp [Instr.findNow, r1, hr, g2, this]
theorem entsOK_of {es : List (ByteArray × Pd)} {ents : Array MapEntry} (h1 : ents.size = es.length) (h2 : ∀ (i : Nat) (x : ByteArray × Pd), es[i]? = some x → ∃ en : MapEntry, ents[i]? = some en ∧ en.key = .string x.1 ∧ VP S w x.2 en.val) : EntsOK S w es ents.toList :=
 ⟨by simpa using h1, fun i x hx => by
  obtain ⟨en, q1, q2⟩ := h2 i x hx
  exact ⟨en, by simpa using q1, q2⟩⟩
theorem Rel.freshO {st : St} (h : Rel cx ρ S st a w) (s : Nat) (ob : Ob) (o : Obj) (tip : Value) (hob : ObRel ρ S (w.alloc o) ob (.of (some w.heap.size) tip)) (hno : isO ob = false := by rfl) :
 Rel cx (fun n => if n = .loc s then .of (some w.heap.size) tip else ρ n) S (st.fresh s ob) a (w.alloc o) := by
 have hc : ∀ b o', S b o' → (w.alloc o).cell? ⟨b, o', none⟩ = w.cell? ⟨b, o', none⟩ := fun b o' q => cell_heap (heap_push_lt w _ b (h.core.sb b o' q))
 refine ⟨h.core.put_ (.loc s) (scrubOb (.loc s) ob) _ (by simp) rfl rfl rfl (fun b hb _ => heap_push_lt w _ b hb) hc (hob.scrub_ (fun n hn => if_neg hn)) (fun b q => .inl ?_) (fun b o' q hS => ?_) (fun i q => nomatch q) ((isO_scrub _ _).trans hno), ?_, h.df, fun t => ?_⟩
 ·injection q with q; subst q; simp
 ·injection q with q; subst q
  exact absurd (h.core.sb _ o' hS) (by omega)
 ·show a.tmps.size = (st.T.map _).length
  exact h.nt
 ·show VD _ _ _ ((st.T.map (scrub (.loc s))).getD t ud) _
  rw [Tm.getD_map rfl]
  exact ((h.tm t).keep (ρ' := ρ) (fun _ => rfl) (fun _ _ q => q) hc).scrub_ (fun n hn => if_neg hn)
theorem ok_makeMap (h : Rel cx ρ S st a w) {t : TypeId} (ho : o.op = .makeMap t none) (s : Nat) : StepOK P cx o a w (.mp (.loc s)) (st.fresh s (.map [])) := by
 refine .inl ⟨.map (some w.heap.size), w.alloc (.map #[] 0), _, S, .inl ?_, h.freshO s _ (.map #[] 0) (.map none) ⟨w.heap.size, #[], 0, rfl, heap_alloc_new w _, rfl, fun i x hx => by simp at hx⟩, ?_⟩
 ·unfold execOp; rw [ho]
  simp [Instr.makeMap, Result.andThen]
 ·exact .mp (by simp)
theorem ok_lookup (h : Rel cx ρ S st a w) {t : TypeId} {x y : Operand} {ok : Bool} (ho : o.op = .lookup t x y ok) (hd : lookD P st t (opd P st t x) (opd P st 0 y) ok some = some d) : StepOK P cx o a w d st := by
 have hx := opd_rel (P := P) h t x
 have hy := opd_rel (P := P) h 0 y
 unfold lookD at hd
 split at hd
 ·cases hd
 ·rename_i et het
  obtain ⟨kt, hu, hk⟩ := elemM_inv het
  split at hd
  ·rename_i m key e1 e2
   rw [e1] at hx
   rw [e2] at hy
   split at hd
   ·rename_i es hes
    split at hd
    ·rename_i z hz
     obtain ⟨zv, z1, z2⟩ := zeroP_run hz
     rw [cellAs_bind] at hd
     obtain ⟨dd, hc, hd⟩ := Option.bind_eq_some_iff.1 hd
     obtain ⟨rfl, _⟩ := cellAs_eq hc
     injection hd with hd
     have hob := h.core.ob m
     rw [hes] at hob
     obtain ⟨b, ents, clock, b1, b2, b3, b4⟩ := hob
     have hey := hy.str_inv
     generalize hex : a.eval x = vx at hx
     cases hx with
     | @mp _ b' hb' =>
      have : b' = b := by rw [b1] at hb'; injection hb' with hb'; exact hb'.symm
      subst this
      have hrun : ∃ v, (Instr.lookup t (.map (some b')) (.string key) ok).run P w = .ok (if ok = true then .tuple #[v, .bool (findM es key).isSome] else v) w ∧ VP S w ((findM es key).getD z) v := by
       rcases findNow_rel key es ents.toList 0 (entsOK_of b3 b4) with ⟨g1, g2, _⟩ | ⟨i, en, x', g1, g2, g3, g4, g5, g6, _⟩
       ·refine ⟨zv, ?_, by rw [g1]; exact z2 S w⟩
        cases ok <;> simp [Instr.lookup, run_underlying hu, MapKept.run_getObj_map b2, MapKept.run_checkKey (d := .string) (k := .string key) hk trivial, MapKept.run_findKey hk g2, z1 w, g1, Result.andThen]
       ·refine ⟨en.val, ?_, by rw [g1]; exact g6⟩
        cases ok <;> simp [Instr.lookup, run_underlying hu, MapKept.run_getObj_map b2, MapKept.run_checkKey (d := .string) (k := .string key) hk trivial, MapKept.run_findKey hk g2, g1, Result.andThen]
      obtain ⟨v, r1, r2⟩ := hrun
      subst hd
      refine StepOK.val h (v := if ok = true then .tuple #[v, .bool (findM es key).isSome] else v) ?_ ?_
      ·unfold execOp; rw [ho]
       simp [hex, hey, r1, Result.andThen]
      ·cases ok with
       | false => exact .p r2
       | true =>
        refine .tup rfl fun j hj => ?_
        have hj : j < 2 := hj
        match j, hj with
        | 0, _ => exact .p r2
        | 1, _ => exact .p .bool
    ·cases hd
   ·cases hd
  ·cases hd
theorem ok_mapUpdate (h : Rel cx ρ S st a w) {t et : TypeId} {x y z : Operand} (ho : o.op = .mapUpdate t x y z) {st' : St} (hd : setMapD P st t (opd P st t x) (opd P st 0 y) (opd P st et z) some = some st') : StepOK P cx o a w ud st' := by
 have hx := opd_rel (P := P) h t x
 have hy := opd_rel (P := P) h 0 y
 have hz := opd_rel (P := P) h et z
 unfold setMapD at hd
 split at hd
 ·cases hd
 ·rename_i et' het
  obtain ⟨kt, hu, hk⟩ := elemM_inv het
  split at hd
  ·rename_i m key v e1 e2 e3
   rw [e1] at hx
   rw [e2] at hy
   rw [e3] at hz
   split at hd
   ·rename_i es hes
    injection hd with hd; subst hd
    have hob := h.core.ob m
    rw [hes] at hob
    obtain ⟨b, ents, clock, b1, b2, b3, b4⟩ := hob
    have hey := hy.str_inv
    have hzv := hz.pd
    generalize hez : a.eval z = vz at hzv
    generalize hex : a.eval x = vx at hx
    cases hx with
    | @mp _ b' hb' =>
     have : b' = b := by rw [b1] at hb'; injection hb' with hb'; exact hb'.symm
     subst this
     have hne : getOb st.L st.O m ≠ .none := by rw [hes]; exact fun q => by cases q
     have hS : ∀ o', ¬ S b' o' := fun o' q => by
      obtain ⟨e', s', bb, es', p1, _⟩ := h.core.ss m b' o' hne b1 q
      rw [hes] at p1; cases p1
     have key' : ∃ ents' clock', (Instr.mapUpdate t (.map (some b')) (.string key) vz).run P w = .ok () { w with heap := w.heap.setIfInBounds b' (.map ents' clock') } ∧ ents'.size = (setM es key v).length ∧
      ∀ (i : Nat) (x : ByteArray × Pd), (setM es key v)[i]? = some x → ∃ en : MapEntry, ents'[i]? = some en ∧ en.key = .string x.1 ∧ VP S w x.2 en.val := by
      rcases findNow_rel key es ents.toList 0 (entsOK_of b3 b4) with ⟨g1, g2, g3⟩ | ⟨i, en, x', g1, g2, g3, g4, g5, g6, g7⟩
      ·refine ⟨ents.push { key := .string key, val := vz, born := clock }, clock + 1, ?_, by rw [g3]; simp [b3], fun i x hx => ?_⟩
       ·simp [Instr.mapUpdate, run_underlying hu, MapKept.run_getObj_map b2, MapKept.run_checkKey (d := .string) (k := .string key) hk trivial, MapKept.run_findKey hk g2, MapKept.run_setObj_map _ b2, Result.andThen]
       ·rw [g3] at hx
        by_cases hi : i < es.length
        ·rw [List.getElem?_append_left hi] at hx
         obtain ⟨en, p1, p2⟩ := b4 i x hx
         exact ⟨en, by rw [Array.getElem?_push, if_neg (by omega)]; exact p1, p2⟩
        ·rw [List.getElem?_append_right (by omega)] at hx
         have hie : i = es.length := by
          have := (List.getElem?_eq_some_iff.1 hx).1
          simp at this; omega
         subst hie
         simp only [Nat.sub_self, List.getElem?_cons_zero, Option.some.injEq] at hx
         subst hx
         exact ⟨_, by rw [Array.getElem?_push, if_pos b3.symm], rfl, hzv⟩
      ·have g4' : ents[i]? = some en := by simpa using g4
       refine ⟨ents.modify i fun e => { e with key := .string key, val := vz }, clock, ?_, by rw [g7]; simp [b3], fun j x hx => ?_⟩
       ·simp [Instr.mapUpdate, run_underlying hu, MapKept.run_getObj_map b2, MapKept.run_checkKey (d := .string) (k := .string key) hk trivial, MapKept.run_findKey hk g2, g4', g5, MapKept.run_keyThatStays (d := .string) (k := .string key) trivial, MapKept.run_setObj_map _ b2, Result.andThen]
       ·rw [g7, List.getElem?_set] at hx
        by_cases hij : i = j
        ·subst hij
         rw [if_pos rfl, if_pos g3] at hx
         injection hx with hx; subst hx
         exact ⟨{ en with key := .string key, val := vz }, by rw [Array.getElem?_modify, if_pos rfl, g4']; rfl, rfl, hzv⟩
        ·rw [if_neg hij] at hx
         obtain ⟨en', p1, p2⟩ := b4 j x hx
         exact ⟨en', by rw [Array.getElem?_modify, if_neg hij]; exact p1, p2⟩
     obtain ⟨ents', clock', r1, r2, r3⟩ := key'
     obtain ⟨hs1, hs2⟩ := MapKept.heap_set (o' := .map ents' clock') b2
     have hc : ∀ b o', S b o' → ({ w with heap := w.heap.setIfInBounds b' (.map ents' clock') } : World).cell? ⟨b, o', none⟩ = w.cell? ⟨b, o', none⟩ := fun b o' q => cell_heap (hs2 b (fun e => hS o' (e ▸ q)))
     refine .inl ⟨undef, { w with heap := w.heap.setIfInBounds b' (.map ents' clock') }, ρ, S, .inr ⟨.inl ?_, rfl⟩, ⟨h.core.upd m hne (.map (setM es key v)) (by simp) rfl rfl rfl (fun b _ hb => hs2 b (fun e => hb (e ▸ b1))) hc ⟨b', ents', clock', b1, hs1, r2, fun i x hx => ?_⟩ (fun b o' hb hS' => ?_) (fun q => by cases q) (fun q => by cases q), h.nt, h.df, fun t => (h.tm t).keep (fun _ => rfl) (fun _ _ q => q) hc⟩, .un⟩
     ·unfold execOp; rw [ho]
      simp [hex, hey, hez, r1, Result.andThen]
     ·obtain ⟨en, p1, p2, p3⟩ := r3 i x hx
      exact ⟨en, p1, p2, p3.keep (fun _ _ q => q) hc⟩
     ·have : b = b' := by rw [b1] at hb; injection hb with hb; exact hb.symm
      exact absurd hS' (this ▸ hS o')
   ·cases hd
  ·cases hd
theorem stepOp_sound {call : CallF} {κ : Kp} (hcall : CallOK P κ call) (hk : Kx κ cx) (h : Rel cx ρ S st a w) {q : Dv × St} (hd : stepOp call P o st pr = some q) : StepOK P cx o a w q.1 q.2 := by
 have hd0 := hd
 unfold stepOp at hd
 split at hd
 ·rename_i x ho; injection hd with hd; subst hd; exact ok_move h (.inl ho)
 ·rename_i x ho; injection hd with hd; subst hd; exact ok_move h (.inr ho)
 ·rename_i c x y ho
  split at hd
  ·rename_i b hb
   rw [pickD_bind] at hd
   obtain ⟨d, h1, h2⟩ := of_pr hd
   subst h2
   exact ok_pick h ho hb h1
  ·cases hd
 ·rename_i t ho
  split at hd
  ·rename_i zs s hz _
   injection hd with hd; subst hd
   exact ok_alloc h ho hz
  ·cases hd
 ·rename_i t x ho
  split at hd
  ·rename_i n s hn _
   injection hd with hd; subst hd
   exact ok_box h ho hn
  ·cases hd
 ·rename_i t ps ho
  split at hd
  ·rename_i fs zs hu hz
   split at hd
   ·rename_i hfs
    split at hd
    ·rename_i ds hb
     injection hd with hd; subst hd
     exact ok_build h ho hu hz hfs hb
    ·cases hd
   ·cases hd
  ·cases hd
 ·rename_i t len ps ho
  split at hd
  ·rename_i e s hu _
   split at hd
   ·cases hd
   ·rename_i hz
    split at hd
    ·rename_i hc
     split at hd
     ·rename_i hsz
      split at hd
      ·rw [packEsK_eq] at hd
       split at hd
       ·rename_i xs ns hp
        split at hd
        ·rename_i hgood
         injection hd with hd; subst hd
         exact ok_buildOwn h ho hu (fun q => hz (.inl q)) (by cases hzo : zeroOK P e with
          | true => rfl
          | false => exact absurd (.inr hzo) hz) hc hsz hp s hgood
        ·cases hd
       ·cases hd
      split at hd
      ·rename_i xs L O hv
       injection hd with hd; subst hd
       exact ok_buildSlice h ho hu (fun q => hz (.inl q)) (by cases hzo : zeroOK P e with
        | true => rfl
        | false => exact absurd (.inr hzo) hz) hc hsz hv s
      ·cases hd
     ·cases hd
    ·cases hd
  ·cases hd
 ·rename_i t l c ho
  split at hd
  ·rename_i e s n m hu _ hl hc
   split at hd
   ·cases hd
   ·rename_i hz
    split at hd
    ·rename_i hb
     split at hd
     ·rename_i zs hzs
      split at hd
      ·cases hd
      ·rename_i hlen
       split at hd
       ·split at hd
        ·rename_i xs hp
         injection hd with hd; subst hd
         exact ok_makeOwn h ho hu hl hc hz hb hzs (by simpa using hlen) hp s
        ·cases hd
       split at hd
       ·rename_i zp L O hv
        injection hd with hd; subst hd
        exact ok_makeSlice h ho hu hl hc hz hb hzs (by simpa using hlen) hv s
       ·cases hd
     ·cases hd
    ·cases hd
  ·cases hd
 ·rename_i t x ho
  rw [loadD_bind] at hd
  obtain ⟨d, h1, h2⟩ := of_pr hd
  subst h2
  exact ok_load h ho h1
 ·rename_i t x y ho
  split at hd
  ·cases hd
  ·rename_i hz
   rw [storeD_bind] at hd
   obtain ⟨d, h1, h2⟩ := of_pr (f := fun st' => (ud, st')) hd
   subst h2
   exact ok_store h ho hz h1
 ·rename_i x ho
  refine ok_nilCheck h ho ?_
  unfold stepOp
  rw [ho]
  exact hd
 ·rename_i op t x y ty ho
  rw [binD_bind] at hd
  obtain ⟨d, h1, h2⟩ := of_pr hd
  subst h2
  exact binD_sound h ho h1
 ·rename_i op t x ho
  rw [unD_bind] at hd
  obtain ⟨d, h1, h2⟩ := of_pr hd
  subst h2
  exact unD_sound h ho h1
 ·rename_i s t x ho
  rw [convD_bind] at hd
  obtain ⟨d, h1, h2⟩ := of_pr hd
  subst h2
  exact ok_convert h ho h1
 ·rename_i fn first cap ho
  split at hd
  ·rename_i f
   split at hd
   ·rename_i h0
    have e2 : q.2 = st := by
     split at hd <;> (injection hd with hd; subst hd; rfl)
    rw [e2]
    refine ok_makeFunc h ho rfl h0 ?_
    split at hd <;> (injection hd with hd; subst hd)
    ·rename_i he; rw [he]
    ·rename_i he; rw [he]
   ·cases hd
  ·cases hd
 ·rename_i t x lo hi mx ho
  exact ok_slice h ho hd
 ·rename_i t x f ho
  rw [fieldAddrD_bind] at hd
  obtain ⟨d, h1, h2⟩ := of_pr hd
  subst h2
  exact ok_fieldAddr h ho h1
 ·rename_i t x i ho
  rw [indexAddrD_bind] at hd
  obtain ⟨d, h1, h2⟩ := of_pr hd
  subst h2
  exact ok_indexAddr h ho h1
 ·rename_i t x i ho
  split at hd
  ·rename_i hu
   rw [indexD_bind] at hd
   obtain ⟨d, h1, h2⟩ := of_pr hd
   subst h2
   exact ok_index h ho hu h1
  ·cases hd
 ·rename_i t i ho
  split at hd
  ·rename_i ds he
   split at hd
   ·rename_i d hi
    injection hd with hd; subst hd
    exact ok_extract h ho he hi
   ·cases hd
  ·cases hd
 ·rename_i c ho
  split at hd
  ·rename_i hc
   split at hd
   ·rename_i x t hargs ht
    rw [lenD_bind] at hd
    obtain ⟨d, h1, h2⟩ := of_pr hd
    subst h2
    exact ok_len h ho hc hargs ht h1
   ·cases hd
  ·rename_i hc
   split at hd
   ·rename_i x y t t' s hargs hts _
    split at hd
    ·rename_i e
     subst e
     exact ok_append h ho hc hargs hts hd
    ·cases hd
   ·cases hd
  ·rename_i hc
   split at hd
   ·rename_i n hn
    injection hd with hd; subst hd
    exact ok_max h ho hc hn
   ·cases hd
  ·rename_i hc
   split at hd
   ·rename_i n hn
    injection hd with hd; subst hd
    exact ok_min h ho hc hn
   ·cases hd
  ·rename_i x hc
   split at hd
   ·rename_i f cap hf
    split at hd
    ·rename_i fn hfn
     split at hd
     ·rename_i hb
      exact ok_call hcall hk h ho hc hf hfn hb hd
     ·cases hd
    ·cases hd
   ·cases hd
  ·cases hd
 ·rename_i t r ho
  split at hd
  ·rename_i et s _ _
   split at hd
   ·cases hd
   ·injection hd with hd; subst hd
    exact ok_makeMap h ho s
  ·cases hd
 ·rename_i t x y ok ho
  rw [lookD_bind] at hd
  obtain ⟨d, h1, h2⟩ := of_pr hd
  subst h2
  exact ok_lookup h ho h1
 ·rename_i t x y z ho
  split at hd
  ·rename_i et _
   rw [setMapD_bind] at hd
   obtain ⟨d, h1, h2⟩ := of_pr (f := fun st' => (ud, st')) hd
   subst h2
   exact ok_mapUpdate h ho h1
  ·cases hd
 ·rename_i c ho
  split at hd
  ·rename_i x hc ha
   split at hd
   ·rename_i f cap hf
    split at hd
    ·rename_i hq
     injection hd with hd; subst hd
     obtain ⟨cv, e1, e2, _⟩ := callee_rel h hf
     have hargs : c.args = #[] := Array.ext' (by simpa using ha)
     refine .inl ⟨undef, w, ρ, S, .inr ⟨.inr ⟨f, cv, ?_, by rw [e2]; exact hq⟩, rfl⟩, h, .un⟩
     unfold execOp
     rw [ho]
     simp [resolve, hc, e1, Deferred.ofValue, hargs]
    ·cases hd
   ·cases hd
  ·cases hd
 ·cases hd
end Go.Proofs.YtmnoibkdmeajpaaGreat.Dm
