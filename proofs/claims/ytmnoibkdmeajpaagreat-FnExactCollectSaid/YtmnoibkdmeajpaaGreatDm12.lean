/- The machine over plain data and memory: calls; what is handed in and comes back. -/
import Derived.Test.YtmnoibkdmeajpaaGreatDm11
namespace Go.Proofs.YtmnoibkdmeajpaaGreat.Dm
set_option linter.unusedSectionVars false
open Go.RowKit
set_option linter.unusedVariables false
set_option linter.unusedSimpArgs false
variable [Cfg] {P : Program} {cx : Cx} {ρ : Nm → Rz} {S : Nat → Nat → Prop} {w : World} {st : St} {a : Act} {o : Oper} {d : Dv}
def cx0 (w : World) (S : Nat → Nat → Prop) (ρ : Nm → Rz) (os : List Ob) : Cx :=
 ⟨w, S, fun b => ∃ m, getOb [] os m ≠ .none ∧ ((ρ m).blk = some b ∨ (isO (getOb [] os m) = true ∧ (ρ m).fp b)), fun i => if i < os.length then (if isArr (getOb [] os (.out i)) = true then none else some (ρ (.out i))) else none⟩
structure Kp where
 g : Nat → Prop
 K : World → Prop
 st : ∀ w w', K w → w.heap.size ≤ w'.heap.size → (∀ b, g b → w'.heap[b]? = w.heap[b]?) → K w'
def Kp.nothing : Kp := ⟨fun _ => False, fun _ => True, fun _ _ _ _ _ => trivial⟩
def KOK (κ : Kp) (w : World) (S : Nat → Nat → Prop) : Prop := κ.K w ∧ ∀ b, κ.g b → b < w.heap.size ∧ ∀ o, S b o
def Kx (κ : Kp) (cx : Cx) : Prop := κ.K cx.w0 ∧ ∀ b, κ.g b → b < cx.w0.heap.size ∧ (∀ o, cx.S0 b o) ∧ ¬ cx.F b
theorem Kx.at {κ : Kp} {L O : List Ob} (hk : Kx κ cx) (h : Core cx ρ S L O w) : KOK κ w S :=
 ⟨κ.st _ _ hk.1 h.ws fun b hb => h.fr b (hk.2 b hb).1 (hk.2 b hb).2.2, fun b hb => ⟨Nat.lt_of_lt_of_le (hk.2 b hb).1 h.ws, fun o => h.s0 _ _ ((hk.2 b hb).2.1 o)⟩⟩
theorem KOK.toCx {κ : Kp} {os : List Ob} (hk : KOK κ w S) (h : Core (cx0 w S ρ os) ρ S [] os w) : Kx κ (cx0 w S ρ os) := by
 refine ⟨hk.1, fun b hb => ⟨(hk.2 b hb).1, (hk.2 b hb).2, ?_⟩⟩
 rintro ⟨m, q1, q2 | ⟨q2, q3⟩⟩
 case inr => exact (h.fp m b q2 q3).2.2 0 ((hk.2 b hb).2 0)
 obtain ⟨e, s, bb, es, p1, _⟩ := h.ss m b 0 q1 q2 ((hk.2 b hb).2 0)
 obtain ⟨e', s', bb', es', p1', p2⟩ := h.ss m b (es.length * s) q1 q2 ((hk.2 b hb).2 _)
 rw [p1] at p1'
 injection p1' with a1 a2 a3 a4 a5
 subst a2 a5
 exact absurd p2 (Nat.lt_irrefl _)
def CallOK (P : Program) (κ : Kp) (call : CallF) : Prop := ∀ (f : FuncId) (as : List Dv) (os : List Ob) (r : Res), call f as os = some r → ∀ (w : World) (ρ : Nm → Rz) (S : Nat → Nat → Prop) (vs : Array Value), KOK κ w S →
 Core (cx0 w S ρ os) ρ S [] os w → vs.size = as.length → (∀ j, j < as.length → VD ρ S w (as.getD j ud) (vs.getD j undef)) →
  Calls P f vs w fun e w' => ∃ v ρ' S', e = .returned v ∧ Core (cx0 w S ρ os) ρ' S' [] r.2 w' ∧ VD ρ' S' w' (retV r.1) v
theorem allP_get : ∀ {ds : List Dv}, allP ds = true → ∀ j, ∃ x, ds.getD j ud = .p x
 | [], _, j => ⟨.undef, by simp⟩
 | .p x :: ds, h, 0 => ⟨x, rfl⟩
 | .p x :: ds, h, j + 1 => by
  obtain ⟨y, hy⟩ := allP_get (ds := ds) h j
  exact ⟨y, by simpa using hy⟩
 | .nilsl _ :: _, h, _ => by cases h
 | .ptr .. :: _, h, _ => by cases h
 | .arr _ :: _, h, _ => by cases h
 | .el .. :: _, h, _ => by cases h
 | .ro .. :: _, h, _ => by cases h
 | .agg .. :: _, h, _ => by cases h
 | .fn .. :: _, h, _ => by cases h
 | .tup _ :: _, h, _ => by cases h
 | .mp _ :: _, h, _ => by cases h
 | .sub .. :: _, h, _ => by cases h
theorem VD.pureOf {ρ' : Nm → Rz} {x : Pd} {v : Value} (h : VD ρ S w (.p x) v) : VD ρ' S w (.p x) v := by
 cases h with | p h => exact .p h
theorem retV_pure {ρ' : Nm → Rz} {ds : List Dv} (h : allP ds = true) {v : Value} (hv : VD ρ S w (retV ds) v) : VD ρ' S w (retV ds) v := by
 unfold retV at hv ⊢
 split at hv
 ·obtain ⟨x, hx⟩ := allP_get h 0
  have hx : _ = Dv.p x := hx
  simp only [List.getD_cons_zero] at hx
  rw [hx] at hv ⊢
  exact hv.pureOf
 ·cases hv with
  | tup h1 h2 =>
   refine .tup h1 fun j hj => ?_
   obtain ⟨x, hx⟩ := allP_get h j
   have := h2 j hj
   rw [hx] at this ⊢
   exact this.pureOf
section
variable {g : Nm → Option Nm} {ρ' : Nm → Rz}
theorem renDs_get : ∀ {ds ds' : List Dv}, renDs g ds = some ds' → ds'.length = ds.length ∧ ∀ j, j < ds.length → renD g (ds.getD j ud) = some (ds'.getD j ud)
 | [], ds', h => by
  simp only [renDs] at h
  injection h with h; subst h
  exact ⟨rfl, fun j hj => by cases hj⟩
 | d :: ds, ds', h => by
  simp only [renDs] at h
  split at h
  ·rename_i d1 hd
   split at h
   ·rename_i ds1 hds
    injection h with h; subst h
    obtain ⟨q1, q2⟩ := renDs_get hds
    refine ⟨by simp [q1], fun j hj => ?_⟩
    cases j with
    | zero => exact hd
    | succ j => simpa using q2 j (by simpa using hj)
   ·cases h
  ·cases h
theorem getD_ge {α : Type} {l : List α} {j : Nat} {x : α} (h : l.length ≤ j) : l.getD j x = x := by
 rw [List.getD_eq_getElem?_getD, List.getElem?_eq_none h]; rfl
theorem VD.ren (hg : ∀ m m', g m = some m' → ρ' m' = ρ m) {d : Dv} {v : Value} (h : VD ρ S w d v) : ∀ d', renD g d = some d' → VD ρ' S w d' v := by
 induction h with
 | p h => intro d' hd; simp only [renD] at hd; injection hd with hd; subst hd; exact .p h
 | nilsl => intro d' hd; simp only [renD] at hd; injection hd with hd; subst hd; exact .nilsl
 | ptr h =>
  intro d' hd
  simp only [renD] at hd
  split at hd
  ·rename_i m' hm
   injection hd with hd; subst hd
   exact .ptr (by rw [hg _ _ hm]; exact h)
  ·cases hd
 | arr h =>
  intro d' hd
  simp only [renD] at hd
  split at hd
  ·rename_i m' hm
   injection hd with hd; subst hd
   rw [← hg _ _ hm] at h ⊢
   exact .arr h
  ·cases hd
 | el h =>
  intro d' hd
  simp only [renD] at hd
  split at hd
  ·rename_i m' hm
   injection hd with hd; subst hd
   exact .el (by rw [hg _ _ hm]; exact h)
  ·cases hd
 | mp h =>
  intro d' hd
  simp only [renD] at hd
  split at hd
  ·rename_i m' hm
   injection hd with hd; subst hd
   exact .mp (by rw [hg _ _ hm]; exact h)
  ·cases hd
 | @sub m j s off e s' h =>
  intro d' hd
  simp only [renD] at hd
  split at hd
  ·rename_i m' hm
   injection hd with hd; subst hd
   rw [← hg _ _ hm] at h ⊢
   exact .sub h
  ·cases hd
 | ro vals h1 h2 h3 => intro d' hd; simp only [renD] at hd; injection hd with hd; subst hd; exact .ro vals h1 h2 h3
 | @agg n ds vs h0 h1 h2 _ ih =>
  intro d' hd
  simp only [renD] at hd
  split at hd
  ·rename_i ds' hds
   injection hd with hd; subst hd
   obtain ⟨q1, q2⟩ := renDs_get hds
   refine .agg (by rw [q1]; exact h0) h1 h2 fun j hj => ?_
   by_cases hlt : j < ds.length
   ·exact ih j hj _ (q2 j hlt)
   ·rw [getD_ge (by omega)]; exact .un
  ·cases hd
 | fn h1 _ ih =>
  intro d' hd
  simp only [renD] at hd
  split at hd
  ·rename_i ds' hds
   injection hd with hd; subst hd
   obtain ⟨q1, q2⟩ := renDs_get hds
   exact .fn (by rw [q1]; exact h1) fun j hj => ih j (by omega) _ (q2 j (by omega))
  ·cases hd
 | tup h1 _ ih =>
  intro d' hd
  simp only [renD] at hd
  split at hd
  ·rename_i ds' hds
   injection hd with hd; subst hd
   obtain ⟨q1, q2⟩ := renDs_get hds
   exact .tup (by rw [q1]; exact h1) fun j hj => ih j (by omega) _ (q2 j (by omega))
  ·cases hd
theorem ObRel.ren (hg : ∀ m m', g m = some m' → ρ' m' = ρ m) {o o' : Ob} {z : Rz} (h : ObRel ρ S w o z) (ho : renOb g o = some o') : ObRel ρ' S w o' z := by
 cases o with
 | mbox n ds =>
  simp only [renOb] at ho
  split at ho
  ·rename_i ds' hds
   injection ho with ho; subst ho
   obtain ⟨q1, q2⟩ := renDs_get hds
   obtain ⟨b, vs, ty, h1, h2, h3, h4, h5⟩ := h
   refine ⟨b, vs, ty, h1, h2, h3, h4, fun j hj => ?_⟩
   by_cases hlt : j < ds.length
   ·exact (h5 j hj).ren hg _ (q2 j hlt)
   ·rw [getD_ge (by omega)]; exact .un
  ·cases ho
 | none => simp only [renOb] at ho; injection ho with ho; subst ho; trivial
 | box n cs => simp only [renOb] at ho; injection ho with ho; subst ho; exact h
 | arr e s b ro es => simp only [renOb] at ho; injection ho with ho; subst ho; exact h
 | map es => simp only [renOb] at ho; injection ho with ho; subst ho; exact h
 | oarr e s es => simp only [renOb] at ho; injection ho with ho; subst ho; exact h
 | marr e s es lk =>
  cases lk with
  | some _ => cases ho
  | none =>
   simp only [renOb] at ho
   injection ho with ho; subst ho
   obtain ⟨h1, h2, h3, _⟩ := h
   exact ⟨h1, h2, h3, fun j off n q => nomatch q⟩
 | gmap e s es lk =>
  cases lk with
  | some _ => cases ho
  | none =>
   simp only [renOb] at ho
   injection ho with ho; subst ho
   obtain ⟨b, ents, clock, f, h1, h2, h3, h4, h5, h6, _⟩ := h
   exact ⟨b, ents, clock, f, h1, h2, h3, h4, h5, h6, fun j n q => nomatch q⟩
theorem renOb_isO {o o' : Ob} (ho : renOb g o = some o') : isO o' = isO o := by
 cases o with
 | mbox n ds =>
  simp only [renOb] at ho
  split at ho
  ·injection ho with ho; subst ho; rfl
  ·cases ho
 | marr e s es lk =>
  cases lk with
  | some _ => cases ho
  | none => simp only [renOb] at ho; injection ho with ho; subst ho; rfl
 | gmap e s es lk =>
  cases lk with
  | some _ => cases ho
  | none => simp only [renOb] at ho; injection ho with ho; subst ho; rfl
 | _ => simp only [renOb] at ho; injection ho with ho; subst ho; rfl
theorem renOb_isArr {o o' : Ob} (ho : renOb g o = some o') : isArr o' = isArr o := by
 cases o with
 | mbox n ds =>
  simp only [renOb] at ho
  split at ho
  ·injection ho with ho; subst ho; rfl
  ·cases ho
 | marr e s es lk =>
  cases lk with
  | some _ => cases ho
  | none => simp only [renOb] at ho; injection ho with ho; subst ho; rfl
 | gmap e s es lk =>
  cases lk with
  | some _ => cases ho
  | none => simp only [renOb] at ho; injection ho with ho; subst ho; rfl
 | _ => simp only [renOb] at ho; injection ho with ho; subst ho; rfl
theorem renOb_none {o o' : Ob} (ho : renOb g o = some o') (h : o = .none) : o' = .none := by
 subst h; simp only [renOb] at ho; injection ho with ho; exact ho.symm
theorem renOb_arr {o o' : Ob} (ho : renOb g o = some o') {e s b : Nat} {ro : Bool} {es : List (List Pd)} (h : o = .arr e s b ro es) : o' = .arr e s b ro es := by
 subst h; simp only [renOb] at ho; injection ho with ho; exact ho.symm
theorem renObs_get : ∀ {ds ds' : List Ob}, renObs g ds = some ds' → ds'.length = ds.length ∧ ∀ j, renOb g (ds.getD j .none) = some (ds'.getD j .none)
 | [], ds', h => by
  simp only [renObs] at h
  injection h with h; subst h
  exact ⟨rfl, fun j => rfl⟩
 | d :: ds, ds', h => by
  simp only [renObs] at h
  split at h
  ·rename_i d1 hd
   split at h
   ·rename_i ds1 hds
    injection h with h; subst h
    obtain ⟨q1, q2⟩ := renObs_get hds
    refine ⟨by simp [q1], fun j => ?_⟩
    cases j with
    | zero => exact hd
    | succ j => simpa using q2 j
   ·cases h
  ·cases h
end
theorem idxN_get : ∀ {ns : List Nm} {m : Nm} {i : Nat}, idxN m ns = some i → ns[i]? = some m
 | [], m, i, h => by cases h
 | n :: ns, m, i, h => by
  simp only [idxN] at h
  split at h
  ·rename_i e
   injection h with h; subst h
   rw [e]; rfl
  ·split at h
   ·rename_i j hj
    injection h with h; subst h
    simpa using idxN_get hj
   ·cases h
theorem idxN_of : ∀ {ns : List Nm} {m : Nm} {i : Nat}, ns.Nodup → ns[i]? = some m → idxN m ns = some i
 | [], m, i, _, h => by simp at h
 | n :: ns, m, i, hn, h => by
  simp only [idxN]
  cases i with
  | zero => simp at h; rw [if_pos h]
  | succ i =>
   have h : ns[i]? = some m := by simpa using h
   have hne : n ≠ m := fun q => by
    rw [List.nodup_cons] at hn
    exact hn.1 (q ▸ List.mem_of_getElem? h)
   rw [if_neg hne, idxN_of (List.nodup_cons.1 hn).2 h]
theorem addN_nodup : ∀ (ms : List Nm) {ns : List Nm}, ns.Nodup → (addN ns ms).Nodup
 | [], ns, h => h
 | m :: ms, ns, h => by
  simp only [addN]
  split
  ·exact addN_nodup ms h
  ·rename_i hm
   refine addN_nodup ms ?_
   rw [List.nodup_append]
   exact ⟨h, by simp, fun x hx y hy => by
    rw [List.mem_singleton] at hy
    subst hy
    exact fun q => hm (q ▸ hx)⟩
theorem closeN_nodup (L O : List Ob) : ∀ (k : Nat) {ns : List Nm}, ns.Nodup → (closeN L O k ns).Nodup
 | 0, ns, h => h
 | k + 1, ns, h => by
  simp only [closeN]
  exact closeN_nodup L O k (addN_nodup _ h)
theorem backAll_get : ∀ (ns : List Nm) (os L O : List Ob), ns.Nodup → os.length = ns.length → (∀ m, m ∉ ns → getOb (backAll L O ns os).1 (backAll L O ns os).2 m = getOb L O m) ∧
 ∀ i m, ns[i]? = some m → getOb (backAll L O ns os).1 (backAll L O ns os).2 m = os.getD i .none ∨ getOb (backAll L O ns os).1 (backAll L O ns os).2 m = .none
 | [], os, L, O, _, hl => ⟨fun m _ => by cases os <;> rfl, fun i m h => by simp at h⟩
 | n :: ns, [], L, O, _, hl => by cases hl
 | n :: ns, o :: os, L, O, hn, hl => by
  obtain ⟨hn1, hn2⟩ := List.nodup_cons.1 hn
  obtain ⟨q1, q2⟩ := backAll_get ns os (setL L n o) (setO O n o) hn2 (by simpa using hl)
  simp only [backAll]
  refine ⟨fun m hm => ?_, fun i m hi => ?_⟩
  ·rw [q1 m (fun q => hm (List.mem_cons_of_mem _ q)), getOb_ne L O (m := n) (m' := m) (fun q => hm (by rw [q]; exact List.mem_cons_self ..))]
  ·cases i with
   | zero =>
    simp at hi
    subst hi
    rw [q1 n hn1]
    rcases getOb_set L O n n o with q | ⟨_, q⟩
    ·by_cases hz : getOb L O n = .none
     ·right; rw [q, hz]
     ·left; rw [getOb_self L O hz]; rfl
    ·left; rw [q]; rfl
   | succ i =>
    rcases q2 i m (by simpa using hi) with q | q
    ·left; rw [q]; rfl
    ·right; exact q
theorem VD.scrubAll_ {ρ' : Nm → Rz} {v : Value} : ∀ (ms : List Nm) {ρ : Nm → Rz} {d : Dv}, (∀ m, m ∉ ms → ρ' m = ρ m) → VD ρ S w d v → VD ρ' S w (scrubAll ms d) v
 | [], ρ, d, hr, h => by
  have : ρ' = ρ := funext fun m => hr m (fun q => by cases q)
  subst this; exact h
 | m :: ms, ρ, d, hr, h => by
  refine VD.scrubAll_ (ρ := fun n => if n = m then ρ' m else ρ n) ms (fun n hn => ?_) (h.scrub_ (fun n hn => if_neg hn))
  by_cases e : n = m
  ·rw [if_pos e, e]
  ·rw [if_neg e]; exact hr n (fun q => by rcases List.mem_cons.1 q with q | q <;> contradiction)
theorem ObRel.scrubAll_ {ρ' : Nm → Rz} {z : Rz} : ∀ (ms : List Nm) {ρ : Nm → Rz} {d : Ob}, (∀ m, m ∉ ms → ρ' m = ρ m) → ObRel ρ S w d z → ObRel ρ' S w (scrubObAll ms d) z
 | [], ρ, d, hr, h => by
  have : ρ' = ρ := funext fun m => hr m (fun q => by cases q)
  subst this; exact h
 | m :: ms, ρ, d, hr, h => by
  refine ObRel.scrubAll_ (ρ := fun n => if n = m then ρ' m else ρ n) ms (fun n hn => ?_) (h.scrub_ (fun n hn => if_neg hn))
  by_cases e : n = m
  ·rw [if_pos e, e]
  ·rw [if_neg e]; exact hr n (fun q => by rcases List.mem_cons.1 q with q | q <;> contradiction)
theorem scrubAll_ud : ∀ (ms : List Nm), scrubAll ms ud = ud
 | [] => rfl
 | m :: ms => scrubAll_ud ms
theorem scrubObAll_none : ∀ (ms : List Nm), scrubObAll ms .none = .none
 | [] => rfl
 | m :: ms => scrubObAll_none ms
theorem scrubObAll_arr : ∀ (ms : List Nm) {o : Ob} {e s b : Nat} {ro : Bool} {es : List (List Pd)}, o = .arr e s b ro es → scrubObAll ms o = .arr e s b ro es
 | [], _, _, _, _, _, _, h => h
 | m :: ms, _, _, _, _, _, _, h => scrubObAll_arr ms (scrubOb_arr h)
theorem scrubObAll_isO : ∀ (ms : List Nm) (o : Ob), isO (scrubObAll ms o) = isO o
 | [], _ => rfl
 | m :: ms, o => (scrubObAll_isO ms (scrubOb m o)).trans (isO_scrub m o)
theorem scrubObAll_isArr : ∀ (ms : List Nm) (o : Ob), isArr (scrubObAll ms o) = isArr o
 | [], _ => rfl
 | m :: ms, o => (scrubObAll_isArr ms (scrubOb m o)).trans (isArr_scrub m o)
theorem Core.back {L O : List Ob} (h : Core cx ρ S L O w) {ns : List Nm} (hnd : ns.Nodup) {os os1 os' : List Ob} (hos : renObs (toOut ns) (ns.map (getOb L O)) = some os) {ρc ρc' : Nm → Rz} {S' : Nat → Nat → Prop} {w' : World}
 (hρ : ∀ i m, ns[i]? = some m → ρc (.out i) = ρ m) (hc : Core (cx0 w S ρc os) ρc' S' [] os1 w') (hl : os1.length = ns.length) (hr : renObs (fromOut ns) os1 = some os') :
 ∃ ρ' : Nm → Rz, (∀ m, m ∉ (ns.filter fun m => isArr (getOb L O m)) → ρ' m = ρ m) ∧ Core cx ρ' S' (wb L O ns os').1 (wb L O ns os').2 w' := by
 obtain ⟨o1, o2⟩ := renObs_get hos
 obtain ⟨r1, r2⟩ := renObs_get hr
 rw [List.length_map] at o1
 have hosi : ∀ i m, ns[i]? = some m → renOb (toOut ns) (getOb L O m) = some (os.getD i .none) := by
  intro i m hi
  have := o2 i
  rw [List.getD_eq_getElem?_getD, List.getElem?_map, hi] at this
  exact this
 have hF : ∀ b, (cx0 w S ρc os).F b → ∃ m, m ∈ ns ∧ getOb L O m ≠ .none ∧ ((ρ m).blk = some b ∨ (isO (getOb L O m) = true ∧ (ρ m).fp b)) := by
  rintro b ⟨m, q1, q2⟩
  cases m with
  | loc s => simp [getOb] at q1
  | out i =>
   have hlt : i < ns.length := by
    rcases Nat.lt_or_ge i ns.length with q | q
    ·exact q
    ·exact absurd (getD_ge (by omega)) q1
   have hi : ns[i]? = some ns[i] := List.getElem?_eq_getElem hlt
   refine ⟨ns[i], List.getElem_mem _, fun q => q1 (renOb_none (hosi i _ hi) q), ?_⟩
   rw [← hρ i _ hi]
   rcases q2 with q2 | ⟨q2, q3⟩
   ·exact .inl q2
   ·exact .inr ⟨(renOb_isO (hosi i _ hi)).symm.trans q2, q3⟩
 have hws : w.heap.size ≤ w'.heap.size := hc.ws
 let ρ' : Nm → Rz := fun m => match idxN m ns with
  | some i => ρc' (.out i)
  | none => ρ m
 have hin : ∀ i m, ns[i]? = some m → ρ' m = ρc' (.out i) := by
  intro i m hi
  show (match idxN m ns with | some i => ρc' (.out i) | none => ρ m) = _
  rw [idxN_of hnd hi]
 have hout : ∀ m, m ∉ ns → ρ' m = ρ m := by
  intro m hm
  show (match idxN m ns with | some i => ρc' (.out i) | none => ρ m) = _
  cases hx : idxN m ns with
  | none => rfl
  | some i => exact absurd (List.mem_of_getElem? (idxN_get hx)) hm
 have hbox : ∀ i m, ns[i]? = some m → isArr (getOb L O m) = false → ρ' m = ρ m ∧ isArr (os1.getD i .none) = false := by
  intro i m hi ha
  have hb : (cx0 w S ρc os).B i = some (ρc (.out i)) := by
   show (if i < os.length then (if isArr (getOb [] os (.out i)) = true then none else some (ρc (.out i))) else none) = _
   rw [if_pos (by rw [o1]; exact (List.getElem?_eq_some_iff.1 hi).1), if_neg]
   show ¬ isArr (os.getD i .none) = true
   rw [renOb_isArr (hosi i m hi), ha]
   exact Bool.noConfusion
  obtain ⟨q1, q2⟩ := hc.bx i _ hb
  exact ⟨by rw [hin i m hi, q1, hρ i m hi], q2⟩
 have harr : ∀ m, m ∉ (ns.filter fun m => isArr (getOb L O m)) → ρ' m = ρ m := by
  intro m hm
  by_cases hmn : m ∈ ns
  ·obtain ⟨i, hi⟩ := List.getElem?_of_mem hmn
   cases ha : isArr (getOb L O m) with
   | false => exact (hbox i m hi ha).1
   | true => exact absurd (List.mem_filter.2 ⟨hmn, ha⟩) hm
  ·exact hout m hmn
 refine ⟨ρ', harr, ?_⟩
 have hfrom : ∀ m m', fromOut ns m = some m' → ρ' m' = ρc' m := by
  intro m m' hm
  cases m with
  | loc s => cases hm
  | out i => exact hin i m' hm
 obtain ⟨g1, g2⟩ := backAll_get ns os' (L.map (scrubObAll (ns.filter fun m => isArr (getOb L O m)))) (O.map (scrubObAll (ns.filter fun m => isArr (getOb L O m)))) hnd (by rw [r1]; exact hl)
 have h1 : ∀ m, m ∉ ns → getOb (wb L O ns os').1 (wb L O ns os').2 m = scrubObAll (ns.filter fun m => isArr (getOb L O m)) (getOb L O m) := fun m hm => (g1 m hm).trans (getOb_map L O (scrubObAll_none _) m)
 have h2 : ∀ i m, ns[i]? = some m → getOb (wb L O ns os').1 (wb L O ns os').2 m = os'.getD i .none ∨ getOb (wb L O ns os').1 (wb L O ns os').2 m = .none := g2
 have hlive1 : ∀ m, m ∉ ns → getOb (wb L O ns os').1 (wb L O ns os').2 m ≠ .none → getOb L O m ≠ .none := by
  intro m hm q q'
  exact q (by rw [h1 m hm, q', scrubObAll_none])
 have hlive2 : ∀ i m, ns[i]? = some m → getOb (wb L O ns os').1 (wb L O ns os').2 m ≠ .none → getOb (wb L O ns os').1 (wb L O ns os').2 m = os'.getD i .none ∧ getOb [] os1 (.out i) ≠ .none := by
  intro i m hi q
  rcases h2 i m hi with q' | q'
  ·refine ⟨q', fun q'' => q ?_⟩
   rw [q']
   exact renOb_none (r2 i) q''
  ·exact absurd q' q
 have hapart : ∀ m b, m ∉ ns → getOb L O m ≠ .none → (ρ m).blk = some b → ¬ (cx0 w S ρc os).F b := by
  intro m b hm hlm hb q
  obtain ⟨m', q1, q2, q3 | ⟨q3, q4⟩⟩ := hF b q
  ·exact hm (h.ne m m' b hlm q2 hb q3 ▸ q1)
  ·exact (h.fd m' m b q3 hlm (fun e => hm (e ▸ q1)) q4).1 hb
 have hapartO : ∀ m b, m ∉ ns → isO (getOb L O m) = true → (ρ m).fp b → ¬ (cx0 w S ρc os).F b := by
  intro m b hm hlm hb q
  obtain ⟨m', q1, q2, q3⟩ := hF b q
  have := h.fd m m' b hlm q2 (fun e => hm (e ▸ q1)) hb
  rcases q3 with q3 | ⟨q3, q4⟩
  ·exact this.1 q3
  ·exact this.2 q3 q4
 have hcell : ∀ b o, S b o → w'.cell? ⟨b, o, none⟩ = w.cell? ⟨b, o, none⟩ := hc.sk
 have hownF : ∀ b, (cx0 w S ρc os).F b → b < w.heap.size ∧ (cx.w0.heap.size ≤ b ∨ cx.F b) := by
  intro b q
  obtain ⟨m, q1, q2, q3 | ⟨q3, q4⟩⟩ := hF b q
  ·exact h.own m b q2 q3
  ·exact ⟨(h.fp m b q3 q4).1, (h.fp m b q3 q4).2.1⟩
 refine ⟨fun m => ?_, fun m1 m2 b hl1 hl2 q1 q2 => ?_, fun m b o' hlm q hS => ?_, fun m b hlm q => ?_, hc.sb, fun b o' q => hc.s0 b o' (h.s0 b o' q), fun b o' q => ?_, fun b hb hFb => ?_, fun b o' q => (hcell b o' (h.s0 b o' q)).trans (h.sk b o' q), Nat.le_trans h.ws hws, hc.os.trans h.os, hc.tape.trans h.tape, hc.output.trans h.output, fun i z q => ?_, fun m k ho q => ?_, fun m1 m2 k ho hl2 e q => ?_⟩
 ·by_cases hm : m ∈ ns
  ·obtain ⟨i, hi⟩ := List.getElem?_of_mem hm
   rcases h2 i m hi with q | q
   ·rw [q, hin i m hi]
    exact (hc.ob (.out i)).ren hfrom (r2 i)
   ·rw [q]; trivial
  ·rw [h1 m hm]
   by_cases hlm : getOb L O m = .none
   ·rw [hlm, scrubObAll_none]; trivial
   ·refine ObRel.scrubAll_ (ρ := ρ) _ harr ?_
    rw [hout m hm]
    exact (h.ob m).keep (fun _ => rfl) hc.s0 hcell (fun b q => hc.fr b (h.own m b hlm q).1 (hapart m b hm hlm q)) (fun ho k q => hc.fr k (h.fp m k ho q).1 (hapartO m k hm ho q))
 ·by_cases e1 : m1 ∈ ns
  ·obtain ⟨i1, hi1⟩ := List.getElem?_of_mem e1
   obtain ⟨_, p1⟩ := hlive2 i1 m1 hi1 hl1
   rw [hin i1 m1 hi1] at q1
   by_cases e2 : m2 ∈ ns
   ·obtain ⟨i2, hi2⟩ := List.getElem?_of_mem e2
    obtain ⟨_, p2⟩ := hlive2 i2 m2 hi2 hl2
    rw [hin i2 m2 hi2] at q2
    have := hc.ne _ _ b p1 p2 q1 q2
    injection this with this
    subst this
    rw [hi1] at hi2
    injection hi2
   ·exfalso
    rw [hout m2 e2] at q2
    have hl2' := hlive1 m2 e2 hl2
    rcases (hc.own _ b p1 q1).2 with q | q
    ·have := (h.own m2 b hl2' q2).1
     have q : w.heap.size ≤ b := q
     omega
    ·exact hapart m2 b e2 hl2' q2 q
  ·by_cases e2 : m2 ∈ ns
   ·exfalso
    obtain ⟨i2, hi2⟩ := List.getElem?_of_mem e2
    obtain ⟨_, p2⟩ := hlive2 i2 m2 hi2 hl2
    rw [hin i2 m2 hi2] at q2
    rw [hout m1 e1] at q1
    have hl1' := hlive1 m1 e1 hl1
    rcases (hc.own _ b p2 q2).2 with q | q
    ·have := (h.own m1 b hl1' q1).1
     have q : w.heap.size ≤ b := q
     omega
    ·exact hapart m1 b e1 hl1' q1 q
   ·rw [hout m1 e1] at q1
    rw [hout m2 e2] at q2
    exact h.ne m1 m2 b (hlive1 m1 e1 hl1) (hlive1 m2 e2 hl2) q1 q2
 ·by_cases e : m ∈ ns
  ·obtain ⟨i, hi⟩ := List.getElem?_of_mem e
   obtain ⟨p1, p2⟩ := hlive2 i m hi hlm
   rw [hin i m hi] at q
   obtain ⟨e', s, bb, es, q1, q2⟩ := hc.ss _ b o' p2 q hS
   exact ⟨e', s, bb, es, p1.trans (renOb_arr (r2 i) q1), q2⟩
  ·rw [hout m e] at q
   have hlm' := hlive1 m e hlm
   rcases hc.sn b o' hS with q' | q' | q'
   ·obtain ⟨e', s, bb, es, q1, q2⟩ := h.ss m b o' hlm' q q'
    exact ⟨e', s, bb, es, by rw [h1 m e]; exact scrubObAll_arr _ q1, q2⟩
   ·have := (h.own m b hlm' q).1
    have q' : w.heap.size ≤ b := q'
    omega
   ·exact absurd q' (hapart m b e hlm' q)
 ·by_cases e : m ∈ ns
  ·obtain ⟨i, hi⟩ := List.getElem?_of_mem e
   obtain ⟨p1, p2⟩ := hlive2 i m hi hlm
   rw [hin i m hi] at q
   obtain ⟨q1, q2⟩ := hc.own _ b p2 q
   refine ⟨q1, ?_⟩
   rcases q2 with q2 | q2
   ·exact .inl (Nat.le_trans h.ws q2)
   ·exact (hownF b q2).2
  ·rw [hout m e] at q
   obtain ⟨q1, q2⟩ := h.own m b (hlive1 m e hlm) q
   exact ⟨Nat.lt_of_lt_of_le q1 hws, q2⟩
 ·rcases hc.sn b o' q with q' | q' | q'
  ·exact h.sn b o' q'
  ·exact .inr (.inl (Nat.le_trans h.ws q'))
  ·exact .inr (hownF b q').2
 ·refine (hc.fr b (Nat.lt_of_lt_of_le hb h.ws) (fun q => ?_)).trans (h.fr b hb hFb)
  rcases (hownF b q).2 with q' | q'
  ·omega
  ·exact hFb q'
 ·obtain ⟨q1, q2⟩ := h.bx i z q
  by_cases e : Nm.out i ∈ ns
  ·obtain ⟨j, hj⟩ := List.getElem?_of_mem e
   obtain ⟨p1, p2⟩ := hbox j _ hj q2
   refine ⟨p1.trans q1, ?_⟩
   rcases h2 j _ hj with q' | q'
   ·rw [q', renOb_isArr (r2 j)]; exact p2
   ·rw [q']; rfl
  ·rw [hout _ e, h1 _ e, scrubObAll_isArr]
   exact ⟨q1, q2⟩
 ·have hlm : getOb (wb L O ns os').1 (wb L O ns os').2 m ≠ .none := fun q' => by rw [q'] at ho; cases ho
  by_cases e : m ∈ ns
  ·obtain ⟨i, hi⟩ := List.getElem?_of_mem e
   obtain ⟨p1, p2⟩ := hlive2 i m hi hlm
   rw [hin i m hi] at q
   rw [p1, renOb_isO (r2 i)] at ho
   obtain ⟨q1, q2, q3⟩ := hc.fp (.out i) k ho q
   refine ⟨q1, ?_, q3⟩
   rcases q2 with q2 | q2
   ·exact .inl (Nat.le_trans h.ws q2)
   ·exact (hownF k q2).2
  ·rw [hout m e] at q
   rw [h1 m e, scrubObAll_isO] at ho
   obtain ⟨q1, q2, q3⟩ := h.fp m k ho q
   refine ⟨Nat.lt_of_lt_of_le q1 hws, q2, fun o hS => ?_⟩
   rcases hc.sn k o hS with q' | q' | q'
   ·exact q3 o q'
   ·have q' : w.heap.size ≤ k := q'
    omega
   ·exact hapartO m k e ho q q'
 ·have hl1 : getOb (wb L O ns os').1 (wb L O ns os').2 m1 ≠ .none := fun q' => by rw [q'] at ho; cases ho
  by_cases e1 : m1 ∈ ns
  ·obtain ⟨i1, hi1⟩ := List.getElem?_of_mem e1
   obtain ⟨p1, p2⟩ := hlive2 i1 m1 hi1 hl1
   rw [hin i1 m1 hi1] at q
   rw [p1, renOb_isO (r2 i1)] at ho
   by_cases e2 : m2 ∈ ns
   ·obtain ⟨i2, hi2⟩ := List.getElem?_of_mem e2
    obtain ⟨p3, p4⟩ := hlive2 i2 m2 hi2 hl2
    rw [hin i2 m2 hi2, p3, renOb_isO (r2 i2)]
    refine hc.fd (.out i1) (.out i2) k ho p4 (fun e' => ?_) q
    injection e' with e'
    subst e'
    rw [hi1] at hi2
    injection hi2 with hi2
    exact e hi2.symm
   ·have hl2' := hlive1 m2 e2 hl2
    rw [hout m2 e2, h1 m2 e2, scrubObAll_isO]
    refine ⟨fun q2 => ?_, fun ho2 q2 => ?_⟩
    ·rcases (hc.fp (.out i1) k ho q).2.1 with q' | q'
     ·have := (h.own m2 k hl2' q2).1
      have q' : w.heap.size ≤ k := q'
      omega
     ·exact hapart m2 k e2 hl2' q2 q'
    ·rcases (hc.fp (.out i1) k ho q).2.1 with q' | q'
     ·have := (h.fp m2 k ho2 q2).1
      have q' : w.heap.size ≤ k := q'
      omega
     ·exact hapartO m2 k e2 ho2 q2 q'
  ·rw [hout m1 e1] at q
   rw [h1 m1 e1, scrubObAll_isO] at ho
   by_cases e2 : m2 ∈ ns
   ·obtain ⟨i2, hi2⟩ := List.getElem?_of_mem e2
    obtain ⟨p3, p4⟩ := hlive2 i2 m2 hi2 hl2
    rw [hin i2 m2 hi2, p3, renOb_isO (r2 i2)]
    have hk := (h.fp m1 k ho q).1
    refine ⟨fun q2 => ?_, fun ho2 q2 => ?_⟩
    ·rcases (hc.own (.out i2) k p4 q2).2 with q' | q'
     ·have q' : w.heap.size ≤ k := q'
      omega
     ·exact hapartO m1 k e1 ho q q'
    ·rcases (hc.fp (.out i2) k ho2 q2).2.1 with q' | q'
     ·have q' : w.heap.size ≤ k := q'
      omega
     ·exact hapartO m1 k e1 ho q q'
   ·rw [hout m2 e2, h1 m2 e2, scrubObAll_isO]
    exact h.fd m1 m2 k ho (hlive1 m2 e2 hl2) e q
theorem Core.after {L O : List Ob} (h : Core cx ρ S L O w) {ρc ρc' : Nm → Rz} {os1 : List Ob} {S' : Nat → Nat → Prop} {w' : World} (hc : Core (cx0 w S ρc []) ρc' S' [] os1 w') : Core cx ρ S' L O w' := by
 have hF : ∀ b, ¬ (cx0 w S ρc []).F b := by
  rintro b ⟨m, q1, q2⟩
  cases m <;> simp [getOb] at q1
 have hcell : ∀ b o, S b o → w'.cell? ⟨b, o, none⟩ = w.cell? ⟨b, o, none⟩ := hc.sk
 have hws : w.heap.size ≤ w'.heap.size := hc.ws
 refine ⟨fun m => ?_, h.ne, fun m b o' hlm q hS => ?_, fun m b hlm q => ?_, hc.sb, fun b o' q => hc.s0 b o' (h.s0 b o' q), fun b o' q => ?_, fun b hb hFb => (hc.fr b (Nat.lt_of_lt_of_le hb h.ws) (hF b)).trans (h.fr b hb hFb), fun b o' q => (hcell b o' (h.s0 b o' q)).trans (h.sk b o' q), Nat.le_trans h.ws hws, hc.os.trans h.os, hc.tape.trans h.tape, hc.output.trans h.output, h.bx, fun m k ho q => ?_, h.fd⟩
 ·by_cases hlm : getOb L O m = .none
  ·rw [hlm]; trivial
  ·exact (h.ob m).keep (fun _ => rfl) hc.s0 hcell (fun b q => hc.fr b (h.own m b hlm q).1 (hF b)) (fun ho k q => hc.fr k (h.fp m k ho q).1 (hF k))
 ·rcases hc.sn b o' hS with q' | q' | q'
  ·exact h.ss m b o' hlm q q'
  ·have := (h.own m b hlm q).1
   have q' : w.heap.size ≤ b := q'
   omega
  ·exact absurd q' (hF b)
 ·obtain ⟨q1, q2⟩ := h.own m b hlm q
  exact ⟨Nat.lt_of_lt_of_le q1 hws, q2⟩
 ·rcases hc.sn b o' q with q' | q' | q'
  ·exact h.sn b o' q'
  ·exact .inr (.inl (Nat.le_trans h.ws q'))
  ·exact absurd q' (hF b)
 ·obtain ⟨q1, q2, q3⟩ := h.fp m k ho q
  refine ⟨Nat.lt_of_lt_of_le q1 hws, q2, fun o hS => ?_⟩
  rcases hc.sn k o hS with q' | q' | q'
  ·exact q3 o q'
  ·have q' : w.heap.size ≤ k := q'
   omega
  ·exact absurd q' (hF k)
theorem prep_sound : ∀ (ds : List Dv) {S : Nat → Nat → Prop} {L O : List Ob} {w : World} (h : Core cx ρ S L O w) (vals : Nat → Value) (hd : ∀ j, j < ds.length → VD ρ S w (ds.getD j ud) (vals j)) {as : List Dv} {L' O' : List Ob} (hv : prep L O ds = some (as, L', O')),
 ∃ S' : Nat → Nat → Prop, (∀ b o, S b o → S' b o) ∧ Core cx ρ S' L' O' w ∧ as.length = ds.length ∧ ∀ j, j < ds.length → VD ρ S' w (as.getD j ud) (vals j)
 | [], S, L, O, w, h, vals, hd, as, L', O', hv => by
  simp only [prep] at hv
  injection hv with hv; injection hv with e1 e2; injection e2 with e2 e3; subst e1 e2 e3
  exact ⟨S, fun _ _ q => q, h, rfl, fun j hj => by cases hj⟩
 | d :: ds, S, L, O, w, h, vals, hd, as, L', O', hv => by
  simp only [prep] at hv
  split at hv
  ·rename_i d1 L1 O1 hx
   split at hv
   ·rename_i ds1 L2 O2 hy
    injection hv with hv; injection hv with e1 e2; injection e2 with e2 e3; subst e1 e2 e3
    have h0 : VD ρ S w d (vals 0) := hd 0 (by simp)
    have one : ∃ S1 : Nat → Nat → Prop, (∀ b o, S b o → S1 b o) ∧ Core cx ρ S1 L1 O1 w ∧ VD ρ S1 w d1 (vals 0) := by
     split at hx
     ·injection hx with hx; injection hx with e1 e2; injection e2 with e2 e3; subst e1 e2 e3
      exact ⟨S, fun _ _ q => q, h, h0⟩
     ·injection hx with hx; injection hx with e1 e2; injection e2 with e2 e3; subst e1 e2 e3
      exact ⟨S, fun _ _ q => q, h, h0⟩
     ·injection hx with hx; injection hx with e1 e2; injection e2 with e2 e3; subst e1 e2 e3
      exact ⟨S, fun _ _ q => q, h, h0⟩
     ·split at hx
      ·rename_i x L3 O3 hv3
       injection hx with hx; injection hx with e1 e2; injection e2 with e2 e3; subst e1 e2 e3
       obtain ⟨S1, q1, q2, q3⟩ := view_sound h h0 hv3
       exact ⟨S1, q1, q2, .p q3⟩
      ·cases hx
    obtain ⟨S1, q1, q2, q3⟩ := one
    obtain ⟨S2, q4, q5, q6, q7⟩ := prep_sound ds q2 (fun j => vals (j + 1)) (fun j hj => (hd (j + 1) (by simpa using hj)).keep (fun _ => rfl) q1 (fun _ _ _ => rfl)) hy
    refine ⟨S2, fun b o q => q4 _ _ (q1 _ _ q), q5, by simp [q6], fun j hj => ?_⟩
    cases j with
    | zero => exact q3.keep (fun _ => rfl) q4 (fun _ _ _ => rfl)
    | succ j => exact q7 j (by simpa using hj)
   ·cases hv
  ·cases hv
theorem Core.start {L O : List Ob} (h : Core cx ρ S L O w) {ns : List Nm} (hnd : ns.Nodup) {os : List Ob} (hos : renObs (toOut ns) (ns.map (getOb L O)) = some os) {ρc : Nm → Rz}
 (hρ : ∀ i m, ns[i]? = some m → ρc (.out i) = ρ m) : Core (cx0 w S ρc os) ρc S [] os w := by
 obtain ⟨o1, o2⟩ := renObs_get hos
 rw [List.length_map] at o1
 have hosi : ∀ i m, ns[i]? = some m → renOb (toOut ns) (getOb L O m) = some (os.getD i .none) := by
  intro i m hi
  have := o2 i
  rw [List.getD_eq_getElem?_getD, List.getElem?_map, hi] at this
  exact this
 have hto : ∀ m m', toOut ns m = some m' → ρc m' = ρ m := by
  intro m m' hm
  unfold toOut at hm
  split at hm
  ·rename_i i hi
   injection hm with hm; subst hm
   exact hρ i m (idxN_get hi)
  ·cases hm
 have hlive : ∀ m, getOb [] os m ≠ .none → ∃ i n, m = .out i ∧ ns[i]? = some n ∧ getOb L O n ≠ .none ∧ ρc m = ρ n ∧ renOb (toOut ns) (getOb L O n) = some (getOb [] os m) := by
  intro m q
  cases m with
  | loc s => simp [getOb] at q
  | out i =>
   have hlt : i < ns.length := by
    rcases Nat.lt_or_ge i ns.length with q' | q'
    ·exact q'
    ·exact absurd (getD_ge (by omega)) q
   have hi : ns[i]? = some ns[i] := List.getElem?_eq_getElem hlt
   exact ⟨i, ns[i], rfl, hi, fun q' => q (renOb_none (hosi i _ hi) q'), hρ i _ hi, hosi i _ hi⟩
 refine ⟨fun m => ?_, fun m1 m2 b hl1 hl2 q1 q2 => ?_, fun m b o' hlm q hS => ?_, fun m b hlm q => ?_, h.sb, fun _ _ q => q, fun _ _ q => .inl q, fun _ _ _ => rfl, fun _ _ _ => rfl, Nat.le_refl _, rfl, rfl, rfl, fun i z q => ?_, fun m k ho q => ?_, fun m1 m2 k ho hl2 e q => ?_⟩
 ·by_cases hlm : getOb [] os m = .none
  ·rw [hlm]; trivial
  ·obtain ⟨i, n, rfl, hi, q1, q2, q3⟩ := hlive m hlm
   rw [q2]
   exact (h.ob n).ren hto q3
 ·obtain ⟨i1, n1, rfl, hi1, p1, p2, p3⟩ := hlive m1 hl1
  obtain ⟨i2, n2, rfl, hi2, r1, r2, r3⟩ := hlive m2 hl2
  rw [p2] at q1
  rw [r2] at q2
  have := h.ne n1 n2 b p1 r1 q1 q2
  subst this
  have e1 := idxN_of hnd hi1
  rw [idxN_of hnd hi2] at e1
  injection e1 with e1
  rw [e1]
 ·obtain ⟨i, n, rfl, hi, p1, p2, p3⟩ := hlive m hlm
  rw [p2] at q
  obtain ⟨e', s, bb, es, q1, q2⟩ := h.ss n b o' p1 q hS
  exact ⟨e', s, bb, es, renOb_arr p3 q1, q2⟩
 ·obtain ⟨i, n, rfl, hi, p1, p2, p3⟩ := hlive m hlm
  refine ⟨(h.own n b p1 (p2 ▸ q)).1, .inr ⟨_, hlm, .inl q⟩⟩
 ·have q : (if i < os.length then (if isArr (getOb [] os (.out i)) = true then none else some (ρc (.out i))) else none) = some z := q
  split at q
  case isFalse => cases q
  split at q
  ·cases q
  ·rename_i hx
   injection q with q
   exact ⟨q, by simpa using hx⟩
 ·have hlm : getOb [] os m ≠ .none := fun q' => by rw [q'] at ho; cases ho
  obtain ⟨i, n, rfl, hi, p1, p2, p3⟩ := hlive m hlm
  have ho' := ho
  rw [renOb_isO p3] at ho
  have q' := q
  rw [p2] at q
  obtain ⟨q1, q2, q3⟩ := h.fp n k ho q
  exact ⟨q1, .inr ⟨_, hlm, .inr ⟨ho', q'⟩⟩, q3⟩
 ·have hl1 : getOb [] os m1 ≠ .none := fun q' => by rw [q'] at ho; cases ho
  obtain ⟨i1, n1, rfl, hi1, p1, p2, p3⟩ := hlive m1 hl1
  obtain ⟨i2, n2, rfl, hi2, r1, r2, r3⟩ := hlive m2 hl2
  rw [renOb_isO p3] at ho
  rw [p2] at q
  rw [r2, renOb_isO r3]
  refine h.fd n1 n2 k ho r1 (fun e' => ?_) q
  subst e'
  have e1 := idxN_of hnd hi1
  rw [idxN_of hnd hi2] at e1
  injection e1 with e1
  exact e (by rw [e1])
theorem castP_eq {t : TypeId} {x y : Pd} (h : castP P t x some = some y) : y = x ∧ x ≠ .undef := by
 unfold castP at h
 split at h
 ·obtain ⟨n, h1, h2⟩ := Option.bind_eq_some_iff.1 h
  injection h2 with h2; subst h2
  cases x <;> simp [Dm.asInt] at h1 ⊢
  obtain ⟨rfl, rfl⟩ := h1; simp
 ·obtain ⟨n, h1, h2⟩ := Option.bind_eq_some_iff.1 h
  injection h2 with h2; subst h2
  cases x <;> simp [Dm.asBool] at h1 ⊢
  exact h1.symm
 ·obtain ⟨n, h1, h2⟩ := Option.bind_eq_some_iff.1 h
  injection h2 with h2; subst h2
  cases x <;> simp [asStr] at h1 ⊢
  exact h1.symm
 ·obtain ⟨n, h1, h2⟩ := Option.bind_eq_some_iff.1 h
  injection h2 with h2; subst h2
  cases x <;> simp [asSl] at h1 ⊢
  obtain ⟨rfl, rfl⟩ := h1; simp
 ·obtain ⟨n, h1, h2⟩ := Option.bind_eq_some_iff.1 h
  injection h2 with h2; subst h2
  cases x <;> simp [asAgg] at h1 ⊢
  obtain ⟨rfl, rfl⟩ := h1; simp
 ·obtain ⟨n, h1, h2⟩ := Option.bind_eq_some_iff.1 h
  injection h2 with h2; subst h2
  cases x <;> simp [asFn] at h1 ⊢
  exact h1.symm
 ·cases h
theorem castRs_eq {r : List Dv} : ∀ (ts : List TypeId) (i : Nat) (acc ds : List Dv), castRs P r some i ts acc = some ds → ∃ ys : List Pd, ds = acc ++ ys.map .p ∧ r.drop i = ys.map .p
 | [], i, acc, ds, h => by
  simp only [castRs] at h
  split at h
  ·rename_i e
   injection h with h; subst h
   exact ⟨[], by simp, by rw [List.drop_eq_nil_of_le (by omega)]; rfl⟩
  ·cases h
 | t :: ts, i, acc, ds, h => by
  simp only [castRs] at h
  rw [castP_bind] at h
  obtain ⟨y, h1, h2⟩ := Option.bind_eq_some_iff.1 h
  obtain ⟨rfl, hne⟩ := castP_eq h1
  obtain ⟨ys, q1, q2⟩ := castRs_eq ts (i + 1) _ ds h2
  refine ⟨pAt i r :: ys, by rw [q1]; simp, ?_⟩
  unfold pAt at hne ⊢
  rw [List.getD_eq_getElem?_getD] at hne ⊢
  rcases Nat.lt_or_ge i r.length with hlt | hge
  ·rw [List.drop_eq_getElem_cons hlt, q2]
   rw [List.getElem?_eq_getElem hlt] at hne ⊢
   simp only [Option.getD_some] at hne ⊢
   cases hx : r[i] <;> rw [hx] at hne <;> first | rfl | exact absurd rfl hne
  ·rw [List.getElem?_eq_none hge] at hne
   exact absurd rfl hne
theorem allP_map : ∀ ys : List Pd, allP (ys.map .p) = true
 | [] => rfl
 | y :: ys => allP_map ys
theorem castRs_all {r : List Dv} {ts : List TypeId} {ds : List Dv} (h : castRs P r some 0 ts [] = some ds) : ds = r ∧ allP r = true := by
 obtain ⟨ys, q1, q2⟩ := castRs_eq ts 0 [] ds h
 simp only [List.drop_zero, List.nil_append] at q1 q2
 exact ⟨q1.trans q2.symm, by rw [q2]; exact allP_map ys⟩
def LikeOb (o o' : Ob) : Prop := o' = o ∨ ∃ n cs, o = .box n cs ∧ o' = .mbox n (cs.map .p)
mutual
theorem sameD_eq : ∀ {d e : Dv}, sameD d e = true → d = e
 | .p (.fn f), .p (.fn g), h => by simp only [sameD, beq_iff_eq] at h; rw [h]
 | .nilsl s, .nilsl s', h => by simp only [sameD, beq_iff_eq] at h; rw [h]
 | .ptr m o, .ptr m' o', h => by simp only [sameD, Bool.and_eq_true, decide_eq_true_eq, beq_iff_eq] at h; rw [h.1, h.2]
 | .arr m, .arr m', h => by simp only [sameD, decide_eq_true_eq] at h; rw [h]
 | .mp m, .mp m', h => by simp only [sameD, decide_eq_true_eq] at h; rw [h]
 | .fn f ds, .fn g ds', h => by
  simp only [sameD, Bool.and_eq_true, beq_iff_eq] at h
  rw [h.1, sameDs_eq h.2]
theorem sameDs_eq : ∀ {ds es : List Dv}, sameDs ds es = true → ds = es
 | [], [], _ => rfl
 | d :: ds, e :: es, h => by
  simp only [sameDs, Bool.and_eq_true] at h
  rw [sameD_eq h.1, sameDs_eq h.2]
end
theorem fillD_like : ∀ {ds es : List Dv} {xs : List Pd} (pre : List Pd), likeD ds es = some xs → fillD pre.length (pre ++ xs) ds = es
 | [], [], xs, pre, _ => rfl
 | [], _ :: _, xs, pre, h => by cases h
 | _ :: _, [], xs, pre, h => by cases h
 | d :: ds, e :: es, xs, pre, h => by
  simp only [likeD] at h
  split at h
  ·rename_i hp
   split at h
   ·rename_i x
    split at h
    ·rename_i ys hy
     injection h with h; subst h
     have := fillD_like (pre ++ [x]) hy
     rw [List.length_append, List.append_assoc] at this
     simp only [fillD, if_pos hp]
     congr 1
     ·rw [List.getD_eq_getElem?_getD, List.getElem?_append_right (Nat.le_refl _), Nat.sub_self]; rfl
    ·cases h
   ·cases h
  ·rename_i hp
   split at h
   ·rename_i hs
    split at h
    ·rename_i ys hy
     injection h with h; subst h
     have := fillD_like (pre ++ [.undef]) hy
     rw [List.length_append, List.append_assoc] at this
     simp only [fillD, if_neg hp]
     congr 1
     ·exact sameD_eq hs
    ·cases h
   ·cases h
theorem asMbox_like {n : Nat} {ds : List Dv} {o : Ob} {cs : List Pd} (h : asMbox n ds o = some cs) : LikeOb o (.mbox n (fillD 0 cs ds)) := by
 unfold asMbox at h
 split at h
 ·split at h
  ·rename_i e; subst e
   have := fillD_like [] h
   rw [List.nil_append] at this
   exact .inl (by rw [show ([] : List Pd).length = 0 from rfl] at this; rw [this])
  ·cases h
 ·split at h
  ·rename_i cs' e; subst e
   have := fillD_like [] h
   rw [List.nil_append] at this
   exact .inr ⟨_, _, rfl, by rw [show ([] : List Pd).length = 0 from rfl] at this; rw [this]⟩
  ·cases h
 ·cases h
theorem fillF_same : ∀ {xs ys : List Pd}, fnSame xs ys = true → fillF xs ys = ys
 | [], ys, _ => rfl
 | _ :: _, [], h => by cases h
 | x :: xs, y :: ys, h => by
  simp only [fnSame, Bool.and_eq_true] at h
  simp only [fillF, List.headD_cons, List.tail_cons, fillF_same h.2]
  congr 1
  obtain ⟨h, _⟩ := h
  cases x <;> try rfl
  cases y <;> simp only [beq_iff_eq, Bool.false_eq_true] at h
  rw [h]; rfl
theorem asFbox_eq {n : Nat} {cs0 : List Pd} {o : Ob} {cs : List Pd} (h : asFbox n cs0 o = some cs) : o = .box n (fillF cs0 cs) := by
 unfold asFbox at h
 split at h
 ·split at h
  ·rename_i e; injection h with h; subst h; rw [fillF_same e.2, e.1]
  ·cases h
 ·cases h
theorem asArr_eq {e s b : Nat} {ro : Bool} {o : Ob} {es : List (List Pd)} (h : asArr e s b ro o = some es) : o = .arr e s b ro es := by
 unfold asArr at h
 split at h
 ·split at h
  ·rename_i q; obtain ⟨rfl, rfl, rfl, rfl⟩ := q; injection h with h; subst h; rfl
  ·cases h
 ·cases h
theorem asMap_eq {o : Ob} {es : List (ByteArray × Pd)} (h : asMap o = some es) : o = .map es := by
 unfold asMap at h
 split at h
 ·injection h with h; subst h; rfl
 ·cases h
theorem asMarr_eq {e s : Nat} {o : Ob} {es : List (List Pd)} (h : asMarr e s o = some es) : o = .marr e s es none := by
 unfold asMarr at h
 split at h
 ·split at h
  ·rename_i q; obtain ⟨rfl, rfl⟩ := q; injection h with h; subst h; rfl
  ·cases h
 ·cases h
theorem asGmap_eq {e s : Nat} {o : Ob} {es : List (ByteArray × Pd)} (h : asGmap e s o = some es) : o = .gmap e s es none := by
 unfold asGmap at h
 split at h
 ·split at h
  ·rename_i q; obtain ⟨rfl, rfl⟩ := q; injection h with h; subst h; rfl
  ·cases h
 ·cases h
theorem asOarr_eq {e s : Nat} {o : Ob} {es : List (List Pd)} (h : asOarr e s o = some es) : o = .oarr e s es := by
 unfold asOarr at h
 split at h
 ·split at h
  ·rename_i q; obtain ⟨rfl, rfl⟩ := q; injection h with h; subst h; rfl
  ·cases h
 ·cases h
theorem castObs_like {r : List Ob} : ∀ (l : List Ob) (i : Nat) (acc os : List Ob), castObs r some i l acc = some os → ∃ zs : List Ob, os = acc ++ zs ∧ zs.length = l.length ∧ r.length = i + zs.length ∧ ∀ j, j < zs.length → LikeOb (r.getD (i + j) .none) (zs.getD j .none)
 | [], i, acc, os, h => by
  simp only [castObs] at h
  split at h
  ·rename_i e
   injection h with h; subst h
   exact ⟨[], by simp, rfl, by simpa using e, fun j hj => by cases hj⟩
  ·cases h
 | o :: l, i, acc, os, h => by
  have step : ∀ o' : Ob, LikeOb (r.getD i .none) o' → castObs r some (i + 1) l (acc ++ [o']) = some os → ∃ zs : List Ob, os = acc ++ zs ∧ zs.length = (o :: l).length ∧ r.length = i + zs.length ∧ ∀ j, j < zs.length → LikeOb (r.getD (i + j) .none) (zs.getD j .none) := by
   intro o' ho h2
   obtain ⟨zs, q1, q2, q3, q4⟩ := castObs_like l (i + 1) _ os h2
   refine ⟨o' :: zs, by rw [q1]; simp, by simp [q2], by simp only [List.length_cons]; omega, fun j hj => ?_⟩
   cases j with
   | zero => exact ho
   | succ j =>
    have := q4 j (by simpa using hj)
    rw [show i + 1 + j = i + (j + 1) by omega] at this
    simpa using this
  cases o with
  | none => cases h
  | box n cs0 =>
   simp only [castObs] at h
   obtain ⟨cs, h1, h2⟩ := Option.bind_eq_some_iff.1 h
   exact step _ (.inl (asFbox_eq h1).symm) h2
  | mbox n ds =>
   simp only [castObs] at h
   obtain ⟨cs, h1, h2⟩ := Option.bind_eq_some_iff.1 h
   exact step _ (asMbox_like h1) h2
  | arr e s b ro es =>
   simp only [castObs] at h
   obtain ⟨cs, h1, h2⟩ := Option.bind_eq_some_iff.1 h
   exact step _ (.inl (asArr_eq h1).symm) h2
  | map es =>
   simp only [castObs] at h
   obtain ⟨cs, h1, h2⟩ := Option.bind_eq_some_iff.1 h
   exact step _ (.inl (asMap_eq h1).symm) h2
  | oarr e s es =>
   simp only [castObs] at h
   obtain ⟨cs, h1, h2⟩ := Option.bind_eq_some_iff.1 h
   exact step _ (.inl (asOarr_eq h1).symm) h2
  | marr e s es lk =>
   simp only [castObs] at h
   obtain ⟨cs, h1, h2⟩ := Option.bind_eq_some_iff.1 h
   exact step _ (.inl (asMarr_eq h1).symm) h2
  | gmap e s es lk =>
   simp only [castObs] at h
   obtain ⟨cs, h1, h2⟩ := Option.bind_eq_some_iff.1 h
   exact step _ (.inl (asGmap_eq h1).symm) h2
theorem Core.like {L O L' O' : List Ob} (h : Core cx ρ S L O w) (hl : ∀ m, LikeOb (getOb L O m) (getOb L' O' m)) : Core cx ρ S L' O' w := by
 have hn : ∀ m, getOb L' O' m ≠ .none → getOb L O m ≠ .none := by
  intro m q q'
  rcases hl m with e | ⟨n, cs, e1, e2⟩
  ·exact q (e.trans q')
  ·rw [q'] at e1; cases e1
 have hO : ∀ m, isO (getOb L' O' m) = isO (getOb L O m) := by
  intro m
  rcases hl m with e | ⟨n, cs, e1, e2⟩
  ·rw [e]
  ·rw [e1, e2]; rfl
 refine ⟨fun m => ?_, fun m1 m2 b q1 q2 => h.ne m1 m2 b (hn _ q1) (hn _ q2), fun m b o q1 q2 q3 => ?_, fun m b q => h.own m b (hn _ q), h.sb, h.s0, h.sn, h.fr, h.sk, h.ws, h.os, h.tape, h.output, fun i z q => ?_, fun m k ho q => h.fp m k ((hO m).symm.trans ho) q, fun m1 m2 k ho q1 e q => ?_⟩
 ·have hob := h.ob m
  rcases hl m with e | ⟨n, cs, e1, e2⟩
  ·rw [e]; exact hob
  ·rw [e1] at hob
   rw [e2]
   obtain ⟨b, vs, ty, h1, h2, h3, h4, h5⟩ := hob
   refine ⟨b, vs, ty, h1, h2, h3, h4, fun j hj => ?_⟩
   rw [getD_map_p]
   exact .p (h5 j hj)
 ·obtain ⟨e, s, bb, es, p1, p2⟩ := h.ss m b o (hn _ q1) q2 q3
  refine ⟨e, s, bb, es, ?_, p2⟩
  rcases hl m with e' | ⟨n, cs, e1, e2⟩
  ·rw [e', p1]
  ·rw [p1] at e1; cases e1
 ·obtain ⟨p1, p2⟩ := h.bx i z q
  refine ⟨p1, ?_⟩
  rcases hl (.out i) with e' | ⟨n, cs, e1, e2⟩
  ·rw [e']; exact p2
  ·rw [e2]; rfl
 ·have := h.fd m1 m2 k ((hO m1).symm.trans ho) (hn _ q1) e q
  exact ⟨this.1, fun q2 => this.2 ((hO m2).symm.trans q2)⟩
theorem castObs_core {ρ' : Nm → Rz} {cx' : Cx} {S' : Nat → Nat → Prop} {w' : World} {r l os : List Ob} (h : castObs r some 0 l [] = some os) (hc : Core cx' ρ' S' [] r w') : os.length = l.length ∧ Core cx' ρ' S' [] os w' := by
 obtain ⟨zs, q1, q2, q3, q4⟩ := castObs_like l 0 [] os h
 simp only [List.nil_append] at q1
 subst q1
 refine ⟨q2, hc.like fun m => ?_⟩
 cases m with
 | loc s => exact .inl rfl
 | out i =>
  show LikeOb (r.getD i .none) (os.getD i .none)
  rcases Nat.lt_or_ge i os.length with q | q
  ·have := q4 i q
   rwa [Nat.zero_add] at this
  ·rw [getD_ge (l := r) (by omega), getD_ge (l := os) q]
   exact .inl rfl
def SZ (w : World) : Nat → Nat → Prop := fun b _ => b < w.heap.size
theorem Core.base0 (w : World) (ρ : Nm → Rz) : Core (cx0 w (SZ w) ρ []) ρ (SZ w) [] [] w := by
 have hn : ∀ m, getOb [] [] m = Ob.none := fun m => by cases m <;> rfl
 refine ⟨fun m => by rw [hn m]; trivial, fun m m' b h => absurd (hn m) h, fun m b o h => absurd (hn m) h, fun m b h => absurd (hn m) h, fun b o q => q, fun _ _ q => q, fun _ _ q => .inl q, fun _ _ _ => rfl, fun _ _ _ => rfl, Nat.le_refl _, rfl, rfl, rfl, fun i z q => ?_, fun m k ho => (by rw [hn m] at ho; cases ho), fun m m' k ho => (by rw [hn m] at ho; cases ho)⟩
 have q : (none : Option Rz) = some z := q
 cases q
section
variable {L O : List Ob}
theorem VP.toZ (h : Core cx ρ S L O w) {S' : Nat → Nat → Prop} (hs : ∀ b o, S' b o → b < w.heap.size) {x : Pd} {v : Value} (hx : VP S' w x v) : VP (SZ w) w x v := hx.keep (fun b o q => hs b o q) (fun _ _ _ => rfl)
theorem peek1_sound (h : Core cx ρ S L O w) {v : Value} (hd : VD ρ S w d v) {x : Pd} (hp : peek1 L O d = some x) : VP (SZ w) w x v := by
 unfold peek1 at hp
 split at hp
 ·injection hp with hp; subst hp
  exact VP.toZ h h.sb hd.pd
 ·injection hp with hp; subst hp
  cases hd
  exact .sl ⟨0, 0, none⟩ (fun _ _ => undef) rfl (Nat.le_refl _) (fun q => by omega) (fun i j hi => by omega) (fun i j hi => by omega)
 ·rename_i m
  cases hd
  split at hp
  ·rename_i e s b ro es hm
   injection hp with hp; subst hp
   obtain ⟨S', q1, q2, q3, _⟩ := h.view_ hm
   exact VP.toZ h q2.sb q3
  ·rename_i e s es hm
   injection hp with hp; subst hp
   have hob := h.ob m
   rw [hm] at hob
   obtain ⟨o1, o2, o3, o4⟩ := hob
   have := o3.cold_ (S' := SZ w) (fun _ _ q => q.elim) (fun k o u hk hu => World.block_lt_of_cell? w ⟨k, o, none⟩ hu)
   rwa [cold] at this
  ·rename_i e s es hm
   injection hp with hp; subst hp
   have hob := h.ob m
   rw [hm] at hob
   obtain ⟨o1, o2, o3, o4⟩ := hob
   have := o3.cold_ (S' := SZ w) (fun b o q => h.sb b o q) (fun k o u hk hu => World.block_lt_of_cell? w ⟨k, o, none⟩ hu)
   rwa [cold] at this
  ·cases hp
 ·cases hp
theorem peeks_sound (h : Core cx ρ S L O w) : ∀ (ds : List Dv) (vals : Nat → Value) {xs : List Pd}, peeks L O ds = some xs → (∀ j, j < ds.length → VD ρ S w (ds.getD j ud) (vals j)) → xs.length = ds.length ∧ ∀ j, j < ds.length → VP (SZ w) w (xs.getD j .undef) (vals j)
 | [], vals, xs, hp, hd => by
  simp only [peeks] at hp
  injection hp with hp; subst hp
  exact ⟨rfl, fun j hj => by cases hj⟩
 | d :: ds, vals, xs, hp, hd => by
  simp only [peeks] at hp
  split at hp
  ·rename_i x hx
   split at hp
   ·rename_i ys hy
    injection hp with hp; subst hp
    obtain ⟨q1, q2⟩ := peeks_sound h ds (fun j => vals (j + 1)) hy (fun j hj => hd (j + 1) (by simpa using hj))
    refine ⟨by simp [q1], fun j hj => ?_⟩
    cases j with
    | zero => exact peek1_sound h (hd 0 (by simp)) hx
    | succ j => exact q2 j (by simpa using hj)
   ·cases hp
  ·cases hp
theorem peek_sound (h : Core cx ρ S L O w) {v : Value} (hd : VD ρ S w d v) {x : Pd} (hp : peek L O d = some x) : VP (SZ w) w x v := by
 unfold peek at hp
 split at hp
 ·rename_i n ds
  split at hp
  ·rename_i hl
   split at hp
   ·rename_i xs hx
    injection hp with hp; subst hp
    cases hd with
    | @agg _ _ vs h0 h1 h2 h3 =>
     obtain ⟨q1, q2⟩ := peeks_sound h ds (fun j => vs.getD j undef) hx (fun j hj => h3 j (by omega))
     exact .agg h1 h2 fun j hj => q2 j (by omega)
   ·cases hp
  ·cases hp
 ·exact peek1_sound h hd hp
theorem peekAll_sound (h : Core cx ρ S L O w) : ∀ (ds : List Dv) (vals : Nat → Value) {xs : List Pd}, peekAll L O ds = some xs → (∀ j, j < ds.length → VD ρ S w (ds.getD j ud) (vals j)) → xs.length = ds.length ∧ ∀ j, j < ds.length → VP (SZ w) w (xs.getD j .undef) (vals j)
 | [], vals, xs, hp, hd => by
  simp only [peekAll] at hp
  injection hp with hp; subst hp
  exact ⟨rfl, fun j hj => by cases hj⟩
 | d :: ds, vals, xs, hp, hd => by
  simp only [peekAll] at hp
  split at hp
  ·rename_i x hx
   split at hp
   ·rename_i ys hy
    injection hp with hp; subst hp
    obtain ⟨q1, q2⟩ := peekAll_sound h ds (fun j => vals (j + 1)) hy (fun j hj => hd (j + 1) (by simpa using hj))
    refine ⟨by simp [q1], fun j hj => ?_⟩
    cases j with
    | zero => exact peek_sound h (hd 0 (by simp)) hx
    | succ j => exact q2 j (by simpa using hj)
   ·cases hp
  ·cases hp
end
theorem castP_scal {t : TypeId} (ht : scalT P t = true) {x y : Pd} (h : castP P t x some = some y) : y = x ∧ scalPd x = true := by
 refine ⟨(castP_eq h).1, ?_⟩
 unfold scalT at ht
 unfold castP at h
 split at ht
 ·rename_i k hu
  rw [hu] at h
  obtain ⟨n, h1, h2⟩ := Option.bind_eq_some_iff.1 h
  rw [asInt_eq h1]; rfl
 ·rename_i hu
  rw [hu] at h
  obtain ⟨n, h1, h2⟩ := Option.bind_eq_some_iff.1 h
  rw [asBool_eq h1]; rfl
 ·rename_i hu
  rw [hu] at h
  obtain ⟨n, h1, h2⟩ := Option.bind_eq_some_iff.1 h
  rw [asStr_eq h1]; rfl
 ·cases ht
def scalD : Dv → Bool
 | .p x => scalPd x
 | _ => false
theorem VD.scal {ρ' : Nm → Rz} {S' : Nat → Nat → Prop} {w' : World} {v : Value} (hx : scalD d = true) (h : VD ρ S w d v) : VD ρ' S' w' d v := by
 cases h with
 | p h => exact .p (h.to0 (w' := w') hx).of0
 | _ => cases hx
theorem castRs_scal {r : List Dv} : ∀ (ts : List TypeId) (i : Nat) (acc ds : List Dv), ts.all (scalT P) = true → castRs P r some i ts acc = some ds → ∃ ys : List Dv, ds = acc ++ ys ∧ ∀ y ∈ ys, scalD y = true
 | [], i, acc, ds, _, h => by
  simp only [castRs] at h
  split at h
  ·injection h with h; subst h
   exact ⟨[], by simp, fun y q => by cases q⟩
  ·cases h
 | t :: ts, i, acc, ds, ht, h => by
  simp only [castRs] at h
  rw [castP_bind] at h
  obtain ⟨y, h1, h2⟩ := Option.bind_eq_some_iff.1 h
  rw [List.all_cons, Bool.and_eq_true] at ht
  obtain ⟨rfl, hs⟩ := castP_scal ht.1 h1
  obtain ⟨ys, q1, q2⟩ := castRs_scal ts (i + 1) _ ds ht.2 h2
  refine ⟨.p (pAt i r) :: ys, by rw [q1]; simp, fun y hy => ?_⟩
  rcases List.mem_cons.1 hy with q | q
  ·rw [q]; exact hs
  ·exact q2 y q
theorem retV_scal {ρ' : Nm → Rz} {S' : Nat → Nat → Prop} {w' : World} {ds : List Dv} (hs : ∀ y ∈ ds, scalD y = true) {v : Value} (h : VD ρ S w (retV ds) v) : VD ρ' S' w' (retV ds) v := by
 unfold retV at h ⊢
 split at h
 ·exact h.scal (hs _ (List.mem_singleton.2 rfl))
 ·cases h with
  | tup h1 h2 =>
   refine .tup h1 fun j hj => (h2 j hj).scal (hs _ ?_)
   rw [List.getD_eq_getElem?_getD, List.getElem?_eq_getElem hj]
   exact List.getElem_mem _
def cellRen (os : List Ob) (b : Nat) (d d' : Dv) : Prop := (scalD d = true ∧ d' = d) ∨ ∃ c, d = .arr (.out c) ∧ d' = .arr (.loc (b + c)) ∧ c < os.length
theorem asRow_eq {e s : Nat} {o : Ob} {es : List (List Pd)} (h : asRow P e s o = some es) : o = rowOb P e s es ∧ (rowful P e = true ∨ okEs es = true) := by
 unfold asRow at h
 unfold rowOb
 split at h
 ·rename_i hr
  rw [if_pos hr]
  exact ⟨asOarr_eq h, .inl hr⟩
 ·rename_i hr
  rw [if_neg hr]
  split at h
  ·rename_i es' he
   split at h
   ·rename_i ho
    injection h with h; subst h
    exact ⟨asArr_eq he, .inr ho⟩
   ·cases h
  ·cases h
theorem own_walk {os : List Ob} {b : Nat} : ∀ (rs : List (Option (Nat × Nat))) (ts : List TypeId) (l : List Dv) (c : Nat) (xs : List Pd) (rows : List (List (List Pd))) (pre : List Pd) (preR : List (List (List Pd))) (acc ds : List Dv) (aos os2 : List Ob),
 takeOwn P os c rs l = some (xs, rows) → ts.length = rs.length → preR.length = c → nameOwn P b (pre ++ xs) (preR ++ rows) (fun ds os => some (ds, os)) pre.length c (ts.zip rs) acc aos = some (ds, os2) →
 os.length = c + rows.length ∧ (∃ l2, ds = acc ++ l2 ∧ l2.length = l.length ∧ ∀ j, j < l.length → cellRen os b (l.getD j ud) (l2.getD j ud)) ∧ os2 = aos ++ os.drop c ∧ ∀ c', c ≤ c' → c' < os.length → ∃ e s es, os.getD c' .none = rowOb P e s es ∧ (rowful P e = true ∨ okEs es = true)
 | [], ts, [], c, xs, rows, pre, preR, acc, ds, aos, os2, ht, hl, hp, hn => by
  simp only [takeOwn] at ht
  split at ht
  ·rename_i hlen
   injection ht with ht; injection ht with e1 e2; subst e1 e2
   have : ts = [] := List.eq_nil_of_length_eq_zero (by simpa using hl)
   subst this
   simp only [List.zip_nil_right, nameOwn] at hn
   injection hn with hn; injection hn with e1 e2; subst e1 e2
   exact ⟨by simpa using hlen, ⟨[], by simp, rfl, fun j hj => by cases hj⟩, by rw [List.drop_eq_nil_of_le (by omega), List.append_nil], fun c' h1 h2 => by omega⟩
  ·cases ht
 | none :: rs, t :: ts, .p x :: l, c, xs, rows, pre, preR, acc, ds, aos, os2, ht, hl, hp, hn => by
  simp only [takeOwn] at ht
  split at ht
  ·rename_i ys rows' ht'
   injection ht with ht; injection ht with e1 e2; subst e1 e2
   simp only [List.zip_cons_cons, nameOwn] at hn
   split at hn
   case isFalse => cases hn
   rename_i hst
   rw [castP_bind] at hn
   obtain ⟨y, h1, h2⟩ := Option.bind_eq_some_iff.1 hn
   obtain ⟨e1, hs⟩ := castP_scal hst h1
   have hx : (pre ++ x :: ys).getD pre.length .undef = x := by
    rw [List.getD_eq_getElem?_getD, List.getElem?_append_right (Nat.le_refl _), Nat.sub_self]; rfl
   rw [hx] at e1 hs
   subst e1
   have e3 : pre ++ y :: ys = (pre ++ [y]) ++ ys := by simp
   rw [e3, show pre.length + 1 = (pre ++ [y]).length by simp] at h2
   obtain ⟨q1, ⟨l2, q2, q3, q4⟩, q5, q6⟩ := own_walk rs ts l c ys rows' (pre ++ [y]) preR _ ds aos os2 ht' (by simpa using hl) hp h2
   refine ⟨q1, ⟨.p y :: l2, by rw [q2]; simp, by simp [q3], fun j hj => ?_⟩, q5, q6⟩
   cases j with
   | zero => exact .inl ⟨hs, rfl⟩
   | succ j => simpa using q4 j (by simpa using hj)
  ·cases ht
 | some (e, s) :: rs, t :: ts, .arr (.out c') :: l, c, xs, rows, pre, preR, acc, ds, aos, os2, ht, hl, hp, hn => by
  simp only [takeOwn] at ht
  split at ht
  ·rename_i hc
   split at ht
   ·rename_i es hes
    split at ht
    ·rename_i ys rows' ht'
     injection ht with ht; injection ht with e1 e2; subst e1 e2
     simp only [List.zip_cons_cons, nameOwn] at hn
     have hr : (preR ++ es :: rows').getD c [] = es := by
      rw [List.getD_eq_getElem?_getD, ← hp, List.getElem?_append_right (Nat.le_refl _), Nat.sub_self]; rfl
     rw [hr] at hn
     have e3 : pre ++ Pd.undef :: ys = (pre ++ [.undef]) ++ ys := by simp
     have e4 : preR ++ es :: rows' = (preR ++ [es]) ++ rows' := by simp
     rw [e3, e4, show pre.length + 1 = (pre ++ [Pd.undef]).length by simp] at hn
     obtain ⟨q1, ⟨l2, q2, q3, q4⟩, q5, q6⟩ := own_walk rs ts l (c + 1) ys rows' (pre ++ [.undef]) (preR ++ [es]) _ ds _ os2 ht' (by simpa using hl) (by simp [hp]) hn
     have hlt : c < os.length := by omega
     obtain ⟨r1, r2⟩ := asRow_eq hes
     have hd : os.drop c = os.getD c .none :: os.drop (c + 1) := by
      rw [List.drop_eq_getElem_cons hlt, List.getD_eq_getElem?_getD, List.getElem?_eq_getElem hlt]; rfl
     refine ⟨by simp only [List.length_cons]; omega, ⟨.arr (.loc (b + c)) :: l2, by rw [q2]; simp, by simp [q3], fun j hj => ?_⟩, by rw [q5, hd, r1]; simp, fun c2 h1 h2 => ?_⟩
     ·cases j with
      | zero => exact .inr ⟨c, by rw [← hc]; rfl, rfl, hlt⟩
      | succ j => simpa using q4 j (by simpa using hj)
     ·by_cases e : c2 = c
      ·subst e; exact ⟨e, s, es, r1, r2⟩
      ·exact q6 c2 (by omega) h2
    ·cases ht
   ·cases ht
  ·cases ht
 | none :: rs, [], _, c, xs, rows, pre, preR, acc, ds, aos, os2, ht, hl, hp, hn => by cases hl
 | some _ :: rs, [], _, c, xs, rows, pre, preR, acc, ds, aos, os2, ht, hl, hp, hn => by cases hl
 | [], _, _ :: _, c, xs, rows, pre, preR, acc, ds, aos, os2, ht, hl, hp, hn => by cases ht
 | none :: rs, _ :: _, [], c, xs, rows, pre, preR, acc, ds, aos, os2, ht, hl, hp, hn => by cases ht
 | some _ :: rs, _ :: _, [], c, xs, rows, pre, preR, acc, ds, aos, os2, ht, hl, hp, hn => by cases ht
 | none :: rs, _ :: _, .nilsl _ :: _, c, xs, rows, pre, preR, acc, ds, aos, os2, ht, hl, hp, hn => by cases ht
 | none :: rs, _ :: _, .ptr _ _ :: _, c, xs, rows, pre, preR, acc, ds, aos, os2, ht, hl, hp, hn => by cases ht
 | none :: rs, _ :: _, .arr _ :: _, c, xs, rows, pre, preR, acc, ds, aos, os2, ht, hl, hp, hn => by cases ht
 | none :: rs, _ :: _, .el .. :: _, c, xs, rows, pre, preR, acc, ds, aos, os2, ht, hl, hp, hn => by cases ht
 | none :: rs, _ :: _, .ro .. :: _, c, xs, rows, pre, preR, acc, ds, aos, os2, ht, hl, hp, hn => by cases ht
 | none :: rs, _ :: _, .agg .. :: _, c, xs, rows, pre, preR, acc, ds, aos, os2, ht, hl, hp, hn => by cases ht
 | none :: rs, _ :: _, .fn .. :: _, c, xs, rows, pre, preR, acc, ds, aos, os2, ht, hl, hp, hn => by cases ht
 | none :: rs, _ :: _, .tup _ :: _, c, xs, rows, pre, preR, acc, ds, aos, os2, ht, hl, hp, hn => by cases ht
 | none :: rs, _ :: _, .mp _ :: _, c, xs, rows, pre, preR, acc, ds, aos, os2, ht, hl, hp, hn => by cases ht
 | none :: rs, _ :: _, .sub .. :: _, c, xs, rows, pre, preR, acc, ds, aos, os2, ht, hl, hp, hn => by cases ht
 | some _ :: rs, _ :: _, .p _ :: _, c, xs, rows, pre, preR, acc, ds, aos, os2, ht, hl, hp, hn => by cases ht
 | some _ :: rs, _ :: _, .arr (.loc _) :: _, c, xs, rows, pre, preR, acc, ds, aos, os2, ht, hl, hp, hn => by cases ht
 | some _ :: rs, _ :: _, .nilsl _ :: _, c, xs, rows, pre, preR, acc, ds, aos, os2, ht, hl, hp, hn => by cases ht
 | some _ :: rs, _ :: _, .ptr _ _ :: _, c, xs, rows, pre, preR, acc, ds, aos, os2, ht, hl, hp, hn => by cases ht
 | some _ :: rs, _ :: _, .el .. :: _, c, xs, rows, pre, preR, acc, ds, aos, os2, ht, hl, hp, hn => by cases ht
 | some _ :: rs, _ :: _, .ro .. :: _, c, xs, rows, pre, preR, acc, ds, aos, os2, ht, hl, hp, hn => by cases ht
 | some _ :: rs, _ :: _, .agg .. :: _, c, xs, rows, pre, preR, acc, ds, aos, os2, ht, hl, hp, hn => by cases ht
 | some _ :: rs, _ :: _, .fn .. :: _, c, xs, rows, pre, preR, acc, ds, aos, os2, ht, hl, hp, hn => by cases ht
 | some _ :: rs, _ :: _, .tup _ :: _, c, xs, rows, pre, preR, acc, ds, aos, os2, ht, hl, hp, hn => by cases ht
 | some _ :: rs, _ :: _, .mp _ :: _, c, xs, rows, pre, preR, acc, ds, aos, os2, ht, hl, hp, hn => by cases ht
 | some _ :: rs, _ :: _, .sub .. :: _, c, xs, rows, pre, preR, acc, ds, aos, os2, ht, hl, hp, hn => by cases ht
theorem namesFrom_mem : ∀ (n b : Nat) (m : Nm), m ∈ namesFrom b n ↔ ∃ c, c < n ∧ m = .loc (b + c)
 | 0, b, m => by simp [namesFrom]
 | n + 1, b, m => by
  rw [namesFrom, List.mem_cons, namesFrom_mem n (b + 1) m]
  constructor
  ·rintro (q | ⟨c, h1, h2⟩)
   ·exact ⟨0, by omega, by rw [q]; rfl⟩
   ·exact ⟨c + 1, by omega, by rw [h2]; congr 1; omega⟩
  ·rintro ⟨c, h1, h2⟩
   cases c with
   | zero => left; rw [h2]; rfl
   | succ c => right; exact ⟨c, by omega, by rw [h2]; congr 1; omega⟩
theorem Core.import_ {L O os : List Ob} (hG : Core cx ρ S L O w) {w0 : World} {ρ0 ρ' : Nm → Rz} {S0 S' : Nat → Nat → Prop} (hS : ∀ b o, S b o → b < w0.heap.size) (hw0 : cx.w0.heap.size ≤ w0.heap.size)
 (hold : ∀ m b, getOb L O m ≠ .none → ((ρ m).blk = some b ∨ (isO (getOb L O m) = true ∧ (ρ m).fp b)) → b < w0.heap.size)
 (hc : Core (cx0 w0 S0 ρ0 []) ρ' S' [] os w) (hrow : ∀ c, c < os.length → ∃ e s es, os.getD c .none = rowOb P e s es ∧ (rowful P e = true ∨ okEs es = true)) :
 Core cx (fun m => match m with | .loc i => if L.length ≤ i ∧ i < L.length + os.length then ρ' (.out (i - L.length)) else ρ m | .out i => ρ m) S
  (L.map (scrubObAll (namesFrom L.length os.length)) ++ os) (O.map (scrubObAll (namesFrom L.length os.length))) w := by
 have hF : ∀ b, ¬ (cx0 w0 S0 ρ0 []).F b := by
  rintro b ⟨m, q1, q2⟩
  cases m <;> simp [getOb] at q1
 have hsplit : ∀ m, (m ∉ namesFrom L.length os.length ∧ getOb (L.map (scrubObAll (namesFrom L.length os.length)) ++ os) (O.map (scrubObAll (namesFrom L.length os.length))) m = scrubObAll (namesFrom L.length os.length) (getOb L O m) ∧
  (match m with | .loc i => if L.length ≤ i ∧ i < L.length + os.length then ρ' (.out (i - L.length)) else ρ m | .out i => ρ m) = ρ m) ∨
  ∃ c, c < os.length ∧ m = .loc (L.length + c) ∧ getOb (L.map (scrubObAll (namesFrom L.length os.length)) ++ os) (O.map (scrubObAll (namesFrom L.length os.length))) m = os.getD c .none ∧
   (match m with | .loc i => if L.length ≤ i ∧ i < L.length + os.length then ρ' (.out (i - L.length)) else ρ m | .out i => ρ m) = ρ' (.out c) := by
  intro m
  cases m with
  | out i =>
   left
   refine ⟨fun q => ?_, ?_, rfl⟩
   ·obtain ⟨c, _, q⟩ := (namesFrom_mem _ _ _).1 q
    cases q
   ·have := getOb_map L O (scrubObAll_none (namesFrom L.length os.length)) (.out i)
    exact this
  | loc i =>
   by_cases hi : L.length ≤ i ∧ i < L.length + os.length
   ·right
    refine ⟨i - L.length, by omega, by congr 1; omega, ?_, if_pos hi⟩
    show (L.map _ ++ os).getD i .none = _
    rw [List.getD_eq_getElem?_getD, List.getElem?_append_right (by rw [List.length_map]; exact hi.1), List.length_map, ← List.getD_eq_getElem?_getD]
   ·left
    refine ⟨fun q => ?_, ?_, if_neg hi⟩
    ·obtain ⟨c, h1, q⟩ := (namesFrom_mem _ _ _).1 q
     injection q with q
     omega
    ·have := getOb_map L O (scrubObAll_none (namesFrom L.length os.length)) (.loc i)
     refine Eq.trans ?_ this
     show (L.map _ ++ os).getD i .none = (L.map _).getD i .none
     rcases Nat.lt_or_ge i L.length with h1 | h1
     ·simp only [List.getD_eq_getElem?_getD]
      rw [List.getElem?_append_left (by rw [List.length_map]; exact h1)]
     ·rw [getD_ge (by rw [List.length_append, List.length_map]; omega), getD_ge (by rw [List.length_map]; exact h1)]
 have hρ : ∀ m, m ∉ namesFrom L.length os.length → (match m with | .loc i => if L.length ≤ i ∧ i < L.length + os.length then ρ' (.out (i - L.length)) else ρ m | .out i => ρ m) = ρ m := by
  intro m hm
  rcases hsplit m with ⟨_, _, q⟩ | ⟨c, h1, h2, _⟩
  ·exact q
  ·exact absurd ((namesFrom_mem _ _ _).2 ⟨c, h1, h2⟩) hm
 have hnew : ∀ c b, c < os.length → ((ρ' (.out c)).blk = some b ∨ (isO (os.getD c .none) = true ∧ (ρ' (.out c)).fp b)) → w0.heap.size ≤ b ∧ b < w.heap.size := by
  intro c b hcl q
  have hl : getOb [] os (.out c) ≠ .none := by
   obtain ⟨e, s, es, q, _⟩ := hrow c hcl
   show os.getD c .none ≠ .none
   rw [q]
   unfold rowOb
   split <;> exact fun q => by cases q
  rcases q with q | ⟨q1, q2⟩
  ·obtain ⟨p1, p2⟩ := hc.own _ b hl q
   exact ⟨p2.resolve_right (hF b), p1⟩
  ·obtain ⟨p1, p2, _⟩ := hc.fp (.out c) b q1 q2
   exact ⟨p2.resolve_right (hF b), p1⟩
 have hlo : ∀ c, c < os.length → getOb [] os (.out c) ≠ .none := by
  intro c hcl
  obtain ⟨e, s, es, q, _⟩ := hrow c hcl
  show os.getD c .none ≠ .none
  rw [q]
  unfold rowOb
  split <;> exact fun q => by cases q
 have hno : ∀ m, scrubObAll (namesFrom L.length os.length) (getOb L O m) ≠ .none → getOb L O m ≠ .none := fun m q q' => q (by rw [q', scrubObAll_none])
 refine ⟨fun m => ?_, fun m1 m2 b hl1 hl2 q1 q2 => ?_, fun m b o hl q hb => ?_, fun m b hl q => ?_, hG.sb, hG.s0, hG.sn, hG.fr, hG.sk, hG.ws, hG.os, hG.tape, hG.output, fun i z q => ?_, fun m k ho q => ?_, fun m1 m2 k ho hl2 e q => ?_⟩
 ·rcases hsplit m with ⟨h1, h2, h3⟩ | ⟨c, h0, h1, h2, h3⟩
  ·rw [h2, h3]
   exact ObRel.scrubAll_ (ρ := ρ) _ hρ (hG.ob m)
  ·rw [h2, h3]
   obtain ⟨e, s, es, q, hor⟩ := hrow c h0
   have hob := hc.ob (.out c)
   have e1 : getOb [] os (.out c) = os.getD c .none := rfl
   rw [e1, q] at hob
   rw [q]
   unfold rowOb at hob ⊢
   split
   ·rename_i hr
    rw [if_pos hr] at hob
    exact hob
   ·rename_i hr
    rw [if_neg hr] at hob
    obtain ⟨xs, r1, r2, r3, r4, r5⟩ := hob
    have hok : okEs es = true := by rcases hor with hor | hor; exact absurd hor hr; exact hor
    exact ⟨xs, r1, r2, r3, r4, fun i j hi hj => ((r5 i j hi hj).to0 (w' := w) (okEs_getD hok i j)).of0⟩
 ·rcases hsplit m1 with ⟨h1, h2, h3⟩ | ⟨c, h0, h1, h2, h3⟩ <;> rcases hsplit m2 with ⟨k1, k2, k3⟩ | ⟨c2, k0, k1, k2, k3⟩ <;> rw [h3] at q1 <;> rw [k3] at q2 <;> rw [h2] at hl1 <;> rw [k2] at hl2
  ·exact hG.ne m1 m2 b (hno _ hl1) (hno _ hl2) q1 q2
  ·have := hold m1 b (hno _ hl1) (.inl q1)
   have := (hnew c2 b k0 (.inl q2)).1
   omega
  ·have := hold m2 b (hno _ hl2) (.inl q2)
   have := (hnew c b h0 (.inl q1)).1
   omega
  ·have := hc.ne (.out c) (.out c2) b hl1 hl2 q1 q2
   injection this with this
   rw [h1, k1, this]
 ·rcases hsplit m with ⟨h1, h2, h3⟩ | ⟨c, h0, h1, h2, h3⟩ <;> rw [h3] at q <;> rw [h2] at hl ⊢
  ·obtain ⟨e, s, bb, es, p1, p2⟩ := hG.ss m b o (hno _ hl) q hb
   exact ⟨e, s, bb, es, scrubObAll_arr _ p1, p2⟩
  ·have := (hnew c b h0 (.inl q)).1
   have := hS b o hb
   omega
 ·rcases hsplit m with ⟨h1, h2, h3⟩ | ⟨c, h0, h1, h2, h3⟩ <;> rw [h3] at q <;> rw [h2] at hl
  ·exact hG.own m b (hno _ hl) q
  ·have := hnew c b h0 (.inl q)
   exact ⟨this.2, .inl (by omega)⟩
 ·obtain ⟨q1, q2⟩ := hG.bx i z q
  rcases hsplit (.out i) with ⟨h1, h2, h3⟩ | ⟨c, h0, h1, h2, h3⟩
  ·rw [h2, scrubObAll_isArr]
   exact ⟨q1, q2⟩
  ·cases h1
 ·rcases hsplit m with ⟨h1, h2, h3⟩ | ⟨c, h0, h1, h2, h3⟩ <;> rw [h3] at q <;> rw [h2] at ho
  ·rw [scrubObAll_isO] at ho
   exact hG.fp m k ho q
  ·have := hnew c k h0 (.inr ⟨ho, q⟩)
   exact ⟨this.2, .inl (by omega), fun o hb => by have := hS k o hb; omega⟩
 ·rcases hsplit m1 with ⟨h1, h2, h3⟩ | ⟨c, h0, h1, h2, h3⟩ <;> rcases hsplit m2 with ⟨k1, k2, k3⟩ | ⟨c2, k0, k1, k2, k3⟩ <;> rw [h3] at q <;> rw [h2] at ho <;> rw [k2] at hl2 ⊢ <;> rw [k3]
  ·rw [scrubObAll_isO] at ho ⊢
   exact hG.fd m1 m2 k ho (hno _ hl2) e q
  ·rw [scrubObAll_isO] at ho
   have := hold m1 k (fun q' => by rw [q'] at ho; cases ho) (.inr ⟨ho, q⟩)
   exact ⟨fun q2 => by have := (hnew c2 k k0 (.inl q2)).1; omega, fun ho2 q2 => by have := (hnew c2 k k0 (.inr ⟨ho2, q2⟩)).1; omega⟩
  ·have hk := (hnew c k h0 (.inr ⟨ho, q⟩)).1
   rw [scrubObAll_isO]
   exact ⟨fun q2 => by have := hold m2 k (hno _ hl2) (.inl q2); omega, fun ho2 q2 => by have := hold m2 k (hno _ hl2) (.inr ⟨ho2, q2⟩); omega⟩
  ·exact hc.fd (.out c) (.out c2) k ho hl2 (fun e' => by injection e' with e'; exact e (by rw [h1, k1, e'])) q
def dvRen (os : List Ob) (b : Nat) (d d' : Dv) : Prop := cellRen os b d d' ∨ ∃ n cs cs', d = .agg n cs ∧ d' = .agg n cs' ∧ cs'.length = cs.length ∧ ∀ j, j < cs.length → cellRen os b (cs.getD j ud) (cs'.getD j ud)
theorem regroup_ren {os : List Ob} {b : Nat} : ∀ (ts : List TypeId) (ds l l2 : List Dv), flatRs P ts ds = some l → l2.length = l.length → (∀ j, j < l.length → cellRen os b (l.getD j ud) (l2.getD j ud)) →
 (regroup P ts l2).length = ds.length ∧ ∀ j, j < ds.length → dvRen os b (ds.getD j ud) ((regroup P ts l2).getD j ud)
 | [], [], l, l2, h, hl, hr => ⟨rfl, fun j hj => by cases hj⟩
 | [], _ :: _, l, l2, h, hl, hr => by cases h
 | _ :: _, [], l, l2, h, hl, hr => by cases h
 | t :: ts, d :: ds, l, l2, h, hl, hr => by
  simp only [flatRs] at h
  split at h
  ·rename_i ha
   split at h
   ·rename_i n cs
    split at h
    ·rename_i hn
     obtain ⟨rfl, hn2⟩ := hn
     split at h
     ·rename_i l' hl'
      injection h with h; subst h
      rw [List.length_append] at hl
      obtain ⟨q1, q2⟩ := regroup_ren ts ds l' (l2.drop (P.cellsOf t)) hl' (by rw [List.length_drop]; omega) (fun j hj => by
       have := hr (P.cellsOf t + j) (by rw [List.length_append]; omega)
       rw [List.getD_eq_getElem?_getD (l := cs ++ l'), List.getElem?_append_right (by omega), show P.cellsOf t + j - cs.length = j by omega, ← List.getD_eq_getElem?_getD] at this
       rw [List.getD_eq_getElem?_getD (l := l2.drop _), List.getElem?_drop, ← List.getD_eq_getElem?_getD]
       exact this)
      simp only [regroup, if_pos ha]
      refine ⟨by simp [q1], fun j hj => ?_⟩
      cases j with
      | zero =>
       refine .inr ⟨_, cs, l2.take (P.cellsOf t), rfl, rfl, by rw [List.length_take]; omega, fun j hj => ?_⟩
       have := hr j (by rw [List.length_append]; omega)
       rw [List.getD_eq_getElem?_getD (l := cs ++ l'), List.getElem?_append_left hj, ← List.getD_eq_getElem?_getD] at this
       rw [List.getD_eq_getElem?_getD (l := l2.take _), List.getElem?_take, if_pos (by omega), ← List.getD_eq_getElem?_getD]
       exact this
      | succ j => simpa using q2 j (by simpa using hj)
     ·cases h
    ·cases h
   ·cases h
  ·rename_i ha
   split at h
   ·rename_i l' hl'
    injection h with h; subst h
    rw [List.length_cons] at hl
    cases l2 with
    | nil => cases hl
    | cons x l2 =>
     obtain ⟨q1, q2⟩ := regroup_ren ts ds l' l2 hl' (by simpa using hl) (fun j hj => by simpa using hr (j + 1) (by simpa using hj))
     simp only [regroup, if_neg ha, List.headD_cons, List.drop_succ_cons, List.drop_zero]
     refine ⟨by simp [q1], fun j hj => ?_⟩
     cases j with
     | zero => exact .inl (hr 0 (by simp))
     | succ j => simpa using q2 j (by simpa using hj)
   ·cases h
section
variable {os : List Ob} {b : Nat} {ρ' : Nm → Rz} {S' : Nat → Nat → Prop} {w' : World}
theorem cellRen.vd (hr : ∀ c, c < os.length → ρ' (.loc (b + c)) = ρ (.out c)) {d d' : Dv} (hd : cellRen os b d d') {v : Value} (h : VD ρ S w d v) : VD ρ' S' w d' v := by
 rcases hd with ⟨h1, rfl⟩ | ⟨c, rfl, rfl, hc⟩
 ·exact h.scal h1
 ·cases h with
  | arr h =>
   rw [← hr c hc] at h ⊢
   exact .arr h
theorem dvRen.vd (hr : ∀ c, c < os.length → ρ' (.loc (b + c)) = ρ (.out c)) {d d' : Dv} (hd : dvRen os b d d') {v : Value} (h : VD ρ S w d v) : VD ρ' S' w d' v := by
 rcases hd with hd | ⟨n, cs, cs', rfl, rfl, hl, hd⟩
 ·exact hd.vd hr h
 ·cases h with
  | agg h0 h1 h2 h3 =>
   refine .agg (by omega) h1 h2 fun j hj => ?_
   by_cases hlt : j < cs.length
   ·exact (hd j hlt).vd hr (h3 j hj)
   ·rw [getD_ge (l := cs') (by omega)]; exact .un
theorem retV_ren (hr : ∀ c, c < os.length → ρ' (.loc (b + c)) = ρ (.out c)) {ds ds' : List Dv} (hl : ds'.length = ds.length) (hd : ∀ j, j < ds.length → dvRen os b (ds.getD j ud) (ds'.getD j ud)) {v : Value} (h : VD ρ S w (retV ds) v) : VD ρ' S' w (retV ds') v := by
 match ds, ds', hl with
 | [d], [d'], _ => exact (hd 0 (by simp)).vd hr h
 | [], [], _ =>
  cases h with
  | tup h1 h2 => exact .tup h1 fun j hj => by cases hj
 | d :: e :: ds, d' :: e' :: ds', hl =>
  have h : VD ρ S w (.tup (d :: e :: ds)) v := h
  cases h with
  | tup h1 h2 =>
   show VD ρ' S' w (.tup (d' :: e' :: ds')) _
   exact .tup (h1.trans hl.symm) fun j hj => (hd j (by omega)).vd hr (h2 j (by omega))
end
theorem callB_sound {rts : List TypeId} {call : CallF} {κ : Kp} (hcall : CallOK P κ call) (hk : Kx κ cx) (h : Rel cx ρ S st a w) {f : FuncId} {args : List Dv} {vs : Array Value} (hlen : vs.size = args.length) (hargs : ∀ j, j < args.length → VD ρ S w (args.getD j ud) (vs.getD j undef))
 (hrun : (execOp a.eval o).run P w = .ok (.enter f vs) w) {as : List Pd} (hpk : peekAll st.L st.O args = some as) (hsc : rts.all (scalT P) = true ∨ Cfg.own f = true) {q : Dv × St} (hd : callB P rts call st f as pr = some q) : StepOK P cx o a w q.1 q.2 := by
 obtain ⟨a1, a2⟩ := peekAll_sound h.core args (fun j => vs.getD j undef) hpk hargs
 have hkz : KOK κ w (SZ w) := by
  obtain ⟨k1, k2⟩ := hk.at h.core
  exact ⟨k1, fun b hb => ⟨(k2 b hb).1, fun _ => (k2 b hb).1⟩⟩
 have hF : ∀ b, ¬ (cx0 w (SZ w) ρ []).F b := by
  rintro b ⟨m, q1, q2⟩
  cases m <;> simp [getOb] at q1
 have go : ∀ r, call f (as.map .p) [] = some r → Calls P f vs w fun e w' => ∃ v ρ' S', e = .returned v ∧ Core (cx0 w (SZ w) ρ []) ρ' S' [] r.2 w' ∧ VD ρ' S' w' (retV r.1) v := by
  intro r hr
  refine hcall f (as.map .p) [] r hr w ρ (SZ w) vs hkz (Core.base0 w ρ) (by rw [hlen, List.length_map, a1]) fun j hj => ?_
  rw [List.length_map] at hj
  rw [getD_map_p]
  exact .p (a2 j (by omega))
 have grown : ∀ {ρ' : Nm → Rz} {S' : Nat → Nat → Prop} {os : List Ob} {w' : World}, Core (cx0 w (SZ w) ρ []) ρ' S' [] os w' → Core cx ρ S st.L st.O w' := by
  intro ρ' S' os w' c1
  exact h.core.grow (fun b hb => c1.fr b hb (hF b)) c1.ws c1.os c1.tape c1.output
 unfold callB at hd
 by_cases ho : Cfg.own f = true
 ·rw [if_pos ho] at hd
  split at hd
  ·cases hd
  rename_i hlz
  have hlz : (rts.flatMap (cellTs P 8)).length = (rowsOfTs P rts).length := Classical.byContradiction hlz
  obtain ⟨r, hr, hd⟩ := Option.bind_eq_some_iff.1 hd
  obtain ⟨⟨xs, rows⟩, hq, hd⟩ := Option.bind_eq_some_iff.1 hd
  rw [nameOwn_bind] at hd
  obtain ⟨⟨ds, os⟩, hn, hd⟩ := Option.bind_eq_some_iff.1 hd
  injection hd with hd; subst hd
  unfold asOwn at hq
  split at hq
  case h_2 => cases hq
  rename_i l hfl
  obtain ⟨q1, ⟨l2, q2, q3, q4⟩, q5, q6⟩ := own_walk (b := st.L.length) (rowsOfTs P rts) (rts.flatMap (cellTs P 8)) l 0 xs rows [] [] [] ds [] os hq hlz rfl hn
  simp only [List.nil_append, List.drop_zero] at q2 q5
  subst q2 q5
  refine .inr ⟨f, vs, w, hrun, (go r hr).mono ?_⟩
  rintro e w' ⟨v, ρ', S', rfl, c1, c2⟩
  obtain ⟨g1, g2⟩ := regroup_ren rts r.1 l ds hfl q3 q4
  have hold : ∀ m b, getOb st.L st.O m ≠ .none → ((ρ m).blk = some b ∨ (isO (getOb st.L st.O m) = true ∧ (ρ m).fp b)) → b < w.heap.size := by
   rintro m b hl (q | ⟨q, q'⟩)
   ·exact (h.core.own m b hl q).1
   ·exact (h.core.fp m b q q').1
  have himp := (grown c1).import_ h.core.sb h.core.ws hold c1 (fun c hc => q6 c (Nat.zero_le _) hc)
  refine ⟨v, _, S, rfl, ⟨himp, ?_, h.df, fun t => ?_⟩, ?_⟩
  ·show a.tmps.size = (st.T.map _).length
   exact h.nt
  ·show VD _ _ _ ((st.T.map _).getD t ud) _
   rw [Tm.getD_map (scrubAll_ud _)]
   refine VD.scrubAll_ (ρ := ρ) _ (fun m hm => ?_) ((h.tm t).keep (fun _ => rfl) (fun _ _ q => q) (fun b o q => cell_heap (c1.fr b (h.core.sb b o q) (hF b))))
   cases m with
   | out i => rfl
   | loc i =>
    refine if_neg fun hi => hm ((namesFrom_mem _ _ _).2 ⟨i - st.L.length, ?_, by congr 1; omega⟩)
    show i - st.L.length < r.2.length
    omega
  ·refine retV_ren (os := r.2) (b := st.L.length) (ρ := ρ') (fun c hc => ?_) g1 g2 c2
   show (if _ then _ else _) = _
   rw [if_pos (by omega)]
   congr 2
   omega
 ·rw [if_neg ho] at hd
  obtain ⟨r, hr, hd⟩ := Option.bind_eq_some_iff.1 hd
  rw [castRs_bind] at hd
  obtain ⟨ds, hd1, hd⟩ := Option.bind_eq_some_iff.1 hd
  obtain ⟨ys, e1, e2⟩ := castRs_scal rts 0 [] ds (hsc.resolve_right ho) hd1
  obtain ⟨rfl, hp⟩ := castRs_all hd1
  simp only [List.nil_append] at e1
  injection hd with hd; subst hd
  refine .inr ⟨f, vs, w, hrun, (go r hr).mono ?_⟩
  rintro e w' ⟨v, ρ', S', rfl, c1, c2⟩
  exact ⟨v, ρ, S, rfl, ⟨grown c1, h.nt, h.df, fun t => (h.tm t).keep (fun _ => rfl) (fun _ _ q => q) (fun b o q => cell_heap (c1.fr b (h.core.sb b o q) (hF b)))⟩, retV_scal (by rw [e1]; exact e2) c2⟩
theorem VD.fpchg {ρ' : Nm → Rz} (hr : ∀ m, (ρ' m).blk = (ρ m).blk ∧ (ρ' m).tip = (ρ m).tip ∧ (ρ' m).cl = (ρ m).cl) {v : Value} (h : VD ρ S w d v) : VD ρ' S w d v := by
 induction h with
 | p h => exact .p h
 | nilsl => exact .nilsl
 | ptr h => exact .ptr (by rw [(hr _).1]; exact h)
 | @arr m h => rw [← (hr m).2.1] at h ⊢; exact .arr h
 | el h => exact .el (by rw [(hr _).1]; exact h)
 | mp h => exact .mp (by rw [(hr _).1]; exact h)
 | @sub m j s off e s' h => rw [← (hr m).2.2] at h ⊢; exact .sub h
 | ro vals h1 h2 h3 => exact .ro vals h1 h2 h3
 | agg h0 h1 h2 _ ih => exact .agg h0 h1 h2 ih
 | fn h1 _ ih => exact .fn h1 ih
 | tup h1 _ ih => exact .tup h1 ih
theorem ObRel.fpchg {ρ' : Nm → Rz} (hr : ∀ m, (ρ' m).blk = (ρ m).blk ∧ (ρ' m).tip = (ρ m).tip ∧ (ρ' m).cl = (ρ m).cl) {o : Ob} {z : Rz} (h : ObRel ρ S w o z) : ObRel ρ' S w o z := by
 cases o with
 | mbox n ds =>
  obtain ⟨b, vs, ty, h1, h2, h3, h4, h5⟩ := h
  exact ⟨b, vs, ty, h1, h2, h3, h4, fun j hj => (h5 j hj).fpchg hr⟩
 | marr e s es lk =>
  obtain ⟨h1, h2, h3, h4⟩ := h
  exact ⟨h1, h2, h3, fun j off n q => ⟨(h4 j off n q).1, (h4 j off n q).2.1, fun b hb => by rw [(hr n).2.1]; exact (h4 j off n q).2.2 b hb⟩⟩
 | gmap e s es lk =>
  obtain ⟨b, ents, clock, f, h1, h2, h3, h4, h5, h6, h7⟩ := h
  exact ⟨b, ents, clock, f, h1, h2, h3, h4, h5, h6, fun j n q en hen => by rw [(hr n).2.1]; exact h7 j n q en hen⟩
 | _ => exact h
theorem Core.upgrade {L O : List Ob} (h : Core cx ρ S L O w) {m : Nm} {e s b : Nat} {es : List (List Pd)} (hm : getOb L O m = .arr e s b false es) (hok : okEs es = true) :
 ∃ ρ' : Nm → Rz, (∀ n, (ρ' n).blk = (ρ n).blk ∧ (ρ' n).tip = (ρ n).tip ∧ (ρ' n).cl = (ρ n).cl) ∧ Core cx ρ' S (setL L m (.oarr e s es)) (setO O m (.oarr e s es)) w := by
 have hl : getOb L O m ≠ .none := by rw [hm]; exact fun q => by cases q
 have hself := getOb_self L O hl (.oarr e s es)
 have hne : ∀ m', m' ≠ m → getOb (setL L m (.oarr e s es)) (setO O m (.oarr e s es)) m' = getOb L O m' := fun m' q => getOb_ne L O q _
 let ρ' : Nm → Rz := fun n => if n = m then ⟨(ρ m).blk, (ρ m).tip, fun k => (ρ m).blk = some k, (ρ m).cl⟩ else ρ n
 have hr : ∀ n, (ρ' n).blk = (ρ n).blk ∧ (ρ' n).tip = (ρ n).tip ∧ (ρ' n).cl = (ρ n).cl := by
  intro n
  by_cases e : n = m
  ·subst e
   rw [show ρ' n = ⟨(ρ n).blk, (ρ n).tip, fun k => (ρ n).blk = some k, (ρ n).cl⟩ from if_pos rfl]
   exact ⟨rfl, rfl, rfl⟩
  ·rw [show ρ' n = ρ n from if_neg e]
   exact ⟨rfl, rfl, rfl⟩
 have hm' : ρ' m = ⟨(ρ m).blk, (ρ m).tip, fun k => (ρ m).blk = some k, (ρ m).cl⟩ := if_pos rfl
 have ho : ∀ n, n ≠ m → ρ' n = ρ n := fun n q => if_neg q
 have hlive : ∀ m', getOb (setL L m (.oarr e s es)) (setO O m (.oarr e s es)) m' ≠ .none → getOb L O m' ≠ .none := by
  intro m' q
  by_cases e : m' = m
  ·rw [e]; exact hl
  ·rwa [hne m' e] at q
 have hown : ∀ k, (ρ m).blk = some k → OwnAt L O ρ m k := fun k q => .inr ⟨_, _, _, _, hm, q⟩
 refine ⟨ρ', hr, fun m' => ?_, fun m1 m2 g q1 q2 q3 q4 => h.ne m1 m2 g (hlive _ q1) (hlive _ q2) ((hr m1).1 ▸ q3) ((hr m2).1 ▸ q4), fun m' g o q1 q2 q3 => ?_, fun m' g q1 q2 => h.own m' g (hlive _ q1) ((hr m').1 ▸ q2), h.sb, h.s0, h.sn, h.fr, h.sk, h.ws, h.os, h.tape, h.output, fun i z q => ?_, fun m' k q1 q2 => ?_, fun m1 m2 k q1 q2 q3 q4 => ?_⟩
 ·by_cases e1 : m' = m
  ·rw [e1, hself, hm']
   have hob := h.ob m
   rw [hm] at hob
   obtain ⟨xs, h1, h2, h3, h4, h5⟩ := hob
   obtain ⟨a0, cap, ev, _⟩ := own_cells h1
   exact ⟨h2, by show (ρ m).tip.oneCell' = true; rw [ev]; rfl, .ow xs (fun _ => 0) h3 h1 (fun g q => h2.trans q) h4 fun i j hi hj => .p ((h5 i j hi hj).to0 (okEs_getD hok i j)), fun i j g hi hj q _ => by
    have := (h5 i j hi hj).isOwP
    rw [this] at q; cases q⟩
  ·rw [hne m' e1, ho m' e1]
   exact (h.ob m').fpchg hr
 ·rw [(hr m').1] at q2
  obtain ⟨e', s', bb, es', p1, p2⟩ := h.ss m' g o (hlive _ q1) q2 q3
  by_cases e1 : m' = m
  ·rw [e1, hm] at p1; cases p1
  ·exact ⟨e', s', bb, es', by rw [hne m' e1]; exact p1, p2⟩
 ·obtain ⟨p1, p2⟩ := h.bx i z q
  by_cases e1 : Nm.out i = m
  ·rw [e1, hm] at p2; cases p2
  ·rw [ho _ e1, hne _ e1]; exact ⟨p1, p2⟩
 ·by_cases e1 : m' = m
  ·rw [e1, hm'] at q2
   exact (h.ownAt (hown k q2)).1
  ·rw [hne m' e1] at q1
   rw [ho m' e1] at q2
   exact h.fp m' k q1 q2
 ·by_cases e1 : m1 = m
  ·rw [e1, hm'] at q4
   have e2 : m2 ≠ m := fun q => q3 (q.trans e1.symm)
   rw [ho m2 e2, hne m2 e2]
   rw [hne m2 e2] at q2
   exact (h.ownAt (hown k q4)).2 m2 q2 e2
  ·rw [hne m1 e1] at q1
   rw [ho m1 e1] at q4
   by_cases e2 : m2 = m
   ·rw [e2, hm']
    have := (h.fd m1 m k q1 hl (fun q => e1 q.symm) q4).1
    exact ⟨this, fun _ => this⟩
   ·rw [ho m2 e2, hne m2 e2]
    rw [hne m2 e2] at q2
    exact h.fd m1 m2 k q1 q2 q3 q4
theorem upgD_sound : ∀ (rs : List Root) {ρ : Nm → Rz} {st st' : St}, Rel cx ρ S st a w → upgD st some rs = some st' → ∃ ρ' : Nm → Rz, (∀ n, (ρ' n).blk = (ρ n).blk ∧ (ρ' n).tip = (ρ n).tip ∧ (ρ' n).cl = (ρ n).cl) ∧ Rel cx ρ' S st' a w
 | [], ρ, st, st', h, hu => by
  simp only [upgD] at hu
  injection hu with hu; subst hu
  exact ⟨ρ, fun n => ⟨rfl, rfl, rfl⟩, h⟩
 | r :: rs, ρ, st, st', h, hu => by
  simp only [upgD] at hu
  rw [upgD_bind] at hu
  obtain ⟨st1, h1, hu⟩ := Option.bind_eq_some_iff.1 hu
  obtain ⟨ρ1, r1, g1⟩ := upgD_sound rs h h1
  split at hu
  ·injection hu with hu; subst hu
   exact ⟨ρ1, r1, g1⟩
  ·split at hu
   ·rename_i e s b es hm
    split at hu
    ·rename_i hok
     injection hu with hu; subst hu
     obtain ⟨ρ2, r2, g2⟩ := g1.core.upgrade hm hok
     exact ⟨ρ2, fun n => ⟨(r2 n).1.trans (r1 n).1, (r2 n).2.1.trans (r1 n).2.1, (r2 n).2.2.trans (r1 n).2.2⟩, g2, g1.nt, g1.df, fun t => (g1.tm t).fpchg r2⟩
    ·cases hu
   ·injection hu with hu; subst hu
    exact ⟨ρ1, r1, g1⟩
structure RootOK (ρ : Nm → Rz) (L O : List Ob) (w : World) (r : Root) (es : List (List Pd)) (z : Rz) : Prop where
 isO : Dm.isO (getOb L O r.m) = true
 ob : z.blk = z.tip.ownBlock ∧ z.tip.oneCell' = true ∧ VO N0 w z.fp (.ow r.e r.s es) z.tip ∧ ∀ i j b, i < es.length → j < r.s → isOwP ((es.getD i []).getD j .undef) = true → z.blk = some b → w.cell? ⟨b, i * r.s + j, none⟩ = some (z.cl (i * r.s + j))
 sub : ∀ k, z.fp k → (ρ r.m).fp k
 val : z.tip = match r.sub with | none => (ρ r.m).tip | some (j, s0, off) => (ρ r.m).cl (j * s0 + off)
 back : ∀ (w' : World) (es' : List (List Pd)), (∀ k, (ρ r.m).fp k → ¬ z.fp k → w'.heap[k]? = w.heap[k]?) → (z.blk = z.tip.ownBlock ∧ z.tip.oneCell' = true ∧ VO N0 w' z.fp (.ow r.e r.s es') z.tip ∧ ∀ i j b, i < es'.length → j < r.s → isOwP ((es'.getD i []).getD j .undef) = true → z.blk = some b → w'.cell? ⟨b, i * r.s + j, none⟩ = some (z.cl (i * r.s + j))) →
  ∃ e s es0, getOb L O r.m = .oarr e s es0 ∧ ∃ es1, rowOb' r es' (getOb L O r.m) = .oarr e s es1 ∧ ((ρ r.m).blk = (ρ r.m).tip.ownBlock ∧ (ρ r.m).tip.oneCell' = true ∧ VO N0 w' (ρ r.m).fp (.ow e s es1) (ρ r.m).tip ∧ ∀ i j b, i < es1.length → j < s → isOwP ((es1.getD i []).getD j .undef) = true → (ρ r.m).blk = some b → w'.cell? ⟨b, i * s + j, none⟩ = some ((ρ r.m).cl (i * s + j)))
theorem rowAt_sound {L O : List Ob} (h : Core cx ρ S L O w) {r : Root} {es : List (List Pd)} (hr : rowAt L O r some = some es) : ∃ z, RootOK ρ L O w r es z := by
 unfold rowAt at hr
 split at hr
 case h_2 => cases hr
 rename_i e0 s0 es0 hm
 have hob := h.ob r.m
 rw [hm] at hob
 obtain ⟨o1, o2, o3, o4⟩ := hob
 split at hr
 ·rename_i hs
  split at hr
  ·rename_i hes
   obtain ⟨rfl, rfl⟩ := hes
   injection hr with hr; subst hr
   refine ⟨ρ r.m, by rw [hm]; rfl, ⟨o1, o2, o3, o4⟩, fun k q => q, by rw [hs], fun w' es' _ hz => ⟨_, _, _, hm, es', by rw [hm]; simp only [rowOb', hs], hz⟩⟩
  ·cases hr
 ·rename_i j s1 off hs
  split at hr
  ·rename_i hc
   obtain ⟨rfl, hj, hoff⟩ := hc
   obtain ⟨es', hcell, hr⟩ := Option.bind_eq_some_iff.1 hr
   injection hr with hr; subst hr
   have hcell : (es0.getD j []).getD off .undef = .ow r.e r.s es' := by
    generalize (es0.getD j []).getD off .undef = x at hcell
    unfold asOw at hcell
    split at hcell
    ·split at hcell
     ·rename_i q; obtain ⟨rfl, rfl⟩ := q; injection hcell with hcell; subst hcell; rfl
     ·cases hcell
    ·cases hcell
   cases o3 with
   | p o3 => cases o3
   | ow xs f g0 g1 g2 g3 g4 =>
   have hg4 := g4 j off hj hoff
   rw [hcell] at hg4
   have hidx := idx_lt hj hoff
   have hone : (xs.getD (j * s0 + off) undef).oneCell' = true := by
    refine g3 _ ?_
    rw [List.getD_eq_getElem?_getD, List.getElem?_eq_getElem (by rw [g1.1]; exact hidx)]
    exact List.getElem_mem _
   obtain ⟨a0, cap, ev, hcap, ha, hg⟩ := own_cells g1
   obtain ⟨g, hb⟩ : ∃ g, (ρ r.m).tip.ownBlock = some g := by
    cases a0 with
    | none => have := ha rfl; omega
    | some ad => exact ⟨ad.block, by rw [ev]; rfl⟩
   obtain ⟨hb1, hb2, hb3⟩ := hg g hb
   have hcl : (ρ r.m).cl (j * s0 + off) = xs.getD (j * s0 + off) undef := by
    have := o4 j off g hj hoff (by rw [hcell]; rfl) (o1.trans hb)
    rw [hb3 _ hidx] at this
    injection this with this
    exact this.symm
   cases hg4 with
   | p q => cases q
   | ow ys fy p0 p1 p2 p3 p4 =>
   refine ⟨⟨(xs.getD (j * s0 + off) undef).ownBlock, xs.getD (j * s0 + off) undef, fun k => (ρ r.m).fp k ∧ (ρ r.m).tip.ownBlock ≠ some k ∧ f k = j * s0 + off, fun pos => ys.getD pos undef⟩, by rw [hm]; rfl, ⟨rfl, hone, .ow ys fy p0 p1 p2 p3 p4, fun i k b hi hk _ hb' => ?_⟩, fun k q => q.1, by rw [hs]; exact hcl.symm, fun w' es'' hk hz => ?_⟩
   ·obtain ⟨_, _, _, _, _, hgy⟩ := own_cells p1
    exact (hgy b hb').2.2 _ (idx_lt hi hk)
   ·obtain ⟨_, _, z3, _⟩ := hz
    refine ⟨_, _, _, hm, setCs es0 j s0 off 1 [.ow r.e r.s es''], by rw [hm]; simp only [rowOb', hs], o1, o2, ?_, fun i k b hi hkk hio hb' => ?_⟩
    ·have hown : ∀ b, (ρ r.m).tip.ownBlock = some b → w'.heap[b]? = w.heap[b]? := fun b q => hk b (g2 b q) fun q' => q'.2.1 q
     refine .ow xs f g0 (by rw [setCs_len]; exact ownsRow_keep g1 hown) g2 g3 fun i k hi hkk => ?_
     rw [setCs_len] at hi
     rw [setCs_get hj (by omega) i k hkk]
     by_cases hin : i = j ∧ off ≤ k ∧ k < off + 1
     ·rw [if_pos hin]
      obtain ⟨rfl, ha, hb⟩ := hin
      have : k = off := by omega
      subst this
      rw [Nat.sub_self]
      exact z3
     ·rw [if_neg hin]
      refine (g4 i k hi hkk).keep (fun _ _ q => q) (fun _ _ q => q.elim) fun b q => hk b q.1 fun q' => hin ?_
      have e : i * s0 + k = j * s0 + off := q.2.2.symm.trans q'.2.2
      have hij : i = j := by
       rcases Nat.lt_trichotomy i j with q | q | q
       ·have : i * s0 + s0 ≤ j * s0 := by rw [← Nat.succ_mul]; exact Nat.mul_le_mul_right _ q
        omega
       ·exact q
       ·have : j * s0 + s0 ≤ i * s0 := by rw [← Nat.succ_mul]; exact Nat.mul_le_mul_right _ q
        omega
      subst hij
      omega
    ·rw [setCs_len] at hi
     have hbt : (ρ r.m).tip.ownBlock = some b := o1.symm.trans hb'
     have hbw : w'.heap[b]? = w.heap[b]? := hk b (g2 b hbt) fun q' => q'.2.1 hbt
     rw [cell_heap hbw]
     rw [setCs_get hj (by omega) i k hkk] at hio
     by_cases hin : i = j ∧ off ≤ k ∧ k < off + 1
     ·obtain ⟨rfl, ha, hb2⟩ := hin
      have : k = off := by omega
      subst this
      exact o4 i k b hi hkk (by rw [hcell]; rfl) hb'
     ·rw [if_neg hin] at hio
      exact o4 i k b hi hkk hio hb'
  ·cases hr
theorem rowsAt_sound {L O : List Ob} (h : Core cx ρ S L O w) : ∀ (rs : List Root) (acc os : List Ob), rowsAt L O some rs acc = some os → ∃ (ess : Nat → List (List Pd)) (zs : Nat → Rz), os.length = acc.length + rs.length ∧ (∀ i, i < acc.length → os.getD i .none = acc.getD i .none) ∧
 ∀ i r, rs[i]? = some r → os.getD (acc.length + i) .none = .oarr r.e r.s (ess i) ∧ RootOK ρ L O w r (ess i) (zs i)
 | [], acc, os, hr => by
  simp only [rowsAt] at hr
  injection hr with hr; subst hr
  exact ⟨fun _ => [], fun _ => .of none undef, by simp, fun i hi => rfl, fun i r hi => by simp at hi⟩
 | r :: rs, acc, os, hr => by
  simp only [rowsAt] at hr
  rw [rowAt_bind] at hr
  obtain ⟨es, h1, h2⟩ := Option.bind_eq_some_iff.1 hr
  obtain ⟨z, hz⟩ := rowAt_sound h h1
  obtain ⟨ess, zs, q1, q2, q3⟩ := rowsAt_sound h rs _ os h2
  have hl : (acc ++ [Ob.oarr r.e r.s es]).length = acc.length + 1 := by simp
  refine ⟨fun i => match i with | 0 => es | i + 1 => ess i, fun i => match i with | 0 => z | i + 1 => zs i, by rw [q1, hl]; simp; omega, fun i hi => ?_, fun i r' hi => ?_⟩
  ·rw [q2 i (by omega), List.getD_eq_getElem?_getD, List.getElem?_append_left hi, ← List.getD_eq_getElem?_getD]
  ·cases i with
   | zero =>
    simp at hi; subst hi
    refine ⟨?_, hz⟩
    rw [Nat.add_zero, q2 acc.length (by omega), List.getD_eq_getElem?_getD, List.getElem?_append_right (Nat.le_refl _), Nat.sub_self]
    rfl
   | succ i =>
    have := q3 i r' (by simpa using hi)
    rw [hl, show acc.length + 1 + i = acc.length + (i + 1) by omega] at this
    exact this
theorem castObs_oarr {r : List Ob} : ∀ (l : List Ob) (i : Nat) (acc os : List Ob), castObs r some i l acc = some os → ∃ zs : List Ob, os = acc ++ zs ∧ zs.length = l.length ∧ ∀ (j e s : Nat) (es0 : List (List Pd)), l[j]? = some (Ob.oarr e s es0) → ∃ es, zs[j]? = some (Ob.oarr e s es)
 | [], i, acc, os, h => by
  simp only [castObs] at h
  split at h
  ·injection h with h; subst h
   exact ⟨[], by simp, rfl, fun j e s es0 q => by simp at q⟩
  ·cases h
 | o :: l, i, acc, os, h => by
  have step : ∀ o' : Ob, (∀ e s es0, o = .oarr e s es0 → ∃ es, o' = .oarr e s es) → castObs r some (i + 1) l (acc ++ [o']) = some os → ∃ zs : List Ob, os = acc ++ zs ∧ zs.length = (o :: l).length ∧ ∀ (j e s : Nat) (es0 : List (List Pd)), (o :: l)[j]? = some (Ob.oarr e s es0) → ∃ es, zs[j]? = some (Ob.oarr e s es) := by
   intro o' ho h2
   obtain ⟨zs, q1, q2, q3⟩ := castObs_oarr l (i + 1) _ os h2
   refine ⟨o' :: zs, by rw [q1]; simp, by simp [q2], fun j e s es0 q => ?_⟩
   cases j with
   | zero =>
    simp at q
    obtain ⟨es, q⟩ := ho e s es0 q
    exact ⟨es, by simp [q]⟩
   | succ j => simpa using q3 j e s es0 (by simpa using q)
  cases o with
  | none => cases h
  | box n cs0 =>
   simp only [castObs] at h
   obtain ⟨cs, h1, h2⟩ := Option.bind_eq_some_iff.1 h
   exact step _ (fun _ _ _ q => by cases q) h2
  | mbox n ds =>
   simp only [castObs] at h
   obtain ⟨cs, h1, h2⟩ := Option.bind_eq_some_iff.1 h
   exact step _ (fun _ _ _ q => by cases q) h2
  | arr e s b ro es =>
   simp only [castObs] at h
   obtain ⟨cs, h1, h2⟩ := Option.bind_eq_some_iff.1 h
   exact step _ (fun _ _ _ q => by cases q) h2
  | map es =>
   simp only [castObs] at h
   obtain ⟨cs, h1, h2⟩ := Option.bind_eq_some_iff.1 h
   exact step _ (fun _ _ _ q => by cases q) h2
  | oarr e s es =>
   simp only [castObs] at h
   obtain ⟨cs, h1, h2⟩ := Option.bind_eq_some_iff.1 h
   exact step _ (fun _ _ _ q => by injection q with q1 q2; subst q1 q2; exact ⟨cs, rfl⟩) h2
  | marr e s es lk =>
   simp only [castObs] at h
   obtain ⟨cs, h1, h2⟩ := Option.bind_eq_some_iff.1 h
   exact step _ (fun _ _ _ q => by cases q) h2
  | gmap e s es lk =>
   simp only [castObs] at h
   obtain ⟨cs, h1, h2⟩ := Option.bind_eq_some_iff.1 h
   exact step _ (fun _ _ _ q => by cases q) h2
theorem rowsPut_get : ∀ (rs : List Root) (os L O : List Ob), os.length = rs.length → (rs.map (·.m)).Nodup → (∀ (i : Nat) (r : Root), rs[i]? = some r → getOb L O r.m ≠ .none ∧ ∃ es, os[i]? = some (Ob.oarr r.e r.s es)) →
 (∀ m, m ∉ rs.map (·.m) → getOb (rowsPut L O rs os).1 (rowsPut L O rs os).2 m = getOb L O m) ∧
 ∀ (i : Nat) (r : Root) (es : List (List Pd)), rs[i]? = some r → os[i]? = some (Ob.oarr r.e r.s es) → getOb (rowsPut L O rs os).1 (rowsPut L O rs os).2 r.m = rowOb' r es (getOb L O r.m)
 | [], os, L, O, hl, hn, ho => by
  have : os = [] := List.eq_nil_of_length_eq_zero hl
  subst this
  exact ⟨fun m _ => rfl, fun i r es h => by simp at h⟩
 | r :: rs, [], L, O, hl, hn, ho => by cases hl
 | r :: rs, o :: os, L, O, hl, hn, ho => by
  obtain ⟨hlr, es, he⟩ := ho 0 r rfl
  simp at he
  subst he
  rw [List.map_cons, List.nodup_cons] at hn
  have hne : ∀ m', m' ≠ r.m → getOb (setL L r.m (rowOb' r es (getOb L O r.m))) (setO O r.m (rowOb' r es (getOb L O r.m))) m' = getOb L O m' := fun m' q => getOb_ne L O q _
  have hrn : ∀ (i : Nat) (r' : Root), rs[i]? = some r' → r'.m ≠ r.m := fun i r' hi q => hn.1 (q ▸ List.mem_map_of_mem (List.mem_of_getElem? hi))
  obtain ⟨q1, q2⟩ := rowsPut_get rs os (setL L r.m (rowOb' r es (getOb L O r.m))) (setO O r.m (rowOb' r es (getOb L O r.m))) (by simpa using hl) hn.2 (fun i r' hi => by
   obtain ⟨p1, p2⟩ := ho (i + 1) r' (by simpa using hi)
   exact ⟨by rw [hne _ (hrn i r' hi)]; exact p1, by simpa using p2⟩)
  simp only [rowsPut]
  refine ⟨fun m hm => ?_, fun i r' es' hi he => ?_⟩
  ·rw [List.map_cons, List.mem_cons, not_or] at hm
   rw [q1 m hm.2, hne m hm.1]
  ·cases i with
   | zero =>
    have e1 : r = r' := by simpa using hi
    subst e1
    have e2 : es = es' := by simpa using he
    subst e2
    rw [q1 _ hn.1, getOb_self L O hlr]
   | succ i =>
    have hi : rs[i]? = some r' := by simpa using hi
    rw [q2 i r' es' hi (by simpa using he), hne _ (hrn i r' hi)]
theorem roots_cons {L O : List Ob} {c : Nat} {d : Dv} {ds : List Dv} (hd : ∀ x, d ≠ .p x) : roots L O c (d :: ds) = match rootOf L O d with
 | some r => match roots L O (c + 1) ds with
  | some (ds', rs) => some (.arr (.out c) :: ds', r :: rs)
  | none => none
 | none => none := by
 cases d <;> first | rfl | exact absurd rfl (hd _)
theorem roots_sound {L O : List Ob} : ∀ (ds : List Dv) (c : Nat) (ds' : List Dv) (rs : List Root), roots L O c ds = some (ds', rs) → ds'.length = ds.length ∧ ∀ j, j < ds.length → ((∃ x, ds.getD j ud = .p x) ∧ ds'.getD j ud = ds.getD j ud) ∨
 ∃ (i : Nat) (r : Root), rs[i]? = some r ∧ ds'.getD j ud = .arr (.out (c + i)) ∧ rootOf L O (ds.getD j ud) = some r
 | [], c, ds', rs, h => by
  simp only [roots] at h
  injection h with h; injection h with e1 e2; subst e1 e2
  exact ⟨rfl, fun j hj => by cases hj⟩
 | d :: ds, c, ds', rs, h => by
  by_cases hp : ∃ x, d = .p x
  ·obtain ⟨x, rfl⟩ := hp
   simp only [roots] at h
   split at h
   ·rename_i l rs' hl
    injection h with h; injection h with e1 e2; subst e1 e2
    obtain ⟨q1, q2⟩ := roots_sound ds c l rs' hl
    refine ⟨by simp [q1], fun j hj => ?_⟩
    cases j with
    | zero => exact .inl ⟨⟨x, rfl⟩, rfl⟩
    | succ j => simpa using q2 j (by simpa using hj)
   ·cases h
  ·rw [roots_cons (fun x q => hp ⟨x, q⟩)] at h
   split at h
   ·rename_i r hr
    split at h
    ·rename_i l rs' hl
     injection h with h; injection h with e1 e2; subst e1 e2
     obtain ⟨q1, q2⟩ := roots_sound ds (c + 1) l rs' hl
     refine ⟨by simp [q1], fun j hj => ?_⟩
     cases j with
     | zero => exact .inr ⟨0, r, rfl, rfl, hr⟩
     | succ j =>
      rcases q2 j (by simpa using hj) with p | ⟨i, r', p1, p2, p3⟩
      ·left; simpa using p
      ·right
       exact ⟨i + 1, r', by simpa using p1, by rw [show c + (i + 1) = c + 1 + i by omega]; simpa using p2, by simpa using p3⟩
    ·cases h
   ·cases h
theorem nodupN_get : ∀ {l : List Nm}, nodupN l = true → l.Nodup
 | [], _ => List.nodup_nil
 | m :: l, h => by
  simp only [nodupN, Bool.and_eq_true, Bool.not_eq_true'] at h
  rw [List.nodup_cons]
  refine ⟨fun q => ?_, nodupN_get h.2⟩
  have := h.1
  rw [List.contains_eq_mem, decide_eq_false_iff_not] at this
  exact this q
theorem scalsP_get : ∀ {l : List Dv}, scalsP l = true → ∀ y ∈ l, scalD y = true
 | [], _, y, hy => by cases hy
 | .p (.int _ _) :: l, h, y, hy => by
  rcases List.mem_cons.1 hy with q | q
  ·rw [q]; rfl
  ·exact scalsP_get (l := l) h y q
 | .p (.bool _) :: l, h, y, hy => by
  rcases List.mem_cons.1 hy with q | q
  ·rw [q]; rfl
  ·exact scalsP_get (l := l) h y q
 | .p (.str _) :: l, h, y, hy => by
  rcases List.mem_cons.1 hy with q | q
  ·rw [q]; rfl
  ·exact scalsP_get (l := l) h y q
 | .p (.agg ..) :: _, h, _, _ => by cases h
 | .p (.sl ..) :: _, h, _, _ => by cases h
 | .p (.fn _) :: _, h, _, _ => by cases h
 | .p .undef :: _, h, _, _ => by cases h
 | .p .anyb :: _, h, _, _ => by cases h
 | .p (.ow ..) :: _, h, _, _ => by cases h
 | .nilsl _ :: _, h, _, _ => by cases h
 | .ptr .. :: _, h, _, _ => by cases h
 | .arr _ :: _, h, _, _ => by cases h
 | .el .. :: _, h, _, _ => by cases h
 | .ro .. :: _, h, _, _ => by cases h
 | .agg .. :: _, h, _, _ => by cases h
 | .fn .. :: _, h, _, _ => by cases h
 | .tup _ :: _, h, _, _ => by cases h
 | .mp _ :: _, h, _, _ => by cases h
 | .sub .. :: _, h, _, _ => by cases h
theorem Core.wrote {L O : List Ob} (h : Core cx ρ S L O w) {rs : List Root} (hnd : (rs.map (·.m)).Nodup) {ess : Nat → List (List Pd)} {zs : Nat → Rz} {os : List Ob} (hl : os.length = rs.length)
 (hos : ∀ (i : Nat) (r : Root), rs[i]? = some r → os.getD i .none = .oarr r.e r.s (ess i) ∧ RootOK ρ L O w r (ess i) (zs i)) {ρc : Nm → Rz} (hρ : ∀ i, i < rs.length → ρc (.out i) = zs i) :
 Core (cx0 w S ρc os) ρc S [] os w ∧
 ∀ {ρ' : Nm → Rz} {S' : Nat → Nat → Prop} {os' : List Ob} {w' : World}, Core (cx0 w S ρc os) ρ' S' [] os' w' → os'.length = rs.length → (∀ (i : Nat) (r : Root), rs[i]? = some r → ∃ es, os'[i]? = some (Ob.oarr r.e r.s es)) →
  Core cx ρ S (rowsPut L O rs os').1 (rowsPut L O rs os').2 w' := by
 have hat : ∀ i, i < rs.length → ∃ r, rs[i]? = some r := fun i hi => ⟨rs[i], List.getElem?_eq_getElem hi⟩
 have hlive : ∀ m, getOb [] os m ≠ .none → ∃ (i : Nat) (r : Root), m = .out i ∧ rs[i]? = some r ∧ ρc m = zs i ∧ getOb [] os m = .oarr r.e r.s (ess i) ∧ RootOK ρ L O w r (ess i) (zs i) := by
  intro m q
  cases m with
  | loc s => simp [getOb] at q
  | out i =>
   have hlt : i < rs.length := by
    rcases Nat.lt_or_ge i rs.length with q' | q'
    ·exact q'
    ·exact absurd (getD_ge (l := os) (by omega)) q
   obtain ⟨r, hr⟩ := hat i hlt
   exact ⟨i, r, rfl, hr, hρ i hlt, (hos i r hr).1, (hos i r hr).2⟩
 have hfp : ∀ i r k, rs[i]? = some r → (zs i).fp k → OwnAt L O ρ r.m k := fun i r k hr q => .inl ⟨(hos i r hr).2.isO, (hos i r hr).2.sub k q⟩
 have hblk : ∀ i r b, rs[i]? = some r → (zs i).blk = some b → (zs i).fp b := by
  intro i r b hr q
  obtain ⟨p1, p2, p3, p4⟩ := (hos i r hr).2.ob
  cases p3 with
  | p p3 => cases p3
  | ow _ _ _ _ g2 _ _ => exact g2 b (p1.symm.trans q)
 have hinj : ∀ i i2 r r2 k, rs[i]? = some r → rs[i2]? = some r2 → (zs i).fp k → (zs i2).fp k → i = i2 := by
  intro i i2 r r2 k hr hr2 q q2
  have e := h.ownAt_inj (hfp i r k hr q) (hfp i2 r2 k hr2 q2)
  have h1 : (rs.map (·.m))[i]? = some r.m := by rw [List.getElem?_map, hr]; rfl
  have h2 : (rs.map (·.m))[i2]? = some r2.m := by rw [List.getElem?_map, hr2]; rfl
  have e1 := idxN_of hnd h1
  have e2 := idxN_of hnd h2
  rw [← e, e2] at e1
  injection e1 with e1
  exact e1.symm
 have start : Core (cx0 w S ρc os) ρc S [] os w := by
  refine ⟨fun m => ?_, fun m1 m2 b hl1 hl2 q1 q2 => ?_, fun m b o hlm q hS => ?_, fun m b hlm q => ?_, h.sb, fun _ _ q => q, fun _ _ q => .inl q, fun _ _ _ => rfl, fun _ _ _ => rfl, Nat.le_refl _, rfl, rfl, rfl, fun i z q => ?_, fun m k ho q => ?_, fun m1 m2 k ho hl2 e q => ?_⟩
  ·by_cases hlm : getOb [] os m = .none
   ·rw [hlm]; trivial
   ·obtain ⟨i, r, rfl, hr, p1, p2, p3⟩ := hlive m hlm
    rw [p1, p2]
    exact p3.ob
  ·obtain ⟨i, r, rfl, hr, p1, p2, p3⟩ := hlive m1 hl1
   obtain ⟨i2, r2, rfl, hr2, p4, p5, p6⟩ := hlive m2 hl2
   rw [p1] at q1
   rw [p4] at q2
   rw [hinj i i2 r r2 b hr hr2 (hblk i r b hr q1) (hblk i2 r2 b hr2 q2)]
  ·obtain ⟨i, r, rfl, hr, p1, p2, p3⟩ := hlive m hlm
   rw [p1] at q
   exact absurd hS ((h.ownAt (hfp i r b hr (hblk i r b hr q))).1.2.2 o)
  ·have hlm' := hlm
   obtain ⟨i, r, rfl, hr, p1, p2, p3⟩ := hlive m hlm
   have q' := q
   rw [p1] at q
   exact ⟨(h.ownAt (hfp i r b hr (hblk i r b hr q))).1.1, .inr ⟨_, hlm', .inl q'⟩⟩
  ·have q : (if i < os.length then (if isArr (getOb [] os (.out i)) = true then none else some (ρc (.out i))) else none) = some z := q
   split at q
   case isFalse => cases q
   split at q
   ·cases q
   ·rename_i hx
    injection q with q
    exact ⟨q, by simpa using hx⟩
  ·have hlm : getOb [] os m ≠ .none := fun q' => by rw [q'] at ho; cases ho
   have hlm' := hlm
   obtain ⟨i, r, rfl, hr, p1, p2, p3⟩ := hlive m hlm
   have q' := q
   rw [p1] at q
   have := (h.ownAt (hfp i r k hr q)).1
   exact ⟨this.1, .inr ⟨_, hlm', .inr ⟨ho, q'⟩⟩, this.2.2⟩
  ·have hlm : getOb [] os m1 ≠ .none := fun q' => by rw [q'] at ho; cases ho
   obtain ⟨i, r, rfl, hr, p1, p2, p3⟩ := hlive m1 hlm
   obtain ⟨i2, r2, rfl, hr2, p4, p5, p6⟩ := hlive m2 hl2
   rw [p1] at q
   rw [p4]
   refine ⟨fun q2 => e ?_, fun _ q2 => e ?_⟩
   ·rw [hinj i i2 r r2 k hr hr2 q (hblk i2 r2 k hr2 q2)]
   ·rw [hinj i i2 r r2 k hr hr2 q q2]
 refine ⟨start, ?_⟩
 intro ρ' S' os' w' c1 hl' hos'
 have hF : ∀ b, (cx0 w S ρc os).F b → ∃ i r, rs[i]? = some r ∧ (zs i).fp b := by
  rintro b ⟨m, q1, q2⟩
  obtain ⟨i, r, rfl, hr, p1, p2, p3⟩ := hlive m q1
  rw [p1] at q2
  rcases q2 with q2 | ⟨_, q2⟩
  ·exact ⟨i, r, hr, hblk i r b hr q2⟩
  ·exact ⟨i, r, hr, q2⟩
 have hcell : ∀ b o, S b o → w'.cell? ⟨b, o, none⟩ = w.cell? ⟨b, o, none⟩ := c1.sk
 have hws : w.heap.size ≤ w'.heap.size := c1.ws
 obtain ⟨g1, g2⟩ := rowsPut_get rs os' L O hl' hnd (fun i r hr => ⟨fun q => (by have := (hos i r hr).2.isO; rw [q] at this; cases this), hos' i r hr⟩)
 have hafter : ∀ (i : Nat) (r : Root), rs[i]? = some r → ∃ e s es0 es1, getOb L O r.m = .oarr e s es0 ∧ getOb (rowsPut L O rs os').1 (rowsPut L O rs os').2 r.m = .oarr e s es1 ∧ ObRel ρ S w' (.oarr e s es1) (ρ r.m) := by
  intro i r hr
  have hlt : i < rs.length := (List.getElem?_eq_some_iff.1 hr).1
  obtain ⟨es', he⟩ := hos' i r hr
  have hob := c1.ob (.out i)
  have e1 : getOb [] os' (.out i) = .oarr r.e r.s es' := by
   show os'.getD i .none = _
   rw [List.getD_eq_getElem?_getD, he]; rfl
  have hB : (cx0 w S ρc os).B i = some (ρc (.out i)) := by
   show (if i < os.length then (if isArr (getOb [] os (.out i)) = true then none else some (ρc (.out i))) else none) = _
   rw [if_pos (by rw [hl]; exact hlt), if_neg]
   show ¬ isArr (os.getD i .none) = true
   rw [(hos i r hr).1]
   exact Bool.noConfusion
  have hz := (c1.bx i _ hB).1
  rw [e1, hz, hρ i hlt] at hob
  obtain ⟨e, s, es0, p1, es1, p2, p3⟩ := (hos i r hr).2.back w' es' (fun k hk hnk => c1.fr k (h.fp r.m k (hos i r hr).2.isO hk).1 fun q => by
   obtain ⟨i2, r2, hr2, q2⟩ := hF k q
   have e := h.ownAt_inj (.inl ⟨(hos i r hr).2.isO, hk⟩) (hfp i2 r2 k hr2 q2)
   have h1 : (rs.map (·.m))[i]? = some r.m := by rw [List.getElem?_map, hr]; rfl
   have h2 : (rs.map (·.m))[i2]? = some r2.m := by rw [List.getElem?_map, hr2]; rfl
   have e1 := idxN_of hnd h1
   have e2 := idxN_of hnd h2
   rw [← e, e2] at e1
   injection e1 with e1
   subst e1
   exact hnk q2) hob
  exact ⟨e, s, es0, es1, p1, (g2 i r es' hr he).trans p2, p3⟩
 have hkind : ∀ m, (m ∉ rs.map (·.m) ∧ getOb (rowsPut L O rs os').1 (rowsPut L O rs os').2 m = getOb L O m) ∨ ∃ e s es0 es1, getOb L O m = .oarr e s es0 ∧ getOb (rowsPut L O rs os').1 (rowsPut L O rs os').2 m = .oarr e s es1 ∧ ObRel ρ S w' (.oarr e s es1) (ρ m) := by
  intro m
  by_cases hm : m ∈ rs.map (·.m)
  ·right
   obtain ⟨r, hr, rfl⟩ := List.mem_map.1 hm
   obtain ⟨i, hi⟩ := List.getElem?_of_mem hr
   exact hafter i r hi
  ·exact .inl ⟨hm, g1 m hm⟩
 have hn : ∀ m, getOb (rowsPut L O rs os').1 (rowsPut L O rs os').2 m ≠ .none → getOb L O m ≠ .none := by
  intro m q
  rcases hkind m with ⟨_, e⟩ | ⟨e, s, es0, es1, p1, p2, _⟩
  ·rwa [e] at q
  ·rw [p1]; exact fun q => by cases q
 have hO : ∀ m, isO (getOb (rowsPut L O rs os').1 (rowsPut L O rs os').2 m) = isO (getOb L O m) := by
  intro m
  rcases hkind m with ⟨_, e⟩ | ⟨e, s, es0, es1, p1, p2, _⟩
  ·rw [e]
  ·rw [p1, p2]; rfl
 have hkeep : ∀ m b, m ∉ rs.map (·.m) → getOb L O m ≠ .none → ((ρ m).blk = some b ∨ (isO (getOb L O m) = true ∧ (ρ m).fp b)) → ¬ (cx0 w S ρc os).F b := by
  intro m b hm hlm hb q
  obtain ⟨i, r, hr, q2⟩ := hF b q
  have hne : m ≠ r.m := fun e => hm (e ▸ List.mem_map_of_mem (List.mem_of_getElem? hr))
  have := (h.ownAt (hfp i r b hr q2)).2 m hlm hne
  rcases hb with hb | ⟨hb1, hb2⟩
  ·exact this.1 hb
  ·exact this.2 hb1 hb2
 refine ⟨fun m => ?_, fun m1 m2 b q1 q2 => h.ne m1 m2 b (hn _ q1) (hn _ q2), fun m b o q1 q2 q3 => ?_, fun m b q1 q2 => ⟨Nat.lt_of_lt_of_le (h.own m b (hn _ q1) q2).1 hws, (h.own m b (hn _ q1) q2).2⟩, fun b o q => Nat.lt_of_lt_of_le (h.sb b o q) hws, h.s0, h.sn, fun b hb hFb => ?_, fun b o q => (hcell b o (h.s0 b o q)).trans (h.sk b o q), Nat.le_trans h.ws hws, c1.os.trans h.os, c1.tape.trans h.tape, c1.output.trans h.output, fun i z q => ?_, fun m k ho q => ?_, fun m1 m2 k ho q1 e q => ?_⟩
 ·rcases hkind m with ⟨hm, e⟩ | ⟨e, s, es0, es1, p1, p2, p3⟩
  ·rw [e]
   by_cases hlm : getOb L O m = .none
   ·rw [hlm]; trivial
   ·exact (h.ob m).keep (fun _ => rfl) (fun _ _ q => q) hcell (fun b q => c1.fr b (h.own m b hlm q).1 (hkeep m b hm hlm (.inl q))) (fun ho k q => c1.fr k (h.fp m k ho q).1 (hkeep m k hm hlm (.inr ⟨ho, q⟩)))
  ·rw [p2]; exact p3
 ·obtain ⟨e', s', bb, es', p1, p2⟩ := h.ss m b o (hn _ q1) q2 q3
  rcases hkind m with ⟨_, e⟩ | ⟨e, s, es0, es1, r1, _, _⟩
  ·exact ⟨e', s', bb, es', e.trans p1, p2⟩
  ·rw [r1] at p1; cases p1
 ·refine (c1.fr b (Nat.lt_of_lt_of_le hb h.ws) fun q => ?_).trans (h.fr b hb hFb)
  obtain ⟨i, r, hr, q2⟩ := hF b q
  rcases (h.ownAt (hfp i r b hr q2)).1.2.1 with q' | q'
  ·omega
  ·exact hFb q'
 ·obtain ⟨p1, p2⟩ := h.bx i z q
  refine ⟨p1, ?_⟩
  rcases hkind (.out i) with ⟨_, e⟩ | ⟨e, s, es0, es1, r1, r2, _⟩
  ·rw [e]; exact p2
  ·rw [r2]; rfl
 ·have := h.fp m k ((hO m).symm.trans ho) q
  exact ⟨Nat.lt_of_lt_of_le this.1 hws, this.2⟩
 ·have := h.fd m1 m2 k ((hO m1).symm.trans ho) (hn _ q1) e q
  exact ⟨this.1, fun q2 => this.2 ((hO m2).symm.trans q2)⟩
theorem rootOf_val {L O : List Ob} {r : Root} {z : Rz} {v : Value} (hd : VD ρ S w d v) (hr : rootOf L O d = some r) (hz : z.tip = match r.sub with | none => (ρ r.m).tip | some (j, s0, off) => (ρ r.m).cl (j * s0 + off)) : v = z.tip ∧ v.oneCell' = true := by
 unfold rootOf at hr
 split at hr
 ·rename_i m
  cases hd with
  | arr hh =>
  split at hr
  ·injection hr with hr; subst hr; exact ⟨hz.symm, hh⟩
  ·injection hr with hr; subst hr; exact ⟨hz.symm, hh⟩
  ·cases hr
 ·injection hr with hr; subst hr
  cases hd with
  | sub hh => exact ⟨hz.symm, hh⟩
 ·cases hr
theorem callW_sound {rts : List TypeId} {call : CallF} {κ : Kp} (hcall : CallOK P κ call) (hk : Kx κ cx) (h : Rel cx ρ S st a w) {f : FuncId} {args : List Dv} {vs : Array Value} (hlen : vs.size = args.length) (hargs : ∀ j, j < args.length → VD ρ S w (args.getD j ud) (vs.getD j undef))
 (hrun : (execOp a.eval o).run P w = .ok (.enter f vs) w) {q : Dv × St} (hd : callW P rts call st f args pr = some q) : StepOK P cx o a w q.1 q.2 := by
 unfold callW at hd
 split at hd
 ·cases hd
 rename_i d rest
 split at hd
 case isFalse => cases hd
 rename_i hsc
 obtain ⟨hsc1, hsc2⟩ := hsc
 split at hd
 case h_2 => cases hd
 rename_i ds' rs hroots
 split at hd
 case isFalse => cases hd
 rename_i hnd
 have hnd := nodupN_get hnd
 rw [upgD_bind] at hd
 obtain ⟨st1, hst, hd⟩ := Option.bind_eq_some_iff.1 hd
 rw [rowsAt_bind] at hd
 obtain ⟨os, hos, hd⟩ := Option.bind_eq_some_iff.1 hd
 obtain ⟨r, hr, hd⟩ := Option.bind_eq_some_iff.1 hd
 rw [castRs_bind] at hd
 obtain ⟨ys, hd1, hd⟩ := Option.bind_eq_some_iff.1 hd
 rw [castObs_bind] at hd
 obtain ⟨os', hd2, hd⟩ := Option.bind_eq_some_iff.1 hd
 injection hd with hd; subst hd
 obtain ⟨ρ1, hch, h1⟩ := upgD_sound rs h hst
 obtain ⟨ess, zs, n1, n2, n3⟩ := rowsAt_sound h1.core rs [] os hos
 simp only [List.length_nil, Nat.zero_add] at n1 n3
 let ρc : Nm → Rz := fun m => match m with
  | .out i => zs i
  | .loc s => ρ1 (.loc s)
 obtain ⟨start, after⟩ := h1.core.wrote hnd n1 n3 (ρc := ρc) (fun i _ => rfl)
 obtain ⟨l1, l2⟩ := roots_sound (callW.cellsW d) 0 ds' rs hroots
 have cell : ∀ (j : Nat) (v : Value), j < (callW.cellsW d).length → VD ρ1 S w ((callW.cellsW d).getD j ud) v → VD ρc S w (ds'.getD j ud) v := by
  intro j v hj hv
  rcases l2 j hj with ⟨⟨x, hx⟩, e⟩ | ⟨i, r', p1, p2, p3⟩
  ·rw [e, hx]
   rw [hx] at hv
   exact .p hv.pd
  ·rw [p2, Nat.zero_add]
   obtain ⟨e1, e2⟩ := rootOf_val hv p3 (n3 i r' p1).2.val
   have : VD ρc S w (.arr (.out i)) (ρc (.out i)).tip := .arr (by show (zs i).tip.oneCell' = true; rw [← e1]; exact e2)
   rw [e1]
   exact this
 have hd0 : VD ρ1 S w d (vs.getD 0 undef) := (hargs 0 (by simp)).fpchg hch
 have hshape : VD ρc S w (callW.shapeW d ds') (vs.getD 0 undef) := by
  have single : (callW.cellsW d = [d]) → callW.shapeW d ds' = ds'.headD ud → VD ρc S w (callW.shapeW d ds') (vs.getD 0 undef) := by
   intro e1 e2
   rw [e1] at cell l1
   have := cell 0 _ (by simp) hd0
   rw [e2]
   cases ds' with
   | nil => cases l1
   | cons x xs => simpa using this
  cases d with
  | agg n ds =>
   generalize vs.getD 0 undef = v0 at hd0 ⊢
   cases hd0 with
   | agg h0 h1' h2 h3 =>
    refine .agg (by rw [l1]; exact h0) h1' h2 fun j hj => ?_
    by_cases hlt : j < ds.length
    ·exact cell j _ hlt (h3 j hj)
    ·rw [getD_ge (l := ds') (by rw [l1]; exact Nat.le_of_not_lt hlt)]; exact .un
  | _ => exact single rfl rfl
 refine .inr ⟨f, vs, w, hrun, ?_⟩
 refine (hcall f (callW.shapeW d ds' :: rest) os r hr w ρc S vs (hk.at h1.core) start (by simpa using hlen) (fun j hj => ?_)).mono ?_
 ·cases j with
  | zero => exact hshape
  | succ j =>
   have hj' : j < rest.length := by simpa using hj
   have := hargs (j + 1) (by simpa using hj')
   simp only [List.getD_cons_succ] at this ⊢
   refine this.scal (scalsP_get hsc1 _ ?_)
   rw [List.getD_eq_getElem?_getD, List.getElem?_eq_getElem hj']
   exact List.getElem_mem _
 ·rintro e w' ⟨v, ρ', S', rfl, c1, c2⟩
  obtain ⟨zs', e1, e2⟩ := castRs_scal rts 0 [] ys hsc2 hd1
  obtain ⟨rfl, hp⟩ := castRs_all hd1
  simp only [List.nil_append] at e1
  obtain ⟨k1, k2⟩ := castObs_core hd2 c1
  obtain ⟨zs2, j1, j2, j3⟩ := castObs_oarr os 0 [] os' hd2
  simp only [List.nil_append] at j1
  subst j1
  have hfin := after k2 (by rw [k1, n1]) (fun i r' hr' => j3 i r'.e r'.s (ess i) (by
   have := (n3 i r' hr').1
   have hlt : i < os.length := by rw [n1]; exact (List.getElem?_eq_some_iff.1 hr').1
   rw [List.getD_eq_getElem?_getD, List.getElem?_eq_getElem hlt] at this
   rw [List.getElem?_eq_getElem hlt]
   simpa using this))
  exact ⟨v, ρ1, S, rfl, ⟨hfin, h1.nt, h1.df, fun t => (h1.tm t).keep (fun _ => rfl) (fun _ _ q => q) c1.sk⟩, retV_scal (by rw [e1]; exact e2) c2⟩
def newOb (o : Ob) : Bool := match o with
 | .map _ => true
 | .box _ _ => true
 | .marr _ _ _ none => true
 | _ => false
theorem newOb_scrub {ob : Ob} (hn : newOb ob = true) {ρ ρ' : Nm → Rz} {z : Rz} (h : ObRel ρ S w ob z) : ObRel ρ' S w ob z := by
 cases ob with
 | marr e s es lk =>
  cases lk with
  | some _ => cases hn
  | none =>
   obtain ⟨h1, h2, h3, h4⟩ := h
   exact ⟨h1, h2, h3, fun j off n q => nomatch q⟩
 | _ => first | exact h | cases hn
theorem Core.adopt {L O : List Ob} (h : Core cx ρ S L O w) {ob : Ob} (hn : newOb ob = true) {z : Rz} (hob : ObRel ρ S w ob z) (hlt : ∀ b, z.blk = some b → b < w.heap.size ∧ cx.w0.heap.size ≤ b ∧ (∀ o, ¬ S b o) ∧ (∀ m, getOb L O m ≠ .none → (ρ m).blk ≠ some b) ∧ ∀ m, isO (getOb L O m) = true → ¬ (ρ m).fp b)
 (hfp : isO ob = true → ∀ b, z.fp b → b < w.heap.size ∧ cx.w0.heap.size ≤ b ∧ (∀ o, ¬ S b o) ∧ (∀ m, getOb L O m ≠ .none → (ρ m).blk ≠ some b) ∧ ∀ m, isO (getOb L O m) = true → ¬ (ρ m).fp b) :
 Core cx (fun n => if n = .loc L.length then z else ρ n) S (L.map (scrubOb (.loc L.length)) ++ [ob]) (O.map (scrubOb (.loc L.length))) w := by
 have hself : getOb (L.map (scrubOb (.loc L.length)) ++ [ob]) (O.map (scrubOb (.loc L.length))) (.loc L.length) = ob := by
  show (L.map _ ++ [ob]).getD L.length .none = ob
  rw [List.getD_eq_getElem?_getD, List.getElem?_append_right (by rw [List.length_map]; exact Nat.le_refl _), List.length_map, Nat.sub_self]
  rfl
 have hlive : ∀ m', m' ≠ .loc L.length → getOb (L.map (scrubOb (.loc L.length)) ++ [ob]) (O.map (scrubOb (.loc L.length))) m' = scrubOb (.loc L.length) (getOb L O m') := by
  intro m' hm
  have := getOb_map L O (scrubOb_none (.loc L.length)) m'
  refine Eq.trans ?_ this
  cases m' with
  | out i => rfl
  | loc i =>
   have hi : i ≠ L.length := fun e => hm (by rw [e])
   show (L.map _ ++ [ob]).getD i .none = (L.map _).getD i .none
   rcases Nat.lt_or_ge i L.length with q | q
   ·simp only [List.getD_eq_getElem?_getD]
    rw [List.getElem?_append_left (by rw [List.length_map]; exact q)]
   ·rw [getD_ge (by rw [List.length_append, List.length_map]; show L.length + 1 ≤ i; omega), getD_ge (by rw [List.length_map]; exact q)]
 have hne : ∀ m', m' ≠ .loc L.length → getOb (L.map (scrubOb (.loc L.length)) ++ [ob]) (O.map (scrubOb (.loc L.length))) m' ≠ .none → getOb L O m' ≠ .none := by
  intro m' hm hl q
  rw [hlive m' hm, q] at hl
  exact hl rfl
 refine ⟨fun m' => ?_, fun m1 m2 b hl1 hl2 q1 q2 => ?_, fun m' b o hl q hS => ?_, fun m' b hl q => ?_, h.sb, h.s0, h.sn, h.fr, h.sk, h.ws, h.os, h.tape, h.output, fun i z' q => ?_, fun m' k ho q => ?_, fun m1 m2 k ho hl e q => ?_⟩
 ·by_cases e : m' = .loc L.length
  ·subst e
   rw [hself, if_pos rfl]
   exact newOb_scrub hn hob
  ·rw [hlive m' e, if_neg e]
   exact (h.ob m').scrub_ (fun n hn => if_neg hn)
 ·by_cases e1 : m1 = .loc L.length
  ·by_cases e2 : m2 = .loc L.length
   ·rw [e1, e2]
   ·exfalso
    rw [if_pos e1] at q1
    rw [if_neg e2] at q2
    exact (hlt b q1).2.2.2.1 m2 (hne m2 e2 hl2) q2
  ·by_cases e2 : m2 = .loc L.length
   ·exfalso
    rw [if_neg e1] at q1
    rw [if_pos e2] at q2
    exact (hlt b q2).2.2.2.1 m1 (hne m1 e1 hl1) q1
   ·rw [if_neg e1] at q1
    rw [if_neg e2] at q2
    exact h.ne m1 m2 b (hne m1 e1 hl1) (hne m2 e2 hl2) q1 q2
 ·by_cases e : m' = .loc L.length
  ·rw [if_pos e] at q
   exact absurd hS ((hlt b q).2.2.1 o)
  ·rw [if_neg e] at q
   obtain ⟨e', s, bb, es, q1, q2⟩ := h.ss m' b o (hne m' e hl) q hS
   exact ⟨e', s, bb, es, by rw [hlive m' e]; exact scrubOb_arr q1, q2⟩
 ·by_cases e : m' = .loc L.length
  ·rw [if_pos e] at q
   exact ⟨(hlt b q).1, .inl (hlt b q).2.1⟩
  ·rw [if_neg e] at q
   exact h.own m' b (hne m' e hl) q
 ·obtain ⟨q1, q2⟩ := h.bx i z' q
  refine ⟨(if_neg (fun e => by cases e)).trans q1, ?_⟩
  rw [hlive _ (fun e => by cases e), isArr_scrub]
  exact q2
 ·by_cases e : m' = .loc L.length
  ·subst e
   rw [hself] at ho
   rw [if_pos rfl] at q
   have := hfp ho k q
   exact ⟨this.1, .inl this.2.1, this.2.2.1⟩
  ·rw [if_neg e] at q
   rw [hlive m' e, isO_scrub] at ho
   exact h.fp m' k ho q
 ·by_cases e1 : m1 = .loc L.length
  ·subst e1
   rw [hself] at ho
   rw [if_pos rfl] at q
   have := hfp ho k q
   rw [if_neg fun q => e q]
   refine ⟨this.2.2.2.1 m2 (hne m2 e hl), fun q2 => this.2.2.2.2 m2 ?_⟩
   rwa [hlive m2 e, isO_scrub] at q2
  ·rw [if_neg e1] at q
   rw [hlive m1 e1, isO_scrub] at ho
   by_cases e2 : m2 = .loc L.length
   ·subst e2
    rw [if_pos rfl]
    refine ⟨fun q2 => (hlt k q2).2.2.2.2 m1 ho q, fun q2 q3 => ?_⟩
    rw [hself] at q2
    exact (hfp q2 k q3).2.2.2.2 m1 ho q
   ·rw [if_neg e2]
    have := h.fd m1 m2 k ho (hne m2 e2 hl) e q
    rw [hlive m2 e2, isO_scrub]
    exact this
theorem mkTake_inv {rts : List TypeId} {r : Res} {q : Ob × (Nm → Dv)} (h : mkTake P rts r (fun ob d => some (ob, d)) = some q) :
 (∃ es, r = ([.mp (.out 0)], [.map es]) ∧ q.1 = .map es ∧ q.2 = .mp) ∨ (∃ n cs, r = ([.ptr (.out 0) 0], [.box n cs]) ∧ q.1 = .box n cs ∧ q.2 = fun m => .ptr m 0) ∨ ∃ e s es, r = ([.arr (.out 0)], [.marr e s es none]) ∧ q.1 = .marr e s es none ∧ q.2 = .arr := by
 obtain ⟨r1, r2⟩ := r
 have one : ∀ {o : Ob}, r2.length = 1 → r2.getD 0 .none = o → r2 = [o] := by
  intro o hl ho
  match r2, hl with
  | [x], _ => rw [← ho]; rfl
 unfold mkTake at h
 split at h
 ·split at h
  ·obtain ⟨es, h1, h⟩ := Option.bind_eq_some_iff.1 h
   split at h
   ·rename_i hc
    injection h with h; subst h
    left
    have e1 : r1 = [.mp (.out 0)] := by
     have := hc.1
     unfold isMp0 at this
     split at this
     ·assumption
     ·cases this
    have e2 := one hc.2 (asMap_eq h1)
    exact ⟨es, by rw [e1, e2], rfl, rfl⟩
   ·cases h
  ·rename_i t' _
   obtain ⟨cs, h1, h⟩ := Option.bind_eq_some_iff.1 h
   split at h
   ·rename_i hc
    injection h with h; subst h
    right; left
    have e1 : r1 = [.ptr (.out 0) 0] := by
     have := hc.1
     unfold isPtr0 at this
     split at this
     ·assumption
     ·cases this
    have h2 : r2.getD 0 .none = .box (P.cellsOf t') cs := by
     unfold asBoxN at h1
     split at h1
     ·rename_i m cs' ho
      split at h1
      ·rename_i em
       injection h1 with h1; subst h1
       have ho : r2.getD 0 .none = _ := ho
       rw [ho, em]
      ·cases h1
     ·cases h1
    have e2 := one hc.2 h2
    exact ⟨_, cs, by rw [e1, e2], rfl, rfl⟩
   ·cases h
  ·obtain ⟨es, h1, h⟩ := Option.bind_eq_some_iff.1 h
   split at h
   ·rename_i hc
    injection h with h; subst h
    right; right
    have e1 : r1 = [.arr (.out 0)] := by
     have := hc.1
     unfold isArr0 at this
     split at this
     ·assumption
     ·cases this
    have e2 := one hc.2 (asMarr_eq h1)
    exact ⟨_, _, es, by rw [e1, e2], rfl, rfl⟩
   ·cases h
  ·cases h
 ·cases h
theorem pureArgs_prep (L O : List Ob) : ∀ {ds : List Dv} {xs : List Pd}, pureArgs ds = some xs → prep L O ds = some (xs.map .p, L, O)
 | [], xs, h => by injection h with h; subst h; rfl
 | .p x :: ds, xs, h => by
  simp only [pureArgs] at h
  split at h
  ·rename_i ys hy
   injection h with h; subst h
   simp only [prep, view, view1, pureArgs_prep L O hy, List.map_cons]
  ·cases h
 | .nilsl s :: ds, xs, h => by
  simp only [pureArgs] at h
  split at h
  ·rename_i ys hy
   injection h with h; subst h
   simp only [prep, view, view1, pureArgs_prep L O hy, List.map_cons]
  ·cases h
 | .ptr .. :: _, _, h => by cases h
 | .arr _ :: _, _, h => by cases h
 | .el .. :: _, _, h => by cases h
 | .ro .. :: _, _, h => by cases h
 | .agg .. :: _, _, h => by cases h
 | .fn .. :: _, _, h => by cases h
 | .tup _ :: _, _, h => by cases h
 | .mp _ :: _, _, h => by cases h
 | .sub .. :: _, _, h => by cases h
theorem callM_sound {rts : List TypeId} {call : CallF} {κ : Kp} (hcall : CallOK P κ call) (hk : Kx κ cx) (h : Rel cx ρ S st a w) {f : FuncId} {args : List Dv} {vs : Array Value} (hlen : vs.size = args.length) (hargs : ∀ j, j < args.length → VD ρ S w (args.getD j ud) (vs.getD j undef))
 (hrun : (execOp a.eval o).run P w = .ok (.enter f vs) w) {q : Dv × St} (hd : callM P rts call st f args pr = some q) : StepOK P cx o a w q.1 q.2 := by
 unfold callM at hd
 split at hd
 ·cases hd
 ·rename_i as hpa
  obtain ⟨S1, p1, p2, p3, p4⟩ := prep_sound args h.core (fun j => vs.getD j undef) hargs (pureArgs_prep st.L st.O hpa)
  ·obtain ⟨r, hr, hd⟩ := Option.bind_eq_some_iff.1 hd
   rw [mkTake_bind] at hd
   obtain ⟨⟨ob, d⟩, hd1, hd⟩ := Option.bind_eq_some_iff.1 hd
   injection hd with hd; subst hd
   refine .inr ⟨f, vs, w, hrun, ?_⟩
   have hcs := p2.start (ns := []) (os := []) (ρc := ρ) List.nodup_nil rfl (fun i m q => by simp at q)
   refine (hcall f (as.map .p) [] r hr w ρ S1 vs (hk.at p2) hcs (by rw [hlen, p3]) (fun j hj => p4 j (by omega))).mono ?_
   rintro e w' ⟨v, ρ', S', rfl, c1, c2⟩
   have hG := p2.after c1
   have hF : ∀ b, ¬ (cx0 w S1 ρ []).F b := by
    rintro b ⟨m, q1, q2⟩
    cases m <;> simp [getOb] at q1
   have hobo : r.2 = [ob] := by rcases mkTake_inv hd1 with ⟨es, e1, e2, e3⟩ | ⟨n, cs, e1, e2, e3⟩ | ⟨e, s, es, e1, e2, e3⟩ <;> (rw [e1]; simp only at e2; rw [e2])
   have hnew : newOb ob = true := by rcases mkTake_inv hd1 with ⟨es, e1, e2, e3⟩ | ⟨n, cs, e1, e2, e3⟩ | ⟨e, s, es, e1, e2, e3⟩ <;> (simp only at e2; rw [e2]; rfl)
   have hg : getOb [] r.2 (.out 0) = ob := by rw [hobo]; rfl
   have hgn : getOb [] r.2 (.out 0) ≠ .none := by rw [hg]; intro q; rw [q] at hnew; cases hnew
   have hob : ObRel ρ S' w' ob (ρ' (.out 0)) := by
    have := c1.ob (.out 0)
    rw [hg] at this
    exact newOb_scrub hnew this
   have hb : ∀ b, (ρ' (.out 0)).blk = some b → w.heap.size ≤ b ∧ b < w'.heap.size := fun b q => by
    have := c1.own _ b hgn q
    exact ⟨this.2.resolve_right (hF b), this.1⟩
   have had := hG.adopt hnew hob (fun b q => by
    obtain ⟨b1, b2⟩ := hb b q
    refine ⟨b2, Nat.le_trans h.core.ws b1, fun o hS => ?_, fun m hl q2 => ?_, fun m ho q2 => ?_⟩
    ·obtain ⟨e', s, bb, es, q1, _⟩ := c1.ss _ b o hgn q hS
     rw [hg] at q1
     rw [q1] at hnew; cases hnew
    ·have := (p2.own m b hl q2).1
     omega
    ·have := (p2.fp m b ho q2).1
     omega) (fun ho b q => by
    obtain ⟨b1, b2, b3⟩ := c1.fp (.out 0) b (by rw [hg]; exact ho) q
    have b2 : w.heap.size ≤ b := b2.resolve_right (hF b)
    refine ⟨b1, Nat.le_trans h.core.ws b2, b3, fun m hl q2 => ?_, fun m ho q2 => ?_⟩
    ·have := (p2.own m b hl q2).1
     omega
    ·have := (p2.fp m b ho q2).1
     omega)
   refine ⟨v, _, S', rfl, ⟨had, ?_, h.df, fun t => ?_⟩, ?_⟩
   ·show a.tmps.size = (st.T.map _).length
    exact h.nt
   ·show VD _ _ _ ((st.T.map _).getD t ud) _
    rw [Tm.getD_map rfl]
    exact (((h.tm t).keep (ρ' := ρ) (fun _ => rfl) p1 (fun _ _ _ => rfl)).keep (ρ' := ρ) (fun _ => rfl) c1.s0 c1.sk).scrub_ (fun n hn => if_neg hn)
   ·rcases mkTake_inv hd1 with ⟨es, e1, e2, e3⟩ | ⟨n, cs, e1, e2, e3⟩ | ⟨e, s, es, e1, e2, e3⟩
    ·rw [e1] at c2
     simp only at e3
     rw [e3]
     have c3 : VD ρ' S' w' (.mp (.out 0)) v := c2
     clear c2
     cases c3 with
     | mp c3 => exact .mp ((congrArg Rz.blk (if_pos rfl)).trans c3)
    ·rw [e1] at c2
     simp only at e3
     rw [e3]
     have c3 : VD ρ' S' w' (.ptr (.out 0) 0) v := c2
     clear c2
     cases c3 with
     | ptr c3 => exact .ptr ((congrArg Rz.blk (if_pos rfl)).trans c3)
    ·rw [e1] at c2
     simp only at e3
     rw [e3]
     have c3 : VD ρ' S' w' (.arr (.out 0)) v := c2
     clear c2
     cases c3 with
     | arr c3 =>
      have e4 : ∀ z : Rz, z = ρ' (.out 0) → VD (fun n => if n = .loc st.L.length then z else ρ n) S' w' (.arr (.loc st.L.length)) z.tip := fun z hz => by
       have : VD (fun n => if n = .loc st.L.length then z else ρ n) S' w' (.arr (.loc st.L.length)) ((fun n => if n = .loc st.L.length then z else ρ n) (.loc st.L.length)).tip := .arr (by simp only [if_true]; rw [hz]; exact c3)
       simpa using this
      exact e4 _ rfl
theorem callD_sound {rts : List TypeId} {call : CallF} {κ : Kp} (hcall : CallOK P κ call) (hk : Kx κ cx) (h : Rel cx ρ S st a w) {f : FuncId} {args : List Dv} {vs : Array Value} (hlen : vs.size = args.length) (hargs : ∀ j, j < args.length → VD ρ S w (args.getD j ud) (vs.getD j undef))
 (hrun : (execOp a.eval o).run P w = .ok (.enter f vs) w) {q : Dv × St} (hd : callD P rts call st f args pr = some q) : StepOK P cx o a w q.1 q.2 := by
 unfold callD at hd
 by_cases hw : Cfg.wr f = true
 ·rw [if_pos hw] at hd
  exact callW_sound hcall hk h hlen hargs hrun hd
 rw [if_neg hw] at hd
 by_cases hm : Cfg.mak f = true
 ·rw [if_pos hm] at hd
  exact callM_sound hcall hk h hlen hargs hrun hd
 rw [if_neg hm] at hd
 split at hd
 ·rename_i as hpk
  split at hpk
  ·rename_i hsc
   rw [Bool.or_eq_true] at hsc
   exact callB_sound hcall hk h hlen hargs hrun hpk hsc hd
  ·cases hpk
 by_cases hown : (Cfg.own f || (rts.all (scalT P) && peekish args)) = true
 ·rw [if_pos hown] at hd; cases hd
 rw [if_neg hown] at hd
 split at hd
 ·cases hd
 ·rename_i as L O hprep
  obtain ⟨S1, p1, p2, p3, p4⟩ := prep_sound args h.core (fun j => vs.getD j undef) hargs hprep
  split at hd
  ·rename_i hns
   obtain ⟨r, hr, hd⟩ := Option.bind_eq_some_iff.1 hd
   rw [castRs_bind] at hd
   obtain ⟨ds, hd1, hd⟩ := Option.bind_eq_some_iff.1 hd
   obtain ⟨rfl, hp⟩ := castRs_all hd1
   ·injection hd with hd; subst hd
    refine .inr ⟨f, vs, w, hrun, ?_⟩
    have hcs := p2.start (ns := []) (os := []) (ρc := ρ) List.nodup_nil rfl (fun i m q => by simp at q)
    refine (hcall f as [] r hr w ρ S1 vs (hk.at p2) hcs (by rw [hlen, p3]) (fun j hj => p4 j (by omega))).mono ?_
    rintro e w' ⟨v, ρ', S', rfl, c1, c2⟩
    exact ⟨v, ρ, S', rfl, ⟨p2.after c1, h.nt, h.df, fun t => ((h.tm t).keep (fun _ => rfl) p1 (fun _ _ _ => rfl)).keep (fun _ => rfl) c1.s0 c1.sk⟩, retV_pure hp c2⟩
  ·rename_i n ns' hns
   have hnd : (n :: ns').Nodup := by rw [← hns]; exact closeN_nodup _ _ 3 (addN_nodup _ List.nodup_nil)
   split at hd
   ·rename_i as' os hra hro
    obtain ⟨r, hr, hd⟩ := Option.bind_eq_some_iff.1 hd
    rw [castRs_bind] at hd
    obtain ⟨ds, hd1, hd⟩ := Option.bind_eq_some_iff.1 hd
    obtain ⟨rfl, hp⟩ := castRs_all hd1
    rw [castObs_bind] at hd
    obtain ⟨os1, hd2, hd⟩ := Option.bind_eq_some_iff.1 hd
    split at hd
    case h_2 => cases hd
    rename_i os' hfrom
    injection hd with hd; subst hd
    refine .inr ⟨f, vs, w, hrun, ?_⟩
    let ρc : Nm → Rz := fun m => match m with
     | .out i => match (n :: ns')[i]? with
      | some m' => ρ m'
      | none => ρ m
     | .loc s => ρ m
    have hρ : ∀ i m, (n :: ns')[i]? = some m → ρc (.out i) = ρ m := by
     intro i m hi
     show (match (n :: ns')[i]? with | some m' => ρ m' | none => ρ (.out i)) = ρ m
     rw [hi]
    have hto : ∀ m m', toOut (n :: ns') m = some m' → ρc m' = ρ m := by
     intro m m' hm
     unfold toOut at hm
     split at hm
     ·rename_i i hi
      injection hm with hm; subst hm
      exact hρ i m (idxN_get hi)
     ·cases hm
    obtain ⟨a1, a2⟩ := renDs_get hra
    refine (hcall f as' os r hr w ρc S1 vs (hk.at p2) (p2.start hnd hro hρ) (by rw [hlen, a1, p3]) (fun j hj => (p4 j (by omega)).ren hto _ (a2 j (by omega)))).mono ?_
    rintro e w' ⟨v, ρ', S', rfl, c1, c2⟩
    obtain ⟨z1, z2⟩ := castObs_core hd2 c1
    have hl : os1.length = (n :: ns').length := by rw [z1, (renObs_get hro).1, List.length_map]
    obtain ⟨ρn, b1, b2⟩ := p2.back hnd hro hρ z2 hl hfrom
    refine ⟨v, ρn, S', rfl, ⟨b2, ?_, h.df, fun t => ?_⟩, retV_pure hp c2⟩
    ·show a.tmps.size = (st.T.map _).length
     exact h.nt
    ·show VD _ _ _ ((st.T.map _).getD t ud) _
     rw [Tm.getD_map (scrubAll_ud _)]
     exact VD.scrubAll_ (ρ := ρ) _ b1 (((h.tm t).keep (ρ' := ρ) (fun _ => rfl) p1 (fun _ _ _ => rfl)).keep (fun _ => rfl) c1.s0 c1.sk)
   ·cases hd
end Go.Proofs.YtmnoibkdmeajpaaGreat.Dm
