/- The machine over plain data and memory: calls; what is handed in and comes back. -/
import Derived.Test.YtopogjafbmlfgaaDoorDm11
namespace Go.Proofs.YtopogjafbmlfgaaDoor.Dm
open Go.RowKit
set_option linter.unusedVariables false
set_option linter.unusedSimpArgs false
variable {P : Program} {cx : Cx} {ρ : Nm → Rz} {S : Nat → Nat → Prop} {w : World} {st : St} {a : Act} {o : Oper} {d : Dv}

def cx0 (w : World) (S : Nat → Nat → Prop) (ρ : Nm → Rz) (os : List Ob) : Cx :=
  ⟨w, S, fun b => ∃ m, getOb [] os m ≠ .none ∧ (ρ m).blk = some b, fun i => if isArr (getOb [] os (.out i)) = true then none else some (ρ (.out i))⟩
/-- What is kept of memory throughout: K is true of each world in which the blocks g are as they are. -/
structure Kp where
  g : Nat → Prop
  K : World → Prop
  st : ∀ w w', K w → w.heap.size ≤ w'.heap.size → (∀ b, g b → w'.heap[b]? = w.heap[b]?) → K w'
/-- nothing is kept -/
def Kp.nothing : Kp := ⟨fun _ => False, fun _ => True, fun _ _ _ _ _ => trivial⟩
def KOK (κ : Kp) (w : World) (S : Nat → Nat → Prop) : Prop := κ.K w ∧ ∀ b, κ.g b → b < w.heap.size ∧ ∀ o, S b o
def Kx (κ : Kp) (cx : Cx) : Prop := κ.K cx.w0 ∧ ∀ b, κ.g b → b < cx.w0.heap.size ∧ (∀ o, cx.S0 b o) ∧ ¬ cx.F b
theorem Kx.at {κ : Kp} {L O : List Ob} (hk : Kx κ cx) (h : Core cx ρ S L O w) : KOK κ w S :=
  ⟨κ.st _ _ hk.1 h.ws fun b hb => h.fr b (hk.2 b hb).1 (hk.2 b hb).2.2, fun b hb => ⟨Nat.lt_of_lt_of_le (hk.2 b hb).1 h.ws, fun o => h.s0 _ _ ((hk.2 b hb).2.1 o)⟩⟩
theorem KOK.toCx {κ : Kp} {os : List Ob} (hk : KOK κ w S) (h : Core (cx0 w S ρ os) ρ S [] os w) : Kx κ (cx0 w S ρ os) := by
  refine ⟨hk.1, fun b hb => ⟨(hk.2 b hb).1, (hk.2 b hb).2, ?_⟩⟩
  rintro ⟨m, q1, q2⟩
  obtain ⟨e, s, bb, es, p1, _⟩ := h.ss m b 0 q1 q2 ((hk.2 b hb).2 0)
  obtain ⟨e', s', bb', es', p1', p2⟩ := h.ss m b (es.length * s) q1 q2 ((hk.2 b hb).2 _)
  rw [p1] at p1'
  injection p1' with a1 a2 a3 a4 a5
  subst a2 a5
  exact absurd p2 (Nat.lt_irrefl _)
/-- What a table of calls tells of memory. -/
def CallOK (P : Program) (κ : Kp) (call : CallF) : Prop := ∀ (f : FuncId) (as : List Dv) (os : List Ob) (r : Res), call f as os = some r → ∀ (w : World) (ρ : Nm → Rz) (S : Nat → Nat → Prop) (vs : Array Value), KOK κ w S →
  Core (cx0 w S ρ os) ρ S [] os w → vs.size = as.length → (∀ j, j < as.length → VD ρ S w (as.getD j ud) (vs.getD j undef)) →
    Calls P f vs w fun e w' => ∃ v ρ' S', e = .returned v ∧ Core (cx0 w S ρ os) ρ' S' [] r.2 w' ∧ VD ρ' S' w' (retV r.1) v

/-! ### pure results -/
theorem allP_get : ∀ {ds : List Dv}, allP ds = true → ∀ j, ∃ x, ds.getD j ud = .p x
  | [], _, j => ⟨.undef, by simp⟩
  | .p x :: ds, h, 0 => ⟨x, rfl⟩
  | .p x :: ds, h, j + 1 => by
    obtain ⟨y, hy⟩ := allP_get (ds := ds) h j
    exact ⟨y, by simpa using hy⟩
  | .nilsl _ :: _, h, _ => by cases h
  | .ptr .. :: _, h, _ => by cases h
  | .arr _ :: _, h, _ => by cases h
  | .el .. :: _, h, _ => by cases h
  | .ro .. :: _, h, _ => by cases h
  | .agg .. :: _, h, _ => by cases h
  | .fn .. :: _, h, _ => by cases h
  | .tup _ :: _, h, _ => by cases h
  | .mp _ :: _, h, _ => by cases h
theorem VD.pureOf {ρ' : Nm → Rz} {x : Pd} {v : Value} (h : VD ρ S w (.p x) v) : VD ρ' S w (.p x) v := by
  cases h with | p h => exact .p h
theorem retV_pure {ρ' : Nm → Rz} {ds : List Dv} (h : allP ds = true) {v : Value} (hv : VD ρ S w (retV ds) v) : VD ρ' S w (retV ds) v := by
  unfold retV at hv ⊢
  split at hv
  · obtain ⟨x, hx⟩ := allP_get h 0
    have hx : _ = Dv.p x := hx
    simp only [List.getD_cons_zero] at hx
    rw [hx] at hv ⊢
    exact hv.pureOf
  · cases hv with
    | tup h1 h2 =>
      refine .tup h1 fun j hj => ?_
      obtain ⟨x, hx⟩ := allP_get h j
      have := h2 j hj
      rw [hx] at this ⊢
      exact this.pureOf

/-! ### names turned -/
section
variable {g : Nm → Option Nm} {ρ' : Nm → Rz}
theorem renDs_get : ∀ {ds ds' : List Dv}, renDs g ds = some ds' → ds'.length = ds.length ∧ ∀ j, j < ds.length → renD g (ds.getD j ud) = some (ds'.getD j ud)
  | [], ds', h => by
    simp only [renDs] at h
    injection h with h; subst h
    exact ⟨rfl, fun j hj => by cases hj⟩
  | d :: ds, ds', h => by
    simp only [renDs] at h
    split at h
    · rename_i d1 hd
      split at h
      · rename_i ds1 hds
        injection h with h; subst h
        obtain ⟨q1, q2⟩ := renDs_get hds
        refine ⟨by simp [q1], fun j hj => ?_⟩
        cases j with
        | zero => exact hd
        | succ j => simpa using q2 j (by simpa using hj)
      · cases h
    · cases h
theorem getD_ge {α : Type} {l : List α} {j : Nat} {x : α} (h : l.length ≤ j) : l.getD j x = x := by
  rw [List.getD_eq_getElem?_getD, List.getElem?_eq_none h]; rfl
theorem VD.ren (hg : ∀ m m', g m = some m' → ρ' m' = ρ m) {d : Dv} {v : Value} (h : VD ρ S w d v) : ∀ d', renD g d = some d' → VD ρ' S w d' v := by
  induction h with
  | p h => intro d' hd; simp only [renD] at hd; injection hd with hd; subst hd; exact .p h
  | nilsl => intro d' hd; simp only [renD] at hd; injection hd with hd; subst hd; exact .nilsl
  | ptr h =>
    intro d' hd
    simp only [renD] at hd
    split at hd
    · rename_i m' hm
      injection hd with hd; subst hd
      exact .ptr (by rw [hg _ _ hm]; exact h)
    · cases hd
  | arr h =>
    intro d' hd
    simp only [renD] at hd
    split at hd
    · rename_i m' hm
      injection hd with hd; subst hd
      rw [← hg _ _ hm] at h ⊢
      exact .arr h
    · cases hd
  | el h =>
    intro d' hd
    simp only [renD] at hd
    split at hd
    · rename_i m' hm
      injection hd with hd; subst hd
      exact .el (by rw [hg _ _ hm]; exact h)
    · cases hd
  | mp h =>
    intro d' hd
    simp only [renD] at hd
    split at hd
    · rename_i m' hm
      injection hd with hd; subst hd
      exact .mp (by rw [hg _ _ hm]; exact h)
    · cases hd
  | ro vals h1 h2 h3 => intro d' hd; simp only [renD] at hd; injection hd with hd; subst hd; exact .ro vals h1 h2 h3
  | @agg n ds vs h0 h1 h2 _ ih =>
    intro d' hd
    simp only [renD] at hd
    split at hd
    · rename_i ds' hds
      injection hd with hd; subst hd
      obtain ⟨q1, q2⟩ := renDs_get hds
      refine .agg (by rw [q1]; exact h0) h1 h2 fun j hj => ?_
      by_cases hlt : j < ds.length
      · exact ih j hj _ (q2 j hlt)
      · rw [getD_ge (by omega)]; exact .un
    · cases hd
  | fn h1 _ ih =>
    intro d' hd
    simp only [renD] at hd
    split at hd
    · rename_i ds' hds
      injection hd with hd; subst hd
      obtain ⟨q1, q2⟩ := renDs_get hds
      exact .fn (by rw [q1]; exact h1) fun j hj => ih j (by omega) _ (q2 j (by omega))
    · cases hd
  | tup h1 _ ih =>
    intro d' hd
    simp only [renD] at hd
    split at hd
    · rename_i ds' hds
      injection hd with hd; subst hd
      obtain ⟨q1, q2⟩ := renDs_get hds
      exact .tup (by rw [q1]; exact h1) fun j hj => ih j (by omega) _ (q2 j (by omega))
    · cases hd
theorem ObRel.ren (hg : ∀ m m', g m = some m' → ρ' m' = ρ m) {o o' : Ob} {z : Rz} (h : ObRel ρ S w o z) (ho : renOb g o = some o') : ObRel ρ' S w o' z := by
  cases o with
  | mbox n ds =>
    simp only [renOb] at ho
    split at ho
    · rename_i ds' hds
      injection ho with ho; subst ho
      obtain ⟨q1, q2⟩ := renDs_get hds
      obtain ⟨b, vs, ty, h1, h2, h3, h4, h5⟩ := h
      refine ⟨b, vs, ty, h1, h2, h3, h4, fun j hj => ?_⟩
      by_cases hlt : j < ds.length
      · exact (h5 j hj).ren hg _ (q2 j hlt)
      · rw [getD_ge (by omega)]; exact .un
    · cases ho
  | none => simp only [renOb] at ho; injection ho with ho; subst ho; trivial
  | box n cs => simp only [renOb] at ho; injection ho with ho; subst ho; exact h
  | arr e s b ro es => simp only [renOb] at ho; injection ho with ho; subst ho; exact h
  | map es => simp only [renOb] at ho; injection ho with ho; subst ho; exact h
theorem renOb_isArr {o o' : Ob} (ho : renOb g o = some o') : isArr o' = isArr o := by
  cases o with
  | mbox n ds =>
    simp only [renOb] at ho
    split at ho
    · injection ho with ho; subst ho; rfl
    · cases ho
  | _ => simp only [renOb] at ho; injection ho with ho; subst ho; rfl
theorem renOb_none {o o' : Ob} (ho : renOb g o = some o') (h : o = .none) : o' = .none := by
  subst h; simp only [renOb] at ho; injection ho with ho; exact ho.symm
theorem renOb_none' {o o' : Ob} (ho : renOb g o = some o') (h : o' = .none) : o = .none := by
  subst h
  cases o with
  | mbox n ds =>
    simp only [renOb] at ho
    split at ho <;> cases ho
  | none => rfl
  | _ => simp only [renOb] at ho; cases ho
theorem renOb_arr {o o' : Ob} (ho : renOb g o = some o') {e s b : Nat} {ro : Bool} {es : List (List Pd)} (h : o = .arr e s b ro es) : o' = .arr e s b ro es := by
  subst h; simp only [renOb] at ho; injection ho with ho; exact ho.symm
theorem renOb_arr' {o o' : Ob} (ho : renOb g o = some o') {e s b : Nat} {ro : Bool} {es : List (List Pd)} (h : o' = .arr e s b ro es) : o = .arr e s b ro es := by
  subst h
  cases o with
  | mbox n ds =>
    simp only [renOb] at ho
    split at ho <;> cases ho
  | _ => simp only [renOb] at ho; injection ho
theorem renObs_get : ∀ {ds ds' : List Ob}, renObs g ds = some ds' → ds'.length = ds.length ∧ ∀ j, renOb g (ds.getD j .none) = some (ds'.getD j .none)
  | [], ds', h => by
    simp only [renObs] at h
    injection h with h; subst h
    exact ⟨rfl, fun j => rfl⟩
  | d :: ds, ds', h => by
    simp only [renObs] at h
    split at h
    · rename_i d1 hd
      split at h
      · rename_i ds1 hds
        injection h with h; subst h
        obtain ⟨q1, q2⟩ := renObs_get hds
        refine ⟨by simp [q1], fun j => ?_⟩
        cases j with
        | zero => exact hd
        | succ j => simpa using q2 j
      · cases h
    · cases h
end

/-! ### names numbered -/
theorem idxN_get : ∀ {ns : List Nm} {m : Nm} {i : Nat}, idxN m ns = some i → ns[i]? = some m
  | [], m, i, h => by cases h
  | n :: ns, m, i, h => by
    simp only [idxN] at h
    split at h
    · rename_i e
      injection h with h; subst h
      rw [e]; rfl
    · split at h
      · rename_i j hj
        injection h with h; subst h
        simpa using idxN_get hj
      · cases h
theorem idxN_of : ∀ {ns : List Nm} {m : Nm} {i : Nat}, ns.Nodup → ns[i]? = some m → idxN m ns = some i
  | [], m, i, _, h => by simp at h
  | n :: ns, m, i, hn, h => by
    simp only [idxN]
    cases i with
    | zero => simp at h; rw [if_pos h]
    | succ i =>
      have h : ns[i]? = some m := by simpa using h
      have hne : n ≠ m := fun q => by
        rw [List.nodup_cons] at hn
        exact hn.1 (q ▸ List.mem_of_getElem? h)
      rw [if_neg hne, idxN_of (List.nodup_cons.1 hn).2 h]
theorem idxN_none {ns : List Nm} {m : Nm} (h : idxN m ns = none) : m ∉ ns := by
  induction ns with
  | nil => exact fun q => by cases q
  | cons n ns ih =>
    simp only [idxN] at h
    split at h
    · cases h
    · rename_i hne
      split at h
      · cases h
      · rename_i hn
        intro q
        rcases List.mem_cons.1 q with q | q
        · exact hne q.symm
        · exact ih hn q
theorem addN_nodup : ∀ (ms : List Nm) {ns : List Nm}, ns.Nodup → (addN ns ms).Nodup
  | [], ns, h => h
  | m :: ms, ns, h => by
    simp only [addN]
    split
    · exact addN_nodup ms h
    · rename_i hm
      refine addN_nodup ms ?_
      rw [List.nodup_append]
      exact ⟨h, by simp, fun x hx y hy => by
        rw [List.mem_singleton] at hy
        subst hy
        exact fun q => hm (q ▸ hx)⟩
theorem closeN_nodup (L O : List Ob) : ∀ (k : Nat) {ns : List Nm}, ns.Nodup → (closeN L O k ns).Nodup
  | 0, ns, h => h
  | k + 1, ns, h => by
    simp only [closeN]
    exact closeN_nodup L O k (addN_nodup _ h)

theorem backAll_get : ∀ (ns : List Nm) (os L O : List Ob), ns.Nodup → os.length = ns.length → (∀ m, m ∉ ns → getOb (backAll L O ns os).1 (backAll L O ns os).2 m = getOb L O m) ∧
    ∀ i m, ns[i]? = some m → getOb (backAll L O ns os).1 (backAll L O ns os).2 m = os.getD i .none ∨ getOb (backAll L O ns os).1 (backAll L O ns os).2 m = .none
  | [], os, L, O, _, hl => ⟨fun m _ => by cases os <;> rfl, fun i m h => by simp at h⟩
  | n :: ns, [], L, O, _, hl => by cases hl
  | n :: ns, o :: os, L, O, hn, hl => by
    obtain ⟨hn1, hn2⟩ := List.nodup_cons.1 hn
    obtain ⟨q1, q2⟩ := backAll_get ns os (setL L n o) (setO O n o) hn2 (by simpa using hl)
    simp only [backAll]
    refine ⟨fun m hm => ?_, fun i m hi => ?_⟩
    · rw [q1 m (fun q => hm (List.mem_cons_of_mem _ q)), getOb_ne L O (m := n) (m' := m) (fun q => hm (by rw [q]; exact List.mem_cons_self ..))]
    · cases i with
      | zero =>
        simp at hi
        subst hi
        rw [q1 n hn1]
        rcases getOb_set L O n n o with q | ⟨_, q⟩
        · by_cases hz : getOb L O n = .none
          · right; rw [q, hz]
          · left; rw [getOb_self L O hz]; rfl
        · left; rw [q]; rfl
      | succ i =>
        rcases q2 i m (by simpa using hi) with q | q
        · left; rw [q]; rfl
        · right; exact q

/-! ### many names forgotten -/
theorem VD.scrubAll_ {ρ' : Nm → Rz} {v : Value} : ∀ (ms : List Nm) {ρ : Nm → Rz} {d : Dv}, (∀ m, m ∉ ms → ρ' m = ρ m) → VD ρ S w d v → VD ρ' S w (scrubAll ms d) v
  | [], ρ, d, hr, h => by
    have : ρ' = ρ := funext fun m => hr m (fun q => by cases q)
    subst this; exact h
  | m :: ms, ρ, d, hr, h => by
    refine VD.scrubAll_ (ρ := fun n => if n = m then ρ' m else ρ n) ms (fun n hn => ?_) (h.scrub_ (fun n hn => if_neg hn))
    by_cases e : n = m
    · rw [if_pos e, e]
    · rw [if_neg e]; exact hr n (fun q => by rcases List.mem_cons.1 q with q | q <;> contradiction)
theorem ObRel.scrubAll_ {ρ' : Nm → Rz} {z : Rz} : ∀ (ms : List Nm) {ρ : Nm → Rz} {d : Ob}, (∀ m, m ∉ ms → ρ' m = ρ m) → ObRel ρ S w d z → ObRel ρ' S w (scrubObAll ms d) z
  | [], ρ, d, hr, h => by
    have : ρ' = ρ := funext fun m => hr m (fun q => by cases q)
    subst this; exact h
  | m :: ms, ρ, d, hr, h => by
    refine ObRel.scrubAll_ (ρ := fun n => if n = m then ρ' m else ρ n) ms (fun n hn => ?_) (h.scrub_ (fun n hn => if_neg hn))
    by_cases e : n = m
    · rw [if_pos e, e]
    · rw [if_neg e]; exact hr n (fun q => by rcases List.mem_cons.1 q with q | q <;> contradiction)
theorem scrubAll_ud : ∀ (ms : List Nm), scrubAll ms ud = ud
  | [] => rfl
  | m :: ms => scrubAll_ud ms
theorem scrubObAll_none : ∀ (ms : List Nm), scrubObAll ms .none = .none
  | [] => rfl
  | m :: ms => scrubObAll_none ms
theorem scrubObAll_arr : ∀ (ms : List Nm) {o : Ob} {e s b : Nat} {ro : Bool} {es : List (List Pd)}, o = .arr e s b ro es → scrubObAll ms o = .arr e s b ro es
  | [], _, _, _, _, _, _, h => h
  | m :: ms, _, _, _, _, _, _, h => scrubObAll_arr ms (scrubOb_arr h)
theorem scrubObAll_eq_none : ∀ (ms : List Nm) {o : Ob}, scrubObAll ms o = .none → o = .none
  | [], _, h => h
  | m :: ms, o, h => scrubOb_eq_none (scrubObAll_eq_none ms h)
theorem scrubObAll_isArr : ∀ (ms : List Nm) (o : Ob), isArr (scrubObAll ms o) = isArr o
  | [], _ => rfl
  | m :: ms, o => (scrubObAll_isArr ms (scrubOb m o)).trans (isArr_scrub m o)

/-! ### back from a call -/
theorem Core.back {L O : List Ob} (h : Core cx ρ S L O w) {ns : List Nm} (hnd : ns.Nodup) {os os1 os' : List Ob} (hos : renObs (toOut ns) (ns.map (getOb L O)) = some os) {ρc ρc' : Nm → Rz} {S' : Nat → Nat → Prop} {w' : World}
    (hρ : ∀ i m, ns[i]? = some m → ρc (.out i) = ρ m) (hc : Core (cx0 w S ρc os) ρc' S' [] os1 w') (hl : os1.length = ns.length) (hr : renObs (fromOut ns) os1 = some os') :
    ∃ ρ' : Nm → Rz, (∀ m, m ∉ (ns.filter fun m => isArr (getOb L O m)) → ρ' m = ρ m) ∧ Core cx ρ' S' (wb L O ns os').1 (wb L O ns os').2 w' := by
  obtain ⟨o1, o2⟩ := renObs_get hos
  obtain ⟨r1, r2⟩ := renObs_get hr
  rw [List.length_map] at o1
  have hosi : ∀ i m, ns[i]? = some m → renOb (toOut ns) (getOb L O m) = some (os.getD i .none) := by
    intro i m hi
    have := o2 i
    rw [List.getD_eq_getElem?_getD, List.getElem?_map, hi] at this
    exact this
  -- the blocks that were handed in
  have hF : ∀ b, (cx0 w S ρc os).F b → ∃ m, m ∈ ns ∧ getOb L O m ≠ .none ∧ (ρ m).blk = some b := by
    rintro b ⟨m, q1, q2⟩
    cases m with
    | loc s => simp [getOb] at q1
    | out i =>
      have hlt : i < ns.length := by
        rcases Nat.lt_or_ge i ns.length with q | q
        · exact q
        · exact absurd (getD_ge (by omega)) q1
      have hi : ns[i]? = some ns[i] := List.getElem?_eq_getElem hlt
      refine ⟨ns[i], List.getElem_mem _, fun q => q1 (renOb_none (hosi i _ hi) q), ?_⟩
      rw [← hρ i _ hi]; exact q2
  have hws : w.heap.size ≤ w'.heap.size := hc.ws
  let ρ' : Nm → Rz := fun m => match idxN m ns with
    | some i => ρc' (.out i)
    | none => ρ m
  have hin : ∀ i m, ns[i]? = some m → ρ' m = ρc' (.out i) := by
    intro i m hi
    show (match idxN m ns with | some i => ρc' (.out i) | none => ρ m) = _
    rw [idxN_of hnd hi]
  have hout : ∀ m, m ∉ ns → ρ' m = ρ m := by
    intro m hm
    show (match idxN m ns with | some i => ρc' (.out i) | none => ρ m) = _
    cases hx : idxN m ns with
    | none => rfl
    | some i => exact absurd (List.mem_of_getElem? (idxN_get hx)) hm
  have hbox : ∀ i m, ns[i]? = some m → isArr (getOb L O m) = false → ρ' m = ρ m ∧ isArr (os1.getD i .none) = false := by
    intro i m hi ha
    have hb : (cx0 w S ρc os).B i = some (ρc (.out i)) := by
      show (if isArr (getOb [] os (.out i)) = true then none else some (ρc (.out i))) = _
      rw [if_neg]
      show ¬ isArr (os.getD i .none) = true
      rw [renOb_isArr (hosi i m hi), ha]
      exact Bool.noConfusion
    obtain ⟨q1, q2⟩ := hc.bx i _ hb
    exact ⟨by rw [hin i m hi, q1, hρ i m hi], q2⟩
  have harr : ∀ m, m ∉ (ns.filter fun m => isArr (getOb L O m)) → ρ' m = ρ m := by
    intro m hm
    by_cases hmn : m ∈ ns
    · obtain ⟨i, hi⟩ := List.getElem?_of_mem hmn
      cases ha : isArr (getOb L O m) with
      | false => exact (hbox i m hi ha).1
      | true => exact absurd (List.mem_filter.2 ⟨hmn, ha⟩) hm
    · exact hout m hmn
  refine ⟨ρ', harr, ?_⟩
  have hfrom : ∀ m m', fromOut ns m = some m' → ρ' m' = ρc' m := by
    intro m m' hm
    cases m with
    | loc s => cases hm
    | out i => exact hin i m' hm
  obtain ⟨g1, g2⟩ := backAll_get ns os' (L.map (scrubObAll (ns.filter fun m => isArr (getOb L O m)))) (O.map (scrubObAll (ns.filter fun m => isArr (getOb L O m)))) hnd (by rw [r1]; exact hl)
  have h1 : ∀ m, m ∉ ns → getOb (wb L O ns os').1 (wb L O ns os').2 m = scrubObAll (ns.filter fun m => isArr (getOb L O m)) (getOb L O m) := fun m hm => (g1 m hm).trans (getOb_map L O (scrubObAll_none _) m)
  have h2 : ∀ i m, ns[i]? = some m → getOb (wb L O ns os').1 (wb L O ns os').2 m = os'.getD i .none ∨ getOb (wb L O ns os').1 (wb L O ns os').2 m = .none := g2
  have hlive1 : ∀ m, m ∉ ns → getOb (wb L O ns os').1 (wb L O ns os').2 m ≠ .none → getOb L O m ≠ .none := by
    intro m hm q q'
    exact q (by rw [h1 m hm, q', scrubObAll_none])
  have hlive2 : ∀ i m, ns[i]? = some m → getOb (wb L O ns os').1 (wb L O ns os').2 m ≠ .none → getOb (wb L O ns os').1 (wb L O ns os').2 m = os'.getD i .none ∧ getOb [] os1 (.out i) ≠ .none := by
    intro i m hi q
    rcases h2 i m hi with q' | q'
    · refine ⟨q', fun q'' => q ?_⟩
      rw [q']
      exact renOb_none (r2 i) q''
    · exact absurd q' q
  -- the block of a name that was not handed in
  have hapart : ∀ m b, m ∉ ns → getOb L O m ≠ .none → (ρ m).blk = some b → ¬ (cx0 w S ρc os).F b := by
    intro m b hm hlm hb q
    obtain ⟨m', q1, q2, q3⟩ := hF b q
    exact hm (h.ne m m' b hlm q2 hb q3 ▸ q1)
  have hcell : ∀ b o, S b o → w'.cell? ⟨b, o, none⟩ = w.cell? ⟨b, o, none⟩ := hc.sk
  have hownF : ∀ b, (cx0 w S ρc os).F b → b < w.heap.size ∧ (cx.w0.heap.size ≤ b ∨ cx.F b) := by
    intro b q
    obtain ⟨m, q1, q2, q3⟩ := hF b q
    exact h.own m b q2 q3
  refine ⟨fun m => ?_, fun m1 m2 b hl1 hl2 q1 q2 => ?_, fun m b o' hlm q hS => ?_, fun m b hlm q => ?_, hc.sb, fun b o' q => hc.s0 b o' (h.s0 b o' q), fun b o' q => ?_, fun b hb hFb => ?_, fun b o' q => (hcell b o' (h.s0 b o' q)).trans (h.sk b o' q), Nat.le_trans h.ws hws, hc.os.trans h.os, hc.tape.trans h.tape, hc.output.trans h.output, fun i z q => ?_⟩
  · by_cases hm : m ∈ ns
    · obtain ⟨i, hi⟩ := List.getElem?_of_mem hm
      rcases h2 i m hi with q | q
      · rw [q, hin i m hi]
        exact (hc.ob (.out i)).ren hfrom (r2 i)
      · rw [q]; trivial
    · rw [h1 m hm]
      by_cases hlm : getOb L O m = .none
      · rw [hlm, scrubObAll_none]; trivial
      · refine ObRel.scrubAll_ (ρ := ρ) _ harr ?_
        rw [hout m hm]
        exact (h.ob m).keep (fun _ => rfl) hc.s0 hcell (fun b q => hc.fr b (h.own m b hlm q).1 (hapart m b hm hlm q))
  · by_cases e1 : m1 ∈ ns
    · obtain ⟨i1, hi1⟩ := List.getElem?_of_mem e1
      obtain ⟨_, p1⟩ := hlive2 i1 m1 hi1 hl1
      rw [hin i1 m1 hi1] at q1
      by_cases e2 : m2 ∈ ns
      · obtain ⟨i2, hi2⟩ := List.getElem?_of_mem e2
        obtain ⟨_, p2⟩ := hlive2 i2 m2 hi2 hl2
        rw [hin i2 m2 hi2] at q2
        have := hc.ne _ _ b p1 p2 q1 q2
        injection this with this
        subst this
        rw [hi1] at hi2
        injection hi2
      · exfalso
        rw [hout m2 e2] at q2
        have hl2' := hlive1 m2 e2 hl2
        rcases (hc.own _ b p1 q1).2 with q | q
        · have := (h.own m2 b hl2' q2).1
          have q : w.heap.size ≤ b := q
          omega
        · exact hapart m2 b e2 hl2' q2 q
    · by_cases e2 : m2 ∈ ns
      · exfalso
        obtain ⟨i2, hi2⟩ := List.getElem?_of_mem e2
        obtain ⟨_, p2⟩ := hlive2 i2 m2 hi2 hl2
        rw [hin i2 m2 hi2] at q2
        rw [hout m1 e1] at q1
        have hl1' := hlive1 m1 e1 hl1
        rcases (hc.own _ b p2 q2).2 with q | q
        · have := (h.own m1 b hl1' q1).1
          have q : w.heap.size ≤ b := q
          omega
        · exact hapart m1 b e1 hl1' q1 q
      · rw [hout m1 e1] at q1
        rw [hout m2 e2] at q2
        exact h.ne m1 m2 b (hlive1 m1 e1 hl1) (hlive1 m2 e2 hl2) q1 q2
  · by_cases e : m ∈ ns
    · obtain ⟨i, hi⟩ := List.getElem?_of_mem e
      obtain ⟨p1, p2⟩ := hlive2 i m hi hlm
      rw [hin i m hi] at q
      obtain ⟨e', s, bb, es, q1, q2⟩ := hc.ss _ b o' p2 q hS
      exact ⟨e', s, bb, es, p1.trans (renOb_arr (r2 i) q1), q2⟩
    · rw [hout m e] at q
      have hlm' := hlive1 m e hlm
      rcases hc.sn b o' hS with q' | q' | q'
      · obtain ⟨e', s, bb, es, q1, q2⟩ := h.ss m b o' hlm' q q'
        exact ⟨e', s, bb, es, by rw [h1 m e]; exact scrubObAll_arr _ q1, q2⟩
      · have := (h.own m b hlm' q).1
        have q' : w.heap.size ≤ b := q'
        omega
      · exact absurd q' (hapart m b e hlm' q)
  · by_cases e : m ∈ ns
    · obtain ⟨i, hi⟩ := List.getElem?_of_mem e
      obtain ⟨p1, p2⟩ := hlive2 i m hi hlm
      rw [hin i m hi] at q
      obtain ⟨q1, q2⟩ := hc.own _ b p2 q
      refine ⟨q1, ?_⟩
      rcases q2 with q2 | q2
      · exact .inl (Nat.le_trans h.ws q2)
      · exact (hownF b q2).2
    · rw [hout m e] at q
      obtain ⟨q1, q2⟩ := h.own m b (hlive1 m e hlm) q
      exact ⟨Nat.lt_of_lt_of_le q1 hws, q2⟩
  · rcases hc.sn b o' q with q' | q' | q'
    · exact h.sn b o' q'
    · exact .inr (.inl (Nat.le_trans h.ws q'))
    · exact .inr (hownF b q').2
  · refine (hc.fr b (Nat.lt_of_lt_of_le hb h.ws) (fun q => ?_)).trans (h.fr b hb hFb)
    rcases (hownF b q).2 with q' | q'
    · omega
    · exact hFb q'
  · obtain ⟨q1, q2⟩ := h.bx i z q
    by_cases e : Nm.out i ∈ ns
    · obtain ⟨j, hj⟩ := List.getElem?_of_mem e
      obtain ⟨p1, p2⟩ := hbox j _ hj q2
      refine ⟨p1.trans q1, ?_⟩
      rcases h2 j _ hj with q' | q'
      · rw [q', renOb_isArr (r2 j)]; exact p2
      · rw [q']; rfl
    · rw [hout _ e, h1 _ e, scrubObAll_isArr]
      exact ⟨q1, q2⟩
/-- Back from a call that was handed nothing to write. -/
theorem Core.after {L O : List Ob} (h : Core cx ρ S L O w) {ρc ρc' : Nm → Rz} {os1 : List Ob} {S' : Nat → Nat → Prop} {w' : World} (hc : Core (cx0 w S ρc []) ρc' S' [] os1 w') : Core cx ρ S' L O w' := by
  have hF : ∀ b, ¬ (cx0 w S ρc []).F b := by
    rintro b ⟨m, q1, q2⟩
    cases m <;> simp [getOb] at q1
  have hcell : ∀ b o, S b o → w'.cell? ⟨b, o, none⟩ = w.cell? ⟨b, o, none⟩ := hc.sk
  have hws : w.heap.size ≤ w'.heap.size := hc.ws
  refine ⟨fun m => ?_, h.ne, fun m b o' hlm q hS => ?_, fun m b hlm q => ?_, hc.sb, fun b o' q => hc.s0 b o' (h.s0 b o' q), fun b o' q => ?_, fun b hb hFb => (hc.fr b (Nat.lt_of_lt_of_le hb h.ws) (hF b)).trans (h.fr b hb hFb), fun b o' q => (hcell b o' (h.s0 b o' q)).trans (h.sk b o' q), Nat.le_trans h.ws hws, hc.os.trans h.os, hc.tape.trans h.tape, hc.output.trans h.output, h.bx⟩
  · by_cases hlm : getOb L O m = .none
    · rw [hlm]; trivial
    · exact (h.ob m).keep (fun _ => rfl) hc.s0 hcell (fun b q => hc.fr b (h.own m b hlm q).1 (hF b))
  · rcases hc.sn b o' hS with q' | q' | q'
    · exact h.ss m b o' hlm q q'
    · have := (h.own m b hlm q).1
      have q' : w.heap.size ≤ b := q'
      omega
    · exact absurd q' (hF b)
  · obtain ⟨q1, q2⟩ := h.own m b hlm q
    exact ⟨Nat.lt_of_lt_of_le q1 hws, q2⟩
  · rcases hc.sn b o' q with q' | q' | q'
    · exact h.sn b o' q'
    · exact .inr (.inl (Nat.le_trans h.ws q'))
    · exact absurd q' (hF b)

/-! ### what is handed in -/
theorem prep_sound : ∀ (ds : List Dv) {S : Nat → Nat → Prop} {L O : List Ob} {w : World} (h : Core cx ρ S L O w) (vals : Nat → Value) (hd : ∀ j, j < ds.length → VD ρ S w (ds.getD j ud) (vals j)) {as : List Dv} {L' O' : List Ob} (hv : prep L O ds = some (as, L', O')),
    ∃ S' : Nat → Nat → Prop, (∀ b o, S b o → S' b o) ∧ Core cx ρ S' L' O' w ∧ as.length = ds.length ∧ ∀ j, j < ds.length → VD ρ S' w (as.getD j ud) (vals j)
  | [], S, L, O, w, h, vals, hd, as, L', O', hv => by
    simp only [prep] at hv
    injection hv with hv; injection hv with e1 e2; injection e2 with e2 e3; subst e1 e2 e3
    exact ⟨S, fun _ _ q => q, h, rfl, fun j hj => by cases hj⟩
  | d :: ds, S, L, O, w, h, vals, hd, as, L', O', hv => by
    simp only [prep] at hv
    split at hv
    · rename_i d1 L1 O1 hx
      split at hv
      · rename_i ds1 L2 O2 hy
        injection hv with hv; injection hv with e1 e2; injection e2 with e2 e3; subst e1 e2 e3
        have h0 : VD ρ S w d (vals 0) := hd 0 (by simp)
        have one : ∃ S1 : Nat → Nat → Prop, (∀ b o, S b o → S1 b o) ∧ Core cx ρ S1 L1 O1 w ∧ VD ρ S1 w d1 (vals 0) := by
          split at hx
          · injection hx with hx; injection hx with e1 e2; injection e2 with e2 e3; subst e1 e2 e3
            exact ⟨S, fun _ _ q => q, h, h0⟩
          · injection hx with hx; injection hx with e1 e2; injection e2 with e2 e3; subst e1 e2 e3
            exact ⟨S, fun _ _ q => q, h, h0⟩
          · injection hx with hx; injection hx with e1 e2; injection e2 with e2 e3; subst e1 e2 e3
            exact ⟨S, fun _ _ q => q, h, h0⟩
          · split at hx
            · rename_i x L3 O3 hv3
              injection hx with hx; injection hx with e1 e2; injection e2 with e2 e3; subst e1 e2 e3
              obtain ⟨S1, q1, q2, q3⟩ := view_sound h h0 hv3
              exact ⟨S1, q1, q2, .p q3⟩
            · cases hx
        obtain ⟨S1, q1, q2, q3⟩ := one
        obtain ⟨S2, q4, q5, q6, q7⟩ := prep_sound ds q2 (fun j => vals (j + 1)) (fun j hj => (hd (j + 1) (by simpa using hj)).keep (fun _ => rfl) q1 (fun _ _ _ => rfl)) hy
        refine ⟨S2, fun b o q => q4 _ _ (q1 _ _ q), q5, by simp [q6], fun j hj => ?_⟩
        cases j with
        | zero => exact q3.keep (fun _ => rfl) q4 (fun _ _ _ => rfl)
        | succ j => exact q7 j (by simpa using hj)
      · cases hv
    · cases hv

theorem Core.start {L O : List Ob} (h : Core cx ρ S L O w) {ns : List Nm} (hnd : ns.Nodup) {os : List Ob} (hos : renObs (toOut ns) (ns.map (getOb L O)) = some os) {ρc : Nm → Rz}
    (hρ : ∀ i m, ns[i]? = some m → ρc (.out i) = ρ m) : Core (cx0 w S ρc os) ρc S [] os w := by
  obtain ⟨o1, o2⟩ := renObs_get hos
  rw [List.length_map] at o1
  have hosi : ∀ i m, ns[i]? = some m → renOb (toOut ns) (getOb L O m) = some (os.getD i .none) := by
    intro i m hi
    have := o2 i
    rw [List.getD_eq_getElem?_getD, List.getElem?_map, hi] at this
    exact this
  have hto : ∀ m m', toOut ns m = some m' → ρc m' = ρ m := by
    intro m m' hm
    unfold toOut at hm
    split at hm
    · rename_i i hi
      injection hm with hm; subst hm
      exact hρ i m (idxN_get hi)
    · cases hm
  have hlive : ∀ m, getOb [] os m ≠ .none → ∃ i n, m = .out i ∧ ns[i]? = some n ∧ getOb L O n ≠ .none ∧ ρc m = ρ n ∧ renOb (toOut ns) (getOb L O n) = some (getOb [] os m) := by
    intro m q
    cases m with
    | loc s => simp [getOb] at q
    | out i =>
      have hlt : i < ns.length := by
        rcases Nat.lt_or_ge i ns.length with q' | q'
        · exact q'
        · exact absurd (getD_ge (by omega)) q
      have hi : ns[i]? = some ns[i] := List.getElem?_eq_getElem hlt
      exact ⟨i, ns[i], rfl, hi, fun q' => q (renOb_none (hosi i _ hi) q'), hρ i _ hi, hosi i _ hi⟩
  refine ⟨fun m => ?_, fun m1 m2 b hl1 hl2 q1 q2 => ?_, fun m b o' hlm q hS => ?_, fun m b hlm q => ?_, h.sb, fun _ _ q => q, fun _ _ q => .inl q, fun _ _ _ => rfl, fun _ _ _ => rfl, Nat.le_refl _, rfl, rfl, rfl, fun i z q => ?_⟩
  · by_cases hlm : getOb [] os m = .none
    · rw [hlm]; trivial
    · obtain ⟨i, n, rfl, hi, q1, q2, q3⟩ := hlive m hlm
      rw [q2]
      exact (h.ob n).ren hto q3
  · obtain ⟨i1, n1, rfl, hi1, p1, p2, p3⟩ := hlive m1 hl1
    obtain ⟨i2, n2, rfl, hi2, r1, r2, r3⟩ := hlive m2 hl2
    rw [p2] at q1
    rw [r2] at q2
    have := h.ne n1 n2 b p1 r1 q1 q2
    subst this
    have e1 := idxN_of hnd hi1
    rw [idxN_of hnd hi2] at e1
    injection e1 with e1
    rw [e1]
  · obtain ⟨i, n, rfl, hi, p1, p2, p3⟩ := hlive m hlm
    rw [p2] at q
    obtain ⟨e', s, bb, es, q1, q2⟩ := h.ss n b o' p1 q hS
    exact ⟨e', s, bb, es, renOb_arr p3 q1, q2⟩
  · obtain ⟨i, n, rfl, hi, p1, p2, p3⟩ := hlive m hlm
    refine ⟨(h.own n b p1 (p2 ▸ q)).1, .inr ⟨_, hlm, q⟩⟩
  · have q : (if isArr (getOb [] os (.out i)) = true then none else some (ρc (.out i))) = some z := q
    split at q
    · cases q
    · rename_i hx
      injection q with q
      exact ⟨q, by simpa using hx⟩

theorem castP_eq {t : TypeId} {x y : Pd} (h : castP P t x some = some y) : y = x ∧ x ≠ .undef := by
  unfold castP at h
  split at h
  · obtain ⟨n, h1, h2⟩ := Option.bind_eq_some_iff.1 h
    injection h2 with h2; subst h2
    cases x <;> simp [Dm.asInt] at h1 ⊢
    obtain ⟨rfl, rfl⟩ := h1; simp
  · obtain ⟨n, h1, h2⟩ := Option.bind_eq_some_iff.1 h
    injection h2 with h2; subst h2
    cases x <;> simp [Dm.asBool] at h1 ⊢
    exact h1.symm
  · obtain ⟨n, h1, h2⟩ := Option.bind_eq_some_iff.1 h
    injection h2 with h2; subst h2
    cases x <;> simp [asStr] at h1 ⊢
    exact h1.symm
  · obtain ⟨n, h1, h2⟩ := Option.bind_eq_some_iff.1 h
    injection h2 with h2; subst h2
    cases x <;> simp [asSl] at h1 ⊢
    obtain ⟨rfl, rfl⟩ := h1; simp
  · obtain ⟨n, h1, h2⟩ := Option.bind_eq_some_iff.1 h
    injection h2 with h2; subst h2
    cases x <;> simp [asAgg] at h1 ⊢
    obtain ⟨rfl, rfl⟩ := h1; simp
  · obtain ⟨n, h1, h2⟩ := Option.bind_eq_some_iff.1 h
    injection h2 with h2; subst h2
    cases x <;> simp [asFn] at h1 ⊢
    exact h1.symm
  · cases h
theorem castRs_eq {r : List Dv} : ∀ (ts : List TypeId) (i : Nat) (acc ds : List Dv), castRs P r some i ts acc = some ds → ∃ ys : List Pd, ds = acc ++ ys.map .p ∧ r.drop i = ys.map .p
  | [], i, acc, ds, h => by
    simp only [castRs] at h
    split at h
    · rename_i e
      injection h with h; subst h
      exact ⟨[], by simp, by rw [List.drop_eq_nil_of_le (by omega)]; rfl⟩
    · cases h
  | t :: ts, i, acc, ds, h => by
    simp only [castRs] at h
    rw [castP_bind] at h
    obtain ⟨y, h1, h2⟩ := Option.bind_eq_some_iff.1 h
    obtain ⟨rfl, hne⟩ := castP_eq h1
    obtain ⟨ys, q1, q2⟩ := castRs_eq ts (i + 1) _ ds h2
    refine ⟨pAt i r :: ys, by rw [q1]; simp, ?_⟩
    unfold pAt at hne ⊢
    rw [List.getD_eq_getElem?_getD] at hne ⊢
    rcases Nat.lt_or_ge i r.length with hlt | hge
    · rw [List.drop_eq_getElem_cons hlt, q2]
      rw [List.getElem?_eq_getElem hlt] at hne ⊢
      simp only [Option.getD_some] at hne ⊢
      cases hx : r[i] <;> rw [hx] at hne <;> first | rfl | exact absurd rfl hne
    · rw [List.getElem?_eq_none hge] at hne
      exact absurd rfl hne
theorem allP_map : ∀ ys : List Pd, allP (ys.map .p) = true
  | [] => rfl
  | y :: ys => allP_map ys
theorem castRs_all {r : List Dv} {ts : List TypeId} {ds : List Dv} (h : castRs P r some 0 ts [] = some ds) : ds = r ∧ allP r = true := by
  obtain ⟨ys, q1, q2⟩ := castRs_eq ts 0 [] ds h
  simp only [List.drop_zero, List.nil_append] at q1 q2
  exact ⟨q1.trans q2.symm, by rw [q2]; exact allP_map ys⟩
theorem castObs_eq {r : List Ob} {g : Nm → Option Nm} : ∀ (l : List Ob) (i : Nat) (acc os : List Ob), castObs r some i l acc = some os → ∃ zs : List Ob, os = acc ++ zs ∧ r.drop i = zs ∧ renObs g zs = some zs ∧ zs.length = l.length
  | [], i, acc, os, h => by
    simp only [castObs] at h
    split at h
    · rename_i e
      injection h with h; subst h
      exact ⟨[], by simp, List.drop_eq_nil_of_le (by omega), rfl, rfl⟩
    · cases h
  | .box n cs :: l, i, acc, os, h => by
    simp only [castObs] at h
    obtain ⟨cs', h1, h2⟩ := Option.bind_eq_some_iff.1 h
    obtain ⟨zs, q1, q2, q3, q4⟩ := castObs_eq (g := g) l (i + 1) _ os h2
    refine ⟨.box n cs' :: zs, by rw [q1]; simp, ?_, by simp only [renObs, renOb, q3], by simp [q4]⟩
    rw [List.getD_eq_getElem?_getD] at h1
    rcases Nat.lt_or_ge i r.length with hlt | hge
    · rw [List.drop_eq_getElem_cons hlt, q2]
      rw [List.getElem?_eq_getElem hlt] at h1
      simp only [Option.getD_some] at h1
      cases hx : r[i] <;> rw [hx] at h1 <;> simp [asBox] at h1
      obtain ⟨rfl, rfl⟩ := h1; rfl
    · rw [List.getElem?_eq_none hge] at h1
      cases h1
  | .arr e s b ro es :: l, i, acc, os, h => by
    simp only [castObs] at h
    obtain ⟨cs', h1, h2⟩ := Option.bind_eq_some_iff.1 h
    obtain ⟨zs, q1, q2, q3, q4⟩ := castObs_eq (g := g) l (i + 1) _ os h2
    refine ⟨.arr e s b ro cs' :: zs, by rw [q1]; simp, ?_, by simp only [renObs, renOb, q3], by simp [q4]⟩
    rw [List.getD_eq_getElem?_getD] at h1
    rcases Nat.lt_or_ge i r.length with hlt | hge
    · rw [List.drop_eq_getElem_cons hlt, q2]
      rw [List.getElem?_eq_getElem hlt] at h1
      simp only [Option.getD_some] at h1
      cases hx : r[i] <;> rw [hx] at h1 <;> simp [asArr] at h1
      obtain ⟨⟨rfl, rfl, rfl, rfl⟩, rfl⟩ := h1; rfl
    · rw [List.getElem?_eq_none hge] at h1
      cases h1
  | .map es :: l, i, acc, os, h => by
    simp only [castObs] at h
    obtain ⟨cs', h1, h2⟩ := Option.bind_eq_some_iff.1 h
    obtain ⟨zs, q1, q2, q3, q4⟩ := castObs_eq (g := g) l (i + 1) _ os h2
    refine ⟨.map cs' :: zs, by rw [q1]; simp, ?_, by simp only [renObs, renOb, q3], by simp [q4]⟩
    rw [List.getD_eq_getElem?_getD] at h1
    rcases Nat.lt_or_ge i r.length with hlt | hge
    · rw [List.drop_eq_getElem_cons hlt, q2]
      rw [List.getElem?_eq_getElem hlt] at h1
      simp only [Option.getD_some] at h1
      cases hx : r[i] <;> rw [hx] at h1 <;> simp [asMap] at h1
      subst h1; rfl
    · rw [List.getElem?_eq_none hge] at h1
      cases h1
  | .none :: l, i, acc, os, h => by cases h
  | .mbox n ds :: l, i, acc, os, h => by cases h

theorem callD_sound {rts : List TypeId} {call : CallF} {κ : Kp} (hcall : CallOK P κ call) (hk : Kx κ cx) (h : Rel cx ρ S st a w) {f : FuncId} {args : List Dv} {vs : Array Value} (hlen : vs.size = args.length) (hargs : ∀ j, j < args.length → VD ρ S w (args.getD j ud) (vs.getD j undef))
    (hrun : (execOp a.eval o).run P w = .ok (.enter f vs) w) {q : Dv × St} (hd : callD P rts call st f args pr = some q) : StepOK P cx o a w q.1 q.2 := by
  unfold callD at hd
  split at hd
  · cases hd
  · rename_i as L O hprep
    obtain ⟨S1, p1, p2, p3, p4⟩ := prep_sound args h.core (fun j => vs.getD j undef) hargs hprep
    split at hd
    · rename_i hns
      obtain ⟨r, hr, hd⟩ := Option.bind_eq_some_iff.1 hd
      rw [castRs_bind] at hd
      obtain ⟨ds, hd1, hd⟩ := Option.bind_eq_some_iff.1 hd
      obtain ⟨rfl, hp⟩ := castRs_all hd1
      · injection hd with hd; subst hd
        refine .inr ⟨f, vs, w, hrun, ?_⟩
        have hcs := p2.start (ns := []) (os := []) (ρc := ρ) List.nodup_nil rfl (fun i m q => by simp at q)
        refine (hcall f as [] r hr w ρ S1 vs (hk.at p2) hcs (by rw [hlen, p3]) (fun j hj => p4 j (by omega))).mono ?_
        rintro e w' ⟨v, ρ', S', rfl, c1, c2⟩
        exact ⟨v, ρ, S', rfl, ⟨p2.after c1, h.nt, h.df, fun t => ((h.tm t).keep (fun _ => rfl) p1 (fun _ _ _ => rfl)).keep (fun _ => rfl) c1.s0 c1.sk⟩, retV_pure hp c2⟩
    · rename_i n ns' hns
      have hnd : (n :: ns').Nodup := by rw [← hns]; exact closeN_nodup _ _ 3 (addN_nodup _ List.nodup_nil)
      split at hd
      · rename_i as' os hra hro
        obtain ⟨r, hr, hd⟩ := Option.bind_eq_some_iff.1 hd
        rw [castRs_bind] at hd
        obtain ⟨ds, hd1, hd⟩ := Option.bind_eq_some_iff.1 hd
        obtain ⟨rfl, hp⟩ := castRs_all hd1
        rw [castObs_bind] at hd
        obtain ⟨os', hd2, hd⟩ := Option.bind_eq_some_iff.1 hd
        obtain ⟨zs, z1, z2, z3, z4⟩ := castObs_eq (g := fromOut (n :: ns')) _ 0 [] os' hd2
        simp only [List.nil_append, List.drop_zero] at z1 z2
        subst z1
        have hfrom : renObs (fromOut (n :: ns')) r.2 = some os' := by rw [z2]; exact z3
        have hl : r.2.length = (n :: ns').length := by rw [z2, z4]; simp
        injection hd with hd; subst hd
        refine .inr ⟨f, vs, w, hrun, ?_⟩
        let ρc : Nm → Rz := fun m => match m with
          | .out i => match (n :: ns')[i]? with
            | some m' => ρ m'
            | none => ρ m
          | .loc s => ρ m
        have hρ : ∀ i m, (n :: ns')[i]? = some m → ρc (.out i) = ρ m := by
          intro i m hi
          show (match (n :: ns')[i]? with | some m' => ρ m' | none => ρ (.out i)) = ρ m
          rw [hi]
        have hto : ∀ m m', toOut (n :: ns') m = some m' → ρc m' = ρ m := by
          intro m m' hm
          unfold toOut at hm
          split at hm
          · rename_i i hi
            injection hm with hm; subst hm
            exact hρ i m (idxN_get hi)
          · cases hm
        obtain ⟨a1, a2⟩ := renDs_get hra
        refine (hcall f as' os r hr w ρc S1 vs (hk.at p2) (p2.start hnd hro hρ) (by rw [hlen, a1, p3]) (fun j hj => (p4 j (by omega)).ren hto _ (a2 j (by omega)))).mono ?_
        rintro e w' ⟨v, ρ', S', rfl, c1, c2⟩
        obtain ⟨ρn, b1, b2⟩ := p2.back hnd hro hρ c1 hl hfrom
        refine ⟨v, ρn, S', rfl, ⟨b2, ?_, h.df, fun t => ?_⟩, retV_pure hp c2⟩
        · show a.tmps.size = (st.T.map _).length
          exact h.nt
        · show VD _ _ _ ((st.T.map _).getD t ud) _
          rw [Tm.getD_map (scrubAll_ud _)]
          exact VD.scrubAll_ (ρ := ρ) _ b1 (((h.tm t).keep (ρ' := ρ) (fun _ => rfl) p1 (fun _ _ _ => rfl)).keep (fun _ => rfl) c1.s0 c1.sk)
      · cases hd
end Go.Proofs.YtopogjafbmlfgaaDoor.Dm
