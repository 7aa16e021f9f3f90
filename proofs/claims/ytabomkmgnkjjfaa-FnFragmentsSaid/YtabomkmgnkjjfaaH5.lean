/- Fragments that come to themselves. -/
import Derived.Test.YtabomkmgnkjjfaaH4
namespace Go.Proofs.Ytabomkmgnkjjfaa.Dm
set_option maxRecDepth 4000
set_option linter.unusedSectionVars false
set_option linter.unusedVariables false
set_option linter.unusedSimpArgs false

mutual
def spS : GSel → List ByteArray
  | .mk k _ n _ _ ss => (if k = 2 then [n] else []) ++ sps ss
def sps : List GSel → List ByteArray
  | [] => []
  | x :: xs => spS x ++ sps xs
end
def GSel.kd : GSel → Int
  | .mk k _ _ _ _ _ => k
def GSel.nm : GSel → ByteArray
  | .mk _ _ n _ _ _ => n
theorem spS_eq (x : GSel) : spS x = (if x.kd = 2 then [x.nm] else []) ++ sps x.subs := by
  cases x
  rw [spS]
  rfl
theorem enc_get0 (x : GSel) : asInt .i64 ((GSel.enc x).getD 0 .undef) = some x.kd := by cases x; unfold GSel.enc; exact asI _
theorem enc_get2 (x : GSel) : asStr ((GSel.enc x).getD 2 .undef) = some x.nm := by cases x; unfold GSel.enc; rfl
theorem sps_app : ∀ a b : List GSel, sps (a ++ b) = sps a ++ sps b
  | [], b => rfl
  | x :: a, b => by simp [sps, sps_app a b]
theorem sps_len : ∀ (n : Nat) (xs : List GSel), cnts xs ≤ n → (sps xs).length ≤ cnts xs
  | _, [], _ => Nat.le_refl _
  | 0, x :: xs, h => by simp [cnts, cntS_eq] at h
  | n + 1, x :: xs, h => by
    simp only [cnts, cntS_eq] at h ⊢
    have h1 := sps_len n x.subs (by omega)
    have h2 := sps_len n xs (by omega)
    simp only [sps, spS_eq, List.length_append]
    split <;> simp <;> omega
section
variable (xs : List GDef)
def ch (t : ByteArray) : List ByteArray := sps (fragD t xs).sels
inductive Rch (L : List ByteArray) : ByteArray → Prop
  | base {t : ByteArray} : t ∈ L → Rch L t
  | step {t u : ByteArray} : Rch L t → u ∈ ch xs t → Rch L u
def fnd (t : ByteArray) : Bool := (fragL t xs).isSome
end
variable {xs : List GDef}
theorem Rch.mono {L L' : List ByteArray} (h : ∀ t ∈ L, t ∈ L') {t : ByteArray} (hr : Rch xs L t) : Rch xs L' t := by
  induction hr with
  | base q => exact .base (h _ q)
  | step _ q ih => exact .step ih q
theorem Rch.from {t : ByteArray} {u : ByteArray} (hr : Rch xs (ch xs t) u) : Rch xs [t] u := by
  induction hr with
  | base q => exact .step (.base (List.mem_singleton.2 rfl)) q
  | step _ q ih => exact .step ih q
theorem ch_none {t : ByteArray} (h : fnd xs t = false) : ch xs t = [] := by
  unfold fnd at h
  unfold ch fragD
  cases e : fragL t xs with
  | none => rfl
  | some d => rw [e] at h; cases h
/-- what a search from some names adds to those that were seen -/
structure Vis (xs : List GDef) (S S' L : List ByteArray) : Prop where
  sub : ∀ t ∈ S, t ∈ S'
  all : ∀ t ∈ L, fnd xs t = true → t ∈ S'
  new : ∀ t ∈ S', t ∉ S → fnd xs t = true ∧ Rch xs L t ∧ ∀ u ∈ ch xs t, fnd xs u = true → u ∈ S'
theorem Vis.nil (S : List ByteArray) : Vis xs S S [] := ⟨fun _ h => h, (fun _ h => by cases h), fun _ h q => absurd h q⟩
theorem Vis.trans {S S1 S2 L1 L2 : List ByteArray} (h1 : Vis xs S S1 L1) (h2 : Vis xs S1 S2 L2) : Vis xs S S2 (L1 ++ L2) := by
  refine ⟨fun t h => h2.sub t (h1.sub t h), fun t h hf => ?_, fun t h hn => ?_⟩
  · rcases List.mem_append.1 h with q | q
    · exact h2.sub t (h1.all t q hf)
    · exact h2.all t q hf
  · by_cases q : t ∈ S1
    · obtain ⟨a, b, c⟩ := h1.new t q hn
      exact ⟨a, b.mono fun u hu => List.mem_append_left _ hu, fun u hu hf => h2.sub u (c u hu hf)⟩
    · obtain ⟨a, b, c⟩ := h2.new t h q
      exact ⟨a, b.mono fun u hu => List.mem_append_right _ hu, c⟩
theorem Vis.skip {S : List ByteArray} {t : ByteArray} (h : fnd xs t = true → t ∈ S) : Vis xs S S [t] := ⟨fun _ h => h, fun u hu hf => by rw [List.mem_singleton.1 hu] at hf ⊢; exact h hf, fun _ h q => absurd h q⟩
theorem Vis.one {S S' : List ByteArray} {t : ByteArray} (hf : fnd xs t = true) (h : Vis xs (S ++ [t]) S' (ch xs t)) : Vis xs S S' [t] := by
  refine ⟨fun u hu => h.sub u (List.mem_append_left _ hu), fun u hu _ => h.sub u (List.mem_append_right _ hu), fun u hu hn => ?_⟩
  by_cases q : u ∈ S ++ [t]
  · rcases List.mem_append.1 q with q | q
    · exact absurd q hn
    · rw [List.mem_singleton.1 q]
      exact ⟨hf, .base (List.mem_singleton.2 rfl), fun v hv hfv => h.all v hv hfv⟩
  · obtain ⟨a, b, c⟩ := h.new u hu q
    exact ⟨a, b.from, c⟩
/-- fragments that weren't seen -/
def unv (xs : List GDef) (S : List ByteArray) : Nat := (xs.filter fun d => decide (d.kind = 3) && !inL S d.name).length
theorem inL_mem {S : List ByteArray} {t : ByteArray} : inL S t = true ↔ t ∈ S := by
  unfold inL
  rw [List.any_eq_true]
  exact ⟨fun ⟨x, h, e⟩ => of_decide_eq_true e ▸ h, fun h => ⟨t, h, decide_eq_true rfl⟩⟩
theorem filter_len_lt {α : Type} {p q : α → Bool} : ∀ {l : List α}, (∀ x ∈ l, q x = true → p x = true) → (∃ x ∈ l, p x = true ∧ q x = false) → (l.filter q).length < (l.filter p).length
  | [], _, h => by obtain ⟨x, hx, _⟩ := h; cases hx
  | y :: l, h1, h2 => by
    have le : ∀ {l : List α}, (∀ x ∈ l, q x = true → p x = true) → (l.filter q).length ≤ (l.filter p).length := by
      intro l
      induction l with
      | nil => intro _; exact Nat.le_refl _
      | cons z l ih =>
        intro h
        have i := ih fun x hx => h x (List.mem_cons_of_mem _ hx)
        have hz := h z (List.mem_cons_self ..)
        rw [List.filter_cons, List.filter_cons]
        cases hq : q z with
        | true => rw [hz hq]; simp; exact i
        | false => cases p z <;> simp <;> omega
    have l1 := le fun x hx => h1 x (List.mem_cons_of_mem _ hx)
    have hy := h1 y (List.mem_cons_self ..)
    rw [List.filter_cons, List.filter_cons]
    obtain ⟨x, hx, e1, e2⟩ := h2
    rcases List.mem_cons.1 hx with rfl | hx
    · rw [e1, e2]; simp; omega
    · have := filter_len_lt (fun x hx => h1 x (List.mem_cons_of_mem _ hx)) ⟨x, hx, e1, e2⟩
      cases hq : q y with
      | true => rw [hy hq]; simp; exact this
      | false => cases p y <;> simp <;> omega
theorem fragL_is {t : ByteArray} : ∀ {xs : List GDef} {d : GDef}, fragL t xs = some d → d.kind = 3 ∧ d.name = t
  | x :: xs, d, h => by
    unfold fragL at h
    split at h
    · rename_i q; injection h with h; subst h; exact q
    · exact fragL_is h
theorem fnd_iff {t : ByteArray} : ∀ {xs : List GDef}, fnd xs t = true ↔ ∃ d ∈ xs, d.kind = 3 ∧ d.name = t
  | [] => ⟨(fun h => by cases h), (fun h => by obtain ⟨d, h, _⟩ := h; cases h)⟩
  | x :: xs => by
    have ih := fnd_iff (t := t) (xs := xs)
    unfold fnd at ih ⊢
    by_cases q : x.kind = 3 ∧ x.name = t
    · rw [fragL_pos q]
      exact ⟨fun _ => ⟨x, List.mem_cons_self .., q⟩, fun _ => rfl⟩
    · rw [fragL_neg q, ih]
      constructor
      · rintro ⟨d, h, e⟩; exact ⟨d, List.mem_cons_of_mem _ h, e⟩
      · rintro ⟨d, h, e⟩
        rcases List.mem_cons.1 h with rfl | h
        · exact absurd e q
        · exact ⟨d, h, e⟩
theorem unv_lt {S : List ByteArray} {t : ByteArray} (hf : fnd xs t = true) (hn : inL S t = false) : unv xs (S ++ [t]) < unv xs S := by
  obtain ⟨d, hd, h3, e⟩ := fnd_iff.1 hf
  refine filter_len_lt (fun x _ h => ?_) ⟨d, hd, ?_, ?_⟩
  · rw [inL_app] at h
    simp only [Bool.and_eq_true, Bool.not_eq_true', Bool.or_eq_false_iff] at h ⊢
    exact ⟨h.1, h.2.1⟩
  · rw [e, hn, decide_eq_true h3]; rfl
  · rw [inL_app, e]
    have : inL [t] t = true := inL_mem.2 (List.mem_singleton.2 rfl)
    rw [this, Bool.or_true, Bool.not_true, Bool.and_false]
theorem Vis.unv_le {S S' L : List ByteArray} (h : Vis xs S S' L) : unv xs S' ≤ unv xs S := by
  unfold unv
  have : ∀ l : List GDef, (l.filter fun d => decide (d.kind = 3) && !inL S' d.name).length ≤ (l.filter fun d => decide (d.kind = 3) && !inL S d.name).length := by
    intro l
    induction l with
    | nil => exact Nat.le_refl _
    | cons d l ih =>
      rw [List.filter_cons, List.filter_cons]
      cases hd : decide (d.kind = 3) <;> cases h1 : inL S' d.name <;> cases h2 : inL S d.name <;> simp <;> try omega
      · rw [inL_mem] at h2
        have := inL_mem.2 (h.sub _ h2)
        rw [h1] at this; cases this
  exact this xs
/-! ### the program's search -/
abbrev FV : Dv := .fn F_impl_Doc_reaches_1 [.ptr (.out 0) 0, .ptr (.out 1) 0, .ptr (.out 2) 0]
abbrev obV (xs : List GDef) (S : List ByteArray) : List Ob := [.box 1 [.sl 4 (xs.map GDef.enc)], .mbox 1 [.mp (.out 3)], .mbox 1 [FV], .map (seenM S)]
theorem bV {R : Type} (l : List (List Pd)) (S : List (ByteArray × Pd)) (K : List Pd → List (ByteArray × Pd) → Option R) : ((some (([] : List Dv), [.box 1 [.sl 4 l], .mbox 1 [.mp (.out 3)], .mbox 1 [FV], .map S]) : Option Res).bind fun r => if r.1.length = 0 then ((asFbox 1 [.sl 4 l] (r.2.getD 0 .none)).bind fun c => (asMbox 1 [.mp (.out 3)] (r.2.getD 1 .none)).bind fun _ => (asMbox 1 [FV] (r.2.getD 2 .none)).bind fun _ => (asMap (r.2.getD 3 .none)).bind fun m => if r.2.length = 4 then K c m else none) else none) = K [.sl 4 l] S := by
  simp [asFbox, asMap, fnSame, asMbox, likeD, plainD, sameD, sameDs]
theorem in_3 (l : List (List Pd)) (n i : Int) (l3 : List (List Pd)) (m : List (ByteArray × Pd)) : impl_spreadsIn_3 l n i [.sl 4 l3] m = impl_spreadsIn_2 l n i l3 m := rfl
theorem in_4 (l : List (List Pd)) (n i : Int) (c : List Pd) (l3 : List (List Pd)) (m : List (ByteArray × Pd)) : impl_spreadsIn_4 l n i c [.sl 4 l3] m = impl_spreadsIn_5 l n i c l3 m := rfl
theorem fill_sl4 (a b : List (List Pd)) : fillF [.sl 4 a] [.sl 4 b] = [.sl 4 b] := rfl
variable (hx : okL okDef xs)
include hx
theorem visit_ev {S : List ByteArray} {t : ByteArray} (rec : fnd xs t = true → inL S t = false → ∃ S', ev E0 F_impl_spreadsIn [.p (.sl 6 ((fragD t xs).sels.map GSel.enc)), FV] (obV xs (S ++ [t])) = some ([], obV xs S') ∧ Vis xs (S ++ [t]) S' (ch xs t)) :
    ∃ S', ev E0 F_impl_Doc_reaches_1 [.p (.str t), .ptr (.out 0) 0, .ptr (.out 1) 0, .ptr (.out 2) 0] (obV xs S) = some ([], obV xs S') ∧ Vis xs S S' [t] := by
  rw [impl_Doc_reaches_1_0_ev, impl_Doc_reaches_1_0_eq, Doc_fragment_ev hx.1, bDB]
  change ∃ S', (bif fnd xs t then _ else _) = _ ∧ _
  cases hf : fnd xs t with
  | false =>
    rw [cond_false, impl_Doc_reaches_1_2_eq, cond_false]
    exact ⟨S, rfl, .skip fun q => by rw [hf] at q; cases q⟩
  | true =>
    rw [cond_true, findM_seen, asB_, Option.bind_some, impl_Doc_reaches_1_2_eq]
    cases hn : inL S t with
    | true =>
      rw [Bool.not_true, cond_false]
      exact ⟨S, rfl, .skip fun _ => inL_mem.1 hn⟩
    | false =>
      obtain ⟨S', e, hv⟩ := rec hf hn
      have e3 : asSl 6 ((fragD t xs).enc.getD 3 .undef) = some ((fragD t xs).sels.map GSel.enc) := asSl_ _ _
      rw [Bool.not_false, cond_true, e3, Option.bind_some, setM_seen _ _ hn, e, bV, fill_sl4]
      exact ⟨S', rfl, .one hf hv⟩
theorem spreadsIn_ev : ∀ (f n : Nat) (S : List ByteArray) (ss : List GSel), unv xs S ≤ f → cnts ss ≤ n → okL okSel ss → ∃ S', ev E0 F_impl_spreadsIn [.p (.sl 6 (ss.map GSel.enc)), FV] (obV xs S) = some ([], obV xs S') ∧ Vis xs S S' (sps ss) := by
  intro f
  induction f using Nat.strongRecOn with
  | _ f ihf =>
  intro n
  induction n using Nat.strongRecOn with
  | _ n ihn =>
  intro S ss hu hc ho
  have hlen : (ss.map GSel.enc).length = ss.length := by simp
  have hl := ho.1
  rw [impl_spreadsIn_0_ev, impl_spreadsIn_0_eq, hlen]
  have main : ∀ (m i : Nat) (S1 : List ByteArray), i + m = ss.length → Vis xs S S1 (sps (ss.take i)) → ∃ S', impl_spreadsIn_2 (ss.map GSel.enc) ss.length i (xs.map GDef.enc) (seenM S1) = some ([], obV xs S') ∧ Vis xs S S' (sps ss) := by
    intro m
    induction m with
    | zero =>
      intro i S1 h hv
      rw [List.take_of_length_le (by omega)] at hv
      rw [impl_spreadsIn_2_eq, decide_eq_false (by omega), cond_false]
      exact ⟨S1, rfl, hv⟩
    | succ m ihm =>
      intro i S1 h hv
      have hlt : i < ss.length := by omega
      have hg : ss[i]? = some ss[i] := List.getElem?_eq_getElem hlt
      have hmem := List.getElem_mem hlt
      have htk : sps (ss.take (i + 1)) = sps (ss.take i) ++ spS ss[i] := by
        rw [List.take_add_one, hg, sps_app]
        simp [sps]
      generalize ss[i] = x at hg hmem htk
      have hcx := subs_cnts hmem
      have hox := subs_ok (ho.2 x hmem)
      have g0 := enc_get0 x
      have g2 := enc_get2 x
      have g5 := enc_get5 x
      -- behind the spread
      have rest : ∀ S2 : List ByteArray, Vis xs S S2 (sps (ss.take i) ++ (if x.kd = 2 then [x.nm] else [])) → ∃ S', impl_spreadsIn_5 (ss.map GSel.enc) ss.length i x.enc (xs.map GDef.enc) (seenM S2) = some ([], obV xs S') ∧ Vis xs S S' (sps ss) := by
        intro S2 hv2
        obtain ⟨S3, e3, hv3⟩ := ihn (cnts x.subs) (by omega) S2 x.subs (Nat.le_trans hv2.unv_le hu) (Nat.le_refl _) hox
        rw [impl_spreadsIn_5_eq, g5, Option.bind_some, e3, bV, fill_sl4, in_3, inc_i hlt hl]
        refine ihm (i + 1) S3 (by omega) ?_
        rw [htk, spS_eq, ← List.append_assoc]
        exact hv2.trans hv3
      rw [impl_spreadsIn_2_eq, decide_eq_true (by omega), cond_true, hlen, if_pos (by omega), getD_enc hg, g0, Option.bind_some, beq_int]
      by_cases h2 : x.kd = 2
      · rw [decide_eq_true h2, cond_true, g2, Option.bind_some]
        obtain ⟨S2, e2, hv2⟩ := visit_ev hx (S := S1) (t := x.nm) (fun hf hn => by
          have hlt := unv_lt hf hn
          exact ihf (unv xs (S1 ++ [x.nm])) (by have := hv.unv_le; omega) _ _ _ (Nat.le_refl _) (Nat.le_refl _) (fragD_ok hx x.nm).2.2)
        rw [e2, bV, fill_sl4, in_4]
        refine rest S2 ?_
        rw [if_pos h2]
        exact hv.trans hv2
      · rw [decide_eq_false h2, cond_false]
        refine rest S1 ?_
        rw [if_neg h2, List.append_nil]
        exact hv
  exact main ss.length 0 S (by omega) (by rw [List.take_zero]; exact .nil S)
theorem reaches_ev {ss : List GSel} (ho : okL okSel ss) : ∃ S, ev E0 F_impl_Doc_reaches [.p (.agg 1 [.sl 4 (xs.map GDef.enc)]), .p (.sl 6 (ss.map GSel.enc))] [] = some ([.mp (.out 0)], [.map (seenM S)]) ∧ ∀ t, t ∈ S ↔ fnd xs t = true ∧ Rch xs (sps ss) t := by
  obtain ⟨S, e, hv⟩ := spreadsIn_ev hx _ _ [] ss (Nat.le_refl _) (Nat.le_refl _) ho
  have key : ∀ t, Rch xs (sps ss) t → fnd xs t = true → t ∈ S := by
    intro t h2
    induction h2 with
    | base q => exact hv.all _ q
    | @step t u r q ih =>
      intro h1
      cases ht : fnd xs t with
      | false => rw [ch_none ht] at q; cases q
      | true => exact (hv.new t (ih ht) (fun q => by cases q)).2.2 u q h1
  refine ⟨S, ?_, fun t => ⟨fun h => ?_, fun h => key t h.2 h.1⟩⟩
  · have e : ev E0 F_impl_spreadsIn [.p (.sl 6 (ss.map GSel.enc)), FV] [.box 1 [.sl 4 (xs.map GDef.enc)], .mbox 1 [.mp (.out 3)], .mbox 1 [FV], .map ([] : List (ByteArray × Pd))] = some ([], obV xs S) := e
    rw [impl_Doc_reaches_0_ev, impl_Doc_reaches_0_eq, e, bV]
  · obtain ⟨a, b, _⟩ := hv.new t h (fun q => by cases q)
    exact ⟨a, b⟩
end Go.Proofs.Ytabomkmgnkjjfaa.Dm
