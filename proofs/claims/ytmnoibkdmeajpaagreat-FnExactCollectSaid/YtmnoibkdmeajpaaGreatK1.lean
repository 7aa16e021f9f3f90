/- Groups: what is collected, in plain words. -/
import Derived.Test.YtmnoibkdmeajpaaGreatK5
namespace Go.Proofs.YtmnoibkdmeajpaaGreat.Dm
set_option maxRecDepth 4000
set_option linter.unusedSectionVars false
set_option linter.unusedVariables false
set_option linter.unusedSimpArgs false
def encS (s : ByteArray) : List Pd := [.str s]
theorem encS_get (s : ByteArray) : asStr ((encS s).getD 0 .undef) = some s := rfl
def inL (xs : List ByteArray) (s : ByteArray) : Bool := xs.any fun x => decide (x = s)
theorem l04In_ev {xs : List ByteArray} (hl : xs.length ≤ 9223372036854775807) (s : ByteArray) : ev E0 F_zdz [.p (.sl 1 (xs.map encS)), .p (.str s)] [] = rB (inL xs s) := by
 have hlen : (xs.map encS).length = xs.length := by simp
 have loop : ∀ (m i : Nat), i + m = xs.length → zdz_1 (xs.map encS) s i = rB (inL (xs.drop i) s) := by
  intro m
  induction m with
  | zero =>
   intro i h
   have : i = xs.length := by omega
   subst this
   rw [zdz_1_eq, hlen, decide_eq_false (by omega), cond_false, List.drop_length]
   rfl
  | succ m ih =>
   intro i h
   have hlt : i < xs.length := by omega
   have hg : xs[i]? = some xs[i] := List.getElem?_eq_getElem hlt
   rw [zdz_1_eq, hlen, decide_eq_true (by omega), cond_true, if_pos (by omega), getD_enc hg, encS_get, Option.bind_some, inc_i hlt hl, ih (i + 1) (by omega), List.drop_eq_getElem_cons hlt]
   unfold inL
   rw [List.any_cons]
   cases decide (xs[i] = s) <;> rfl
 have := loop xs.length 0 (by omega)
 rw [List.drop_zero] at this
 rw [zdz_0_ev, zdz_0_eq]
 exact this
theorem inL_mem {xs : List ByteArray} {s : ByteArray} : inL xs s = true ↔ s ∈ xs := by
 unfold inL
 rw [List.any_eq_true]
 exact ⟨fun ⟨x, h1, h2⟩ => of_decide_eq_true h2 ▸ h1, fun h => ⟨s, h, decide_eq_true rfl⟩⟩
theorem inL_cons (x : ByteArray) (xs : List ByteArray) (s : ByteArray) : inL (x :: xs) s = (decide (x = s) || inL xs s) := by unfold inL; rw [List.any_cons]
theorem inL_app (xs ys : List ByteArray) (s : ByteArray) : inL (xs ++ ys) s = (inL xs s || inL ys s) := by unfold inL; rw [List.any_append]
def seenM (l : List ByteArray) : List (ByteArray × Pd) := l.map fun k => (k, Pd.bool true)
theorem findM_seen (s : ByteArray) : ∀ l : List ByteArray, (findM (seenM l) s).getD (.bool false) = .bool (inL l s)
 | [] => rfl
 | k :: l => by
  have ih := findM_seen s l
  show ((if k = s then some (Pd.bool true) else findM (seenM l) s).getD (.bool false)) = _
  rw [inL_cons]
  by_cases h : k = s
  ·rw [if_pos h, decide_eq_true h]; rfl
  ·rw [if_neg h, decide_eq_false h, Bool.false_or]; exact ih
theorem setM_seen (s : ByteArray) : ∀ l : List ByteArray, inL l s = false → setM (seenM l) s (.bool true) = seenM (l ++ [s])
 | [], _ => rfl
 | k :: l, h => by
  rw [inL_cons, Bool.or_eq_false_iff] at h
  have hk : k ≠ s := of_decide_eq_false h.1
  show (if k = s then (k, Pd.bool true) :: seenM l else (k, Pd.bool true) :: setM (seenM l) s (.bool true)) = _
  rw [if_neg hk, setM_seen s l h.2]
  rfl
def GSel.kd : GSel → Int
 | .mk k _ _ _ _ _ => k
def GSel.nm : GSel → ByteArray
 | .mk _ _ n _ _ _ => n
theorem enc_get0 (x : GSel) : asInt .i64 ((GSel.enc x).getD 0 .undef) = some x.kd := by cases x; unfold GSel.enc; exact asI _
theorem enc_get2 (x : GSel) : asStr ((GSel.enc x).getD 2 .undef) = some x.nm := by cases x; unfold GSel.enc; rfl
def fnd (xs : List GDef) (t : ByteArray) : Bool := (fragL t xs).isSome
variable {xs : List GDef}
def unv (xs : List GDef) (S : List ByteArray) : Nat := (xs.filter fun d => decide (d.kind = 3) && !inL S d.name).length
theorem filter_len_lt {α : Type} {p q : α → Bool} : ∀ {l : List α}, (∀ x ∈ l, q x = true → p x = true) → (∃ x ∈ l, p x = true ∧ q x = false) → (l.filter q).length < (l.filter p).length
 | [], _, h => by obtain ⟨x, hx, _⟩ := h; cases hx
 | y :: l, h1, h2 => by
  have le : ∀ {l : List α}, (∀ x ∈ l, q x = true → p x = true) → (l.filter q).length ≤ (l.filter p).length := by
   intro l
   induction l with
   | nil => intro _; exact Nat.le_refl _
   | cons z l ih =>
    intro h
    have i := ih fun x hx => h x (List.mem_cons_of_mem _ hx)
    have hz := h z (List.mem_cons_self ..)
    rw [List.filter_cons, List.filter_cons]
    cases hq : q z with
    | true => rw [hz hq]; simp; exact i
    | false => cases p z <;> simp <;> omega
  have l1 := le fun x hx => h1 x (List.mem_cons_of_mem _ hx)
  have hy := h1 y (List.mem_cons_self ..)
  rw [List.filter_cons, List.filter_cons]
  obtain ⟨x, hx, e1, e2⟩ := h2
  rcases List.mem_cons.1 hx with rfl | hx
  ·rw [e1, e2]; simp; omega
  ·have := filter_len_lt (fun x hx => h1 x (List.mem_cons_of_mem _ hx)) ⟨x, hx, e1, e2⟩
   cases hq : q y with
   | true => rw [hy hq]; simp; exact this
   | false => cases p y <;> simp <;> omega
theorem fnd_iff {t : ByteArray} : ∀ {xs : List GDef}, fnd xs t = true ↔ ∃ d ∈ xs, d.kind = 3 ∧ d.name = t
 | [] => ⟨(fun h => by cases h), (fun h => by obtain ⟨d, h, _⟩ := h; cases h)⟩
 | x :: xs => by
  have ih := fnd_iff (t := t) (xs := xs)
  unfold fnd at ih ⊢
  by_cases q : x.kind = 3 ∧ x.name = t
  ·rw [fragL_pos q]
   exact ⟨fun _ => ⟨x, List.mem_cons_self .., q⟩, fun _ => rfl⟩
  ·rw [fragL_neg q, ih]
   constructor
   ·rintro ⟨d, h, e⟩; exact ⟨d, List.mem_cons_of_mem _ h, e⟩
   ·rintro ⟨d, h, e⟩
    rcases List.mem_cons.1 h with rfl | h
    ·exact absurd e q
    ·exact ⟨d, h, e⟩
theorem unv_lt {S : List ByteArray} {t : ByteArray} (hf : fnd xs t = true) (hn : inL S t = false) : unv xs (S ++ [t]) < unv xs S := by
 obtain ⟨d, hd, h3, e⟩ := fnd_iff.1 hf
 refine filter_len_lt (fun x _ h => ?_) ⟨d, hd, ?_, ?_⟩
 ·rw [inL_app] at h
  simp only [Bool.and_eq_true, Bool.not_eq_true', Bool.or_eq_false_iff] at h ⊢
  exact ⟨h.1, h.2.1⟩
 ·rw [e, hn, decide_eq_true h3]; rfl
 ·rw [inL_app, e]
  have : inL [t] t = true := inL_mem.2 (List.mem_singleton.2 rfl)
  rw [this, Bool.or_true, Bool.not_true, Bool.and_false]
def GSel.al : GSel → ByteArray
 | .mk _ a _ _ _ _ => a
def keyOf (x : GSel) : ByteArray := if x.al = ⟨#[]⟩ then x.nm else x.al
abbrev Grp := ByteArray × List GSel
def addG : List Grp → GSel → List Grp
 | [], x => [(keyOf x, [x])]
 | g :: gs, x => if g.1 = keyOf x then (g.1, g.2 ++ [x]) :: gs else g :: addG gs x
abbrev Col := List Grp × List ByteArray
def coll (xs : List GDef) (vs : List GArg) : Nat → List GSel → Col → Option Col
 | 0, _, _ => none
 | _ + 1, [], s => some s
 | n + 1, x :: l, s => if inB vs x.dirs = true then
  (if x.kd = 1 then coll xs vs n l (addG s.1 x, s.2)
  else if x.kd = 3 then (coll xs vs n x.subs s).bind (coll xs vs n l)
  else if inL s.2 x.nm = true then coll xs vs n l s
  else (coll xs vs n (fragD x.nm xs).sels (s.1, s.2 ++ [x.nm])).bind (coll xs vs n l))
  else coll xs vs n l s
variable {vs : List GArg}
theorem coll_mono : ∀ (n : Nat) (l : List GSel) (s r : Col), coll xs vs n l s = some r → coll xs vs (n + 1) l s = some r
 | 0, l, s, r, h => by cases h
 | n + 1, [], s, r, h => h
 | n + 1, x :: l, s, r, h => by
  have ih := coll_mono n
  have bind : ∀ (l' : List GSel) (s' : Col), (coll xs vs n l' s').bind (coll xs vs n l) = some r → (coll xs vs (n + 1) l' s').bind (coll xs vs (n + 1) l) = some r := by
   intro l' s' q
   obtain ⟨m, q1, q2⟩ := Option.bind_eq_some_iff.1 q
   rw [ih _ _ _ q1]
   exact ih _ _ _ q2
  rw [coll] at h ⊢
  by_cases h1 : inB vs x.dirs = true
  ·rw [if_pos h1] at h ⊢
   by_cases h2 : x.kd = 1
   ·rw [if_pos h2] at h ⊢; exact ih _ _ _ h
   ·rw [if_neg h2] at h ⊢
    by_cases h3 : x.kd = 3
    ·rw [if_pos h3] at h ⊢; exact bind _ _ h
    ·rw [if_neg h3] at h ⊢
     by_cases h4 : inL s.2 x.nm = true
     ·rw [if_pos h4] at h ⊢; exact ih _ _ _ h
     ·rw [if_neg h4] at h ⊢; exact bind _ _ h
  ·rw [if_neg h1] at h ⊢; exact ih _ _ _ h
theorem coll_le {n m : Nat} (hnm : n ≤ m) {l : List GSel} {s r : Col} (h : coll xs vs n l s = some r) : coll xs vs m l s = some r := by
 induction hnm with
 | refl => exact h
 | step _ ih => exact coll_mono _ _ _ _ ih
theorem fragD_none {t : ByteArray} (h : fnd xs t = false) : (fragD t xs).sels = [] := by
 unfold fnd at h
 unfold fragD
 cases e : fragL t xs with
 | none => rfl
 | some d => rw [e] at h; cases h
theorem unv_sub {S S' : List ByteArray} (h : ∀ t ∈ S, t ∈ S') : unv xs S' ≤ unv xs S := by
 unfold unv
 induction xs with
 | nil => exact Nat.le_refl _
 | cons d l ih =>
  rw [List.filter_cons, List.filter_cons]
  cases hd : decide (d.kind = 3) <;> cases h1 : inL S' d.name <;> cases h2 : inL S d.name <;> simp <;> try omega
  ·rw [inL_mem] at h2
   have := inL_mem.2 (h _ h2)
   rw [h1] at this; cases this
theorem coll_ex : ∀ (f n : Nat) (l : List GSel) (s : Col), unv xs s.2 ≤ f → cnts l ≤ n → ∃ k r, coll xs vs k l s = some r ∧ ∀ t ∈ s.2, t ∈ r.2 := by
 intro f
 induction f using Nat.strongRecOn with
 | _ f ihf =>
 intro n
 induction n using Nat.strongRecOn with
 | _ n ihn =>
 intro l s hu hc
 cases l with
 | nil => exact ⟨1, s, rfl, fun _ h => h⟩
 | cons x l =>
  simp only [cnts, cntS_eq] at hc
  have rest : ∀ s' : Col, (∀ t ∈ s.2, t ∈ s'.2) → ∃ k r, coll xs vs k l s' = some r ∧ ∀ t ∈ s.2, t ∈ r.2 := by
   intro s' hs
   obtain ⟨k, r, e, h⟩ := ihn (cnts l) (by omega) l s' (Nat.le_trans (unv_sub hs) hu) (Nat.le_refl _)
   exact ⟨k, r, e, fun t ht => h t (hs t ht)⟩
  have both : ∀ (l' : List GSel) (s' : Col), (∃ k r, coll xs vs k l' s' = some r ∧ ∀ t ∈ s.2, t ∈ r.2) → ∃ k r, (coll xs vs k l' s').bind (coll xs vs k l) = some r ∧ ∀ t ∈ s.2, t ∈ r.2 := by
   rintro l' s' ⟨k, r, e, h⟩
   obtain ⟨k2, r2, e2, h2⟩ := rest r h
   refine ⟨max k k2, r2, ?_, h2⟩
   rw [coll_le (Nat.le_max_left k k2) e]
   exact coll_le (Nat.le_max_right k k2) e2
  by_cases h1 : inB vs x.dirs = true
  ·by_cases h2 : x.kd = 1
   ·obtain ⟨k, r, e, h⟩ := rest (addG s.1 x, s.2) (fun _ h => h)
    exact ⟨k + 1, r, by rw [coll, if_pos h1, if_pos h2]; exact e, h⟩
   ·by_cases h3 : x.kd = 3
    ·obtain ⟨k, r, e, h⟩ := both x.subs s (ihn (cnts x.subs) (by omega) x.subs s hu (Nat.le_refl _))
     exact ⟨k + 1, r, by rw [coll, if_pos h1, if_neg h2, if_pos h3]; exact e, h⟩
    ·cases h4 : inL s.2 x.nm with
     | true =>
      obtain ⟨k, r, e, h⟩ := rest s (fun _ h => h)
      exact ⟨k + 1, r, by rw [coll, if_pos h1, if_neg h2, if_neg h3, if_pos h4]; exact e, h⟩
     | false =>
      have sub : ∃ k r, coll xs vs k (fragD x.nm xs).sels (s.1, s.2 ++ [x.nm]) = some r ∧ ∀ t ∈ s.2, t ∈ r.2 := by
       cases hf : fnd xs x.nm with
       | false =>
        rw [fragD_none hf]
        exact ⟨1, _, rfl, fun t ht => List.mem_append_left _ ht⟩
       | true =>
        have hlt := unv_lt (xs := xs) hf h4
        obtain ⟨k, r, e, h⟩ := ihf (unv xs (s.2 ++ [x.nm])) (by omega) (cnts (fragD x.nm xs).sels) (fragD x.nm xs).sels (s.1, s.2 ++ [x.nm]) (Nat.le_refl _) (Nat.le_refl _)
        exact ⟨k, r, e, fun t ht => h t (List.mem_append_left _ ht)⟩
      obtain ⟨k, r, e, h⟩ := both _ _ sub
      exact ⟨k + 1, r, by rw [coll, if_pos h1, if_neg h2, if_neg h3, if_neg (by rw [h4]; simp)]; exact e, h⟩
  ·obtain ⟨k, r, e, h⟩ := rest s (fun _ h => h)
   exact ⟨k + 1, r, by rw [coll, if_neg h1]; exact e, h⟩
def grE (g : Grp) : List Pd := [.str g.1, .ow 61 6 (g.2.map GSel.enc)]
def placeM : Nat → List Grp → List (ByteArray × Pd)
 | _, [] => []
 | i, g :: gs => (g.1, .int .i64 i) :: placeM (i + 1) gs
def idxG : Nat → List Grp → ByteArray → Option Nat
 | _, [], _ => none
 | i, g :: gs, k => if g.1 = k then some i else idxG (i + 1) gs k
theorem findM_place (k : ByteArray) : ∀ (i : Nat) (gs : List Grp), findM (placeM i gs) k = (idxG i gs k).map fun j => .int .i64 (j : Int)
 | i, [] => rfl
 | i, g :: gs => by
  rw [placeM, idxG, findM]
  by_cases h : g.1 = k
  ·rw [if_pos h, if_pos h]; rfl
  ·rw [if_neg h, if_neg h]; exact findM_place k (i + 1) gs
theorem setM_place (k : ByteArray) : ∀ (i : Nat) (gs : List Grp), idxG i gs k = none → ∀ (n : Nat), n = i + gs.length → ∀ l, setM (placeM i gs) k (.int .i64 (n : Int)) = placeM i (gs ++ [(k, l)])
 | i, [], _, n, hn, l => by subst hn; rfl
 | i, g :: gs, h, n, hn, l => by
  rw [idxG] at h
  by_cases q : g.1 = k
  ·rw [if_pos q] at h; cases h
  ·rw [if_neg q] at h
   rw [placeM, setM, if_neg q, List.cons_append, placeM]
   exact congrArg _ (setM_place k (i + 1) gs h n (by simp at hn; omega) l)
theorem placeM_keys : ∀ (i : Nat) (gs hs : List Grp), gs.map (·.1) = hs.map (·.1) → placeM i gs = placeM i hs
 | i, [], [], _ => rfl
 | i, g :: gs, h :: hs, e => by
  simp only [List.map_cons, List.cons.injEq] at e
  rw [placeM, placeM, e.1, placeM_keys (i + 1) gs hs e.2]
 | i, [], h :: hs, e => by cases e
 | i, g :: gs, [], e => by cases e
theorem addG_none {x : GSel} : ∀ {i : Nat} {gs : List Grp}, idxG i gs (keyOf x) = none → addG gs x = gs ++ [(keyOf x, [x])]
 | i, [], _ => rfl
 | i, g :: gs, h => by
  rw [idxG] at h
  by_cases q : g.1 = keyOf x
  ·rw [if_pos q] at h; cases h
  ·rw [if_neg q] at h
   rw [addG, if_neg q, addG_none h]; rfl
theorem addG_some {x : GSel} : ∀ {i : Nat} {gs : List Grp} {j : Nat}, idxG i gs (keyOf x) = some j → ∃ k g, j = i + k ∧ gs[k]? = some g ∧ g.1 = keyOf x ∧ addG gs x = gs.set k (g.1, g.2 ++ [x])
 | i, [], j, h => by cases h
 | i, g :: gs, j, h => by
  rw [idxG] at h
  by_cases q : g.1 = keyOf x
  ·rw [if_pos q] at h
   injection h with h
   exact ⟨0, g, by omega, rfl, q, by rw [addG, if_pos q]; rfl⟩
  ·rw [if_neg q] at h
   obtain ⟨k, g', e, h1, h2, h3⟩ := addG_some h
   exact ⟨k + 1, g', by omega, h1, h2, by rw [addG, if_neg q, h3]; rfl⟩
end Go.Proofs.YtmnoibkdmeajpaaGreat.Dm
