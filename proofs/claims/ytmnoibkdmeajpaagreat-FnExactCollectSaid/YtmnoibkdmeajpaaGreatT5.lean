/- Whole documents: the program's judgement and the reference's are one. -/
import Derived.Test.YtmnoibkdmeajpaaGreatT4
namespace Go.Proofs.YtmnoibkdmeajpaaGreat.Dm
set_option linter.unusedVariables false
set_option linter.unusedSimpArgs false
def GSel.subs : GSel → List GSel
 | .mk _ _ _ _ _ ss => ss
mutual
def cntS : GSel → Nat
 | .mk _ _ _ _ _ ss => 1 + cnts ss
def cnts : List GSel → Nat
 | [] => 0
 | x :: xs => cntS x + cnts xs
end
theorem cntS_eq (x : GSel) : cntS x = 1 + cnts x.subs := by cases x; simp [cntS, GSel.subs]
theorem cnts_zero {xs : List GSel} : cnts xs = 0 ↔ xs = [] := by
 cases xs with
 | nil => simp [cnts]
 | cons x xs => simp [cnts, cntS_eq]
def fine : Nat → List GSel → Bool
 | 0, xs => xs.isEmpty
 | d + 1, xs => xs.all fun x => selB x && fine d x.subs
theorem subs_ok {x : GSel} (h : okSel x) : okL okSel x.subs := by
 cases x with
 | mk k a n ar ds ss =>
  obtain ⟨_, _, _, _, h5, h6⟩ := h
  exact ⟨h5, okSels_mem h6⟩
theorem enc_get5 (x : GSel) : asSl 6 ((GSel.enc x).getD 5 .undef) = some (x.subs.map GSel.enc) := by
 cases x with
 | mk k a n ar ds ss =>
  unfold GSel.enc
  rw [GSel.encs_eq]
  rfl
abbrev r2 (n : Int) (b : Bool) : Option Res := some ([.p (.int .i64 n), .p (.bool b)], [])
theorem b2 {R : Type} (n : Int) (b : Bool) (K : Int → Bool → Option R) : ((r2 n b).bind fun r => (asInt .i64 (pAt 0 r.1)).bind fun n => (asBool (pAt 1 r.1)).bind fun b => if r.1.length = 2 then K n b else none) = K n b := by simp [pAt, asInt, asBool]
theorem l02Sels_ev : ∀ (d : Nat) (xs : List GSel), d ≤ 7 → okL okSel xs → ev E0 F_zdy [.p (.sl 6 (xs.map GSel.enc)), .p (.int .i64 d)] [] = (if fine d xs = true ∧ cnts xs ≤ 60 then r2 (cnts xs) true else r2 0 false)
 | 0, xs, hd, hx => by
  have hlen : (xs.map GSel.enc).length = xs.length := by simp
  have e0 : ((0 : Nat) : Int) = 0 := rfl
  rw [e0, zdy_0_ev, zdy_0_eq, hlen, int_gt0]
  cases xs with
  | nil =>
   simp only [fine, cnts, List.isEmpty_nil, true_and]
   rw [if_pos (by omega), beq_int, decide_eq_true rfl, cond_true, List.length_nil, decide_eq_false (by omega), zdy_1_eq, cond_false, zdy_2_eq, decide_eq_false (by simp), cond_false]
   rfl
  | cons x xs =>
   simp only [fine, List.isEmpty_cons, Bool.false_eq_true, false_and, if_false]
   rw [beq_int, decide_eq_true rfl, cond_true, decide_eq_true (by simp), zdy_1_eq, cond_true]
 | d + 1, xs, hd, hx => by
  have hlen : (xs.map GSel.enc).length = xs.length := by simp
  have hxl := hx.1
  have ed : ((d + 1 : Nat) : Int) = (d : Int) + 1 := by omega
  have loop : ∀ (k i n : Nat), i + k = xs.length → n ≤ 60 → zdy_2 (xs.map GSel.enc) ((d : Int) + 1) n i = if ((xs.drop i).all fun x => selB x && fine d x.subs) = true ∧ n + cnts (xs.drop i) ≤ 60 then r2 ((n + cnts (xs.drop i) : Nat)) true else r2 0 false := by
   intro k
   induction k with
   | zero =>
    intro i n h hn
    have : i = xs.length := by omega
    subst this
    rw [zdy_2_eq, hlen, List.drop_length]
    simp only [List.all_nil, cnts, Nat.add_zero, true_and]
    rw [if_pos hn]
    exact szDone
   | succ k ih =>
    intro i n h hn
    have hlt : i < xs.length := by omega
    have hg : xs[i]? = some xs[i] := List.getElem?_eq_getElem hlt
    have hok := hx.2 xs[i] (List.getElem_mem _)
    rw [zdy_2_eq, hlen, decide_eq_true (by omega), cond_true, if_pos (by omega), getD_enc hg, spec_l02Sel_ev _ hok, bB, List.drop_eq_getElem_cons hlt, List.all_cons]
    generalize xs[i] = x at hg hok ⊢
    have hc : cnts (x :: xs.drop (i + 1)) = (1 + cnts x.subs) + cnts (xs.drop (i + 1)) := by simp [cnts, cntS_eq]
    rw [hc]
    cases hs : selB x with
    | false => simp
    | true =>
     simp only [Bool.not_true, cond_false, Bool.true_and]
     rw [enc_get5, Option.bind_some]
     have hih := l02Sels_ev d x.subs (by omega) (subs_ok hok)
     have ew : IntKind.i64.wrap ((d : Int) + 1 - 1) = (d : Int) := by rw [wrap_id (by omega)]; omega
     rw [ew, hih]
     by_cases hf : fine d x.subs = true ∧ cnts x.subs ≤ 60
     ·rw [if_pos hf, b2]
      simp only [Bool.not_true, cond_false, hf.1, Bool.true_and]
      have ew2 : IntKind.i64.wrap ((n : Int) + IntKind.i64.wrap (1 + (cnts x.subs : Int))) = ((n + (1 + cnts x.subs) : Nat) : Int) := by
       rw [wrap_id (n := 1 + (cnts x.subs : Int)) (by omega), wrap_id (by omega)]; omega
      rw [ew2, zdy_3_eq]
      by_cases h60 : n + (1 + cnts x.subs) ≤ 60
      ·have ei : IntKind.i64.wrap ((i : Int) + 1) = ((i + 1 : Nat) : Int) := by rw [wrap_id (by omega)]; omega
       rw [decide_eq_false (by omega), cond_false, ei, ih (i + 1) (n + (1 + cnts x.subs)) (by omega) h60, Nat.add_assoc]
      ·rw [decide_eq_true (by omega), cond_true, if_neg (by omega)]
     ·rw [if_neg hf, b2]
      simp only [Bool.not_false, cond_true]
      rw [zdy_3_eq, cond_true, if_neg]
      intro ⟨q1, q2⟩
      simp only [Bool.and_eq_true] at q1
      exact hf ⟨q1.1, by omega⟩
  have := loop xs.length 0 0 (by omega) (by omega)
  have e0 : ((0 : Nat) : Int) = 0 := rfl
  rw [e0, List.drop_zero, Nat.zero_add] at this
  rw [ed, zdy_0_ev, zdy_0_eq, beq_int, decide_eq_false (by omega), cond_false, zdy_1_eq, cond_false, this]
  rfl
abbrev rBox (b : Bool) (r : Int) : Option Res := some ([.p (.bool b)], [.box 1 [.int .i64 r]])
theorem fill_int (a b : Int) : fillF [.int .i64 a] [.int .i64 b] = [.int .i64 b] := rfl
theorem bBox {R : Type} (b : Bool) (n r0 : Int) (K : Bool → List Pd → Option R) : ((rBox b n).bind fun r => (asBool (pAt 0 r.1)).bind fun b => if r.1.length = 1 then ((asFbox 1 [.int .i64 r0] (r.2.getD 0 .none)).bind fun c => if r.2.length = 1 then K b c else none) else none) = K b [.int .i64 n] := by simp [pAt, asBool, asFbox, fnSame]
theorem areRight_fold (n0 : Int) (l : List (List Pd)) (n i r : Int) : zaq_5 n0 l n i [.int .i64 r] = zaq_4 n0 l n i r := rfl
def kindI (k : Int) (al nm : ByteArray) (ns : Nat) : Bool :=
 if k = 1 then nameB nm && (decide (al = sNone) || nameB al)
 else if k = 2 then nameB nm && !decide (nm = sOn) && decide (ns = 0)
 else if k = 3 then (decide (nm = sNone) || nameB nm) && decide (0 < ns)
 else false
theorem impl_kind {k : Int} {al nm : ByteArray} (h1 : al.size ≤ 9223372036854775807) (h2 : nm.size ≤ 9223372036854775807) (l4 l5 l6 : List (List Pd)) : zal_2 false k al nm l4 l5 l6 = rB (kindI k al nm l6.length) := by
 rw [zal_2_eq, cond_false, impl_NameOK_ev h2, isNameOrNone_ev h1, isNameOrNone_ev h2]
 simp only [bB, beq_int k, int_eq0, int_gt0]
 unfold kindI
 by_cases c1 : k = 1
 ·simp only [c1, decide_true, cond_true, if_true]
  cases nameB nm <;> simp
 ·by_cases c2 : k = 2
  ·simp only [c1, c2, decide_true, decide_false, cond_true, cond_false, if_true, if_false]
   cases nameB nm <;> cases decide (nm = sOn) <;> simp
  ·by_cases c3 : k = 3
   ·simp only [c1, c2, c3, decide_true, decide_false, cond_true, cond_false, if_true, if_false]
    cases (decide (nm = sNone) || nameB nm) <;> simp
   ·simp only [c1, c2, c3, decide_false, cond_false, if_false]
theorem impl_isRight1 {k : Int} {al nm : ByteArray} {args : List GArg} {dirs : List GDir} {sels : List GSel} (x1 : al.size ≤ 9223372036854775807) (x2 : nm.size ≤ 9223372036854775807) (x3 : okL okArg args) (x4 : okL okDir dirs) (b : Bool) :
 zal_1 b k al nm (args.map GArg.enc) (dirs.map GDir.enc) (sels.map GSel.enc) = rB (!b && (args.all argB && (dirs.all dirB && kindI k al nm sels.length))) := by
 rw [zal_1_eq]
 cases b with
 | true => rfl
 | false =>
  rw [cond_false, contains_args x3, bB, contains_dirs x4, bB]
  cases args.all argB with
  | false => simp only [Bool.not_false, cond_true, zal_2_eq, Bool.false_and, Bool.and_false]
  | true =>
   simp only [Bool.not_true, cond_false]
   cases dirs.all dirB with
   | false => simp only [Bool.not_false, cond_true, zal_2_eq, Bool.false_and, Bool.and_false]
   | true =>
    rw [Bool.not_true, impl_kind x1 x2, List.length_map]
    simp
theorem kind_both (k : Int) (al nm : ByteArray) (na ns : Nat) : kindB k al nm na ns = ((if k = 1 then true else decide (al = sNone) && decide (na = 0)) && kindI k al nm ns) := by
 unfold kindB kindI
 by_cases c1 : k = 1
 ·simp only [c1, if_true, Bool.true_and]
 ·by_cases c2 : k = 2
  ·simp only [c1, c2, if_true, if_false]
   cases nameB nm <;> cases decide (nm = sOn) <;> cases decide (al = sNone) <;> cases decide (na = 0) <;> simp
  ·by_cases c3 : k = 3
   ·simp only [c1, c2, c3, if_true, if_false]
    cases (decide (nm = sNone) || nameB nm) <;> cases decide (al = sNone) <;> cases decide (na = 0) <;> simp
   ·simp only [c1, c2, c3, if_false, Bool.and_false]
theorem impl_isRight_ev : ∀ (x : GSel), okSel x → ev E0 F_zal [.p (.agg 6 x.enc)] [] = rB (selB x)
 | .mk k al nm args dirs sels, hx => by
  obtain ⟨x1, x2, x3, x4, x5, x6⟩ := hx
  unfold GSel.enc selB
  rw [GSel.encs_eq, zal_0_ev, zal_0_eq]
  simp only [impl_isRight1 x1 x2 x3 x4, List.length_map, kind_both]
  have hn : ((k : Int) != 1) = !decide (k = 1) := by simp [bne, beq_int]
  have h4 : ∀ n : Nat, decide ((n : Int) > 4) = !decide (n ≤ 4) := by
   intro n
   by_cases h : n ≤ 4
   ·rw [decide_eq_true h, decide_eq_false (by omega)]; rfl
   ·rw [decide_eq_false h, decide_eq_true (by omega)]; rfl
  have h0 : decide (0 < args.length) = !decide (args.length = 0) := by
   by_cases h : args.length = 0
   ·rw [decide_eq_true h, decide_eq_false (by omega)]; rfl
   ·rw [decide_eq_false h, decide_eq_true (by omega)]; rfl
  rw [hn, h4, h4, int_gt0, h0]
  by_cases c1 : k = 1
  ·simp only [c1, decide_true, if_true]
   cases decide (args.length ≤ 4) <;> cases decide (dirs.length ≤ 4) <;> cases args.all argB <;> cases dirs.all dirB <;> simp
  ·simp only [c1, decide_false, if_false]
   cases decide (args.length ≤ 4) <;> cases decide (dirs.length ≤ 4) <;> cases args.all argB <;> cases dirs.all dirB <;> cases decide (al = sNone) <;> cases decide (args.length = 0) <;> simp
theorem areRight_ev : ∀ (d : Nat) (xs : List GSel) (r : Nat), d ≤ 7 → okL okSel xs → r ≤ 60 → ∃ r' : Int, ev E0 F_zaq [.p (.sl 6 (xs.map GSel.enc)), .p (.int .i64 d), .ptr (.out 0) 0] [.box 1 [.int .i64 r]] = rBox (fine d xs && decide (cnts xs ≤ r)) r' ∧ (fine d xs = true → cnts xs ≤ r → r' = ((r - cnts xs : Nat) : Int))
 | 0, xs, r, hd, hx, hr => by
  have hlen : (xs.map GSel.enc).length = xs.length := by simp
  have e0 : ((0 : Nat) : Int) = 0 := rfl
  rw [e0, zaq_0_ev, zaq_0_eq, hlen, int_gt0]
  cases xs with
  | nil =>
   rw [List.length_nil, decide_eq_false (by omega), cond_false, zaq_2_eq, cond_false, zaq_4_eq]
   refine ⟨r, ?_, fun _ _ => ?_⟩
   ·rw [decide_eq_false (by simp), cond_false]
    simp [fine, cnts]
   ·simp [cnts]
  | cons x xs =>
   rw [decide_eq_true (by simp), cond_true, beq_int, decide_eq_true rfl, zaq_2_eq, cond_true]
   exact ⟨r, by simp [fine], fun h => by simp [fine] at h⟩
 | d + 1, xs, r, hd, hx, hr => by
  have hlen : (xs.map GSel.enc).length = xs.length := by simp
  have hxl := hx.1
  have ed : ((d + 1 : Nat) : Int) = (d : Int) + 1 := by omega
  have loop : ∀ (k i r : Nat), i + k = xs.length → r ≤ 60 → ∃ r' : Int, zaq_4 ((d : Int) + 1) (xs.map GSel.enc) xs.length i r = rBox (((xs.drop i).all fun x => selB x && fine d x.subs) && decide (cnts (xs.drop i) ≤ r)) r' ∧
   (((xs.drop i).all fun x => selB x && fine d x.subs) = true → cnts (xs.drop i) ≤ r → r' = ((r - cnts (xs.drop i) : Nat) : Int)) := by
   intro k
   induction k with
   | zero =>
    intro i r h hr
    have : i = xs.length := by omega
    subst this
    rw [zaq_4_eq, List.drop_length, decide_eq_false (by omega), cond_false]
    exact ⟨r, by simp [cnts], fun _ _ => by simp [cnts]⟩
   | succ k ih =>
    intro i r h hr
    have hlt : i < xs.length := by omega
    have hg : xs[i]? = some xs[i] := List.getElem?_eq_getElem hlt
    have hok := hx.2 xs[i] (List.getElem_mem _)
    rw [zaq_4_eq, hlen, decide_eq_true (by omega), cond_true, if_pos (by omega), getD_enc hg, impl_isRight_ev _ hok, bB, List.drop_eq_getElem_cons hlt, List.all_cons]
    generalize xs[i] = x at hg hok ⊢
    have hc : cnts (x :: xs.drop (i + 1)) = (1 + cnts x.subs) + cnts (xs.drop (i + 1)) := by simp [cnts, cntS_eq]
    rw [hc]
    by_cases h0 : r = 0
    ·subst h0
     have ew : IntKind.i64.wrap (((0 : Nat) : Int) - 1) = -1 := by rw [wrap_id (by omega)]; omega
     rw [ew, decide_eq_true (by omega), cond_true, zaq_6_eq, cond_true]
     refine ⟨-1, ?_, fun _ q => by omega⟩
     have : decide (1 + cnts x.subs + cnts (xs.drop (i + 1)) ≤ 0) = false := decide_eq_false (by omega)
     rw [this, Bool.and_false]
    ·have ew : IntKind.i64.wrap ((r : Int) - 1) = ((r - 1 : Nat) : Int) := by rw [wrap_id (by omega)]; omega
     rw [ew, decide_eq_false (by omega), cond_false]
     cases hs : selB x with
     | false =>
      simp only [Bool.not_false, cond_true, zaq_6_eq, Bool.false_and]
      exact ⟨_, rfl, fun q => by cases q⟩
     | true =>
      simp only [Bool.not_true, cond_false, Bool.true_and]
      rw [enc_get5, Option.bind_some]
      obtain ⟨r1, q1, q2⟩ := areRight_ev d x.subs (r - 1) (by omega) (subs_ok hok) (by omega)
      have ew2 : IntKind.i64.wrap ((d : Int) + 1 - 1) = (d : Int) := by rw [wrap_id (by omega)]; omega
      rw [ew2, q1, bBox, fill_int, zaq_7_eq]
      by_cases hf : fine d x.subs = true ∧ cnts x.subs ≤ r - 1
      ·rw [hf.1, decide_eq_true hf.2]
       simp only [Bool.and_self, Bool.not_true, cond_false, Bool.true_and]
       rw [areRight_fold, q2 hf.1 hf.2]
       have ei : IntKind.i64.wrap ((i : Int) + 1) = ((i + 1 : Nat) : Int) := by rw [wrap_id (by omega)]; omega
       rw [ei]
       obtain ⟨r2, p1, p2⟩ := ih (i + 1) (r - 1 - cnts x.subs) (by omega) (by omega)
       refine ⟨r2, ?_, fun a b => ?_⟩
       ·rw [p1]
        have : decide (cnts (xs.drop (i + 1)) ≤ r - 1 - cnts x.subs) = decide (1 + cnts x.subs + cnts (xs.drop (i + 1)) ≤ r) := by
         by_cases q : cnts (xs.drop (i + 1)) ≤ r - 1 - cnts x.subs
         ·rw [decide_eq_true q, decide_eq_true (by omega)]
         ·rw [decide_eq_false q, decide_eq_false (by omega)]
        rw [this]
       ·rw [p2 a (by omega)]
        have : r - 1 - cnts x.subs - cnts (xs.drop (i + 1)) = r - (1 + cnts x.subs + cnts (xs.drop (i + 1))) := by omega
        rw [this]
      ·have hb : (fine d x.subs && decide (cnts x.subs ≤ r - 1)) = false := by
        cases hfd : fine d x.subs with
        | false => rfl
        | true => rw [Bool.true_and]; exact decide_eq_false fun q => hf ⟨hfd, q⟩
       rw [hb]
       simp only [Bool.not_false, cond_true]
       refine ⟨r1, ?_, fun a b => ?_⟩
       ·cases hfd : fine d x.subs with
        | false => simp
        | true =>
         have : decide (1 + cnts x.subs + cnts (xs.drop (i + 1)) ≤ r) = false := decide_eq_false fun q => hf ⟨hfd, by omega⟩
         rw [this, Bool.and_false]
       ·exfalso
        simp only [Bool.and_eq_true] at a
        exact hf ⟨a.1, by omega⟩
  obtain ⟨r', q1, q2⟩ := loop xs.length 0 r (by omega) hr
  have e0 : ((0 : Nat) : Int) = 0 := rfl
  rw [e0] at q1
  rw [List.drop_zero] at q1 q2
  have e1 : decide ((d : Int) + 1 = 0) = false := decide_eq_false (by omega)
  rw [ed, zaq_0_ev, zaq_0_eq, beq_int, e1, hlen]
  refine ⟨r', ?_, q2⟩
  have : zaq_2 (xs.map GSel.enc) ((d : Int) + 1) false r = zaq_4 ((d : Int) + 1) (xs.map GSel.enc) xs.length 0 r := by
   rw [zaq_2_eq, cond_false, hlen]
  rw [this, q1]
  cases decide ((xs.length : Int) > 0) <;> rfl
end Go.Proofs.YtmnoibkdmeajpaaGreat.Dm
