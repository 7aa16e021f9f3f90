/- For every document the law FnExactDocOK returns true. -/
import Derived.Test.YtmnoibkdmeajpaaGreatT5
import Derived.Test.YtmnoibkdmeajpaaGreatT2
namespace Go.Proofs.YtmnoibkdmeajpaaGreat.Dm
set_option linter.unusedVariables false
set_option linter.unusedSimpArgs false
def kindD (k : Int) (name on : ByteArray) : Bool :=
 if k = 1 ∨ k = 2 then (decide (name = sNone) || nameB name) && decide (on = sNone)
 else if k = 3 then nameB name && !decide (name = sOn) && nameB on
 else false
def defB (d : GDef) : Bool := kindD d.kind d.name d.on && decide (0 < d.sels.length) && fine 7 d.sels
def total (xs : List GDef) : Nat := (xs.map fun d => cnts d.sels).sum
def docB (xs : List GDef) : Bool := withinB xs.length 1 6 && (xs.all defB && decide (total xs ≤ 60))
theorem spec_kindD {d : GDef} (hd : okDef d) (n i : Int) (l : List (List Pd)) (b : Bool) (hb : b = decide (d.kind = 1 ∨ d.kind = 2)) : zdn_3 n i d.kind b l d.enc = bif kindD d.kind d.name d.on then zdn_6 n i l else rB false := by
 obtain ⟨h1, h2, h3⟩ := hd
 have e1 : asStr (d.enc.getD 1 .undef) = some d.name := rfl
 have e2 : asStr (d.enc.getD 2 .undef) = some d.on := rfl
 rw [zdn_3_eq, e1, e2]
 simp only [Option.bind_some, spec_NameOK_ev h1, spec_NameOK_ev h2, bB, zdn_4_eq, zdn_5_eq]
 subst hb
 unfold kindD
 by_cases c1 : d.kind = 1 ∨ d.kind = 2
 ·simp only [c1, decide_true, cond_true, if_true]
  cases nameB d.name <;> cases decide (d.name = sNone) <;> cases decide (d.on = sNone) <;> simp [pAt, asBool]
 ·simp only [c1, decide_false, cond_false, if_false]
  rw [beq_int]
  by_cases c3 : d.kind = 3
  ·simp only [c3, decide_true, cond_true, if_true]
   cases nameB d.name <;> cases decide (d.name = sOn) <;> cases nameB d.on <;> simp [pAt, asBool]
  ·simp only [c3, decide_false, cond_false, if_false]
theorem spec_doc_loop {xs : List GDef} (hx : okL okDef xs) : ∀ (k i n : Nat), i + k = xs.length → n ≤ 60 → zdn_1 n i (xs.map GDef.enc) = rB ((xs.drop i).all defB && decide (n + total (xs.drop i) ≤ 60))
 | 0, i, n, h, hn => by
  have : i = xs.length := by omega
  subst this
  have hlen : (xs.map GDef.enc).length = xs.length := by simp
  rw [zdn_1_eq, hlen, List.drop_length, decide_eq_false (by omega), cond_false]
  simp [total, hn]
 | k + 1, i, n, h, hn => by
  have hlen : (xs.map GDef.enc).length = xs.length := by simp
  have hxl := hx.1
  have hlt : i < xs.length := by omega
  have hg : xs[i]? = some xs[i] := List.getElem?_eq_getElem hlt
  have hok := hx.2 xs[i] (List.getElem_mem _)
  rw [zdn_1_eq, hlen, decide_eq_true (by omega), cond_true, if_pos (by omega), getD_enc hg, List.drop_eq_getElem_cons hlt, List.all_cons]
  generalize xs[i] = d at hg hok ⊢
  have e3 : asSl 6 (d.enc.getD 3 .undef) = some (d.sels.map GSel.enc) := rfl
  have e0 : asInt .i64 (d.enc.getD 0 .undef) = some d.kind := rfl
  have ht : total (d :: xs.drop (i + 1)) = cnts d.sels + total (xs.drop (i + 1)) := by simp [total]
  rw [e3, Option.bind_some, ht]
  have hl := l02Sels_ev 7 d.sels (by omega) hok.2.2
  have e7 : ((7 : Nat) : Int) = 7 := rfl
  rw [e7] at hl
  rw [hl]
  by_cases hf : fine 7 d.sels = true ∧ cnts d.sels ≤ 60
  ·rw [if_pos hf, b2]
   have ew : IntKind.i64.wrap ((n : Int) + (cnts d.sels : Int)) = ((n + cnts d.sels : Nat) : Int) := by rw [wrap_id (by omega)]; omega
   rw [ew, Bool.not_true, cond_false, int_eq0]
   by_cases h0 : cnts d.sels = 0
   ·have hs : d.sels = [] := cnts_zero.1 h0
    rw [decide_eq_true h0, cond_true, zdn_2_eq, cond_true]
    simp [defB, hs]
   ·have hs : decide (0 < d.sels.length) = true := decide_eq_true (by
     cases hh : d.sels with
     | nil => exact absurd (cnts_zero.2 hh) h0
     | cons a b => simp)
    rw [decide_eq_false h0, cond_false, zdn_2_eq]
    by_cases h60 : n + cnts d.sels ≤ 60
    ·rw [decide_eq_false (by omega), cond_false, e0, Option.bind_some]
     have hk : ∀ b, b = decide (d.kind = 1 ∨ d.kind = 2) → zdn_3 ((n + cnts d.sels : Nat) : Int) i d.kind b (xs.map GDef.enc) d.enc = rB ((defB d && (xs.drop (i + 1)).all defB) && decide (n + (cnts d.sels + total (xs.drop (i + 1))) ≤ 60)) := by
      intro b hb
      have ei : IntKind.i64.wrap ((i : Int) + 1) = ((i + 1 : Nat) : Int) := by rw [wrap_id (by omega)]; omega
      rw [spec_kindD hok _ _ _ b hb, zdn_6_eq, ei, spec_doc_loop hx k (i + 1) (n + cnts d.sels) (by omega) h60]
      unfold defB
      rw [hs, hf.1, Nat.add_assoc]
      cases kindD d.kind d.name d.on <;> simp
     rw [beq_int, beq_int]
     by_cases c1 : d.kind = 1
     ·rw [decide_eq_true c1, cond_true]
      exact hk true (by simp [c1])
     ·rw [decide_eq_false c1, cond_false]
      exact hk _ (by simp [c1])
    ·have : decide (n + (cnts d.sels + total (xs.drop (i + 1))) ≤ 60) = false := decide_eq_false (by omega)
     rw [decide_eq_true (by omega), cond_true, this, Bool.and_false]
  ·rw [if_neg hf, b2, Bool.not_false, cond_true, zdn_2_eq, cond_true]
   cases hfd : fine 7 d.sels with
   | false => simp [defB, hfd]
   | true =>
    have : decide (n + (cnts d.sels + total (xs.drop (i + 1))) ≤ 60) = false := decide_eq_false fun q => hf ⟨hfd, by omega⟩
    rw [this, Bool.and_false]
theorem spec_DocOK_ev {xs : List GDef} (hx : okL okDef xs) : ev E0 F_zdn [.p (.agg 1 [.sl 4 (xs.map GDef.enc)])] [] = rB (docB xs) := by
 have hlen : (xs.map GDef.enc).length = xs.length := by simp
 rw [zdn_0_ev, zdn_0_eq, hlen, l01In_ev, bB]
 unfold docB
 cases withinB xs.length 1 6 with
 | false => simp
 | true =>
  have := spec_doc_loop hx xs.length 0 0 (by omega) (by omega)
  have e0 : ((0 : Nat) : Int) = 0 := rfl
  rw [e0, List.drop_zero, Nat.zero_add] at this
  rw [Bool.not_true, cond_false, this, Bool.true_and]
theorem impl_kindD {d : GDef} (hd : okDef d) : ev E0 F_zad [.p (.agg 4 d.enc)] [] = rB (kindD d.kind d.name d.on && decide (0 < d.sels.length)) := by
 obtain ⟨h1, h2, h3⟩ := hd
 have key : ∀ b, b = decide (d.kind = 1 ∨ d.kind = 2) → zad_1 d.kind b d.kind d.name d.on (d.sels.map GSel.enc) = rB (kindD d.kind d.name d.on && decide (0 < d.sels.length)) := by
  intro b hb
  rw [zad_1_eq, isNameOrNone_ev h1, impl_NameOK_ev h1, impl_NameOK_ev h2]
  simp only [bB, List.length_map, int_gt0]
  subst hb
  unfold kindD
  by_cases c1 : d.kind = 1 ∨ d.kind = 2
  ·simp only [c1, decide_true, cond_true, if_true]
   cases (decide (d.name = sNone) || nameB d.name) <;> cases decide (d.on = sNone) <;> simp
  ·simp only [c1, decide_false, cond_false, if_false]
   rw [beq_int]
   by_cases c3 : d.kind = 3
   ·simp only [c3, decide_true, cond_true, if_true]
    cases nameB d.name <;> cases decide (d.name = sOn) <;> cases nameB d.on <;> simp
   ·simp only [c3, decide_false, cond_false, if_false, Bool.false_and]
 unfold GDef.enc
 rw [zad_0_ev, zad_0_eq, beq_int, beq_int]
 by_cases c1 : d.kind = 1
 ·rw [decide_eq_true c1, cond_true]
  exact key true (by simp [c1])
 ·rw [decide_eq_false c1, cond_false]
  exact key _ (by simp [c1])
theorem impl_DocOK_fold (l : List (List Pd)) (n i : Int) (l3 : List (List Pd)) (r : Int) : zae_4 l n i l3 [.int .i64 r] = zae_1 l n i l3 r := rfl
theorem impl_doc_loop {xs : List GDef} (hx : okL okDef xs) : ∀ (k i r : Nat), i + k = xs.length → r ≤ 60 → zae_1 (xs.map GDef.enc) xs.length i (xs.map GDef.enc) r = rB (((xs.drop i).all defB && decide (total (xs.drop i) ≤ r)) && withinB xs.length 1 6)
 | 0, i, r, h, hr => by
  have : i = xs.length := by omega
  subst this
  have hlen : (xs.map GDef.enc).length = xs.length := by simp
  rw [zae_1_eq, hlen, List.drop_length, decide_eq_false (by omega), cond_false, within_ev, bB]
  simp [total]
 | k + 1, i, r, h, hr => by
  have hlen : (xs.map GDef.enc).length = xs.length := by simp
  have hxl := hx.1
  have hlt : i < xs.length := by omega
  have hg : xs[i]? = some xs[i] := List.getElem?_eq_getElem hlt
  have hok := hx.2 xs[i] (List.getElem_mem _)
  rw [zae_1_eq, hlen, decide_eq_true (by omega), cond_true, if_pos (by omega), getD_enc hg, List.drop_eq_getElem_cons hlt, List.all_cons]
  generalize xs[i] = d at hg hok ⊢
  have e3 : asSl 6 (d.enc.getD 3 .undef) = some (d.sels.map GSel.enc) := rfl
  have ht : total (d :: xs.drop (i + 1)) = cnts d.sels + total (xs.drop (i + 1)) := by simp [total]
  rw [e3, Option.bind_some, ht, impl_kindD hok, bB]
  cases hk : kindD d.kind d.name d.on && decide (0 < d.sels.length) with
  | false =>
   rw [Bool.not_false, cond_true, zae_2_eq, cond_true]
   simp [defB, hk]
  | true =>
   obtain ⟨r1, q1, q2⟩ := areRight_ev 7 d.sels r (by omega) hok.2.2 hr
   have e7 : ((7 : Nat) : Int) = 7 := rfl
   rw [e7] at q1
   rw [Bool.not_true, cond_false, q1, bBox, fill_int, zae_3_eq]
   have hdef : defB d = fine 7 d.sels := by unfold defB; rw [hk, Bool.true_and]
   rw [hdef]
   by_cases hf : fine 7 d.sels = true ∧ cnts d.sels ≤ r
   ·have ei : IntKind.i64.wrap ((i : Int) + 1) = ((i + 1 : Nat) : Int) := by rw [wrap_id (by omega)]; omega
    rw [hf.1, decide_eq_true hf.2, Bool.and_self, Bool.not_true, cond_false, impl_DocOK_fold, q2 hf.1 hf.2, ei, impl_doc_loop hx k (i + 1) (r - cnts d.sels) (by omega) (by omega), Bool.true_and]
    have : decide (total (xs.drop (i + 1)) ≤ r - cnts d.sels) = decide (cnts d.sels + total (xs.drop (i + 1)) ≤ r) := by
     by_cases q : total (xs.drop (i + 1)) ≤ r - cnts d.sels
     ·rw [decide_eq_true q, decide_eq_true (by omega)]
     ·rw [decide_eq_false q, decide_eq_false (by omega)]
    rw [this]
   ·have hb : (fine 7 d.sels && decide (cnts d.sels ≤ r)) = false := by
     cases hfd : fine 7 d.sels with
     | false => rfl
     | true => rw [Bool.true_and]; exact decide_eq_false fun q => hf ⟨hfd, q⟩
    rw [hb, Bool.not_false, cond_true]
    cases hfd : fine 7 d.sels with
    | false => simp
    | true =>
     have : decide (cnts d.sels + total (xs.drop (i + 1)) ≤ r) = false := decide_eq_false fun q => hf ⟨hfd, by omega⟩
     rw [this, Bool.and_false, Bool.false_and]
theorem impl_DocOK_ev {xs : List GDef} (hx : okL okDef xs) : ev E0 F_zae [.p (.agg 1 [.sl 4 (xs.map GDef.enc)])] [] = rB (docB xs) := by
 have hlen : (xs.map GDef.enc).length = xs.length := by simp
 have := impl_doc_loop hx xs.length 0 60 (by omega) (by omega)
 have e0 : ((0 : Nat) : Int) = 0 := rfl
 have e60 : ((60 : Nat) : Int) = 60 := rfl
 rw [e0, e60, List.drop_zero] at this
 rw [zae_0_ev, zae_0_eq, hlen, this]
 unfold docB
 rw [Bool.and_comm]
end Go.Proofs.YtmnoibkdmeajpaaGreat.Dm
