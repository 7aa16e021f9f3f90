/- The machine over plain data: a coin; all regions whose order is drawn. -/
import Derived.Test.YtmnoibkdmeajpaaGreatDm16H
namespace Go.Proofs.YtmnoibkdmeajpaaGreat.Dm
set_option linter.unusedSectionVars false
open Go.RowKit
set_option linter.unusedVariables false
set_option linter.unusedSimpArgs false
variable [Cfg] {P : Program}
def VC (i s s1 : Nat) : Prop := (i = 0 ∧ s = 0 ∧ s1 = 1) ∨ (i = 1 ∧ s = 1 ∧ s1 = 3) ∨ (i = 1 ∧ s = 5 ∧ s1 = 7) ∨ (i = 2 ∧ s = 1 ∧ s1 = 5) ∨ (i = 2 ∧ s = 3 ∧ s1 = 7) ∨ (i = 3 ∧ s = 7 ∧ s1 = 15)
theorem coin_inv (l : List Nat) (h : runV VC l 0 15) : l = [0, 1, 2, 3] ∨ l = [0, 2, 1, 3] := by
 have none15 : ∀ {i s1}, ¬ VC i 15 s1 := fun h => by unfold VC at h; omega
 have fin : ∀ {l : List Nat}, runV VC l 15 15 → l = [] := fun {l} h => by
  cases l with
  | nil => rfl
  | cons i l => obtain ⟨s1, h1, _⟩ := h; exact absurd h1 none15
 have r7 : ∀ {l : List Nat}, runV VC l 7 15 → l = [3] := fun {l} h => by
  cases l with
  | nil => exact absurd (show (7 : Nat) = 15 from h) (by decide)
  | cons i l =>
   obtain ⟨s1, h1, h2⟩ := h
   have : i = 3 ∧ s1 = 15 := by unfold VC at h1; omega
   rw [this.2] at h2
   rw [this.1, fin h2]
 have r3 : ∀ {l : List Nat}, runV VC l 3 15 → l = [2, 3] := fun {l} h => by
  cases l with
  | nil => exact absurd (show (3 : Nat) = 15 from h) (by decide)
  | cons i l =>
   obtain ⟨s1, h1, h2⟩ := h
   have : i = 2 ∧ s1 = 7 := by unfold VC at h1; omega
   rw [this.2] at h2
   rw [this.1, r7 h2]
 have r5 : ∀ {l : List Nat}, runV VC l 5 15 → l = [1, 3] := fun {l} h => by
  cases l with
  | nil => exact absurd (show (5 : Nat) = 15 from h) (by decide)
  | cons i l =>
   obtain ⟨s1, h1, h2⟩ := h
   have : i = 1 ∧ s1 = 7 := by unfold VC at h1; omega
   rw [this.2] at h2
   rw [this.1, r7 h2]
 cases l with
 | nil => exact absurd (show (0 : Nat) = 15 from h) (by decide)
 | cons i l =>
  obtain ⟨s1, h1, h2⟩ := h
  have : i = 0 ∧ s1 = 1 := by unfold VC at h1; omega
  rw [this.2] at h2
  rw [this.1]
  cases l with
  | nil => exact absurd (show (1 : Nat) = 15 from h2) (by decide)
  | cons i l =>
   obtain ⟨s1, h1, h2⟩ := h2
   have : (i = 1 ∧ s1 = 3) ∨ (i = 2 ∧ s1 = 5) := by unfold VC at h1; omega
   rcases this with ⟨e1, e2⟩ | ⟨e1, e2⟩ <;> rw [e2] at h2 <;> rw [e1]
   ·rw [r3 h2]; exact .inl rfl
   ·rw [r5 h2]; exact .inr rfl
theorem coin_facts {ops : Array Oper} (h : isCoin ops = true) : ops.size = 4 ∧ drBack ops = true ∧ 0 ∈ (preAll ops ops.size).getD 1 [] ∧ 0 ∈ (preAll ops ops.size).getD 2 [] ∧ 1 ∈ (preAll ops ops.size).getD 3 [] ∧ 2 ∈ (preAll ops ops.size).getD 3 [] := by
 have hs : ops.size = 4 := by
  obtain ⟨a, b, c, d, e⟩ := coin_ops h
  rw [← Array.length_toList, e]; rfl
 refine ⟨hs, ?_⟩
 unfold isCoin at h
 split at h
 ·split at h
  ·simp only [Bool.and_eq_true, List.contains_iff_mem] at h
   obtain ⟨_, _, _, _, _, _, h1, h2, h3, h4, h5⟩ := h
   exact ⟨h1, h2, h3, h4, h5⟩
  ·cases h
 ·cases h
theorem coin_ok (hm : P.follows .mixedOrders = true) {ops : Array Oper} (h : isCoin ops = true) (t : Nat) : Region.schedule (P.follows .mixedOrders) ops t = [0, 1, 2, 3] ∨ Region.schedule (P.follows .mixedOrders) ops t = [0, 2, 1, 3] := by
 obtain ⟨hs, hb, h1, h2, h3, h4⟩ := coin_facts h
 refine coin_inv _ (order_ok (V := VC) (J := fun _ _ => True) (Good := fun _ => True) hm hb (fun _ _ _ _ _ _ => trivial) 4 (fun _ _ => trivial) (fun j hj hj' => by omega) (fun _ _ _ => trivial) (fun _ _ _ _ _ _ _ _ _ => trivial) (fun i j x y R s s1 s2 hij hx hy hn _ _ _ _ _ v1 v2 => ?_) trivial ?_ t)
 ·have hj := (Array.getElem?_eq_some_iff.1 hy).1
  have e1 : ¬ (i = 0 ∧ j = 1) := fun e => hn (by rw [e.1, e.2]; exact h1)
  have e2 : ¬ (i = 0 ∧ j = 2) := fun e => hn (by rw [e.1, e.2]; exact h2)
  have e3 : ¬ (i = 1 ∧ j = 3) := fun e => hn (by rw [e.1, e.2]; exact h3)
  have e4 : ¬ (i = 2 ∧ j = 3) := fun e => hn (by rw [e.1, e.2]; exact h4)
  have V0 : ∀ s s1, VC 0 s s1 → s1 = 1 := fun s s1 h => by unfold VC at h; omega
  have V3 : ∀ s s1, VC 3 s s1 → s = 7 := fun s s1 h => by unfold VC at h; omega
  have V1 : ∀ s s1, VC 1 s s1 → s = 1 ∨ s1 = 7 := fun s s1 h => by unfold VC at h; omega
  have V2 : ∀ s s1, VC 2 s s1 → s = 1 ∧ s1 = 5 ∨ s = 3 ∧ s1 = 7 := fun s s1 h => by unfold VC at h; omega
  have V1' : ∀ s s1, VC 1 s s1 → s1 = 3 ∨ s1 = 7 := fun s s1 h => by unfold VC at h; omega
  rcases (show i = 1 ∧ j = 2 ∨ i = 0 ∧ j = 3 by omega) with ⟨rfl, rfl⟩ | ⟨rfl, rfl⟩
  ·have a2 := V2 _ _ v2
   have a1 := V1 _ _ v1
   have a3 := V1' _ _ v1
   have b1 : s = 1 := by omega
   have b2 : s2 = 7 := by omega
   subst b1 b2
   exact ⟨5, .inr (.inr (.inr (.inl ⟨rfl, rfl, rfl⟩))), .inr (.inr (.inl ⟨rfl, rfl, rfl⟩))⟩
  ·have a1 := V0 _ _ v1
   have a2 := V3 _ _ v2
   omega
 ·rw [hs]
  exact ⟨1, .inl ⟨rfl, rfl, rfl⟩, 3, .inr (.inl ⟨rfl, rfl, rfl⟩), 7, .inr (.inr (.inr (.inr (.inl ⟨rfl, rfl, rfl⟩)))), 15, .inr (.inr (.inr (.inr (.inr ⟨rfl, rfl, rfl⟩)))), rfl⟩
theorem drS_ok (hm : P.follows .mixedOrders = true) : DrOK P := ⟨fun ops h t => coin_ok hm h t, fun R call ops st k r hdr h => drawn_ok hm hdr h⟩
end Go.Proofs.YtmnoibkdmeajpaaGreat.Dm
