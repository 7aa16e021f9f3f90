/- Lists of bytes, read. -/
import Derived.Test.YtambpnaakfodhaaGreatDoorC1
import Derived.Test.YtambpnaakfodhaaGreatDoorQI
import Derived.KernelRfl
namespace Go.Proofs.YtambpnaakfodhaaGreatDoor.Dm
set_option linter.unusedVariables false
set_option linter.unusedSectionVars false
section
variable {P : Program} {t : TypeId} {xs : List Pd}
theorem WT.int_inv {k : IntKind} (hu : P.underlying t = some (.int k)) (h : WT P t xs) : ∃ n, xs = [.int k n] ∧ (Lit.int k n).wf = true := by
  cases h with
  | int q w => rw [hu] at q; injection q with q; injection q with q; subst q; exact ⟨_, rfl, w⟩
  | bool q => rw [hu] at q; cases q
  | str q => rw [hu] at q; cases q
  | sl q => rw [hu] at q; cases q
  | struct q => rw [hu] at q; cases q
theorem WT.sl_inv {e : TypeId} (hu : P.underlying t = some (.slice e)) (h : WT P t xs) : ∃ es, xs = [.sl (P.cellsOf e) es] ∧ es.length ≤ 9223372036854775807 ∧ (∀ x ∈ es, x.length = P.cellsOf e) ∧ ∀ x ∈ es, WT P e x := by
  cases h with
  | sl q h1 h2 h3 => rw [hu] at q; injection q with q; injection q with q; subst q; exact ⟨_, rfl, h1, h2, h3⟩
  | int q => rw [hu] at q; cases q
  | bool q => rw [hu] at q; cases q
  | str q => rw [hu] at q; cases q
  | struct q => rw [hu] at q; cases q
end
theorem list_dec {α : Type} {f : α → List Pd} {ok : α → Prop} : ∀ {es : List (List Pd)}, (∀ x ∈ es, ∃ v, x = f v ∧ ok v) → ∃ l : List α, es = l.map f ∧ ∀ v ∈ l, ok v
  | [], _ => ⟨[], rfl, fun v h => by cases h⟩
  | x :: es, h => by
    obtain ⟨v, e1, e2⟩ := h x (List.mem_cons_self ..)
    obtain ⟨l, q1, q2⟩ := list_dec (fun y hy => h y (List.mem_cons_of_mem _ hy))
    exact ⟨v :: l, by rw [e1, q1]; rfl, fun w hw => by
      rcases List.mem_cons.1 hw with q | q
      · exact q ▸ e2
      · exact q2 w q⟩
theorem quiet_only {f n : Nat} (h : Cfg.qf f = some n) : f = 103 ∧ n = 2 := by
  have h : (bif Nat.beq f 103 then some 2 else (none : Option Nat)) = some n := h
  cases hb : Nat.beq f 103 with
  | true => rw [hb] at h; exact ⟨Nat.eq_of_beq_eq_true hb, (Option.some.inj h).symm⟩
  | false => rw [hb] at h; cases h
end Go.Proofs.YtambpnaakfodhaaGreatDoor.Dm
