/- Data read out of memory, by their types. Of no program. -/
import Derived.Test.YtabomkmgnkjjfaaDm19
namespace Go.Proofs.Ytabomkmgnkjjfaa.Dm
set_option linter.unusedVariables false
set_option linter.unusedSimpArgs false
section
variable {P : Program} {t : TypeId} {xs : List Pd}
theorem WT.int_inv {k : IntKind} (hu : P.underlying t = some (.int k)) (h : WT P t xs) : ∃ n, xs = [.int k n] ∧ (Lit.int k n).wf = true := by
  cases h with
  | int q w => rw [hu] at q; injection q with q; injection q with q; subst q; exact ⟨_, rfl, w⟩
  | bool q => rw [hu] at q; cases q
  | str q => rw [hu] at q; cases q
  | sl q => rw [hu] at q; cases q
  | struct q => rw [hu] at q; cases q
theorem WT.bool_inv (hu : P.underlying t = some .bool) (h : WT P t xs) : ∃ b, xs = [.bool b] := by
  cases h with
  | bool q => exact ⟨_, rfl⟩
  | int q => rw [hu] at q; cases q
  | str q => rw [hu] at q; cases q
  | sl q => rw [hu] at q; cases q
  | struct q => rw [hu] at q; cases q
theorem WT.str_inv (hu : P.underlying t = some .string) (h : WT P t xs) : ∃ s, xs = [.str s] ∧ s.size ≤ 9223372036854775807 := by
  cases h with
  | str q w => exact ⟨_, rfl, w⟩
  | int q => rw [hu] at q; cases q
  | bool q => rw [hu] at q; cases q
  | sl q => rw [hu] at q; cases q
  | struct q => rw [hu] at q; cases q
theorem WT.sl_inv {e : TypeId} (hu : P.underlying t = some (.slice e)) (h : WT P t xs) : ∃ es, xs = [.sl (P.cellsOf e) es] ∧ es.length ≤ 9223372036854775807 ∧ (∀ x ∈ es, x.length = P.cellsOf e) ∧ ∀ x ∈ es, WT P e x := by
  cases h with
  | sl q h1 h2 h3 => rw [hu] at q; injection q with q; injection q with q; subst q; exact ⟨_, rfl, h1, h2, h3⟩
  | int q => rw [hu] at q; cases q
  | bool q => rw [hu] at q; cases q
  | str q => rw [hu] at q; cases q
  | struct q => rw [hu] at q; cases q
theorem WT.struct_inv {fs : Array Field} (hu : P.underlying t = some (.struct fs)) (h : WT P t xs) : xs.length = P.cellsOf t ∧ ∀ f ∈ fs.toList, WT P f.type ((xs.drop f.offset).take (P.cellsOf f.type)) := by
  cases h with
  | struct q h1 h2 => rw [hu] at q; injection q with q; injection q with q; subst q; exact ⟨h1, h2⟩
  | int q => rw [hu] at q; cases q
  | bool q => rw [hu] at q; cases q
  | str q => rw [hu] at q; cases q
  | sl q => rw [hu] at q; cases q
end
theorem len1 {l : List Pd} (h : l.length = 1) : ∃ a, l = [a] := by
  match l, h with
  | [a], _ => exact ⟨a, rfl⟩
theorem len3 {l : List Pd} (h : l.length = 3) : ∃ a b c, l = [a, b, c] := by
  match l, h with
  | [a, b, c], _ => exact ⟨a, b, c, rfl⟩
theorem len4 {l : List Pd} (h : l.length = 4) : ∃ a b c d, l = [a, b, c, d] := by
  match l, h with
  | [a, b, c, d], _ => exact ⟨a, b, c, d, rfl⟩
theorem len6 {l : List Pd} (h : l.length = 6) : ∃ a b c d e f, l = [a, b, c, d, e, f] := by
  match l, h with
  | [a, b, c, d, e, f], _ => exact ⟨a, b, c, d, e, f, rfl⟩
theorem list_dec {α : Type} {f : α → List Pd} {ok : α → Prop} : ∀ {es : List (List Pd)}, (∀ x ∈ es, ∃ v, x = f v ∧ ok v) → ∃ l : List α, es = l.map f ∧ ∀ v ∈ l, ok v
  | [], _ => ⟨[], rfl, fun v h => by cases h⟩
  | x :: es, h => by
    obtain ⟨v, e1, e2⟩ := h x (List.mem_cons_self ..)
    obtain ⟨l, q1, q2⟩ := list_dec (fun y hy => h y (List.mem_cons_of_mem _ hy))
    exact ⟨v :: l, by rw [e1, q1]; rfl, fun w hw => by
      rcases List.mem_cons.1 hw with q | q
      · exact q ▸ e2
      · exact q2 w q⟩
end Go.Proofs.Ytabomkmgnkjjfaa.Dm
