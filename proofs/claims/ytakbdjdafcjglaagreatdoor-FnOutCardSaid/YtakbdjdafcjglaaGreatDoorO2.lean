/- Answers' values as data: sizes, copies, comparisons; out of memory. -/
import Derived.Test.YtakbdjdafcjglaaGreatDoorO1
namespace Go.Proofs.YtakbdjdafcjglaaGreatDoor.Dm
set_option linter.unusedVariables false
set_option linter.unusedSimpArgs false

inductive GOut where
  | mk (kind n : Int) (t : ByteArray) (keys : List ByteArray) (items : List GOut)
def encS (s : ByteArray) : List Pd := [.str s]
mutual
def GOut.enc : GOut → List Pd
  | .mk k n t ks is => [.int .i64 k, .int .i64 n, .str t, .sl 1 (ks.map encS), .sl 5 (GOut.encs is)]
def GOut.encs : List GOut → List (List Pd)
  | [] => []
  | x :: xs => GOut.enc x :: GOut.encs xs
end
theorem GOut.encs_eq : ∀ xs : List GOut, GOut.encs xs = xs.map GOut.enc
  | [] => rfl
  | x :: xs => by rw [GOut.encs, GOut.encs_eq xs]; rfl
def okS (s : ByteArray) : Prop := s.size ≤ 9223372036854775807
mutual
def wOut : GOut → Nat
  | .mk _ _ t ks is => t.size + wL ByteArray.size ks + (is.length + wOuts is)
def wOuts : List GOut → Nat
  | [] => 0
  | x :: xs => wOut x + wOuts xs
end
theorem wOuts_eq : ∀ xs : List GOut, wOuts xs = (xs.map wOut).sum
  | [] => rfl
  | x :: xs => by rw [wOuts, wOuts_eq xs]; rfl
mutual
def okOut : GOut → Prop
  | .mk _ _ t ks is => okS t ∧ okL okS ks ∧ is.length ≤ 9223372036854775807 ∧ okOuts is
def okOuts : List GOut → Prop
  | [] => True
  | x :: xs => okOut x ∧ okOuts xs
end
theorem okOuts_mem : ∀ {xs : List GOut}, okOuts xs → ∀ x ∈ xs, okOut x
  | x :: xs, h, y, hy => by
    rcases List.mem_cons.1 hy with q | q
    · exact q ▸ h.1
    · exact okOuts_mem h.2 y q
theorem okOuts_of : ∀ {xs : List GOut}, (∀ x ∈ xs, okOut x) → okOuts xs
  | [], _ => trivial
  | x :: xs, h => ⟨h x (List.mem_cons_self ..), okOuts_of fun y hy => h y (List.mem_cons_of_mem _ hy)⟩

end Go.Proofs.YtakbdjdafcjglaaGreatDoor.Dm
