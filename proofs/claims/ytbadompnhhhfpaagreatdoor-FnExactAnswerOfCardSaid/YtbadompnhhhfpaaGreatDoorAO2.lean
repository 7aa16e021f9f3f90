/- Answers' values as data: sizes, copies, comparisons; out of memory. -/
import Derived.Test.YtbadompnhhhfpaaGreatDoorAO1
namespace Go.Proofs.YtbadompnhhhfpaaGreatDoor.Dm
set_option linter.unusedVariables false
set_option linter.unusedSimpArgs false
inductive GOut where
  | mk (kind n : Int) (t : ByteArray) (keys : List ByteArray) (items : List GOut)
mutual
def GOut.enc : GOut → List Pd
  | .mk k n t ks is => [.int .i64 k, .int .i64 n, .str t, .sl 1 (ks.map encS), .sl 5 (GOut.encs is)]
def GOut.encs : List GOut → List (List Pd)
  | [] => []
  | x :: xs => GOut.enc x :: GOut.encs xs
end
theorem GOut.encs_eq : ∀ xs : List GOut, GOut.encs xs = xs.map GOut.enc
  | [] => rfl
  | x :: xs => by rw [GOut.encs, GOut.encs_eq xs]; rfl
mutual
def wOut : GOut → Nat
  | .mk _ _ t ks is => t.size + wL ByteArray.size ks + (is.length + wOuts is)
def wOuts : List GOut → Nat
  | [] => 0
  | x :: xs => wOut x + wOuts xs
end
theorem wOuts_eq : ∀ xs : List GOut, wOuts xs = (xs.map wOut).sum
  | [] => rfl
  | x :: xs => by rw [wOuts, wOuts_eq xs]; rfl
mutual
def okOut : GOut → Prop
  | .mk _ _ t ks is => okS t ∧ okL okS ks ∧ is.length ≤ 9223372036854775807 ∧ okOuts is
def okOuts : List GOut → Prop
  | [] => True
  | x :: xs => okOut x ∧ okOuts xs
end
theorem okOuts_mem : ∀ {xs : List GOut}, okOuts xs → ∀ x ∈ xs, okOut x
  | x :: xs, h, y, hy => by
    rcases List.mem_cons.1 hy with q | q
    · exact q ▸ h.1
    · exact okOuts_mem h.2 y q
theorem okOuts_of : ∀ {xs : List GOut}, (∀ x ∈ xs, okOut x) → okOuts xs
  | [], _ => trivial
  | x :: xs, h => ⟨h x (List.mem_cons_self ..), okOuts_of fun y hy => h y (List.mem_cons_of_mem _ hy)⟩
theorem len5 {l : List Pd} (h : l.length = 5) : ∃ a b c d e, l = [a, b, c, d, e] := by
  match l, h with
  | [a, b, c, d, e], _ => exact ⟨a, b, c, d, e, rfl⟩
theorem c_Out : Tryz.prog.cellsOf 30 = 5 := by kernel_rfl
theorem c_StrS : Tryz.prog.cellsOf 27 = 1 := by kernel_rfl
theorem c_OutS : Tryz.prog.cellsOf 28 = 1 := by kernel_rfl
theorem dec_Str {xs : List Pd} (h : WT Tryz.prog 9 xs) : ∃ s : ByteArray, xs = encS s ∧ okS s := by
  obtain ⟨s, e, w⟩ := h.str_inv Tryz.underlying9
  exact ⟨s, e, w⟩
theorem dec_Out : ∀ (n : Nat) (xs : List Pd), SizeOf.sizeOf xs ≤ n → WT Tryz.prog 30 xs → ∃ v : GOut, xs = v.enc ∧ okOut v
  | n, xs, hn, h => by
    obtain ⟨hl, hf⟩ := h.struct_inv Tryz.underlying30
    rw [c_Out] at hl
    obtain ⟨a, b, c, d, e, rfl⟩ := len5 hl
    simp only [List.mem_cons, List.not_mem_nil, or_false, forall_eq_or_imp, forall_eq, c_int, c_string, c_StrS, c_OutS] at hf
    obtain ⟨h1, h2, h3, h4, h5⟩ := hf
    obtain ⟨k, e1, _⟩ := h1.int_inv Tryz.underlying3
    obtain ⟨nn, e2, _⟩ := h2.int_inv Tryz.underlying3
    obtain ⟨tt, e3, w3⟩ := h3.str_inv Tryz.underlying9
    obtain ⟨es4, e4, l4, _, x4⟩ := h4.sl_inv Tryz.underlying27
    obtain ⟨es5, e5, l5, _, x5⟩ := h5.sl_inv Tryz.underlying28
    rw [c_string] at e4
    rw [c_Out] at e5
    simp at e1 e2 e3 e4 e5
    subst e1 e2 e3 e4 e5
    obtain ⟨ks, q4, o4⟩ := list_dec (f := encS) (ok := okS) (fun x hx => dec_Str (x4 x hx))
    have hrec : ∀ x ∈ es5, ∃ v, x = GOut.enc v ∧ okOut v := fun x hx => by
      have hlt := List.sizeOf_lt_of_mem hx
      cases n with
      | zero => simp at hn
      | succ n => exact dec_Out n x (by simp at hn; omega) (x5 x hx)
    obtain ⟨ss, q5, o5⟩ := list_dec (f := GOut.enc) (ok := okOut) hrec
    subst q4 q5
    refine ⟨.mk k nn tt ks ss, ?_, w3, ⟨by simpa using l4, o4⟩, by simpa using l5, okOuts_of o5⟩
    unfold GOut.enc
    rw [GOut.encs_eq]
def outTypes : List TypeId := [3, 9, 30, 27, 28]
theorem outTypes_ok : dataSet Tryz.prog outTypes = true := by kernel_rfl
end Go.Proofs.YtbadompnhhhfpaaGreatDoor.Dm
