/- Documents as data, typed; the same as rows of cells. -/
import Derived.Test.YtabomkmgnkjjfaaS2
import Derived.Test.YtabomkmgnkjjfaaH0
namespace Go.Proofs.Ytabomkmgnkjjfaa.Dm
set_option linter.unusedVariables false
set_option linter.unusedSimpArgs false
theorem agree_self {R : Type} (r : R) : agree (some r) (some r) = some r := agree_some.2 ⟨rfl, rfl⟩
/-! ### data -/
structure GVal where
  kind : Int
  n : Int
  t : ByteArray
structure GArg where
  name : ByteArray
  val : GVal
structure GDir where
  skip : Bool
  val : GVal
inductive GSel where
  | mk (kind : Int) (alias name : ByteArray) (args : List GArg) (dirs : List GDir) (sels : List GSel)
structure GDef where
  kind : Int
  name : ByteArray
  on : ByteArray
  sels : List GSel
structure GBind where
  name : ByteArray
  val : GVal
def GVal.enc (v : GVal) : List Pd := [.int .i64 v.kind, .int .i64 v.n, .str v.t]
def GArg.enc (a : GArg) : List Pd := [.str a.name, .int .i64 a.val.kind, .int .i64 a.val.n, .str a.val.t]
def GDir.enc (a : GDir) : List Pd := [.bool a.skip, .int .i64 a.val.kind, .int .i64 a.val.n, .str a.val.t]
def GBind.enc (a : GBind) : List Pd := [.str a.name, .int .i64 a.val.kind, .int .i64 a.val.n, .str a.val.t]
mutual
def GSel.enc : GSel → List Pd
  | .mk k a n args dirs sels => [.int .i64 k, .str a, .str n, .sl 4 (args.map GArg.enc), .sl 4 (dirs.map GDir.enc), .sl 6 (GSel.encs sels)]
def GSel.encs : List GSel → List (List Pd)
  | [] => []
  | x :: xs => GSel.enc x :: GSel.encs xs
end
theorem GSel.encs_eq : ∀ xs : List GSel, GSel.encs xs = xs.map GSel.enc
  | [] => rfl
  | x :: xs => by rw [GSel.encs, GSel.encs_eq xs]; rfl
def GDef.enc (d : GDef) : List Pd := [.int .i64 d.kind, .str d.name, .str d.on, .sl 6 (d.sels.map GSel.enc)]

/-- what lies in memory is no longer than any memory -/
def okVal (v : GVal) : Prop := v.t.size ≤ 9223372036854775807
def okArg (a : GArg) : Prop := a.name.size ≤ 9223372036854775807 ∧ okVal a.val
def okDir (a : GDir) : Prop := okVal a.val
def okBind (a : GBind) : Prop := a.name.size ≤ 9223372036854775807 ∧ okVal a.val
mutual
def okSel : GSel → Prop
  | .mk _ a n args dirs sels => a.size ≤ 9223372036854775807 ∧ n.size ≤ 9223372036854775807 ∧ okL okArg args ∧ okL okDir dirs ∧ sels.length ≤ 9223372036854775807 ∧ okSels sels
def okSels : List GSel → Prop
  | [] => True
  | x :: xs => okSel x ∧ okSels xs
end
theorem okSels_mem : ∀ {xs : List GSel}, okSels xs → ∀ x ∈ xs, okSel x
  | x :: xs, h, y, hy => by
    rcases List.mem_cons.1 hy with q | q
    · exact q ▸ h.1
    · exact okSels_mem h.2 y q
def okDef (d : GDef) : Prop := d.name.size ≤ 9223372036854775807 ∧ d.on.size ≤ 9223372036854775807 ∧ okL okSel d.sels

theorem okSels_of' : ∀ {xs : List GSel}, (∀ x ∈ xs, okSel x) → okSels xs
  | [], _ => trivial
  | x :: xs, h => ⟨h x (List.mem_cons_self ..), okSels_of' fun y hy => h y (List.mem_cons_of_mem _ hy)⟩
theorem len_map {α : Type} {f : α → List Pd} {xs : List α} {n : Nat} (h : xs.length ≤ n) : (xs.map f).length ≤ n := by rw [List.length_map]; exact h
end Go.Proofs.Ytabomkmgnkjjfaa.Dm
