/- Small things of results, rows. Of no program. -/
import Derived.Test.YtabomkmgnkjjfaaDm19
import Derived.Laws.BitsLemmas
namespace Go.Proofs.Ytabomkmgnkjjfaa.Dm
set_option linter.unusedSectionVars false
set_option linter.unusedVariables false
set_option linter.unusedSimpArgs false

theorem wrap_id {n : Int} (h : -9223372036854775808 ≤ n ∧ n ≤ 9223372036854775807) : IntKind.i64.wrap n = n := by rw [IntKind.wrap_i64]; omega
abbrev rI (v : Int) : Option Res := some ([.p (.int .i64 v)], [])
abbrev rB (v : Bool) : Option Res := some ([.p (.bool v)], [])
abbrev rS' (v : ByteArray) : Option Res := some ([.p (.str v)], [])
abbrev rA (n : Nat) (v : List Pd) : Option Res := some ([.p (.agg n v)], [])
abbrev rL (n : Nat) (v : List (List Pd)) : Option Res := some ([.p (.sl n v)], [])
abbrev rW (n : Int) (o : Ob) : Option Res := some ([.p (.int .i64 n)], [o])
section
variable {R : Type}
theorem bI (v : Int) (K : Int → Option R) : ((rI v).bind fun r => (asInt .i64 (pAt 0 r.1)).bind fun v => if r.1.length = 1 then K v else none) = K v := by simp [pAt, asInt]
theorem bB (v : Bool) (K : Bool → Option R) : ((rB v).bind fun r => (asBool (pAt 0 r.1)).bind fun v => if r.1.length = 1 then K v else none) = K v := by simp [pAt, asBool]
theorem bS' (v : ByteArray) (K : ByteArray → Option R) : ((rS' v).bind fun r => (asStr (pAt 0 r.1)).bind fun v => if r.1.length = 1 then K v else none) = K v := by simp [pAt, asStr]
theorem bA (n : Nat) (v : List Pd) (K : List Pd → Option R) : ((rA n v).bind fun r => (asAgg n (pAt 0 r.1)).bind fun v => if r.1.length = 1 then K v else none) = K v := by simp [pAt, asAgg]
theorem bL (n : Nat) (v : List (List Pd)) (K : List (List Pd) → Option R) : ((rL n v).bind fun r => (asSl n (pAt 0 r.1)).bind fun v => if r.1.length = 1 then K v else none) = K v := by simp [pAt, asSl]
theorem bW (n : Int) (e s : Nat) (es : List (List Pd)) (K : Int → List (List Pd) → Option R) : ((rW n (.oarr e s es)).bind fun r => (asInt .i64 (pAt 0 r.1)).bind fun n => if r.1.length = 1 then ((asOarr e s (r.2.getD 0 .none)).bind fun l => if r.2.length = 1 then K n l else none) else none) = K n es := by simp [pAt, asInt, asOarr]
end
theorem asI (n : Int) : asInt .i64 (.int .i64 n) = some n := by simp [asInt]
theorem asS_ (v : ByteArray) : asStr (.str v) = some v := rfl
theorem asB_ (v : Bool) : asBool (.bool v) = some v := rfl
theorem asSl_ (n : Nat) (es : List (List Pd)) : asSl n (.sl n es) = some es := by simp [asSl]
theorem asOw_ (e n : Nat) (es : List (List Pd)) : asOw e n (.ow e n es) = some es := by simp [asOw]
theorem ne_self {α : Type} [BEq α] [LawfulBEq α] (x : α) : (x != x) = false := by simp
theorem nd_self (s : ByteArray) : (!decide (s = s)) = false := by simp
theorem nb_self (b : Bool) : (!(b == b)) = false := by simp
theorem getD_of {es : List (List Pd)} {i : Nat} {x : List Pd} (h : es[i]? = some x) : es.getD (i : Int).toNat [] = x := by
  simp [List.getD_eq_getElem?_getD, h]
theorem getD_of' {es : List (List Pd)} {i : Nat} {x : List Pd} (h : es[i]? = some x) : es.getD i [] = x := by
  simp [List.getD_eq_getElem?_getD, h]
theorem lt_of_get {α : Type} {xs : List α} {i : Nat} {x : α} (h : xs[i]? = some x) : i < xs.length := (List.getElem?_eq_some_iff.1 h).1
theorem getD_enc {α : Type} {f : α → List Pd} {xs : List α} {i : Nat} {x : α} (h : xs[i]? = some x) : (xs.map f).getD (i : Int).toNat [] = f x := by
  simp [List.getD_eq_getElem?_getD, h]
def wL {α : Type} (f : α → Nat) (xs : List α) : Nat := xs.length + (xs.map f).sum
def okL {α : Type} (f : α → Prop) (xs : List α) : Prop := xs.length ≤ 9223372036854775807 ∧ ∀ x ∈ xs, f x
theorem wL_len {α : Type} {f : α → Nat} {xs : List α} {n : Nat} (h : wL f xs ≤ n) : xs.length ≤ n := by unfold wL at h; omega
def encS (s : ByteArray) : List Pd := [.str s]
theorem inc_i {i n : Nat} (h : i < n) (hn : n ≤ 9223372036854775807) : IntKind.i64.wrap ((i : Int) + 1) = ((i + 1 : Nat) : Int) := by rw [wrap_id (by omega)]; omega
theorem limK {R : Type} {n b : Nat} {X : Option R} (h : n * b ≤ 1000000) : (if n * b ≤ LIM then X else none) = X := if_pos (by unfold LIM; omega)
theorem szDone {n : Nat} {A D : Option Res} : (bif decide ((n : Int) < (n : Int)) then A else D) = D := by
  rw [decide_eq_false (by omega), cond_false]
end Go.Proofs.Ytabomkmgnkjjfaa.Dm
