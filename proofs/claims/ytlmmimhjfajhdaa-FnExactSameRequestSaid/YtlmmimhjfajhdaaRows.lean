/-
  NARROWER THAN 'FOR EVERY INPUT', by the rows' own cells (each row's printed sentence says how): FnExactIncluded: loops · FnExactRequestOK: loops · FnExactSameDoc: loops · FnExactSameRequest: loops · FnExactVarsFit: loops · FnExactUsedVars: loops · FnExactFragmentOf: loops · FnExactOpOf: loops.
  DERIVED. THE GIVEN ROWS OF THIS SEAT. 8 by the template 'for every input the law returns true; each argument reads behind the call as it read before'; 0 by the template 'total and deterministic' (their statements: YtlmmimhjfajhdaaTotals.lean).
  GIVEN WITH THE SEED: the statements are not yours to turn. If you find one false, say at which input.
  Laid BY PROGRAM, IN A SANDBOX (cutbox-rows.mjs): the forced cells as the released guide's own fill.sh prints them over the translation a285d222bd5eaa96… (all of the seat's roots in one cut). By AI agents, Wed Nov 11 2026. No macro, syntax, notation, axiom, sorry.
-/
import Derived.Test.YtlmmimhjfajhdaaChecked
import GoSem.Claim
import GoSem.ClaimJoined
import GoSem.ClaimMapViews
import Derived.JoinedTies
import Derived.KernelRfl
namespace Go.Proofs.Ytlmmimhjfajhdaa
/- THE CELL 'sum', in the pinned program and in every row, IS THE sha256 OF THE DUMP (.gsa) THAT YtlmmimhjfajhdaaProg.lean LOADS. Nothing in Lean hashes anything: it is a label: what it is worth is what the hold of that sum in a sandbox is worth. -/
noncomputable def Try.pinned : Pinned := { name := "ytlmmimhjfajhdaa", sum := "a285d222bd5eaa96bddc3859466d8380909bc80e5c0ffb5073280be31b1279ba", checked := Try.checked }
namespace Rows
def none {H : Type} : Left H := { results := [], args := [] }

/-- 'laws.FnExactIncluded': WHATEVER THE INPUT: true; the input reads as it did. -/
def fnExactIncludedSpec : ChangeSpec := { name := "fnExactIncluded", fn := fun _ => fun
  | [d1, d2] => { results := [.lit (.bool true)], args := [d1, d2] }
  | _ => none }
def fnExactIncludedRow : OpenClaim := { program := "ytlmmimhjfajhdaa", sum := "a285d222bd5eaa96bddc3859466d8380909bc80e5c0ffb5073280be31b1279ba", func := "loop.example/g00540/laws.FnExactIncluded", spec := "fnExactIncluded", unfollowed := true, recurses := true, loops := true, apart := false }
def FnExactIncludedSaid : Prop := fnExactIncludedRow.holds Try.pinned (OpenSpec.ofChange fnExactIncludedSpec)

/-- ITS FALSE NEIGHBOUR: 'it returns false'. Refute it at one input. -/
def fnExactIncludedWrong : ChangeSpec := { name := "fnExactIncluded", fn := fun _ => fun
  | [d1, d2] => { results := [.lit (.bool false)], args := [d1, d2] }
  | _ => none }
def FnExactIncludedWrongFalsely : Prop := fnExactIncludedRow.holds Try.pinned (OpenSpec.ofChange fnExactIncludedWrong)

/-- 'laws.FnExactRequestOK': WHATEVER THE INPUT: true; the input reads as it did. -/
def fnExactRequestOKSpec : ChangeSpec := { name := "fnExactRequestOK", fn := fun _ => fun
  | [d] => { results := [.lit (.bool true)], args := [d] }
  | _ => none }
def fnExactRequestOKRow : OpenClaim := { program := "ytlmmimhjfajhdaa", sum := "a285d222bd5eaa96bddc3859466d8380909bc80e5c0ffb5073280be31b1279ba", func := "loop.example/g00540/laws.FnExactRequestOK", spec := "fnExactRequestOK", unfollowed := true, recurses := true, loops := true, apart := false }
def FnExactRequestOKSaid : Prop := fnExactRequestOKRow.holds Try.pinned (OpenSpec.ofChange fnExactRequestOKSpec)

/-- ITS FALSE NEIGHBOUR: 'it returns false'. Refute it at one input. -/
def fnExactRequestOKWrong : ChangeSpec := { name := "fnExactRequestOK", fn := fun _ => fun
  | [d] => { results := [.lit (.bool false)], args := [d] }
  | _ => none }
def FnExactRequestOKWrongFalsely : Prop := fnExactRequestOKRow.holds Try.pinned (OpenSpec.ofChange fnExactRequestOKWrong)

/-- 'laws.FnExactSameDoc': WHATEVER THE INPUT: true; the input reads as it did. -/
def fnExactSameDocSpec : ChangeSpec := { name := "fnExactSameDoc", fn := fun _ => fun
  | [d1, d2] => { results := [.lit (.bool true)], args := [d1, d2] }
  | _ => none }
def fnExactSameDocRow : OpenClaim := { program := "ytlmmimhjfajhdaa", sum := "a285d222bd5eaa96bddc3859466d8380909bc80e5c0ffb5073280be31b1279ba", func := "loop.example/g00540/laws.FnExactSameDoc", spec := "fnExactSameDoc", unfollowed := true, recurses := true, loops := true, apart := false }
def FnExactSameDocSaid : Prop := fnExactSameDocRow.holds Try.pinned (OpenSpec.ofChange fnExactSameDocSpec)

/-- ITS FALSE NEIGHBOUR: 'it returns false'. Refute it at one input. -/
def fnExactSameDocWrong : ChangeSpec := { name := "fnExactSameDoc", fn := fun _ => fun
  | [d1, d2] => { results := [.lit (.bool false)], args := [d1, d2] }
  | _ => none }
def FnExactSameDocWrongFalsely : Prop := fnExactSameDocRow.holds Try.pinned (OpenSpec.ofChange fnExactSameDocWrong)

/-- 'laws.FnExactSameRequest': WHATEVER THE INPUT: true; the input reads as it did. -/
def fnExactSameRequestSpec : ChangeSpec := { name := "fnExactSameRequest", fn := fun _ => fun
  | [d1, d2] => { results := [.lit (.bool true)], args := [d1, d2] }
  | _ => none }
def fnExactSameRequestRow : OpenClaim := { program := "ytlmmimhjfajhdaa", sum := "a285d222bd5eaa96bddc3859466d8380909bc80e5c0ffb5073280be31b1279ba", func := "loop.example/g00540/laws.FnExactSameRequest", spec := "fnExactSameRequest", unfollowed := true, recurses := true, loops := true, apart := false }
def FnExactSameRequestSaid : Prop := fnExactSameRequestRow.holds Try.pinned (OpenSpec.ofChange fnExactSameRequestSpec)

/-- ITS FALSE NEIGHBOUR: 'it returns false'. Refute it at one input. -/
def fnExactSameRequestWrong : ChangeSpec := { name := "fnExactSameRequest", fn := fun _ => fun
  | [d1, d2] => { results := [.lit (.bool false)], args := [d1, d2] }
  | _ => none }
def FnExactSameRequestWrongFalsely : Prop := fnExactSameRequestRow.holds Try.pinned (OpenSpec.ofChange fnExactSameRequestWrong)

/-- 'laws.FnExactVarsFit': WHATEVER THE INPUT: true; the input reads as it did. -/
def fnExactVarsFitSpec : ChangeSpec := { name := "fnExactVarsFit", fn := fun _ => fun
  | [d1, d2] => { results := [.lit (.bool true)], args := [d1, d2] }
  | _ => none }
def fnExactVarsFitRow : OpenClaim := { program := "ytlmmimhjfajhdaa", sum := "a285d222bd5eaa96bddc3859466d8380909bc80e5c0ffb5073280be31b1279ba", func := "loop.example/g00540/laws.FnExactVarsFit", spec := "fnExactVarsFit", unfollowed := true, recurses := true, loops := true, apart := false }
def FnExactVarsFitSaid : Prop := fnExactVarsFitRow.holds Try.pinned (OpenSpec.ofChange fnExactVarsFitSpec)

/-- ITS FALSE NEIGHBOUR: 'it returns false'. Refute it at one input. -/
def fnExactVarsFitWrong : ChangeSpec := { name := "fnExactVarsFit", fn := fun _ => fun
  | [d1, d2] => { results := [.lit (.bool false)], args := [d1, d2] }
  | _ => none }
def FnExactVarsFitWrongFalsely : Prop := fnExactVarsFitRow.holds Try.pinned (OpenSpec.ofChange fnExactVarsFitWrong)

/-- 'laws.FnExactUsedVars': WHATEVER THE INPUT: true; the input reads as it did. -/
def fnExactUsedVarsSpec : ChangeSpec := { name := "fnExactUsedVars", fn := fun _ => fun
  | [d] => { results := [.lit (.bool true)], args := [d] }
  | _ => none }
def fnExactUsedVarsRow : OpenClaim := { program := "ytlmmimhjfajhdaa", sum := "a285d222bd5eaa96bddc3859466d8380909bc80e5c0ffb5073280be31b1279ba", func := "loop.example/g00540/laws.FnExactUsedVars", spec := "fnExactUsedVars", unfollowed := true, recurses := true, loops := true, apart := false }
def FnExactUsedVarsSaid : Prop := fnExactUsedVarsRow.holds Try.pinned (OpenSpec.ofChange fnExactUsedVarsSpec)

/-- ITS FALSE NEIGHBOUR: 'it returns false'. Refute it at one input. -/
def fnExactUsedVarsWrong : ChangeSpec := { name := "fnExactUsedVars", fn := fun _ => fun
  | [d] => { results := [.lit (.bool false)], args := [d] }
  | _ => none }
def FnExactUsedVarsWrongFalsely : Prop := fnExactUsedVarsRow.holds Try.pinned (OpenSpec.ofChange fnExactUsedVarsWrong)

/-- 'laws.FnExactFragmentOf': WHATEVER THE INPUT: true; the input reads as it did. -/
def fnExactFragmentOfSpec : ChangeSpec := { name := "fnExactFragmentOf", fn := fun _ => fun
  | [d1, d2] => { results := [.lit (.bool true)], args := [d1, d2] }
  | _ => none }
def fnExactFragmentOfRow : OpenClaim := { program := "ytlmmimhjfajhdaa", sum := "a285d222bd5eaa96bddc3859466d8380909bc80e5c0ffb5073280be31b1279ba", func := "loop.example/g00540/laws.FnExactFragmentOf", spec := "fnExactFragmentOf", unfollowed := true, recurses := true, loops := true, apart := false }
def FnExactFragmentOfSaid : Prop := fnExactFragmentOfRow.holds Try.pinned (OpenSpec.ofChange fnExactFragmentOfSpec)

/-- ITS FALSE NEIGHBOUR: 'it returns false'. Refute it at one input. -/
def fnExactFragmentOfWrong : ChangeSpec := { name := "fnExactFragmentOf", fn := fun _ => fun
  | [d1, d2] => { results := [.lit (.bool false)], args := [d1, d2] }
  | _ => none }
def FnExactFragmentOfWrongFalsely : Prop := fnExactFragmentOfRow.holds Try.pinned (OpenSpec.ofChange fnExactFragmentOfWrong)

/-- 'laws.FnExactOpOf': WHATEVER THE INPUT: true; the input reads as it did. -/
def fnExactOpOfSpec : ChangeSpec := { name := "fnExactOpOf", fn := fun _ => fun
  | [d] => { results := [.lit (.bool true)], args := [d] }
  | _ => none }
def fnExactOpOfRow : OpenClaim := { program := "ytlmmimhjfajhdaa", sum := "a285d222bd5eaa96bddc3859466d8380909bc80e5c0ffb5073280be31b1279ba", func := "loop.example/g00540/laws.FnExactOpOf", spec := "fnExactOpOf", unfollowed := true, recurses := true, loops := true, apart := false }
def FnExactOpOfSaid : Prop := fnExactOpOfRow.holds Try.pinned (OpenSpec.ofChange fnExactOpOfSpec)

/-- ITS FALSE NEIGHBOUR: 'it returns false'. Refute it at one input. -/
def fnExactOpOfWrong : ChangeSpec := { name := "fnExactOpOf", fn := fun _ => fun
  | [d] => { results := [.lit (.bool false)], args := [d] }
  | _ => none }
def FnExactOpOfWrongFalsely : Prop := fnExactOpOfRow.holds Try.pinned (OpenSpec.ofChange fnExactOpOfWrong)

/- THE SECOND FORM. 'bulk': how many values and letters a reading holds, each counted each time it is reached (what is shared counts as often as it is met; a slice's spare places count too). A statement '..UptoSaid' is the law's where the arguments, and the package variables that the reading takes, are together of bulk at most 1048576: NARROWER than '..Said'. Prove '..Said' where nothing that the law and all that it calls make is longer than what came in: it says more and counts as full. Else prove '..UptoSaid'. A law counts once. -/
mutual
def uptoBulk {H : Type} : DataW H → Nat
  | .lit (.string bytes) => bytes.length + 1
  | .lit _ => 1
  | .nil => 1
  | .ptr d => uptoBulk d + 1
  | .slice elems spare => uptoBulkAll elems + uptoBulkAll spare + 1
  | .agg parts => uptoBulkAll parts + 1
  | .iface _ d => uptoBulk d + 1
  | .map entries => uptoBulkEntries entries + 1
  | .held _ => 1
def uptoBulkAll {H : Type} : List (DataW H) → Nat
  | [] => 0
  | d :: r => uptoBulk d + uptoBulkAll r
def uptoBulkEntries {H : Type} : List (Lit × DataW H) → Nat
  | [] => 0
  | x :: r => uptoBulkEntry x + uptoBulkEntries r
def uptoBulkEntry {H : Type} : Lit × DataW H → Nat
  | (.string bytes, d) => bytes.length + uptoBulk d + 1
  | (_, d) => uptoBulk d + 1
 end
def uptoSmall : (H : Type) → List (DataW H) → Bool := fun _ ds => decide (uptoBulkAll ds ≤ 1048576)
def OpenSpec.upto (s : _root_.Go.ChangeSpec) : _root_.Go.OpenSpec := { _root_.Go.OpenSpec.ofChange s with cond := some uptoSmall }

/-- 'laws.FnExactIncluded', WHERE WHAT IT READS IS OF BULK AT MOST 1048576: true; the input reads as it did. -/
def fnExactIncludedUptoRow : OpenClaim := { program := "ytlmmimhjfajhdaa", sum := "a285d222bd5eaa96bddc3859466d8380909bc80e5c0ffb5073280be31b1279ba", func := "loop.example/g00540/laws.FnExactIncluded", spec := "fnExactIncluded", unfollowed := true, recurses := true, loops := true, apart := false, narrowed := true }
def FnExactIncludedUptoSaid : Prop := fnExactIncludedUptoRow.holds Try.pinned (OpenSpec.upto fnExactIncludedSpec)

/-- 'laws.FnExactRequestOK', WHERE WHAT IT READS IS OF BULK AT MOST 1048576: true; the input reads as it did. -/
def fnExactRequestOKUptoRow : OpenClaim := { program := "ytlmmimhjfajhdaa", sum := "a285d222bd5eaa96bddc3859466d8380909bc80e5c0ffb5073280be31b1279ba", func := "loop.example/g00540/laws.FnExactRequestOK", spec := "fnExactRequestOK", unfollowed := true, recurses := true, loops := true, apart := false, narrowed := true }
def FnExactRequestOKUptoSaid : Prop := fnExactRequestOKUptoRow.holds Try.pinned (OpenSpec.upto fnExactRequestOKSpec)

/-- 'laws.FnExactSameDoc', WHERE WHAT IT READS IS OF BULK AT MOST 1048576: true; the input reads as it did. -/
def fnExactSameDocUptoRow : OpenClaim := { program := "ytlmmimhjfajhdaa", sum := "a285d222bd5eaa96bddc3859466d8380909bc80e5c0ffb5073280be31b1279ba", func := "loop.example/g00540/laws.FnExactSameDoc", spec := "fnExactSameDoc", unfollowed := true, recurses := true, loops := true, apart := false, narrowed := true }
def FnExactSameDocUptoSaid : Prop := fnExactSameDocUptoRow.holds Try.pinned (OpenSpec.upto fnExactSameDocSpec)

/-- 'laws.FnExactSameRequest', WHERE WHAT IT READS IS OF BULK AT MOST 1048576: true; the input reads as it did. -/
def fnExactSameRequestUptoRow : OpenClaim := { program := "ytlmmimhjfajhdaa", sum := "a285d222bd5eaa96bddc3859466d8380909bc80e5c0ffb5073280be31b1279ba", func := "loop.example/g00540/laws.FnExactSameRequest", spec := "fnExactSameRequest", unfollowed := true, recurses := true, loops := true, apart := false, narrowed := true }
def FnExactSameRequestUptoSaid : Prop := fnExactSameRequestUptoRow.holds Try.pinned (OpenSpec.upto fnExactSameRequestSpec)

/-- 'laws.FnExactVarsFit', WHERE WHAT IT READS IS OF BULK AT MOST 1048576: true; the input reads as it did. -/
def fnExactVarsFitUptoRow : OpenClaim := { program := "ytlmmimhjfajhdaa", sum := "a285d222bd5eaa96bddc3859466d8380909bc80e5c0ffb5073280be31b1279ba", func := "loop.example/g00540/laws.FnExactVarsFit", spec := "fnExactVarsFit", unfollowed := true, recurses := true, loops := true, apart := false, narrowed := true }
def FnExactVarsFitUptoSaid : Prop := fnExactVarsFitUptoRow.holds Try.pinned (OpenSpec.upto fnExactVarsFitSpec)

/-- 'laws.FnExactUsedVars', WHERE WHAT IT READS IS OF BULK AT MOST 1048576: true; the input reads as it did. -/
def fnExactUsedVarsUptoRow : OpenClaim := { program := "ytlmmimhjfajhdaa", sum := "a285d222bd5eaa96bddc3859466d8380909bc80e5c0ffb5073280be31b1279ba", func := "loop.example/g00540/laws.FnExactUsedVars", spec := "fnExactUsedVars", unfollowed := true, recurses := true, loops := true, apart := false, narrowed := true }
def FnExactUsedVarsUptoSaid : Prop := fnExactUsedVarsUptoRow.holds Try.pinned (OpenSpec.upto fnExactUsedVarsSpec)

/-- 'laws.FnExactFragmentOf', WHERE WHAT IT READS IS OF BULK AT MOST 1048576: true; the input reads as it did. -/
def fnExactFragmentOfUptoRow : OpenClaim := { program := "ytlmmimhjfajhdaa", sum := "a285d222bd5eaa96bddc3859466d8380909bc80e5c0ffb5073280be31b1279ba", func := "loop.example/g00540/laws.FnExactFragmentOf", spec := "fnExactFragmentOf", unfollowed := true, recurses := true, loops := true, apart := false, narrowed := true }
def FnExactFragmentOfUptoSaid : Prop := fnExactFragmentOfUptoRow.holds Try.pinned (OpenSpec.upto fnExactFragmentOfSpec)

/-- 'laws.FnExactOpOf', WHERE WHAT IT READS IS OF BULK AT MOST 1048576: true; the input reads as it did. -/
def fnExactOpOfUptoRow : OpenClaim := { program := "ytlmmimhjfajhdaa", sum := "a285d222bd5eaa96bddc3859466d8380909bc80e5c0ffb5073280be31b1279ba", func := "loop.example/g00540/laws.FnExactOpOf", spec := "fnExactOpOf", unfollowed := true, recurses := true, loops := true, apart := false, narrowed := true }
def FnExactOpOfUptoSaid : Prop := fnExactOpOfUptoRow.holds Try.pinned (OpenSpec.upto fnExactOpOfSpec)

end Rows
end Go.Proofs.Ytlmmimhjfajhdaa
