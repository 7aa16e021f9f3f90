/-
  NARROWER THAN 'FOR EVERY INPUT', by the rows' own cells (each row's printed sentence says how): FnExactOutAt: loops · FnExactIncluded: loops · FnExactDocOK: loops · FnExactDocSize: loops · FnExactDocDepth: loops · FnExactMergedSels: loops · FnExactHasCycle: loops · FnExactRequestOK: loops · FnExactSameDoc: loops.
  DERIVED. THE GIVEN ROWS OF THIS SEAT. 11 by the template 'for every input the law returns true; each argument reads behind the call as it read before'; 0 by the template 'total and deterministic' (their statements: YtddlcoogocgfcaaTotals.lean).
  GIVEN WITH THE SEED: the statements are not yours to turn. If you find one false, say at which input.
  Laid BY PROGRAM, IN A SANDBOX (cutbox-rows.mjs): the forced cells as the released guide's own fill.sh prints them over the translation b1b2e2d0d3c18e7d… (all of the seat's roots in one cut). By AI agents, Wed Nov 11 2026. No macro, syntax, notation, axiom, sorry.
-/
import Derived.Test.YtddlcoogocgfcaaChecked
import GoSem.Claim
import GoSem.ClaimJoined
import GoSem.ClaimMapViews
import Derived.JoinedTies
import Derived.KernelRfl
namespace Go.Proofs.Ytddlcoogocgfcaa
/- THE CELL 'sum', in the pinned program and in every row, IS THE sha256 OF THE DUMP (.gsa) THAT YtddlcoogocgfcaaProg.lean LOADS. Nothing in Lean hashes anything: it is a label: what it is worth is what the hold of that sum in a sandbox is worth. -/
noncomputable def Try.pinned : Pinned := { name := "ytddlcoogocgfcaa", sum := "b1b2e2d0d3c18e7d7acd5c094310ce4435a663b75fbce12c81af7e7a453d6ccc", checked := Try.checked }
namespace Rows
def none {H : Type} : Left H := { results := [], args := [] }

/-- 'laws.FnExactOutAt': WHATEVER THE INPUT: true; the input reads as it did. -/
def fnExactOutAtSpec : ChangeSpec := { name := "fnExactOutAt", fn := fun _ => fun
  | [d1, d2] => { results := [.lit (.bool true)], args := [d1, d2] }
  | _ => none }
def fnExactOutAtRow : OpenClaim := { program := "ytddlcoogocgfcaa", sum := "b1b2e2d0d3c18e7d7acd5c094310ce4435a663b75fbce12c81af7e7a453d6ccc", func := "loop.example/g00540/laws.FnExactOutAt", spec := "fnExactOutAt", unfollowed := true, recurses := true, loops := true, apart := false }
def FnExactOutAtSaid : Prop := fnExactOutAtRow.holds Try.pinned (OpenSpec.ofChange fnExactOutAtSpec)

/-- ITS FALSE NEIGHBOUR: 'it returns false'. Refute it at one input. -/
def fnExactOutAtWrong : ChangeSpec := { name := "fnExactOutAt", fn := fun _ => fun
  | [d1, d2] => { results := [.lit (.bool false)], args := [d1, d2] }
  | _ => none }
def FnExactOutAtWrongFalsely : Prop := fnExactOutAtRow.holds Try.pinned (OpenSpec.ofChange fnExactOutAtWrong)

/-- 'laws.FnCommit': WHATEVER THE INPUT: true; the input reads as it did. -/
def fnCommitSpec : ChangeSpec := { name := "fnCommit", fn := fun _ => fun
  | [d1, d2] => { results := [.lit (.bool true)], args := [d1, d2] }
  | _ => none }
def fnCommitRow : OpenClaim := { program := "ytddlcoogocgfcaa", sum := "b1b2e2d0d3c18e7d7acd5c094310ce4435a663b75fbce12c81af7e7a453d6ccc", func := "loop.example/g00540/laws.FnCommit", spec := "fnCommit", unfollowed := true, recurses := true, apart := false }
def FnCommitSaid : Prop := fnCommitRow.holds Try.pinned (OpenSpec.ofChange fnCommitSpec)

/-- ITS FALSE NEIGHBOUR: 'it returns false'. Refute it at one input. -/
def fnCommitWrong : ChangeSpec := { name := "fnCommit", fn := fun _ => fun
  | [d1, d2] => { results := [.lit (.bool false)], args := [d1, d2] }
  | _ => none }
def FnCommitWrongFalsely : Prop := fnCommitRow.holds Try.pinned (OpenSpec.ofChange fnCommitWrong)

/-- 'laws.FnFragments': WHATEVER THE INPUT: true; the input reads as it did. -/
def fnFragmentsSpec : ChangeSpec := { name := "fnFragments", fn := fun _ => fun
  | [d] => { results := [.lit (.bool true)], args := [d] }
  | _ => none }
def fnFragmentsRow : OpenClaim := { program := "ytddlcoogocgfcaa", sum := "b1b2e2d0d3c18e7d7acd5c094310ce4435a663b75fbce12c81af7e7a453d6ccc", func := "loop.example/g00540/laws.FnFragments", spec := "fnFragments", unfollowed := true, recurses := true, apart := false }
def FnFragmentsSaid : Prop := fnFragmentsRow.holds Try.pinned (OpenSpec.ofChange fnFragmentsSpec)

/-- ITS FALSE NEIGHBOUR: 'it returns false'. Refute it at one input. -/
def fnFragmentsWrong : ChangeSpec := { name := "fnFragments", fn := fun _ => fun
  | [d] => { results := [.lit (.bool false)], args := [d] }
  | _ => none }
def FnFragmentsWrongFalsely : Prop := fnFragmentsRow.holds Try.pinned (OpenSpec.ofChange fnFragmentsWrong)

/-- 'laws.FnExactIncluded': WHATEVER THE INPUT: true; the input reads as it did. -/
def fnExactIncludedSpec : ChangeSpec := { name := "fnExactIncluded", fn := fun _ => fun
  | [d1, d2] => { results := [.lit (.bool true)], args := [d1, d2] }
  | _ => none }
def fnExactIncludedRow : OpenClaim := { program := "ytddlcoogocgfcaa", sum := "b1b2e2d0d3c18e7d7acd5c094310ce4435a663b75fbce12c81af7e7a453d6ccc", func := "loop.example/g00540/laws.FnExactIncluded", spec := "fnExactIncluded", unfollowed := true, recurses := true, loops := true, apart := false }
def FnExactIncludedSaid : Prop := fnExactIncludedRow.holds Try.pinned (OpenSpec.ofChange fnExactIncludedSpec)

/-- ITS FALSE NEIGHBOUR: 'it returns false'. Refute it at one input. -/
def fnExactIncludedWrong : ChangeSpec := { name := "fnExactIncluded", fn := fun _ => fun
  | [d1, d2] => { results := [.lit (.bool false)], args := [d1, d2] }
  | _ => none }
def FnExactIncludedWrongFalsely : Prop := fnExactIncludedRow.holds Try.pinned (OpenSpec.ofChange fnExactIncludedWrong)

/-- 'laws.FnExactDocOK': WHATEVER THE INPUT: true; the input reads as it did. -/
def fnExactDocOKSpec : ChangeSpec := { name := "fnExactDocOK", fn := fun _ => fun
  | [d] => { results := [.lit (.bool true)], args := [d] }
  | _ => none }
def fnExactDocOKRow : OpenClaim := { program := "ytddlcoogocgfcaa", sum := "b1b2e2d0d3c18e7d7acd5c094310ce4435a663b75fbce12c81af7e7a453d6ccc", func := "loop.example/g00540/laws.FnExactDocOK", spec := "fnExactDocOK", unfollowed := true, recurses := true, loops := true, apart := false }
def FnExactDocOKSaid : Prop := fnExactDocOKRow.holds Try.pinned (OpenSpec.ofChange fnExactDocOKSpec)

/-- ITS FALSE NEIGHBOUR: 'it returns false'. Refute it at one input. -/
def fnExactDocOKWrong : ChangeSpec := { name := "fnExactDocOK", fn := fun _ => fun
  | [d] => { results := [.lit (.bool false)], args := [d] }
  | _ => none }
def FnExactDocOKWrongFalsely : Prop := fnExactDocOKRow.holds Try.pinned (OpenSpec.ofChange fnExactDocOKWrong)

/-- 'laws.FnExactDocSize': WHATEVER THE INPUT: true; the input reads as it did. -/
def fnExactDocSizeSpec : ChangeSpec := { name := "fnExactDocSize", fn := fun _ => fun
  | [d] => { results := [.lit (.bool true)], args := [d] }
  | _ => none }
def fnExactDocSizeRow : OpenClaim := { program := "ytddlcoogocgfcaa", sum := "b1b2e2d0d3c18e7d7acd5c094310ce4435a663b75fbce12c81af7e7a453d6ccc", func := "loop.example/g00540/laws.FnExactDocSize", spec := "fnExactDocSize", unfollowed := true, recurses := true, loops := true, apart := false }
def FnExactDocSizeSaid : Prop := fnExactDocSizeRow.holds Try.pinned (OpenSpec.ofChange fnExactDocSizeSpec)

/-- ITS FALSE NEIGHBOUR: 'it returns false'. Refute it at one input. -/
def fnExactDocSizeWrong : ChangeSpec := { name := "fnExactDocSize", fn := fun _ => fun
  | [d] => { results := [.lit (.bool false)], args := [d] }
  | _ => none }
def FnExactDocSizeWrongFalsely : Prop := fnExactDocSizeRow.holds Try.pinned (OpenSpec.ofChange fnExactDocSizeWrong)

/-- 'laws.FnExactDocDepth': WHATEVER THE INPUT: true; the input reads as it did. -/
def fnExactDocDepthSpec : ChangeSpec := { name := "fnExactDocDepth", fn := fun _ => fun
  | [d] => { results := [.lit (.bool true)], args := [d] }
  | _ => none }
def fnExactDocDepthRow : OpenClaim := { program := "ytddlcoogocgfcaa", sum := "b1b2e2d0d3c18e7d7acd5c094310ce4435a663b75fbce12c81af7e7a453d6ccc", func := "loop.example/g00540/laws.FnExactDocDepth", spec := "fnExactDocDepth", unfollowed := true, recurses := true, loops := true, apart := false }
def FnExactDocDepthSaid : Prop := fnExactDocDepthRow.holds Try.pinned (OpenSpec.ofChange fnExactDocDepthSpec)

/-- ITS FALSE NEIGHBOUR: 'it returns false'. Refute it at one input. -/
def fnExactDocDepthWrong : ChangeSpec := { name := "fnExactDocDepth", fn := fun _ => fun
  | [d] => { results := [.lit (.bool false)], args := [d] }
  | _ => none }
def FnExactDocDepthWrongFalsely : Prop := fnExactDocDepthRow.holds Try.pinned (OpenSpec.ofChange fnExactDocDepthWrong)

/-- 'laws.FnExactMergedSels': WHATEVER THE INPUT: true; the input reads as it did. -/
def fnExactMergedSelsSpec : ChangeSpec := { name := "fnExactMergedSels", fn := fun _ => fun
  | [d] => { results := [.lit (.bool true)], args := [d] }
  | _ => none }
def fnExactMergedSelsRow : OpenClaim := { program := "ytddlcoogocgfcaa", sum := "b1b2e2d0d3c18e7d7acd5c094310ce4435a663b75fbce12c81af7e7a453d6ccc", func := "loop.example/g00540/laws.FnExactMergedSels", spec := "fnExactMergedSels", unfollowed := true, recurses := true, loops := true, apart := false }
def FnExactMergedSelsSaid : Prop := fnExactMergedSelsRow.holds Try.pinned (OpenSpec.ofChange fnExactMergedSelsSpec)

/-- ITS FALSE NEIGHBOUR: 'it returns false'. Refute it at one input. -/
def fnExactMergedSelsWrong : ChangeSpec := { name := "fnExactMergedSels", fn := fun _ => fun
  | [d] => { results := [.lit (.bool false)], args := [d] }
  | _ => none }
def FnExactMergedSelsWrongFalsely : Prop := fnExactMergedSelsRow.holds Try.pinned (OpenSpec.ofChange fnExactMergedSelsWrong)

/-- 'laws.FnExactHasCycle': WHATEVER THE INPUT: true; the input reads as it did. -/
def fnExactHasCycleSpec : ChangeSpec := { name := "fnExactHasCycle", fn := fun _ => fun
  | [d] => { results := [.lit (.bool true)], args := [d] }
  | _ => none }
def fnExactHasCycleRow : OpenClaim := { program := "ytddlcoogocgfcaa", sum := "b1b2e2d0d3c18e7d7acd5c094310ce4435a663b75fbce12c81af7e7a453d6ccc", func := "loop.example/g00540/laws.FnExactHasCycle", spec := "fnExactHasCycle", unfollowed := true, recurses := true, loops := true, apart := false }
def FnExactHasCycleSaid : Prop := fnExactHasCycleRow.holds Try.pinned (OpenSpec.ofChange fnExactHasCycleSpec)

/-- ITS FALSE NEIGHBOUR: 'it returns false'. Refute it at one input. -/
def fnExactHasCycleWrong : ChangeSpec := { name := "fnExactHasCycle", fn := fun _ => fun
  | [d] => { results := [.lit (.bool false)], args := [d] }
  | _ => none }
def FnExactHasCycleWrongFalsely : Prop := fnExactHasCycleRow.holds Try.pinned (OpenSpec.ofChange fnExactHasCycleWrong)

/-- 'laws.FnExactRequestOK': WHATEVER THE INPUT: true; the input reads as it did. -/
def fnExactRequestOKSpec : ChangeSpec := { name := "fnExactRequestOK", fn := fun _ => fun
  | [d] => { results := [.lit (.bool true)], args := [d] }
  | _ => none }
def fnExactRequestOKRow : OpenClaim := { program := "ytddlcoogocgfcaa", sum := "b1b2e2d0d3c18e7d7acd5c094310ce4435a663b75fbce12c81af7e7a453d6ccc", func := "loop.example/g00540/laws.FnExactRequestOK", spec := "fnExactRequestOK", unfollowed := true, recurses := true, loops := true, apart := false }
def FnExactRequestOKSaid : Prop := fnExactRequestOKRow.holds Try.pinned (OpenSpec.ofChange fnExactRequestOKSpec)

/-- ITS FALSE NEIGHBOUR: 'it returns false'. Refute it at one input. -/
def fnExactRequestOKWrong : ChangeSpec := { name := "fnExactRequestOK", fn := fun _ => fun
  | [d] => { results := [.lit (.bool false)], args := [d] }
  | _ => none }
def FnExactRequestOKWrongFalsely : Prop := fnExactRequestOKRow.holds Try.pinned (OpenSpec.ofChange fnExactRequestOKWrong)

/-- 'laws.FnExactSameDoc': WHATEVER THE INPUT: true; the input reads as it did. -/
def fnExactSameDocSpec : ChangeSpec := { name := "fnExactSameDoc", fn := fun _ => fun
  | [d1, d2] => { results := [.lit (.bool true)], args := [d1, d2] }
  | _ => none }
def fnExactSameDocRow : OpenClaim := { program := "ytddlcoogocgfcaa", sum := "b1b2e2d0d3c18e7d7acd5c094310ce4435a663b75fbce12c81af7e7a453d6ccc", func := "loop.example/g00540/laws.FnExactSameDoc", spec := "fnExactSameDoc", unfollowed := true, recurses := true, loops := true, apart := false }
def FnExactSameDocSaid : Prop := fnExactSameDocRow.holds Try.pinned (OpenSpec.ofChange fnExactSameDocSpec)

/-- ITS FALSE NEIGHBOUR: 'it returns false'. Refute it at one input. -/
def fnExactSameDocWrong : ChangeSpec := { name := "fnExactSameDoc", fn := fun _ => fun
  | [d1, d2] => { results := [.lit (.bool false)], args := [d1, d2] }
  | _ => none }
def FnExactSameDocWrongFalsely : Prop := fnExactSameDocRow.holds Try.pinned (OpenSpec.ofChange fnExactSameDocWrong)

/- THE SECOND FORM. 'bulk': how many values and letters a reading holds, each counted each time it is reached (what is shared counts as often as it is met; a slice's spare places count too). A statement '..UptoSaid' is the law's where the arguments, and the package variables that the reading takes, are together of bulk at most 1048576: NARROWER than '..Said'. Prove '..Said' where nothing that the law and all that it calls make is longer than what came in: it says more and counts as full. Else prove '..UptoSaid'. A law counts once. -/
mutual
def uptoBulk {H : Type} : DataW H → Nat
  | .lit (.string bytes) => bytes.length + 1
  | .lit _ => 1
  | .nil => 1
  | .ptr d => uptoBulk d + 1
  | .slice elems spare => uptoBulkAll elems + uptoBulkAll spare + 1
  | .agg parts => uptoBulkAll parts + 1
  | .iface _ d => uptoBulk d + 1
  | .map entries => uptoBulkEntries entries + 1
  | .held _ => 1
def uptoBulkAll {H : Type} : List (DataW H) → Nat
  | [] => 0
  | d :: r => uptoBulk d + uptoBulkAll r
def uptoBulkEntries {H : Type} : List (Lit × DataW H) → Nat
  | [] => 0
  | x :: r => uptoBulkEntry x + uptoBulkEntries r
def uptoBulkEntry {H : Type} : Lit × DataW H → Nat
  | (.string bytes, d) => bytes.length + uptoBulk d + 1
  | (_, d) => uptoBulk d + 1
 end
def uptoSmall : (H : Type) → List (DataW H) → Bool := fun _ ds => decide (uptoBulkAll ds ≤ 1048576)
def OpenSpec.upto (s : _root_.Go.ChangeSpec) : _root_.Go.OpenSpec := { _root_.Go.OpenSpec.ofChange s with cond := some uptoSmall }

/-- 'laws.FnExactOutAt', WHERE WHAT IT READS IS OF BULK AT MOST 1048576: true; the input reads as it did. -/
def fnExactOutAtUptoRow : OpenClaim := { program := "ytddlcoogocgfcaa", sum := "b1b2e2d0d3c18e7d7acd5c094310ce4435a663b75fbce12c81af7e7a453d6ccc", func := "loop.example/g00540/laws.FnExactOutAt", spec := "fnExactOutAt", unfollowed := true, recurses := true, loops := true, apart := false, narrowed := true }
def FnExactOutAtUptoSaid : Prop := fnExactOutAtUptoRow.holds Try.pinned (OpenSpec.upto fnExactOutAtSpec)

/-- 'laws.FnCommit', WHERE WHAT IT READS IS OF BULK AT MOST 1048576: true; the input reads as it did. -/
def fnCommitUptoRow : OpenClaim := { program := "ytddlcoogocgfcaa", sum := "b1b2e2d0d3c18e7d7acd5c094310ce4435a663b75fbce12c81af7e7a453d6ccc", func := "loop.example/g00540/laws.FnCommit", spec := "fnCommit", unfollowed := true, recurses := true, apart := false, narrowed := true }
def FnCommitUptoSaid : Prop := fnCommitUptoRow.holds Try.pinned (OpenSpec.upto fnCommitSpec)

/-- 'laws.FnFragments', WHERE WHAT IT READS IS OF BULK AT MOST 1048576: true; the input reads as it did. -/
def fnFragmentsUptoRow : OpenClaim := { program := "ytddlcoogocgfcaa", sum := "b1b2e2d0d3c18e7d7acd5c094310ce4435a663b75fbce12c81af7e7a453d6ccc", func := "loop.example/g00540/laws.FnFragments", spec := "fnFragments", unfollowed := true, recurses := true, apart := false, narrowed := true }
def FnFragmentsUptoSaid : Prop := fnFragmentsUptoRow.holds Try.pinned (OpenSpec.upto fnFragmentsSpec)

/-- 'laws.FnExactIncluded', WHERE WHAT IT READS IS OF BULK AT MOST 1048576: true; the input reads as it did. -/
def fnExactIncludedUptoRow : OpenClaim := { program := "ytddlcoogocgfcaa", sum := "b1b2e2d0d3c18e7d7acd5c094310ce4435a663b75fbce12c81af7e7a453d6ccc", func := "loop.example/g00540/laws.FnExactIncluded", spec := "fnExactIncluded", unfollowed := true, recurses := true, loops := true, apart := false, narrowed := true }
def FnExactIncludedUptoSaid : Prop := fnExactIncludedUptoRow.holds Try.pinned (OpenSpec.upto fnExactIncludedSpec)

/-- 'laws.FnExactDocOK', WHERE WHAT IT READS IS OF BULK AT MOST 1048576: true; the input reads as it did. -/
def fnExactDocOKUptoRow : OpenClaim := { program := "ytddlcoogocgfcaa", sum := "b1b2e2d0d3c18e7d7acd5c094310ce4435a663b75fbce12c81af7e7a453d6ccc", func := "loop.example/g00540/laws.FnExactDocOK", spec := "fnExactDocOK", unfollowed := true, recurses := true, loops := true, apart := false, narrowed := true }
def FnExactDocOKUptoSaid : Prop := fnExactDocOKUptoRow.holds Try.pinned (OpenSpec.upto fnExactDocOKSpec)

/-- 'laws.FnExactDocSize', WHERE WHAT IT READS IS OF BULK AT MOST 1048576: true; the input reads as it did. -/
def fnExactDocSizeUptoRow : OpenClaim := { program := "ytddlcoogocgfcaa", sum := "b1b2e2d0d3c18e7d7acd5c094310ce4435a663b75fbce12c81af7e7a453d6ccc", func := "loop.example/g00540/laws.FnExactDocSize", spec := "fnExactDocSize", unfollowed := true, recurses := true, loops := true, apart := false, narrowed := true }
def FnExactDocSizeUptoSaid : Prop := fnExactDocSizeUptoRow.holds Try.pinned (OpenSpec.upto fnExactDocSizeSpec)

/-- 'laws.FnExactDocDepth', WHERE WHAT IT READS IS OF BULK AT MOST 1048576: true; the input reads as it did. -/
def fnExactDocDepthUptoRow : OpenClaim := { program := "ytddlcoogocgfcaa", sum := "b1b2e2d0d3c18e7d7acd5c094310ce4435a663b75fbce12c81af7e7a453d6ccc", func := "loop.example/g00540/laws.FnExactDocDepth", spec := "fnExactDocDepth", unfollowed := true, recurses := true, loops := true, apart := false, narrowed := true }
def FnExactDocDepthUptoSaid : Prop := fnExactDocDepthUptoRow.holds Try.pinned (OpenSpec.upto fnExactDocDepthSpec)

/-- 'laws.FnExactMergedSels', WHERE WHAT IT READS IS OF BULK AT MOST 1048576: true; the input reads as it did. -/
def fnExactMergedSelsUptoRow : OpenClaim := { program := "ytddlcoogocgfcaa", sum := "b1b2e2d0d3c18e7d7acd5c094310ce4435a663b75fbce12c81af7e7a453d6ccc", func := "loop.example/g00540/laws.FnExactMergedSels", spec := "fnExactMergedSels", unfollowed := true, recurses := true, loops := true, apart := false, narrowed := true }
def FnExactMergedSelsUptoSaid : Prop := fnExactMergedSelsUptoRow.holds Try.pinned (OpenSpec.upto fnExactMergedSelsSpec)

/-- 'laws.FnExactHasCycle', WHERE WHAT IT READS IS OF BULK AT MOST 1048576: true; the input reads as it did. -/
def fnExactHasCycleUptoRow : OpenClaim := { program := "ytddlcoogocgfcaa", sum := "b1b2e2d0d3c18e7d7acd5c094310ce4435a663b75fbce12c81af7e7a453d6ccc", func := "loop.example/g00540/laws.FnExactHasCycle", spec := "fnExactHasCycle", unfollowed := true, recurses := true, loops := true, apart := false, narrowed := true }
def FnExactHasCycleUptoSaid : Prop := fnExactHasCycleUptoRow.holds Try.pinned (OpenSpec.upto fnExactHasCycleSpec)

/-- 'laws.FnExactRequestOK', WHERE WHAT IT READS IS OF BULK AT MOST 1048576: true; the input reads as it did. -/
def fnExactRequestOKUptoRow : OpenClaim := { program := "ytddlcoogocgfcaa", sum := "b1b2e2d0d3c18e7d7acd5c094310ce4435a663b75fbce12c81af7e7a453d6ccc", func := "loop.example/g00540/laws.FnExactRequestOK", spec := "fnExactRequestOK", unfollowed := true, recurses := true, loops := true, apart := false, narrowed := true }
def FnExactRequestOKUptoSaid : Prop := fnExactRequestOKUptoRow.holds Try.pinned (OpenSpec.upto fnExactRequestOKSpec)

/-- 'laws.FnExactSameDoc', WHERE WHAT IT READS IS OF BULK AT MOST 1048576: true; the input reads as it did. -/
def fnExactSameDocUptoRow : OpenClaim := { program := "ytddlcoogocgfcaa", sum := "b1b2e2d0d3c18e7d7acd5c094310ce4435a663b75fbce12c81af7e7a453d6ccc", func := "loop.example/g00540/laws.FnExactSameDoc", spec := "fnExactSameDoc", unfollowed := true, recurses := true, loops := true, apart := false, narrowed := true }
def FnExactSameDocUptoSaid : Prop := fnExactSameDocUptoRow.holds Try.pinned (OpenSpec.upto fnExactSameDocSpec)

end Rows
end Go.Proofs.Ytddlcoogocgfcaa
