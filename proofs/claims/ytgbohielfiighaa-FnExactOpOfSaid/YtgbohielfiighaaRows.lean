/-
  NARROWER THAN 'FOR EVERY INPUT', by the rows' own cells (each row's printed sentence says how): FnExactUsedVars: loops · FnExactFragmentOf: loops · FnExactOpOf: loops.
  DERIVED. THE GIVEN ROWS OF THIS SEAT. 5 by the template 'for every input the law returns true; each argument reads behind the call as it read before'; 0 by the template 'total and deterministic' (their statements: YtgbohielfiighaaTotals.lean).
  GIVEN WITH THE SEED: the statements are not yours to turn. If you find one false, say at which input.
  Laid BY PROGRAM, IN A SANDBOX (cutbox-rows.mjs): the forced cells as the released guide's own fill.sh prints them over the translation 6006ff18d715702e… (all of the seat's roots in one cut). By AI agents, Wed Nov 11 2026. No macro, syntax, notation, axiom, sorry.
-/
import Derived.Test.YtgbohielfiighaaChecked
import GoSem.Claim
import GoSem.ClaimJoined
import GoSem.ClaimMapViews
import Derived.JoinedTies
import Derived.KernelRfl
namespace Go.Proofs.Ytgbohielfiighaa
/- THE CELL 'sum', in the pinned program and in every row, IS THE sha256 OF THE DUMP (.gsa) THAT YtgbohielfiighaaProg.lean LOADS. Nothing in Lean hashes anything: it is a label: what it is worth is what the hold of that sum in a sandbox is worth. -/
noncomputable def Try.pinned : Pinned := { name := "ytgbohielfiighaa", sum := "6006ff18d715702e01d8a6efedf81540d86859509578dee46a189382c2284497", checked := Try.checked }
namespace Rows
def none {H : Type} : Left H := { results := [], args := [] }

/-- 'laws.FnExactUsedVars': WHATEVER THE INPUT: true; the input reads as it did. -/
def fnExactUsedVarsSpec : ChangeSpec := { name := "fnExactUsedVars", fn := fun _ => fun
  | [d] => { results := [.lit (.bool true)], args := [d] }
  | _ => none }
def fnExactUsedVarsRow : OpenClaim := { program := "ytgbohielfiighaa", sum := "6006ff18d715702e01d8a6efedf81540d86859509578dee46a189382c2284497", func := "loop.example/g00540/laws.FnExactUsedVars", spec := "fnExactUsedVars", unfollowed := true, recurses := true, loops := true, apart := false }
def FnExactUsedVarsSaid : Prop := fnExactUsedVarsRow.holds Try.pinned (OpenSpec.ofChange fnExactUsedVarsSpec)

/-- ITS FALSE NEIGHBOUR: 'it returns false'. Refute it at one input. -/
def fnExactUsedVarsWrong : ChangeSpec := { name := "fnExactUsedVars", fn := fun _ => fun
  | [d] => { results := [.lit (.bool false)], args := [d] }
  | _ => none }
def FnExactUsedVarsWrongFalsely : Prop := fnExactUsedVarsRow.holds Try.pinned (OpenSpec.ofChange fnExactUsedVarsWrong)

/-- 'laws.FnExactFragmentOf': WHATEVER THE INPUT: true; the input reads as it did. -/
def fnExactFragmentOfSpec : ChangeSpec := { name := "fnExactFragmentOf", fn := fun _ => fun
  | [d1, d2] => { results := [.lit (.bool true)], args := [d1, d2] }
  | _ => none }
def fnExactFragmentOfRow : OpenClaim := { program := "ytgbohielfiighaa", sum := "6006ff18d715702e01d8a6efedf81540d86859509578dee46a189382c2284497", func := "loop.example/g00540/laws.FnExactFragmentOf", spec := "fnExactFragmentOf", unfollowed := true, recurses := true, loops := true, apart := false }
def FnExactFragmentOfSaid : Prop := fnExactFragmentOfRow.holds Try.pinned (OpenSpec.ofChange fnExactFragmentOfSpec)

/-- ITS FALSE NEIGHBOUR: 'it returns false'. Refute it at one input. -/
def fnExactFragmentOfWrong : ChangeSpec := { name := "fnExactFragmentOf", fn := fun _ => fun
  | [d1, d2] => { results := [.lit (.bool false)], args := [d1, d2] }
  | _ => none }
def FnExactFragmentOfWrongFalsely : Prop := fnExactFragmentOfRow.holds Try.pinned (OpenSpec.ofChange fnExactFragmentOfWrong)

/-- 'laws.FnExactOpOf': WHATEVER THE INPUT: true; the input reads as it did. -/
def fnExactOpOfSpec : ChangeSpec := { name := "fnExactOpOf", fn := fun _ => fun
  | [d] => { results := [.lit (.bool true)], args := [d] }
  | _ => none }
def fnExactOpOfRow : OpenClaim := { program := "ytgbohielfiighaa", sum := "6006ff18d715702e01d8a6efedf81540d86859509578dee46a189382c2284497", func := "loop.example/g00540/laws.FnExactOpOf", spec := "fnExactOpOf", unfollowed := true, recurses := true, loops := true, apart := false }
def FnExactOpOfSaid : Prop := fnExactOpOfRow.holds Try.pinned (OpenSpec.ofChange fnExactOpOfSpec)

/-- ITS FALSE NEIGHBOUR: 'it returns false'. Refute it at one input. -/
def fnExactOpOfWrong : ChangeSpec := { name := "fnExactOpOf", fn := fun _ => fun
  | [d] => { results := [.lit (.bool false)], args := [d] }
  | _ => none }
def FnExactOpOfWrongFalsely : Prop := fnExactOpOfRow.holds Try.pinned (OpenSpec.ofChange fnExactOpOfWrong)

/-- 'laws.FnFragments': WHATEVER THE INPUT: true; the input reads as it did. -/
def fnFragmentsSpec : ChangeSpec := { name := "fnFragments", fn := fun _ => fun
  | [d] => { results := [.lit (.bool true)], args := [d] }
  | _ => none }
def fnFragmentsRow : OpenClaim := { program := "ytgbohielfiighaa", sum := "6006ff18d715702e01d8a6efedf81540d86859509578dee46a189382c2284497", func := "loop.example/g00540/laws.FnFragments", spec := "fnFragments", unfollowed := true, recurses := true, apart := false }
def FnFragmentsSaid : Prop := fnFragmentsRow.holds Try.pinned (OpenSpec.ofChange fnFragmentsSpec)

/-- ITS FALSE NEIGHBOUR: 'it returns false'. Refute it at one input. -/
def fnFragmentsWrong : ChangeSpec := { name := "fnFragments", fn := fun _ => fun
  | [d] => { results := [.lit (.bool false)], args := [d] }
  | _ => none }
def FnFragmentsWrongFalsely : Prop := fnFragmentsRow.holds Try.pinned (OpenSpec.ofChange fnFragmentsWrong)

/-- 'laws.FnCommit': WHATEVER THE INPUT: true; the input reads as it did. -/
def fnCommitSpec : ChangeSpec := { name := "fnCommit", fn := fun _ => fun
  | [d1, d2] => { results := [.lit (.bool true)], args := [d1, d2] }
  | _ => none }
def fnCommitRow : OpenClaim := { program := "ytgbohielfiighaa", sum := "6006ff18d715702e01d8a6efedf81540d86859509578dee46a189382c2284497", func := "loop.example/g00540/laws.FnCommit", spec := "fnCommit", unfollowed := true, recurses := true, apart := false }
def FnCommitSaid : Prop := fnCommitRow.holds Try.pinned (OpenSpec.ofChange fnCommitSpec)

/-- ITS FALSE NEIGHBOUR: 'it returns false'. Refute it at one input. -/
def fnCommitWrong : ChangeSpec := { name := "fnCommit", fn := fun _ => fun
  | [d1, d2] => { results := [.lit (.bool false)], args := [d1, d2] }
  | _ => none }
def FnCommitWrongFalsely : Prop := fnCommitRow.holds Try.pinned (OpenSpec.ofChange fnCommitWrong)

/- THE SECOND FORM. 'bulk': how many values and letters a reading holds, each counted each time it is reached (what is shared counts as often as it is met; a slice's spare places count too). A statement '..UptoSaid' is the law's where the arguments, and the package variables that the reading takes, are together of bulk at most 1048576: NARROWER than '..Said'. Prove '..Said' where nothing that the law and all that it calls make is longer than what came in: it says more and counts as full. Else prove '..UptoSaid'. A law counts once. -/
mutual
def uptoBulk {H : Type} : DataW H → Nat
  | .lit (.string bytes) => bytes.length + 1
  | .lit _ => 1
  | .nil => 1
  | .ptr d => uptoBulk d + 1
  | .slice elems spare => uptoBulkAll elems + uptoBulkAll spare + 1
  | .agg parts => uptoBulkAll parts + 1
  | .iface _ d => uptoBulk d + 1
  | .map entries => uptoBulkEntries entries + 1
  | .held _ => 1
def uptoBulkAll {H : Type} : List (DataW H) → Nat
  | [] => 0
  | d :: r => uptoBulk d + uptoBulkAll r
def uptoBulkEntries {H : Type} : List (Lit × DataW H) → Nat
  | [] => 0
  | x :: r => uptoBulkEntry x + uptoBulkEntries r
def uptoBulkEntry {H : Type} : Lit × DataW H → Nat
  | (.string bytes, d) => bytes.length + uptoBulk d + 1
  | (_, d) => uptoBulk d + 1
 end
def uptoSmall : (H : Type) → List (DataW H) → Bool := fun _ ds => decide (uptoBulkAll ds ≤ 1048576)
def OpenSpec.upto (s : _root_.Go.ChangeSpec) : _root_.Go.OpenSpec := { _root_.Go.OpenSpec.ofChange s with cond := some uptoSmall }

/-- 'laws.FnExactUsedVars', WHERE WHAT IT READS IS OF BULK AT MOST 1048576: true; the input reads as it did. -/
def fnExactUsedVarsUptoRow : OpenClaim := { program := "ytgbohielfiighaa", sum := "6006ff18d715702e01d8a6efedf81540d86859509578dee46a189382c2284497", func := "loop.example/g00540/laws.FnExactUsedVars", spec := "fnExactUsedVars", unfollowed := true, recurses := true, loops := true, apart := false, narrowed := true }
def FnExactUsedVarsUptoSaid : Prop := fnExactUsedVarsUptoRow.holds Try.pinned (OpenSpec.upto fnExactUsedVarsSpec)

/-- 'laws.FnExactFragmentOf', WHERE WHAT IT READS IS OF BULK AT MOST 1048576: true; the input reads as it did. -/
def fnExactFragmentOfUptoRow : OpenClaim := { program := "ytgbohielfiighaa", sum := "6006ff18d715702e01d8a6efedf81540d86859509578dee46a189382c2284497", func := "loop.example/g00540/laws.FnExactFragmentOf", spec := "fnExactFragmentOf", unfollowed := true, recurses := true, loops := true, apart := false, narrowed := true }
def FnExactFragmentOfUptoSaid : Prop := fnExactFragmentOfUptoRow.holds Try.pinned (OpenSpec.upto fnExactFragmentOfSpec)

/-- 'laws.FnExactOpOf', WHERE WHAT IT READS IS OF BULK AT MOST 1048576: true; the input reads as it did. -/
def fnExactOpOfUptoRow : OpenClaim := { program := "ytgbohielfiighaa", sum := "6006ff18d715702e01d8a6efedf81540d86859509578dee46a189382c2284497", func := "loop.example/g00540/laws.FnExactOpOf", spec := "fnExactOpOf", unfollowed := true, recurses := true, loops := true, apart := false, narrowed := true }
def FnExactOpOfUptoSaid : Prop := fnExactOpOfUptoRow.holds Try.pinned (OpenSpec.upto fnExactOpOfSpec)

/-- 'laws.FnFragments', WHERE WHAT IT READS IS OF BULK AT MOST 1048576: true; the input reads as it did. -/
def fnFragmentsUptoRow : OpenClaim := { program := "ytgbohielfiighaa", sum := "6006ff18d715702e01d8a6efedf81540d86859509578dee46a189382c2284497", func := "loop.example/g00540/laws.FnFragments", spec := "fnFragments", unfollowed := true, recurses := true, apart := false, narrowed := true }
def FnFragmentsUptoSaid : Prop := fnFragmentsUptoRow.holds Try.pinned (OpenSpec.upto fnFragmentsSpec)

/-- 'laws.FnCommit', WHERE WHAT IT READS IS OF BULK AT MOST 1048576: true; the input reads as it did. -/
def fnCommitUptoRow : OpenClaim := { program := "ytgbohielfiighaa", sum := "6006ff18d715702e01d8a6efedf81540d86859509578dee46a189382c2284497", func := "loop.example/g00540/laws.FnCommit", spec := "fnCommit", unfollowed := true, recurses := true, apart := false, narrowed := true }
def FnCommitUptoSaid : Prop := fnCommitUptoRow.holds Try.pinned (OpenSpec.upto fnCommitSpec)

end Rows
end Go.Proofs.Ytgbohielfiighaa
