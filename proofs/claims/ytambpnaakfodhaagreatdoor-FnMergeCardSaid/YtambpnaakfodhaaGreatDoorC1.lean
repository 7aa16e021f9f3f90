/- Tables of calls; the heads of the laws. -/
import Derived.Test.YtambpnaakfodhaaGreatDoorS2
import Derived.Test.YtambpnaakfodhaaGreatDoorDm20
namespace Go.Proofs.YtambpnaakfodhaaGreatDoor.Dm
set_option linter.unusedVariables false
set_option linter.unusedSectionVars false
def TellsE (q : Told) : Prop := ev E0 q.f q.as q.os = some q.r
theorem tn : ∀ q ∈ ([] : List Told), TellsE q := fun q h => nomatch h
theorem tc {a : Told} {l : List Told} (h : TellsE a) (hl : ∀ q ∈ l, TellsE q) : ∀ q ∈ a :: l, TellsE q := fun q hq => by
  rcases List.mem_cons.1 hq with rfl | hq
  · exact h
  · exact hl q hq
end Go.Proofs.YtambpnaakfodhaaGreatDoor.Dm
