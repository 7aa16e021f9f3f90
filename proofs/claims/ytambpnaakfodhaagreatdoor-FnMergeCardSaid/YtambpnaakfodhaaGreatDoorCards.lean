/-
  DERIVED. GIVEN WITH THE SEED: THE CARDS: each row of YtambpnaakfodhaaGreatDoorRows.lean that lists a variable, with what it lists TIED to the program's text (the seventh form; the later family's looks); each row that meets fmt, with fmt's text TOLD by the authors' own Lean function (tested against real Go, not proved from fmt's source: count such statements apart). THE CARD IS WHAT COUNTS. Prove the row's statement (the work); the ties are given (YtambpnaakfodhaaGreatDoorTie.lean); close each card by the builder's one call (the guide's Derived/Test/ToyasCard.lean, 'card_holds'). Laid BY PROGRAM, IN A SANDBOX (cutbox-door.mjs). By AI agents, Wed Nov 11 2026. No macro, syntax, notation, axiom, sorry.
-/
import Derived.Test.YtambpnaakfodhaaGreatDoorRows
import GoSem.ClaimSeven
namespace Go.Proofs.YtambpnaakfodhaaGreatDoor
namespace Rows

/-- THE TIED CARD OF 'laws.FnMerge'. -/
def fnMergeCard : Claim7 := { stood := { row := fnMergeRow, standIns := [], harness := (true, "4aea5c9007a9b237c685a1cc9d458e84943c2eb131c6d6cb1eee0557104dde26"), looks := true }, kinds := [], alts := [], laidByText := true, laidKinds := [.data, .data, .data, .sentinel, .sentinel], laidTests := true, laidLooks := .later }
def FnMergeCardSaid : Prop := Claim7.holds Tryz.pinned (.plain (OpenSpec.ofChange fnMergeSpec)) fnMergeCard

/-- THE TIED CARD OF 'laws.FnTwice'. -/
def fnTwiceCard : Claim7 := { stood := { row := fnTwiceRow, standIns := [], harness := (true, "4aea5c9007a9b237c685a1cc9d458e84943c2eb131c6d6cb1eee0557104dde26"), looks := true }, kinds := [], alts := [], laidByText := true, laidKinds := [.data, .data, .data, .sentinel, .sentinel], laidTests := true, laidLooks := .later }
def FnTwiceCardSaid : Prop := Claim7.holds Tryz.pinned (.plain (OpenSpec.ofChange fnTwiceSpec)) fnTwiceCard

/-- THE TIED CARD OF 'laws.FnNull'. -/
def fnNullCard : Claim7 := { stood := { row := fnNullRow, standIns := [], harness := (true, "4aea5c9007a9b237c685a1cc9d458e84943c2eb131c6d6cb1eee0557104dde26"), looks := true }, kinds := [], alts := [], laidByText := true, laidKinds := [.data, .data, .data, .sentinel, .sentinel], laidTests := true, laidLooks := .later }
def FnNullCardSaid : Prop := Claim7.holds Tryz.pinned (.plain (OpenSpec.ofChange fnNullSpec)) fnNullCard

/-- THE TIED CARD OF 'laws.FnWide'. -/
def fnWideCard : Claim7 := { stood := { row := fnWideRow, standIns := [], harness := (true, "4aea5c9007a9b237c685a1cc9d458e84943c2eb131c6d6cb1eee0557104dde26"), looks := true }, kinds := [], alts := [], laidByText := true, laidKinds := [.data, .data, .data, .sentinel, .sentinel], laidTests := true, laidLooks := .later }
def FnWideCardSaid : Prop := Claim7.holds Tryz.pinned (.plain (OpenSpec.ofChange fnWideSpec)) fnWideCard

/-- THE SECOND FORM's CARD OF 'laws.FnMerge'. -/
def fnMergeUptoCard : Claim7 := { stood := { row := fnMergeUptoRow, standIns := [], harness := (true, "4aea5c9007a9b237c685a1cc9d458e84943c2eb131c6d6cb1eee0557104dde26"), looks := true }, kinds := [], alts := [], laidByText := true, laidKinds := [.data, .data, .data, .sentinel, .sentinel], laidTests := true, laidLooks := .later }
def FnMergeUptoCardSaid : Prop := Claim7.holds Tryz.pinned (.plain (OpenSpec.upto fnMergeSpec)) fnMergeUptoCard

/-- THE SECOND FORM's CARD OF 'laws.FnTwice'. -/
def fnTwiceUptoCard : Claim7 := { stood := { row := fnTwiceUptoRow, standIns := [], harness := (true, "4aea5c9007a9b237c685a1cc9d458e84943c2eb131c6d6cb1eee0557104dde26"), looks := true }, kinds := [], alts := [], laidByText := true, laidKinds := [.data, .data, .data, .sentinel, .sentinel], laidTests := true, laidLooks := .later }
def FnTwiceUptoCardSaid : Prop := Claim7.holds Tryz.pinned (.plain (OpenSpec.upto fnTwiceSpec)) fnTwiceUptoCard

/-- THE SECOND FORM's CARD OF 'laws.FnNull'. -/
def fnNullUptoCard : Claim7 := { stood := { row := fnNullUptoRow, standIns := [], harness := (true, "4aea5c9007a9b237c685a1cc9d458e84943c2eb131c6d6cb1eee0557104dde26"), looks := true }, kinds := [], alts := [], laidByText := true, laidKinds := [.data, .data, .data, .sentinel, .sentinel], laidTests := true, laidLooks := .later }
def FnNullUptoCardSaid : Prop := Claim7.holds Tryz.pinned (.plain (OpenSpec.upto fnNullSpec)) fnNullUptoCard

/-- THE SECOND FORM's CARD OF 'laws.FnWide'. -/
def fnWideUptoCard : Claim7 := { stood := { row := fnWideUptoRow, standIns := [], harness := (true, "4aea5c9007a9b237c685a1cc9d458e84943c2eb131c6d6cb1eee0557104dde26"), looks := true }, kinds := [], alts := [], laidByText := true, laidKinds := [.data, .data, .data, .sentinel, .sentinel], laidTests := true, laidLooks := .later }
def FnWideUptoCardSaid : Prop := Claim7.holds Tryz.pinned (.plain (OpenSpec.upto fnWideSpec)) fnWideUptoCard
end Rows
end Go.Proofs.YtambpnaakfodhaaGreatDoor
