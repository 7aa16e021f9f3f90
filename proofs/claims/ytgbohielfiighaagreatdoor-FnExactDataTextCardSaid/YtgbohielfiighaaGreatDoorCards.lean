/-
  DERIVED. GIVEN WITH THE SEED: THE CARDS: each row of YtgbohielfiighaaGreatDoorRows.lean that lists a variable, with what it lists TIED to the program's text (the seventh form; the later family's looks); each row that meets fmt, with fmt's text TOLD by the authors' own Lean function (tested against real Go, not proved from fmt's source: count such statements apart). THE CARD IS WHAT COUNTS. Prove the row's statement (the work); the ties are given (YtgbohielfiighaaGreatDoorTie.lean); close each card by the builder's one call (the guide's Derived/Test/ToyasCard.lean, 'card_holds'). Laid BY PROGRAM, IN A SANDBOX (cutbox-door.mjs). By AI agents, Wed Nov 11 2026. No macro, syntax, notation, axiom, sorry.
-/
import Derived.Test.YtgbohielfiighaaGreatDoorRows
import GoSem.ClaimSeven
namespace Go.Proofs.YtgbohielfiighaaGreatDoor
namespace Rows

/-- THE TIED CARD OF 'laws.FnExactDataText'. -/
def fnExactDataTextCard : Claim7 := { stood := { row := fnExactDataTextRow, standIns := [], harness := (true, "ba6315c88784de695c488247a82d491fcbefae56300ba837cb3ab1182616193a"), looks := true }, kinds := [], alts := [], laidByText := true, laidKinds := [.data, .data, .data, .data, .sentinel, .sentinel, .pinned], laidTests := true, laidLooks := .later }
def FnExactDataTextCardSaid : Prop := Claim7.holds Tryz.pinned (.plain (OpenSpec.ofChange fnExactDataTextSpec)) fnExactDataTextCard

/-- THE TIED CARD OF 'laws.FnTwice'. -/
def fnTwiceCard : Claim7 := { stood := { row := fnTwiceRow, standIns := [], harness := (true, "ba6315c88784de695c488247a82d491fcbefae56300ba837cb3ab1182616193a"), looks := true }, kinds := [], alts := [], laidByText := true, laidKinds := [.data, .data, .data, .sentinel, .sentinel], laidTests := true, laidLooks := .later }
def FnTwiceCardSaid : Prop := Claim7.holds Tryz.pinned (.plain (OpenSpec.ofChange fnTwiceSpec)) fnTwiceCard

/-- THE TIED CARD OF 'laws.FnMerge'. -/
def fnMergeCard : Claim7 := { stood := { row := fnMergeRow, standIns := [], harness := (true, "ba6315c88784de695c488247a82d491fcbefae56300ba837cb3ab1182616193a"), looks := true }, kinds := [], alts := [], laidByText := true, laidKinds := [.data, .data, .data, .sentinel, .sentinel], laidTests := true, laidLooks := .later }
def FnMergeCardSaid : Prop := Claim7.holds Tryz.pinned (.plain (OpenSpec.ofChange fnMergeSpec)) fnMergeCard

/-- THE TIED CARD OF 'laws.FnExactParseDoc'. -/
def fnExactParseDocCard : Claim7 := { stood := { row := fnExactParseDocRow, standIns := [], harness := (true, "ba6315c88784de695c488247a82d491fcbefae56300ba837cb3ab1182616193a"), looks := true }, kinds := [], alts := [], laidByText := true, laidKinds := [.data, .data, .data, .sentinel, .sentinel], laidTests := true, laidLooks := .later }
def FnExactParseDocCardSaid : Prop := Claim7.holds Tryz.pinned (.plain (OpenSpec.ofChange fnExactParseDocSpec)) fnExactParseDocCard

/-- THE SECOND FORM's CARD OF 'laws.FnExactDataText'. -/
def fnExactDataTextUptoCard : Claim7 := { stood := { row := fnExactDataTextUptoRow, standIns := [], harness := (true, "ba6315c88784de695c488247a82d491fcbefae56300ba837cb3ab1182616193a"), looks := true }, kinds := [], alts := [], laidByText := true, laidKinds := [.data, .data, .data, .data, .sentinel, .sentinel, .pinned], laidTests := true, laidLooks := .later }
def FnExactDataTextUptoCardSaid : Prop := Claim7.holds Tryz.pinned (.plain (OpenSpec.upto fnExactDataTextSpec)) fnExactDataTextUptoCard

/-- THE SECOND FORM's CARD OF 'laws.FnTwice'. -/
def fnTwiceUptoCard : Claim7 := { stood := { row := fnTwiceUptoRow, standIns := [], harness := (true, "ba6315c88784de695c488247a82d491fcbefae56300ba837cb3ab1182616193a"), looks := true }, kinds := [], alts := [], laidByText := true, laidKinds := [.data, .data, .data, .sentinel, .sentinel], laidTests := true, laidLooks := .later }
def FnTwiceUptoCardSaid : Prop := Claim7.holds Tryz.pinned (.plain (OpenSpec.upto fnTwiceSpec)) fnTwiceUptoCard

/-- THE SECOND FORM's CARD OF 'laws.FnMerge'. -/
def fnMergeUptoCard : Claim7 := { stood := { row := fnMergeUptoRow, standIns := [], harness := (true, "ba6315c88784de695c488247a82d491fcbefae56300ba837cb3ab1182616193a"), looks := true }, kinds := [], alts := [], laidByText := true, laidKinds := [.data, .data, .data, .sentinel, .sentinel], laidTests := true, laidLooks := .later }
def FnMergeUptoCardSaid : Prop := Claim7.holds Tryz.pinned (.plain (OpenSpec.upto fnMergeSpec)) fnMergeUptoCard

/-- THE SECOND FORM's CARD OF 'laws.FnExactParseDoc'. -/
def fnExactParseDocUptoCard : Claim7 := { stood := { row := fnExactParseDocUptoRow, standIns := [], harness := (true, "ba6315c88784de695c488247a82d491fcbefae56300ba837cb3ab1182616193a"), looks := true }, kinds := [], alts := [], laidByText := true, laidKinds := [.data, .data, .data, .sentinel, .sentinel], laidTests := true, laidLooks := .later }
def FnExactParseDocUptoCardSaid : Prop := Claim7.holds Tryz.pinned (.plain (OpenSpec.upto fnExactParseDocSpec)) fnExactParseDocUptoCard
end Rows
end Go.Proofs.YtgbohielfiighaaGreatDoor
