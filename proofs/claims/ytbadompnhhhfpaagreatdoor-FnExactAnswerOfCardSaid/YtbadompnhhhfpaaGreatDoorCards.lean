/-
  DERIVED. GIVEN WITH THE SEED: THE CARDS: each row of YtbadompnhhhfpaaGreatDoorRows.lean that lists a variable, with what it lists TIED to the program's text (the seventh form; the later family's looks); each row that meets fmt, with fmt's text TOLD by the authors' own Lean function (tested against real Go, not proved from fmt's source: count such statements apart). THE CARD IS WHAT COUNTS. Prove the row's statement (the work); the ties are given (YtbadompnhhhfpaaGreatDoorTie.lean); close each card by the builder's one call (the guide's Derived/Test/ToyasCard.lean, 'card_holds'). Laid BY PROGRAM, IN A SANDBOX (cutbox-door.mjs). By AI agents, Wed Nov 11 2026. No macro, syntax, notation, axiom, sorry.
-/
import Derived.Test.YtbadompnhhhfpaaGreatDoorRows
import GoSem.ClaimSeven
namespace Go.Proofs.YtbadompnhhhfpaaGreatDoor
namespace Rows

/-- THE TIED CARD OF 'laws.FnExactWritesOf'. -/
def fnExactWritesOfCard : Claim7 := { stood := { row := fnExactWritesOfRow, standIns := [], harness := (true, "6533084e49bd028e4ddb8465ead884d1b62afa6dba8176006c17a55f15ecb9b6"), looks := true }, kinds := [], alts := [], laidByText := true, laidKinds := [.data, .data, .data, .data, .sentinel, .sentinel, .pinned], laidTests := true, laidLooks := .later }
def FnExactWritesOfCardSaid : Prop := Claim7.holds Tryz.pinned (.plain (OpenSpec.ofChange fnExactWritesOfSpec)) fnExactWritesOfCard

/-- THE TIED CARD OF 'laws.FnExactAnswerOf'. -/
def fnExactAnswerOfCard : Claim7 := { stood := { row := fnExactAnswerOfRow, standIns := [], harness := (true, "6533084e49bd028e4ddb8465ead884d1b62afa6dba8176006c17a55f15ecb9b6"), looks := true }, kinds := [], alts := [], laidByText := true, laidKinds := [.data, .data, .data, .data, .sentinel, .sentinel, .pinned], laidTests := true, laidLooks := .later }
def FnExactAnswerOfCardSaid : Prop := Claim7.holds Tryz.pinned (.plain (OpenSpec.ofChange fnExactAnswerOfSpec)) fnExactAnswerOfCard

/-- THE TIED CARD OF 'laws.FnOut'. -/
def fnOutCard : Claim7 := { stood := { row := fnOutRow, standIns := [], harness := (true, "6533084e49bd028e4ddb8465ead884d1b62afa6dba8176006c17a55f15ecb9b6"), looks := true }, kinds := [], alts := [], laidByText := true, laidKinds := [.data, .data, .data, .data, .sentinel, .sentinel, .pinned], laidTests := true, laidLooks := .later }
def FnOutCardSaid : Prop := Claim7.holds Tryz.pinned (.plain (OpenSpec.ofChange fnOutSpec)) fnOutCard

/-- THE SECOND FORM's CARD OF 'laws.FnExactWritesOf'. -/
def fnExactWritesOfUptoCard : Claim7 := { stood := { row := fnExactWritesOfUptoRow, standIns := [], harness := (true, "6533084e49bd028e4ddb8465ead884d1b62afa6dba8176006c17a55f15ecb9b6"), looks := true }, kinds := [], alts := [], laidByText := true, laidKinds := [.data, .data, .data, .data, .sentinel, .sentinel, .pinned], laidTests := true, laidLooks := .later }
def FnExactWritesOfUptoCardSaid : Prop := Claim7.holds Tryz.pinned (.plain (OpenSpec.upto fnExactWritesOfSpec)) fnExactWritesOfUptoCard

/-- THE SECOND FORM's CARD OF 'laws.FnExactAnswerOf'. -/
def fnExactAnswerOfUptoCard : Claim7 := { stood := { row := fnExactAnswerOfUptoRow, standIns := [], harness := (true, "6533084e49bd028e4ddb8465ead884d1b62afa6dba8176006c17a55f15ecb9b6"), looks := true }, kinds := [], alts := [], laidByText := true, laidKinds := [.data, .data, .data, .data, .sentinel, .sentinel, .pinned], laidTests := true, laidLooks := .later }
def FnExactAnswerOfUptoCardSaid : Prop := Claim7.holds Tryz.pinned (.plain (OpenSpec.upto fnExactAnswerOfSpec)) fnExactAnswerOfUptoCard

/-- THE SECOND FORM's CARD OF 'laws.FnOut'. -/
def fnOutUptoCard : Claim7 := { stood := { row := fnOutUptoRow, standIns := [], harness := (true, "6533084e49bd028e4ddb8465ead884d1b62afa6dba8176006c17a55f15ecb9b6"), looks := true }, kinds := [], alts := [], laidByText := true, laidKinds := [.data, .data, .data, .data, .sentinel, .sentinel, .pinned], laidTests := true, laidLooks := .later }
def FnOutUptoCardSaid : Prop := Claim7.holds Tryz.pinned (.plain (OpenSpec.upto fnOutSpec)) fnOutUptoCard
end Rows
end Go.Proofs.YtbadompnhhhfpaaGreatDoor
