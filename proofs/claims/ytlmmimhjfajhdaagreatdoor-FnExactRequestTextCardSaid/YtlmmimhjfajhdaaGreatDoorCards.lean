/-
  DERIVED. GIVEN WITH THE SEED: THE CARDS: each row of YtlmmimhjfajhdaaGreatDoorRows.lean that lists a variable, with what it lists TIED to the program's text (the seventh form; the later family's looks); each row that meets fmt, with fmt's text TOLD by the authors' own Lean function (tested against real Go, not proved from fmt's source: count such statements apart). THE CARD IS WHAT COUNTS. Prove the row's statement (the work); the ties are given (YtlmmimhjfajhdaaGreatDoorTie.lean); close each card by the builder's one call (the guide's Derived/Test/ToyasCard.lean, 'card_holds'). Laid BY PROGRAM, IN A SANDBOX (cutbox-door.mjs). By AI agents, Wed Nov 11 2026. No macro, syntax, notation, axiom, sorry.
-/
import Derived.Test.YtlmmimhjfajhdaaGreatDoorRows
import GoSem.ClaimSeven
namespace Go.Proofs.YtlmmimhjfajhdaaGreatDoor
namespace Rows

/-- THE TIED CARD OF 'laws.FnExactRequestText'. -/
def fnExactRequestTextCard : Claim7 := { stood := { row := fnExactRequestTextRow, standIns := [], harness := (true, "6aa93361e2ed16e951f0e4f5846bb4ce9b68fa4dfafcf17669449daf247d8c64"), looks := false }, kinds := [], alts := [], laidByText := true, laidKinds := [.data, .data, .data], laidTests := true, laidLooks := .later }
def FnExactRequestTextCardSaid : Prop := Claim7.holds Tryz.pinned (.plain (OpenSpec.ofChange fnExactRequestTextSpec)) fnExactRequestTextCard

/-- THE SECOND FORM's CARD OF 'laws.FnExactRequestText'. -/
def fnExactRequestTextUptoCard : Claim7 := { stood := { row := fnExactRequestTextUptoRow, standIns := [], harness := (true, "6aa93361e2ed16e951f0e4f5846bb4ce9b68fa4dfafcf17669449daf247d8c64"), looks := false }, kinds := [], alts := [], laidByText := true, laidKinds := [.data, .data, .data], laidTests := true, laidLooks := .later }
def FnExactRequestTextUptoCardSaid : Prop := Claim7.holds Tryz.pinned (.plain (OpenSpec.upto fnExactRequestTextSpec)) fnExactRequestTextUptoCard
end Rows
end Go.Proofs.YtlmmimhjfajhdaaGreatDoor
