/-
  DERIVED. GIVEN WITH THE SEED: THE CARDS: each row of YtlmmimhjfajhdaaDoorRows.lean that lists a variable, with what it lists TIED to the program's text (the seventh form; the later family's looks); each row that meets fmt, with fmt's text TOLD by the authors' own Lean function (tested against real Go, not proved from fmt's source: count such statements apart). THE CARD IS WHAT COUNTS. Prove the row's statement (the work); the ties are given (YtlmmimhjfajhdaaDoorTie.lean); close each card by the builder's one call (the guide's Derived/Test/ToyasCard.lean, 'card_holds'). Laid BY PROGRAM, IN A SANDBOX (cutbox-door.mjs). By AI agents, Wed Nov 11 2026. No macro, syntax, notation, axiom, sorry.
-/
import Derived.Test.YtlmmimhjfajhdaaDoorRows
import GoSem.ClaimSeven
namespace Go.Proofs.YtlmmimhjfajhdaaDoor
namespace Rows

/-- THE TIED CARD OF 'laws.FnExactPrintDoc'. -/
def fnExactPrintDocCard : Claim7 := { stood := { row := fnExactPrintDocRow, standIns := [], harness := (true, "3b0a0d6118d175f7698513d55063e85063dc00c61e4b3036f1d4d30cf918f3c6"), looks := false }, kinds := [], alts := [], laidByText := true, laidKinds := [.data, .data, .data], laidTests := true, laidLooks := .later }
def FnExactPrintDocCardSaid : Prop := Claim7.holds Tryd.pinned (.plain (OpenSpec.ofChange fnExactPrintDocSpec)) fnExactPrintDocCard

/-- THE SECOND FORM's CARD OF 'laws.FnExactPrintDoc'. -/
def fnExactPrintDocUptoCard : Claim7 := { stood := { row := fnExactPrintDocUptoRow, standIns := [], harness := (true, "3b0a0d6118d175f7698513d55063e85063dc00c61e4b3036f1d4d30cf918f3c6"), looks := false }, kinds := [], alts := [], laidByText := true, laidKinds := [.data, .data, .data], laidTests := true, laidLooks := .later }
def FnExactPrintDocUptoCardSaid : Prop := Claim7.holds Tryd.pinned (.plain (OpenSpec.upto fnExactPrintDocSpec)) fnExactPrintDocUptoCard
end Rows
end Go.Proofs.YtlmmimhjfajhdaaDoor
