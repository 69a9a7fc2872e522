/-
  DERIVED. GIVEN WITH THE SEED: THE CARDS: each row of YtijifdedkolfkaaGreatDoorRows.lean that lists a variable, with what it lists TIED to the program's text (the seventh form; the later family's looks); each row that meets fmt, with fmt's text TOLD by the authors' own Lean function (tested against real Go, not proved from fmt's source: count such statements apart). THE CARD IS WHAT COUNTS. Prove the row's statement (the work); the ties are given (YtijifdedkolfkaaGreatDoorTie.lean); close each card by the builder's one call (the guide's Derived/Test/ToyasCard.lean, 'card_holds'). Laid BY PROGRAM, IN A SANDBOX (cutbox-door.mjs). By AI agents, Wed Nov 11 2026. No macro, syntax, notation, axiom, sorry.
-/
import Derived.Test.YtijifdedkolfkaaGreatDoorRows
import GoSem.ClaimSeven
namespace Go.Proofs.YtijifdedkolfkaaGreatDoor
namespace Rows

/-- THE TIED CARD OF 'burnishlaw57.BisectSearch'. -/
def bisectSearchCard : Claim7 := { stood := { row := bisectSearchRow, standIns := [], harness := (true, "2cdad635fec2a6a3bc9160ce85f778c829d1821d0d2834185c56504da4fbeff1"), looks := true }, kinds := [], alts := [], laidByText := true, laidKinds := [.data, .data, .data, .data, .data], laidTests := true, laidLooks := .later }
def BisectSearchCardSaid : Prop := Claim7.holds Tryz.pinned (.plain (OpenSpec.ofChange bisectSearchSpec)) bisectSearchCard

/-- THE SECOND FORM's CARD OF 'burnishlaw57.BisectSearch'. -/
def bisectSearchUptoCard : Claim7 := { stood := { row := bisectSearchUptoRow, standIns := [], harness := (true, "2cdad635fec2a6a3bc9160ce85f778c829d1821d0d2834185c56504da4fbeff1"), looks := true }, kinds := [], alts := [], laidByText := true, laidKinds := [.data, .data, .data, .data, .data], laidTests := true, laidLooks := .later }
def BisectSearchUptoCardSaid : Prop := Claim7.holds Tryz.pinned (.plain (OpenSpec.upto bisectSearchSpec)) bisectSearchUptoCard
end Rows
end Go.Proofs.YtijifdedkolfkaaGreatDoor
