/-
  DERIVED. GIVEN WITH THE SEED: THE CARDS: each row of YtapkmhneneffdaaGreatDoorRows.lean that lists a variable, with what it lists TIED to the program's text (the seventh form; the later family's looks); each row that meets fmt, with fmt's text TOLD by the authors' own Lean function (tested against real Go, not proved from fmt's source: count such statements apart). THE CARD IS WHAT COUNTS. Prove the row's statement (the work); the ties are given (YtapkmhneneffdaaGreatDoorTie.lean); close each card by the builder's one call (the guide's Derived/Test/ToyasCard.lean, 'card_holds'). Laid BY PROGRAM, IN A SANDBOX (cutbox-door.mjs). By AI agents, Wed Nov 11 2026. No macro, syntax, notation, axiom, sorry.
-/
import Derived.Test.YtapkmhneneffdaaGreatDoorRows
import GoSem.ClaimSeven
namespace Go.Proofs.YtapkmhneneffdaaGreatDoor
namespace Rows

/-- THE TIED CARD OF 'burnishlaw30.SymstateNil'. -/
def symstateNilCard : Claim7 := { stood := { row := symstateNilRow, standIns := [], harness := (true, "5e3033c6071f632e5fa872b266b3aedfb476e59048b510c790311c4d80b2810a"), looks := true }, kinds := [], alts := [], laidByText := true, laidKinds := [.data, .data, .data, .data], laidTests := true, laidLooks := .later }
def SymstateNilCardSaid : Prop := Claim7.holds Tryz.pinned (.plain (OpenSpec.ofChange symstateNilSpec)) symstateNilCard

/-- THE SECOND FORM's CARD OF 'burnishlaw30.SymstateNil'. -/
def symstateNilUptoCard : Claim7 := { stood := { row := symstateNilUptoRow, standIns := [], harness := (true, "5e3033c6071f632e5fa872b266b3aedfb476e59048b510c790311c4d80b2810a"), looks := true }, kinds := [], alts := [], laidByText := true, laidKinds := [.data, .data, .data, .data], laidTests := true, laidLooks := .later }
def SymstateNilUptoCardSaid : Prop := Claim7.holds Tryz.pinned (.plain (OpenSpec.upto symstateNilSpec)) symstateNilUptoCard
end Rows
end Go.Proofs.YtapkmhneneffdaaGreatDoor
