/-
  DERIVED. GIVEN WITH THE SEED: THE CARDS: each row of YtiphbdhclldllaaGreatDoorRows.lean that lists a variable, with what it lists TIED to the program's text (the seventh form; the later family's looks); each row that meets fmt, with fmt's text TOLD by the authors' own Lean function (tested against real Go, not proved from fmt's source: count such statements apart). THE CARD IS WHAT COUNTS. Prove the row's statement (the work); the ties are given (YtiphbdhclldllaaGreatDoorTie.lean); close each card by the builder's one call (the guide's Derived/Test/ToyasCard.lean, 'card_holds'). Laid BY PROGRAM, IN A SANDBOX (cutbox-door.mjs). By AI agents, Wed Nov 11 2026. No macro, syntax, notation, axiom, sorry.
-/
import Derived.Test.YtiphbdhclldllaaGreatDoorRows
import GoSem.ClaimSeven
namespace Go.Proofs.YtiphbdhclldllaaGreatDoor
namespace Rows

/-- THE TIED CARD OF 'burnishlaw31.SymexecLogic'. -/
def symexecLogicCard : Claim7 := { stood := { row := symexecLogicRow, standIns := [], harness := (true, "171a9f3af20ef6bdb77530c9327a4a49872222bc83fdff7fce03ccb8a9ee051e"), looks := true }, kinds := [], alts := [], laidByText := true, laidKinds := [.data, .data, .data, .data], laidTests := true, laidLooks := .later }
def SymexecLogicCardSaid : Prop := Claim7.holds Tryz.pinned (.plain (OpenSpec.ofChange symexecLogicSpec)) symexecLogicCard

/-- THE SECOND FORM's CARD OF 'burnishlaw31.SymexecLogic'. -/
def symexecLogicUptoCard : Claim7 := { stood := { row := symexecLogicUptoRow, standIns := [], harness := (true, "171a9f3af20ef6bdb77530c9327a4a49872222bc83fdff7fce03ccb8a9ee051e"), looks := true }, kinds := [], alts := [], laidByText := true, laidKinds := [.data, .data, .data, .data], laidTests := true, laidLooks := .later }
def SymexecLogicUptoCardSaid : Prop := Claim7.holds Tryz.pinned (.plain (OpenSpec.upto symexecLogicSpec)) symexecLogicUptoCard
end Rows
end Go.Proofs.YtiphbdhclldllaaGreatDoor
