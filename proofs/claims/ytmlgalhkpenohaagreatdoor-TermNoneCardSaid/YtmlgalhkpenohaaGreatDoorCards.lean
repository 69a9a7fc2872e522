/-
  DERIVED. GIVEN WITH THE SEED: THE CARDS: each row of YtmlgalhkpenohaaGreatDoorRows.lean that lists a variable, with what it lists TIED to the program's text (the seventh form; the later family's looks); each row that meets fmt, with fmt's text TOLD by the authors' own Lean function (tested against real Go, not proved from fmt's source: count such statements apart). THE CARD IS WHAT COUNTS. Prove the row's statement (the work); the ties are given (YtmlgalhkpenohaaGreatDoorTie.lean); close each card by the builder's one call (the guide's Derived/Test/ToyasCard.lean, 'card_holds'). Laid BY PROGRAM, IN A SANDBOX (cutbox-door.mjs). By AI agents, Wed Nov 11 2026. No macro, syntax, notation, axiom, sorry.
-/
import Derived.Test.YtmlgalhkpenohaaGreatDoorRows
import GoSem.ClaimSeven
namespace Go.Proofs.YtmlgalhkpenohaaGreatDoor
namespace Rows

/-- THE TIED CARD OF 'burnishlaw29.TermCommutes'. -/
def termCommutesCard : Claim7 := { stood := { row := termCommutesRow, standIns := [], harness := (true, "b9ed65448969e4ef1c4e0adc6f982763af7dee8cd2914906f7ca30fb41e17f2c"), looks := false }, kinds := [], alts := [], laidByText := true, laidKinds := [.data, .data, .data, .data], laidTests := true, laidLooks := .later }
def TermCommutesCardSaid : Prop := Claim7.holds Tryz.pinned (.plain (OpenSpec.ofChange termCommutesSpec)) termCommutesCard

/-- THE TIED CARD OF 'burnishlaw29.TermSound'. -/
def termSoundCard : Claim7 := { stood := { row := termSoundRow, standIns := [], harness := (true, "b9ed65448969e4ef1c4e0adc6f982763af7dee8cd2914906f7ca30fb41e17f2c"), looks := false }, kinds := [], alts := [], laidByText := true, laidKinds := [.data, .data, .data, .data], laidTests := true, laidLooks := .later }
def TermSoundCardSaid : Prop := Claim7.holds Tryz.pinned (.plain (OpenSpec.ofChange termSoundSpec)) termSoundCard

/-- THE TIED CARD OF 'burnishlaw29.TermNone'. -/
def termNoneCard : Claim7 := { stood := { row := termNoneRow, standIns := [], harness := (true, "b9ed65448969e4ef1c4e0adc6f982763af7dee8cd2914906f7ca30fb41e17f2c"), looks := false }, kinds := [], alts := [], laidByText := true, laidKinds := [.data, .data, .data, .data], laidTests := true, laidLooks := .later }
def TermNoneCardSaid : Prop := Claim7.holds Tryz.pinned (.plain (OpenSpec.ofChange termNoneSpec)) termNoneCard

/-- THE TIED CARD OF 'burnishlaw29.TermMakes'. -/
def termMakesCard : Claim7 := { stood := { row := termMakesRow, standIns := [], harness := (true, "b9ed65448969e4ef1c4e0adc6f982763af7dee8cd2914906f7ca30fb41e17f2c"), looks := false }, kinds := [], alts := [], laidByText := true, laidKinds := [.data, .data, .data, .data], laidTests := true, laidLooks := .later }
def TermMakesCardSaid : Prop := Claim7.holds Tryz.pinned (.plain (OpenSpec.ofChange termMakesSpec)) termMakesCard

/-- THE TIED CARD OF 'burnishlaw29.TermCompares'. -/
def termComparesCard : Claim7 := { stood := { row := termComparesRow, standIns := [], harness := (true, "b9ed65448969e4ef1c4e0adc6f982763af7dee8cd2914906f7ca30fb41e17f2c"), looks := false }, kinds := [], alts := [], laidByText := true, laidKinds := [.data, .data, .data, .data], laidTests := true, laidLooks := .later }
def TermComparesCardSaid : Prop := Claim7.holds Tryz.pinned (.plain (OpenSpec.ofChange termComparesSpec)) termComparesCard

/-- THE SECOND FORM's CARD OF 'burnishlaw29.TermCommutes'. -/
def termCommutesUptoCard : Claim7 := { stood := { row := termCommutesUptoRow, standIns := [], harness := (true, "b9ed65448969e4ef1c4e0adc6f982763af7dee8cd2914906f7ca30fb41e17f2c"), looks := false }, kinds := [], alts := [], laidByText := true, laidKinds := [.data, .data, .data, .data], laidTests := true, laidLooks := .later }
def TermCommutesUptoCardSaid : Prop := Claim7.holds Tryz.pinned (.plain (OpenSpec.upto termCommutesSpec)) termCommutesUptoCard

/-- THE SECOND FORM's CARD OF 'burnishlaw29.TermSound'. -/
def termSoundUptoCard : Claim7 := { stood := { row := termSoundUptoRow, standIns := [], harness := (true, "b9ed65448969e4ef1c4e0adc6f982763af7dee8cd2914906f7ca30fb41e17f2c"), looks := false }, kinds := [], alts := [], laidByText := true, laidKinds := [.data, .data, .data, .data], laidTests := true, laidLooks := .later }
def TermSoundUptoCardSaid : Prop := Claim7.holds Tryz.pinned (.plain (OpenSpec.upto termSoundSpec)) termSoundUptoCard

/-- THE SECOND FORM's CARD OF 'burnishlaw29.TermNone'. -/
def termNoneUptoCard : Claim7 := { stood := { row := termNoneUptoRow, standIns := [], harness := (true, "b9ed65448969e4ef1c4e0adc6f982763af7dee8cd2914906f7ca30fb41e17f2c"), looks := false }, kinds := [], alts := [], laidByText := true, laidKinds := [.data, .data, .data, .data], laidTests := true, laidLooks := .later }
def TermNoneUptoCardSaid : Prop := Claim7.holds Tryz.pinned (.plain (OpenSpec.upto termNoneSpec)) termNoneUptoCard

/-- THE SECOND FORM's CARD OF 'burnishlaw29.TermMakes'. -/
def termMakesUptoCard : Claim7 := { stood := { row := termMakesUptoRow, standIns := [], harness := (true, "b9ed65448969e4ef1c4e0adc6f982763af7dee8cd2914906f7ca30fb41e17f2c"), looks := false }, kinds := [], alts := [], laidByText := true, laidKinds := [.data, .data, .data, .data], laidTests := true, laidLooks := .later }
def TermMakesUptoCardSaid : Prop := Claim7.holds Tryz.pinned (.plain (OpenSpec.upto termMakesSpec)) termMakesUptoCard

/-- THE SECOND FORM's CARD OF 'burnishlaw29.TermCompares'. -/
def termComparesUptoCard : Claim7 := { stood := { row := termComparesUptoRow, standIns := [], harness := (true, "b9ed65448969e4ef1c4e0adc6f982763af7dee8cd2914906f7ca30fb41e17f2c"), looks := false }, kinds := [], alts := [], laidByText := true, laidKinds := [.data, .data, .data, .data], laidTests := true, laidLooks := .later }
def TermComparesUptoCardSaid : Prop := Claim7.holds Tryz.pinned (.plain (OpenSpec.upto termComparesSpec)) termComparesUptoCard
end Rows
end Go.Proofs.YtmlgalhkpenohaaGreatDoor
