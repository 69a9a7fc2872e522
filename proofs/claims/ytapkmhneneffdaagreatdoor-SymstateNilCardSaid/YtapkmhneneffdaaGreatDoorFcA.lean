/- A part of the proof that the law answers true at every input: the texts W30U; no conditions. -/
import Derived.Test.YtapkmhneneffdaaGreatDoorCards
import Derived.Test.YtapkmhneneffdaaGreatDoorTie
import Derived.JoinedOf
import Derived.KernelRfl
set_option linter.unusedSimpArgs false
set_option linter.unusedVariables false
set_option linter.constructorNameAsVariable false

/-! The text W30U. -/
namespace Go.Proofs.YtapkmhneneffdaaGreatDoor.Ab
open Go
set_option maxRecDepth 1000000
noncomputable abbrev cP : Program := Tryz.prog
noncomputable abbrev cR := Rows.symstateNilRow
noncomputable abbrev cS := Rows.symstateNilSpec
theorem cf1 : cR.wf (OpenSpec.ofChange cS) = true := by kernel_rfl
theorem cf2 : laidOutB cP = true := by kernel_rfl
theorem cf3 : mapsRowed cP = true := by kernel_rfl
theorem cf4 : Tryz.f3.params.all (cP.readableRec ·) = true := by kernel_rfl
theorem cf5 : namedTie cP cR.named cS.vars = true := by kernel_rfl
theorem cf6 : (cR.stops == []) = true := by kernel_rfl
theorem cf7 : (cP.stops == []) = true := by kernel_rfl
theorem cf8 : (cR.knobs == []) = true := by kernel_rfl
theorem cf9 : (cP.stopKnobs == []) = true := by kernel_rfl
theorem cf10 : (cR.inPlace == cP.inPlace 3) = true := by kernel_rfl
theorem cf11 : (cR.unfollowed == cP.unfollowed 3) = true := by kernel_rfl
theorem cf12 : (cR.recurses == cP.recurses 3) = true := by kernel_rfl
theorem cf13 : (cR.named == cP.varsNamed 3) = true := by kernel_rfl
end Go.Proofs.YtapkmhneneffdaaGreatDoor.Ab
