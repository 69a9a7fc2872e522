/- A part of the proof that the law answers true at every input: the texts W30V; no conditions. -/
import Derived.Test.YtapkmhneneffdaaGreatDoorCards
import Derived.Test.YtapkmhneneffdaaGreatDoorTie
import Derived.JoinedOf
import Derived.KernelRfl
set_option linter.unusedSimpArgs false
set_option linter.unusedVariables false
set_option linter.constructorNameAsVariable false

/-! The text W30V. -/
namespace Go.Proofs.YtapkmhneneffdaaGreatDoor.Ab
open Go
set_option maxRecDepth 1000000
noncomputable abbrev dP : Program := Tryz.prog
noncomputable abbrev dR := Rows.symstateNilRow
noncomputable abbrev dS := Rows.symstateNilSpec
noncomputable abbrev dF := Tryz.f3
theorem cf14 : (dR.maps == (dF.params.toList ++ dS.plain.varTypes dP).any (dP.mapsRec ·)) = true := by kernel_rfl
theorem cf15 : (dR.ifaces == (dF.params.toList ++ dS.plain.varTypes dP).any (dP.ifacesRec ·)) = true := by kernel_rfl
theorem cf16 : (dR.mapsOut == dP.mapsAmong dF.resultTypes.toList) = true := by kernel_rfl
theorem cf17 : (dR.loops == (dF.params.toList ++ dS.plain.varTypes dP).any (dP.loopsFrom ·)) = true := by kernel_rfl
theorem cf18 : (dR.wideKeys == (dF.params.toList ++ dS.plain.varTypes dP ++ dF.resultTypes.toList).any (dP.wideKeysFrom ·)) = true := by kernel_rfl
theorem cf19 : dS.vars.all (dP.varReadable ·) = true := by kernel_rfl
theorem cf20 : dF.resultTypes.all (fun t => dP.readableRec t && decide (t < dP.types.size)) = true := by kernel_rfl
theorem cf21 : (dR.ifacesOut == dF.resultTypes.toList.any (dP.ifacesRec ·)) = true := by kernel_rfl
theorem cf22 : (dR.loopsOut == dF.resultTypes.toList.any (dP.loopsFrom ·)) = true := by kernel_rfl
theorem cf23 : (dR.plainKeys == dP.plainKeys) = true := by kernel_rfl
theorem cf24 : dR.shortTexts.isNone = true := by kernel_rfl
theorem cf25 : dP.stopsHeard = true := by kernel_rfl
theorem cf26 : dP.mayEnter = true := by kernel_rfl
theorem cf27 : (dR.lifted == dP.liftsFinal) = true := by kernel_rfl
theorem cf28 : (dP.make == some dR.make) = true := by kernel_rfl
theorem cf29 : (dR.kinds == (if dR.domain.isEmpty then [] else dF.params.toList.map fun t => match dP.underlying t with | some (.int k) => some k | _ => none)) = true := by kernel_rfl
theorem cf30 : (dR.pinned == dR.pinnedBy) = true := by kernel_rfl
theorem cf31 : (dR.veiled == (dF.params.toList ++ dS.plain.varTypes dP ++ dF.resultTypes.toList).any (dP.veiledRec ·)) = true := by kernel_rfl
theorem cf32 : dR.veiledFits dP dF.params.toList (dF.params.toList ++ dS.plain.varTypes dP ++ dF.resultTypes.toList) = true := by kernel_rfl
end Go.Proofs.YtapkmhneneffdaaGreatDoor.Ab
