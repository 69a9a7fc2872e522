/- The law, evaluated: the other cases. -/
import Derived.Test.YtiphbdhclldllaaGreatDoorW31D
set_option linter.unusedSimpArgs false
set_option linter.unusedVariables false
namespace Go.Proofs.YtiphbdhclldllaaGreatDoor.Ab
open Go Go.Proofs.YtiphbdhclldllaaGreatDoor.Mx Go.Proofs.YtiphbdhclldllaaGreatDoor.M4
set_option maxRecDepth 1000000
theorem evC0 (e0 e1 : TypeId) : run QC (tk 0) (tk 0) false e0 e1 = true := by kernel_rfl
theorem evC1 (e0 e1 : TypeId) : run QC (tk 0) (tk 0) true e0 e1 = true := by kernel_rfl
theorem evD0 (e0 e1 : TypeId) : run QD (tk 0) (tk 1) false e0 e1 = true := by kernel_rfl
theorem evD1 (e0 e1 : TypeId) : run QD (tk 0) (tk 1) true e0 e1 = true := by kernel_rfl
end Go.Proofs.YtiphbdhclldllaaGreatDoor.Ab
