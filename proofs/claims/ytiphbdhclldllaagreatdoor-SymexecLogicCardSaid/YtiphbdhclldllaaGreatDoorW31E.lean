/- The law, evaluated. -/
import Derived.Test.YtiphbdhclldllaaGreatDoorW31D
set_option linter.unusedSimpArgs false
set_option linter.unusedVariables false
namespace Go.Proofs.YtiphbdhclldllaaGreatDoor.Ab
open Go Go.Proofs.YtiphbdhclldllaaGreatDoor.Mx Go.Proofs.YtiphbdhclldllaaGreatDoor.M4
set_option maxRecDepth 1000000
theorem evA0 (e0 e1 : TypeId) : run QA (.p 0 0) (.p 0 0) false e0 e1 = true := by kernel_rfl
theorem evA1 (e0 e1 : TypeId) : run QA (.p 0 0) (.p 0 0) true e0 e1 = true := by kernel_rfl
theorem evB0 (e0 e1 : TypeId) : run QB (.p 0 0) (tk 1) false e0 e1 = true := by kernel_rfl
theorem evB1 (e0 e1 : TypeId) : run QB (.p 0 0) (tk 1) true e0 e1 = true := by kernel_rfl
end Go.Proofs.YtiphbdhclldllaaGreatDoor.Ab
