/- A part of the proof that the law answers true at every input: the texts W30K; no conditions. -/
import Derived.Test.YtapkmhneneffdaaGreatDoorWkB
set_option linter.unusedSimpArgs false
set_option linter.unusedVariables false
set_option linter.constructorNameAsVariable false

/-! The text W30K. -/
namespace Go.Proofs.YtapkmhneneffdaaGreatDoor.Ab.Wk
open Go Go.Proofs.YtapkmhneneffdaaGreatDoor.Mx
set_option maxRecDepth 1000000

def isTrue : Option (Value × Heap) → Bool
  | some (.bool b, _) => b
  | _ => false
theorem half2 (e0 e1 : TypeId) : isTrue (fnEnd i5.res (evC (evF Γ (fun _ _ _ => none) 499) 499 (cutR 13 i5.body) T1 (H1 e0 e1))) = true := by kernel_rfl
theorem i5_plain : i5.recv = none ∧ i5.dfr = none := ⟨by kernel_rfl, by kernel_rfl⟩
theorem works_true (e0 e1 : TypeId) : isTrue (evF Γ (fun _ _ _ => none) 500 5 [] (Hg e0 e1)) = true := by
  rw [evF_cut (f := 5) (n := 13) (fn := i5) rfl i5_plain.1 i5_plain.2 rfl (half1 e0 e1)]
  exact half2 e0 e1
end Go.Proofs.YtapkmhneneffdaaGreatDoor.Ab.Wk
