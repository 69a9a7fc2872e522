/- TermNone, evaluated. -/
import Derived.Test.YtmlgalhkpenohaaGreatDoorW29K
set_option linter.unusedSimpArgs false
set_option linter.unusedVariables false
namespace Go.Proofs.YtmlgalhkpenohaaGreatDoor.Ab
open Go Go.Proofs.YtmlgalhkpenohaaGreatDoor.Mac
set_option maxRecDepth 1000000

def iOpq : Value := .agg #[opq, opq, opq, opq, opq, opq, opq, opq]

theorem none_neg (e0 e1 : TypeId) (m : Nat) : isTrue (evF Γ (fun _ _ _ => none) 500 5 [iOpq, .int .i64 (.negSucc m)] (Hg e0 e1)) = true := by kernel_rfl
theorem none_big (e0 e1 : TypeId) (m : Nat) : isTrue (evF Γ (fun _ _ _ => none) 500 5 [iOpq, .int .i64 (.ofNat (m + 4))] (Hg e0 e1)) = true := by kernel_rfl
theorem none_0 (e0 e1 : TypeId) : isTrue (evF Γ (fun _ _ _ => none) 500 5 [iOpq, .int .i64 (.ofNat 0)] (Hg e0 e1)) = true := by kernel_rfl
theorem none_1 (e0 e1 : TypeId) : isTrue (evF Γ (fun _ _ _ => none) 500 5 [iOpq, .int .i64 (.ofNat 1)] (Hg e0 e1)) = true := by kernel_rfl
theorem none_2 (e0 e1 : TypeId) : isTrue (evF Γ (fun _ _ _ => none) 500 5 [iOpq, .int .i64 (.ofNat 2)] (Hg e0 e1)) = true := by kernel_rfl
theorem none_3 (e0 e1 : TypeId) : isTrue (evF Γ (fun _ _ _ => none) 500 5 [iOpq, .int .i64 (.ofNat 3)] (Hg e0 e1)) = true := by kernel_rfl

theorem none_all (e0 e1 : TypeId) (n : Int) : ∃ H', evF Γ (fun _ _ _ => none) 500 5 [iOpq, .int .i64 n] (Hg e0 e1) = some (.bool true, H') := by
  have key : ∀ r : Option (Value × Heap), isTrue r = true → ∃ H', r = some (.bool true, H') := by
    intro r h
    unfold isTrue at h
    split at h
    · exact ⟨_, by rw [h]⟩
    · cases h
  refine key _ ?_
  rcases n with (_ | _ | _ | _ | m) | m
  · exact none_0 e0 e1
  · exact none_1 e0 e1
  · exact none_2 e0 e1
  · exact none_3 e0 e1
  · exact none_big e0 e1 m
  · exact none_neg e0 e1 m

end Go.Proofs.YtmlgalhkpenohaaGreatDoor.Ab
