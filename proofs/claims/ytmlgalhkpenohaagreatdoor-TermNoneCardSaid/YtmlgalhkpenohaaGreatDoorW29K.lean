/- The chapter's examples, evaluated. -/
import Derived.Test.YtmlgalhkpenohaaGreatDoorW29P
set_option linter.unusedSimpArgs false
set_option linter.unusedVariables false
namespace Go.Proofs.YtmlgalhkpenohaaGreatDoor.Ab
open Go Go.Proofs.YtmlgalhkpenohaaGreatDoor.Mac
set_option maxRecDepth 1000000

def tab0 : List Value := [.int .i64 0, .int .i64 1, .int .i64 8, .int .i64 32, .int .i64 64]
def tab1 : List Value := [.int .u64 1, .int .u64 10, .int .u64 100, .int .u64 1000, .int .u64 10000, .int .u64 100000, .int .u64 1000000, .int .u64 10000000, .int .u64 100000000, .int .u64 1000000000, .int .u64 10000000000, .int .u64 100000000000, .int .u64 1000000000000, .int .u64 10000000000000, .int .u64 100000000000000, .int .u64 1000000000000000, .int .u64 10000000000000000, .int .u64 100000000000000000, .int .u64 1000000000000000000, .int .u64 10000000000000000000]
def Hg (e0 e1 : TypeId) : Heap := ⟨4, .node (some (.cells e0 true tab0)) (.node (some (.cells e1 true tab1)) .nil .nil) .nil⟩
def isTrue : Option (Value × Heap) → Bool
  | some (.bool b, _) => b
  | _ => false

theorem awake_true (e0 e1 : TypeId) : isTrue (evF Γ (fun _ _ _ => none) 500 9 [] (Hg e0 e1)) = true := by kernel_rfl

end Go.Proofs.YtmlgalhkpenohaaGreatDoor.Ab
