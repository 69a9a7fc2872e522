/- The law, evaluated: numbers that are tokens. -/
import Derived.Test.YtiphbdhclldllaaGreatDoorW31P
import Derived.Test.YtiphbdhclldllaaGreatDoorZagJ
set_option linter.unusedSimpArgs false
set_option linter.unusedVariables false
namespace Go.Proofs.YtiphbdhclldllaaGreatDoor.Ab
open Go Go.Proofs.YtiphbdhclldllaaGreatDoor.Mx Go.Proofs.YtiphbdhclldllaaGreatDoor.M4
set_option maxRecDepth 1000000

def wid : X := .c (.p 0 0) (.c (.p 0 1) (.c (.p 0 8) (.c (.p 0 32) (.c (.p 0 64) .e))))
def p10 : List Nat := [1, 10, 100, 1000, 10000, 100000, 1000000, 10000000, 100000000, 1000000000, 10000000000, 100000000000, 1000000000000, 10000000000000, 100000000000000, 1000000000000000, 10000000000000000, 100000000000000000, 1000000000000000000, 10000000000000000000]
def pwX : X := p10.foldr (fun n x => .c (.p 7 n) x) .e
def h0 (e0 e1 : TypeId) : H := .mk 4 (.nd (.cells e0 true wid) (.nd (.cells e1 true pwX) .nil .nil .nil .nil) (.nd .nope .nil .nil .nil .nil) (.nd .nope .nil .nil .nil .nil) .nil)
def tk (i : Nat) : X := .r 12 (.p 0 i)
/-- Tokens 0 and 1 are told apart, token 0 is not 0. -/
def QD : Tk := ⟨fun i j => match i, j with | 0, 0 => some true | 1, 1 => some true | 2, 2 => some true | 0, 1 => some false | 1, 0 => some false | _, _ => none, fun i m => match i, m with | 0, .ofNat 0 => some false | _, _ => none⟩
/-- Nothing is told. -/
def QA : Tk := ⟨fun i j => match i, j with | 0, 0 => some true | 1, 1 => some true | 2, 2 => some true | _, _ => none, fun _ _ => none⟩
/-- Token 1 is not 0. -/
def QB : Tk := ⟨fun i j => match i, j with | 0, 0 => some true | 1, 1 => some true | 2, 2 => some true | _, _ => none, fun i m => match i, m with | 1, .ofNat 0 => some false | _, _ => none⟩
/-- Token 0 is not 0. -/
def QC : Tk := ⟨fun i j => match i, j with | 0, 0 => some true | 1, 1 => some true | 2, 2 => some true | _, _ => none, fun i m => match i, m with | 0, .ofNat 0 => some false | _, _ => none⟩
noncomputable def run (Q : Tk) (n k : X) (e : Bool) (e0 e1 : TypeId) : Bool := callF Q Γ (ov4 92 178) 10000 3 (.c n (.c k (.c (.b e) (.c (tk 2) .e)))) (h0 e0 e1) fun x _ => M4.isTrue x
end Go.Proofs.YtiphbdhclldllaaGreatDoor.Ab
