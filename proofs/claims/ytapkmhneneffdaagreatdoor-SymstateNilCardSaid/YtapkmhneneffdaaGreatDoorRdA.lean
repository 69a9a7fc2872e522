/- A part of the proof that the law answers true at every input: the texts ZaiT, ZaiU; no conditions. -/
import Derived.Test.YtapkmhneneffdaaGreatDoorMcE
import Derived.Test.YtapkmhneneffdaaGreatDoorProg
import Derived.KernelRfl
import Derived.Test.YtapkmhneneffdaaGreatDoorCnD
set_option linter.unusedSimpArgs false
set_option linter.unusedVariables false
set_option linter.constructorNameAsVariable false

/-! The text ZaiT. -/
namespace Go.Proofs.YtapkmhneneffdaaGreatDoor.Ab
open Go Go.Proofs.YtapkmhneneffdaaGreatDoor.Mx Go.Proofs.YtapkmhneneffdaaGreatDoor.M3
section
variable {H : Type} {enc : TypeId × Value → H} {W : World}
def Q9 (a : ByteArray) : Prop := a.size ≤ reachBytes
theorem td9 : TD enc Tryz.prog W 9 V.s Q9 := td_str (by kernel_rfl)

def Q26 (a : Int) : Prop := -9223372036854775808 ≤ a ∧ a ≤ 9223372036854775807
theorem td26 : TD enc Tryz.prog W 26 eI Q26 := td_i64 (by kernel_rfl)

def Q3 (a : Int) : Prop := -9223372036854775808 ≤ a ∧ a ≤ 9223372036854775807
theorem td3 : TD enc Tryz.prog W 3 eI Q3 := td_i64 (by kernel_rfl)

def Q2 (a : Int) : Prop := -9223372036854775808 ≤ a ∧ a ≤ 9223372036854775807
theorem td2 : TD enc Tryz.prog W 2 eI Q2 := td_i64 (by kernel_rfl)

def Q62 (a : S Int) : Prop := a.l.length ≤ 2 ^ 44 ∧ (∀ x ∈ a.l, Q2 x) ∧ a.l.length * 8 ≤ 2 ^ 47
theorem td62 : TD enc Tryz.prog W 62 (S.enc eI) Q62 := td_sl (by_ := 8) (by kernel_rfl) (by kernel_rfl : _ = 1) (by kernel_rfl) (by decide) (by decide) (fun _ => rfl) td2

def Q4 (a : Bool) : Prop := True ∨ a = a
theorem td4 : TD enc Tryz.prog W 4 V.b Q4 := (td_bool (by kernel_rfl)).mono fun _ _ => .inl trivial

def Q64 (a : LGlobal) : Prop := Q9 a.name ∧ Q26 a.elem ∧ Q3 a.len ∧ Q62 a.init ∧ Q4 a.readOnly
theorem td64 : TD enc Tryz.prog W 64 eGlobal Q64 := td_st (l := [(0, 9, 1), (1, 26, 1), (2, 3, 1), (3, 62, 1), (4, 4, 1)]) (by kernel_rfl) (by kernel_rfl) (.cons td9 (.cons td26 (.cons td3 (.cons td62 (.cons td4 (.nil _)))))) fun vs h => by
  obtain ⟨_, _, rfl, ⟨a0, rfl, q0⟩, _, _, rfl, ⟨a1, rfl, q1⟩, _, _, rfl, ⟨a2, rfl, q2⟩, _, _, rfl, ⟨a3, rfl, q3⟩, _, _, rfl, ⟨a4, rfl, q4⟩, rfl⟩ := h
  exact ⟨⟨a0, a1, a2, a3, a4⟩, rfl, q0, q1, q2, q3, q4⟩

def Q22 (a : S LGlobal) : Prop := a.l.length ≤ 2 ^ 44 ∧ (∀ x ∈ a.l, Q64 x) ∧ a.l.length * 64 ≤ 2 ^ 47
theorem td22 : TD enc Tryz.prog W 22 (S.enc eGlobal) Q22 := td_sl (by_ := 64) (by kernel_rfl) (by kernel_rfl : _ = 5) (by kernel_rfl) (by decide) (by decide) (fun _ => rfl) td64

def Q34 (a : S Int) : Prop := a.l.length ≤ 2 ^ 44 ∧ (∀ x ∈ a.l, Q3 x) ∧ a.l.length * 8 ≤ 2 ^ 47
theorem td34 : TD enc Tryz.prog W 34 (S.enc eI) Q34 := td_sl (by_ := 8) (by kernel_rfl) (by kernel_rfl : _ = 1) (by kernel_rfl) (by decide) (by decide) (fun _ => rfl) td3

def Q65 (a : S Int) : Prop := a.l.length ≤ 2 ^ 44 ∧ (∀ x ∈ a.l, Q26 x) ∧ a.l.length * 8 ≤ 2 ^ 47
theorem td65 : TD enc Tryz.prog W 65 (S.enc eI) Q65 := td_sl (by_ := 8) (by kernel_rfl) (by kernel_rfl : _ = 1) (by kernel_rfl) (by decide) (by decide) (fun _ => rfl) td26

def Q74 (a : LInstr) : Prop := Q3 a.op ∧ Q26 a.ty ∧ Q3 a.dst ∧ Q34 a.args ∧ Q2 a.imm ∧ Q3 a.sym ∧ Q26 a.elem ∧ Q4 a.noWrap
theorem td74 : TD enc Tryz.prog W 74 eInstr Q74 := td_st (l := [(0, 3, 1), (1, 26, 1), (2, 3, 1), (3, 34, 1), (4, 2, 1), (5, 3, 1), (6, 26, 1), (7, 4, 1)]) (by kernel_rfl) (by kernel_rfl) (.cons td3 (.cons td26 (.cons td3 (.cons td34 (.cons td2 (.cons td3 (.cons td26 (.cons td4 (.nil _))))))))) fun vs h => by
  obtain ⟨_, _, rfl, ⟨a0, rfl, q0⟩, _, _, rfl, ⟨a1, rfl, q1⟩, _, _, rfl, ⟨a2, rfl, q2⟩, _, _, rfl, ⟨a3, rfl, q3⟩, _, _, rfl, ⟨a4, rfl, q4⟩, _, _, rfl, ⟨a5, rfl, q5⟩, _, _, rfl, ⟨a6, rfl, q6⟩, _, _, rfl, ⟨a7, rfl, q7⟩, rfl⟩ := h
  exact ⟨⟨a0, a1, a2, a3, a4, a5, a6, a7⟩, rfl, q0, q1, q2, q3, q4, q5, q6, q7⟩

def Q127 (a : S LInstr) : Prop := a.l.length ≤ 2 ^ 44 ∧ (∀ x ∈ a.l, Q74 x) ∧ a.l.length * 80 ≤ 2 ^ 47
theorem td127 : TD enc Tryz.prog W 127 (S.enc eInstr) Q127 := td_sl (by_ := 80) (by kernel_rfl) (by kernel_rfl : _ = 8) (by kernel_rfl) (by decide) (by decide) (fun _ => rfl) td74

def Q216 (a : LEdge) : Prop := Q3 a.block ∧ Q34 a.args
theorem td216 : TD enc Tryz.prog W 216 eEdge Q216 := td_st (l := [(0, 3, 1), (1, 34, 1)]) (by kernel_rfl) (by kernel_rfl) (.cons td3 (.cons td34 (.nil _))) fun vs h => by
  obtain ⟨_, _, rfl, ⟨a0, rfl, q0⟩, _, _, rfl, ⟨a1, rfl, q1⟩, rfl⟩ := h
  exact ⟨⟨a0, a1⟩, rfl, q0, q1⟩

def Q128 (a : S LEdge) : Prop := a.l.length ≤ 2 ^ 44 ∧ (∀ x ∈ a.l, Q216 x) ∧ a.l.length * 32 ≤ 2 ^ 47
theorem td128 : TD enc Tryz.prog W 128 (S.enc eEdge) Q128 := td_sl (by_ := 32) (by kernel_rfl) (by kernel_rfl : _ = 2) (by kernel_rfl) (by decide) (by decide) (fun _ => rfl) td216

def Q130 (a : LTerm) : Prop := Q3 a.kind ∧ Q34 a.args ∧ Q62 a.cases ∧ Q128 a.succs ∧ Q3 a.sym
theorem td130 : TD enc Tryz.prog W 130 eTerm Q130 := td_st (l := [(0, 3, 1), (1, 34, 1), (2, 62, 1), (3, 128, 1), (4, 3, 1)]) (by kernel_rfl) (by kernel_rfl) (.cons td3 (.cons td34 (.cons td62 (.cons td128 (.cons td3 (.nil _)))))) fun vs h => by
  obtain ⟨_, _, rfl, ⟨a0, rfl, q0⟩, _, _, rfl, ⟨a1, rfl, q1⟩, _, _, rfl, ⟨a2, rfl, q2⟩, _, _, rfl, ⟨a3, rfl, q3⟩, _, _, rfl, ⟨a4, rfl, q4⟩, rfl⟩ := h
  exact ⟨⟨a0, a1, a2, a3, a4⟩, rfl, q0, q1, q2, q3, q4⟩

def Q132 (a : LBlock) : Prop := Q34 a.params ∧ Q127 a.instrs ∧ Q130 a.term
theorem td132 : TD enc Tryz.prog W 132 eBlock Q132 := td_st (l := [(0, 34, 1), (1, 127, 1), (2, 130, 5)]) (by kernel_rfl) (by kernel_rfl) (.cons td34 (.cons td127 (.cons td130 (.nil _)))) fun vs h => by
  obtain ⟨_, _, rfl, ⟨a0, rfl, q0⟩, _, _, rfl, ⟨a1, rfl, q1⟩, _, _, rfl, ⟨a2, rfl, q2⟩, rfl⟩ := h
  exact ⟨⟨a0, a1, a2⟩, rfl, q0, q1, q2⟩

def Q66 (a : S LBlock) : Prop := a.l.length ≤ 2 ^ 44 ∧ (∀ x ∈ a.l, Q132 x) ∧ a.l.length * 136 ≤ 2 ^ 47
theorem td66 : TD enc Tryz.prog W 66 (S.enc eBlock) Q66 := td_sl (by_ := 136) (by kernel_rfl) (by kernel_rfl : _ = 7) (by kernel_rfl) (by decide) (by decide) (fun _ => rfl) td132

def Q68 (a : LFunc) : Prop := Q9 a.name ∧ Q34 a.params ∧ Q26 a.result ∧ Q65 a.regs ∧ Q66 a.blocks
theorem td68 : TD enc Tryz.prog W 68 eFunc Q68 := td_st (l := [(0, 9, 1), (1, 34, 1), (2, 26, 1), (3, 65, 1), (4, 66, 1)]) (by kernel_rfl) (by kernel_rfl) (.cons td9 (.cons td34 (.cons td26 (.cons td65 (.cons td66 (.nil _)))))) fun vs h => by
  obtain ⟨_, _, rfl, ⟨a0, rfl, q0⟩, _, _, rfl, ⟨a1, rfl, q1⟩, _, _, rfl, ⟨a2, rfl, q2⟩, _, _, rfl, ⟨a3, rfl, q3⟩, _, _, rfl, ⟨a4, rfl, q4⟩, rfl⟩ := h
  exact ⟨⟨a0, a1, a2, a3, a4⟩, rfl, q0, q1, q2, q3, q4⟩

def Q23 (a : S LFunc) : Prop := a.l.length ≤ 2 ^ 44 ∧ (∀ x ∈ a.l, Q68 x) ∧ a.l.length * 96 ≤ 2 ^ 47
theorem td23 : TD enc Tryz.prog W 23 (S.enc eFunc) Q23 := td_sl (by_ := 96) (by kernel_rfl) (by kernel_rfl : _ = 5) (by kernel_rfl) (by decide) (by decide) (fun _ => rfl) td68

def Q25 (a : LModule) : Prop := Q22 a.globals ∧ Q23 a.funcs
theorem td25 : TD enc Tryz.prog W 25 eModule Q25 := td_st (l := [(0, 22, 1), (1, 23, 1)]) (by kernel_rfl) (by kernel_rfl) (.cons td22 (.cons td23 (.nil _))) fun vs h => by
  obtain ⟨_, _, rfl, ⟨a0, rfl, q0⟩, _, _, rfl, ⟨a1, rfl, q1⟩, rfl⟩ := h
  exact ⟨⟨a0, a1⟩, rfl, q0, q1⟩

end
end Go.Proofs.YtapkmhneneffdaaGreatDoor.Ab

/-! The text ZaiU. -/
namespace Go.Proofs.YtapkmhneneffdaaGreatDoor.Ab
open Go Go.Proofs.YtapkmhneneffdaaGreatDoor.Mx Go.Proofs.YtapkmhneneffdaaGreatDoor.M3 Go.Proofs.YtapkmhneneffdaaGreatDoor.M3.T
theorem bb_of {b : LBlock} (h : Q132 b) : BBlock b :=
  ⟨h.1.1, h.2.1.1, fun i hi => (h.2.1.2.1 i hi).2.2.2.1.1, ⟨h.2.2.2.1.1, h.2.2.2.2.1.1, h.2.2.2.2.2.1.1, fun e he => (h.2.2.2.2.2.1.2.1 e he).2.1⟩⟩
theorem bf_of {f : LFunc} (h : Q68 f) : BFunc f := ⟨h.2.1.1, h.2.2.2.1.1, h.2.2.2.2.1, fun b hb => bb_of (h.2.2.2.2.2.1 b hb)⟩
theorem bm_of {m : LModule} (h : Q25 m) : BMod m := ⟨h.1.1, fun g hg => (h.1.2.1 g hg).2.2.2.1.1, h.2.1, fun f hf => bf_of (h.2.2.1 f hf)⟩
theorem kb_of' {b : LBlock} (h : Q132 b) : KBlock b :=
  ⟨h.1.1, h.2.1.2.2, fun i hi => (h.2.1.2.1 i hi).2.2.2.1.1, h.2.2.2.1.1, h.2.2.2.2.1.1, h.2.2.2.2.2.1.2.2, fun e he => (h.2.2.2.2.2.1.2.1 e he).2.1⟩
theorem kf_of' {f : LFunc} (h : Q68 f) : KFunc f := ⟨h.2.1.1, h.2.2.2.1.1, h.2.2.2.2.2.2, fun b hb => kb_of' (h.2.2.2.2.2.1 b hb)⟩
theorem km_of {m : LModule} (h : Q25 m) : KMod m := ⟨h.1.2.2, fun g hg => (h.1.2.1 g hg).2.2.2.1.1, h.2.2.2, fun f hf => kf_of' (h.2.2.1 f hf)⟩
end Go.Proofs.YtapkmhneneffdaaGreatDoor.Ab
