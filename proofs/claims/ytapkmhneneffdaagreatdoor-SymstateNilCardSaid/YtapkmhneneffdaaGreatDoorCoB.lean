/- A part of the proof that the law answers true at every input: the texts ZahT; no conditions. -/
import Derived.Test.YtapkmhneneffdaaGreatDoorCoA
set_option linter.unusedSimpArgs false
set_option linter.unusedVariables false
set_option linter.constructorNameAsVariable false

/-! The text ZahT. -/
namespace Go.Proofs.YtapkmhneneffdaaGreatDoor.M3.T
open Go Go.Proofs.YtapkmhneneffdaaGreatDoor.Mx Go.Proofs.YtapkmhneneffdaaGreatDoor.M3
set_option maxRecDepth 100000

def L63v0r0 : Ln := ⟨Unit, fun r => ((.sl true []), .emp)⟩
def L63v0r1 : Ln := ⟨(List LGlobal) × Bool, fun r => ((.sr 0 0 0 r.1.length r.2), ⟨1, 0, [true], [some (0, (.arr 5 (r.1.map eGlobal)))]⟩)⟩
def L65v0r0 : Ln := ⟨Unit, fun r => ((.sl true []), .emp)⟩
def L65v0r1 : Ln := ⟨(List LFunc) × Bool, fun r => ((.sr 0 0 0 r.1.length r.2), ⟨1, 0, [true], [some (0, (.arr 5 (r.1.map eFunc)))]⟩)⟩
def L108v0r0 : Ln := ⟨Unit, fun r => ((.sl true []), .emp)⟩
def L108v0r1 : Ln := ⟨(List LBlock) × Bool, fun r => ((.sr 0 0 0 r.1.length r.2), ⟨1, 0, [true], [some (0, (.arr 7 (r.1.map eBlock)))]⟩)⟩
def L109v0r0 : Ln := ⟨Unit, fun r => ((.sl true []), .emp)⟩
def L109v0r1 : Ln := ⟨(List LInstr) × Bool, fun r => ((.sr 0 0 0 r.1.length r.2), ⟨1, 0, [true], [some (0, (.arr 8 (r.1.map eInstr)))]⟩)⟩
def L110v0r0 : Ln := ⟨Unit, fun r => ((.sl true []), .emp)⟩
def L110v0r1 : Ln := ⟨(List LEdge) × Bool, fun r => ((.sr 0 0 0 r.1.length r.2), ⟨1, 0, [true], [some (0, (.arr 2 (r.1.map eEdge)))]⟩)⟩


/-- slices.Clone[[]burnish/api.Global,burnish/api.Global] (0) -/
theorem t63v0 (G : Gl) (q : Q) (tl : Tl (V × Hp)) (x1 : S LGlobal) :
  stSL G q [] [(4, (.one (vlH V.b))), (7, (.two idH (apH 5 eGlobal)))] 0 tl n63 [(S.enc eGlobal x1)] .emp = bnd (q.h (vlH V.b) (.bin .eql .slc (.t 3) (.c (.slice none 0 0))) [(S.enc eGlobal x1), (.sl true [])] .emp) fun b1 => bif b1 then (some ((.sl true []), .emp)) else (bnd (q.h2 idH (apH 5 eGlobal) (.append 1 64 5 64 false (.t 5) (.t 6)) [(.sr 0 0 0 0 true), (S.enc eGlobal x1)] ⟨1, 0, [true], [some (0, (.arr 5 []))]⟩) fun r => match r with | .inl _ => (some ((.sr 0 0 0 0 true), ⟨1, 0, [true], [some (0, (.arr 5 []))]⟩)) | .inr l2 => (some ((.sr 0 0 0 l2.length false), ⟨1, 0, [true], [some (0, (.arr 5 (l2.map eGlobal)))]⟩))) := by
  kernel_rfl


/-- slices.Clone[[]burnish/api.Func,burnish/api.Func] (0) -/
theorem t65v0 (G : Gl) (q : Q) (tl : Tl (V × Hp)) (x1 : S LFunc) :
  stSL G q [] [(4, (.one (vlH V.b))), (7, (.two idH (apH 5 eFunc)))] 0 tl n65 [(S.enc eFunc x1)] .emp = bnd (q.h (vlH V.b) (.bin .eql .slc (.t 3) (.c (.slice none 0 0))) [(S.enc eFunc x1), (.sl true [])] .emp) fun b1 => bif b1 then (some ((.sl true []), .emp)) else (bnd (q.h2 idH (apH 5 eFunc) (.append 1 68 5 96 false (.t 5) (.t 6)) [(.sr 0 0 0 0 true), (S.enc eFunc x1)] ⟨1, 0, [true], [some (0, (.arr 5 []))]⟩) fun r => match r with | .inl _ => (some ((.sr 0 0 0 0 true), ⟨1, 0, [true], [some (0, (.arr 5 []))]⟩)) | .inr l2 => (some ((.sr 0 0 0 l2.length false), ⟨1, 0, [true], [some (0, (.arr 5 (l2.map eFunc)))]⟩))) := by
  kernel_rfl


/-- slices.Clone[[]burnish/api.Block,burnish/api.Block] (0) -/
theorem t108v0 (G : Gl) (q : Q) (tl : Tl (V × Hp)) (x1 : S LBlock) :
  stSL G q [] [(4, (.one (vlH V.b))), (7, (.two idH (apH 7 eBlock)))] 0 tl n108 [(S.enc eBlock x1)] .emp = bnd (q.h (vlH V.b) (.bin .eql .slc (.t 3) (.c (.slice none 0 0))) [(S.enc eBlock x1), (.sl true [])] .emp) fun b1 => bif b1 then (some ((.sl true []), .emp)) else (bnd (q.h2 idH (apH 7 eBlock) (.append 1 132 7 136 false (.t 5) (.t 6)) [(.sr 0 0 0 0 true), (S.enc eBlock x1)] ⟨1, 0, [true], [some (0, (.arr 7 []))]⟩) fun r => match r with | .inl _ => (some ((.sr 0 0 0 0 true), ⟨1, 0, [true], [some (0, (.arr 7 []))]⟩)) | .inr l2 => (some ((.sr 0 0 0 l2.length false), ⟨1, 0, [true], [some (0, (.arr 7 (l2.map eBlock)))]⟩))) := by
  kernel_rfl


/-- slices.Clone[[]burnish/api.Instr,burnish/api.Instr] (0) -/
theorem t109v0 (G : Gl) (q : Q) (tl : Tl (V × Hp)) (x1 : S LInstr) :
  stSL G q [] [(4, (.one (vlH V.b))), (7, (.two idH (apH 8 eInstr)))] 0 tl n109 [(S.enc eInstr x1)] .emp = bnd (q.h (vlH V.b) (.bin .eql .slc (.t 3) (.c (.slice none 0 0))) [(S.enc eInstr x1), (.sl true [])] .emp) fun b1 => bif b1 then (some ((.sl true []), .emp)) else (bnd (q.h2 idH (apH 8 eInstr) (.append 1 74 8 80 false (.t 5) (.t 6)) [(.sr 0 0 0 0 true), (S.enc eInstr x1)] ⟨1, 0, [true], [some (0, (.arr 8 []))]⟩) fun r => match r with | .inl _ => (some ((.sr 0 0 0 0 true), ⟨1, 0, [true], [some (0, (.arr 8 []))]⟩)) | .inr l2 => (some ((.sr 0 0 0 l2.length false), ⟨1, 0, [true], [some (0, (.arr 8 (l2.map eInstr)))]⟩))) := by
  kernel_rfl


/-- slices.Clone[[]burnish/api.Edge,burnish/api.Edge] (0) -/
theorem t110v0 (G : Gl) (q : Q) (tl : Tl (V × Hp)) (x1 : S LEdge) :
  stSL G q [] [(4, (.one (vlH V.b))), (7, (.two idH (apH 2 eEdge)))] 0 tl n110 [(S.enc eEdge x1)] .emp = bnd (q.h (vlH V.b) (.bin .eql .slc (.t 3) (.c (.slice none 0 0))) [(S.enc eEdge x1), (.sl true [])] .emp) fun b1 => bif b1 then (some ((.sl true []), .emp)) else (bnd (q.h2 idH (apH 2 eEdge) (.append 1 216 2 32 false (.t 5) (.t 6)) [(.sr 0 0 0 0 true), (S.enc eEdge x1)] ⟨1, 0, [true], [some (0, (.arr 2 []))]⟩) fun r => match r with | .inl _ => (some ((.sr 0 0 0 0 true), ⟨1, 0, [true], [some (0, (.arr 2 []))]⟩)) | .inr l2 => (some ((.sr 0 0 0 l2.length false), ⟨1, 0, [true], [some (0, (.arr 2 (l2.map eEdge)))]⟩))) := by
  kernel_rfl

abbrev k4_1 (tl : Tl V) (x1 : S (S LSteps)) (x2 : LModule) (x3 : Bool) (x4 : S LGlobal) (x5 : Int) (x6 : Int) : Option V := tl [1, 2, 4, 29, 30, 31] [(S.enc (S.enc eSteps) x1), (.pe (eModule x2) 0), (.b x3), (S.enc eGlobal x4), (eI x5), (eI x6)] .emp
abbrev k4_2 (tl : Tl V) (x1 : S (S LSteps)) (x2 : Bool) (x3 : S LFunc) (x4 : Int) (x5 : Int) : Option V := tl [1, 4, 40, 41, 42] [(S.enc (S.enc eSteps) x1), (.b x2), (S.enc eFunc x3), (eI x4), (eI x5)] .emp
abbrev k4_3 (tl : Tl V) (x1 : Bool) (x2 : Int) (x3 : S (S LSteps)) (x4 : Int) (x5 : Int) : Option V := tl [4, 9, 50, 51, 52] [(.b x1), (eI x2), (S.enc (S.enc eSteps) x3), (eI x4), (eI x5)] .emp

/-- burnish/burnishlaw30.large -/
theorem t4 (G : Gl) (q : Q) (tl : Tl V) (x1 : LModule) (x2 : S (S LSteps)) :
  stS G q [(20, .one ⟨LDiag, eDiag⟩)] [] none tl n4 [(eModule x1), (S.enc (S.enc eSteps) x2)] = bif ltI 8 ((x1.globals.l.map eGlobal).length : Int) then (some (.b true)) else (bif ltI 3 ((x1.funcs.l.map eFunc).length : Int) then (some (.b true)) else (bnd (q.c ⟨LDiag, eDiag⟩ 20 [(eModule x1)]) fun r1 => bif !(eqI r1.code 0) then (some (.b true)) else (k4_1 tl x2 x1 false x1.globals ((x1.globals.l.map eGlobal).length : Int) 0))) := by
  kernel_rfl

/-- burnish/burnishlaw30.large, piece 1 -/
theorem t4_1 (G : Gl) (q : Q) (tl : Tl V) (x1 : S (S LSteps)) (x2 : LModule) (x3 : Bool) (x4 : S LGlobal) (x5 : Int) (x6 : Int) :
  pcS G q [] [(33, (.one (ixH eGlobal)))] none tl n4 [1, 2, 4, 29, 30, 31] [(S.enc (S.enc eSteps) x1), (.pe (eModule x2) 0), (.b x3), (S.enc eGlobal x4), (eI x5), (eI x6)] .emp = bif ltI x6 x5 then (bnd (q.h (ixH eGlobal) (.iaddr 5 (.t 29) (.t 31)) [(S.enc eGlobal x4), (eI x6)] .emp) fun n1 => bif ltI 16 n1.len then (some (.b true)) else (k4_1 tl x1 x2 x3 x4 x5 (IntKind.wrap .i64 (x6 + 1)))) else (k4_2 tl x1 x3 x2.funcs ((x2.funcs.l.map eFunc).length : Int) 0) := by
  kernel_rfl

/-- burnish/burnishlaw30.large, piece 2 -/
theorem t4_2 (G : Gl) (q : Q) (tl : Tl V) (x1 : S (S LSteps)) (x2 : Bool) (x3 : S LFunc) (x4 : Int) (x5 : Int) :
  pcS G q [(21, .one ⟨Int, eI⟩)] [(44, (.one (ixH eFunc)))] none tl n4 [1, 4, 40, 41, 42] [(S.enc (S.enc eSteps) x1), (.b x2), (S.enc eFunc x3), (eI x4), (eI x5)] .emp = bif ltI x5 x4 then (bnd (q.h (ixH eFunc) (.iaddr 5 (.t 40) (.t 42)) [(S.enc eFunc x3), (eI x5)] .emp) fun n1 => bnd (q.c ⟨Int, eI⟩ 21 [(eFunc n1)]) fun r2 => bif ltI 20 r2 then (some (.b true)) else (k4_2 tl x1 x2 x3 x4 (IntKind.wrap .i64 (x5 + 1)))) else (k4_3 tl x2 0 x1 ((x1.l.map (S.enc eSteps)).length : Int) 0) := by
  kernel_rfl

/-- burnish/burnishlaw30.large, piece 3 -/
theorem t4_3 (G : Gl) (q : Q) (tl : Tl V) (x1 : Bool) (x2 : Int) (x3 : S (S LSteps)) (x4 : Int) (x5 : Int) :
  pcS G q [] [(54, (.one (ixH (S.enc eSteps))))] none tl n4 [4, 9, 50, 51, 52] [(.b x1), (eI x2), (S.enc (S.enc eSteps) x3), (eI x4), (eI x5)] .emp = bif ltI x5 x4 then (bnd (q.h (ixH (S.enc eSteps)) (.iaddr 1 (.t 50) (.t 52)) [(S.enc (S.enc eSteps) x3), (eI x5)] .emp) fun n1 => bif ltI 40 ((n1.l.map eSteps).length : Int) then (some (.b true)) else (k4_3 tl x1 (IntKind.wrap .i64 (x2 + ((n1.l.map eSteps).length : Int))) x3 x4 (IntKind.wrap .i64 (x5 + 1)))) else (bif ltI 70 x2 then (some (.b true)) else (some (.b false))) := by
  kernel_rfl

theorem ok4 : FOk 4 n4 := ⟨rfl, rfl, rfl, rfl, by kernel_rfl, by kernel_rfl, by kernel_rfl⟩

abbrev k20_1 (tl : Tl V) (x1 : LDiag) (x2 : Int) (x3 : Int) (x4 : Int) (x5 : Int) (x6 : Int) (x7 : LModule) (x8 : Int) (x9 : Int) : Option V := tl [1, 2, 3, 9, 10] [(.pe (eModule x7) 0), (.pr 1 1 0 0), (.pr 0 0 0 0), (eI x8), (eI x9)] ⟨2, 0, [true, true], [some (0, (.arr 5 [(eDiag x1)])), some (1, (.arr 5 [(.agg [(eI x2), (eI x3), (eI x4), (eI x5), (eI x6)])]))]⟩

/-- burnish/burnishref14.Module -/
theorem t20 (G : Gl) (q : Q) (tl : Tl V) (x1 : LModule) :
  stS G q [(49, .one ⟨LDiag, eDiag⟩)] [] none tl n20 [(eModule x1)] = bnd (q.c ⟨LDiag, eDiag⟩ 49 [(eModule x1)]) fun r1 => k20_1 tl r1 0 0 0 0 0 x1 ((x1.funcs.l.map eFunc).length : Int) 0 := by
  kernel_rfl

/-- burnish/burnishref14.Module, piece 1 -/
theorem t20_1 (G : Gl) (q : Q) (tl : Tl V) (x1 : LDiag) (x2 : Int) (x3 : Int) (x4 : Int) (x5 : Int) (x6 : Int) (x7 : LModule) (x8 : Int) (x9 : Int) :
  pcS G q [(50, .one ⟨LDiag, eDiag⟩)] [] none tl n20 [1, 2, 3, 9, 10] [(.pe (eModule x7) 0), (.pr 1 1 0 0), (.pr 0 0 0 0), (eI x8), (eI x9)] ⟨2, 0, [true, true], [some (0, (.arr 5 [(eDiag x1)])), some (1, (.arr 5 [(.agg [(eI x2), (eI x3), (eI x4), (eI x5), (eI x6)])]))]⟩ = bif ltI x9 x8 then (bif !(eqI x1.code 0) then (some (eDiag x1)) else (bnd (q.c ⟨LDiag, eDiag⟩ 50 [(eModule x7), (eI x9)]) fun r1 => k20_1 tl r1 x2 x3 x4 x5 x6 x7 x8 (IntKind.wrap .i64 (x9 + 1)))) else (some (eDiag x1)) := by
  kernel_rfl

theorem ok20 : FOk 20 n20 := ⟨rfl, rfl, rfl, rfl, by kernel_rfl, by kernel_rfl, by kernel_rfl⟩

abbrev k21_1 (tl : Tl V) (x1 : Int) (x2 : S LBlock) (x3 : Int) (x4 : Int) : Option V := tl [3, 10, 11, 12] [(eI x1), (S.enc eBlock x2), (eI x3), (eI x4)] .emp

/-- burnish/burnishref14.Size -/
theorem t21 (G : Gl) (q : Q) (tl : Tl V) (x1 : LFunc) :
  stS G q [] [] none tl n21 [(eFunc x1)] = k21_1 tl ((x1.blocks.l.map eBlock).length : Int) x1.blocks ((x1.blocks.l.map eBlock).length : Int) 0 := by
  kernel_rfl

/-- burnish/burnishref14.Size, piece 1 -/
theorem t21_1 (G : Gl) (q : Q) (tl : Tl V) (x1 : Int) (x2 : S LBlock) (x3 : Int) (x4 : Int) :
  pcS G q [] [(14, (.one (ixH eBlock)))] none tl n21 [3, 10, 11, 12] [(eI x1), (S.enc eBlock x2), (eI x3), (eI x4)] .emp = bif ltI x4 x3 then (bnd (q.h (ixH eBlock) (.iaddr 7 (.t 10) (.t 12)) [(S.enc eBlock x2), (eI x4)] .emp) fun n1 => k21_1 tl (IntKind.wrap .i64 (x1 + ((n1.instrs.l.map eInstr).length : Int))) x2 x3 (IntKind.wrap .i64 (x4 + 1))) else (some (eI x1)) := by
  kernel_rfl

theorem ok21 : FOk 21 n21 := ⟨rfl, rfl, rfl, rfl, by kernel_rfl, by kernel_rfl, by kernel_rfl⟩

abbrev k27_1 (tl : Tl V) (x1 : S LFunc) (x2 : Int) (x3 : Int) : Option V := tl [1, 2, 11, 12] [(.pr 0 0 0 0), (.pr 1 1 0 0), (eI x2), (eI x3)] ⟨2, 0, [true, true], [some (0, (.arr 2 [(.agg [(.sl true []), (S.enc eFunc x1)])])), some (1, (.arr 2 [(.agg [(.sl true []), (.sl true [])])]))]⟩
abbrev k27_2 (tl : Tl V) (x1 : Nat) (x2 : Nat) (x3 : Bool) (x4 : S LFunc) (x5 : List LGlobal) (x6 : Int) (x7 : Int) : Option V := tl [1, 2, 11, 12] [(.pr 0 0 0 0), (.pr 1 1 0 0), (eI x6), (eI x7)] ⟨3, 0, [false, true, true], [some (0, (.arr 2 [(.agg [(.sr 2 2 x1 x2 x3), (S.enc eFunc x4)])])), some (1, (.arr 2 [(.agg [(.sl true []), (.sl true [])])])), some (2, (.arr 5 (x5.map eGlobal)))]⟩
abbrev k27_3 (tl : Tl V) (x1 : Int) (x2 : Int) : Option V := tl [1, 2, 34, 35] [(.pr 0 0 0 0), (.pr 1 1 0 0), (eI x1), (eI x2)] ⟨2, 0, [true, true], [some (0, (.arr 2 [(.agg [(.sl true []), (.sl true [])])])), some (1, (.arr 2 [(.agg [(.sl true []), (.sl true [])])]))]⟩
abbrev k27_4 (tl : Tl V) (x1 : Nat) (x2 : Nat) (x3 : Bool) (x4 : List LFunc) (x5 : Int) (x6 : Int) : Option V := tl [1, 2, 34, 35] [(.pr 0 0 0 0), (.pr 1 1 0 0), (eI x5), (eI x6)] ⟨3, 0, [false, true, true], [some (0, (.arr 2 [(.agg [(.sl true []), (.sr 2 2 x1 x2 x3)])])), some (1, (.arr 2 [(.agg [(.sl true []), (.sl true [])])])), some (2, (.arr 5 (x4.map eFunc)))]⟩
abbrev k27_5 (tl : Tl V) (x1 : Nat) (x2 : Nat) (x3 : Bool) (x4 : List LGlobal) (x5 : Int) (x6 : Int) : Option V := tl [1, 2, 34, 35] [(.pr 0 0 0 0), (.pr 1 1 0 0), (eI x5), (eI x6)] ⟨3, 0, [false, true, true], [some (0, (.arr 2 [(.agg [(.sr 2 2 x1 x2 x3), (.sl true [])])])), some (1, (.arr 2 [(.agg [(.sl true []), (.sl true [])])])), some (2, (.arr 5 (x4.map eGlobal)))]⟩
abbrev k27_6 (tl : Tl V) (x1 : Nat) (x2 : Nat) (x3 : Bool) (x4 : Nat) (x5 : Nat) (x6 : Bool) (x7 : List LGlobal) (x8 : List LFunc) (x9 : Int) (x10 : Int) : Option V := tl [1, 2, 34, 35] [(.pr 0 0 0 0), (.pr 1 1 0 0), (eI x9), (eI x10)] ⟨4, 0, [false, true, true, true], [some (0, (.arr 2 [(.agg [(.sr 2 2 x1 x2 x3), (.sr 3 3 x4 x5 x6)])])), some (1, (.arr 2 [(.agg [(.sl true []), (.sl true [])])])), some (2, (.arr 5 (x7.map eGlobal))), some (3, (.arr 5 (x8.map eFunc)))]⟩

/-- burnish/verify.Clone -/
theorem t27 (G : Gl) (q : Q) (tl : Tl V) (x1 : LModule) :
  stS G q [(63, (.L2 L63v0r0 L63v0r1))] [] (some ⟨LModule, eModule⟩) tl n27 [(eModule x1)] = bnd (q.l2 L63v0r0 L63v0r1 63 [(S.enc eGlobal x1.globals)] .emp) fun r => match r with | .inl r1 => (k27_1 tl x1.funcs 0 0) | .inr r2 => (k27_2 tl 0 r2.1.length r2.2 x1.funcs r2.1 ((r2.1.length : Nat) : Int) 0) := by
  kernel_rfl

/-- burnish/verify.Clone, piece 1 -/
theorem t27_1 (G : Gl) (q : Q) (tl : Tl V) (x1 : S LFunc) (x2 : Int) (x3 : Int) :
  pcS G q [(65, (.L2 L65v0r0 L65v0r1))] [(21, .dead)] (some ⟨LModule, eModule⟩) tl n27 [1, 2, 11, 12] [(.pr 0 0 0 0), (.pr 1 1 0 0), (eI x2), (eI x3)] ⟨2, 0, [true, true], [some (0, (.arr 2 [(.agg [(.sl true []), (S.enc eFunc x1)])])), some (1, (.arr 2 [(.agg [(.sl true []), (.sl true [])])]))]⟩ = bif ltI x3 x2 then (none) else (bnd (q.l2 L65v0r0 L65v0r1 65 [(S.enc eFunc x1)] .emp) fun r => match r with | .inl r1 => (k27_3 tl 0 0) | .inr r2 => (k27_4 tl 0 r2.1.length r2.2 r2.1 ((r2.1.length : Nat) : Int) 0)) := by
  kernel_rfl

/-- burnish/verify.Clone, piece 2 -/
theorem t27_2 (G : Gl) (q : Q) (tl : Tl V) (x1 : Nat) (x2 : Nat) (x3 : Bool) (x4 : S LFunc) (x5 : List LGlobal) (x6 : Int) (x7 : Int) :
  pcS G q [(64, .one ⟨S Int, (S.enc eI)⟩), (65, (.L2 L65v0r0 L65v0r1))] [(21, (.one (riH))), (23, (.one (vlH (S.enc eI)))), (25, (.one (riH))), (100026, (.one (stH 5 eGlobal)))] (some ⟨LModule, eModule⟩) tl n27 [1, 2, 11, 12] [(.pr 0 0 0 0), (.pr 1 1 0 0), (eI x6), (eI x7)] ⟨3, 0, [false, true, true], [some (0, (.arr 2 [(.agg [(.sr 2 2 x1 x2 x3), (S.enc eFunc x4)])])), some (1, (.arr 2 [(.agg [(.sl true []), (.sl true [])])])), some (2, (.arr 5 (x5.map eGlobal)))]⟩ = bif ltI x7 x6 then (bnd (q.h (riH) (.iaddr 5 (.t 19) (.t 20)) [(.sr 2 2 x1 x2 x3), (eI x7)] ⟨3, 0, [false, true, true], [some (0, (.arr 2 [(.agg [(.sr 2 2 x1 x2 x3), (S.enc eFunc x4)])])), some (1, (.arr 2 [(.agg [(.sl true []), (.sl true [])])])), some (2, (.arr 5 (x5.map eGlobal)))]⟩) fun k1 => bnd (q.h (vlH (S.enc eI)) (.load false 1 (.t 22)) [(.pr 2 2 k1 3)] ⟨3, 0, [false, true, true], [some (0, (.arr 2 [(.agg [(.sr 2 2 x1 x2 x3), (S.enc eFunc x4)])])), some (1, (.arr 2 [(.agg [(.sl true []), (.sl true [])])])), some (2, (.arr 5 (x5.map eGlobal)))]⟩) fun n2 => bnd (q.c ⟨S Int, (S.enc eI)⟩ 64 [(S.enc eI n2)]) fun r3 => bnd (q.h (riH) (.iaddr 5 (.t 16) (.t 17)) [(.sr 2 2 x1 x2 x3), (eI x7)] ⟨3, 1, [false, true, true], [some (0, (.arr 2 [(.agg [(.sr 2 2 x1 x2 x3), (S.enc eFunc x4)])])), some (1, (.arr 2 [(.agg [(.sl true []), (.sl true [])])])), some (2, (.arr 5 (x5.map eGlobal)))]⟩) fun k4 => bnd (q.h (stH 5 eGlobal) (.store 1 (.t 26) (.t 24)) [(.pr 2 2 k4 3), (S.enc eI r3)] ⟨3, 1, [false, true, true], [some (0, (.arr 2 [(.agg [(.sr 2 2 x1 x2 x3), (S.enc eFunc x4)])])), some (1, (.arr 2 [(.agg [(.sl true []), (.sl true [])])])), some (2, (.arr 5 (x5.map eGlobal)))]⟩) fun l5 => k27_2 tl x1 x2 x3 x4 l5 x6 (IntKind.wrap .i64 (x7 + 1))) else (bnd (q.l2 L65v0r0 L65v0r1 65 [(S.enc eFunc x4)] .emp) fun r => match r with | .inl r6 => (k27_5 tl x1 x2 x3 x5 0 0) | .inr r7 => (k27_6 tl x1 x2 x3 0 r7.1.length r7.2 x5 r7.1 ((r7.1.length : Nat) : Int) 0)) := by
  kernel_rfl

/-- burnish/verify.Clone, piece 3 -/
theorem t27_3 (G : Gl) (q : Q) (tl : Tl V) (x1 : Int) (x2 : Int) :
  pcS G q [] [(44, .dead)] (some ⟨LModule, eModule⟩) tl n27 [1, 2, 34, 35] [(.pr 0 0 0 0), (.pr 1 1 0 0), (eI x1), (eI x2)] ⟨2, 0, [true, true], [some (0, (.arr 2 [(.agg [(.sl true []), (.sl true [])])])), some (1, (.arr 2 [(.agg [(.sl true []), (.sl true [])])]))]⟩ = bif ltI x2 x1 then (none) else (bnd (q.snp _ (⟨LModule, eModule⟩ : En).e (.agg [(.sl true []), (.sl true [])]) ⟨3, 0, [true, true], [some (0, (.arr 2 [(.agg [(.sl true []), (.sl true [])])])), some (1, (.arr 2 [(.agg [(.sl true []), (.sl true [])])]))]⟩) fun a1 => some ((⟨LModule, eModule⟩ : En).e a1)) := by
  kernel_rfl

/-- burnish/verify.Clone, piece 4 -/
theorem t27_4 (G : Gl) (q : Q) (tl : Tl V) (x1 : Nat) (x2 : Nat) (x3 : Bool) (x4 : List LFunc) (x5 : Int) (x6 : Int) :
  pcS G q [(66, .one ⟨LFunc, eFunc⟩)] [(44, (.one (riH))), (45, (.one (vlH eFunc))), (47, (.one (riH))), (100047, (.one (stH 5 eFunc)))] (some ⟨LModule, eModule⟩) tl n27 [1, 2, 34, 35] [(.pr 0 0 0 0), (.pr 1 1 0 0), (eI x5), (eI x6)] ⟨3, 0, [false, true, true], [some (0, (.arr 2 [(.agg [(.sl true []), (.sr 2 2 x1 x2 x3)])])), some (1, (.arr 2 [(.agg [(.sl true []), (.sl true [])])])), some (2, (.arr 5 (x4.map eFunc)))]⟩ = bif ltI x6 x5 then (bnd (q.h (riH) (.iaddr 5 (.t 42) (.t 43)) [(.sr 2 2 x1 x2 x3), (eI x6)] ⟨3, 0, [false, true, true], [some (0, (.arr 2 [(.agg [(.sl true []), (.sr 2 2 x1 x2 x3)])])), some (1, (.arr 2 [(.agg [(.sl true []), (.sl true [])])])), some (2, (.arr 5 (x4.map eFunc)))]⟩) fun k1 => bnd (q.h (vlH eFunc) (.load true 5 (.t 44)) [(.pr 2 2 k1 0)] ⟨3, 0, [false, true, true], [some (0, (.arr 2 [(.agg [(.sl true []), (.sr 2 2 x1 x2 x3)])])), some (1, (.arr 2 [(.agg [(.sl true []), (.sl true [])])])), some (2, (.arr 5 (x4.map eFunc)))]⟩) fun n2 => bnd (q.c ⟨LFunc, eFunc⟩ 66 [(eFunc n2)]) fun r3 => bnd (q.h (riH) (.iaddr 5 (.t 39) (.t 40)) [(.sr 2 2 x1 x2 x3), (eI x6)] ⟨3, 1, [false, true, true], [some (0, (.arr 2 [(.agg [(.sl true []), (.sr 2 2 x1 x2 x3)])])), some (1, (.arr 2 [(.agg [(.sl true []), (.sl true [])])])), some (2, (.arr 5 (x4.map eFunc)))]⟩) fun k4 => bnd (q.h (stH 5 eFunc) (.store 5 (.t 47) (.t 46)) [(.pr 2 2 k4 0), (eFunc r3)] ⟨3, 1, [false, true, true], [some (0, (.arr 2 [(.agg [(.sl true []), (.sr 2 2 x1 x2 x3)])])), some (1, (.arr 2 [(.agg [(.sl true []), (.sl true [])])])), some (2, (.arr 5 (x4.map eFunc)))]⟩) fun l5 => k27_4 tl x1 x2 x3 l5 x5 (IntKind.wrap .i64 (x6 + 1))) else (bnd (q.snp _ (⟨LModule, eModule⟩ : En).e (.agg [(.sl true []), (.sr 2 2 x1 x2 x3)]) ⟨4, 0, [false, false, true], [some (0, (.arr 2 [(.agg [(.sl true []), (.sr 2 2 x1 x2 x3)])])), some (1, (.arr 2 [(.agg [(.sl true []), (.sr 2 2 x1 x2 x3)])])), some (2, (.arr 5 (x4.map eFunc)))]⟩) fun a6 => some ((⟨LModule, eModule⟩ : En).e a6)) := by
  kernel_rfl

/-- burnish/verify.Clone, piece 5 -/
theorem t27_5 (G : Gl) (q : Q) (tl : Tl V) (x1 : Nat) (x2 : Nat) (x3 : Bool) (x4 : List LGlobal) (x5 : Int) (x6 : Int) :
  pcS G q [] [(44, .dead)] (some ⟨LModule, eModule⟩) tl n27 [1, 2, 34, 35] [(.pr 0 0 0 0), (.pr 1 1 0 0), (eI x5), (eI x6)] ⟨3, 0, [false, true, true], [some (0, (.arr 2 [(.agg [(.sr 2 2 x1 x2 x3), (.sl true [])])])), some (1, (.arr 2 [(.agg [(.sl true []), (.sl true [])])])), some (2, (.arr 5 (x4.map eGlobal)))]⟩ = bif ltI x6 x5 then (none) else (bnd (q.snp _ (⟨LModule, eModule⟩ : En).e (.agg [(.sr 2 2 x1 x2 x3), (.sl true [])]) ⟨4, 0, [false, false, true], [some (0, (.arr 2 [(.agg [(.sr 2 2 x1 x2 x3), (.sl true [])])])), some (1, (.arr 2 [(.agg [(.sr 2 2 x1 x2 x3), (.sl true [])])])), some (2, (.arr 5 (x4.map eGlobal)))]⟩) fun a1 => some ((⟨LModule, eModule⟩ : En).e a1)) := by
  kernel_rfl

/-- burnish/verify.Clone, piece 6 -/
theorem t27_6 (G : Gl) (q : Q) (tl : Tl V) (x1 : Nat) (x2 : Nat) (x3 : Bool) (x4 : Nat) (x5 : Nat) (x6 : Bool) (x7 : List LGlobal) (x8 : List LFunc) (x9 : Int) (x10 : Int) :
  pcS G q [(66, .one ⟨LFunc, eFunc⟩)] [(44, (.one (riH))), (45, (.one (vlH eFunc))), (47, (.one (riH))), (100047, (.one (stH 5 eFunc)))] (some ⟨LModule, eModule⟩) tl n27 [1, 2, 34, 35] [(.pr 0 0 0 0), (.pr 1 1 0 0), (eI x9), (eI x10)] ⟨4, 0, [false, true, true, true], [some (0, (.arr 2 [(.agg [(.sr 2 2 x1 x2 x3), (.sr 3 3 x4 x5 x6)])])), some (1, (.arr 2 [(.agg [(.sl true []), (.sl true [])])])), some (2, (.arr 5 (x7.map eGlobal))), some (3, (.arr 5 (x8.map eFunc)))]⟩ = bif ltI x10 x9 then (bnd (q.h (riH) (.iaddr 5 (.t 42) (.t 43)) [(.sr 3 3 x4 x5 x6), (eI x10)] ⟨4, 0, [false, true, true, true], [some (0, (.arr 2 [(.agg [(.sr 2 2 x1 x2 x3), (.sr 3 3 x4 x5 x6)])])), some (1, (.arr 2 [(.agg [(.sl true []), (.sl true [])])])), some (2, (.arr 5 (x7.map eGlobal))), some (3, (.arr 5 (x8.map eFunc)))]⟩) fun k1 => bnd (q.h (vlH eFunc) (.load true 5 (.t 44)) [(.pr 3 3 k1 0)] ⟨4, 0, [false, true, true, true], [some (0, (.arr 2 [(.agg [(.sr 2 2 x1 x2 x3), (.sr 3 3 x4 x5 x6)])])), some (1, (.arr 2 [(.agg [(.sl true []), (.sl true [])])])), some (2, (.arr 5 (x7.map eGlobal))), some (3, (.arr 5 (x8.map eFunc)))]⟩) fun n2 => bnd (q.c ⟨LFunc, eFunc⟩ 66 [(eFunc n2)]) fun r3 => bnd (q.h (riH) (.iaddr 5 (.t 39) (.t 40)) [(.sr 3 3 x4 x5 x6), (eI x10)] ⟨4, 1, [false, true, true, true], [some (0, (.arr 2 [(.agg [(.sr 2 2 x1 x2 x3), (.sr 3 3 x4 x5 x6)])])), some (1, (.arr 2 [(.agg [(.sl true []), (.sl true [])])])), some (2, (.arr 5 (x7.map eGlobal))), some (3, (.arr 5 (x8.map eFunc)))]⟩) fun k4 => bnd (q.h (stH 5 eFunc) (.store 5 (.t 47) (.t 46)) [(.pr 3 3 k4 0), (eFunc r3)] ⟨4, 1, [false, true, true, true], [some (0, (.arr 2 [(.agg [(.sr 2 2 x1 x2 x3), (.sr 3 3 x4 x5 x6)])])), some (1, (.arr 2 [(.agg [(.sl true []), (.sl true [])])])), some (2, (.arr 5 (x7.map eGlobal))), some (3, (.arr 5 (x8.map eFunc)))]⟩) fun l5 => k27_6 tl x1 x2 x3 x4 x5 x6 x7 l5 x9 (IntKind.wrap .i64 (x10 + 1))) else (bnd (q.snp _ (⟨LModule, eModule⟩ : En).e (.agg [(.sr 2 2 x1 x2 x3), (.sr 3 3 x4 x5 x6)]) ⟨5, 0, [false, false, true, true], [some (0, (.arr 2 [(.agg [(.sr 2 2 x1 x2 x3), (.sr 3 3 x4 x5 x6)])])), some (1, (.arr 2 [(.agg [(.sr 2 2 x1 x2 x3), (.sr 3 3 x4 x5 x6)])])), some (2, (.arr 5 (x7.map eGlobal))), some (3, (.arr 5 (x8.map eFunc)))]⟩) fun a6 => some ((⟨LModule, eModule⟩ : En).e a6)) := by
  kernel_rfl

theorem ok27 : FOk 27 n27 := ⟨rfl, rfl, rfl, rfl, by kernel_rfl, by kernel_rfl, by kernel_rfl⟩


/-- burnish/opcode.Access -/
theorem t41 (G : Gl) (q : Q) (tl : Tl V) (x1 : Int) :
  stS G q [] [] none tl n41 [(eI x1)] = bif eqI x1 2 then (some (.tup [(eI x1), (eI 1)])) else (bif eqI x1 3 then (some (.tup [(eI x1), (eI 1)])) else (bif eqI x1 4 then (some (.tup [(eI x1), (eI 1)])) else (bif eqI x1 5 then (some (.tup [(eI x1), (eI 1)])) else (bif eqI x1 6 then (some (.tup [(eI 3), (eI 2)])) else (bif eqI x1 7 then (some (.tup [(eI 3), (eI 4)])) else (some (.tup [(eI 0), (eI 0)]))))))) := by
  kernel_rfl

theorem ok41 : FOk 41 n41 := ⟨rfl, rfl, rfl, rfl, by kernel_rfl, by kernel_rfl, by kernel_rfl⟩

abbrev k49_1 (tl : Tl V) (x1 : Int) (x2 : Int) (x3 : Int) (x4 : Int) (x5 : Int) (x6 : LModule) (x7 : Int) (x8 : Int) : Option V := tl [1, 2, 14, 15] [(.pe (eModule x6) 0), (.pr 1 1 0 0), (eI x7), (eI x8)] ⟨2, 0, [true, true], [none, some (1, (.arr 5 [(.agg [(eI x1), (eI x2), (eI x3), (eI x4), (eI x5)])]))]⟩
abbrev k49_2 (tl : Tl V) (x1 : Int) (x2 : Int) (x3 : Int) (x4 : Int) (x5 : Int) (x6 : LModule) (x7 : Int) (x8 : Int) : Option V := tl [1, 2, 34, 35] [(.pe (eModule x6) 0), (.pr 1 1 0 0), (eI x7), (eI x8)] ⟨2, 0, [true, true], [none, some (1, (.arr 5 [(.agg [(eI x1), (eI x2), (eI x3), (eI x4), (eI x5)])]))]⟩

/-- burnish/burnishref14.heads -/
theorem t49 (G : Gl) (q : Q) (tl : Tl V) (x1 : LModule) :
  stS G q [(85, .one ⟨LDiag, eDiag⟩)] [] none tl n49 [(eModule x1)] = bif ltI 32 ((x1.globals.l.map eGlobal).length : Int) then (bnd (q.c ⟨LDiag, eDiag⟩ 85 [(eI 11), (eI 1), (eI (-1)), (eI (-1)), (eI (-1))]) fun r1 => some (eDiag r1)) else (k49_1 tl 0 0 0 0 0 x1 ((x1.globals.l.map eGlobal).length : Int) 0) := by
  kernel_rfl

/-- burnish/burnishref14.heads, piece 1 -/
theorem t49_1 (G : Gl) (q : Q) (tl : Tl V) (x1 : Int) (x2 : Int) (x3 : Int) (x4 : Int) (x5 : Int) (x6 : LModule) (x7 : Int) (x8 : Int) :
  pcS G q [(85, .one ⟨LDiag, eDiag⟩), (86, .one ⟨Int, eI⟩)] [] none tl n49 [1, 2, 14, 15] [(.pe (eModule x6) 0), (.pr 1 1 0 0), (eI x7), (eI x8)] ⟨2, 0, [true, true], [none, some (1, (.arr 5 [(.agg [(eI x1), (eI x2), (eI x3), (eI x4), (eI x5)])]))]⟩ = bif ltI x8 x7 then (bnd (q.c ⟨Int, eI⟩ 86 [(eModule x6), (eI x8)]) fun r1 => bif !(eqI r1 0) then (bnd (q.c ⟨LDiag, eDiag⟩ 85 [(eI r1), (eI 1), (eI x8), (eI (-1)), (eI (-1))]) fun r2 => some (eDiag r2)) else (k49_1 tl x1 x2 x3 x4 x5 x6 x7 (IntKind.wrap .i64 (x8 + 1)))) else (bif ltI 32 ((x6.funcs.l.map eFunc).length : Int) then (bnd (q.c ⟨LDiag, eDiag⟩ 85 [(eI 11), (eI 2), (eI (-1)), (eI (-1)), (eI (-1))]) fun r3 => some (eDiag r3)) else (k49_2 tl x1 x2 x3 x4 x5 x6 ((x6.funcs.l.map eFunc).length : Int) 0)) := by
  kernel_rfl

/-- burnish/burnishref14.heads, piece 2 -/
theorem t49_2 (G : Gl) (q : Q) (tl : Tl V) (x1 : Int) (x2 : Int) (x3 : Int) (x4 : Int) (x5 : Int) (x6 : LModule) (x7 : Int) (x8 : Int) :
  pcS G q [(85, .one ⟨LDiag, eDiag⟩), (87, .one ⟨Int, eI⟩)] [] none tl n49 [1, 2, 34, 35] [(.pe (eModule x6) 0), (.pr 1 1 0 0), (eI x7), (eI x8)] ⟨2, 0, [true, true], [none, some (1, (.arr 5 [(.agg [(eI x1), (eI x2), (eI x3), (eI x4), (eI x5)])]))]⟩ = bif ltI x8 x7 then (bnd (q.c ⟨Int, eI⟩ 87 [(eModule x6), (eI x8)]) fun r1 => bif !(eqI r1 0) then (bnd (q.c ⟨LDiag, eDiag⟩ 85 [(eI r1), (eI 2), (eI x8), (eI (-1)), (eI (-1))]) fun r2 => some (eDiag r2)) else (k49_2 tl x1 x2 x3 x4 x5 x6 x7 (IntKind.wrap .i64 (x8 + 1)))) else (some (.agg [(eI 0), (eI 0), (eI 0), (eI 0), (eI 0)])) := by
  kernel_rfl

theorem ok49 : FOk 49 n49 := ⟨rfl, rfl, rfl, rfl, by kernel_rfl, by kernel_rfl, by kernel_rfl⟩

abbrev k50_1 (tl : Tl V) (x1 : Int) (x2 : Int) (x3 : Int) (x4 : Int) (x5 : Int) (x6 : Int) (x7 : LModule) (x8 : LFunc) (x9 : Int) (x10 : S LBlock) (x11 : Int) (x12 : Int) : Option V := tl [1, 2, 4, 5, 6, 22, 23, 24] [(eI x6), (.pe (eModule x7) 0), (.pr 1 1 0 0), (.pe (eFunc x8) 0), (eI x9), (S.enc eBlock x10), (eI x11), (eI x12)] ⟨2, 0, [true, true], [none, some (1, (.arr 5 [(.agg [(eI x1), (eI x2), (eI x3), (eI x4), (eI x5)])]))]⟩
abbrev k50_2 (tl : Tl V) (x1 : Int) (x2 : Int) (x3 : Int) (x4 : Int) (x5 : Int) (x6 : Int) (x7 : LModule) (x8 : LFunc) (x9 : S LBlock) (x10 : Int) (x11 : Int) : Option V := tl [1, 2, 4, 5, 51, 52, 53] [(eI x6), (.pe (eModule x7) 0), (.pr 1 1 0 0), (.pe (eFunc x8) 0), (S.enc eBlock x9), (eI x10), (eI x11)] ⟨2, 0, [true, true], [none, some (1, (.arr 5 [(.agg [(eI x1), (eI x2), (eI x3), (eI x4), (eI x5)])]))]⟩
abbrev k50_3 (tl : Tl V) (x1 : Int) (x2 : Int) (x3 : Int) (x4 : Int) (x5 : Int) (x6 : Int) (x7 : LModule) (x8 : LFunc) (x9 : Int) (x10 : LBlock) (x11 : S LBlock) (x12 : Int) (x13 : Int) (x14 : S LInstr) (x15 : Int) (x16 : Int) : Option V := tl [1, 2, 4, 5, 9, 10, 51, 52, 53, 80, 81, 82] [(eI x6), (.pe (eModule x7) 0), (.pr 1 1 0 0), (.pe (eFunc x8) 0), (eI x9), (.pe (eBlock x10) 0), (S.enc eBlock x11), (eI x12), (eI x13), (S.enc eInstr x14), (eI x15), (eI x16)] ⟨2, 0, [true, true], [none, some (1, (.arr 5 [(.agg [(eI x1), (eI x2), (eI x3), (eI x4), (eI x5)])]))]⟩

/-- burnish/burnishref14.body -/
theorem t50 (G : Gl) (q : Q) (tl : Tl V) (x1 : LModule) (x2 : Int) :
  stS G q [] [(19, (.one (ixH eFunc)))] none tl n50 [(eModule x1), (eI x2)] = bnd (q.h (ixH eFunc) (.iaddr 5 (.t 17) (.t 18)) [(S.enc eFunc x1.funcs), (eI x2)] ⟨2, 1, [true, true], [none, some (1, (.arr 5 [(.agg [(eI 0), (eI 0), (eI 0), (eI 0), (eI 0)])]))]⟩) fun n1 => k50_1 tl 0 0 0 0 0 x2 x1 n1 0 n1.blocks ((n1.blocks.l.map eBlock).length : Int) 0 := by
  kernel_rfl

/-- burnish/burnishref14.body, piece 1 -/
theorem t50_1 (G : Gl) (q : Q) (tl : Tl V) (x1 : Int) (x2 : Int) (x3 : Int) (x4 : Int) (x5 : Int) (x6 : Int) (x7 : LModule) (x8 : LFunc) (x9 : Int) (x10 : S LBlock) (x11 : Int) (x12 : Int) :
  pcS G q [(85, .one ⟨LDiag, eDiag⟩)] [(26, (.one (ixH eBlock)))] none tl n50 [1, 2, 4, 5, 6, 22, 23, 24] [(eI x6), (.pe (eModule x7) 0), (.pr 1 1 0 0), (.pe (eFunc x8) 0), (eI x9), (S.enc eBlock x10), (eI x11), (eI x12)] ⟨2, 0, [true, true], [none, some (1, (.arr 5 [(.agg [(eI x1), (eI x2), (eI x3), (eI x4), (eI x5)])]))]⟩ = bif ltI x12 x11 then (bnd (q.h (ixH eBlock) (.iaddr 7 (.t 22) (.t 24)) [(S.enc eBlock x10), (eI x12)] ⟨2, 0, [true, true], [none, some (1, (.arr 5 [(.agg [(eI x1), (eI x2), (eI x3), (eI x4), (eI x5)])]))]⟩) fun n1 => k50_1 tl x1 x2 x3 x4 x5 x6 x7 x8 (IntKind.wrap .i64 (x9 + ((n1.instrs.l.map eInstr).length : Int))) x10 x11 (IntKind.wrap .i64 (x12 + 1))) else (bif eqI ((x8.blocks.l.map eBlock).length : Int) 0 then (bnd (q.c ⟨LDiag, eDiag⟩ 85 [(eI 4), (eI 2), (eI x6), (eI (-1)), (eI (-1))]) fun r2 => some (eDiag r2)) else (bif ltI 400 ((x8.blocks.l.map eBlock).length : Int) then (bnd (q.c ⟨LDiag, eDiag⟩ 85 [(eI 11), (eI 2), (eI x6), (eI (-1)), (eI (-1))]) fun r3 => some (eDiag r3)) else (bif ltI 4000 x9 then (bnd (q.c ⟨LDiag, eDiag⟩ 85 [(eI 11), (eI 2), (eI x6), (eI (-1)), (eI (-1))]) fun r4 => some (eDiag r4)) else (k50_2 tl x1 x2 x3 x4 x5 x6 x7 x8 x8.blocks ((x8.blocks.l.map eBlock).length : Int) 0)))) := by
  kernel_rfl

/-- burnish/burnishref14.body, piece 2 -/
theorem t50_2 (G : Gl) (q : Q) (tl : Tl V) (x1 : Int) (x2 : Int) (x3 : Int) (x4 : Int) (x5 : Int) (x6 : Int) (x7 : LModule) (x8 : LFunc) (x9 : S LBlock) (x10 : Int) (x11 : Int) :
  pcS G q [(85, .one ⟨LDiag, eDiag⟩), (88, .one ⟨Int, eI⟩)] [(56, (.one (ixH eBlock)))] none tl n50 [1, 2, 4, 5, 51, 52, 53] [(eI x6), (.pe (eModule x7) 0), (.pr 1 1 0 0), (.pe (eFunc x8) 0), (S.enc eBlock x9), (eI x10), (eI x11)] ⟨2, 0, [true, true], [none, some (1, (.arr 5 [(.agg [(eI x1), (eI x2), (eI x3), (eI x4), (eI x5)])]))]⟩ = bif ltI x11 x10 then (bnd (q.h (ixH eBlock) (.iaddr 7 (.t 51) (.t 53)) [(S.enc eBlock x9), (eI x11)] ⟨2, 0, [true, true], [none, some (1, (.arr 5 [(.agg [(eI x1), (eI x2), (eI x3), (eI x4), (eI x5)])]))]⟩) fun n1 => bif eqI x11 0 then (bif ltI 0 ((n1.params.l.map eI).length : Int) then (bnd (q.c ⟨LDiag, eDiag⟩ 85 [(eI 3), (eI 2), (eI x6), (eI x11), (eI (-1))]) fun r2 => some (eDiag r2)) else (bnd (q.c ⟨Int, eI⟩ 88 [(eFunc x8), (S.enc eI n1.params)]) fun r3 => bif !(eqI r3 0) then (bnd (q.c ⟨LDiag, eDiag⟩ 85 [(eI r3), (eI 2), (eI x6), (eI x11), (eI (-1))]) fun r4 => some (eDiag r4)) else (k50_3 tl x1 x2 x3 x4 x5 x6 x7 x8 x11 n1 x9 x10 x11 n1.instrs ((n1.instrs.l.map eInstr).length : Int) 0))) else (bnd (q.c ⟨Int, eI⟩ 88 [(eFunc x8), (S.enc eI n1.params)]) fun r5 => bif !(eqI r5 0) then (bnd (q.c ⟨LDiag, eDiag⟩ 85 [(eI r5), (eI 2), (eI x6), (eI x11), (eI (-1))]) fun r6 => some (eDiag r6)) else (k50_3 tl x1 x2 x3 x4 x5 x6 x7 x8 x11 n1 x9 x10 x11 n1.instrs ((n1.instrs.l.map eInstr).length : Int) 0))) else (some (.agg [(eI 0), (eI 0), (eI 0), (eI 0), (eI 0)])) := by
  kernel_rfl

/-- burnish/burnishref14.body, piece 3 -/
theorem t50_3 (G : Gl) (q : Q) (tl : Tl V) (x1 : Int) (x2 : Int) (x3 : Int) (x4 : Int) (x5 : Int) (x6 : Int) (x7 : LModule) (x8 : LFunc) (x9 : Int) (x10 : LBlock) (x11 : S LBlock) (x12 : Int) (x13 : Int) (x14 : S LInstr) (x15 : Int) (x16 : Int) :
  pcS G q [(85, .one ⟨LDiag, eDiag⟩), (89, .one ⟨Int, eI⟩), (90, .one ⟨Int, eI⟩)] [(85, (.one (ixH eInstr)))] none tl n50 [1, 2, 4, 5, 9, 10, 51, 52, 53, 80, 81, 82] [(eI x6), (.pe (eModule x7) 0), (.pr 1 1 0 0), (.pe (eFunc x8) 0), (eI x9), (.pe (eBlock x10) 0), (S.enc eBlock x11), (eI x12), (eI x13), (S.enc eInstr x14), (eI x15), (eI x16)] ⟨2, 0, [true, true], [none, some (1, (.arr 5 [(.agg [(eI x1), (eI x2), (eI x3), (eI x4), (eI x5)])]))]⟩ = bif ltI x16 x15 then (bnd (q.h (ixH eInstr) (.iaddr 8 (.t 80) (.t 82)) [(S.enc eInstr x14), (eI x16)] ⟨2, 0, [true, true], [none, some (1, (.arr 5 [(.agg [(eI x1), (eI x2), (eI x3), (eI x4), (eI x5)])]))]⟩) fun n1 => bnd (q.c ⟨Int, eI⟩ 89 [(eInstr n1), (eFunc x8), (eModule x7)]) fun r2 => bif !(eqI r2 0) then (bnd (q.c ⟨LDiag, eDiag⟩ 85 [(eI r2), (eI 2), (eI x6), (eI x9), (eI x16)]) fun r3 => some (eDiag r3)) else (k50_3 tl x1 x2 x3 x4 x5 x6 x7 x8 x9 x10 x11 x12 x13 x14 x15 (IntKind.wrap .i64 (x16 + 1)))) else (bnd (q.c ⟨Int, eI⟩ 90 [(eModule x7), (eFunc x8), (eTerm x10.term)]) fun r4 => bif !(eqI r4 0) then (bnd (q.c ⟨LDiag, eDiag⟩ 85 [(eI r4), (eI 2), (eI x6), (eI x9), (eI ((x10.instrs.l.map eInstr).length : Int))]) fun r5 => some (eDiag r5)) else (k50_2 tl x1 x2 x3 x4 x5 x6 x7 x8 x11 x12 (IntKind.wrap .i64 (x13 + 1)))) := by
  kernel_rfl

theorem ok50 : FOk 50 n50 := ⟨rfl, rfl, rfl, rfl, by kernel_rfl, by kernel_rfl, by kernel_rfl⟩


/-- slices.Clone[[]int64,int64] -/
theorem t64 (G : Gl) (q : Q) (tl : Tl V) (x1 : S Int) :
  stS G q [] [(4, (.one (vlH V.b))), (7, (.two idH (apH 1 eI)))] (some ⟨S Int, (S.enc eI)⟩) tl n64 [(S.enc eI x1)] = bnd (q.h (vlH V.b) (.bin .eql .slc (.t 3) (.c (.slice none 0 0))) [(S.enc eI x1), (.sl true [])] .emp) fun b1 => bif b1 then (bnd (q.snp _ (⟨S Int, (S.enc eI)⟩ : En).e (.sl true []) .emp) fun a2 => some ((⟨S Int, (S.enc eI)⟩ : En).e a2)) else (bnd (q.h2 idH (apH 1 eI) (.append 1 2 1 8 false (.t 5) (.t 6)) [(.sr 0 0 0 0 true), (S.enc eI x1)] ⟨1, 0, [true], [some (0, (.arr 1 []))]⟩) fun r => match r with | .inl _ => (bnd (q.snp _ (⟨S Int, (S.enc eI)⟩ : En).e (.sr 0 0 0 0 true) ⟨1, 0, [true], [some (0, (.arr 1 []))]⟩) fun a4 => some ((⟨S Int, (S.enc eI)⟩ : En).e a4)) | .inr l3 => (bnd (q.snp _ (⟨S Int, (S.enc eI)⟩ : En).e (.sr 0 1 0 l3.length false) ⟨2, 0, [true], [some (1, (.arr 1 (l3.map eI)))]⟩) fun a5 => some ((⟨S Int, (S.enc eI)⟩ : En).e a5))) := by
  kernel_rfl

theorem ok64 : FOkC 64 n64 := ⟨rfl, rfl, rfl, by kernel_rfl, by kernel_rfl, by kernel_rfl⟩

abbrev k66_1 (tl : Tl V) (x1 : ByteArray) (x2 : S Int) (x3 : Int) (x4 : S Int) (x5 : ByteArray) (x6 : Int) (x7 : Int) (x8 : Int) : Option V := tl [1, 2, 22, 23] [(.pr 0 0 0 0), (.pr 1 1 0 0), (eI x7), (eI x8)] ⟨2, 0, [true, true], [some (0, (.arr 5 [(.agg [(.s x1), (S.enc eI x2), (eI x3), (S.enc eI x4), (.sl true [])])])), some (1, (.arr 5 [(.agg [(.s x5), (.sl true []), (eI x6), (.sl true []), (.sl true [])])]))]⟩
abbrev k66_2 (tl : Tl V) (x1 : ByteArray) (x2 : S Int) (x3 : Int) (x4 : S Int) (x5 : Nat) (x6 : Nat) (x7 : Bool) (x8 : ByteArray) (x9 : Int) (x10 : List LBlock) (x11 : Int) (x12 : Int) : Option V := tl [1, 2, 22, 23] [(.pr 0 0 0 0), (.pr 1 1 0 0), (eI x11), (eI x12)] ⟨3, 0, [false, true, true], [some (0, (.arr 5 [(.agg [(.s x1), (S.enc eI x2), (eI x3), (S.enc eI x4), (.sr 2 2 x5 x6 x7)])])), some (1, (.arr 5 [(.agg [(.s x8), (.sl true []), (eI x9), (.sl true []), (.sl true [])])])), some (2, (.arr 7 (x10.map eBlock)))]⟩
abbrev k66_3 (tl : Tl V) (x1 : Nat) (x2 : Nat) (x3 : Nat) (x4 : Nat) (x5 : Nat) (x6 : Nat) (x7 : Nat) (x8 : Nat) (x9 : Nat) (x10 : Nat) (x11 : Nat) (x12 : Nat) (x13 : Int) (x14 : Int) (x15 : Int) (x16 : Int) (x17 : List Bool) (x18 : Obs) : Option V := tl [1, 2, 4, 22, 23, 50, 51] [(.pr x1 x2 x3 x4), (.pr x5 x6 x7 x8), (.pr x9 x10 x11 x12), (eI x13), (eI x14), (eI x15), (eI x16)] ⟨4, 0, x17, x18⟩
abbrev k66_4 (tl : Tl V) (x1 : Nat) (x2 : Nat) (x3 : Nat) (x4 : Nat) (x5 : Nat) (x6 : Nat) (x7 : Nat) (x8 : Nat) (x9 : Nat) (x10 : Nat) (x11 : Nat) (x12 : Nat) (x13 : Int) (x14 : Int) (x15 : Int) (x16 : Int) (x17 : List Bool) (x18 : Obs) : Option V := tl [1, 2, 6, 22, 23, 102, 103] [(.pr x1 x2 x3 x4), (.pr x5 x6 x7 x8), (.pr x9 x10 x11 x12), (eI x13), (eI x14), (eI x15), (eI x16)] ⟨4, 0, x17, x18⟩

/-- burnish/verify.CloneFunc -/
theorem t66 (G : Gl) (q : Q) (tl : Tl V) (x1 : LFunc) :
  stS G q [(72, .one ⟨S Int, (S.enc eI)⟩), (107, .one ⟨S Int, (S.enc eI)⟩), (108, (.L2 L108v0r0 L108v0r1))] [] (some ⟨LFunc, eFunc⟩) tl n66 [(eFunc x1)] = bnd (q.c ⟨S Int, (S.enc eI)⟩ 72 [(S.enc eI x1.params)]) fun r1 => bnd (q.c ⟨S Int, (S.enc eI)⟩ 107 [(S.enc eI x1.regs)]) fun r2 => bnd (q.l2 L108v0r0 L108v0r1 108 [(S.enc eBlock x1.blocks)] .emp) fun r => match r with | .inl r3 => (k66_1 tl x1.name r1 x1.result r2 (⟨#[]⟩) 0 0 0) | .inr r4 => (k66_2 tl x1.name r1 x1.result r2 0 r4.1.length r4.2 (⟨#[]⟩) 0 r4.1 ((r4.1.length : Nat) : Int) 0) := by
  kernel_rfl

/-- burnish/verify.CloneFunc, piece 1 -/
theorem t66_1 (G : Gl) (q : Q) (tl : Tl V) (x1 : ByteArray) (x2 : S Int) (x3 : Int) (x4 : S Int) (x5 : ByteArray) (x6 : Int) (x7 : Int) (x8 : Int) :
  pcS G q [] [(29, .dead)] (some ⟨LFunc, eFunc⟩) tl n66 [1, 2, 22, 23] [(.pr 0 0 0 0), (.pr 1 1 0 0), (eI x7), (eI x8)] ⟨2, 0, [true, true], [some (0, (.arr 5 [(.agg [(.s x1), (S.enc eI x2), (eI x3), (S.enc eI x4), (.sl true [])])])), some (1, (.arr 5 [(.agg [(.s x5), (.sl true []), (eI x6), (.sl true []), (.sl true [])])]))]⟩ = bif ltI x8 x7 then (none) else (bnd (q.snp _ (⟨LFunc, eFunc⟩ : En).e (.agg [(.s x1), (S.enc eI x2), (eI x3), (S.enc eI x4), (.sl true [])]) ⟨3, 0, [true, true], [some (0, (.arr 5 [(.agg [(.s x1), (S.enc eI x2), (eI x3), (S.enc eI x4), (.sl true [])])])), some (1, (.arr 5 [(.agg [(.s x1), (S.enc eI x2), (eI x3), (S.enc eI x4), (.sl true [])])]))]⟩) fun a1 => some ((⟨LFunc, eFunc⟩ : En).e a1)) := by
  kernel_rfl

/-- burnish/verify.CloneFunc, piece 2 -/
theorem t66_2 (G : Gl) (q : Q) (tl : Tl V) (x1 : ByteArray) (x2 : S Int) (x3 : Int) (x4 : S Int) (x5 : Nat) (x6 : Nat) (x7 : Bool) (x8 : ByteArray) (x9 : Int) (x10 : List LBlock) (x11 : Int) (x12 : Int) :
  pcS G q [(72, .one ⟨S Int, (S.enc eI)⟩), (109, (.L2 L109v0r0 L109v0r1))] [(29, (.one (riH))), (35, (.one (vlH (S.enc eI)))), (40, (.one (vlH (S.enc eInstr)))), (49, (.two srH n0H)), (100043, (.one (hpH))), (100045, (.one (hpH)))] (some ⟨LFunc, eFunc⟩) tl n66 [1, 2, 22, 23] [(.pr 0 0 0 0), (.pr 1 1 0 0), (eI x11), (eI x12)] ⟨3, 0, [false, true, true], [some (0, (.arr 5 [(.agg [(.s x1), (S.enc eI x2), (eI x3), (S.enc eI x4), (.sr 2 2 x5 x6 x7)])])), some (1, (.arr 5 [(.agg [(.s x8), (.sl true []), (eI x9), (.sl true []), (.sl true [])])])), some (2, (.arr 7 (x10.map eBlock)))]⟩ = bif ltI x12 x11 then (bnd (q.h (riH) (.iaddr 7 (.t 27) (.t 28)) [(.sr 2 2 x5 x6 x7), (eI x12)] ⟨3, 0, [false, true, true], [some (0, (.arr 5 [(.agg [(.s x1), (S.enc eI x2), (eI x3), (S.enc eI x4), (.sr 2 2 x5 x6 x7)])])), some (1, (.arr 5 [(.agg [(.s x8), (.sl true []), (eI x9), (.sl true []), (.sl true [])])])), some (2, (.arr 7 (x10.map eBlock)))]⟩) fun k1 => bnd (q.h (vlH (S.enc eI)) (.load false 1 (.t 34)) [(.pr 2 2 k1 0)] ⟨3, 0, [false, true, true], [some (0, (.arr 5 [(.agg [(.s x1), (S.enc eI x2), (eI x3), (S.enc eI x4), (.sr 2 2 x5 x6 x7)])])), some (1, (.arr 5 [(.agg [(.s x8), (.sl true []), (eI x9), (.sl true []), (.sl true [])])])), some (2, (.arr 7 (x10.map eBlock)))]⟩) fun n2 => bnd (q.c ⟨S Int, (S.enc eI)⟩ 72 [(S.enc eI n2)]) fun r3 => bnd (q.h (vlH (S.enc eInstr)) (.load false 1 (.t 39)) [(.pr 2 2 k1 1)] ⟨3, 1, [false, true, true], [some (0, (.arr 5 [(.agg [(.s x1), (S.enc eI x2), (eI x3), (S.enc eI x4), (.sr 2 2 x5 x6 x7)])])), some (1, (.arr 5 [(.agg [(.s x8), (.sl true []), (eI x9), (.sl true []), (.sl true [])])])), some (2, (.arr 7 (x10.map eBlock)))]⟩) fun n4 => bnd (q.l2 L109v0r0 L109v0r1 109 [(S.enc eInstr n4)] .emp) fun r => match r with | .inl r5 => (bnd (q.h (hpH) (.store 1 (.t 43) (.t 36)) [(.pr 2 2 k1 0), (S.enc eI r3)] ⟨4, 2, [false, true, true], [some (0, (.arr 5 [(.agg [(.s x1), (S.enc eI x2), (eI x3), (S.enc eI x4), (.sr 2 2 x5 x6 x7)])])), some (1, (.arr 5 [(.agg [(.s x8), (.sl true []), (eI x9), (.sl true []), (.sl true [])])])), some (2, (.arr 7 (x10.map eBlock)))]⟩) fun X7 => bnd (q.h (hpH) (.store 1 (.t 45) (.t 41)) [(.pr 2 2 k1 1), (.sl true [])] X7) fun X8 => bnd (q.h2 srH n0H (.load false 1 (.t 48)) [(.pr 2 2 k1 1)] X8) fun r => match r with | .inl p9 => (tl [1, 2, 4, 22, 23, 50, 51] (anew (some 0) [(.pr 0 0 0 0), (.pr 1 1 0 0), (.pr 2 2 k1 0), (eI x11), (eI x12), (eI ((p9.2.2.2.1 : Nat) : Int)), (eI 0)] X8).1 (anew (some 0) [(.pr 0 0 0 0), (.pr 1 1 0 0), (.pr 2 2 k1 0), (eI x11), (eI x12), (eI ((p9.2.2.2.1 : Nat) : Int)), (eI 0)] X8).2) | .inr b10 => (tl [1, 2, 4, 22, 23, 50, 51] (anew (some 0) [(.pr 0 0 0 0), (.pr 1 1 0 0), (.pr 2 2 k1 0), (eI x11), (eI x12), (eI 0), (eI 0)] X8).1 (anew (some 0) [(.pr 0 0 0 0), (.pr 1 1 0 0), (.pr 2 2 k1 0), (eI x11), (eI x12), (eI 0), (eI 0)] X8).2)) | .inr r6 => (bnd (q.h (hpH) (.store 1 (.t 43) (.t 36)) [(.pr 2 2 k1 0), (S.enc eI r3)] ⟨5, 2, [false, true, true, true], [some (0, (.arr 5 [(.agg [(.s x1), (S.enc eI x2), (eI x3), (S.enc eI x4), (.sr 2 2 x5 x6 x7)])])), some (1, (.arr 5 [(.agg [(.s x8), (.sl true []), (eI x9), (.sl true []), (.sl true [])])])), some (2, (.arr 7 (x10.map eBlock))), some (4, (.arr 8 (r6.1.map eInstr)))]⟩) fun X11 => bnd (q.h (hpH) (.store 1 (.t 45) (.t 41)) [(.pr 2 2 k1 1), (.sr 3 4 0 r6.1.length r6.2)] X11) fun X12 => bnd (q.h2 srH n0H (.load false 1 (.t 48)) [(.pr 2 2 k1 1)] X12) fun r => match r with | .inl p13 => (tl [1, 2, 4, 22, 23, 50, 51] (anew (some 0) [(.pr 0 0 0 0), (.pr 1 1 0 0), (.pr 2 2 k1 0), (eI x11), (eI x12), (eI ((p13.2.2.2.1 : Nat) : Int)), (eI 0)] X12).1 (anew (some 0) [(.pr 0 0 0 0), (.pr 1 1 0 0), (.pr 2 2 k1 0), (eI x11), (eI x12), (eI ((p13.2.2.2.1 : Nat) : Int)), (eI 0)] X12).2) | .inr b14 => (tl [1, 2, 4, 22, 23, 50, 51] (anew (some 0) [(.pr 0 0 0 0), (.pr 1 1 0 0), (.pr 2 2 k1 0), (eI x11), (eI x12), (eI 0), (eI 0)] X12).1 (anew (some 0) [(.pr 0 0 0 0), (.pr 1 1 0 0), (.pr 2 2 k1 0), (eI x11), (eI x12), (eI 0), (eI 0)] X12).2))) else (bnd (q.snp _ (⟨LFunc, eFunc⟩ : En).e (.agg [(.s x1), (S.enc eI x2), (eI x3), (S.enc eI x4), (.sr 2 2 x5 x6 x7)]) ⟨4, 0, [false, false, true], [some (0, (.arr 5 [(.agg [(.s x1), (S.enc eI x2), (eI x3), (S.enc eI x4), (.sr 2 2 x5 x6 x7)])])), some (1, (.arr 5 [(.agg [(.s x1), (S.enc eI x2), (eI x3), (S.enc eI x4), (.sr 2 2 x5 x6 x7)])])), some (2, (.arr 7 (x10.map eBlock)))]⟩) fun a15 => some ((⟨LFunc, eFunc⟩ : En).e a15)) := by
  kernel_rfl

/-- burnish/verify.CloneFunc, piece 3 -/
theorem t66_3 (G : Gl) (q : Q) (tl : Tl V) (x1 : Nat) (x2 : Nat) (x3 : Nat) (x4 : Nat) (x5 : Nat) (x6 : Nat) (x7 : Nat) (x8 : Nat) (x9 : Nat) (x10 : Nat) (x11 : Nat) (x12 : Nat) (x13 : Int) (x14 : Int) (x15 : Int) (x16 : Int) (x17 : List Bool) (x18 : Obs) :
  pcS G q [(64, .one ⟨S Int, (S.enc eI)⟩), (72, .one ⟨S Int, (S.enc eI)⟩), (110, (.L2 L110v0r0 L110v0r1))] [(57, (.one (srH))), (62, (.one (srH))), (64, (.one (prH))), (66, (.one (vlH (fun r : Bool × List V => .sl r.1 r.2)))), (68, (.one (prH))), (80, (.one (vlH (fun r : Bool × List V => .sl r.1 r.2)))), (85, (.one (vlH (fun r : Bool × List V => .sl r.1 r.2)))), (90, (.one (vlH (fun r : Bool × List V => .sl r.1 r.2)))), (101, (.two srH n0H)), (100069, (.one (hpH))), (100093, (.one (hpH))), (100095, (.one (hpH))), (100097, (.one (hpH)))] (some ⟨LFunc, eFunc⟩) tl n66 [1, 2, 4, 22, 23, 50, 51] [(.pr x1 x2 x3 x4), (.pr x5 x6 x7 x8), (.pr x9 x10 x11 x12), (eI x13), (eI x14), (eI x15), (eI x16)] ⟨4, 0, x17, x18⟩ = bif ltI x16 x15 then (bnd (q.h (srH) (.load false 1 (.t 61)) [(.pr x9 x10 x11 (x12 + 1))] ⟨4, 0, x17, x18⟩) fun p1 => bnd (q.h (prH) (.iaddr 8 (.t 62) (.t 63)) [(.sr p1.1 p1.2.1 p1.2.2.1 p1.2.2.2.1 p1.2.2.2.2), (eI x16)] ⟨4, 0, x17, x18⟩) fun k2 => bnd (q.h (vlH (fun r : Bool × List V => .sl r.1 r.2)) (.load false 1 (.t 65)) [(.pr k2.1 k2.2.1 k2.2.2 3)] ⟨4, 0, x17, x18⟩) fun s3 => bnd (q.c ⟨S Int, (S.enc eI)⟩ 72 [(.sl s3.1 s3.2)]) fun r4 => bnd (q.h (srH) (.load false 1 (.t 56)) [(.pr x9 x10 x11 (x12 + 1))] (Hp.frz ⟨4, 0, x17, x18⟩ [])) fun p5 => bnd (q.h (prH) (.iaddr 8 (.t 57) (.t 58)) [(.sr p5.1 p5.2.1 p5.2.2.1 p5.2.2.2.1 p5.2.2.2.2), (eI x16)] (Hp.frz ⟨4, 0, x17, x18⟩ [])) fun k6 => bnd (q.h (hpH) (.store 1 (.t 69) (.t 67)) [(.pr k6.1 k6.2.1 k6.2.2 3), (S.enc eI r4)] (Hp.frz ⟨4, 0, x17, x18⟩ [])) fun X7 => tl [1, 2, 4, 22, 23, 50, 51] (anew (some 0) [(.pr x1 x2 x3 x4), (.pr x5 x6 x7 x8), (.pr x9 x10 x11 x12), (eI x13), (eI x14), (eI x15), (eI (IntKind.wrap .i64 (x16 + 1)))] X7).1 (anew (some 0) [(.pr x1 x2 x3 x4), (.pr x5 x6 x7 x8), (.pr x9 x10 x11 x12), (eI x13), (eI x14), (eI x15), (eI (IntKind.wrap .i64 (x16 + 1)))] X7).2) else (bnd (Hp.fin (⟨4, 0, x17, x18⟩) x9 x10 x11) fun X8 => bnd (q.h (vlH (fun r : Bool × List V => .sl r.1 r.2)) (.load false 1 (.t 79)) [(.pr x9 x10 x11 ((x12 + 2) + 1))] (finH (⟨4, 0, x17, x18⟩) X8)) fun s9 => bnd (q.c ⟨S Int, (S.enc eI)⟩ 72 [(.sl s9.1 s9.2)]) fun r10 => bnd (q.h (vlH (fun r : Bool × List V => .sl r.1 r.2)) (.load false 1 (.t 84)) [(.pr x9 x10 x11 ((x12 + 2) + 2))] (Hp.frz (finH (⟨4, 0, x17, x18⟩) X8) [])) fun s11 => bnd (q.c ⟨S Int, (S.enc eI)⟩ 64 [(.sl s11.1 s11.2)]) fun r12 => bnd (q.h (vlH (fun r : Bool × List V => .sl r.1 r.2)) (.load false 1 (.t 89)) [(.pr x9 x10 x11 ((x12 + 2) + 3))] (Hp.frz (Hp.frz (finH (⟨4, 0, x17, x18⟩) X8) []) [])) fun s13 => bnd (q.l2 L110v0r0 L110v0r1 110 [(.sl s13.1 s13.2)] .emp) fun r => match r with | .inl r14 => (bnd (q.h (hpH) (.store 1 (.t 93) (.t 81)) [(.pr x9 x10 x11 ((x12 + 2) + 1)), (S.enc eI r10)] (Hp.merge (Hp.frz (Hp.frz (finH (⟨4, 0, x17, x18⟩) X8) []) []) [] .emp)) fun X16 => bnd (q.h (hpH) (.store 1 (.t 95) (.t 86)) [(.pr x9 x10 x11 ((x12 + 2) + 2)), (S.enc eI r12)] X16) fun X17 => bnd (q.h (hpH) (.store 1 (.t 97) (.t 91)) [(.pr x9 x10 x11 ((x12 + 2) + 3)), (.sl true [])] X17) fun X18 => bnd (q.h2 srH n0H (.load false 1 (.t 100)) [(.pr x9 x10 x11 ((x12 + 2) + 3))] X18) fun r => match r with | .inl p19 => (tl [1, 2, 6, 22, 23, 102, 103] (anew (some 0) [(.pr x1 x2 x3 x4), (.pr x5 x6 x7 x8), (.pr x9 x10 x11 (x12 + 2)), (eI x13), (eI x14), (eI ((p19.2.2.2.1 : Nat) : Int)), (eI 0)] X18).1 (anew (some 0) [(.pr x1 x2 x3 x4), (.pr x5 x6 x7 x8), (.pr x9 x10 x11 (x12 + 2)), (eI x13), (eI x14), (eI ((p19.2.2.2.1 : Nat) : Int)), (eI 0)] X18).2) | .inr b20 => (tl [1, 2, 6, 22, 23, 102, 103] (anew (some 0) [(.pr x1 x2 x3 x4), (.pr x5 x6 x7 x8), (.pr x9 x10 x11 (x12 + 2)), (eI x13), (eI x14), (eI 0), (eI 0)] X18).1 (anew (some 0) [(.pr x1 x2 x3 x4), (.pr x5 x6 x7 x8), (.pr x9 x10 x11 (x12 + 2)), (eI x13), (eI x14), (eI 0), (eI 0)] X18).2)) | .inr r15 => (bnd (q.h (hpH) (.store 1 (.t 93) (.t 81)) [(.pr x9 x10 x11 ((x12 + 2) + 1)), (S.enc eI r10)] (Hp.merge (Hp.frz (Hp.frz (finH (⟨4, 0, x17, x18⟩) X8) []) []) [] ⟨1, 0, [true], [some (0, (.arr 2 (r15.1.map eEdge)))]⟩)) fun X21 => bnd (q.h (hpH) (.store 1 (.t 95) (.t 86)) [(.pr x9 x10 x11 ((x12 + 2) + 2)), (S.enc eI r12)] X21) fun X22 => bnd (q.h (hpH) (.store 1 (.t 97) (.t 91)) [(.pr x9 x10 x11 ((x12 + 2) + 3)), (ren (bckρ (Hp.frz (Hp.frz (finH (⟨4, 0, x17, x18⟩) X8) []) []) [] (⟨1, 0, [true], [some (0, (.arr 2 (r15.1.map eEdge)))]⟩)) (.sr 0 0 0 r15.1.length r15.2))] X22) fun X23 => bnd (q.h2 srH n0H (.load false 1 (.t 100)) [(.pr x9 x10 x11 ((x12 + 2) + 3))] X23) fun r => match r with | .inl p24 => (tl [1, 2, 6, 22, 23, 102, 103] (anew (some 0) [(.pr x1 x2 x3 x4), (.pr x5 x6 x7 x8), (.pr x9 x10 x11 (x12 + 2)), (eI x13), (eI x14), (eI ((p24.2.2.2.1 : Nat) : Int)), (eI 0)] X23).1 (anew (some 0) [(.pr x1 x2 x3 x4), (.pr x5 x6 x7 x8), (.pr x9 x10 x11 (x12 + 2)), (eI x13), (eI x14), (eI ((p24.2.2.2.1 : Nat) : Int)), (eI 0)] X23).2) | .inr b25 => (tl [1, 2, 6, 22, 23, 102, 103] (anew (some 0) [(.pr x1 x2 x3 x4), (.pr x5 x6 x7 x8), (.pr x9 x10 x11 (x12 + 2)), (eI x13), (eI x14), (eI 0), (eI 0)] X23).1 (anew (some 0) [(.pr x1 x2 x3 x4), (.pr x5 x6 x7 x8), (.pr x9 x10 x11 (x12 + 2)), (eI x13), (eI x14), (eI 0), (eI 0)] X23).2))) := by
  kernel_rfl

/-- burnish/verify.CloneFunc, piece 4 -/
theorem t66_4 (G : Gl) (q : Q) (tl : Tl V) (x1 : Nat) (x2 : Nat) (x3 : Nat) (x4 : Nat) (x5 : Nat) (x6 : Nat) (x7 : Nat) (x8 : Nat) (x9 : Nat) (x10 : Nat) (x11 : Nat) (x12 : Nat) (x13 : Int) (x14 : Int) (x15 : Int) (x16 : Int) (x17 : List Bool) (x18 : Obs) :
  pcS G q [(72, .one ⟨S Int, (S.enc eI)⟩)] [(109, (.one (srH))), (114, (.one (srH))), (116, (.one (prH))), (118, (.one (vlH (fun r : Bool × List V => .sl r.1 r.2)))), (120, (.one (prH))), (100121, (.one (hpH)))] (some ⟨LFunc, eFunc⟩) tl n66 [1, 2, 6, 22, 23, 102, 103] [(.pr x1 x2 x3 x4), (.pr x5 x6 x7 x8), (.pr x9 x10 x11 x12), (eI x13), (eI x14), (eI x15), (eI x16)] ⟨4, 0, x17, x18⟩ = bif ltI x16 x15 then (bnd (q.h (srH) (.load false 1 (.t 113)) [(.pr x9 x10 x11 (x12 + 3))] ⟨4, 0, x17, x18⟩) fun p1 => bnd (q.h (prH) (.iaddr 2 (.t 114) (.t 115)) [(.sr p1.1 p1.2.1 p1.2.2.1 p1.2.2.2.1 p1.2.2.2.2), (eI x16)] ⟨4, 0, x17, x18⟩) fun k2 => bnd (q.h (vlH (fun r : Bool × List V => .sl r.1 r.2)) (.load false 1 (.t 117)) [(.pr k2.1 k2.2.1 k2.2.2 1)] ⟨4, 0, x17, x18⟩) fun s3 => bnd (q.c ⟨S Int, (S.enc eI)⟩ 72 [(.sl s3.1 s3.2)]) fun r4 => bnd (q.h (srH) (.load false 1 (.t 108)) [(.pr x9 x10 x11 (x12 + 3))] (Hp.frz ⟨4, 0, x17, x18⟩ [])) fun p5 => bnd (q.h (prH) (.iaddr 2 (.t 109) (.t 110)) [(.sr p5.1 p5.2.1 p5.2.2.1 p5.2.2.2.1 p5.2.2.2.2), (eI x16)] (Hp.frz ⟨4, 0, x17, x18⟩ [])) fun k6 => bnd (q.h (hpH) (.store 1 (.t 121) (.t 119)) [(.pr k6.1 k6.2.1 k6.2.2 1), (S.enc eI r4)] (Hp.frz ⟨4, 0, x17, x18⟩ [])) fun X7 => tl [1, 2, 6, 22, 23, 102, 103] (anew (some 0) [(.pr x1 x2 x3 x4), (.pr x5 x6 x7 x8), (.pr x9 x10 x11 x12), (eI x13), (eI x14), (eI x15), (eI (IntKind.wrap .i64 (x16 + 1)))] X7).1 (anew (some 0) [(.pr x1 x2 x3 x4), (.pr x5 x6 x7 x8), (.pr x9 x10 x11 x12), (eI x13), (eI x14), (eI x15), (eI (IntKind.wrap .i64 (x16 + 1)))] X7).2) else (bnd (Hp.fin (⟨4, 0, x17, x18⟩) x9 x10 x11) fun X8 => tl [1, 2, 22, 23] (anew (some 0) [(.pr x1 x2 x3 x4), (.pr x5 x6 x7 x8), (eI x13), (eI (IntKind.wrap .i64 (x14 + 1)))] (finH (⟨4, 0, x17, x18⟩) X8)).1 (anew (some 0) [(.pr x1 x2 x3 x4), (.pr x5 x6 x7 x8), (eI x13), (eI (IntKind.wrap .i64 (x14 + 1)))] (finH (⟨4, 0, x17, x18⟩) X8)).2) := by
  kernel_rfl

theorem ok66 : FOk 66 n66 := ⟨rfl, rfl, rfl, rfl, by kernel_rfl, by kernel_rfl, by kernel_rfl⟩


/-- slices.Clone[[]int,int] -/
theorem t72 (G : Gl) (q : Q) (tl : Tl V) (x1 : S Int) :
  stS G q [] [(4, (.one (vlH V.b))), (7, (.two idH (apH 1 eI)))] (some ⟨S Int, (S.enc eI)⟩) tl n72 [(S.enc eI x1)] = bnd (q.h (vlH V.b) (.bin .eql .slc (.t 3) (.c (.slice none 0 0))) [(S.enc eI x1), (.sl true [])] .emp) fun b1 => bif b1 then (bnd (q.snp _ (⟨S Int, (S.enc eI)⟩ : En).e (.sl true []) .emp) fun a2 => some ((⟨S Int, (S.enc eI)⟩ : En).e a2)) else (bnd (q.h2 idH (apH 1 eI) (.append 1 3 1 8 false (.t 5) (.t 6)) [(.sr 0 0 0 0 true), (S.enc eI x1)] ⟨1, 0, [true], [some (0, (.arr 1 []))]⟩) fun r => match r with | .inl _ => (bnd (q.snp _ (⟨S Int, (S.enc eI)⟩ : En).e (.sr 0 0 0 0 true) ⟨1, 0, [true], [some (0, (.arr 1 []))]⟩) fun a4 => some ((⟨S Int, (S.enc eI)⟩ : En).e a4)) | .inr l3 => (bnd (q.snp _ (⟨S Int, (S.enc eI)⟩ : En).e (.sr 0 1 0 l3.length false) ⟨2, 0, [true], [some (1, (.arr 1 (l3.map eI)))]⟩) fun a5 => some ((⟨S Int, (S.enc eI)⟩ : En).e a5))) := by
  kernel_rfl

theorem ok72 : FOkC 72 n72 := ⟨rfl, rfl, rfl, by kernel_rfl, by kernel_rfl, by kernel_rfl⟩


/-- burnish/burnishref14.diag -/
theorem t85 (G : Gl) (q : Q) (tl : Tl V) (x1 : Int) (x2 : Int) (x3 : Int) (x4 : Int) (x5 : Int) :
  stS G q [] [] none tl n85 [(eI x1), (eI x2), (eI x3), (eI x4), (eI x5)] = some (.agg [(eI x1), (eI x2), (eI x3), (eI x4), (eI x5)]) := by
  kernel_rfl

theorem ok85 : FOk 85 n85 := ⟨rfl, rfl, rfl, rfl, by kernel_rfl, by kernel_rfl, by kernel_rfl⟩

abbrev k86_1 (tl : Tl V) (x1 : Int) (x2 : LGlobal) (x3 : S LGlobal) (x4 : Int) (x5 : Int) : Option V := tl [4, 5, 22, 23, 24] [(eI x1), (.pe (eGlobal x2) 0), (S.enc eGlobal x3), (eI x4), (eI x5)] .emp
abbrev k86_2 (tl : Tl V) (x1 : Int) (x2 : LGlobal) (x3 : S Int) (x4 : Int) (x5 : Int) : Option V := tl [4, 5, 62, 63, 64] [(eI x1), (.pe (eGlobal x2) 0), (S.enc eI x3), (eI x4), (eI x5)] .emp

/-- burnish/burnishref14.global -/
theorem t86 (G : Gl) (q : Q) (tl : Tl V) (x1 : LModule) (x2 : Int) :
  stS G q [(121, .one ⟨Bool, V.b⟩)] [(13, (.one (ixH eGlobal))), (22, (.one (vlH (S.enc eGlobal))))] none tl n86 [(eModule x1), (eI x2)] = bnd (q.h (ixH eGlobal) (.iaddr 5 (.t 11) (.t 12)) [(S.enc eGlobal x1.globals), (eI x2)] ⟨1, 1, [true], []⟩) fun n1 => bnd (q.c ⟨Bool, V.b⟩ 121 [(.s n1.name)]) fun r2 => bif r2 then (bnd (q.h (vlH (S.enc eGlobal)) (.slice 5 (.t 20) none (some (.t 21)) none) [(S.enc eGlobal x1.globals), (eI x2)] ⟨3, 2, [true], []⟩) fun s3 => k86_1 tl 0 n1 s3 ((s3.l.map eGlobal).length : Int) 0) else (some (eI 6)) := by
  kernel_rfl

/-- burnish/burnishref14.global, piece 1 -/
theorem t86_1 (G : Gl) (q : Q) (tl : Tl V) (x1 : Int) (x2 : LGlobal) (x3 : S LGlobal) (x4 : Int) (x5 : Int) :
  pcS G q [(122, .one ⟨Bool, V.b⟩)] [(26, (.one (ixH eGlobal)))] none tl n86 [4, 5, 22, 23, 24] [(eI x1), (.pe (eGlobal x2) 0), (S.enc eGlobal x3), (eI x4), (eI x5)] .emp = bif ltI x5 x4 then (bnd (q.h (ixH eGlobal) (.iaddr 5 (.t 22) (.t 24)) [(S.enc eGlobal x3), (eI x5)] .emp) fun n1 => bif strEq n1.name x2.name then (some (eI 7)) else (k86_1 tl x1 x2 x3 x4 (IntKind.wrap .i64 (x5 + 1)))) else (bnd (q.c ⟨Bool, V.b⟩ 122 [(eI x2.elem)]) fun r2 => bif r2 then (bif ltI x2.len 1 then (some (eI 10)) else (bif ltI 256 x2.len then (some (eI 10)) else (bif ltI x2.len ((x2.init.l.map eI).length : Int) then (some (eI 5)) else (bif eqI x2.elem 5 then (bif ltI 0 ((x2.init.l.map eI).length : Int) then (some (eI 9)) else (k86_2 tl x1 x2 x2.init ((x2.init.l.map eI).length : Int) 0)) else (k86_2 tl x1 x2 x2.init ((x2.init.l.map eI).length : Int) 0))))) else (some (eI 9))) := by
  kernel_rfl

/-- burnish/burnishref14.global, piece 2 -/
theorem t86_2 (G : Gl) (q : Q) (tl : Tl V) (x1 : Int) (x2 : LGlobal) (x3 : S Int) (x4 : Int) (x5 : Int) :
  pcS G q [(123, .one ⟨Bool, V.b⟩)] [(66, (.one (ixH eI)))] none tl n86 [4, 5, 62, 63, 64] [(eI x1), (.pe (eGlobal x2) 0), (S.enc eI x3), (eI x4), (eI x5)] .emp = bif ltI x5 x4 then (bnd (q.h (ixH eI) (.iaddr 1 (.t 62) (.t 64)) [(S.enc eI x3), (eI x5)] .emp) fun n1 => bnd (q.c ⟨Bool, V.b⟩ 123 [(eI x2.elem), (eI n1)]) fun r2 => bif r2 then (k86_2 tl x1 x2 x3 x4 (IntKind.wrap .i64 (x5 + 1))) else (some (eI 10))) else (some (eI 0)) := by
  kernel_rfl

theorem ok86 : FOk 86 n86 := ⟨rfl, rfl, rfl, rfl, by kernel_rfl, by kernel_rfl, by kernel_rfl⟩

abbrev k87_1 (tl : Tl V) (x1 : Int) (x2 : LFunc) (x3 : S LFunc) (x4 : Int) (x5 : Int) : Option V := tl [4, 5, 22, 23, 24] [(eI x1), (.pe (eFunc x2) 0), (S.enc eFunc x3), (eI x4), (eI x5)] .emp
abbrev k87_2 (tl : Tl V) (x1 : Int) (x2 : LFunc) (x3 : S Int) (x4 : Int) (x5 : Int) : Option V := tl [4, 5, 54, 55, 56] [(eI x1), (.pe (eFunc x2) 0), (S.enc eI x3), (eI x4), (eI x5)] .emp

/-- burnish/burnishref14.signature -/
theorem t87 (G : Gl) (q : Q) (tl : Tl V) (x1 : LModule) (x2 : Int) :
  stS G q [(121, .one ⟨Bool, V.b⟩)] [(13, (.one (ixH eFunc))), (22, (.one (vlH (S.enc eFunc))))] none tl n87 [(eModule x1), (eI x2)] = bnd (q.h (ixH eFunc) (.iaddr 5 (.t 11) (.t 12)) [(S.enc eFunc x1.funcs), (eI x2)] ⟨1, 1, [true], []⟩) fun n1 => bnd (q.c ⟨Bool, V.b⟩ 121 [(.s n1.name)]) fun r2 => bif r2 then (bnd (q.h (vlH (S.enc eFunc)) (.slice 5 (.t 20) none (some (.t 21)) none) [(S.enc eFunc x1.funcs), (eI x2)] ⟨3, 2, [true], []⟩) fun s3 => k87_1 tl 0 n1 s3 ((s3.l.map eFunc).length : Int) 0) else (some (eI 6)) := by
  kernel_rfl

/-- burnish/burnishref14.signature, piece 1 -/
theorem t87_1 (G : Gl) (q : Q) (tl : Tl V) (x1 : Int) (x2 : LFunc) (x3 : S LFunc) (x4 : Int) (x5 : Int) :
  pcS G q [(124, .one ⟨Bool, V.b⟩)] [(26, (.one (ixH eFunc)))] none tl n87 [4, 5, 22, 23, 24] [(eI x1), (.pe (eFunc x2) 0), (S.enc eFunc x3), (eI x4), (eI x5)] .emp = bif ltI x5 x4 then (bnd (q.h (ixH eFunc) (.iaddr 5 (.t 22) (.t 24)) [(S.enc eFunc x3), (eI x5)] .emp) fun n1 => bif strEq n1.name x2.name then (some (eI 7)) else (k87_1 tl x1 x2 x3 x4 (IntKind.wrap .i64 (x5 + 1)))) else (bif !(eqI x2.result 0) then (bnd (q.c ⟨Bool, V.b⟩ 124 [(eI x2.result)]) fun r2 => bif r2 then (bif ltI 6 ((x2.params.l.map eI).length : Int) then (some (eI 11)) else (bif ltI 4000 ((x2.regs.l.map eI).length : Int) then (some (eI 11)) else (k87_2 tl x1 x2 x2.regs ((x2.regs.l.map eI).length : Int) 0))) else (some (eI 9))) else (bif ltI 6 ((x2.params.l.map eI).length : Int) then (some (eI 11)) else (bif ltI 4000 ((x2.regs.l.map eI).length : Int) then (some (eI 11)) else (k87_2 tl x1 x2 x2.regs ((x2.regs.l.map eI).length : Int) 0)))) := by
  kernel_rfl

/-- burnish/burnishref14.signature, piece 2 -/
theorem t87_2 (G : Gl) (q : Q) (tl : Tl V) (x1 : Int) (x2 : LFunc) (x3 : S Int) (x4 : Int) (x5 : Int) :
  pcS G q [(88, .one ⟨Int, eI⟩), (124, .one ⟨Bool, V.b⟩)] [(58, (.one (ixH eI)))] none tl n87 [4, 5, 54, 55, 56] [(eI x1), (.pe (eFunc x2) 0), (S.enc eI x3), (eI x4), (eI x5)] .emp = bif ltI x5 x4 then (bnd (q.h (ixH eI) (.iaddr 1 (.t 54) (.t 56)) [(S.enc eI x3), (eI x5)] .emp) fun n1 => bnd (q.c ⟨Bool, V.b⟩ 124 [(eI n1)]) fun r2 => bif r2 then (k87_2 tl x1 x2 x3 x4 (IntKind.wrap .i64 (x5 + 1))) else (some (eI 9))) else (bnd (q.c ⟨Int, eI⟩ 88 [(eFunc x2), (S.enc eI x2.params)]) fun r3 => some (eI r3)) := by
  kernel_rfl

theorem ok87 : FOk 87 n87 := ⟨rfl, rfl, rfl, rfl, by kernel_rfl, by kernel_rfl, by kernel_rfl⟩

abbrev k88_1 (tl : Tl V) (x1 : S Int) (x2 : LFunc) (x3 : Int) (x4 : S Int) (x5 : Int) (x6 : Int) : Option V := tl [1, 2, 4, 7, 8, 9] [(S.enc eI x1), (.pe (eFunc x2) 0), (eI x3), (S.enc eI x4), (eI x5), (eI x6)] .emp

/-- burnish/burnishref14.params -/
theorem t88 (G : Gl) (q : Q) (tl : Tl V) (x1 : LFunc) (x2 : S Int) :
  stS G q [] [] none tl n88 [(eFunc x1), (S.enc eI x2)] = k88_1 tl x2 x1 0 x2 ((x2.l.map eI).length : Int) 0 := by
  kernel_rfl

/-- burnish/burnishref14.params, piece 1 -/
theorem t88_1 (G : Gl) (q : Q) (tl : Tl V) (x1 : S Int) (x2 : LFunc) (x3 : Int) (x4 : S Int) (x5 : Int) (x6 : Int) :
  pcS G q [(91, .one ⟨Bool, V.b⟩), (125, .one ⟨Bool, V.b⟩)] [(12, (.one (ixH eI))), (20, (.one (vlH (S.enc eI))))] none tl n88 [1, 2, 4, 7, 8, 9] [(S.enc eI x1), (.pe (eFunc x2) 0), (eI x3), (S.enc eI x4), (eI x5), (eI x6)] .emp = bif ltI x6 x5 then (bnd (q.h (ixH eI) (.iaddr 1 (.t 7) (.t 9)) [(S.enc eI x4), (eI x6)] .emp) fun n1 => bnd (q.c ⟨Bool, V.b⟩ 125 [(eFunc x2), (eI n1)]) fun r2 => bif r2 then (bnd (q.h (vlH (S.enc eI)) (.slice 1 (.t 18) none (some (.t 19)) none) [(S.enc eI x1), (eI x6)] .emp) fun s3 => bnd (q.c ⟨Bool, V.b⟩ 91 [(S.enc eI s3), (eI n1)]) fun r4 => bif r4 then (some (eI 7)) else (k88_1 tl x1 x2 x3 x4 x5 (IntKind.wrap .i64 (x6 + 1)))) else (some (eI 10))) else (some (eI 0)) := by
  kernel_rfl

theorem ok88 : FOk 88 n88 := ⟨rfl, rfl, rfl, rfl, by kernel_rfl, by kernel_rfl, by kernel_rfl⟩

abbrev k89_1 (tl : Tl V) (x1 : LInstr) (x2 : LFunc) (x3 : LModule) (x4 : Int) (x5 : Bool) : Option V := tl [3, 4, 5, 6, 7] [(.pe (eInstr x1) 0), (.pe (eFunc x2) 0), (.pe (eModule x3) 0), (eI x4), (.b x5)] .emp
abbrev k89_2 (tl : Tl V) (x1 : LInstr) (x2 : LFunc) (x3 : LModule) (x4 : Int) (x5 : Bool) : Option V := tl [3, 4, 5, 6, 87] [(.pe (eInstr x1) 0), (.pe (eFunc x2) 0), (.pe (eModule x3) 0), (eI x4), (.b x5)] .emp
abbrev k89_3 (tl : Tl V) (x1 : LInstr) (x2 : LFunc) (x3 : LModule) (x4 : Int) : Option V := tl [3, 4, 5, 6, 1002] [(.pe (eInstr x1) 0), (.pe (eFunc x2) 0), (.pe (eModule x3) 0), (eI x4), .junk] .emp
abbrev k89_4 (tl : Tl V) (x1 : LInstr) (x2 : LFunc) (x3 : LModule) (x4 : Int) (x5 : Bool) : Option V := tl [3, 4, 5, 6, 121] [(.pe (eInstr x1) 0), (.pe (eFunc x2) 0), (.pe (eModule x3) 0), (eI x4), (.b x5)] .emp
abbrev k89_5 (tl : Tl V) (x1 : LInstr) (x2 : LFunc) (x3 : LModule) (x4 : Int) : Option V := tl [3, 4, 5, 6] [(.pe (eInstr x1) 0), (.pe (eFunc x2) 0), (.pe (eModule x3) 0), (eI x4)] .emp
abbrev k89_6 (tl : Tl V) (x1 : List Int) (x2 : LInstr) (x3 : LFunc) (x4 : LModule) (x5 : Int) (x6 : Bool) (x7 : Int) (x8 : Int) : Option V := tl [3, 4, 5, 6, 140, 141, 142] [(.pe (eInstr x2) 0), (.pe (eFunc x3) 0), (.pe (eModule x4) 0), (eI x5), (.sr 0 0 0 x1.length x6), (eI x7), (eI x8)] ⟨1, 0, [true], [some (0, (.arr 1 (x1.map eI)))]⟩
abbrev k89_7 (tl : Tl V) (x1 : List Int) (x2 : LInstr) (x3 : LFunc) (x4 : LModule) (x5 : Int) (x6 : S Int) (x7 : Int) (x8 : Int) : Option V := tl [3, 4, 5, 6, 172, 173, 174] [(.pe (eInstr x2) 0), (.pe (eFunc x3) 0), (.pe (eModule x4) 0), (eI x5), (S.enc eI x6), (eI x7), (eI x8)] ⟨1, 0, [true], [some (0, (.arr 1 (x1.map eI)))]⟩
abbrev k89_8 (tl : Tl V) (x1 : List Int) (x2 : LInstr) (x3 : LFunc) (x4 : Bool) : Option V := tl [3, 4, 236] [(.pe (eInstr x2) 0), (.pe (eFunc x3) 0), (.b x4)] ⟨1, 0, [true], [some (0, (.arr 1 (x1.map eI)))]⟩
abbrev k89_9 (tl : Tl V) (x1 : List Int) (x2 : LInstr) (x3 : LFunc) : Option V := tl [3, 4, 1001] [(.pe (eInstr x2) 0), (.pe (eFunc x3) 0), .junk] ⟨1, 0, [true], [some (0, (.arr 1 (x1.map eI)))]⟩
abbrev k89_10 (tl : Tl V) (x1 : List Int) (x2 : LInstr) (x3 : LFunc) (x4 : Bool) : Option V := tl [3, 4, 255] [(.pe (eInstr x2) 0), (.pe (eFunc x3) 0), (.b x4)] ⟨1, 0, [true], [some (0, (.arr 1 (x1.map eI)))]⟩
abbrev k89_11 (tl : Tl V) (x1 : List Int) (x2 : LInstr) (x3 : LFunc) : Option V := tl [3, 4, 1000] [(.pe (eInstr x2) 0), (.pe (eFunc x3) 0), .junk] ⟨1, 0, [true], [some (0, (.arr 1 (x1.map eI)))]⟩
abbrev k89_12 (tl : Tl V) (x1 : List Int) (x2 : LInstr) (x3 : LFunc) (x4 : Bool) : Option V := tl [3, 4, 283] [(.pe (eInstr x2) 0), (.pe (eFunc x3) 0), (.b x4)] ⟨1, 0, [true], [some (0, (.arr 1 (x1.map eI)))]⟩
abbrev k89_13 (tl : Tl V) (x1 : List Int) (x2 : LInstr) (x3 : LFunc) : Option V := tl [3, 4] [(.pe (eInstr x2) 0), (.pe (eFunc x3) 0)] ⟨1, 0, [true], [some (0, (.arr 1 (x1.map eI)))]⟩
abbrev k89_14 (tl : Tl V) (x1 : List Int) (x2 : Bool) : Option V := tl [312] [(.b x2)] ⟨1, 0, [true], [some (0, (.arr 1 (x1.map eI)))]⟩

/-- burnish/burnishref12.Check -/
theorem t89 (G : Gl) (q : Q) (tl : Tl V) (x1 : LInstr) (x2 : LFunc) (x3 : LModule) :
  stS G q [] [] none tl n89 [(eInstr x1), (eFunc x2), (eModule x3)] = bif ltI x1.op 1 then (some (eI 8)) else (bif ltI 33 x1.op then (some (eI 8)) else (bif eqI x1.op 1 then (k89_1 tl x1 x2 x3 0 true) else (bif eqI x1.op 26 then (k89_1 tl x1 x2 x3 0 true) else (bif eqI x1.op 33 then (k89_1 tl x1 x2 x3 0 true) else (k89_1 tl x1 x2 x3 0 false))))) := by
  kernel_rfl

/-- burnish/burnishref12.Check, piece 1 -/
theorem t89_1 (G : Gl) (q : Q) (tl : Tl V) (x1 : LInstr) (x2 : LFunc) (x3 : LModule) (x4 : Int) (x5 : Bool) :
  pcS G q [] [] none tl n89 [3, 4, 5, 6, 7] [(.pe (eInstr x1) 0), (.pe (eFunc x2) 0), (.pe (eModule x3) 0), (eI x4), (.b x5)] .emp = bif x1.noWrap then (bif !(eqI x1.op 5) then (bif !(eqI x1.op 6) then (bif !(eqI x1.op 7) then (k89_2 tl x1 x2 x3 x4 true) else (bif !(eqI x1.imm 0) then (bif x5 then (bif !(eqI x1.sym 0) then (bif !(eqI x1.op 25) then (bif !(eqI x1.op 30) then (k89_2 tl x1 x2 x3 x4 true) else (bif !(eqI x1.elem 0) then (bif !(eqI x1.op 26) then (k89_2 tl x1 x2 x3 x4 true) else (k89_2 tl x1 x2 x3 x4 false)) else (k89_2 tl x1 x2 x3 x4 false))) else (bif !(eqI x1.elem 0) then (bif !(eqI x1.op 26) then (k89_2 tl x1 x2 x3 x4 true) else (k89_2 tl x1 x2 x3 x4 false)) else (k89_2 tl x1 x2 x3 x4 false))) else (bif !(eqI x1.elem 0) then (bif !(eqI x1.op 26) then (k89_2 tl x1 x2 x3 x4 true) else (k89_2 tl x1 x2 x3 x4 false)) else (k89_2 tl x1 x2 x3 x4 false))) else (k89_2 tl x1 x2 x3 x4 true)) else (bif !(eqI x1.sym 0) then (bif !(eqI x1.op 25) then (bif !(eqI x1.op 30) then (k89_2 tl x1 x2 x3 x4 true) else (bif !(eqI x1.elem 0) then (bif !(eqI x1.op 26) then (k89_2 tl x1 x2 x3 x4 true) else (k89_2 tl x1 x2 x3 x4 false)) else (k89_2 tl x1 x2 x3 x4 false))) else (bif !(eqI x1.elem 0) then (bif !(eqI x1.op 26) then (k89_2 tl x1 x2 x3 x4 true) else (k89_2 tl x1 x2 x3 x4 false)) else (k89_2 tl x1 x2 x3 x4 false))) else (bif !(eqI x1.elem 0) then (bif !(eqI x1.op 26) then (k89_2 tl x1 x2 x3 x4 true) else (k89_2 tl x1 x2 x3 x4 false)) else (k89_2 tl x1 x2 x3 x4 false))))) else (bif !(eqI x1.imm 0) then (bif x5 then (bif !(eqI x1.sym 0) then (bif !(eqI x1.op 25) then (bif !(eqI x1.op 30) then (k89_2 tl x1 x2 x3 x4 true) else (bif !(eqI x1.elem 0) then (bif !(eqI x1.op 26) then (k89_2 tl x1 x2 x3 x4 true) else (k89_2 tl x1 x2 x3 x4 false)) else (k89_2 tl x1 x2 x3 x4 false))) else (bif !(eqI x1.elem 0) then (bif !(eqI x1.op 26) then (k89_2 tl x1 x2 x3 x4 true) else (k89_2 tl x1 x2 x3 x4 false)) else (k89_2 tl x1 x2 x3 x4 false))) else (bif !(eqI x1.elem 0) then (bif !(eqI x1.op 26) then (k89_2 tl x1 x2 x3 x4 true) else (k89_2 tl x1 x2 x3 x4 false)) else (k89_2 tl x1 x2 x3 x4 false))) else (k89_2 tl x1 x2 x3 x4 true)) else (bif !(eqI x1.sym 0) then (bif !(eqI x1.op 25) then (bif !(eqI x1.op 30) then (k89_2 tl x1 x2 x3 x4 true) else (bif !(eqI x1.elem 0) then (bif !(eqI x1.op 26) then (k89_2 tl x1 x2 x3 x4 true) else (k89_2 tl x1 x2 x3 x4 false)) else (k89_2 tl x1 x2 x3 x4 false))) else (bif !(eqI x1.elem 0) then (bif !(eqI x1.op 26) then (k89_2 tl x1 x2 x3 x4 true) else (k89_2 tl x1 x2 x3 x4 false)) else (k89_2 tl x1 x2 x3 x4 false))) else (bif !(eqI x1.elem 0) then (bif !(eqI x1.op 26) then (k89_2 tl x1 x2 x3 x4 true) else (k89_2 tl x1 x2 x3 x4 false)) else (k89_2 tl x1 x2 x3 x4 false))))) else (bif !(eqI x1.imm 0) then (bif x5 then (bif !(eqI x1.sym 0) then (bif !(eqI x1.op 25) then (bif !(eqI x1.op 30) then (k89_2 tl x1 x2 x3 x4 true) else (bif !(eqI x1.elem 0) then (bif !(eqI x1.op 26) then (k89_2 tl x1 x2 x3 x4 true) else (k89_2 tl x1 x2 x3 x4 false)) else (k89_2 tl x1 x2 x3 x4 false))) else (bif !(eqI x1.elem 0) then (bif !(eqI x1.op 26) then (k89_2 tl x1 x2 x3 x4 true) else (k89_2 tl x1 x2 x3 x4 false)) else (k89_2 tl x1 x2 x3 x4 false))) else (bif !(eqI x1.elem 0) then (bif !(eqI x1.op 26) then (k89_2 tl x1 x2 x3 x4 true) else (k89_2 tl x1 x2 x3 x4 false)) else (k89_2 tl x1 x2 x3 x4 false))) else (k89_2 tl x1 x2 x3 x4 true)) else (bif !(eqI x1.sym 0) then (bif !(eqI x1.op 25) then (bif !(eqI x1.op 30) then (k89_2 tl x1 x2 x3 x4 true) else (bif !(eqI x1.elem 0) then (bif !(eqI x1.op 26) then (k89_2 tl x1 x2 x3 x4 true) else (k89_2 tl x1 x2 x3 x4 false)) else (k89_2 tl x1 x2 x3 x4 false))) else (bif !(eqI x1.elem 0) then (bif !(eqI x1.op 26) then (k89_2 tl x1 x2 x3 x4 true) else (k89_2 tl x1 x2 x3 x4 false)) else (k89_2 tl x1 x2 x3 x4 false))) else (bif !(eqI x1.elem 0) then (bif !(eqI x1.op 26) then (k89_2 tl x1 x2 x3 x4 true) else (k89_2 tl x1 x2 x3 x4 false)) else (k89_2 tl x1 x2 x3 x4 false))))) else (bif !(eqI x1.imm 0) then (bif x5 then (bif !(eqI x1.sym 0) then (bif !(eqI x1.op 25) then (bif !(eqI x1.op 30) then (k89_2 tl x1 x2 x3 x4 true) else (bif !(eqI x1.elem 0) then (bif !(eqI x1.op 26) then (k89_2 tl x1 x2 x3 x4 true) else (k89_2 tl x1 x2 x3 x4 false)) else (k89_2 tl x1 x2 x3 x4 false))) else (bif !(eqI x1.elem 0) then (bif !(eqI x1.op 26) then (k89_2 tl x1 x2 x3 x4 true) else (k89_2 tl x1 x2 x3 x4 false)) else (k89_2 tl x1 x2 x3 x4 false))) else (bif !(eqI x1.elem 0) then (bif !(eqI x1.op 26) then (k89_2 tl x1 x2 x3 x4 true) else (k89_2 tl x1 x2 x3 x4 false)) else (k89_2 tl x1 x2 x3 x4 false))) else (k89_2 tl x1 x2 x3 x4 true)) else (bif !(eqI x1.sym 0) then (bif !(eqI x1.op 25) then (bif !(eqI x1.op 30) then (k89_2 tl x1 x2 x3 x4 true) else (bif !(eqI x1.elem 0) then (bif !(eqI x1.op 26) then (k89_2 tl x1 x2 x3 x4 true) else (k89_2 tl x1 x2 x3 x4 false)) else (k89_2 tl x1 x2 x3 x4 false))) else (bif !(eqI x1.elem 0) then (bif !(eqI x1.op 26) then (k89_2 tl x1 x2 x3 x4 true) else (k89_2 tl x1 x2 x3 x4 false)) else (k89_2 tl x1 x2 x3 x4 false))) else (bif !(eqI x1.elem 0) then (bif !(eqI x1.op 26) then (k89_2 tl x1 x2 x3 x4 true) else (k89_2 tl x1 x2 x3 x4 false)) else (k89_2 tl x1 x2 x3 x4 false)))) := by
  kernel_rfl

/-- burnish/burnishref12.Check, piece 2 -/
theorem t89_2 (G : Gl) (q : Q) (tl : Tl V) (x1 : LInstr) (x2 : LFunc) (x3 : LModule) (x4 : Int) (x5 : Bool) :
  pcS G q [] [] none tl n89 [3, 4, 5, 6, 87] [(.pe (eInstr x1) 0), (.pe (eFunc x2) 0), (.pe (eModule x3) 0), (eI x4), (.b x5)] .emp = bif x5 then (some (eI 3)) else (k89_3 tl x1 x2 x3 x4) := by
  kernel_rfl

/-- burnish/burnishref12.Check, piece 3 -/
theorem t89_3 (G : Gl) (q : Q) (tl : Tl V) (x1 : LInstr) (x2 : LFunc) (x3 : LModule) (x4 : Int) :
  pcS G q [] [] none tl n89 [3, 4, 5, 6, 1002] [(.pe (eInstr x1) 0), (.pe (eFunc x2) 0), (.pe (eModule x3) 0), (eI x4), .junk] .emp = bif eqI x1.op 25 then (bif ltI x1.sym 0 then (k89_4 tl x1 x2 x3 x4 true) else (bif !(ltI x1.sym ((x3.globals.l.map eGlobal).length : Int)) then (k89_4 tl x1 x2 x3 x4 true) else (bif eqI x1.op 30 then (bif ltI x1.sym 0 then (k89_4 tl x1 x2 x3 x4 true) else (bif !(ltI x1.sym ((x3.funcs.l.map eFunc).length : Int)) then (k89_4 tl x1 x2 x3 x4 true) else (k89_4 tl x1 x2 x3 x4 false))) else (k89_4 tl x1 x2 x3 x4 false)))) else (bif eqI x1.op 30 then (bif ltI x1.sym 0 then (k89_4 tl x1 x2 x3 x4 true) else (bif !(ltI x1.sym ((x3.funcs.l.map eFunc).length : Int)) then (k89_4 tl x1 x2 x3 x4 true) else (k89_4 tl x1 x2 x3 x4 false))) else (k89_4 tl x1 x2 x3 x4 false)) := by
  kernel_rfl

/-- burnish/burnishref12.Check, piece 4 -/
theorem t89_4 (G : Gl) (q : Q) (tl : Tl V) (x1 : LInstr) (x2 : LFunc) (x3 : LModule) (x4 : Int) (x5 : Bool) :
  pcS G q [] [] none tl n89 [3, 4, 5, 6, 121] [(.pe (eInstr x1) 0), (.pe (eFunc x2) 0), (.pe (eModule x3) 0), (eI x4), (.b x5)] .emp = bif x5 then (some (eI 8)) else (k89_5 tl x1 x2 x3 x4) := by
  kernel_rfl

/-- burnish/burnishref12.Check, piece 5 -/
theorem t89_5 (G : Gl) (q : Q) (tl : Tl V) (x1 : LInstr) (x2 : LFunc) (x3 : LModule) (x4 : Int) :
  pcS G q [(126, .one ⟨Int × Bool, fun r => .tup [eI r.1, V.b r.2]⟩)] [(140, (.two idH (apH 1 eI)))] none tl n89 [3, 4, 5, 6] [(.pe (eInstr x1) 0), (.pe (eFunc x2) 0), (.pe (eModule x3) 0), (eI x4)] .emp = bnd (q.c ⟨Int × Bool, fun r => .tup [eI r.1, V.b r.2]⟩ 126 [(eInstr x1), (eModule x3)]) fun r1 => bif r1.2 then (bif !(eqI r1.1 ((x1.args.l.map eI).length : Int)) then (some (eI 3)) else (bnd (q.h2 idH (apH 1 eI) (.append 1 3 1 8 false (.t 137) (.t 139)) [(.sr 0 0 0 0 true), (S.enc eI x1.args)] ⟨1, 0, [true], [some (0, (.arr 1 []))]⟩) fun r => match r with | .inl _ => (k89_6 tl ([]) x1 x2 x3 x4 true 0 0) | .inr l2 => (k89_6 tl l2 x1 x2 x3 x4 false ((l2.length : Nat) : Int) 0))) else (some (eI 3)) := by
  kernel_rfl

/-- burnish/burnishref12.Check, piece 6 -/
theorem t89_6 (G : Gl) (q : Q) (tl : Tl V) (x1 : List Int) (x2 : LInstr) (x3 : LFunc) (x4 : LModule) (x5 : Int) (x6 : Bool) (x7 : Int) (x8 : Int) :
  pcS G q [(127, .one ⟨Bool, V.b⟩)] [(144, (.one (riH))), (145, (.one (vlH eI)))] none tl n89 [3, 4, 5, 6, 140, 141, 142] [(.pe (eInstr x2) 0), (.pe (eFunc x3) 0), (.pe (eModule x4) 0), (eI x5), (.sr 0 0 0 x1.length x6), (eI x7), (eI x8)] ⟨1, 0, [true], [some (0, (.arr 1 (x1.map eI)))]⟩ = bif ltI x8 x7 then (bnd (q.h (riH) (.iaddr 1 (.t 140) (.t 142)) [(.sr 0 0 0 x1.length x6), (eI x8)] ⟨1, 0, [true], [some (0, (.arr 1 (x1.map eI)))]⟩) fun k1 => bnd (q.h (vlH eI) (.load false 1 (.t 144)) [(.pr 0 0 k1 0)] ⟨1, 0, [true], [some (0, (.arr 1 (x1.map eI)))]⟩) fun n2 => bif ltI n2 0 then (some (eI 10)) else (bif !(ltI n2 ((x3.regs.l.map eI).length : Int)) then (some (eI 10)) else (k89_6 tl x1 x2 x3 x4 x5 x6 x7 (IntKind.wrap .i64 (x8 + 1))))) else (bif ltI x2.dst (-1) then (some (eI 10)) else (bif !(ltI x2.dst ((x3.regs.l.map eI).length : Int)) then (some (eI 10)) else (bnd (q.c ⟨Bool, V.b⟩ 127 [(eInstr x2), (eModule x4)]) fun r3 => bif r3 then (k89_7 tl x1 x2 x3 x4 x5 x2.args ((x2.args.l.map eI).length : Int) 0) else (some (eI 9))))) := by
  kernel_rfl

/-- burnish/burnishref12.Check, piece 7 -/
theorem t89_7 (G : Gl) (q : Q) (tl : Tl V) (x1 : List Int) (x2 : LInstr) (x3 : LFunc) (x4 : LModule) (x5 : Int) (x6 : S Int) (x7 : Int) (x8 : Int) :
  pcS G q [(128, .one ⟨Bool, V.b⟩)] [(177, (.one (ixH eI))), (185, (.one (ixH eI))), (191, (.one (ixH eI))), (193, (.one (ixH eI))), (230, (.one (ixH eI)))] none tl n89 [3, 4, 5, 6, 172, 173, 174] [(.pe (eInstr x2) 0), (.pe (eFunc x3) 0), (.pe (eModule x4) 0), (eI x5), (S.enc eI x6), (eI x7), (eI x8)] ⟨1, 0, [true], [some (0, (.arr 1 (x1.map eI)))]⟩ = bif ltI x8 x7 then (bnd (q.h (ixH eI) (.iaddr 1 (.t 172) (.t 174)) [(S.enc eI x6), (eI x8)] ⟨1, 0, [true], [some (0, (.arr 1 (x1.map eI)))]⟩) fun n1 => bnd (q.h (ixH eI) (.iaddr 1 (.t 183) (.t 184)) [(S.enc eI x3.regs), (eI n1)] ⟨1, 0, [true], [some (0, (.arr 1 (x1.map eI)))]⟩) fun n2 => bnd (q.h (ixH eI) (.iaddr 1 (.t 190) (.c (.int .i64 0))) [(S.enc eI x2.args), (eI 0)] ⟨1, 0, [true], [some (0, (.arr 1 (x1.map eI)))]⟩) fun n3 => bnd (q.h (ixH eI) (.iaddr 1 (.t 188) (.t 192)) [(S.enc eI x3.regs), (eI n3)] ⟨1, 0, [true], [some (0, (.arr 1 (x1.map eI)))]⟩) fun n4 => bnd (q.c ⟨Bool, V.b⟩ 128 [(eInstr x2), (eModule x4), (eI x8), (eI n2), (eI n4)]) fun r5 => bif r5 then (k89_7 tl x1 x2 x3 x4 x5 x6 x7 (IntKind.wrap .i64 (x8 + 1))) else (some (eI 9))) else (bif eqI x2.ty 0 then (bif !(eqI x2.dst (-1)) then (k89_8 tl x1 x2 x3 true) else (bif !(eqI x2.ty 0) then (bif eqI x2.dst (-1) then (bif !(eqI x2.op 30) then (k89_8 tl x1 x2 x3 true) else (bif !(ltI x2.dst 0) then (bnd (q.h (ixH eI) (.iaddr 1 (.t 227) (.t 229)) [(S.enc eI x3.regs), (eI x2.dst)] ⟨1, 0, [true], [some (0, (.arr 1 (x1.map eI)))]⟩) fun n6 => bif !(eqI n6 x2.ty) then (k89_8 tl x1 x2 x3 true) else (k89_8 tl x1 x2 x3 false)) else (k89_8 tl x1 x2 x3 false))) else (bif !(ltI x2.dst 0) then (bnd (q.h (ixH eI) (.iaddr 1 (.t 227) (.t 229)) [(S.enc eI x3.regs), (eI x2.dst)] ⟨1, 0, [true], [some (0, (.arr 1 (x1.map eI)))]⟩) fun n7 => bif !(eqI n7 x2.ty) then (k89_8 tl x1 x2 x3 true) else (k89_8 tl x1 x2 x3 false)) else (k89_8 tl x1 x2 x3 false))) else (bif !(ltI x2.dst 0) then (bnd (q.h (ixH eI) (.iaddr 1 (.t 227) (.t 229)) [(S.enc eI x3.regs), (eI x2.dst)] ⟨1, 0, [true], [some (0, (.arr 1 (x1.map eI)))]⟩) fun n8 => bif !(eqI n8 x2.ty) then (k89_8 tl x1 x2 x3 true) else (k89_8 tl x1 x2 x3 false)) else (k89_8 tl x1 x2 x3 false)))) else (bif !(eqI x2.ty 0) then (bif eqI x2.dst (-1) then (bif !(eqI x2.op 30) then (k89_8 tl x1 x2 x3 true) else (bif !(ltI x2.dst 0) then (bnd (q.h (ixH eI) (.iaddr 1 (.t 227) (.t 229)) [(S.enc eI x3.regs), (eI x2.dst)] ⟨1, 0, [true], [some (0, (.arr 1 (x1.map eI)))]⟩) fun n9 => bif !(eqI n9 x2.ty) then (k89_8 tl x1 x2 x3 true) else (k89_8 tl x1 x2 x3 false)) else (k89_8 tl x1 x2 x3 false))) else (bif !(ltI x2.dst 0) then (bnd (q.h (ixH eI) (.iaddr 1 (.t 227) (.t 229)) [(S.enc eI x3.regs), (eI x2.dst)] ⟨1, 0, [true], [some (0, (.arr 1 (x1.map eI)))]⟩) fun n10 => bif !(eqI n10 x2.ty) then (k89_8 tl x1 x2 x3 true) else (k89_8 tl x1 x2 x3 false)) else (k89_8 tl x1 x2 x3 false))) else (bif !(ltI x2.dst 0) then (bnd (q.h (ixH eI) (.iaddr 1 (.t 227) (.t 229)) [(S.enc eI x3.regs), (eI x2.dst)] ⟨1, 0, [true], [some (0, (.arr 1 (x1.map eI)))]⟩) fun n11 => bif !(eqI n11 x2.ty) then (k89_8 tl x1 x2 x3 true) else (k89_8 tl x1 x2 x3 false)) else (k89_8 tl x1 x2 x3 false)))) := by
  kernel_rfl

/-- burnish/burnishref12.Check, piece 8 -/
theorem t89_8 (G : Gl) (q : Q) (tl : Tl V) (x1 : List Int) (x2 : LInstr) (x3 : LFunc) (x4 : Bool) :
  pcS G q [] [] none tl n89 [3, 4, 236] [(.pe (eInstr x2) 0), (.pe (eFunc x3) 0), (.b x4)] ⟨1, 0, [true], [some (0, (.arr 1 (x1.map eI)))]⟩ = bif x4 then (some (eI 9)) else (k89_9 tl x1 x2 x3) := by
  kernel_rfl

/-- burnish/burnishref12.Check, piece 9 -/
theorem t89_9 (G : Gl) (q : Q) (tl : Tl V) (x1 : List Int) (x2 : LInstr) (x3 : LFunc) :
  pcS G q [(129, .one ⟨Int × Int, fun r => .tup [eI r.1, eI r.2]⟩)] [] none tl n89 [3, 4, 1001] [(.pe (eInstr x2) 0), (.pe (eFunc x3) 0), .junk] ⟨1, 0, [true], [some (0, (.arr 1 (x1.map eI)))]⟩ = bnd (q.c ⟨Int × Int, fun r => .tup [eI r.1, eI r.2]⟩ 129 [(eI x2.elem)]) fun r1 => bif eqI x2.op 26 then (bif !(eqI r1.2 1) then (k89_10 tl x1 x2 x3 true) else (bif !(eqI r1.1 x2.elem) then (k89_10 tl x1 x2 x3 true) else (k89_10 tl x1 x2 x3 false))) else (k89_10 tl x1 x2 x3 false) := by
  kernel_rfl

/-- burnish/burnishref12.Check, piece 10 -/
theorem t89_10 (G : Gl) (q : Q) (tl : Tl V) (x1 : List Int) (x2 : LInstr) (x3 : LFunc) (x4 : Bool) :
  pcS G q [] [] none tl n89 [3, 4, 255] [(.pe (eInstr x2) 0), (.pe (eFunc x3) 0), (.b x4)] ⟨1, 0, [true], [some (0, (.arr 1 (x1.map eI)))]⟩ = bif x4 then (some (eI 9)) else (k89_11 tl x1 x2 x3) := by
  kernel_rfl

/-- burnish/burnishref12.Check, piece 11 -/
theorem t89_11 (G : Gl) (q : Q) (tl : Tl V) (x1 : List Int) (x2 : LInstr) (x3 : LFunc) :
  pcS G q [(130, .one ⟨Int, eI⟩)] [] none tl n89 [3, 4, 1000] [(.pe (eInstr x2) 0), (.pe (eFunc x3) 0), .junk] ⟨1, 0, [true], [some (0, (.arr 1 (x1.map eI)))]⟩ = bif eqI x2.op 1 then (bnd (q.c ⟨Int, eI⟩ 130 [(eI x2.ty), (eI x2.imm)]) fun r1 => bif !(eqI r1 x2.imm) then (k89_12 tl x1 x2 x3 true) else (bif eqI x2.op 26 then (bif ltI x2.imm 1 then (k89_12 tl x1 x2 x3 true) else (bif ltI 256 x2.imm then (k89_12 tl x1 x2 x3 true) else (k89_12 tl x1 x2 x3 false))) else (k89_12 tl x1 x2 x3 false))) else (bif eqI x2.op 26 then (bif ltI x2.imm 1 then (k89_12 tl x1 x2 x3 true) else (bif ltI 256 x2.imm then (k89_12 tl x1 x2 x3 true) else (k89_12 tl x1 x2 x3 false))) else (k89_12 tl x1 x2 x3 false)) := by
  kernel_rfl

/-- burnish/burnishref12.Check, piece 12 -/
theorem t89_12 (G : Gl) (q : Q) (tl : Tl V) (x1 : List Int) (x2 : LInstr) (x3 : LFunc) (x4 : Bool) :
  pcS G q [] [] none tl n89 [3, 4, 283] [(.pe (eInstr x2) 0), (.pe (eFunc x3) 0), (.b x4)] ⟨1, 0, [true], [some (0, (.arr 1 (x1.map eI)))]⟩ = bif x4 then (some (eI 10)) else (k89_13 tl x1 x2 x3) := by
  kernel_rfl

/-- burnish/burnishref12.Check, piece 13 -/
theorem t89_13 (G : Gl) (q : Q) (tl : Tl V) (x1 : List Int) (x2 : LInstr) (x3 : LFunc) :
  pcS G q [] [(305, (.one (ixH eI))), (307, (.one (ixH eI)))] none tl n89 [3, 4] [(.pe (eInstr x2) 0), (.pe (eFunc x3) 0)] ⟨1, 0, [true], [some (0, (.arr 1 (x1.map eI)))]⟩ = bif eqI x2.op 33 then (bif ltI x2.imm 0 then (k89_14 tl x1 true) else (bif ltI 3 x2.imm then (k89_14 tl x1 true) else (bif ltI 1 x2.imm then (bnd (q.h (ixH eI) (.iaddr 1 (.t 304) (.c (.int .i64 0))) [(S.enc eI x2.args), (eI 0)] ⟨1, 0, [true], [some (0, (.arr 1 (x1.map eI)))]⟩) fun n1 => bnd (q.h (ixH eI) (.iaddr 1 (.t 302) (.t 306)) [(S.enc eI x3.regs), (eI n1)] ⟨1, 0, [true], [some (0, (.arr 1 (x1.map eI)))]⟩) fun n2 => bif eqI n2 6 then (k89_14 tl x1 true) else (k89_14 tl x1 false)) else (k89_14 tl x1 false)))) else (k89_14 tl x1 false) := by
  kernel_rfl

/-- burnish/burnishref12.Check, piece 14 -/
theorem t89_14 (G : Gl) (q : Q) (tl : Tl V) (x1 : List Int) (x2 : Bool) :
  pcS G q [] [] none tl n89 [312] [(.b x2)] ⟨1, 0, [true], [some (0, (.arr 1 (x1.map eI)))]⟩ = bif x2 then (some (eI 10)) else (some (eI 0)) := by
  kernel_rfl

theorem ok89 : FOk 89 n89 := ⟨rfl, rfl, rfl, rfl, by kernel_rfl, by kernel_rfl, by kernel_rfl⟩

abbrev k90_1 (tl : Tl V) (x1 : LModule) (x2 : LFunc) (x3 : LTerm) (x4 : Int) (x5 : S Int) (x6 : Int) (x7 : Int) : Option V := tl [3, 4, 5, 6, 52, 53, 54] [(.pe (eModule x1) 0), (.pe (eFunc x2) 0), (.pe (eTerm x3) 0), (eI x4), (S.enc eI x5), (eI x6), (eI x7)] .emp
abbrev k90_2 (tl : Tl V) (x1 : LFunc) (x2 : Int) (x3 : S LEdge) (x4 : Int) (x5 : Int) : Option V := tl [4, 6, 97, 98, 99] [(.pe (eFunc x1) 0), (eI x2), (S.enc eEdge x3), (eI x4), (eI x5)] .emp

/-- burnish/burnishref14.terminator -/
theorem t90 (G : Gl) (q : Q) (tl : Tl V) (x1 : LModule) (x2 : LFunc) (x3 : LTerm) :
  stS G q [(131, .one ⟨Bool, V.b⟩)] [] none tl n90 [(eModule x1), (eFunc x2), (eTerm x3)] = bif ltI x3.kind 1 then (some (eI 9)) else (bif ltI 6 x3.kind then (some (eI 9)) else (bif eqI x3.kind 6 then (bif ltI x3.sym 0 then (some (eI 8)) else (bif !(ltI x3.sym ((x1.funcs.l.map eFunc).length : Int)) then (some (eI 8)) else (bif eqI x3.kind 3 then (bif ltI 16 ((x3.cases.l.map eI).length : Int) then (some (eI 11)) else (bnd (q.c ⟨Bool, V.b⟩ 131 [(eModule x1), (eFunc x2), (eTerm x3)]) fun r1 => bif r1 then (k90_1 tl x1 x2 x3 0 x3.args ((x3.args.l.map eI).length : Int) 0) else (some (eI 3)))) else (bnd (q.c ⟨Bool, V.b⟩ 131 [(eModule x1), (eFunc x2), (eTerm x3)]) fun r2 => bif r2 then (k90_1 tl x1 x2 x3 0 x3.args ((x3.args.l.map eI).length : Int) 0) else (some (eI 3)))))) else (bif eqI x3.kind 3 then (bif ltI 16 ((x3.cases.l.map eI).length : Int) then (some (eI 11)) else (bnd (q.c ⟨Bool, V.b⟩ 131 [(eModule x1), (eFunc x2), (eTerm x3)]) fun r3 => bif r3 then (k90_1 tl x1 x2 x3 0 x3.args ((x3.args.l.map eI).length : Int) 0) else (some (eI 3)))) else (bnd (q.c ⟨Bool, V.b⟩ 131 [(eModule x1), (eFunc x2), (eTerm x3)]) fun r4 => bif r4 then (k90_1 tl x1 x2 x3 0 x3.args ((x3.args.l.map eI).length : Int) 0) else (some (eI 3)))))) := by
  kernel_rfl

/-- burnish/burnishref14.terminator, piece 1 -/
theorem t90_1 (G : Gl) (q : Q) (tl : Tl V) (x1 : LModule) (x2 : LFunc) (x3 : LTerm) (x4 : Int) (x5 : S Int) (x6 : Int) (x7 : Int) :
  pcS G q [(125, .one ⟨Bool, V.b⟩), (132, .one ⟨Bool, V.b⟩), (133, .one ⟨Int, eI⟩)] [(57, (.one (ixH eI))), (70, (.one (ixH eI))), (83, (.one (ixH eFunc)))] none tl n90 [3, 4, 5, 6, 52, 53, 54] [(.pe (eModule x1) 0), (.pe (eFunc x2) 0), (.pe (eTerm x3) 0), (eI x4), (S.enc eI x5), (eI x6), (eI x7)] .emp = bif ltI x7 x6 then (bnd (q.h (ixH eI) (.iaddr 1 (.t 52) (.t 54)) [(S.enc eI x5), (eI x7)] .emp) fun n1 => bnd (q.c ⟨Bool, V.b⟩ 125 [(eFunc x2), (eI n1)]) fun r2 => bif r2 then (bnd (q.h (ixH eI) (.iaddr 1 (.t 68) (.t 69)) [(S.enc eI x2.regs), (eI n1)] .emp) fun n3 => bnd (q.c ⟨Bool, V.b⟩ 132 [(eModule x1), (eFunc x2), (eTerm x3), (eI x7), (eI n3)]) fun r4 => bif r4 then (k90_1 tl x1 x2 x3 x4 x5 x6 (IntKind.wrap .i64 (x7 + 1))) else (some (eI 9))) else (some (eI 10))) else (bif eqI x3.kind 6 then (bnd (q.h (ixH eFunc) (.iaddr 5 (.t 80) (.t 82)) [(S.enc eFunc x1.funcs), (eI x3.sym)] .emp) fun n5 => bif !(eqI n5.result x2.result) then (some (eI 9)) else (bnd (q.c ⟨Int, eI⟩ 133 [(eFunc x2), (eTerm x3)]) fun r6 => bif !(eqI r6 0) then (some (eI r6)) else (k90_2 tl x2 x4 x3.succs ((x3.succs.l.map eEdge).length : Int) 0))) else (bnd (q.c ⟨Int, eI⟩ 133 [(eFunc x2), (eTerm x3)]) fun r7 => bif !(eqI r7 0) then (some (eI r7)) else (k90_2 tl x2 x4 x3.succs ((x3.succs.l.map eEdge).length : Int) 0))) := by
  kernel_rfl

/-- burnish/burnishref14.terminator, piece 2 -/
theorem t90_2 (G : Gl) (q : Q) (tl : Tl V) (x1 : LFunc) (x2 : Int) (x3 : S LEdge) (x4 : Int) (x5 : Int) :
  pcS G q [(134, .one ⟨Int, eI⟩)] [(101, (.one (ixH eEdge)))] none tl n90 [4, 6, 97, 98, 99] [(.pe (eFunc x1) 0), (eI x2), (S.enc eEdge x3), (eI x4), (eI x5)] .emp = bif ltI x5 x4 then (bnd (q.h (ixH eEdge) (.iaddr 2 (.t 97) (.t 99)) [(S.enc eEdge x3), (eI x5)] .emp) fun n1 => bnd (q.c ⟨Int, eI⟩ 134 [(eFunc x1), (eEdge n1)]) fun r2 => bif !(eqI r2 0) then (some (eI r2)) else (k90_2 tl x1 x2 x3 x4 (IntKind.wrap .i64 (x5 + 1)))) else (some (eI 0)) := by
  kernel_rfl

theorem ok90 : FOk 90 n90 := ⟨rfl, rfl, rfl, rfl, by kernel_rfl, by kernel_rfl, by kernel_rfl⟩


/-- slices.Contains[[]int,int] -/
theorem t91 (G : Gl) (q : Q) (tl : Tl V) (x1 : S Int) (x2 : Int) :
  stS G q [(135, .one ⟨Int, eI⟩)] [] none tl n91 [(S.enc eI x1), (eI x2)] = bnd (q.c ⟨Int, eI⟩ 135 [(S.enc eI x1), (eI x2)]) fun r1 => bif !(ltI r1 0) then (some (.b true)) else (some (.b false)) := by
  kernel_rfl

theorem ok91 : FOk 91 n91 := ⟨rfl, rfl, rfl, rfl, by kernel_rfl, by kernel_rfl, by kernel_rfl⟩


/-- slices.Clone[[]burnish/api.Type,burnish/api.Type] -/
theorem t107 (G : Gl) (q : Q) (tl : Tl V) (x1 : S Int) :
  stS G q [] [(4, (.one (vlH V.b))), (7, (.two idH (apH 1 eI)))] (some ⟨S Int, (S.enc eI)⟩) tl n107 [(S.enc eI x1)] = bnd (q.h (vlH V.b) (.bin .eql .slc (.t 3) (.c (.slice none 0 0))) [(S.enc eI x1), (.sl true [])] .emp) fun b1 => bif b1 then (bnd (q.snp _ (⟨S Int, (S.enc eI)⟩ : En).e (.sl true []) .emp) fun a2 => some ((⟨S Int, (S.enc eI)⟩ : En).e a2)) else (bnd (q.h2 idH (apH 1 eI) (.append 1 26 1 8 false (.t 5) (.t 6)) [(.sr 0 0 0 0 true), (S.enc eI x1)] ⟨1, 0, [true], [some (0, (.arr 1 []))]⟩) fun r => match r with | .inl _ => (bnd (q.snp _ (⟨S Int, (S.enc eI)⟩ : En).e (.sr 0 0 0 0 true) ⟨1, 0, [true], [some (0, (.arr 1 []))]⟩) fun a4 => some ((⟨S Int, (S.enc eI)⟩ : En).e a4)) | .inr l3 => (bnd (q.snp _ (⟨S Int, (S.enc eI)⟩ : En).e (.sr 0 1 0 l3.length false) ⟨2, 0, [true], [some (1, (.arr 1 (l3.map eI)))]⟩) fun a5 => some ((⟨S Int, (S.enc eI)⟩ : En).e a5))) := by
  kernel_rfl

theorem ok107 : FOkC 107 n107 := ⟨rfl, rfl, rfl, by kernel_rfl, by kernel_rfl, by kernel_rfl⟩


/-- burnish/burnishref14.ident -/
theorem t121 (G : Gl) (q : Q) (tl : Tl V) (x1 : ByteArray) :
  stS G q [(185, .one ⟨Bool, V.b⟩)] [] none tl n121 [(.s x1)] = bif !(ltI 24 (x1.size : Int)) then (bnd (q.c ⟨Bool, V.b⟩ 185 [(.s x1)]) fun r1 => bif r1 then (some (.b true)) else (some (.b false))) else (some (.b false)) := by
  kernel_rfl

theorem ok121 : FOk 121 n121 := ⟨rfl, rfl, rfl, rfl, by kernel_rfl, by kernel_rfl, by kernel_rfl⟩


/-- burnish/burnishref14.cell -/
theorem t122 (G : Gl) (q : Q) (tl : Tl V) (x1 : Int) :
  stS G q [] [] none tl n122 [(eI x1)] = bif !(ltI x1 2) then (bif !(ltI 5 x1) then (some (.b true)) else (some (.b false))) else (some (.b false)) := by
  kernel_rfl

theorem ok122 : FOk 122 n122 := ⟨rfl, rfl, rfl, rfl, by kernel_rfl, by kernel_rfl, by kernel_rfl⟩


/-- burnish/burnishref14.fits -/
theorem t123 (G : Gl) (q : Q) (tl : Tl V) (x1 : Int) (x2 : Int) :
  stS G q [(130, .one ⟨Int, eI⟩), (186, .one ⟨Bool, V.b⟩)] [] none tl n123 [(eI x1), (eI x2)] = bnd (q.c ⟨Bool, V.b⟩ 186 [(eI x1)]) fun r1 => bif r1 then (bnd (q.c ⟨Int, eI⟩ 130 [(eI x1), (eI x2)]) fun r2 => bif eqI r2 x2 then (some (.b true)) else (some (.b false))) else (some (.b false)) := by
  kernel_rfl

theorem ok123 : FOk 123 n123 := ⟨rfl, rfl, rfl, rfl, by kernel_rfl, by kernel_rfl, by kernel_rfl⟩


/-- burnish/burnishref14.value -/
theorem t124 (G : Gl) (q : Q) (tl : Tl V) (x1 : Int) :
  stS G q [] [] none tl n124 [(eI x1)] = bif !(ltI x1 1) then (bif !(ltI 7 x1) then (some (.b true)) else (some (.b false))) else (some (.b false)) := by
  kernel_rfl

theorem ok124 : FOk 124 n124 := ⟨rfl, rfl, rfl, rfl, by kernel_rfl, by kernel_rfl, by kernel_rfl⟩


/-- burnish/burnishref14.reg -/
theorem t125 (G : Gl) (q : Q) (tl : Tl V) (x1 : LFunc) (x2 : Int) :
  stS G q [] [] none tl n125 [(eFunc x1), (eI x2)] = bif !(ltI x2 0) then (bif ltI x2 ((x1.regs.l.map eI).length : Int) then (some (.b true)) else (some (.b false))) else (some (.b false)) := by
  kernel_rfl

theorem ok125 : FOk 125 n125 := ⟨rfl, rfl, rfl, rfl, by kernel_rfl, by kernel_rfl, by kernel_rfl⟩


/-- burnish/burnishref12.count -/
theorem t126 (G : Gl) (q : Q) (tl : Tl V) (x1 : LInstr) (x2 : LModule) :
  stS G q [] [(30, (.one (ixH eFunc)))] none tl n126 [(eInstr x1), (eModule x2)] = bif eqI x1.op 1 then (some (.tup [(eI 0), (.b true)])) else (bif eqI x1.op 2 then (some (.tup [(eI 0), (.b true)])) else (bif eqI x1.op 25 then (some (.tup [(eI 0), (.b true)])) else (bif eqI x1.op 26 then (some (.tup [(eI 0), (.b true)])) else (bif eqI x1.op 3 then (some (.tup [(eI 1), (.b true)])) else (bif eqI x1.op 4 then (some (.tup [(eI 1), (.b true)])) else (bif eqI x1.op 22 then (some (.tup [(eI 1), (.b true)])) else (bif eqI x1.op 23 then (some (.tup [(eI 1), (.b true)])) else (bif eqI x1.op 24 then (some (.tup [(eI 1), (.b true)])) else (bif eqI x1.op 28 then (some (.tup [(eI 1), (.b true)])) else (bif eqI x1.op 31 then (some (.tup [(eI 1), (.b true)])) else (bif eqI x1.op 33 then (some (.tup [(eI 1), (.b true)])) else (bif eqI x1.op 21 then (some (.tup [(eI 3), (.b true)])) else (bif eqI x1.op 30 then (bnd (q.h (ixH eFunc) (.iaddr 5 (.t 27) (.t 29)) [(S.enc eFunc x2.funcs), (eI x1.sym)] ⟨2, 2, [true, true], []⟩) fun n1 => some (.tup [(eI ((n1.params.l.map eI).length : Int)), (.b true)])) else (bif eqI x1.op 32 then (bif eqI ((x1.args.l.map eI).length : Int) 2 then (some (.tup [(eI ((x1.args.l.map eI).length : Int)), (.b true)])) else (bif eqI ((x1.args.l.map eI).length : Int) 4 then (some (.tup [(eI ((x1.args.l.map eI).length : Int)), (.b true)])) else (some (.tup [(eI ((x1.args.l.map eI).length : Int)), (.b false)])))) else (some (.tup [(eI 2), (.b true)])))))))))))))))) := by
  kernel_rfl

theorem ok126 : FOk 126 n126 := ⟨rfl, rfl, rfl, rfl, by kernel_rfl, by kernel_rfl, by kernel_rfl⟩

abbrev k127_1 (tl : Tl V) (x1 : LInstr) (x2 : LModule) (x3 : Int) (x4 : Int) (x5 : Bool) : Option V := tl [2, 3, 5, 11, 16] [(.pe (eInstr x1) 0), (.pe (eModule x2) 0), (eI x3), (eI x4), (.b x5)] .emp
abbrev k127_2 (tl : Tl V) (x1 : LInstr) (x2 : LModule) (x3 : Int) (x4 : Int) (x5 : Bool) : Option V := tl [2, 3, 5, 11, 30] [(.pe (eInstr x1) 0), (.pe (eModule x2) 0), (eI x3), (eI x4), (.b x5)] .emp
abbrev k127_3 (tl : Tl V) (x1 : LInstr) (x2 : LModule) (x3 : Int) (x4 : Int) (x5 : Bool) : Option V := tl [2, 3, 5, 11, 44] [(.pe (eInstr x1) 0), (.pe (eModule x2) 0), (eI x3), (eI x4), (.b x5)] .emp
abbrev k127_4 (tl : Tl V) (x1 : LInstr) (x2 : LModule) (x3 : Int) (x4 : Int) (x5 : Bool) : Option V := tl [2, 3, 5, 11, 58] [(.pe (eInstr x1) 0), (.pe (eModule x2) 0), (eI x3), (eI x4), (.b x5)] .emp
abbrev k127_5 (tl : Tl V) (x1 : LInstr) (x2 : LModule) (x3 : Int) (x4 : Int) (x5 : Bool) : Option V := tl [2, 3, 5, 11, 66] [(.pe (eInstr x1) 0), (.pe (eModule x2) 0), (eI x3), (eI x4), (.b x5)] .emp
abbrev k127_6 (tl : Tl V) (x1 : LInstr) (x2 : LModule) (x3 : Int) (x4 : Int) (x5 : Bool) : Option V := tl [2, 3, 5, 11, 98] [(.pe (eInstr x1) 0), (.pe (eModule x2) 0), (eI x3), (eI x4), (.b x5)] .emp
abbrev k127_7 (tl : Tl V) (x1 : LInstr) (x2 : LModule) (x3 : Int) (x4 : Int) (x5 : Bool) : Option V := tl [2, 3, 5, 11, 113] [(.pe (eInstr x1) 0), (.pe (eModule x2) 0), (eI x3), (eI x4), (.b x5)] .emp
abbrev k127_8 (tl : Tl V) (x1 : Int) : Option V := tl [5] [(eI x1)] .emp

/-- burnish/burnishref12.result -/
theorem t127 (G : Gl) (q : Q) (tl : Tl V) (x1 : LInstr) (x2 : LModule) :
  stS G q [(187, .one ⟨Bool, V.b⟩)] [] none tl n127 [(eInstr x1), (eModule x2)] = bif eqI x1.op 1 then (bnd (q.c ⟨Bool, V.b⟩ 187 [(eI x1.ty)]) fun r1 => bif r1 then (some (.b true)) else (some (.b false))) else (bif eqI x1.op 2 then (k127_1 tl x1 x2 x1.ty x1.op true) else (bif eqI x1.op 4 then (k127_1 tl x1 x2 x1.ty x1.op true) else (bif eqI x1.op 21 then (k127_1 tl x1 x2 x1.ty x1.op true) else (k127_1 tl x1 x2 x1.ty x1.op false)))) := by
  kernel_rfl

/-- burnish/burnishref12.result, piece 1 -/
theorem t127_1 (G : Gl) (q : Q) (tl : Tl V) (x1 : LInstr) (x2 : LModule) (x3 : Int) (x4 : Int) (x5 : Bool) :
  pcS G q [(188, .one ⟨Bool, V.b⟩)] [] none tl n127 [2, 3, 5, 11, 16] [(.pe (eInstr x1) 0), (.pe (eModule x2) 0), (eI x3), (eI x4), (.b x5)] .emp = bif x5 then (bnd (q.c ⟨Bool, V.b⟩ 188 [(eI x3)]) fun r1 => bif r1 then (some (.b true)) else (some (.b false))) else (bif eqI x4 3 then (bnd (q.c ⟨Bool, V.b⟩ 188 [(eI x3)]) fun r2 => bif r2 then (bif !(eqI x3 5) then (some (.b true)) else (some (.b false))) else (some (.b false))) else (bif eqI x4 5 then (k127_2 tl x1 x2 x3 x4 true) else (bif eqI x4 6 then (k127_2 tl x1 x2 x3 x4 true) else (bif eqI x4 7 then (k127_2 tl x1 x2 x3 x4 true) else (k127_2 tl x1 x2 x3 x4 false))))) := by
  kernel_rfl

/-- burnish/burnishref12.result, piece 2 -/
theorem t127_2 (G : Gl) (q : Q) (tl : Tl V) (x1 : LInstr) (x2 : LModule) (x3 : Int) (x4 : Int) (x5 : Bool) :
  pcS G q [(189, .one ⟨Bool, V.b⟩)] [] none tl n127 [2, 3, 5, 11, 30] [(.pe (eInstr x1) 0), (.pe (eModule x2) 0), (eI x3), (eI x4), (.b x5)] .emp = bif x5 then (bnd (q.c ⟨Bool, V.b⟩ 189 [(eI x3)]) fun r1 => bif r1 then (some (.b true)) else (bif eqI x3 6 then (some (.b true)) else (bif eqI x3 7 then (some (.b true)) else (some (.b false))))) else (bif eqI x4 8 then (k127_3 tl x1 x2 x3 x4 true) else (bif eqI x4 9 then (k127_3 tl x1 x2 x3 x4 true) else (bif eqI x4 10 then (k127_3 tl x1 x2 x3 x4 true) else (k127_3 tl x1 x2 x3 x4 false)))) := by
  kernel_rfl

/-- burnish/burnishref12.result, piece 3 -/
theorem t127_3 (G : Gl) (q : Q) (tl : Tl V) (x1 : LInstr) (x2 : LModule) (x3 : Int) (x4 : Int) (x5 : Bool) :
  pcS G q [(187, .one ⟨Bool, V.b⟩)] [] none tl n127 [2, 3, 5, 11, 44] [(.pe (eInstr x1) 0), (.pe (eModule x2) 0), (eI x3), (eI x4), (.b x5)] .emp = bif x5 then (bnd (q.c ⟨Bool, V.b⟩ 187 [(eI x3)]) fun r1 => bif r1 then (some (.b true)) else (bif eqI x3 6 then (some (.b true)) else (bif eqI x3 7 then (some (.b true)) else (some (.b false))))) else (bif eqI x4 11 then (k127_4 tl x1 x2 x3 x4 true) else (bif eqI x4 12 then (k127_4 tl x1 x2 x3 x4 true) else (bif eqI x4 13 then (k127_4 tl x1 x2 x3 x4 true) else (bif eqI x4 14 then (k127_4 tl x1 x2 x3 x4 true) else (bif eqI x4 15 then (k127_4 tl x1 x2 x3 x4 true) else (k127_4 tl x1 x2 x3 x4 false)))))) := by
  kernel_rfl

/-- burnish/burnishref12.result, piece 4 -/
theorem t127_4 (G : Gl) (q : Q) (tl : Tl V) (x1 : LInstr) (x2 : LModule) (x3 : Int) (x4 : Int) (x5 : Bool) :
  pcS G q [(189, .one ⟨Bool, V.b⟩)] [] none tl n127 [2, 3, 5, 11, 58] [(.pe (eInstr x1) 0), (.pe (eModule x2) 0), (eI x3), (eI x4), (.b x5)] .emp = bif x5 then (bnd (q.c ⟨Bool, V.b⟩ 189 [(eI x3)]) fun r1 => bif r1 then (some (.b true)) else (some (.b false))) else (bif eqI x4 16 then (k127_5 tl x1 x2 x3 x4 true) else (bif eqI x4 17 then (k127_5 tl x1 x2 x3 x4 true) else (bif eqI x4 18 then (k127_5 tl x1 x2 x3 x4 true) else (bif eqI x4 19 then (k127_5 tl x1 x2 x3 x4 true) else (bif eqI x4 20 then (k127_5 tl x1 x2 x3 x4 true) else (k127_5 tl x1 x2 x3 x4 false)))))) := by
  kernel_rfl

/-- burnish/burnishref12.result, piece 5 -/
theorem t127_5 (G : Gl) (q : Q) (tl : Tl V) (x1 : LInstr) (x2 : LModule) (x3 : Int) (x4 : Int) (x5 : Bool) :
  pcS G q [(189, .one ⟨Bool, V.b⟩)] [] none tl n127 [2, 3, 5, 11, 66] [(.pe (eInstr x1) 0), (.pe (eModule x2) 0), (eI x3), (eI x4), (.b x5)] .emp = bif x5 then (bif eqI x3 1 then (some (.b true)) else (some (.b false))) else (bif eqI x4 22 then (bif eqI x3 3 then (some (.b true)) else (bif eqI x3 4 then (some (.b true)) else (some (.b false)))) else (bif eqI x4 23 then (bnd (q.c ⟨Bool, V.b⟩ 189 [(eI x3)]) fun r1 => bif r1 then (some (.b true)) else (some (.b false))) else (bif eqI x4 24 then (bif eqI x3 1 then (some (.b true)) else (bif eqI x3 2 then (some (.b true)) else (bif eqI x3 3 then (some (.b true)) else (some (.b false))))) else (bif eqI x4 25 then (k127_6 tl x1 x2 x3 x4 true) else (bif eqI x4 26 then (k127_6 tl x1 x2 x3 x4 true) else (bif eqI x4 27 then (k127_6 tl x1 x2 x3 x4 true) else (k127_6 tl x1 x2 x3 x4 false))))))) := by
  kernel_rfl

/-- burnish/burnishref12.result, piece 6 -/
theorem t127_6 (G : Gl) (q : Q) (tl : Tl V) (x1 : LInstr) (x2 : LModule) (x3 : Int) (x4 : Int) (x5 : Bool) :
  pcS G q [(129, .one ⟨Int × Int, fun r => .tup [eI r.1, eI r.2]⟩)] [] none tl n127 [2, 3, 5, 11, 98] [(.pe (eInstr x1) 0), (.pe (eModule x2) 0), (eI x3), (eI x4), (.b x5)] .emp = bif x5 then (bif eqI x3 5 then (some (.b true)) else (some (.b false))) else (bif eqI x4 28 then (bnd (q.c ⟨Int × Int, fun r => .tup [eI r.1, eI r.2]⟩ 129 [(eI x3)]) fun r1 => bif ltI 0 r1.2 then (some (.b true)) else (some (.b false))) else (bif eqI x4 29 then (k127_7 tl x1 x2 x3 x4 true) else (bif eqI x4 31 then (k127_7 tl x1 x2 x3 x4 true) else (k127_7 tl x1 x2 x3 x4 false)))) := by
  kernel_rfl

/-- burnish/burnishref12.result, piece 7 -/
theorem t127_7 (G : Gl) (q : Q) (tl : Tl V) (x1 : LInstr) (x2 : LModule) (x3 : Int) (x4 : Int) (x5 : Bool) :
  pcS G q [] [(125, (.one (ixH eFunc)))] none tl n127 [2, 3, 5, 11, 113] [(.pe (eInstr x1) 0), (.pe (eModule x2) 0), (eI x3), (eI x4), (.b x5)] .emp = bif x5 then (bif eqI x3 0 then (some (.b true)) else (some (.b false))) else (bif eqI x4 30 then (bnd (q.h (ixH eFunc) (.iaddr 5 (.t 122) (.t 124)) [(S.enc eFunc x2.funcs), (eI x1.sym)] .emp) fun n1 => bif eqI x3 n1.result then (some (.b true)) else (some (.b false))) else (bif eqI x4 32 then (bif eqI x3 6 then (bif eqI ((x1.args.l.map eI).length : Int) 2 then (some (.b true)) else (bif eqI x3 7 then (bif eqI ((x1.args.l.map eI).length : Int) 4 then (some (.b true)) else (some (.b false))) else (some (.b false)))) else (bif eqI x3 7 then (bif eqI ((x1.args.l.map eI).length : Int) 4 then (some (.b true)) else (some (.b false))) else (some (.b false)))) else (k127_8 tl x3))) := by
  kernel_rfl

/-- burnish/burnishref12.result, piece 8 -/
theorem t127_8 (G : Gl) (q : Q) (tl : Tl V) (x1 : Int) :
  pcS G q [] [] none tl n127 [5] [(eI x1)] .emp = bif eqI x1 3 then (some (.b true)) else (some (.b false)) := by
  kernel_rfl

theorem ok127 : FOk 127 n127 := ⟨rfl, rfl, rfl, rfl, by kernel_rfl, by kernel_rfl, by kernel_rfl⟩

abbrev k128_1 (tl : Tl V) (x1 : Int) (x2 : Int) (x3 : Int) (x4 : LInstr) (x5 : LModule) (x6 : Int) (x7 : Int) (x8 : Int) (x9 : Bool) : Option V := tl [2, 3, 4, 5, 6, 11, 12, 23, 24] [(eI x1), (eI x2), (eI x3), (.pe (eInstr x4) 0), (.pe (eModule x5) 0), (eI x6), (eI x7), (eI x8), (.b x9)] .emp
abbrev k128_2 (tl : Tl V) (x1 : Int) (x2 : Int) (x3 : Int) (x4 : LInstr) (x5 : LModule) (x6 : Int) (x7 : Int) (x8 : Int) (x9 : Bool) : Option V := tl [2, 3, 4, 5, 6, 11, 12, 23, 38] [(eI x1), (eI x2), (eI x3), (.pe (eInstr x4) 0), (.pe (eModule x5) 0), (eI x6), (eI x7), (eI x8), (.b x9)] .emp
abbrev k128_3 (tl : Tl V) (x1 : Int) (x2 : LInstr) : Option V := tl [3, 5] [(eI x1), (.pe (eInstr x2) 0)] .emp

/-- burnish/burnishref12.operand -/
theorem t128 (G : Gl) (q : Q) (tl : Tl V) (x1 : LInstr) (x2 : LModule) (x3 : Int) (x4 : Int) (x5 : Int) :
  stS G q [(190, .one ⟨Int, eI⟩)] [] none tl n128 [(eInstr x1), (eModule x2), (eI x3), (eI x4), (eI x5)] = bnd (q.c ⟨Int, eI⟩ 190 [(eI x4)]) fun r1 => bnd (q.c ⟨Int, eI⟩ 190 [(eI x1.ty)]) fun r2 => bif eqI x1.op 16 then (k128_1 tl x3 x4 x5 x1 x2 r1 r2 x1.op true) else (bif eqI x1.op 17 then (k128_1 tl x3 x4 x5 x1 x2 r1 r2 x1.op true) else (k128_1 tl x3 x4 x5 x1 x2 r1 r2 x1.op false)) := by
  kernel_rfl

/-- burnish/burnishref12.operand, piece 1 -/
theorem t128_1 (G : Gl) (q : Q) (tl : Tl V) (x1 : Int) (x2 : Int) (x3 : Int) (x4 : LInstr) (x5 : LModule) (x6 : Int) (x7 : Int) (x8 : Int) (x9 : Bool) :
  pcS G q [(187, .one ⟨Bool, V.b⟩)] [] none tl n128 [2, 3, 4, 5, 6, 11, 12, 23, 24] [(eI x1), (eI x2), (eI x3), (.pe (eInstr x4) 0), (.pe (eModule x5) 0), (eI x6), (eI x7), (eI x8), (.b x9)] .emp = bif x9 then (bif eqI x2 x3 then (bnd (q.c ⟨Bool, V.b⟩ 187 [(eI x2)]) fun r1 => bif r1 then (some (.b true)) else (bif eqI x2 5 then (some (.b true)) else (some (.b false)))) else (some (.b false))) else (bif eqI x8 18 then (k128_2 tl x1 x2 x3 x4 x5 x6 x7 x8 true) else (bif eqI x8 19 then (k128_2 tl x1 x2 x3 x4 x5 x6 x7 x8 true) else (bif eqI x8 20 then (k128_2 tl x1 x2 x3 x4 x5 x6 x7 x8 true) else (k128_2 tl x1 x2 x3 x4 x5 x6 x7 x8 false)))) := by
  kernel_rfl

/-- burnish/burnishref12.operand, piece 2 -/
theorem t128_2 (G : Gl) (q : Q) (tl : Tl V) (x1 : Int) (x2 : Int) (x3 : Int) (x4 : LInstr) (x5 : LModule) (x6 : Int) (x7 : Int) (x8 : Int) (x9 : Bool) :
  pcS G q [(129, .one ⟨Int × Int, fun r => .tup [eI r.1, eI r.2]⟩), (188, .one ⟨Bool, V.b⟩), (189, .one ⟨Bool, V.b⟩)] [(153, (.one (ixH eFunc))), (158, (.one (ixH eI))), (174, (.one (ixH eI)))] none tl n128 [2, 3, 4, 5, 6, 11, 12, 23, 38] [(eI x1), (eI x2), (eI x3), (.pe (eInstr x4) 0), (.pe (eModule x5) 0), (eI x6), (eI x7), (eI x8), (.b x9)] .emp = bif x9 then (bif eqI x2 x3 then (bnd (q.c ⟨Bool, V.b⟩ 189 [(eI x2)]) fun r1 => bif r1 then (some (.b true)) else (some (.b false))) else (some (.b false))) else (bif eqI x8 21 then (bif eqI x1 0 then (bif eqI x2 1 then (some (.b true)) else (bif ltI 0 x1 then (bif eqI x2 x4.ty then (some (.b true)) else (some (.b false))) else (some (.b false)))) else (bif ltI 0 x1 then (bif eqI x2 x4.ty then (some (.b true)) else (some (.b false))) else (some (.b false)))) else (bif eqI x8 22 then (bif eqI x2 2 then (bif ltI x6 x7 then (some (.b true)) else (some (.b false))) else (bif eqI x2 3 then (bif ltI x6 x7 then (some (.b true)) else (some (.b false))) else (some (.b false)))) else (bif eqI x8 23 then (bif eqI x2 1 then (bif ltI x6 x7 then (some (.b true)) else (some (.b false))) else (bif eqI x2 2 then (bif ltI x6 x7 then (some (.b true)) else (some (.b false))) else (bif eqI x2 3 then (bif ltI x6 x7 then (some (.b true)) else (some (.b false))) else (some (.b false))))) else (bif eqI x8 24 then (bnd (q.c ⟨Bool, V.b⟩ 189 [(eI x2)]) fun r2 => bif r2 then (bif ltI x7 x6 then (some (.b true)) else (some (.b false))) else (some (.b false))) else (bif eqI x8 27 then (bif eqI x1 0 then (bif eqI x2 5 then (some (.b true)) else (bif eqI x1 1 then (bif eqI x2 4 then (some (.b true)) else (some (.b false))) else (some (.b false)))) else (bif eqI x1 1 then (bif eqI x2 4 then (some (.b true)) else (some (.b false))) else (some (.b false)))) else (bif eqI x8 28 then (bif eqI x2 5 then (some (.b true)) else (some (.b false))) else (bif eqI x8 29 then (bnd (q.c ⟨Int × Int, fun r => .tup [eI r.1, eI r.2]⟩ 129 [(eI x2)]) fun r3 => bif eqI x1 0 then (bif eqI x2 5 then (some (.b true)) else (bif eqI x1 1 then (bif ltI 0 r3.2 then (some (.b true)) else (some (.b false))) else (some (.b false)))) else (bif eqI x1 1 then (bif ltI 0 r3.2 then (some (.b true)) else (some (.b false))) else (some (.b false)))) else (bif eqI x8 30 then (bnd (q.h (ixH eFunc) (.iaddr 5 (.t 150) (.t 152)) [(S.enc eFunc x5.funcs), (eI x4.sym)] .emp) fun n4 => bnd (q.h (ixH eI) (.iaddr 1 (.t 156) (.t 157)) [(S.enc eI n4.params), (eI x1)] ⟨2, 1, [true], []⟩) fun n5 => bif !(ltI n5 0) then (bif ltI n5 ((n4.regs.l.map eI).length : Int) then (bnd (q.h (ixH eI) (.iaddr 1 (.t 172) (.t 173)) [(S.enc eI n4.regs), (eI n5)] ⟨2, 1, [true], []⟩) fun n6 => bif eqI x2 n6 then (some (.b true)) else (some (.b false))) else (some (.b false))) else (some (.b false))) else (bif eqI x8 31 then (bnd (q.c ⟨Bool, V.b⟩ 188 [(eI x2)]) fun r7 => bif r7 then (some (.b true)) else (some (.b false))) else (bif eqI x8 32 then (bif eqI x2 3 then (some (.b true)) else (some (.b false))) else (bif eqI x8 33 then (bif eqI x2 6 then (some (.b true)) else (bif eqI x2 7 then (some (.b true)) else (some (.b false)))) else (k128_3 tl x2 x4)))))))))))) := by
  kernel_rfl

/-- burnish/burnishref12.operand, piece 3 -/
theorem t128_3 (G : Gl) (q : Q) (tl : Tl V) (x1 : Int) (x2 : LInstr) :
  pcS G q [] [] none tl n128 [3, 5] [(eI x1), (.pe (eInstr x2) 0)] .emp = bif eqI x1 x2.ty then (some (.b true)) else (some (.b false)) := by
  kernel_rfl

theorem ok128 : FOk 128 n128 := ⟨rfl, rfl, rfl, rfl, by kernel_rfl, by kernel_rfl, by kernel_rfl⟩


/-- burnish/burnishref12.Access -/
theorem t129 (G : Gl) (q : Q) (tl : Tl V) (x1 : Int) :
  stS G q [] [] none tl n129 [(eI x1)] = bif eqI x1 2 then (some (.tup [(eI x1), (eI 1)])) else (bif eqI x1 3 then (some (.tup [(eI x1), (eI 1)])) else (bif eqI x1 4 then (some (.tup [(eI x1), (eI 1)])) else (bif eqI x1 5 then (some (.tup [(eI x1), (eI 1)])) else (bif eqI x1 6 then (some (.tup [(eI 3), (eI 2)])) else (bif eqI x1 7 then (some (.tup [(eI 3), (eI 4)])) else (some (.tup [(eI 0), (eI 0)]))))))) := by
  kernel_rfl

theorem ok129 : FOk 129 n129 := ⟨rfl, rfl, rfl, rfl, by kernel_rfl, by kernel_rfl, by kernel_rfl⟩


/-- burnish/burnishref01.Wrap -/
theorem t130 (G : Gl) (q : Q) (tl : Tl V) (x1 : Int) (x2 : Int) :
  stS G q [(190, .one ⟨Int, eI⟩), (191, .one ⟨Int, (V.i .u64)⟩)] [] none tl n130 [(eI x1), (eI x2)] = bnd (q.c ⟨Int, (V.i .u64)⟩ 191 [(eI x1), (eI x2)]) fun r1 => bnd (q.c ⟨Int, eI⟩ 190 [(eI x1)]) fun r2 => bif eqI r2 8 then (bif !(ltI r1 128) then (some (eI (IntKind.wrap .i64 ((IntKind.wrap .i64 r1) - 256)))) else (some (eI (IntKind.wrap .i64 r1)))) else (bif eqI r2 32 then (bif !(ltI r1 2147483648) then (some (eI (IntKind.wrap .i64 ((IntKind.wrap .i64 r1) - 4294967296)))) else (some (eI (IntKind.wrap .i64 r1)))) else (some (eI (IntKind.wrap .i64 r1)))) := by
  kernel_rfl

theorem ok130 : FOk 130 n130 := ⟨rfl, rfl, rfl, rfl, by kernel_rfl, by kernel_rfl, by kernel_rfl⟩


/-- burnish/burnishref14.shape -/
theorem t131 (G : Gl) (q : Q) (tl : Tl V) (x1 : LModule) (x2 : LFunc) (x3 : LTerm) :
  stS G q [] [(105, (.one (ixH eFunc)))] none tl n131 [(eModule x1), (eFunc x2), (eTerm x3)] = bif !(eqI x3.kind 6) then (bif !(eqI x3.sym 0) then (some (.b false)) else (bif eqI x3.kind 1 then (bif eqI ((x3.args.l.map eI).length : Int) 0 then (bif eqI ((x3.cases.l.map eI).length : Int) 0 then (bif eqI ((x3.succs.l.map eEdge).length : Int) 1 then (some (.b true)) else (some (.b false))) else (some (.b false))) else (some (.b false))) else (bif eqI x3.kind 2 then (bif eqI ((x3.args.l.map eI).length : Int) 1 then (bif eqI ((x3.cases.l.map eI).length : Int) 0 then (bif eqI ((x3.succs.l.map eEdge).length : Int) 2 then (some (.b true)) else (some (.b false))) else (some (.b false))) else (some (.b false))) else (bif eqI x3.kind 3 then (bif eqI ((x3.args.l.map eI).length : Int) 1 then (bif eqI ((x3.succs.l.map eEdge).length : Int) (IntKind.wrap .i64 (((x3.cases.l.map eI).length : Int) + 1)) then (some (.b true)) else (some (.b false))) else (some (.b false))) else (bif eqI x3.kind 4 then (bif eqI x2.result 0 then (bif eqI ((x3.args.l.map eI).length : Int) 0 then (bif eqI ((x3.cases.l.map eI).length : Int) 0 then (bif eqI ((x3.succs.l.map eEdge).length : Int) 0 then (some (.b true)) else (some (.b false))) else (some (.b false))) else (some (.b false))) else (bif eqI ((x3.args.l.map eI).length : Int) 1 then (bif eqI ((x3.cases.l.map eI).length : Int) 0 then (bif eqI ((x3.succs.l.map eEdge).length : Int) 0 then (some (.b true)) else (some (.b false))) else (some (.b false))) else (some (.b false)))) else (bif eqI x3.kind 5 then (bif eqI ((x3.args.l.map eI).length : Int) 0 then (bif eqI ((x3.cases.l.map eI).length : Int) 1 then (bif eqI ((x3.succs.l.map eEdge).length : Int) 0 then (some (.b true)) else (some (.b false))) else (some (.b false))) else (some (.b false))) else (bnd (q.h (ixH eFunc) (.iaddr 5 (.t 102) (.t 104)) [(S.enc eFunc x1.funcs), (eI x3.sym)] ⟨3, 3, [true, true, true], []⟩) fun n1 => bif eqI ((x3.args.l.map eI).length : Int) ((n1.params.l.map eI).length : Int) then (bif eqI ((x3.cases.l.map eI).length : Int) 0 then (bif eqI ((x3.succs.l.map eEdge).length : Int) 0 then (some (.b true)) else (some (.b false))) else (some (.b false))) else (some (.b false))))))))) else (bif eqI x3.kind 1 then (bif eqI ((x3.args.l.map eI).length : Int) 0 then (bif eqI ((x3.cases.l.map eI).length : Int) 0 then (bif eqI ((x3.succs.l.map eEdge).length : Int) 1 then (some (.b true)) else (some (.b false))) else (some (.b false))) else (some (.b false))) else (bif eqI x3.kind 2 then (bif eqI ((x3.args.l.map eI).length : Int) 1 then (bif eqI ((x3.cases.l.map eI).length : Int) 0 then (bif eqI ((x3.succs.l.map eEdge).length : Int) 2 then (some (.b true)) else (some (.b false))) else (some (.b false))) else (some (.b false))) else (bif eqI x3.kind 3 then (bif eqI ((x3.args.l.map eI).length : Int) 1 then (bif eqI ((x3.succs.l.map eEdge).length : Int) (IntKind.wrap .i64 (((x3.cases.l.map eI).length : Int) + 1)) then (some (.b true)) else (some (.b false))) else (some (.b false))) else (bif eqI x3.kind 4 then (bif eqI x2.result 0 then (bif eqI ((x3.args.l.map eI).length : Int) 0 then (bif eqI ((x3.cases.l.map eI).length : Int) 0 then (bif eqI ((x3.succs.l.map eEdge).length : Int) 0 then (some (.b true)) else (some (.b false))) else (some (.b false))) else (some (.b false))) else (bif eqI ((x3.args.l.map eI).length : Int) 1 then (bif eqI ((x3.cases.l.map eI).length : Int) 0 then (bif eqI ((x3.succs.l.map eEdge).length : Int) 0 then (some (.b true)) else (some (.b false))) else (some (.b false))) else (some (.b false)))) else (bif eqI x3.kind 5 then (bif eqI ((x3.args.l.map eI).length : Int) 0 then (bif eqI ((x3.cases.l.map eI).length : Int) 1 then (bif eqI ((x3.succs.l.map eEdge).length : Int) 0 then (some (.b true)) else (some (.b false))) else (some (.b false))) else (some (.b false))) else (bnd (q.h (ixH eFunc) (.iaddr 5 (.t 102) (.t 104)) [(S.enc eFunc x1.funcs), (eI x3.sym)] ⟨3, 3, [true, true, true], []⟩) fun n2 => bif eqI ((x3.args.l.map eI).length : Int) ((n2.params.l.map eI).length : Int) then (bif eqI ((x3.cases.l.map eI).length : Int) 0 then (bif eqI ((x3.succs.l.map eEdge).length : Int) 0 then (some (.b true)) else (some (.b false))) else (some (.b false))) else (some (.b false)))))))) := by
  kernel_rfl

theorem ok131 : FOk 131 n131 := ⟨rfl, rfl, rfl, rfl, by kernel_rfl, by kernel_rfl, by kernel_rfl⟩


/-- burnish/burnishref14.typed -/
theorem t132 (G : Gl) (q : Q) (tl : Tl V) (x1 : LModule) (x2 : LFunc) (x3 : LTerm) (x4 : Int) (x5 : Int) :
  stS G q [(125, .one ⟨Bool, V.b⟩)] [(36, (.one (ixH eFunc))), (42, (.one (ixH eI))), (52, (.one (ixH eI))), (54, (.one (ixH eI)))] none tl n132 [(eModule x1), (eFunc x2), (eTerm x3), (eI x4), (eI x5)] = bif eqI x3.kind 2 then (bif eqI x5 1 then (some (.b true)) else (some (.b false))) else (bif eqI x3.kind 3 then (bif eqI x5 3 then (some (.b true)) else (bif eqI x5 4 then (some (.b true)) else (some (.b false)))) else (bif eqI x3.kind 4 then (bif eqI x5 x2.result then (some (.b true)) else (some (.b false))) else (bnd (q.h (ixH eFunc) (.iaddr 5 (.t 33) (.t 35)) [(S.enc eFunc x1.funcs), (eI x3.sym)] ⟨3, 3, [true, true, true], []⟩) fun n1 => bnd (q.h (ixH eI) (.iaddr 1 (.t 40) (.t 41)) [(S.enc eI n1.params), (eI x4)] ⟨5, 4, [true, true, true], []⟩) fun n2 => bnd (q.c ⟨Bool, V.b⟩ 125 [(eFunc n1), (eI n2)]) fun r3 => bif r3 then (bnd (q.h (ixH eI) (.iaddr 1 (.t 50) (.t 51)) [(S.enc eI n1.params), (eI x4)] ⟨5, 4, [true, true, true], []⟩) fun n4 => bnd (q.h (ixH eI) (.iaddr 1 (.t 48) (.t 53)) [(S.enc eI n1.regs), (eI n4)] ⟨5, 4, [true, true, true], []⟩) fun n5 => bif eqI x5 n5 then (some (.b true)) else (some (.b false))) else (some (.b false))))) := by
  kernel_rfl

theorem ok132 : FOk 132 n132 := ⟨rfl, rfl, rfl, rfl, by kernel_rfl, by kernel_rfl, by kernel_rfl⟩

abbrev k133_1 (tl : Tl V) (x1 : LFunc) (x2 : LTerm) (x3 : Int) (x4 : S Int) (x5 : Int) (x6 : Int) : Option V := tl [2, 3, 4, 8, 9, 10] [(.pe (eFunc x1) 0), (.pe (eTerm x2) 0), (eI x3), (S.enc eI x4), (eI x5), (eI x6)] .emp

/-- burnish/burnishref14.cases -/
theorem t133 (G : Gl) (q : Q) (tl : Tl V) (x1 : LFunc) (x2 : LTerm) :
  stS G q [] [] none tl n133 [(eFunc x1), (eTerm x2)] = k133_1 tl x1 x2 0 x2.cases ((x2.cases.l.map eI).length : Int) 0 := by
  kernel_rfl

/-- burnish/burnishref14.cases, piece 1 -/
theorem t133_1 (G : Gl) (q : Q) (tl : Tl V) (x1 : LFunc) (x2 : LTerm) (x3 : Int) (x4 : S Int) (x5 : Int) (x6 : Int) :
  pcS G q [(123, .one ⟨Bool, V.b⟩), (192, .one ⟨Bool, V.b⟩)] [(13, (.one (ixH eI))), (23, (.one (ixH eI))), (25, (.one (ixH eI))), (47, (.one (vlH (S.enc eI))))] none tl n133 [2, 3, 4, 8, 9, 10] [(.pe (eFunc x1) 0), (.pe (eTerm x2) 0), (eI x3), (S.enc eI x4), (eI x5), (eI x6)] .emp = bif ltI x6 x5 then (bnd (q.h (ixH eI) (.iaddr 1 (.t 8) (.t 10)) [(S.enc eI x4), (eI x6)] .emp) fun n1 => bif eqI x2.kind 3 then (bnd (q.h (ixH eI) (.iaddr 1 (.t 22) (.c (.int .i64 0))) [(S.enc eI x2.args), (eI 0)] .emp) fun n2 => bnd (q.h (ixH eI) (.iaddr 1 (.t 20) (.t 24)) [(S.enc eI x1.regs), (eI n2)] .emp) fun n3 => bnd (q.c ⟨Bool, V.b⟩ 123 [(eI n3), (eI n1)]) fun r4 => bif r4 then (bif eqI x2.kind 5 then (bif ltI n1 16 then (some (eI 10)) else (bif ltI 255 n1 then (some (eI 10)) else (bnd (q.h (vlH (S.enc eI)) (.slice 1 (.t 45) none (some (.t 46)) none) [(S.enc eI x2.cases), (eI x6)] .emp) fun s5 => bnd (q.c ⟨Bool, V.b⟩ 192 [(S.enc eI s5), (eI n1)]) fun r6 => bif r6 then (some (eI 7)) else (k133_1 tl x1 x2 x3 x4 x5 (IntKind.wrap .i64 (x6 + 1)))))) else (bnd (q.h (vlH (S.enc eI)) (.slice 1 (.t 45) none (some (.t 46)) none) [(S.enc eI x2.cases), (eI x6)] .emp) fun s7 => bnd (q.c ⟨Bool, V.b⟩ 192 [(S.enc eI s7), (eI n1)]) fun r8 => bif r8 then (some (eI 7)) else (k133_1 tl x1 x2 x3 x4 x5 (IntKind.wrap .i64 (x6 + 1))))) else (some (eI 10))) else (bif eqI x2.kind 5 then (bif ltI n1 16 then (some (eI 10)) else (bif ltI 255 n1 then (some (eI 10)) else (bnd (q.h (vlH (S.enc eI)) (.slice 1 (.t 45) none (some (.t 46)) none) [(S.enc eI x2.cases), (eI x6)] .emp) fun s9 => bnd (q.c ⟨Bool, V.b⟩ 192 [(S.enc eI s9), (eI n1)]) fun r10 => bif r10 then (some (eI 7)) else (k133_1 tl x1 x2 x3 x4 x5 (IntKind.wrap .i64 (x6 + 1)))))) else (bnd (q.h (vlH (S.enc eI)) (.slice 1 (.t 45) none (some (.t 46)) none) [(S.enc eI x2.cases), (eI x6)] .emp) fun s11 => bnd (q.c ⟨Bool, V.b⟩ 192 [(S.enc eI s11), (eI n1)]) fun r12 => bif r12 then (some (eI 7)) else (k133_1 tl x1 x2 x3 x4 x5 (IntKind.wrap .i64 (x6 + 1)))))) else (some (eI 0)) := by
  kernel_rfl

theorem ok133 : FOk 133 n133 := ⟨rfl, rfl, rfl, rfl, by kernel_rfl, by kernel_rfl, by kernel_rfl⟩

abbrev k134_1 (tl : Tl V) (x1 : LFunc) (x2 : Int) (x3 : S Int) (x4 : S Int) (x5 : Int) (x6 : Int) : Option V := tl [2, 4, 5, 42, 43, 44] [(.pe (eFunc x1) 0), (eI x2), (S.enc eI x3), (S.enc eI x4), (eI x5), (eI x6)] .emp

/-- burnish/burnishref14.edge -/
theorem t134 (G : Gl) (q : Q) (tl : Tl V) (x1 : LFunc) (x2 : LEdge) :
  stS G q [] [(26, (.one (ixH eBlock)))] none tl n134 [(eFunc x1), (eEdge x2)] = bif ltI x2.block 0 then (some (eI 8)) else (bif !(ltI x2.block ((x1.blocks.l.map eBlock).length : Int)) then (some (eI 8)) else (bif eqI x2.block 0 then (some (eI 3)) else (bnd (q.h (ixH eBlock) (.iaddr 7 (.t 23) (.t 25)) [(S.enc eBlock x1.blocks), (eI x2.block)] ⟨2, 2, [true, true], []⟩) fun n1 => bif ltI ((x2.args.l.map eI).length : Int) ((n1.params.l.map eI).length : Int) then (some (eI 4)) else (bif ltI ((n1.params.l.map eI).length : Int) ((x2.args.l.map eI).length : Int) then (some (eI 5)) else (k134_1 tl x1 0 n1.params x2.args ((x2.args.l.map eI).length : Int) 0))))) := by
  kernel_rfl

/-- burnish/burnishref14.edge, piece 1 -/
theorem t134_1 (G : Gl) (q : Q) (tl : Tl V) (x1 : LFunc) (x2 : Int) (x3 : S Int) (x4 : S Int) (x5 : Int) (x6 : Int) :
  pcS G q [(125, .one ⟨Bool, V.b⟩)] [(47, (.one (ixH eI))), (56, (.one (ixH eI))), (64, (.one (ixH eI))), (70, (.one (ixH eI))), (72, (.one (ixH eI)))] none tl n134 [2, 4, 5, 42, 43, 44] [(.pe (eFunc x1) 0), (eI x2), (S.enc eI x3), (S.enc eI x4), (eI x5), (eI x6)] .emp = bif ltI x6 x5 then (bnd (q.h (ixH eI) (.iaddr 1 (.t 42) (.t 44)) [(S.enc eI x4), (eI x6)] .emp) fun n1 => bnd (q.c ⟨Bool, V.b⟩ 125 [(eFunc x1), (eI n1)]) fun r2 => bif r2 then (bnd (q.h (ixH eI) (.iaddr 1 (.t 54) (.t 55)) [(S.enc eI x3), (eI x6)] .emp) fun n3 => bnd (q.c ⟨Bool, V.b⟩ 125 [(eFunc x1), (eI n3)]) fun r4 => bif r4 then (bnd (q.h (ixH eI) (.iaddr 1 (.t 62) (.t 63)) [(S.enc eI x1.regs), (eI n1)] .emp) fun n5 => bnd (q.h (ixH eI) (.iaddr 1 (.t 68) (.t 69)) [(S.enc eI x3), (eI x6)] .emp) fun n6 => bnd (q.h (ixH eI) (.iaddr 1 (.t 67) (.t 71)) [(S.enc eI x1.regs), (eI n6)] .emp) fun n7 => bif !(eqI n5 n7) then (some (eI 9)) else (k134_1 tl x1 x2 x3 x4 x5 (IntKind.wrap .i64 (x6 + 1)))) else (some (eI 9))) else (some (eI 10))) else (some (eI 0)) := by
  kernel_rfl

theorem ok134 : FOk 134 n134 := ⟨rfl, rfl, rfl, rfl, by kernel_rfl, by kernel_rfl, by kernel_rfl⟩

abbrev k135_1 (tl : Tl V) (x1 : S Int) (x2 : Int) (x3 : Int) (x4 : Int) (x5 : Int) : Option V := tl [0, 1, 4, 7, 8] [(S.enc eI x1), (eI x2), (eI x3), (eI x4), (eI x5)] .emp

/-- slices.Index[[]int,int] -/
theorem t135 (G : Gl) (q : Q) (tl : Tl V) (x1 : S Int) (x2 : Int) :
  stS G q [] [] none tl n135 [(S.enc eI x1), (eI x2)] = k135_1 tl x1 x2 0 ((x1.l.map eI).length : Int) 0 := by
  kernel_rfl

/-- slices.Index[[]int,int], piece 1 -/
theorem t135_1 (G : Gl) (q : Q) (tl : Tl V) (x1 : S Int) (x2 : Int) (x3 : Int) (x4 : Int) (x5 : Int) :
  pcS G q [] [(14, (.one (ixH eI)))] none tl n135 [0, 1, 4, 7, 8] [(S.enc eI x1), (eI x2), (eI x3), (eI x4), (eI x5)] .emp = bif ltI x5 x4 then (bnd (q.h (ixH eI) (.iaddr 1 (.t 12) (.t 13)) [(S.enc eI x1), (eI x5)] .emp) fun n1 => bif eqI x2 n1 then (some (eI x5)) else (k135_1 tl x1 x2 x3 x4 (IntKind.wrap .i64 (x5 + 1)))) else (some (eI (-1))) := by
  kernel_rfl

theorem ok135 : FOk 135 n135 := ⟨rfl, rfl, rfl, rfl, by kernel_rfl, by kernel_rfl, by kernel_rfl⟩


/-- burnish/burnishref13.IsIdent -/
theorem t185 (G : Gl) (q : Q) (tl : Tl V) (x1 : ByteArray) :
  stS G q [(220, .one ⟨Bool, V.b⟩), (221, .one ⟨Int, eI⟩)] [(13, (.one (vlH (V.i .u8))))] none tl n185 [(.s x1)] = bif !(ltI (x1.size : Int) 1) then (bif !(ltI 24 (x1.size : Int)) then (bnd (q.h (vlH (V.i .u8)) (.strindex (.t 12) (.c (.int .i64 0))) [(.s x1), (eI 0)] .emp) fun c1 => bnd (q.c ⟨Bool, V.b⟩ 220 [(.i .u8 c1)]) fun r2 => bif r2 then (bnd (q.c ⟨Int, eI⟩ 221 [(.s x1), (eI 0), (.b true)]) fun r3 => bif eqI r3 (x1.size : Int) then (some (.b true)) else (some (.b false))) else (some (.b false))) else (some (.b false))) else (some (.b false)) := by
  kernel_rfl

theorem ok185 : FOk 185 n185 := ⟨rfl, rfl, rfl, rfl, by kernel_rfl, by kernel_rfl, by kernel_rfl⟩


/-- burnish/burnishref14.isInt -/
theorem t186 (G : Gl) (q : Q) (tl : Tl V) (x1 : Int) :
  stS G q [] [] none tl n186 [(eI x1)] = bif !(ltI x1 1) then (bif !(ltI 4 x1) then (some (.b true)) else (some (.b false))) else (some (.b false)) := by
  kernel_rfl

theorem ok186 : FOk 186 n186 := ⟨rfl, rfl, rfl, rfl, by kernel_rfl, by kernel_rfl, by kernel_rfl⟩


/-- burnish/burnishref12.Integer -/
theorem t187 (G : Gl) (q : Q) (tl : Tl V) (x1 : Int) :
  stS G q [(189, .one ⟨Bool, V.b⟩)] [] none tl n187 [(eI x1)] = bif eqI x1 1 then (some (.b true)) else (bnd (q.c ⟨Bool, V.b⟩ 189 [(eI x1)]) fun r1 => bif r1 then (some (.b true)) else (some (.b false))) := by
  kernel_rfl

theorem ok187 : FOk 187 n187 := ⟨rfl, rfl, rfl, rfl, by kernel_rfl, by kernel_rfl, by kernel_rfl⟩


/-- burnish/burnishref12.Any -/
theorem t188 (G : Gl) (q : Q) (tl : Tl V) (x1 : Int) :
  stS G q [] [] none tl n188 [(eI x1)] = bif !(ltI x1 1) then (bif !(ltI 7 x1) then (some (.b true)) else (some (.b false))) else (some (.b false)) := by
  kernel_rfl

theorem ok188 : FOk 188 n188 := ⟨rfl, rfl, rfl, rfl, by kernel_rfl, by kernel_rfl, by kernel_rfl⟩


/-- burnish/burnishref12.Wide -/
theorem t189 (G : Gl) (q : Q) (tl : Tl V) (x1 : Int) :
  stS G q [] [] none tl n189 [(eI x1)] = bif eqI x1 2 then (some (.b true)) else (bif eqI x1 3 then (some (.b true)) else (bif eqI x1 4 then (some (.b true)) else (some (.b false)))) := by
  kernel_rfl

theorem ok189 : FOk 189 n189 := ⟨rfl, rfl, rfl, rfl, by kernel_rfl, by kernel_rfl, by kernel_rfl⟩


/-- burnish/burnishref01.Bits -/
theorem t190 (G : Gl) (q : Q) (tl : Tl V) (x1 : Int) :
  stS G q [] [] none tl n190 [(eI x1)] = bif eqI x1 1 then (some (eI 1)) else (bif eqI x1 2 then (some (eI 8)) else (bif eqI x1 3 then (some (eI 32)) else (bif eqI x1 4 then (some (eI 64)) else (some (eI 0))))) := by
  kernel_rfl

theorem ok190 : FOk 190 n190 := ⟨rfl, rfl, rfl, rfl, by kernel_rfl, by kernel_rfl, by kernel_rfl⟩


/-- burnish/burnishref01.Unsigned -/
theorem t191 (G : Gl) (q : Q) (tl : Tl V) (x1 : Int) (x2 : Int) :
  stS G q [(190, .one ⟨Int, eI⟩)] [(13, (.one (vlH (V.i .u64)))), (17, (.one (vlH (V.i .u64)))), (21, (.one (vlH (V.i .u64))))] none tl n191 [(eI x1), (eI x2)] = bnd (q.c ⟨Int, eI⟩ 190 [(eI x1)]) fun r1 => bif eqI r1 1 then (bnd (q.h (vlH (V.i .u64)) (.bin .rem (.lf .i) (.t 12) (.c (.int .u64 2))) [(.i .u64 (IntKind.wrap .u64 x2)), (.i .u64 2)] .emp) fun m2 => some (.i .u64 m2)) else (bif eqI r1 8 then (bnd (q.h (vlH (V.i .u64)) (.bin .rem (.lf .i) (.t 16) (.c (.int .u64 256))) [(.i .u64 (IntKind.wrap .u64 x2)), (.i .u64 256)] .emp) fun m3 => some (.i .u64 m3)) else (bif eqI r1 32 then (bnd (q.h (vlH (V.i .u64)) (.bin .rem (.lf .i) (.t 20) (.c (.int .u64 4294967296))) [(.i .u64 (IntKind.wrap .u64 x2)), (.i .u64 4294967296)] .emp) fun m4 => some (.i .u64 m4)) else (bif eqI r1 64 then (some (.i .u64 (IntKind.wrap .u64 x2))) else (some (.i .u64 0))))) := by
  kernel_rfl

theorem ok191 : FOk 191 n191 := ⟨rfl, rfl, rfl, rfl, by kernel_rfl, by kernel_rfl, by kernel_rfl⟩


/-- slices.Contains[[]int64,int64] -/
theorem t192 (G : Gl) (q : Q) (tl : Tl V) (x1 : S Int) (x2 : Int) :
  stS G q [(222, .one ⟨Int, eI⟩)] [] none tl n192 [(S.enc eI x1), (eI x2)] = bnd (q.c ⟨Int, eI⟩ 222 [(S.enc eI x1), (eI x2)]) fun r1 => bif !(ltI r1 0) then (some (.b true)) else (some (.b false)) := by
  kernel_rfl

theorem ok192 : FOk 192 n192 := ⟨rfl, rfl, rfl, rfl, by kernel_rfl, by kernel_rfl, by kernel_rfl⟩


/-- burnish/burnishref13.letter -/
theorem t220 (G : Gl) (q : Q) (tl : Tl V) (x1 : Int) :
  stS G q [] [] none tl n220 [(.i .u8 x1)] = bif !(ltI x1 97) then (bif !(ltI 122 x1) then (some (.b true)) else (bif !(ltI x1 65) then (bif !(ltI 90 x1) then (some (.b true)) else (bif eqI x1 95 then (some (.b true)) else (some (.b false)))) else (bif eqI x1 95 then (some (.b true)) else (some (.b false))))) else (bif !(ltI x1 65) then (bif !(ltI 90 x1) then (some (.b true)) else (bif eqI x1 95 then (some (.b true)) else (some (.b false)))) else (bif eqI x1 95 then (some (.b true)) else (some (.b false)))) := by
  kernel_rfl

theorem ok220 : FOk 220 n220 := ⟨rfl, rfl, rfl, rfl, by kernel_rfl, by kernel_rfl, by kernel_rfl⟩

abbrev k221_1 (tl : Tl V) (x1 : ByteArray) (x2 : Int) (x3 : Bool) : Option V := tl [0, 1, 2] [(.s x1), (eI x2), (.b x3)] .emp

/-- burnish/burnishref13.end -/
theorem t221 (G : Gl) (q : Q) (tl : Tl V) (x1 : ByteArray) (x2 : Int) (x3 : Bool) :
  stS G q [] [] none tl n221 [(.s x1), (eI x2), (.b x3)] = k221_1 tl x1 x2 x3 := by
  kernel_rfl

/-- burnish/burnishref13.end, piece 1 -/
theorem t221_1 (G : Gl) (q : Q) (tl : Tl V) (x1 : ByteArray) (x2 : Int) (x3 : Bool) :
  pcS G q [(220, .one ⟨Bool, V.b⟩), (247, .one ⟨Bool, V.b⟩)] [(14, (.one (vlH (V.i .u8)))), (21, (.one (vlH (V.i .u8))))] none tl n221 [0, 1, 2] [(.s x1), (eI x2), (.b x3)] .emp = bif ltI x2 (x1.size : Int) then (bnd (q.h (vlH (V.i .u8)) (.strindex (.t 12) (.t 13)) [(.s x1), (eI x2)] .emp) fun c1 => bnd (q.c ⟨Bool, V.b⟩ 247 [(.i .u8 c1)]) fun r2 => bif r2 then (k221_1 tl x1 (IntKind.wrap .i64 (x2 + 1)) x3) else (bif x3 then (bnd (q.h (vlH (V.i .u8)) (.strindex (.t 19) (.t 20)) [(.s x1), (eI x2)] .emp) fun c3 => bnd (q.c ⟨Bool, V.b⟩ 220 [(.i .u8 c3)]) fun r4 => bif r4 then (k221_1 tl x1 (IntKind.wrap .i64 (x2 + 1)) x3) else (some (eI x2))) else (some (eI x2)))) else (some (eI x2)) := by
  kernel_rfl

theorem ok221 : FOk 221 n221 := ⟨rfl, rfl, rfl, rfl, by kernel_rfl, by kernel_rfl, by kernel_rfl⟩

abbrev k222_1 (tl : Tl V) (x1 : S Int) (x2 : Int) (x3 : Int) (x4 : Int) (x5 : Int) : Option V := tl [0, 1, 4, 7, 8] [(S.enc eI x1), (eI x2), (eI x3), (eI x4), (eI x5)] .emp

/-- slices.Index[[]int64,int64] -/
theorem t222 (G : Gl) (q : Q) (tl : Tl V) (x1 : S Int) (x2 : Int) :
  stS G q [] [] none tl n222 [(S.enc eI x1), (eI x2)] = k222_1 tl x1 x2 0 ((x1.l.map eI).length : Int) 0 := by
  kernel_rfl

/-- slices.Index[[]int64,int64], piece 1 -/
theorem t222_1 (G : Gl) (q : Q) (tl : Tl V) (x1 : S Int) (x2 : Int) (x3 : Int) (x4 : Int) (x5 : Int) :
  pcS G q [] [(14, (.one (ixH eI)))] none tl n222 [0, 1, 4, 7, 8] [(S.enc eI x1), (eI x2), (eI x3), (eI x4), (eI x5)] .emp = bif ltI x5 x4 then (bnd (q.h (ixH eI) (.iaddr 1 (.t 12) (.t 13)) [(S.enc eI x1), (eI x5)] .emp) fun n1 => bif eqI x2 n1 then (some (eI x5)) else (k222_1 tl x1 x2 x3 x4 (IntKind.wrap .i64 (x5 + 1)))) else (some (eI (-1))) := by
  kernel_rfl

theorem ok222 : FOk 222 n222 := ⟨rfl, rfl, rfl, rfl, by kernel_rfl, by kernel_rfl, by kernel_rfl⟩


/-- burnish/burnishref13.digit -/
theorem t247 (G : Gl) (q : Q) (tl : Tl V) (x1 : Int) :
  stS G q [] [] none tl n247 [(.i .u8 x1)] = bif !(ltI x1 48) then (bif !(ltI 57 x1) then (some (.b true)) else (some (.b false))) else (some (.b false)) := by
  kernel_rfl

theorem ok247 : FOk 247 n247 := ⟨rfl, rfl, rfl, rfl, by kernel_rfl, by kernel_rfl, by kernel_rfl⟩

theorem ok63 : FOkL 63 n63 := ⟨rfl, rfl, rfl, by kernel_rfl, by kernel_rfl, by kernel_rfl⟩

theorem ok65 : FOkL 65 n65 := ⟨rfl, rfl, rfl, by kernel_rfl, by kernel_rfl, by kernel_rfl⟩

theorem ok108 : FOkL 108 n108 := ⟨rfl, rfl, rfl, by kernel_rfl, by kernel_rfl, by kernel_rfl⟩

theorem ok109 : FOkL 109 n109 := ⟨rfl, rfl, rfl, by kernel_rfl, by kernel_rfl, by kernel_rfl⟩

theorem ok110 : FOkL 110 n110 := ⟨rfl, rfl, rfl, by kernel_rfl, by kernel_rfl, by kernel_rfl⟩

end Go.Proofs.YtapkmhneneffdaaGreatDoor.M3.T
