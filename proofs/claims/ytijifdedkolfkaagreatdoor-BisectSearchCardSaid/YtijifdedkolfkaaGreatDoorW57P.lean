/- The seat's functions as the abstract machine's code, written by a program of this session; each is checked against the model's code. -/
import Derived.Test.YtijifdedkolfkaaGreatDoorZacO
import Derived.Test.YtijifdedkolfkaaGreatDoorProg
import Derived.KernelRfl
set_option linter.unusedSimpArgs false
set_option linter.unusedVariables false
namespace Go.Proofs.YtijifdedkolfkaaGreatDoor.Ab
open Go Go.Proofs.YtijifdedkolfkaaGreatDoor.Mac

/-- burnish/burnishlaw57.BisectSearch -/
def i3 : FnI := ⟨[.tmp 2],
 .seq (.region 1 [o 0 1 (.box 0 22 (.t 0)),
   o 1 2 (.mv (.c (.bool false)))])
 (.seq (.seq (.region 0 [o 0 9 (.load false 1 (.t 1)),
   o 1 10 (.len (.t 9)),
   o 2 11 (.bin .gtr (.lf .i) (.t 10) (.c (.int .i64 2000)))])
 (.cond (.t 11)
  (.seq (.region 0 [o 0 12 (.call (.f 4) []),
    o 1 2 (.mv (.t 12))])
  (.ret))
  (.skip)))
 (.seq (.region 0 [o 0 14 (.load false 1 (.t 1)),
   o 1 15 (.len (.t 14)),
   o 2 16 (.mkfn (.func 6) [] [(.t 1)]),
   o 3 17 (.call (.f 5) [(.t 15), (.t 16)]),
   o 4 13 (.mv (.t 17)),
   o 5 18 (.ext 0 (.t 13)),
   o 6 19 (.ext 1 (.t 13)),
   o 7 3 (.mv (.t 18)),
   o 8 4 (.mv (.t 19))])
 (.seq (.region 0 [o 0 21 (.load false 1 (.t 1)),
   o 1 22 (.call (.f 7) [(.t 21)]),
   o 2 20 (.mv (.t 22)),
   o 3 23 (.ext 0 (.t 20)),
   o 4 24 (.ext 1 (.t 20)),
   o 5 5 (.mv (.t 23)),
   o 6 6 (.mv (.t 24))])
 (.seq (.region 0 [o 0 26 (.load false 1 (.t 1)),
   o 1 27 (.len (.t 26)),
   o 2 28 (.un .neg (.t 27)),
   o 3 29 (.call (.f 5) [(.t 28), (.f 8)]),
   o 4 25 (.mv (.t 29)),
   o 5 30 (.ext 0 (.t 25)),
   o 6 31 (.ext 1 (.t 25)),
   o 7 7 (.mv (.t 30)),
   o 8 8 (.mv (.t 31))])
 (.seq (.region 0 [o 0 32 (.mv (.t 3)),
   o 1 33 (.mv (.t 5)),
   o 2 34 (.bin .eql (.lf .i) (.t 32) (.t 33)),
   o 3 35 (.mv (.t 34)),
   og 4 36 35 true (.mv (.t 4)),
   og 5 37 35 true (.mv (.t 6)),
   og 6 38 35 true (.bin .eql (.lf .i) (.t 36) (.t 37)),
   o 7 39 (.pick (.t 35) (.t 38) (.c (.bool false))),
   o 8 40 (.mv (.t 39)),
   og 9 41 40 true (.mv (.t 7)),
   og 10 42 40 true (.bin .eql (.lf .i) (.t 41) (.c (.int .i64 (-1)))),
   o 11 43 (.pick (.t 40) (.t 42) (.c (.bool false))),
   o 12 44 (.mv (.t 43)),
   og 13 45 44 true (.mv (.t 8)),
   og 14 46 44 true (.bin .eql (.lf .i) (.t 45) (.c (.int .i64 0))),
   o 15 47 (.pick (.t 44) (.t 46) (.c (.bool false))),
   o 16 48 (.mv (.t 47)),
   og 17 49 48 true (.call (.f 4) []),
   o 18 50 (.pick (.t 48) (.t 49) (.c (.bool false))),
   o 19 2 (.mv (.t 50))])
 (.ret))))))⟩
theorem c3 : cFn Tryz.prog Tryz.f3 = some i3 := by kernel_rfl
/-- burnish/burnishlaw57.examples -/
def i4 : FnI := ⟨[.tmp 0],
 .seq (.region 0 [o 0 0 (.mv (.c (.bool false)))])
 (.seq (.region 0 [o 0 6 (.call (.f 5) [(.c (.int .i64 8)), (.f 9)]),
   o 1 5 (.mv (.t 6)),
   o 2 7 (.ext 0 (.t 5)),
   o 3 8 (.ext 1 (.t 5)),
   o 4 1 (.mv (.t 7)),
   o 5 2 (.mv (.t 8))])
 (.seq (.region 0 [o 0 10 (.call (.f 5) [(.c (.int .i64 0)), (.c .nilFunc)]),
   o 1 9 (.mv (.t 10)),
   o 2 11 (.ext 0 (.t 9)),
   o 3 12 (.ext 1 (.t 9)),
   o 4 3 (.mv (.t 11)),
   o 5 4 (.mv (.t 12))])
 (.seq (.region 0 [o 0 13 (.mv (.t 1)),
   o 1 14 (.bin .eql (.lf .i) (.t 13) (.c (.int .i64 5))),
   o 2 15 (.mv (.t 14)),
   og 3 16 15 true (.mv (.t 2)),
   og 4 17 15 true (.bin .eql (.lf .i) (.t 16) (.c (.int .i64 3))),
   o 5 18 (.pick (.t 15) (.t 17) (.c (.bool false))),
   o 6 19 (.mv (.t 18)),
   og 7 20 19 true (.mv (.t 3)),
   og 8 21 19 true (.bin .eql (.lf .i) (.t 20) (.c (.int .i64 (-1)))),
   o 9 22 (.pick (.t 19) (.t 21) (.c (.bool false))),
   o 10 23 (.mv (.t 22)),
   og 11 24 23 true (.mv (.t 4)),
   og 12 25 23 true (.bin .eql (.lf .i) (.t 24) (.c (.int .i64 0))),
   o 13 26 (.pick (.t 23) (.t 25) (.c (.bool false))),
   o 14 27 (.mv (.t 26)),
   og 15 28 27 true (.call (.f 10) [(.c (.slice none 0 0))]),
   og 16 29 27 true (.field false 0 1 (.t 28)),
   og 17 30 27 true (.bin .eql (.lf .i) (.t 29) (.c (.int .i64 (-1)))),
   o 18 31 (.pick (.t 27) (.t 30) (.c (.bool false))),
   o 19 0 (.mv (.t 31))])
 (.ret))))⟩
theorem c4 : cFn Tryz.prog Tryz.f4 = some i4 := by kernel_rfl
def i5l0 : Cd :=
  .seq (.seq (.region 0 [o 0 16 (.mv (.t 6)),
    o 1 17 (.mv (.t 7)),
    o 2 18 (.bin .lss (.lf .i) (.t 16) (.t 17))])
  (.cond (.t 18)
   (.skip)
   (.exit 0)))
  (.block 1 (.seq (.region 0 [o 0 19 (.mv (.t 6)),
     o 1 20 (.mv (.t 7)),
     o 2 21 (.mv (.t 6)),
     o 3 22 (.bin .sub (.lf .i) (.t 20) (.t 21)),
     o 4 23 (.bin .quo (.lf .i) (.t 22) (.c (.int .i64 2))),
     o 5 24 (.bin .add (.lf .i) (.t 19) (.t 23)),
     o 6 8 (.mv (.t 24))])
   (.seq (.region 0 [o 0 25 (.mv (.t 5)),
     o 1 26 (.bin .add (.lf .i) (.t 25) (.c (.int .i64 1))),
     o 2 5 (.mv (.t 26))])
   (.seq (.region 0 [o 0 27 (.mv (.t 1)),
     o 1 28 (.mv (.t 8)),
     o 2 29 (.call (.t 27) [(.t 28)])])
   (.cond (.t 29)
    (.region 0 [o 0 30 (.mv (.t 8)),
      o 1 7 (.mv (.t 30))])
    (.region 0 [o 0 31 (.mv (.t 8)),
      o 1 32 (.bin .add (.lf .i) (.t 31) (.c (.int .i64 1))),
      o 2 6 (.mv (.t 32))]))))))
/-- burnish/bisect.Search -/
def i5 : FnI := ⟨[.tmp 4, .tmp 5],
 .seq (.region 0 [o 0 4 (.mv (.c (.int .i64 0))),
   o 1 5 (.mv (.c (.int .i64 0)))])
 (.seq (.seq (.region 0 [o 0 9 (.mv (.t 0)),
   o 1 10 (.bin .leq (.lf .i) (.t 9) (.c (.int .i64 0))),
   o 2 11 (.mv (.t 10)),
   og 3 12 11 false (.mv (.t 1)),
   og 4 13 11 false (.bin .eql .fnc (.t 12) (.c .nilFunc)),
   o 5 14 (.pick (.t 11) (.c (.bool true)) (.t 13))])
 (.cond (.t 14)
  (.seq (.region 0 [o 0 4 (.mv (.c (.int .i64 (-1)))),
    o 1 5 (.mv (.c (.int .i64 0)))])
  (.ret))
  (.skip)))
 (.seq (.region 0 [o 0 15 (.mv (.t 0)),
   o 1 6 (.mv (.c (.int .i64 0))),
   o 2 7 (.mv (.t 15))])
 (.seq (.block 0 (.loop i5l0))
 (.seq (.seq (.region 0 [o 0 33 (.mv (.t 6)),
   o 1 34 (.mv (.t 0)),
   o 2 35 (.bin .eql (.lf .i) (.t 33) (.t 34))])
 (.cond (.t 35)
  (.seq (.region 0 [o 0 36 (.mv (.t 5)),
    o 1 4 (.mv (.c (.int .i64 (-1)))),
    o 2 5 (.mv (.t 36))])
  (.ret))
  (.skip)))
 (.seq (.region 0 [o 0 37 (.mv (.t 6)),
   o 1 38 (.mv (.t 5)),
   o 2 4 (.mv (.t 37)),
   o 3 5 (.mv (.t 38))])
 (.ret))))))⟩
theorem c5 : cFn Tryz.prog Tryz.f5 = some i5 := by kernel_rfl
/-- burnish/burnishlaw57.BisectSearch$1 -/
def i6 : FnI := ⟨[.tmp 3],
 .seq (.region 0 [o 0 3 (.mv (.c (.bool false)))])
 (.seq (.region 0 [o 0 4 (.load false 1 (.t 1)),
   o 1 5 (.mv (.t 0)),
   o 2 6 (.iaddr 1 (.t 4) (.t 5)),
   o 3 7 (.load false 1 (.t 6)),
   o 4 3 (.mv (.t 7))])
 (.ret))⟩
theorem c6 : cFn Tryz.prog Tryz.f6 = some i6 := by kernel_rfl
def i7l0 : Cd :=
  .seq (.seq (.region 0 [o 0 10 (.mv (.t 4)),
    o 1 11 (.mv (.t 5)),
    o 2 12 (.bin .lss (.lf .i) (.t 10) (.t 11))])
  (.cond (.t 12)
   (.skip)
   (.exit 0)))
  (.block 1 (.seq (.region 0 [o 0 13 (.mv (.t 4)),
     o 1 14 (.mv (.t 5)),
     o 2 15 (.bin .add (.lf .i) (.t 13) (.t 14)),
     o 3 16 (.bin .quo (.lf .i) (.t 15) (.c (.int .i64 2))),
     o 4 7 (.mv (.t 16))])
   (.seq (.region 0 [o 0 17 (.mv (.t 6)),
     o 1 18 (.bin .add (.lf .i) (.t 17) (.c (.int .i64 1))),
     o 2 6 (.mv (.t 18))])
   (.seq (.region 0 [o 0 19 (.mv (.t 0)),
     o 1 20 (.mv (.t 7)),
     o 2 21 (.iaddr 1 (.t 19) (.t 20)),
     o 3 22 (.load false 1 (.t 21))])
   (.cond (.t 22)
    (.region 0 [o 0 23 (.mv (.t 7)),
      o 1 5 (.mv (.t 23))])
    (.region 0 [o 0 24 (.mv (.t 7)),
      o 1 25 (.bin .add (.lf .i) (.t 24) (.c (.int .i64 1))),
      o 2 4 (.mv (.t 25))]))))))
/-- burnish/burnishref57.Search -/
def i7 : FnI := ⟨[.tmp 2, .tmp 3],
 .seq (.region 0 [o 0 2 (.mv (.c (.int .i64 0))),
   o 1 3 (.mv (.c (.int .i64 0)))])
 (.seq (.region 0 [o 0 8 (.mv (.t 0)),
   o 1 9 (.len (.t 8)),
   o 2 4 (.mv (.c (.int .i64 0))),
   o 3 5 (.mv (.t 9)),
   o 4 6 (.mv (.c (.int .i64 0)))])
 (.seq (.block 0 (.loop i7l0))
 (.seq (.seq (.region 0 [o 0 26 (.mv (.t 4)),
   o 1 27 (.mv (.t 0)),
   o 2 28 (.len (.t 27)),
   o 3 29 (.bin .eql (.lf .i) (.t 26) (.t 28))])
 (.cond (.t 29)
  (.seq (.region 0 [o 0 30 (.mv (.t 6)),
    o 1 2 (.mv (.c (.int .i64 (-1)))),
    o 2 3 (.mv (.t 30))])
  (.ret))
  (.skip)))
 (.seq (.region 0 [o 0 31 (.mv (.t 4)),
   o 1 32 (.mv (.t 6)),
   o 2 2 (.mv (.t 31)),
   o 3 3 (.mv (.t 32))])
 (.ret)))))⟩
theorem c7 : cFn Tryz.prog Tryz.f7 = some i7 := by kernel_rfl
/-- burnish/burnishlaw57.BisectSearch$2 -/
def i8 : FnI := ⟨[.tmp 2],
 .seq (.region 0 [o 0 2 (.mv (.c (.bool false)))])
 (.seq (.region 0 [o 0 2 (.mv (.c (.bool true)))])
 (.ret))⟩
theorem c8 : cFn Tryz.prog Tryz.f8 = some i8 := by kernel_rfl
/-- burnish/burnishlaw57.examples$1 -/
def i9 : FnI := ⟨[.tmp 2],
 .seq (.region 0 [o 0 2 (.mv (.c (.bool false)))])
 (.seq (.region 0 [o 0 3 (.mv (.t 0)),
   o 1 4 (.bin .geq (.lf .i) (.t 3) (.c (.int .i64 5))),
   o 2 2 (.mv (.t 4))])
 (.ret))⟩
theorem c9 : cFn Tryz.prog Tryz.f9 = some i9 := by kernel_rfl
def i10l0 : Cd :=
  .seq (.region 0 [o 0 11 (.bin .lss (.lf .i) (.t 10) (.t 9))])
  (.seq (.cond (.t 11)
   (.skip)
   (.exit 0))
  (.seq (.block 1 (.seq (.region 1 [o 0 12 (.mv (.t 10)),
     o 1 13 (.iaddr 10 (.t 8) (.t 10)),
     o 2 14 (.load true 10 (.t 13)),
     o 3 5 (.alloc 0 48 [(.string ⟨#[]⟩), (.int .i64 0), (.slice none 0 0), (.slice none 0 0), (.slice none 0 0), (.slice none 0 0), (.slice none 0 0), (.slice none 0 0), (.slice none 0 0), (.bool false)]),
     o 4 4 (.mv (.t 12)),
     ox 5 (.store 10 (.t 5) (.t 14))])
   (.seq (.region 1 [o 0 15 (.faddr 2 (.t 5)),
     o 1 16 (.load true 2 (.t 15)),
     o 2 17 (.faddr 4 (.t 5)),
     o 3 18 (.load true 2 (.t 17)),
     o 4 19 (.faddr 0 (.t 5)),
     o 5 20 (.faddr 1 (.t 19)),
     o 6 21 (.load false 1 (.t 20)),
     o 7 22 (.faddr 6 (.t 5)),
     o 8 23 (.load true 3 (.t 22)),
     o 9 24 (.call (.f 11) [(.t 16), (.t 18), (.t 21), (.t 23)]),
     o 10 6 (.alloc 0 35 [(.int .i64 0), (.int .i64 0), (.int .i64 0)]),
     ox 11 (.store 3 (.t 6) (.t 24))])
   (.seq (.region 0 [o 0 25 (.load true 3 (.t 6)),
     o 1 26 (.load true 3 (.t 3)),
     o 2 27 (.bin .neq (.cells [.i, .i, .i]) (.t 25) (.t 26))])
   (.cond (.t 27)
    (.seq (.region 0 [o 0 28 (.mv (.t 4)),
      o 1 29 (.mv (.t 4)),
      o 2 30 (.bin .add (.lf .i) (.t 29) (.c (.int .i64 1))),
      o 3 31 (.build [(.int .i64 0), (.int .i64 0), (.int .i64 0)] [(0, 1, (.t 28)), (1, 1, (.t 30)), (2, 1, (.c (.int .i64 2)))]),
      ox 4 (.store 3 (.t 2) (.t 31))])
    (.ret))
    (.skip))))))
  (.region 0 [o 0 32 (.bin .add (.lf .i) (.t 10) (.c (.int .i64 1))),
    o 1 10 (.mv (.t 32))])))
/-- burnish/bisect.Witnesses -/
def i10 : FnI := ⟨[.cell 2 true 3],
 .seq (.region 1 [o 0 2 (.alloc 0 30 [(.int .i64 0), (.int .i64 0), (.int .i64 0)])])
 (.seq (.region 1 [o 0 7 (.build [(.int .i64 0), (.int .i64 0), (.int .i64 0)] [(1, 1, (.c (.int .i64 (-1)))), (2, 1, (.c (.int .i64 (-1))))]),
   o 1 3 (.alloc 0 35 [(.int .i64 0), (.int .i64 0), (.int .i64 0)]),
   ox 2 (.store 3 (.t 3) (.t 7))])
 (.seq (.seq (.region 0 [o 0 8 (.mv (.t 0)),
   o 1 9 (.len (.t 8)),
   o 2 10 (.mv (.c (.int .i64 0)))])
 (.block 0 (.loop i10l0)))
 (.seq (.region 0 [o 0 33 (.mv (.t 0)),
   o 1 34 (.len (.t 33)),
   o 2 35 (.build [(.int .i64 0), (.int .i64 0), (.int .i64 0)] [(0, 1, (.c (.int .i64 (-1)))), (1, 1, (.t 34))]),
   ox 3 (.store 3 (.t 2) (.t 35))])
 (.ret))))⟩
theorem c10 : cFn Tryz.prog Tryz.f10 = some i10 := by kernel_rfl

def Γt : Tr FnI := (.node none (.node none (.node (some i3) (.node (some i7) .nil .nil) .nil) (.node (some i5) (.node (some i9) .nil .nil) .nil)) (.node none (.node (some i4) (.node (some i8) .nil .nil) .nil) (.node (some i6) (.node (some i10) .nil .nil) .nil)))
def Γ : Nat → Option FnI := fun f => Γt.get f

theorem tab : TabOk Tryz.prog Γ := fun f F h => AllT.at (Q := fun f F => ∃ fn, Tryz.prog.funcs[f]? = some fn ∧ cFn Tryz.prog fn = some F) (t := Γt) (φ := fun n => n)
  ⟨(fun _ h => by cases h), ⟨(fun _ h => by cases h), ⟨(fun _ h => by cases h; exact ⟨_, Tryz.func3, c3⟩), ⟨(fun _ h => by cases h; exact ⟨_, Tryz.func7, c7⟩), trivial, trivial⟩, trivial⟩, ⟨(fun _ h => by cases h; exact ⟨_, Tryz.func5, c5⟩), ⟨(fun _ h => by cases h; exact ⟨_, Tryz.func9, c9⟩), trivial, trivial⟩, trivial⟩⟩, ⟨(fun _ h => by cases h), ⟨(fun _ h => by cases h; exact ⟨_, Tryz.func4, c4⟩), ⟨(fun _ h => by cases h; exact ⟨_, Tryz.func8, c8⟩), trivial, trivial⟩, trivial⟩, ⟨(fun _ h => by cases h; exact ⟨_, Tryz.func6, c6⟩), ⟨(fun _ h => by cases h; exact ⟨_, Tryz.func10, c10⟩), trivial, trivial⟩, trivial⟩⟩⟩ f F h

theorem mixed : Tryz.prog.follows .mixedOrders = true := by kernel_rfl

end Go.Proofs.YtijifdedkolfkaaGreatDoor.Ab
