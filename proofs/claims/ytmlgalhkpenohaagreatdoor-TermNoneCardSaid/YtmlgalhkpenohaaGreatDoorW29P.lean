/- The seat's functions as the abstract machine's code, written by a program of this session; each is checked against the model's code. -/
import Derived.Test.YtmlgalhkpenohaaGreatDoorZacO
import Derived.Test.YtmlgalhkpenohaaGreatDoorW29P1
import Derived.Test.YtmlgalhkpenohaaGreatDoorProg
import Derived.KernelRfl
set_option linter.unusedSimpArgs false
set_option linter.unusedVariables false
namespace Go.Proofs.YtmlgalhkpenohaaGreatDoor.Ab
open Go Go.Proofs.YtmlgalhkpenohaaGreatDoor.Mac

def i150l4 : Cd :=
  .seq (.seq (.region 0 [o 0 115 (.mv (.t 10)),
    o 1 116 (.mv (.t 11)),
    o 2 117 (.bin .leq (.lf .i) (.t 115) (.t 116)),
    o 3 118 (.mv (.t 117)),
    og 4 119 118 true (.mv (.t 0)),
    og 5 120 118 true (.mv (.t 11)),
    og 6 121 118 true (.iaddr 1 (.t 119) (.t 120)),
    og 7 122 118 true (.load false 1 (.t 121)),
    og 8 123 118 true (.mv (.t 0)),
    og 9 124 118 true (.mv (.t 1)),
    og 10 125 118 true (.iaddr 1 (.t 123) (.t 124)),
    og 11 126 118 true (.load false 1 (.t 125)),
    og 12 127 118 true (.call (.f 148) [(.t 122), (.t 126)]),
    og 13 128 118 true (.un .not (.t 127)),
    o 14 129 (.pick (.t 118) (.t 128) (.c (.bool false)))])
  (.cond (.t 129)
   (.skip)
   (.exit 8)))
  (.block 9 (.region 0 [o 0 130 (.mv (.t 11)),
     o 1 131 (.bin .sub (.lf .i) (.t 130) (.c (.int .i64 1))),
     o 2 11 (.mv (.t 131))]))
def i150l3 : Cd :=
  .seq (.seq (.region 0 [o 0 99 (.mv (.t 10)),
    o 1 100 (.mv (.t 11)),
    o 2 101 (.bin .leq (.lf .i) (.t 99) (.t 100)),
    o 3 102 (.mv (.t 101)),
    og 4 103 102 true (.mv (.t 0)),
    og 5 104 102 true (.mv (.t 10)),
    og 6 105 102 true (.iaddr 1 (.t 103) (.t 104)),
    og 7 106 102 true (.load false 1 (.t 105)),
    og 8 107 102 true (.mv (.t 0)),
    og 9 108 102 true (.mv (.t 1)),
    og 10 109 102 true (.iaddr 1 (.t 107) (.t 108)),
    og 11 110 102 true (.load false 1 (.t 109)),
    og 12 111 102 true (.call (.f 148) [(.t 106), (.t 110)]),
    o 13 112 (.pick (.t 102) (.t 111) (.c (.bool false)))])
  (.cond (.t 112)
   (.skip)
   (.exit 6)))
  (.block 7 (.region 0 [o 0 113 (.mv (.t 10)),
     o 1 114 (.bin .add (.lf .i) (.t 113) (.c (.int .i64 1))),
     o 2 10 (.mv (.t 114))]))
def i150l2 : Cd :=
  .block 5 (.seq (.block 6 (.loop i150l3))
   (.seq (.block 8 (.loop i150l4))
   (.seq (.seq (.region 0 [o 0 132 (.mv (.t 10)),
     o 1 133 (.mv (.t 11)),
     o 2 134 (.bin .gtr (.lf .i) (.t 132) (.t 133))])
   (.cond (.t 134)
    (.exit 4)
    (.skip)))
   (.seq (.region 0 [o 4 139 (.mv (.t 0)),
     o 5 140 (.mv (.t 11)),
     o 6 141 (.iaddr 1 (.t 139) (.t 140)),
     o 7 142 (.load false 1 (.t 141)),
     o 8 143 (.mv (.t 0)),
     o 9 144 (.mv (.t 10)),
     o 10 145 (.iaddr 1 (.t 143) (.t 144)),
     o 11 146 (.load false 1 (.t 145)),
     o 0 135 (.mv (.t 0)),
     o 1 136 (.mv (.t 10)),
     o 12 147 (.iaddr 1 (.t 135) (.t 136)),
     ox 13 (.store 1 (.t 147) (.t 142)),
     o 2 137 (.mv (.t 0)),
     o 3 138 (.mv (.t 11)),
     o 14 148 (.iaddr 1 (.t 137) (.t 138)),
     ox 15 (.store 1 (.t 148) (.t 146))])
   (.seq (.region 0 [o 0 149 (.mv (.t 10)),
     o 1 150 (.bin .add (.lf .i) (.t 149) (.c (.int .i64 1))),
     o 2 10 (.mv (.t 150))])
   (.region 0 [o 0 151 (.mv (.t 11)),
     o 1 152 (.bin .sub (.lf .i) (.t 151) (.c (.int .i64 1))),
     o 2 11 (.mv (.t 152))]))))))
def i150l1 : Cd :=
  .seq (.seq (.region 0 [o 0 46 (.mv (.t 10)),
    o 1 47 (.mv (.t 11)),
    o 2 48 (.bin .leq (.lf .i) (.t 46) (.t 47)),
    o 3 49 (.mv (.t 48)),
    og 4 50 49 true (.mv (.t 0)),
    og 5 51 49 true (.mv (.t 11)),
    og 6 52 49 true (.iaddr 1 (.t 50) (.t 51)),
    og 7 53 49 true (.load false 1 (.t 52)),
    og 8 54 49 true (.mv (.t 0)),
    og 9 55 49 true (.mv (.t 1)),
    og 10 56 49 true (.iaddr 1 (.t 54) (.t 55)),
    og 11 57 49 true (.load false 1 (.t 56)),
    og 12 58 49 true (.call (.f 148) [(.t 53), (.t 57)]),
    og 13 59 49 true (.un .not (.t 58)),
    o 14 60 (.pick (.t 49) (.t 59) (.c (.bool false)))])
  (.cond (.t 60)
   (.skip)
   (.exit 2)))
  (.block 3 (.region 0 [o 0 61 (.mv (.t 11)),
     o 1 62 (.bin .sub (.lf .i) (.t 61) (.c (.int .i64 1))),
     o 2 11 (.mv (.t 62))]))
def i150l0 : Cd :=
  .seq (.seq (.region 0 [o 0 30 (.mv (.t 10)),
    o 1 31 (.mv (.t 11)),
    o 2 32 (.bin .leq (.lf .i) (.t 30) (.t 31)),
    o 3 33 (.mv (.t 32)),
    og 4 34 33 true (.mv (.t 0)),
    og 5 35 33 true (.mv (.t 10)),
    og 6 36 33 true (.iaddr 1 (.t 34) (.t 35)),
    og 7 37 33 true (.load false 1 (.t 36)),
    og 8 38 33 true (.mv (.t 0)),
    og 9 39 33 true (.mv (.t 1)),
    og 10 40 33 true (.iaddr 1 (.t 38) (.t 39)),
    og 11 41 33 true (.load false 1 (.t 40)),
    og 12 42 33 true (.call (.f 148) [(.t 37), (.t 41)]),
    o 13 43 (.pick (.t 33) (.t 42) (.c (.bool false)))])
  (.cond (.t 43)
   (.skip)
   (.exit 0)))
  (.block 1 (.region 0 [o 0 44 (.mv (.t 10)),
     o 1 45 (.bin .add (.lf .i) (.t 44) (.c (.int .i64 1))),
     o 2 10 (.mv (.t 45))]))
/-- slices.partitionOrdered[int] -/
def i150 : FnI := ⟨[.tmp 8, .tmp 9],
 .seq (.region 0 [o 0 8 (.mv (.c (.int .i64 0))),
   o 1 9 (.mv (.c (.bool false)))])
 (.seq (.region 0 [o 4 16 (.mv (.t 0)),
   o 5 17 (.mv (.t 3)),
   o 6 18 (.iaddr 1 (.t 16) (.t 17)),
   o 7 19 (.load false 1 (.t 18)),
   o 8 20 (.mv (.t 0)),
   o 9 21 (.mv (.t 1)),
   o 10 22 (.iaddr 1 (.t 20) (.t 21)),
   o 11 23 (.load false 1 (.t 22)),
   o 0 12 (.mv (.t 0)),
   o 1 13 (.mv (.t 1)),
   o 12 24 (.iaddr 1 (.t 12) (.t 13)),
   ox 13 (.store 1 (.t 24) (.t 19)),
   o 2 14 (.mv (.t 0)),
   o 3 15 (.mv (.t 3)),
   o 14 25 (.iaddr 1 (.t 14) (.t 15)),
   ox 15 (.store 1 (.t 25) (.t 23))])
 (.seq (.region 0 [o 0 26 (.mv (.t 1)),
   o 1 27 (.bin .add (.lf .i) (.t 26) (.c (.int .i64 1))),
   o 2 28 (.mv (.t 2)),
   o 3 29 (.bin .sub (.lf .i) (.t 28) (.c (.int .i64 1))),
   o 4 10 (.mv (.t 27)),
   o 5 11 (.mv (.t 29))])
 (.seq (.block 0 (.loop i150l0))
 (.seq (.block 2 (.loop i150l1))
 (.seq (.seq (.region 0 [o 0 63 (.mv (.t 10)),
   o 1 64 (.mv (.t 11)),
   o 2 65 (.bin .gtr (.lf .i) (.t 63) (.t 64))])
 (.cond (.t 65)
  (.seq (.region 0 [o 4 70 (.mv (.t 0)),
    o 5 71 (.mv (.t 1)),
    o 6 72 (.iaddr 1 (.t 70) (.t 71)),
    o 7 73 (.load false 1 (.t 72)),
    o 8 74 (.mv (.t 0)),
    o 9 75 (.mv (.t 11)),
    o 10 76 (.iaddr 1 (.t 74) (.t 75)),
    o 11 77 (.load false 1 (.t 76)),
    o 0 66 (.mv (.t 0)),
    o 1 67 (.mv (.t 11)),
    o 12 78 (.iaddr 1 (.t 66) (.t 67)),
    ox 13 (.store 1 (.t 78) (.t 73)),
    o 2 68 (.mv (.t 0)),
    o 3 69 (.mv (.t 1)),
    o 14 79 (.iaddr 1 (.t 68) (.t 69)),
    ox 15 (.store 1 (.t 79) (.t 77))])
  (.seq (.region 0 [o 0 80 (.mv (.t 11)),
    o 1 8 (.mv (.t 80)),
    o 2 9 (.mv (.c (.bool true)))])
  (.ret)))
  (.skip)))
 (.seq (.region 0 [o 4 85 (.mv (.t 0)),
   o 5 86 (.mv (.t 11)),
   o 6 87 (.iaddr 1 (.t 85) (.t 86)),
   o 7 88 (.load false 1 (.t 87)),
   o 8 89 (.mv (.t 0)),
   o 9 90 (.mv (.t 10)),
   o 10 91 (.iaddr 1 (.t 89) (.t 90)),
   o 11 92 (.load false 1 (.t 91)),
   o 0 81 (.mv (.t 0)),
   o 1 82 (.mv (.t 10)),
   o 12 93 (.iaddr 1 (.t 81) (.t 82)),
   ox 13 (.store 1 (.t 93) (.t 88)),
   o 2 83 (.mv (.t 0)),
   o 3 84 (.mv (.t 11)),
   o 14 94 (.iaddr 1 (.t 83) (.t 84)),
   ox 15 (.store 1 (.t 94) (.t 92))])
 (.seq (.region 0 [o 0 95 (.mv (.t 10)),
   o 1 96 (.bin .add (.lf .i) (.t 95) (.c (.int .i64 1))),
   o 2 10 (.mv (.t 96))])
 (.seq (.region 0 [o 0 97 (.mv (.t 11)),
   o 1 98 (.bin .sub (.lf .i) (.t 97) (.c (.int .i64 1))),
   o 2 11 (.mv (.t 98))])
 (.seq (.block 4 (.loop i150l2))
 (.seq (.region 0 [o 4 157 (.mv (.t 0)),
   o 5 158 (.mv (.t 1)),
   o 6 159 (.iaddr 1 (.t 157) (.t 158)),
   o 7 160 (.load false 1 (.t 159)),
   o 8 161 (.mv (.t 0)),
   o 9 162 (.mv (.t 11)),
   o 10 163 (.iaddr 1 (.t 161) (.t 162)),
   o 11 164 (.load false 1 (.t 163)),
   o 0 153 (.mv (.t 0)),
   o 1 154 (.mv (.t 11)),
   o 12 165 (.iaddr 1 (.t 153) (.t 154)),
   ox 13 (.store 1 (.t 165) (.t 160)),
   o 2 155 (.mv (.t 0)),
   o 3 156 (.mv (.t 1)),
   o 14 166 (.iaddr 1 (.t 155) (.t 156)),
   ox 15 (.store 1 (.t 166) (.t 164))])
 (.seq (.region 0 [o 0 167 (.mv (.t 11)),
   o 1 8 (.mv (.t 167)),
   o 2 9 (.mv (.c (.bool false)))])
 (.ret))))))))))))⟩
theorem c150 : cFn Tryz.prog Tryz.f150 = some i150 := by kernel_rfl
/-- math/bits.Len32 -/
def i151 : FnI := ⟨[.tmp 2],
 .seq (.region 0 [o 0 2 (.mv (.c (.int .i64 0)))])
 (.seq (.seq (.region 0 [o 0 3 (.mv (.t 0)),
   o 1 4 (.bin .geq (.lf .i) (.t 3) (.c (.int .u32 65536)))])
 (.cond (.t 4)
  (.seq (.region 0 [o 0 5 (.mv (.t 0)),
    o 1 6 (.bin .shr (.lf .i) (.t 5) (.c (.int .u64 16))),
    o 2 0 (.mv (.t 6))])
  (.region 0 [o 0 2 (.mv (.c (.int .i64 16)))]))
  (.skip)))
 (.seq (.seq (.region 0 [o 0 7 (.mv (.t 0)),
   o 1 8 (.bin .geq (.lf .i) (.t 7) (.c (.int .u32 256)))])
 (.cond (.t 8)
  (.seq (.region 0 [o 0 9 (.mv (.t 0)),
    o 1 10 (.bin .shr (.lf .i) (.t 9) (.c (.int .u64 8))),
    o 2 0 (.mv (.t 10))])
  (.region 0 [o 0 11 (.mv (.t 2)),
    o 1 12 (.bin .add (.lf .i) (.t 11) (.c (.int .i64 8))),
    o 2 2 (.mv (.t 12))]))
  (.skip)))
 (.seq (.region 0 [o 0 13 (.mv (.t 2)),
   o 1 14 (.mv (.t 0)),
   o 2 15 (.conv .u8 (.t 14)),
   o 3 16 (.strindex (.c (.string ⟨#[0, 1, 2, 2, 3, 3, 3, 3, 4, 4, 4, 4, 4, 4, 4, 4, 5, 5, 5, 5, 5, 5, 5, 5, 5, 5, 5, 5, 5, 5, 5, 5, 6, 6, 6, 6, 6, 6, 6, 6, 6, 6, 6, 6, 6, 6, 6, 6, 6, 6, 6, 6, 6, 6, 6, 6, 6, 6, 6, 6, 6, 6, 6, 6, 7, 7, 7, 7, 7, 7, 7, 7, 7, 7, 7, 7, 7, 7, 7, 7, 7, 7, 7, 7, 7, 7, 7, 7, 7, 7, 7, 7, 7, 7, 7, 7, 7, 7, 7, 7, 7, 7, 7, 7, 7, 7, 7, 7, 7, 7, 7, 7, 7, 7, 7, 7, 7, 7, 7, 7, 7, 7, 7, 7, 7, 7, 7, 7, 8, 8, 8, 8, 8, 8, 8, 8, 8, 8, 8, 8, 8, 8, 8, 8, 8, 8, 8, 8, 8, 8, 8, 8, 8, 8, 8, 8, 8, 8, 8, 8, 8, 8, 8, 8, 8, 8, 8, 8, 8, 8, 8, 8, 8, 8, 8, 8, 8, 8, 8, 8, 8, 8, 8, 8, 8, 8, 8, 8, 8, 8, 8, 8, 8, 8, 8, 8, 8, 8, 8, 8, 8, 8, 8, 8, 8, 8, 8, 8, 8, 8, 8, 8, 8, 8, 8, 8, 8, 8, 8, 8, 8, 8, 8, 8, 8, 8, 8, 8, 8, 8, 8, 8, 8, 8, 8, 8, 8, 8, 8, 8, 8, 8, 8, 8, 8, 8, 8, 8, 8, 8, 8, 8, 8, 8, 8, 8]⟩)) (.t 15)),
   o 4 17 (.conv .i64 (.t 16)),
   o 5 18 (.bin .add (.lf .i) (.t 13) (.t 17)),
   o 6 2 (.mv (.t 18))])
 (.ret))))⟩
theorem c151 : cFn Tryz.prog Tryz.f151 = some i151 := by kernel_rfl
/-- math/bits.Len64 -/
def i152 : FnI := ⟨[.tmp 2],
 .seq (.region 0 [o 0 2 (.mv (.c (.int .i64 0)))])
 (.seq (.seq (.region 0 [o 0 3 (.mv (.t 0)),
   o 1 4 (.bin .geq (.lf .i) (.t 3) (.c (.int .u64 4294967296)))])
 (.cond (.t 4)
  (.seq (.region 0 [o 0 5 (.mv (.t 0)),
    o 1 6 (.bin .shr (.lf .i) (.t 5) (.c (.int .u64 32))),
    o 2 0 (.mv (.t 6))])
  (.region 0 [o 0 2 (.mv (.c (.int .i64 32)))]))
  (.skip)))
 (.seq (.seq (.region 0 [o 0 7 (.mv (.t 0)),
   o 1 8 (.bin .geq (.lf .i) (.t 7) (.c (.int .u64 65536)))])
 (.cond (.t 8)
  (.seq (.region 0 [o 0 9 (.mv (.t 0)),
    o 1 10 (.bin .shr (.lf .i) (.t 9) (.c (.int .u64 16))),
    o 2 0 (.mv (.t 10))])
  (.region 0 [o 0 11 (.mv (.t 2)),
    o 1 12 (.bin .add (.lf .i) (.t 11) (.c (.int .i64 16))),
    o 2 2 (.mv (.t 12))]))
  (.skip)))
 (.seq (.seq (.region 0 [o 0 13 (.mv (.t 0)),
   o 1 14 (.bin .geq (.lf .i) (.t 13) (.c (.int .u64 256)))])
 (.cond (.t 14)
  (.seq (.region 0 [o 0 15 (.mv (.t 0)),
    o 1 16 (.bin .shr (.lf .i) (.t 15) (.c (.int .u64 8))),
    o 2 0 (.mv (.t 16))])
  (.region 0 [o 0 17 (.mv (.t 2)),
    o 1 18 (.bin .add (.lf .i) (.t 17) (.c (.int .i64 8))),
    o 2 2 (.mv (.t 18))]))
  (.skip)))
 (.seq (.region 0 [o 0 19 (.mv (.t 2)),
   o 1 20 (.mv (.t 0)),
   o 2 21 (.conv .u8 (.t 20)),
   o 3 22 (.strindex (.c (.string ⟨#[0, 1, 2, 2, 3, 3, 3, 3, 4, 4, 4, 4, 4, 4, 4, 4, 5, 5, 5, 5, 5, 5, 5, 5, 5, 5, 5, 5, 5, 5, 5, 5, 6, 6, 6, 6, 6, 6, 6, 6, 6, 6, 6, 6, 6, 6, 6, 6, 6, 6, 6, 6, 6, 6, 6, 6, 6, 6, 6, 6, 6, 6, 6, 6, 7, 7, 7, 7, 7, 7, 7, 7, 7, 7, 7, 7, 7, 7, 7, 7, 7, 7, 7, 7, 7, 7, 7, 7, 7, 7, 7, 7, 7, 7, 7, 7, 7, 7, 7, 7, 7, 7, 7, 7, 7, 7, 7, 7, 7, 7, 7, 7, 7, 7, 7, 7, 7, 7, 7, 7, 7, 7, 7, 7, 7, 7, 7, 7, 8, 8, 8, 8, 8, 8, 8, 8, 8, 8, 8, 8, 8, 8, 8, 8, 8, 8, 8, 8, 8, 8, 8, 8, 8, 8, 8, 8, 8, 8, 8, 8, 8, 8, 8, 8, 8, 8, 8, 8, 8, 8, 8, 8, 8, 8, 8, 8, 8, 8, 8, 8, 8, 8, 8, 8, 8, 8, 8, 8, 8, 8, 8, 8, 8, 8, 8, 8, 8, 8, 8, 8, 8, 8, 8, 8, 8, 8, 8, 8, 8, 8, 8, 8, 8, 8, 8, 8, 8, 8, 8, 8, 8, 8, 8, 8, 8, 8, 8, 8, 8, 8, 8, 8, 8, 8, 8, 8, 8, 8, 8, 8, 8, 8, 8, 8, 8, 8, 8, 8, 8, 8, 8, 8, 8, 8, 8, 8]⟩)) (.t 21)),
   o 4 23 (.conv .i64 (.t 22)),
   o 5 24 (.bin .add (.lf .i) (.t 19) (.t 23)),
   o 6 2 (.mv (.t 24))])
 (.ret)))))⟩
theorem c152 : cFn Tryz.prog Tryz.f152 = some i152 := by kernel_rfl
/-- internal/strconv.Itoa -/
def i153 : FnI := ⟨[.tmp 2],
 .seq (.region 0 [o 0 2 (.mv (.c (.string ⟨#[]⟩)))])
 (.seq (.region 0 [o 0 3 (.mv (.t 0)),
   o 1 4 (.call (.f 196) [(.t 3), (.c (.int .i64 10))]),
   o 2 2 (.mv (.t 4))])
 (.ret))⟩
theorem c153 : cFn Tryz.prog Tryz.f153 = some i153 := by kernel_rfl
/-- slices.SortFunc[[]burnish/term.mono,burnish/term.mono] -/
def i161 : FnI := ⟨[],
 .seq (.region 0 [o 0 5 (.mv (.t 0)),
   o 1 6 (.len (.t 5)),
   o 2 4 (.mv (.t 6))])
 (.region 0 [o 0 7 (.mv (.t 0)),
   o 1 8 (.mv (.t 4)),
   o 2 9 (.mv (.t 4)),
   o 3 10 (.conv .u64 (.t 9)),
   o 4 11 (.call (.f 85) [(.t 10)]),
   o 5 12 (.mv (.t 1)),
   o 6 13 (.call (.f 207) [(.t 7), (.c (.int .i64 0)), (.t 8), (.t 11), (.t 12)])])⟩
theorem c161 : cFn Tryz.prog Tryz.f161 = some i161 := by kernel_rfl
/-- (*burnish/term.forms).intern$1 -/
def i162 : FnI := ⟨[.tmp 4],
 .seq (.region 2 [o 0 2 (.box 0 184 (.t 0)),
   o 1 3 (.box 1 184 (.t 1)),
   o 2 4 (.mv (.c (.int .i64 0)))])
 (.seq (.region 0 [o 0 5 (.faddr 1 (.t 2)),
   o 1 6 (.load false 1 (.t 5)),
   o 2 7 (.faddr 1 (.t 3)),
   o 3 8 (.load false 1 (.t 7)),
   o 4 9 (.call (.f 163) [(.t 6), (.t 8)]),
   o 5 4 (.mv (.t 9))])
 (.ret))⟩
theorem c162 : cFn Tryz.prog Tryz.f162 = some i162 := by kernel_rfl
def i163l0 : Cd :=
  .seq (.region 0 [o 0 12 (.bin .lss (.lf .i) (.t 11) (.t 10))])
  (.seq (.cond (.t 12)
   (.skip)
   (.exit 0))
  (.seq (.block 1 (.seq (.region 0 [o 0 13 (.mv (.t 11)),
     o 1 14 (.iaddr 1 (.t 9) (.t 11)),
     o 2 15 (.load false 1 (.t 14)),
     o 3 5 (.mv (.t 13)),
     o 4 6 (.mv (.t 15))])
   (.seq (.seq (.region 0 [o 0 16 (.mv (.t 5)),
     o 1 17 (.mv (.t 1)),
     o 2 18 (.len (.t 17)),
     o 3 19 (.bin .geq (.lf .i) (.t 16) (.t 18))])
   (.cond (.t 19)
    (.seq (.region 0 [o 0 4 (.mv (.c (.int .i64 1)))])
    (.ret))
    (.skip)))
   (.seq (.region 0 [o 0 20 (.mv (.t 1)),
     o 1 21 (.mv (.t 5)),
     o 2 22 (.iaddr 1 (.t 20) (.t 21)),
     o 3 23 (.load false 1 (.t 22)),
     o 4 7 (.mv (.t 23))])
   (.seq (.region 0 [o 0 24 (.mv (.t 6)),
     o 1 25 (.mv (.t 7)),
     o 2 26 (.call (.f 208) [(.t 24), (.t 25)]),
     o 3 8 (.mv (.t 26))])
   (.seq (.region 0 [o 0 27 (.mv (.t 8)),
     o 1 28 (.bin .neq (.lf .i) (.t 27) (.c (.int .i64 0)))])
   (.cond (.t 28)
    (.seq (.region 0 [o 0 29 (.mv (.t 8)),
      o 1 4 (.mv (.t 29))])
    (.ret))
    (.skip))))))))
  (.region 0 [o 0 30 (.bin .add (.lf .i) (.t 11) (.c (.int .i64 1))),
    o 1 11 (.mv (.t 30))])))
/-- slices.Compare[[]int,int] -/
def i163 : FnI := ⟨[.tmp 4],
 .seq (.region 0 [o 0 4 (.mv (.c (.int .i64 0)))])
 (.seq (.seq (.region 0 [o 0 9 (.mv (.t 0)),
   o 1 10 (.len (.t 9)),
   o 2 11 (.mv (.c (.int .i64 0)))])
 (.block 0 (.loop i163l0)))
 (.seq (.seq (.region 0 [o 0 31 (.mv (.t 0)),
   o 1 32 (.len (.t 31)),
   o 2 33 (.mv (.t 1)),
   o 3 34 (.len (.t 33)),
   o 4 35 (.bin .lss (.lf .i) (.t 32) (.t 34))])
 (.cond (.t 35)
  (.seq (.region 0 [o 0 4 (.mv (.c (.int .i64 (-1))))])
  (.ret))
  (.skip)))
 (.seq (.region 0 [o 0 4 (.mv (.c (.int .i64 0)))])
 (.ret))))⟩
theorem c163 : cFn Tryz.prog Tryz.f163 = some i163 := by kernel_rfl
def i164l0 : Cd :=
  .seq (.seq (.region 0 [o 0 16 (.mv (.t 6)),
    o 1 17 (.mv (.t 0)),
    o 2 18 (.len (.t 17)),
    o 3 19 (.bin .lss (.lf .i) (.t 16) (.t 18))])
  (.cond (.t 19)
   (.skip)
   (.exit 0)))
  (.seq (.block 1 (.seq (.region 1 [o 0 22 (.mv (.t 0)),
     o 1 23 (.mv (.t 6)),
     o 2 24 (.iaddr 2 (.t 22) (.t 23)),
     o 3 25 (.load true 2 (.t 24)),
     o 4 7 (.alloc 0 184 [(.int .u64 0), (.slice none 0 0)]),
     ox 5 (.store 2 (.t 7) (.t 25))])
   (.seq (.region 0 [o 0 26 (.mv (.t 1)),
     o 1 27 (.load true 2 (.t 7)),
     o 2 28 (.call (.t 26) [(.t 27)]),
     o 3 29 (.un .not (.t 28))])
   (.cond (.t 29)
    (.seq (.region 0 [o 0 30 (.mv (.t 0)),
      o 1 31 (.mv (.t 5)),
      o 2 32 (.load true 2 (.t 7)),
      o 3 33 (.iaddr 2 (.t 30) (.t 31)),
      ox 4 (.store 2 (.t 33) (.t 32))])
    (.region 0 [o 0 34 (.mv (.t 5)),
      o 1 35 (.bin .add (.lf .i) (.t 34) (.c (.int .i64 1))),
      o 2 5 (.mv (.t 35))]))
    (.skip)))))
  (.region 0 [o 0 20 (.mv (.t 6)),
    o 1 21 (.bin .add (.lf .i) (.t 20) (.c (.int .i64 1))),
    o 2 6 (.mv (.t 21))]))
/-- slices.DeleteFunc[[]burnish/term.mono,burnish/term.mono] -/
def i164 : FnI := ⟨[.tmp 4],
 .seq (.region 0 [o 0 4 (.mv (.c (.slice none 0 0)))])
 (.seq (.region 0 [o 0 8 (.mv (.t 0)),
   o 1 9 (.mv (.t 1)),
   o 2 10 (.call (.f 209) [(.t 8), (.t 9)]),
   o 3 5 (.mv (.t 10))])
 (.seq (.seq (.region 0 [o 0 11 (.mv (.t 5)),
   o 1 12 (.bin .eql (.lf .i) (.t 11) (.c (.int .i64 (-1))))])
 (.cond (.t 12)
  (.seq (.region 0 [o 0 13 (.mv (.t 0)),
    o 1 4 (.mv (.t 13))])
  (.ret))
  (.skip)))
 (.seq (.seq (.region 0 [o 0 14 (.mv (.t 5)),
   o 1 15 (.bin .add (.lf .i) (.t 14) (.c (.int .i64 1))),
   o 2 6 (.mv (.t 15))])
 (.block 0 (.loop i164l0)))
 (.seq (.region 0 [o 0 36 (.mv (.t 0)),
   o 1 37 (.mv (.t 5)),
   o 2 38 (.slice 2 (.t 36) (some (.t 37)) none none),
   ox 3 (.clear 2 [(.int .u64 0), (.slice none 0 0)] (.t 38))])
 (.seq (.region 0 [o 0 39 (.mv (.t 0)),
   o 1 40 (.mv (.t 5)),
   o 2 41 (.slice 2 (.t 39) none (some (.t 40)) none),
   o 3 4 (.mv (.t 41))])
 (.ret))))))⟩
theorem c164 : cFn Tryz.prog Tryz.f164 = some i164 := by kernel_rfl
/-- (*burnish/term.forms).intern$2 -/
def i165 : FnI := ⟨[.tmp 2],
 .seq (.region 1 [o 0 1 (.box 0 184 (.t 0)),
   o 1 2 (.mv (.c (.bool false)))])
 (.seq (.region 0 [o 0 3 (.faddr 0 (.t 1)),
   o 1 4 (.load false 1 (.t 3)),
   o 2 5 (.bin .eql (.lf .i) (.t 4) (.c (.int .u64 0))),
   o 3 2 (.mv (.t 5))])
 (.ret))⟩
theorem c165 : cFn Tryz.prog Tryz.f165 = some i165 := by kernel_rfl
/-- strconv.FormatUint -/
def i166 : FnI := ⟨[.tmp 4],
 .seq (.region 0 [o 0 4 (.mv (.c (.string ⟨#[]⟩)))])
 (.seq (.region 0 [o 0 5 (.mv (.t 0)),
   o 1 6 (.mv (.t 1)),
   o 2 7 (.call (.f 210) [(.t 5), (.t 6)]),
   o 3 4 (.mv (.t 7))])
 (.ret))⟩
theorem c166 : cFn Tryz.prog Tryz.f166 = some i166 := by kernel_rfl
/-- (*burnish/term.forms).truth -/
def i179 : FnI := ⟨[.tmp 4],
 .seq (.region 0 [o 0 4 (.mv (.c (.int .i64 0)))])
 (.seq (.seq (.region 0 [o 0 5 (.mv (.t 1))])
 (.cond (.t 5)
  (.seq (.region 0 [o 0 6 (.mv (.t 0)),
    o 1 7 (.call (.f 57) [(.t 6), (.c (.int .i64 1)), (.c (.int .i64 1))]),
    o 2 4 (.mv (.t 7))])
  (.ret))
  (.skip)))
 (.seq (.region 0 [o 0 8 (.mv (.t 0)),
   o 1 9 (.call (.f 57) [(.t 8), (.c (.int .i64 1)), (.c (.int .i64 0))]),
   o 2 4 (.mv (.t 9))])
 (.ret)))⟩
theorem c179 : cFn Tryz.prog Tryz.f179 = some i179 := by kernel_rfl
/-- (*burnish/term.forms).commuting -/
def i180 : FnI := ⟨[.tmp 10],
 .seq (.region 0 [o 0 10 (.mv (.c (.int .i64 0)))])
 (.seq (.region 0 [o 0 11 (.mv (.t 0)),
   o 1 12 (.mv (.t 1)),
   o 2 13 (.mv (.t 2)),
   o 3 14 (.mv (.t 3)),
   o 4 15 (.mv (.t 4)),
   o 5 16 (.minmax false (.t 14) (.t 15)),
   o 6 17 (.mv (.t 3)),
   o 7 18 (.mv (.t 4)),
   o 8 19 (.minmax true (.t 17) (.t 18)),
   o 9 20 (.build [(.int .i64 0), (.int .i64 0), (.int .i64 0), (.int .i64 0), (.int .i64 0), (.int .i64 0)] [(0, 1, (.t 12)), (1, 1, (.t 13)), (2, 1, (.t 16)), (3, 1, (.t 19))]),
   o 10 21 (.call (.f 58) [(.t 11), (.t 20)]),
   o 11 10 (.mv (.t 21))])
 (.ret))⟩
theorem c180 : cFn Tryz.prog Tryz.f180 = some i180 := by kernel_rfl
/-- burnish/intn.Ult -/
def i181 : FnI := ⟨[.tmp 6],
 .seq (.region 0 [o 0 6 (.mv (.c (.bool false)))])
 (.seq (.region 0 [o 0 7 (.mv (.t 0)),
   o 1 8 (.mv (.t 1)),
   o 2 9 (.call (.f 139) [(.t 7), (.t 8)]),
   o 3 10 (.mv (.t 0)),
   o 4 11 (.mv (.t 2)),
   o 5 12 (.call (.f 139) [(.t 10), (.t 11)]),
   o 6 13 (.bin .lss (.lf .i) (.t 9) (.t 12)),
   o 7 6 (.mv (.t 13))])
 (.ret))⟩
theorem c181 : cFn Tryz.prog Tryz.f181 = some i181 := by kernel_rfl
/-- (*burnish/term.forms).product$1 -/
def i182 : FnI := ⟨[.tmp 2],
 .seq (.region 1 [o 0 1 (.box 0 184 (.t 0)),
   o 1 2 (.mv (.c (.bool false)))])
 (.seq (.region 0 [o 0 3 (.faddr 1 (.t 1)),
   o 1 4 (.load false 1 (.t 3)),
   o 2 5 (.len (.t 4)),
   o 3 6 (.bin .gtr (.lf .i) (.t 5) (.c (.int .i64 8))),
   o 4 2 (.mv (.t 6))])
 (.ret))⟩
theorem c182 : cFn Tryz.prog Tryz.f182 = some i182 := by kernel_rfl
/-- slices.ContainsFunc[[]burnish/term.mono,burnish/term.mono] -/
def i183 : FnI := ⟨[.tmp 4],
 .seq (.region 0 [o 0 4 (.mv (.c (.bool false)))])
 (.seq (.region 0 [o 0 5 (.mv (.t 0)),
   o 1 6 (.mv (.t 1)),
   o 2 7 (.call (.f 209) [(.t 5), (.t 6)]),
   o 3 8 (.bin .geq (.lf .i) (.t 7) (.c (.int .i64 0))),
   o 4 4 (.mv (.t 8))])
 (.ret))⟩
theorem c183 : cFn Tryz.prog Tryz.f183 = some i183 := by kernel_rfl
/-- burnish/intn.Srem -/
def i184 : FnI := ⟨[.tmp 6, .tmp 7],
 .seq (.region 0 [o 0 6 (.mv (.c (.int .i64 0))),
   o 1 7 (.mv (.c (.bool false)))])
 (.seq (.region 0 [o 0 8 (.mv (.t 0)),
   o 1 9 (.mv (.t 1)),
   o 2 10 (.mv (.t 2)),
   o 3 11 (.call (.f 219) [(.t 8), (.t 9), (.t 10), (.f 220)]),
   o 4 12 (.ext 0 (.t 11)),
   o 5 13 (.ext 1 (.t 11)),
   o 6 6 (.mv (.t 12)),
   o 7 7 (.mv (.t 13))])
 (.ret))⟩
theorem c184 : cFn Tryz.prog Tryz.f184 = some i184 := by kernel_rfl
/-- burnish/intn.Sdiv -/
def i185 : FnI := ⟨[.tmp 6, .tmp 7],
 .seq (.region 0 [o 0 6 (.mv (.c (.int .i64 0))),
   o 1 7 (.mv (.c (.bool false)))])
 (.seq (.region 0 [o 0 8 (.mv (.t 0)),
   o 1 9 (.mv (.t 1)),
   o 2 10 (.mv (.t 2)),
   o 3 11 (.call (.f 219) [(.t 8), (.t 9), (.t 10), (.f 221)]),
   o 4 12 (.ext 0 (.t 11)),
   o 5 13 (.ext 1 (.t 11)),
   o 6 6 (.mv (.t 12)),
   o 7 7 (.mv (.t 13))])
 (.ret))⟩
theorem c185 : cFn Tryz.prog Tryz.f185 = some i185 := by kernel_rfl
/-- burnish/term.shifted -/
def i186 : FnI := ⟨[.tmp 8],
 .seq (.region 0 [o 0 8 (.mv (.c (.int .i64 0)))])
 (.seq (.region 0 [o 0 9 (.mv (.c (.int .i64 0)))])
 (.seq (.seq (.region 0 [o 0 10 (.mv (.t 0))])
 (.block 0 (.seq (.region 0 [o 0 19 (.bin .eql (.lf .i) (.t 10) (.c (.int .i64 11))),
    o 1 18 (.mv (.t 19))])
  (.cond (.t 18)
   (.region 0 [o 0 21 (.mv (.t 1)),
     o 1 22 (.mv (.t 2)),
     o 2 23 (.mv (.t 3)),
     o 3 24 (.call (.f 222) [(.t 21), (.t 22), (.t 23)]),
     o 4 20 (.mv (.t 24)),
     o 5 25 (.ext 0 (.t 20)),
     o 6 26 (.ext 1 (.t 20)),
     o 7 9 (.mv (.t 25))])
   (.seq (.region 0 [o 0 28 (.bin .eql (.lf .i) (.t 10) (.c (.int .i64 12))),
     o 1 27 (.mv (.t 28))])
   (.cond (.t 27)
    (.region 0 [o 0 30 (.mv (.t 1)),
      o 1 31 (.mv (.t 2)),
      o 2 32 (.mv (.t 3)),
      o 3 33 (.call (.f 223) [(.t 30), (.t 31), (.t 32)]),
      o 4 29 (.mv (.t 33)),
      o 5 34 (.ext 0 (.t 29)),
      o 6 35 (.ext 1 (.t 29)),
      o 7 9 (.mv (.t 34))])
    (.region 0 [o 0 12 (.mv (.t 1)),
      o 1 13 (.mv (.t 2)),
      o 2 14 (.mv (.t 3)),
      o 3 15 (.call (.f 224) [(.t 12), (.t 13), (.t 14)]),
      o 4 11 (.mv (.t 15)),
      o 5 16 (.ext 0 (.t 11)),
      o 6 17 (.ext 1 (.t 11)),
      o 7 9 (.mv (.t 16))])))))))
 (.seq (.region 0 [o 0 36 (.mv (.t 9)),
   o 1 8 (.mv (.t 36))])
 (.ret))))⟩
theorem c186 : cFn Tryz.prog Tryz.f186 = some i186 := by kernel_rfl
/-- burnish/intn.Add -/
def i187 : FnI := ⟨[.tmp 6, .tmp 7],
 .seq (.region 2 [o 0 4 (.box 0 2 (.t 1)),
   o 1 5 (.box 1 2 (.t 2)),
   o 2 6 (.mv (.c (.int .i64 0))),
   o 3 7 (.mv (.c (.bool false)))])
 (.seq (.region 1 [o 0 9 (.mv (.t 0)),
   o 1 10 (.bslice 0 279 1 2 [(.pointer none), (.pointer none)] [(0, 1, (.t 4)), (1, 1, (.t 5))]),
   o 2 11 (.call (.f 225) [(.t 9), (.t 10)])])
 (.seq (.region 0 [o 0 12 (.load false 1 (.t 4)),
   o 1 13 (.load false 1 (.t 5)),
   o 2 14 (.bin .add (.lf .i) (.t 12) (.t 13)),
   o 3 8 (.mv (.t 14))])
 (.seq (.region 0 [o 0 15 (.mv (.t 0)),
   o 1 16 (.mv (.t 8)),
   o 2 17 (.load false 1 (.t 4)),
   o 3 18 (.mv (.t 8)),
   o 4 19 (.bin .xor (.lf .i) (.t 17) (.t 18)),
   o 5 20 (.load false 1 (.t 5)),
   o 6 21 (.mv (.t 8)),
   o 7 22 (.bin .xor (.lf .i) (.t 20) (.t 21)),
   o 8 23 (.bin .and (.lf .i) (.t 19) (.t 22)),
   o 9 24 (.bin .lss (.lf .i) (.t 23) (.c (.int .i64 0))),
   o 10 25 (.call (.f 226) [(.t 15), (.t 16), (.t 24)]),
   o 11 26 (.ext 0 (.t 25)),
   o 12 27 (.ext 1 (.t 25)),
   o 13 6 (.mv (.t 26)),
   o 14 7 (.mv (.t 27))])
 (.ret))))⟩
theorem c187 : cFn Tryz.prog Tryz.f187 = some i187 := by kernel_rfl
/-- burnish/intn.Sub -/
def i188 : FnI := ⟨[.tmp 6, .tmp 7],
 .seq (.region 2 [o 0 4 (.box 0 2 (.t 1)),
   o 1 5 (.box 1 2 (.t 2)),
   o 2 6 (.mv (.c (.int .i64 0))),
   o 3 7 (.mv (.c (.bool false)))])
 (.seq (.region 1 [o 0 9 (.mv (.t 0)),
   o 1 10 (.bslice 0 279 1 2 [(.pointer none), (.pointer none)] [(0, 1, (.t 4)), (1, 1, (.t 5))]),
   o 2 11 (.call (.f 225) [(.t 9), (.t 10)])])
 (.seq (.region 0 [o 0 12 (.load false 1 (.t 4)),
   o 1 13 (.load false 1 (.t 5)),
   o 2 14 (.bin .sub (.lf .i) (.t 12) (.t 13)),
   o 3 8 (.mv (.t 14))])
 (.seq (.region 0 [o 0 15 (.mv (.t 0)),
   o 1 16 (.mv (.t 8)),
   o 2 17 (.load false 1 (.t 4)),
   o 3 18 (.load false 1 (.t 5)),
   o 4 19 (.bin .xor (.lf .i) (.t 17) (.t 18)),
   o 5 20 (.load false 1 (.t 4)),
   o 6 21 (.mv (.t 8)),
   o 7 22 (.bin .xor (.lf .i) (.t 20) (.t 21)),
   o 8 23 (.bin .and (.lf .i) (.t 19) (.t 22)),
   o 9 24 (.bin .lss (.lf .i) (.t 23) (.c (.int .i64 0))),
   o 10 25 (.call (.f 226) [(.t 15), (.t 16), (.t 24)]),
   o 11 26 (.ext 0 (.t 25)),
   o 12 27 (.ext 1 (.t 25)),
   o 13 6 (.mv (.t 26)),
   o 14 7 (.mv (.t 27))])
 (.ret))))⟩
theorem c188 : cFn Tryz.prog Tryz.f188 = some i188 := by kernel_rfl
/-- burnish/intn.Mul -/
def i189 : FnI := ⟨[.tmp 6, .tmp 7],
 .seq (.region 2 [o 0 4 (.box 0 2 (.t 1)),
   o 1 5 (.box 1 2 (.t 2)),
   o 2 6 (.mv (.c (.int .i64 0))),
   o 3 7 (.mv (.c (.bool false)))])
 (.seq (.region 1 [o 0 11 (.mv (.t 0)),
   o 1 12 (.bslice 0 279 1 2 [(.pointer none), (.pointer none)] [(0, 1, (.t 4)), (1, 1, (.t 5))]),
   o 2 13 (.call (.f 225) [(.t 11), (.t 12)])])
 (.seq (.region 0 [o 0 15 (.load false 1 (.t 4)),
   ⟨1, (some 16), none, .call (.f 228) [(.t 15)], [], true⟩,
   ⟨2, (some 17), none, .load false 1 (.t 5), [1], false⟩,
   o 3 18 (.call (.f 228) [(.t 17)]),
   o 4 19 (.call (.f 227) [(.t 16), (.t 18)]),
   o 5 14 (.mv (.t 19)),
   o 6 20 (.ext 0 (.t 14)),
   o 7 21 (.ext 1 (.t 14)),
   o 8 8 (.mv (.t 20)),
   o 9 9 (.mv (.t 21))])
 (.seq (.region 0 [o 0 10 (.mv (.c (.int .u64 9223372036854775808)))])
 (.seq (.seq (.region 0 [o 0 22 (.load false 1 (.t 4)),
   o 1 23 (.bin .lss (.lf .i) (.t 22) (.c (.int .i64 0))),
   o 2 24 (.load false 1 (.t 5)),
   o 3 25 (.bin .lss (.lf .i) (.t 24) (.c (.int .i64 0))),
   o 4 26 (.bin .eql (.lf .b) (.t 23) (.t 25))])
 (.cond (.t 26)
  (.region 0 [o 0 27 (.mv (.t 10)),
    o 1 28 (.bin .sub (.lf .i) (.t 27) (.c (.int .u64 1))),
    o 2 10 (.mv (.t 28))])
  (.skip)))
 (.seq (.region 0 [o 0 29 (.mv (.t 0)),
   o 1 30 (.load false 1 (.t 4)),
   o 2 31 (.load false 1 (.t 5)),
   o 3 32 (.bin .mul (.lf .i) (.t 30) (.t 31)),
   o 4 33 (.mv (.t 8)),
   o 5 34 (.bin .neq (.lf .i) (.t 33) (.c (.int .u64 0))),
   o 6 35 (.mv (.t 34)),
   og 7 36 35 false (.mv (.t 9)),
   og 8 37 35 false (.mv (.t 10)),
   og 9 38 35 false (.bin .gtr (.lf .i) (.t 36) (.t 37)),
   o 10 39 (.pick (.t 35) (.c (.bool true)) (.t 38)),
   o 11 40 (.call (.f 226) [(.t 29), (.t 32), (.t 39)]),
   o 12 41 (.ext 0 (.t 40)),
   o 13 42 (.ext 1 (.t 40)),
   o 14 6 (.mv (.t 41)),
   o 15 7 (.mv (.t 42))])
 (.ret))))))⟩
theorem c189 : cFn Tryz.prog Tryz.f189 = some i189 := by kernel_rfl
def i190l0 : Cd :=
  .block 1 (.seq (.region 0 [o 0 11 (.mv (.t 8)),
     o 1 12 (.bin .mul (.lf .i) (.c (.int .i64 2)) (.t 11)),
     o 2 13 (.bin .add (.lf .i) (.t 12) (.c (.int .i64 1))),
     o 3 9 (.mv (.t 13))])
   (.seq (.seq (.region 0 [o 0 14 (.mv (.t 9)),
     o 1 15 (.mv (.t 2)),
     o 2 16 (.bin .geq (.lf .i) (.t 14) (.t 15))])
   (.cond (.t 16)
    (.exit 0)
    (.skip)))
   (.seq (.seq (.region 0 [o 0 17 (.mv (.t 9)),
     o 1 18 (.bin .add (.lf .i) (.t 17) (.c (.int .i64 1))),
     o 2 19 (.mv (.t 2)),
     o 3 20 (.bin .lss (.lf .i) (.t 18) (.t 19)),
     o 4 21 (.mv (.t 20)),
     og 5 22 21 true (.mv (.t 0)),
     og 6 23 21 true (.mv (.t 3)),
     og 7 24 21 true (.mv (.t 9)),
     og 8 25 21 true (.bin .add (.lf .i) (.t 23) (.t 24)),
     og 9 26 21 true (.iaddr 1 (.t 22) (.t 25)),
     og 10 27 21 true (.load false 1 (.t 26)),
     og 11 28 21 true (.mv (.t 0)),
     og 12 29 21 true (.mv (.t 3)),
     og 13 30 21 true (.mv (.t 9)),
     og 14 31 21 true (.bin .add (.lf .i) (.t 29) (.t 30)),
     og 15 32 21 true (.bin .add (.lf .i) (.t 31) (.c (.int .i64 1))),
     og 16 33 21 true (.iaddr 1 (.t 28) (.t 32)),
     og 17 34 21 true (.load false 1 (.t 33)),
     og 18 35 21 true (.call (.f 148) [(.t 27), (.t 34)]),
     o 19 36 (.pick (.t 21) (.t 35) (.c (.bool false)))])
   (.cond (.t 36)
    (.region 0 [o 0 37 (.mv (.t 9)),
      o 1 38 (.bin .add (.lf .i) (.t 37) (.c (.int .i64 1))),
      o 2 9 (.mv (.t 38))])
    (.skip)))
   (.seq (.seq (.region 0 [o 0 39 (.mv (.t 0)),
     o 1 40 (.mv (.t 3)),
     o 2 41 (.mv (.t 8)),
     o 3 42 (.bin .add (.lf .i) (.t 40) (.t 41)),
     o 4 43 (.iaddr 1 (.t 39) (.t 42)),
     o 5 44 (.load false 1 (.t 43)),
     o 6 45 (.mv (.t 0)),
     o 7 46 (.mv (.t 3)),
     o 8 47 (.mv (.t 9)),
     o 9 48 (.bin .add (.lf .i) (.t 46) (.t 47)),
     o 10 49 (.iaddr 1 (.t 45) (.t 48)),
     o 11 50 (.load false 1 (.t 49)),
     o 12 51 (.call (.f 148) [(.t 44), (.t 50)]),
     o 13 52 (.un .not (.t 51))])
   (.cond (.t 52)
    (.ret)
    (.skip)))
   (.seq (.region 0 [o 8 61 (.mv (.t 0)),
     o 9 62 (.mv (.t 3)),
     o 10 63 (.mv (.t 9)),
     o 11 64 (.bin .add (.lf .i) (.t 62) (.t 63)),
     o 12 65 (.iaddr 1 (.t 61) (.t 64)),
     o 13 66 (.load false 1 (.t 65)),
     o 14 67 (.mv (.t 0)),
     o 15 68 (.mv (.t 3)),
     o 16 69 (.mv (.t 8)),
     o 17 70 (.bin .add (.lf .i) (.t 68) (.t 69)),
     o 18 71 (.iaddr 1 (.t 67) (.t 70)),
     o 19 72 (.load false 1 (.t 71)),
     o 0 53 (.mv (.t 0)),
     o 1 54 (.mv (.t 3)),
     o 2 55 (.mv (.t 8)),
     o 3 56 (.bin .add (.lf .i) (.t 54) (.t 55)),
     o 20 73 (.iaddr 1 (.t 53) (.t 56)),
     ox 21 (.store 1 (.t 73) (.t 66)),
     o 4 57 (.mv (.t 0)),
     o 5 58 (.mv (.t 3)),
     o 6 59 (.mv (.t 9)),
     o 7 60 (.bin .add (.lf .i) (.t 58) (.t 59)),
     o 22 74 (.iaddr 1 (.t 57) (.t 60)),
     ox 23 (.store 1 (.t 74) (.t 72))])
   (.region 0 [o 0 75 (.mv (.t 9)),
     o 1 8 (.mv (.t 75))]))))))
/-- slices.siftDownOrdered[int] -/
def i190 : FnI := ⟨[],
 .seq (.region 0 [o 0 10 (.mv (.t 1)),
   o 1 8 (.mv (.t 10))])
 (.block 0 (.loop i190l0))⟩
theorem c190 : cFn Tryz.prog Tryz.f190 = some i190 := by kernel_rfl
/-- slices.nextPowerOfTwo -/
def i191 : FnI := ⟨[.tmp 2],
 .seq (.region 0 [o 0 2 (.mv (.c (.int .u64 0)))])
 (.seq (.region 0 [o 0 3 (.mv (.t 0)),
   o 1 4 (.conv .u64 (.t 3)),
   o 2 5 (.call (.f 85) [(.t 4)]),
   o 3 6 (.bin .shl (.lf .i) (.c (.int .u64 1)) (.t 5)),
   o 4 2 (.mv (.t 6))])
 (.ret))⟩
theorem c191 : cFn Tryz.prog Tryz.f191 = some i191 := by kernel_rfl
/-- (*slices.xorshift).Next -/
def i192 : FnI := ⟨[.tmp 2],
 .seq (.region 0 [o 0 2 (.mv (.c (.int .u64 0)))])
 (.seq (.region 0 [o 0 3 (.mv (.t 0)),
   o 1 4 (.nilchk (.t 3)),
   o 2 5 (.load false 1 (.t 4)),
   o 3 6 (.mv (.t 0)),
   o 4 7 (.nilchk (.t 6)),
   o 5 8 (.load false 1 (.t 7)),
   o 6 9 (.bin .shl (.lf .i) (.t 8) (.c (.int .u64 13))),
   o 7 10 (.bin .xor (.lf .i) (.t 5) (.t 9)),
   o 8 11 (.nilchk (.t 3)),
   ox 9 (.store 1 (.t 11) (.t 10))])
 (.seq (.region 0 [o 0 12 (.mv (.t 0)),
   o 1 13 (.nilchk (.t 12)),
   o 2 14 (.load false 1 (.t 13)),
   o 3 15 (.mv (.t 0)),
   o 4 16 (.nilchk (.t 15)),
   o 5 17 (.load false 1 (.t 16)),
   o 6 18 (.bin .shr (.lf .i) (.t 17) (.c (.int .u64 7))),
   o 7 19 (.bin .xor (.lf .i) (.t 14) (.t 18)),
   o 8 20 (.nilchk (.t 12)),
   ox 9 (.store 1 (.t 20) (.t 19))])
 (.seq (.region 0 [o 0 21 (.mv (.t 0)),
   o 1 22 (.nilchk (.t 21)),
   o 2 23 (.load false 1 (.t 22)),
   o 3 24 (.mv (.t 0)),
   o 4 25 (.nilchk (.t 24)),
   o 5 26 (.load false 1 (.t 25)),
   o 6 27 (.bin .shl (.lf .i) (.t 26) (.c (.int .u64 17))),
   o 7 28 (.bin .xor (.lf .i) (.t 23) (.t 27)),
   o 8 29 (.nilchk (.t 21)),
   ox 9 (.store 1 (.t 29) (.t 28))])
 (.seq (.region 0 [o 0 30 (.mv (.t 0)),
   o 1 31 (.nilchk (.t 30)),
   o 2 32 (.load false 1 (.t 31)),
   o 3 2 (.mv (.t 32))])
 (.ret)))))⟩
theorem c192 : cFn Tryz.prog Tryz.f192 = some i192 := by kernel_rfl
/-- slices.medianAdjacentOrdered[int] -/
def i193 : FnI := ⟨[.tmp 6],
 .seq (.region 0 [o 0 6 (.mv (.c (.int .i64 0)))])
 (.seq (.region 0 [o 0 7 (.mv (.t 0)),
   o 1 8 (.mv (.t 1)),
   o 2 9 (.bin .sub (.lf .i) (.t 8) (.c (.int .i64 1))),
   o 3 10 (.mv (.t 1)),
   o 4 11 (.mv (.t 1)),
   o 5 12 (.bin .add (.lf .i) (.t 11) (.c (.int .i64 1))),
   o 6 13 (.mv (.t 2)),
   o 7 14 (.call (.f 194) [(.t 7), (.t 9), (.t 10), (.t 12), (.t 13)]),
   o 8 6 (.mv (.t 14))])
 (.ret))⟩
theorem c193 : cFn Tryz.prog Tryz.f193 = some i193 := by kernel_rfl
/-- slices.medianOrdered[int] -/
def i194 : FnI := ⟨[.tmp 10],
 .seq (.region 0 [o 0 10 (.mv (.c (.int .i64 0)))])
 (.seq (.region 0 [o 0 12 (.mv (.t 0)),
   o 1 13 (.mv (.t 1)),
   o 2 14 (.mv (.t 2)),
   o 3 15 (.mv (.t 4)),
   o 4 16 (.call (.f 229) [(.t 12), (.t 13), (.t 14), (.t 15)]),
   o 5 11 (.mv (.t 16)),
   o 6 17 (.ext 0 (.t 11)),
   o 7 18 (.ext 1 (.t 11)),
   o 8 1 (.mv (.t 17)),
   o 9 2 (.mv (.t 18))])
 (.seq (.region 0 [o 0 20 (.mv (.t 0)),
   o 1 21 (.mv (.t 2)),
   o 2 22 (.mv (.t 3)),
   o 3 23 (.mv (.t 4)),
   o 4 24 (.call (.f 229) [(.t 20), (.t 21), (.t 22), (.t 23)]),
   o 5 19 (.mv (.t 24)),
   o 6 25 (.ext 0 (.t 19)),
   o 7 26 (.ext 1 (.t 19)),
   o 8 2 (.mv (.t 25)),
   o 9 3 (.mv (.t 26))])
 (.seq (.region 0 [o 0 28 (.mv (.t 0)),
   o 1 29 (.mv (.t 1)),
   o 2 30 (.mv (.t 2)),
   o 3 31 (.mv (.t 4)),
   o 4 32 (.call (.f 229) [(.t 28), (.t 29), (.t 30), (.t 31)]),
   o 5 27 (.mv (.t 32)),
   o 6 33 (.ext 0 (.t 27)),
   o 7 34 (.ext 1 (.t 27)),
   o 8 1 (.mv (.t 33)),
   o 9 2 (.mv (.t 34))])
 (.seq (.region 0 [o 0 35 (.mv (.t 2)),
   o 1 10 (.mv (.t 35))])
 (.ret)))))⟩
theorem c194 : cFn Tryz.prog Tryz.f194 = some i194 := by kernel_rfl
/-- cmp.isNaN[int] -/
def i195 : FnI := ⟨[.tmp 2],
 .seq (.region 0 [o 0 2 (.mv (.c (.bool false)))])
 (.seq (.region 0 [o 0 3 (.mv (.t 0)),
   o 1 4 (.mv (.t 0)),
   o 2 5 (.bin .neq (.lf .i) (.t 3) (.t 4)),
   o 3 2 (.mv (.t 5))])
 (.ret))⟩
theorem c195 : cFn Tryz.prog Tryz.f195 = some i195 := by kernel_rfl
/-- internal/strconv.FormatInt -/
def i196 : FnI := ⟨[.tmp 4],
 .seq (.region 0 [o 0 4 (.mv (.c (.string ⟨#[]⟩)))])
 (.seq (.seq (.region 0 [o 0 10 (.mv (.t 1)),
   o 1 11 (.bin .eql (.lf .i) (.t 10) (.c (.int .i64 10)))])
 (.cond (.t 11)
  (.seq (.seq (.region 0 [o 0 12 (.mv (.t 0)),
    o 1 13 (.bin .leq (.lf .i) (.c (.int .i64 0)) (.t 12)),
    o 2 14 (.mv (.t 13)),
    og 3 15 14 true (.mv (.t 0)),
    og 4 16 14 true (.bin .lss (.lf .i) (.t 15) (.c (.int .i64 100))),
    o 5 17 (.pick (.t 14) (.t 16) (.c (.bool false)))])
  (.cond (.t 17)
   (.seq (.region 0 [o 0 18 (.mv (.t 0)),
     o 1 19 (.call (.f 230) [(.t 18)]),
     o 2 4 (.mv (.t 19))])
   (.ret))
   (.skip)))
  (.seq (.region 1 [o 0 5 (.alloc 0 287 [(.int .u8 0), (.int .u8 0), (.int .u8 0), (.int .u8 0), (.int .u8 0), (.int .u8 0), (.int .u8 0), (.int .u8 0), (.int .u8 0), (.int .u8 0), (.int .u8 0), (.int .u8 0), (.int .u8 0), (.int .u8 0), (.int .u8 0), (.int .u8 0), (.int .u8 0), (.int .u8 0), (.int .u8 0), (.int .u8 0), (.int .u8 0), (.int .u8 0), (.int .u8 0), (.int .u8 0)])])
  (.seq (.region 0 [o 0 20 (.mv (.t 0)),
    o 1 21 (.conv .u64 (.t 20)),
    o 2 6 (.mv (.t 21))])
  (.seq (.seq (.region 0 [o 0 22 (.mv (.t 0)),
    o 1 23 (.bin .lss (.lf .i) (.t 22) (.c (.int .i64 0)))])
  (.cond (.t 23)
   (.region 0 [o 0 24 (.mv (.t 6)),
     o 1 25 (.un .neg (.t 24)),
     o 2 6 (.mv (.t 25))])
   (.skip)))
  (.seq (.region 0 [o 0 26 (.mv (.t 6)),
    o 1 27 (.call (.f 231) [(.t 26)]),
    o 2 7 (.mv (.t 27))])
  (.seq (.region 0 [o 0 28 (.mv (.t 7)),
    o 1 29 (.bin .add (.lf .i) (.c (.int .i64 1)) (.t 28)),
    o 2 30 (.aslice 24 1 (.t 5) (some (.c (.int .i64 1))) (some (.t 29))),
    o 3 31 (.mv (.t 6)),
    o 4 32 (.call (.f 232) [(.t 30), (.t 31)])])
  (.seq (.seq (.region 0 [o 0 33 (.mv (.t 0)),
    o 1 34 (.bin .lss (.lf .i) (.t 33) (.c (.int .i64 0)))])
  (.cond (.t 34)
   (.seq (.region 0 [o 0 35 (.aaddr 24 1 (.t 5) (.c (.int .i64 0))),
     ox 1 (.store 1 (.t 35) (.c (.int .u8 45)))])
   (.seq (.region 0 [o 0 36 (.mv (.t 7)),
     o 1 37 (.bin .add (.lf .i) (.c (.int .i64 1)) (.t 36)),
     o 2 38 (.aslice 24 1 (.t 5) none (some (.t 37))),
     o 3 39 (.b2s (.t 38)),
     o 4 4 (.mv (.t 39))])
   (.ret)))
   (.skip)))
  (.seq (.region 0 [o 0 40 (.mv (.t 7)),
    o 1 41 (.bin .add (.lf .i) (.c (.int .i64 1)) (.t 40)),
    o 2 42 (.aslice 24 1 (.t 5) (some (.c (.int .i64 1))) (some (.t 41))),
    o 3 43 (.b2s (.t 42)),
    o 4 4 (.mv (.t 43))])
  (.ret)))))))))
  (.skip)))
 (.seq (.region 0 [o 0 45 (.mv (.t 0)),
   o 1 46 (.conv .u64 (.t 45)),
   o 2 47 (.mv (.t 1)),
   o 3 48 (.mv (.t 0)),
   o 4 49 (.bin .lss (.lf .i) (.t 48) (.c (.int .i64 0))),
   o 5 50 (.call (.f 233) [(.c (.slice none 0 0)), (.t 46), (.t 47), (.t 49), (.c (.bool false))]),
   o 6 44 (.mv (.t 50)),
   o 7 51 (.ext 0 (.t 44)),
   o 8 52 (.ext 1 (.t 44)),
   o 9 8 (.mv (.t 51)),
   o 10 9 (.mv (.t 52))])
 (.seq (.region 0 [o 0 53 (.mv (.t 9)),
   o 1 4 (.mv (.t 53))])
 (.ret))))⟩
theorem c196 : cFn Tryz.prog Tryz.f196 = some i196 := by kernel_rfl
def i207l0 : Cd :=
  .block 1 (.seq (.region 0 [o 0 21 (.mv (.t 2)),
     o 1 22 (.mv (.t 1)),
     o 2 23 (.bin .sub (.lf .i) (.t 21) (.t 22)),
     o 3 12 (.mv (.t 23))])
   (.seq (.seq (.region 0 [o 0 24 (.mv (.t 12)),
     o 1 25 (.bin .leq (.lf .i) (.t 24) (.c (.int .i64 12)))])
   (.cond (.t 25)
    (.seq (.region 0 [o 0 26 (.mv (.t 0)),
      o 1 27 (.mv (.t 1)),
      o 2 28 (.mv (.t 2)),
      o 3 29 (.mv (.t 4)),
      o 4 30 (.call (.f 236) [(.t 26), (.t 27), (.t 28), (.t 29)])])
    (.ret))
    (.skip)))
   (.seq (.seq (.region 0 [o 0 31 (.mv (.t 3)),
     o 1 32 (.bin .eql (.lf .i) (.t 31) (.c (.int .i64 0)))])
   (.cond (.t 32)
    (.seq (.region 0 [o 0 33 (.mv (.t 0)),
      o 1 34 (.mv (.t 1)),
      o 2 35 (.mv (.t 2)),
      o 3 36 (.mv (.t 4)),
      o 4 37 (.call (.f 237) [(.t 33), (.t 34), (.t 35), (.t 36)])])
    (.ret))
    (.skip)))
   (.seq (.seq (.region 0 [o 0 38 (.mv (.t 10)),
     o 1 39 (.un .not (.t 38))])
   (.cond (.t 39)
    (.seq (.region 0 [o 0 40 (.mv (.t 0)),
      o 1 41 (.mv (.t 1)),
      o 2 42 (.mv (.t 2)),
      o 3 43 (.mv (.t 4)),
      o 4 44 (.call (.f 238) [(.t 40), (.t 41), (.t 42), (.t 43)])])
    (.region 0 [o 0 45 (.mv (.t 3)),
      o 1 46 (.bin .sub (.lf .i) (.t 45) (.c (.int .i64 1))),
      o 2 3 (.mv (.t 46))]))
    (.skip)))
   (.seq (.region 0 [o 0 48 (.mv (.t 0)),
     o 1 49 (.mv (.t 1)),
     o 2 50 (.mv (.t 2)),
     o 3 51 (.mv (.t 4)),
     o 4 52 (.call (.f 239) [(.t 48), (.t 49), (.t 50), (.t 51)]),
     o 5 47 (.mv (.t 52)),
     o 6 53 (.ext 0 (.t 47)),
     o 7 54 (.ext 1 (.t 47)),
     o 8 13 (.mv (.t 53)),
     o 9 14 (.mv (.t 54))])
   (.seq (.seq (.region 0 [o 0 55 (.mv (.t 14)),
     o 1 56 (.bin .eql (.lf .i) (.t 55) (.c (.int .i64 2)))])
   (.cond (.t 56)
    (.seq (.region 0 [o 0 57 (.mv (.t 0)),
      o 1 58 (.mv (.t 1)),
      o 2 59 (.mv (.t 2)),
      o 3 60 (.mv (.t 4)),
      o 4 61 (.call (.f 240) [(.t 57), (.t 58), (.t 59), (.t 60)])])
    (.seq (.region 0 [o 0 62 (.mv (.t 2)),
      o 1 63 (.bin .sub (.lf .i) (.t 62) (.c (.int .i64 1))),
      o 2 64 (.mv (.t 13)),
      o 3 65 (.mv (.t 1)),
      o 4 66 (.bin .sub (.lf .i) (.t 64) (.t 65)),
      o 5 67 (.bin .sub (.lf .i) (.t 63) (.t 66)),
      o 6 13 (.mv (.t 67))])
    (.region 0 [o 0 14 (.mv (.c (.int .i64 1)))])))
    (.skip)))
   (.seq (.seq (.region 0 [o 0 68 (.mv (.t 10)),
     o 1 69 (.mv (.t 68)),
     og 2 70 69 true (.mv (.t 11)),
     o 3 71 (.pick (.t 69) (.t 70) (.c (.bool false))),
     o 4 72 (.mv (.t 71)),
     og 5 73 72 true (.mv (.t 14)),
     og 6 74 72 true (.bin .eql (.lf .i) (.t 73) (.c (.int .i64 1))),
     o 7 75 (.pick (.t 72) (.t 74) (.c (.bool false)))])
   (.cond (.t 75)
    (.seq (.region 0 [o 0 76 (.mv (.t 0)),
      o 1 77 (.mv (.t 1)),
      o 2 78 (.mv (.t 2)),
      o 3 79 (.mv (.t 4)),
      o 4 80 (.call (.f 241) [(.t 76), (.t 77), (.t 78), (.t 79)])])
    (.cond (.t 80)
     (.ret)
     (.skip)))
    (.skip)))
   (.seq (.seq (.region 0 [o 0 81 (.mv (.t 1)),
     o 1 82 (.bin .gtr (.lf .i) (.t 81) (.c (.int .i64 0))),
     o 2 83 (.mv (.t 82)),
     og 3 84 83 true (.mv (.t 4)),
     og 4 85 83 true (.mv (.t 0)),
     og 5 86 83 true (.mv (.t 1)),
     og 6 87 83 true (.bin .sub (.lf .i) (.t 86) (.c (.int .i64 1))),
     og 7 88 83 true (.iaddr 2 (.t 85) (.t 87)),
     og 8 89 83 true (.load true 2 (.t 88)),
     og 9 90 83 true (.mv (.t 0)),
     og 10 91 83 true (.mv (.t 13)),
     og 11 92 83 true (.iaddr 2 (.t 90) (.t 91)),
     og 12 93 83 true (.load true 2 (.t 92)),
     og 13 94 83 true (.call (.t 84) [(.t 89), (.t 93)]),
     og 14 95 83 true (.bin .lss (.lf .i) (.t 94) (.c (.int .i64 0))),
     og 15 96 83 true (.un .not (.t 95)),
     o 16 97 (.pick (.t 83) (.t 96) (.c (.bool false)))])
   (.cond (.t 97)
    (.seq (.region 0 [o 0 98 (.mv (.t 0)),
      o 1 99 (.mv (.t 1)),
      o 2 100 (.mv (.t 2)),
      o 3 101 (.mv (.t 13)),
      o 4 102 (.mv (.t 4)),
      o 5 103 (.call (.f 242) [(.t 98), (.t 99), (.t 100), (.t 101), (.t 102)]),
      o 6 15 (.mv (.t 103))])
    (.seq (.region 0 [o 0 104 (.mv (.t 15)),
      o 1 1 (.mv (.t 104))])
    (.exit 1)))
    (.skip)))
   (.seq (.region 0 [o 0 106 (.mv (.t 0)),
     o 1 107 (.mv (.t 1)),
     o 2 108 (.mv (.t 2)),
     o 3 109 (.mv (.t 13)),
     o 4 110 (.mv (.t 4)),
     o 5 111 (.call (.f 243) [(.t 106), (.t 107), (.t 108), (.t 109), (.t 110)]),
     o 6 105 (.mv (.t 111)),
     o 7 112 (.ext 0 (.t 105)),
     o 8 113 (.ext 1 (.t 105)),
     o 9 16 (.mv (.t 112)),
     o 10 17 (.mv (.t 113))])
   (.seq (.region 0 [o 0 114 (.mv (.t 17)),
     o 1 11 (.mv (.t 114))])
   (.seq (.region 0 [o 0 115 (.mv (.t 16)),
     o 1 116 (.mv (.t 1)),
     o 2 117 (.bin .sub (.lf .i) (.t 115) (.t 116)),
     o 3 118 (.mv (.t 2)),
     o 4 119 (.mv (.t 16)),
     o 5 120 (.bin .sub (.lf .i) (.t 118) (.t 119)),
     o 6 18 (.mv (.t 117)),
     o 7 19 (.mv (.t 120))])
   (.seq (.region 0 [o 0 121 (.mv (.t 12)),
     o 1 122 (.bin .quo (.lf .i) (.t 121) (.c (.int .i64 8))),
     o 2 20 (.mv (.t 122))])
   (.seq (.region 0 [o 0 123 (.mv (.t 18)),
     o 1 124 (.mv (.t 19)),
     o 2 125 (.bin .lss (.lf .i) (.t 123) (.t 124))])
   (.cond (.t 125)
    (.seq (.region 0 [o 0 126 (.mv (.t 18)),
      o 1 127 (.mv (.t 20)),
      o 2 128 (.bin .geq (.lf .i) (.t 126) (.t 127)),
      o 3 10 (.mv (.t 128))])
    (.seq (.region 0 [o 0 129 (.mv (.t 0)),
      o 1 130 (.mv (.t 1)),
      o 2 131 (.mv (.t 16)),
      o 3 132 (.mv (.t 3)),
      o 4 133 (.mv (.t 4)),
      o 5 134 (.call (.f 207) [(.t 129), (.t 130), (.t 131), (.t 132), (.t 133)])])
    (.region 0 [o 0 135 (.mv (.t 16)),
      o 1 136 (.bin .add (.lf .i) (.t 135) (.c (.int .i64 1))),
      o 2 1 (.mv (.t 136))])))
    (.seq (.region 0 [o 0 137 (.mv (.t 19)),
      o 1 138 (.mv (.t 20)),
      o 2 139 (.bin .geq (.lf .i) (.t 137) (.t 138)),
      o 3 10 (.mv (.t 139))])
    (.seq (.region 0 [o 0 140 (.mv (.t 0)),
      o 1 141 (.mv (.t 16)),
      o 2 142 (.bin .add (.lf .i) (.t 141) (.c (.int .i64 1))),
      o 3 143 (.mv (.t 2)),
      o 4 144 (.mv (.t 3)),
      o 5 145 (.mv (.t 4)),
      o 6 146 (.call (.f 207) [(.t 140), (.t 142), (.t 143), (.t 144), (.t 145)])])
    (.region 0 [o 0 147 (.mv (.t 16)),
      o 1 2 (.mv (.t 147))])))))))))))))))))
/-- slices.pdqsortCmpFunc[burnish/term.mono] -/
def i207 : FnI := ⟨[],
 .seq (.region 0 [o 0 10 (.mv (.c (.bool true)))])
 (.seq (.region 0 [o 0 11 (.mv (.c (.bool true)))])
 (.block 0 (.loop i207l0)))⟩
theorem c207 : cFn Tryz.prog Tryz.f207 = some i207 := by kernel_rfl
/-- cmp.Compare[int] -/
def i208 : FnI := ⟨[.tmp 4],
 .seq (.region 0 [o 0 4 (.mv (.c (.int .i64 0)))])
 (.seq (.region 0 [o 0 7 (.mv (.t 0)),
   o 1 8 (.call (.f 195) [(.t 7)]),
   o 2 5 (.mv (.t 8))])
 (.seq (.region 0 [o 0 9 (.mv (.t 1)),
   o 1 10 (.call (.f 195) [(.t 9)]),
   o 2 6 (.mv (.t 10))])
 (.seq (.seq (.region 0 [o 0 11 (.mv (.t 5))])
 (.cond (.t 11)
  (.seq (.seq (.region 0 [o 0 12 (.mv (.t 6))])
  (.cond (.t 12)
   (.seq (.region 0 [o 0 4 (.mv (.c (.int .i64 0)))])
   (.ret))
   (.skip)))
  (.seq (.region 0 [o 0 4 (.mv (.c (.int .i64 (-1))))])
  (.ret)))
  (.skip)))
 (.seq (.seq (.region 0 [o 0 13 (.mv (.t 6))])
 (.cond (.t 13)
  (.seq (.region 0 [o 0 4 (.mv (.c (.int .i64 1)))])
  (.ret))
  (.skip)))
 (.seq (.seq (.region 0 [o 0 14 (.mv (.t 0)),
   o 1 15 (.mv (.t 1)),
   o 2 16 (.bin .lss (.lf .i) (.t 14) (.t 15))])
 (.cond (.t 16)
  (.seq (.region 0 [o 0 4 (.mv (.c (.int .i64 (-1))))])
  (.ret))
  (.skip)))
 (.seq (.seq (.region 0 [o 0 17 (.mv (.t 0)),
   o 1 18 (.mv (.t 1)),
   o 2 19 (.bin .gtr (.lf .i) (.t 17) (.t 18))])
 (.cond (.t 19)
  (.seq (.region 0 [o 0 4 (.mv (.c (.int .i64 1)))])
  (.ret))
  (.skip)))
 (.seq (.region 0 [o 0 4 (.mv (.c (.int .i64 0)))])
 (.ret))))))))⟩
theorem c208 : cFn Tryz.prog Tryz.f208 = some i208 := by kernel_rfl
def i209l0 : Cd :=
  .seq (.region 0 [o 0 9 (.bin .lss (.lf .i) (.t 8) (.t 7))])
  (.seq (.cond (.t 9)
   (.skip)
   (.exit 0))
  (.seq (.block 1 (.seq (.region 0 [o 0 10 (.mv (.t 8)),
     o 1 5 (.mv (.t 10))])
   (.seq (.region 0 [o 0 11 (.mv (.t 1)),
     o 1 12 (.mv (.t 0)),
     o 2 13 (.mv (.t 5)),
     o 3 14 (.iaddr 2 (.t 12) (.t 13)),
     o 4 15 (.load true 2 (.t 14)),
     o 5 16 (.call (.t 11) [(.t 15)])])
   (.cond (.t 16)
    (.seq (.region 0 [o 0 17 (.mv (.t 5)),
      o 1 4 (.mv (.t 17))])
    (.ret))
    (.skip)))))
  (.region 0 [o 0 18 (.bin .add (.lf .i) (.t 8) (.c (.int .i64 1))),
    o 1 8 (.mv (.t 18))])))
/-- slices.IndexFunc[[]burnish/term.mono,burnish/term.mono] -/
def i209 : FnI := ⟨[.tmp 4],
 .seq (.region 0 [o 0 4 (.mv (.c (.int .i64 0)))])
 (.seq (.seq (.region 0 [o 0 6 (.mv (.t 0)),
   o 1 7 (.len (.t 6)),
   o 2 8 (.mv (.c (.int .i64 0)))])
 (.block 0 (.loop i209l0)))
 (.seq (.region 0 [o 0 4 (.mv (.c (.int .i64 (-1))))])
 (.ret)))⟩
theorem c209 : cFn Tryz.prog Tryz.f209 = some i209 := by kernel_rfl
/-- internal/strconv.FormatUint -/
def i210 : FnI := ⟨[.tmp 4],
 .seq (.region 0 [o 0 4 (.mv (.c (.string ⟨#[]⟩)))])
 (.seq (.seq (.region 0 [o 0 9 (.mv (.t 1)),
   o 1 10 (.bin .eql (.lf .i) (.t 9) (.c (.int .i64 10)))])
 (.cond (.t 10)
  (.seq (.seq (.region 0 [o 0 11 (.mv (.t 0)),
    o 1 12 (.bin .lss (.lf .i) (.t 11) (.c (.int .u64 100)))])
  (.cond (.t 12)
   (.seq (.region 0 [o 0 13 (.mv (.t 0)),
     o 1 14 (.conv .i64 (.t 13)),
     o 2 15 (.call (.f 230) [(.t 14)]),
     o 3 4 (.mv (.t 15))])
   (.ret))
   (.skip)))
  (.seq (.region 1 [o 0 5 (.alloc 0 287 [(.int .u8 0), (.int .u8 0), (.int .u8 0), (.int .u8 0), (.int .u8 0), (.int .u8 0), (.int .u8 0), (.int .u8 0), (.int .u8 0), (.int .u8 0), (.int .u8 0), (.int .u8 0), (.int .u8 0), (.int .u8 0), (.int .u8 0), (.int .u8 0), (.int .u8 0), (.int .u8 0), (.int .u8 0), (.int .u8 0), (.int .u8 0), (.int .u8 0), (.int .u8 0), (.int .u8 0)])])
  (.seq (.region 0 [o 0 16 (.mv (.t 0)),
    o 1 17 (.call (.f 231) [(.t 16)]),
    o 2 6 (.mv (.t 17))])
  (.seq (.region 0 [o 0 18 (.mv (.t 6)),
    o 1 19 (.aslice 24 1 (.t 5) none (some (.t 18))),
    o 2 20 (.mv (.t 0)),
    o 3 21 (.call (.f 232) [(.t 19), (.t 20)])])
  (.seq (.region 0 [o 0 22 (.mv (.t 6)),
    o 1 23 (.aslice 24 1 (.t 5) none (some (.t 22))),
    o 2 24 (.b2s (.t 23)),
    o 3 4 (.mv (.t 24))])
  (.ret))))))
  (.skip)))
 (.seq (.region 0 [o 0 26 (.mv (.t 0)),
   o 1 27 (.mv (.t 1)),
   o 2 28 (.call (.f 233) [(.c (.slice none 0 0)), (.t 26), (.t 27), (.c (.bool false)), (.c (.bool false))]),
   o 3 25 (.mv (.t 28)),
   o 4 29 (.ext 0 (.t 25)),
   o 5 30 (.ext 1 (.t 25)),
   o 6 7 (.mv (.t 29)),
   o 7 8 (.mv (.t 30))])
 (.seq (.region 0 [o 0 31 (.mv (.t 8)),
   o 1 4 (.mv (.t 31))])
 (.ret))))⟩
theorem c210 : cFn Tryz.prog Tryz.f210 = some i210 := by kernel_rfl
/-- burnish/intn.divide -/
def i219 : FnI := ⟨[.tmp 8, .tmp 9],
 .seq (.region 2 [o 0 5 (.box 0 2 (.t 1)),
   o 1 6 (.box 1 2 (.t 2)),
   o 2 8 (.mv (.c (.int .i64 0))),
   o 3 9 (.mv (.c (.bool false)))])
 (.seq (.region 1 [o 0 10 (.mv (.t 0)),
   o 1 11 (.bslice 0 279 1 2 [(.pointer none), (.pointer none)] [(0, 1, (.t 5)), (1, 1, (.t 6))]),
   o 2 12 (.call (.f 225) [(.t 10), (.t 11)])])
 (.seq (.seq (.region 0 [o 0 13 (.load false 1 (.t 6)),
   o 1 14 (.bin .eql (.lf .i) (.t 13) (.c (.int .i64 0)))])
 (.cond (.t 14)
  (.seq (.region 0 [o 0 8 (.mv (.c (.int .i64 0))),
    o 1 9 (.mv (.c (.bool false)))])
  (.ret))
  (.skip)))
 (.seq (.region 0 [o 0 15 (.mv (.t 0)),
   o 1 16 (.mv (.t 3)),
   o 2 17 (.load false 1 (.t 5)),
   o 3 18 (.load false 1 (.t 6)),
   o 4 19 (.call (.t 16) [(.t 17), (.t 18)]),
   o 5 20 (.call (.f 102) [(.t 15), (.t 19)]),
   o 6 8 (.mv (.t 20)),
   o 7 9 (.mv (.c (.bool true)))])
 (.ret))))⟩
theorem c219 : cFn Tryz.prog Tryz.f219 = some i219 := by kernel_rfl
/-- burnish/intn.Srem$1 -/
def i220 : FnI := ⟨[.tmp 4],
 .seq (.region 0 [o 0 4 (.mv (.c (.int .i64 0)))])
 (.seq (.region 0 [o 0 5 (.mv (.t 0)),
   o 1 6 (.mv (.t 1)),
   o 2 7 (.bin .rem (.lf .i) (.t 5) (.t 6)),
   o 3 4 (.mv (.t 7))])
 (.ret))⟩
theorem c220 : cFn Tryz.prog Tryz.f220 = some i220 := by kernel_rfl
/-- burnish/intn.Sdiv$1 -/
def i221 : FnI := ⟨[.tmp 4],
 .seq (.region 0 [o 0 4 (.mv (.c (.int .i64 0)))])
 (.seq (.region 0 [o 0 5 (.mv (.t 0)),
   o 1 6 (.mv (.t 1)),
   o 2 7 (.bin .quo (.lf .i) (.t 5) (.t 6)),
   o 3 4 (.mv (.t 7))])
 (.ret))⟩
theorem c221 : cFn Tryz.prog Tryz.f221 = some i221 := by kernel_rfl
/-- burnish/intn.Shl -/
def i222 : FnI := ⟨[.tmp 6, .tmp 7],
 .seq (.region 1 [o 0 4 (.box 0 2 (.t 1)),
   o 1 6 (.mv (.c (.int .i64 0))),
   o 2 7 (.mv (.c (.bool false)))])
 (.seq (.region 0 [o 0 8 (.mv (.t 0)),
   o 1 9 (.load false 1 (.t 4)),
   o 2 10 (.mv (.t 2)),
   o 3 11 (.mkfn (.func 255) [] [(.t 4)]),
   o 4 12 (.call (.f 254) [(.t 8), (.t 9), (.t 10), (.t 11)]),
   o 5 13 (.ext 0 (.t 12)),
   o 6 14 (.ext 1 (.t 12)),
   o 7 6 (.mv (.t 13)),
   o 8 7 (.mv (.t 14))])
 (.ret))⟩
theorem c222 : cFn Tryz.prog Tryz.f222 = some i222 := by kernel_rfl
/-- burnish/intn.Lshr -/
def i223 : FnI := ⟨[.tmp 6, .tmp 7],
 .seq (.region 2 [o 0 3 (.box 0 23 (.t 0)),
   o 1 4 (.box 1 2 (.t 1)),
   o 2 6 (.mv (.c (.int .i64 0))),
   o 3 7 (.mv (.c (.bool false)))])
 (.seq (.region 0 [o 0 8 (.load false 1 (.t 3)),
   o 1 9 (.load false 1 (.t 4)),
   o 2 10 (.mv (.t 2)),
   o 3 11 (.mkfn (.func 256) [] [(.t 3), (.t 4)]),
   o 4 12 (.call (.f 254) [(.t 8), (.t 9), (.t 10), (.t 11)]),
   o 5 13 (.ext 0 (.t 12)),
   o 6 14 (.ext 1 (.t 12)),
   o 7 6 (.mv (.t 13)),
   o 8 7 (.mv (.t 14))])
 (.ret))⟩
theorem c223 : cFn Tryz.prog Tryz.f223 = some i223 := by kernel_rfl
/-- burnish/intn.Ashr -/
def i224 : FnI := ⟨[.tmp 6, .tmp 7],
 .seq (.region 1 [o 0 4 (.box 0 2 (.t 1)),
   o 1 6 (.mv (.c (.int .i64 0))),
   o 2 7 (.mv (.c (.bool false)))])
 (.seq (.region 1 [o 0 9 (.mv (.t 0)),
   o 1 10 (.call (.f 51) [(.t 9)]),
   o 2 8 (.alloc 0 3 [(.int .i64 0)]),
   ox 3 (.store 1 (.t 8) (.t 10))])
 (.seq (.region 0 [o 0 11 (.mv (.t 0)),
   o 1 12 (.load false 1 (.t 4)),
   o 2 13 (.mv (.t 2)),
   o 3 14 (.mkfn (.func 257) [] [(.t 4), (.t 8)]),
   o 4 15 (.call (.f 254) [(.t 11), (.t 12), (.t 13), (.t 14)]),
   o 5 16 (.ext 0 (.t 15)),
   o 6 17 (.ext 1 (.t 15)),
   o 7 6 (.mv (.t 16)),
   o 8 7 (.mv (.t 17))])
 (.ret)))⟩
theorem c224 : cFn Tryz.prog Tryz.f224 = some i224 := by kernel_rfl
def i225l0 : Cd :=
  .seq (.region 0 [o 0 9 (.bin .lss (.lf .i) (.t 8) (.t 7))])
  (.seq (.cond (.t 9)
   (.skip)
   (.exit 0))
  (.seq (.block 1 (.seq (.region 0 [o 0 10 (.iaddr 1 (.t 6) (.t 8)),
     o 1 11 (.load false 1 (.t 10)),
     o 2 5 (.mv (.t 11))])
   (.region 0 [o 0 12 (.mv (.t 5)),
     o 1 13 (.mv (.t 0)),
     o 2 14 (.mv (.t 5)),
     o 3 15 (.nilchk (.t 14)),
     o 4 16 (.load false 1 (.t 15)),
     o 5 17 (.call (.f 102) [(.t 13), (.t 16)]),
     o 6 18 (.nilchk (.t 12)),
     ox 7 (.store 1 (.t 18) (.t 17))])))
  (.region 0 [o 0 19 (.bin .add (.lf .i) (.t 8) (.c (.int .i64 1))),
    o 1 8 (.mv (.t 19))])))
/-- burnish/intn.wrapAll -/
def i225 : FnI := ⟨[],
 .seq (.region 0 [o 0 6 (.mv (.t 1)),
   o 1 7 (.len (.t 6)),
   o 2 8 (.mv (.c (.int .i64 0)))])
 (.block 0 (.loop i225l0))⟩
theorem c225 : cFn Tryz.prog Tryz.f225 = some i225 := by kernel_rfl
/-- burnish/intn.fit -/
def i226 : FnI := ⟨[.tmp 6, .tmp 7],
 .seq (.region 0 [o 0 6 (.mv (.c (.int .i64 0))),
   o 1 7 (.mv (.c (.bool false)))])
 (.seq (.seq (.region 0 [o 0 9 (.mv (.t 0)),
   o 1 10 (.call (.f 51) [(.t 9)]),
   o 2 11 (.bin .eql (.lf .i) (.t 10) (.c (.int .i64 0)))])
 (.cond (.t 11)
  (.seq (.region 0 [o 0 6 (.mv (.c (.int .i64 0))),
    o 1 7 (.mv (.c (.bool false)))])
  (.ret))
  (.skip)))
 (.seq (.region 0 [o 0 12 (.mv (.t 0)),
   o 1 13 (.mv (.t 1)),
   o 2 14 (.call (.f 102) [(.t 12), (.t 13)]),
   o 3 8 (.mv (.t 14))])
 (.seq (.region 0 [o 0 15 (.mv (.t 8)),
   o 1 16 (.mv (.t 2)),
   o 2 17 (.mv (.t 16)),
   og 3 18 17 false (.mv (.t 8)),
   og 4 19 17 false (.mv (.t 1)),
   og 5 20 17 false (.bin .neq (.lf .i) (.t 18) (.t 19)),
   o 6 21 (.pick (.t 17) (.c (.bool true)) (.t 20)),
   o 7 6 (.mv (.t 15)),
   o 8 7 (.mv (.t 21))])
 (.ret))))⟩
theorem c226 : cFn Tryz.prog Tryz.f226 = some i226 := by kernel_rfl
/-- math/bits.Mul64 -/
def i227 : FnI := ⟨[.tmp 4, .tmp 5],
 .seq (.region 0 [o 0 4 (.mv (.c (.int .u64 0))),
   o 1 5 (.mv (.c (.int .u64 0)))])
 (.seq (.region 0 [o 0 14 (.mv (.t 0)),
   o 1 15 (.bin .and (.lf .i) (.t 14) (.c (.int .u64 4294967295))),
   o 2 6 (.mv (.t 15))])
 (.seq (.region 0 [o 0 16 (.mv (.t 0)),
   o 1 17 (.bin .shr (.lf .i) (.t 16) (.c (.int .u64 32))),
   o 2 7 (.mv (.t 17))])
 (.seq (.region 0 [o 0 18 (.mv (.t 1)),
   o 1 19 (.bin .and (.lf .i) (.t 18) (.c (.int .u64 4294967295))),
   o 2 8 (.mv (.t 19))])
 (.seq (.region 0 [o 0 20 (.mv (.t 1)),
   o 1 21 (.bin .shr (.lf .i) (.t 20) (.c (.int .u64 32))),
   o 2 9 (.mv (.t 21))])
 (.seq (.region 0 [o 0 22 (.mv (.t 6)),
   o 1 23 (.mv (.t 8)),
   o 2 24 (.bin .mul (.lf .i) (.t 22) (.t 23)),
   o 3 10 (.mv (.t 24))])
 (.seq (.region 0 [o 0 25 (.mv (.t 7)),
   o 1 26 (.mv (.t 8)),
   o 2 27 (.bin .mul (.lf .i) (.t 25) (.t 26)),
   o 3 28 (.mv (.t 10)),
   o 4 29 (.bin .shr (.lf .i) (.t 28) (.c (.int .u64 32))),
   o 5 30 (.bin .add (.lf .i) (.t 27) (.t 29)),
   o 6 11 (.mv (.t 30))])
 (.seq (.region 0 [o 0 31 (.mv (.t 11)),
   o 1 32 (.bin .and (.lf .i) (.t 31) (.c (.int .u64 4294967295))),
   o 2 12 (.mv (.t 32))])
 (.seq (.region 0 [o 0 33 (.mv (.t 11)),
   o 1 34 (.bin .shr (.lf .i) (.t 33) (.c (.int .u64 32))),
   o 2 13 (.mv (.t 34))])
 (.seq (.region 0 [o 0 35 (.mv (.t 12)),
   o 1 36 (.mv (.t 6)),
   o 2 37 (.mv (.t 9)),
   o 3 38 (.bin .mul (.lf .i) (.t 36) (.t 37)),
   o 4 39 (.bin .add (.lf .i) (.t 35) (.t 38)),
   o 5 12 (.mv (.t 39))])
 (.seq (.region 0 [o 0 40 (.mv (.t 7)),
   o 1 41 (.mv (.t 9)),
   o 2 42 (.bin .mul (.lf .i) (.t 40) (.t 41)),
   o 3 43 (.mv (.t 13)),
   o 4 44 (.bin .add (.lf .i) (.t 42) (.t 43)),
   o 5 45 (.mv (.t 12)),
   o 6 46 (.bin .shr (.lf .i) (.t 45) (.c (.int .u64 32))),
   o 7 47 (.bin .add (.lf .i) (.t 44) (.t 46)),
   o 8 4 (.mv (.t 47))])
 (.seq (.region 0 [o 0 48 (.mv (.t 0)),
   o 1 49 (.mv (.t 1)),
   o 2 50 (.bin .mul (.lf .i) (.t 48) (.t 49)),
   o 3 5 (.mv (.t 50))])
 (.ret))))))))))))⟩
theorem c227 : cFn Tryz.prog Tryz.f227 = some i227 := by kernel_rfl
/-- burnish/intn.magnitude -/
def i228 : FnI := ⟨[.tmp 2],
 .seq (.region 0 [o 0 2 (.mv (.c (.int .u64 0)))])
 (.seq (.seq (.region 0 [o 0 3 (.mv (.t 0)),
   o 1 4 (.bin .lss (.lf .i) (.t 3) (.c (.int .i64 0)))])
 (.cond (.t 4)
  (.seq (.region 0 [o 0 5 (.mv (.t 0)),
    o 1 6 (.conv .u64 (.t 5)),
    o 2 7 (.un .neg (.t 6)),
    o 3 2 (.mv (.t 7))])
  (.ret))
  (.skip)))
 (.seq (.region 0 [o 0 8 (.mv (.t 0)),
   o 1 9 (.conv .u64 (.t 8)),
   o 2 2 (.mv (.t 9))])
 (.ret)))⟩
theorem c228 : cFn Tryz.prog Tryz.f228 = some i228 := by kernel_rfl
/-- slices.order2Ordered[int] -/
def i229 : FnI := ⟨[.tmp 8, .tmp 9],
 .seq (.region 0 [o 0 8 (.mv (.c (.int .i64 0))),
   o 1 9 (.mv (.c (.int .i64 0)))])
 (.seq (.seq (.region 0 [o 0 10 (.mv (.t 0)),
   o 1 11 (.mv (.t 2)),
   o 2 12 (.iaddr 1 (.t 10) (.t 11)),
   o 3 13 (.load false 1 (.t 12)),
   o 4 14 (.mv (.t 0)),
   o 5 15 (.mv (.t 1)),
   o 6 16 (.iaddr 1 (.t 14) (.t 15)),
   o 7 17 (.load false 1 (.t 16)),
   o 8 18 (.call (.f 148) [(.t 13), (.t 17)])])
 (.cond (.t 18)
  (.seq (.region 0 [o 0 19 (.mv (.t 3)),
    o 1 20 (.nilchk (.t 19)),
    o 2 21 (.load false 1 (.t 20)),
    o 3 22 (.bin .add (.lf .i) (.t 21) (.c (.int .i64 1))),
    o 4 23 (.nilchk (.t 19)),
    ox 5 (.store 1 (.t 23) (.t 22))])
  (.seq (.region 0 [o 0 24 (.mv (.t 2)),
    o 1 25 (.mv (.t 1)),
    o 2 8 (.mv (.t 24)),
    o 3 9 (.mv (.t 25))])
  (.ret)))
  (.skip)))
 (.seq (.region 0 [o 0 26 (.mv (.t 1)),
   o 1 27 (.mv (.t 2)),
   o 2 8 (.mv (.t 26)),
   o 3 9 (.mv (.t 27))])
 (.ret)))⟩
theorem c229 : cFn Tryz.prog Tryz.f229 = some i229 := by kernel_rfl
/-- internal/strconv.small -/
def i230 : FnI := ⟨[.tmp 2],
 .seq (.region 0 [o 0 2 (.mv (.c (.string ⟨#[]⟩)))])
 (.seq (.seq (.region 0 [o 0 3 (.mv (.t 0)),
   o 1 4 (.bin .lss (.lf .i) (.t 3) (.c (.int .i64 10)))])
 (.cond (.t 4)
  (.seq (.region 0 [o 0 5 (.mv (.t 0)),
    o 1 6 (.mv (.t 0)),
    o 2 7 (.bin .add (.lf .i) (.t 6) (.c (.int .i64 1))),
    o 3 8 (.strslice (.c (.string ⟨#[48, 49, 50, 51, 52, 53, 54, 55, 56, 57, 97, 98, 99, 100, 101, 102, 103, 104, 105, 106, 107, 108, 109, 110, 111, 112, 113, 114, 115, 116, 117, 118, 119, 120, 121, 122]⟩)) (some (.t 5)) (some (.t 7))),
    o 4 2 (.mv (.t 8))])
  (.ret))
  (.skip)))
 (.seq (.region 0 [o 0 9 (.mv (.t 0)),
   o 1 10 (.bin .mul (.lf .i) (.t 9) (.c (.int .i64 2))),
   o 2 11 (.mv (.t 0)),
   o 3 12 (.bin .mul (.lf .i) (.t 11) (.c (.int .i64 2))),
   o 4 13 (.bin .add (.lf .i) (.t 12) (.c (.int .i64 2))),
   o 5 14 (.strslice (.c (.string ⟨#[48, 48, 48, 49, 48, 50, 48, 51, 48, 52, 48, 53, 48, 54, 48, 55, 48, 56, 48, 57, 49, 48, 49, 49, 49, 50, 49, 51, 49, 52, 49, 53, 49, 54, 49, 55, 49, 56, 49, 57, 50, 48, 50, 49, 50, 50, 50, 51, 50, 52, 50, 53, 50, 54, 50, 55, 50, 56, 50, 57, 51, 48, 51, 49, 51, 50, 51, 51, 51, 52, 51, 53, 51, 54, 51, 55, 51, 56, 51, 57, 52, 48, 52, 49, 52, 50, 52, 51, 52, 52, 52, 53, 52, 54, 52, 55, 52, 56, 52, 57, 53, 48, 53, 49, 53, 50, 53, 51, 53, 52, 53, 53, 53, 54, 53, 55, 53, 56, 53, 57, 54, 48, 54, 49, 54, 50, 54, 51, 54, 52, 54, 53, 54, 54, 54, 55, 54, 56, 54, 57, 55, 48, 55, 49, 55, 50, 55, 51, 55, 52, 55, 53, 55, 54, 55, 55, 55, 56, 55, 57, 56, 48, 56, 49, 56, 50, 56, 51, 56, 52, 56, 53, 56, 54, 56, 55, 56, 56, 56, 57, 57, 48, 57, 49, 57, 50, 57, 51, 57, 52, 57, 53, 57, 54, 57, 55, 57, 56, 57, 57]⟩)) (some (.t 10)) (some (.t 13))),
   o 6 2 (.mv (.t 14))])
 (.ret)))⟩
theorem c230 : cFn Tryz.prog Tryz.f230 = some i230 := by kernel_rfl
/-- internal/strconv.numDigits -/
def i231 : FnI := ⟨[.tmp 2],
 .seq (.region 0 [o 0 2 (.mv (.c (.int .i64 0)))])
 (.seq (.region 0 [o 0 4 (.mv (.t 0)),
   o 1 5 (.call (.f 152) [(.t 4)]),
   o 2 6 (.call (.f 258) [(.t 5)]),
   o 3 3 (.mv (.t 6))])
 (.seq (.region 0 [o 0 7 (.mv (.t 3)),
   o 1 8 (.mv (.t 0)),
   o 2 9 (.mv (.t 3)),
   o 3 10 (.aaddr 20 1 (.gl 1) (.t 9)),
   o 4 11 (.load false 1 (.t 10)),
   o 5 12 (.bin .geq (.lf .i) (.t 8) (.t 11)),
   o 6 13 (.call (.f 259) [(.t 12)]),
   o 7 14 (.bin .add (.lf .i) (.t 7) (.t 13)),
   o 8 2 (.mv (.t 14))])
 (.ret)))⟩
theorem c231 : cFn Tryz.prog Tryz.f231 = some i231 := by kernel_rfl
def i232l0 : Cd :=
  .seq (.seq (.region 0 [o 0 19 (.mv (.t 4)),
    o 1 20 (.bin .geq (.lf .i) (.t 19) (.c (.int .i64 8)))])
  (.cond (.t 20)
   (.skip)
   (.exit 0)))
  (.block 1 (.seq (.region 0 [o 0 21 (.mv (.t 1)),
     o 1 22 (.bin .rem (.lf .i) (.t 21) (.c (.int .u64 100000000))),
     o 2 23 (.conv .u32 (.t 22)),
     o 3 5 (.mv (.t 23))])
   (.seq (.region 0 [o 0 24 (.mv (.t 1)),
     o 1 25 (.bin .quo (.lf .i) (.t 24) (.c (.int .u64 100000000))),
     o 2 1 (.mv (.t 25))])
   (.seq (.region 0 [o 0 26 (.mv (.t 5)),
     o 1 27 (.bin .quo (.lf .i) (.t 26) (.c (.int .u32 10000))),
     o 2 28 (.mv (.t 5)),
     o 3 29 (.bin .rem (.lf .i) (.t 28) (.c (.int .u32 10000))),
     o 4 6 (.mv (.t 27)),
     o 5 7 (.mv (.t 29))])
   (.seq (.region 0 [o 0 30 (.mv (.t 7)),
     o 1 31 (.bin .quo (.lf .i) (.t 30) (.c (.int .u32 100))),
     o 2 32 (.bin .mul (.lf .i) (.t 31) (.c (.int .u32 2))),
     o 3 33 (.mv (.t 7)),
     o 4 34 (.bin .rem (.lf .i) (.t 33) (.c (.int .u32 100))),
     o 5 35 (.bin .mul (.lf .i) (.t 34) (.c (.int .u32 2))),
     o 6 8 (.mv (.t 32)),
     o 7 9 (.mv (.t 35))])
   (.seq (.region 0 [o 0 36 (.mv (.t 6)),
     o 1 37 (.bin .quo (.lf .i) (.t 36) (.c (.int .u32 100))),
     o 2 38 (.bin .mul (.lf .i) (.t 37) (.c (.int .u32 2))),
     o 3 39 (.mv (.t 6)),
     o 4 40 (.bin .rem (.lf .i) (.t 39) (.c (.int .u32 100))),
     o 5 41 (.bin .mul (.lf .i) (.t 40) (.c (.int .u32 2))),
     o 6 10 (.mv (.t 38)),
     o 7 11 (.mv (.t 41))])
   (.seq (.region 0 [o 0 42 (.mv (.t 0)),
     o 1 43 (.mv (.t 4)),
     o 2 44 (.bin .sub (.lf .i) (.t 43) (.c (.int .i64 1))),
     o 6 48 (.mv (.t 9)),
     o 7 49 (.bin .add (.lf .i) (.t 48) (.c (.int .u32 1))),
     o 8 50 (.strindex (.c (.string ⟨#[48, 48, 48, 49, 48, 50, 48, 51, 48, 52, 48, 53, 48, 54, 48, 55, 48, 56, 48, 57, 49, 48, 49, 49, 49, 50, 49, 51, 49, 52, 49, 53, 49, 54, 49, 55, 49, 56, 49, 57, 50, 48, 50, 49, 50, 50, 50, 51, 50, 52, 50, 53, 50, 54, 50, 55, 50, 56, 50, 57, 51, 48, 51, 49, 51, 50, 51, 51, 51, 52, 51, 53, 51, 54, 51, 55, 51, 56, 51, 57, 52, 48, 52, 49, 52, 50, 52, 51, 52, 52, 52, 53, 52, 54, 52, 55, 52, 56, 52, 57, 53, 48, 53, 49, 53, 50, 53, 51, 53, 52, 53, 53, 53, 54, 53, 55, 53, 56, 53, 57, 54, 48, 54, 49, 54, 50, 54, 51, 54, 52, 54, 53, 54, 54, 54, 55, 54, 56, 54, 57, 55, 48, 55, 49, 55, 50, 55, 51, 55, 52, 55, 53, 55, 54, 55, 55, 55, 56, 55, 57, 56, 48, 56, 49, 56, 50, 56, 51, 56, 52, 56, 53, 56, 54, 56, 55, 56, 56, 56, 57, 57, 48, 57, 49, 57, 50, 57, 51, 57, 52, 57, 53, 57, 54, 57, 55, 57, 56, 57, 57]⟩)) (.t 49)),
     o 11 53 (.iaddr 1 (.t 42) (.t 44)),
     ox 12 (.store 1 (.t 53) (.t 50)),
     o 3 45 (.mv (.t 0)),
     o 4 46 (.mv (.t 4)),
     o 5 47 (.bin .sub (.lf .i) (.t 46) (.c (.int .i64 2))),
     o 9 51 (.mv (.t 9)),
     o 10 52 (.strindex (.c (.string ⟨#[48, 48, 48, 49, 48, 50, 48, 51, 48, 52, 48, 53, 48, 54, 48, 55, 48, 56, 48, 57, 49, 48, 49, 49, 49, 50, 49, 51, 49, 52, 49, 53, 49, 54, 49, 55, 49, 56, 49, 57, 50, 48, 50, 49, 50, 50, 50, 51, 50, 52, 50, 53, 50, 54, 50, 55, 50, 56, 50, 57, 51, 48, 51, 49, 51, 50, 51, 51, 51, 52, 51, 53, 51, 54, 51, 55, 51, 56, 51, 57, 52, 48, 52, 49, 52, 50, 52, 51, 52, 52, 52, 53, 52, 54, 52, 55, 52, 56, 52, 57, 53, 48, 53, 49, 53, 50, 53, 51, 53, 52, 53, 53, 53, 54, 53, 55, 53, 56, 53, 57, 54, 48, 54, 49, 54, 50, 54, 51, 54, 52, 54, 53, 54, 54, 54, 55, 54, 56, 54, 57, 55, 48, 55, 49, 55, 50, 55, 51, 55, 52, 55, 53, 55, 54, 55, 55, 55, 56, 55, 57, 56, 48, 56, 49, 56, 50, 56, 51, 56, 52, 56, 53, 56, 54, 56, 55, 56, 56, 56, 57, 57, 48, 57, 49, 57, 50, 57, 51, 57, 52, 57, 53, 57, 54, 57, 55, 57, 56, 57, 57]⟩)) (.t 51)),
     o 13 54 (.iaddr 1 (.t 45) (.t 47)),
     ox 14 (.store 1 (.t 54) (.t 52))])
   (.seq (.region 0 [o 0 55 (.mv (.t 0)),
     o 1 56 (.mv (.t 4)),
     o 2 57 (.bin .sub (.lf .i) (.t 56) (.c (.int .i64 3))),
     o 6 61 (.mv (.t 8)),
     o 7 62 (.bin .add (.lf .i) (.t 61) (.c (.int .u32 1))),
     o 8 63 (.strindex (.c (.string ⟨#[48, 48, 48, 49, 48, 50, 48, 51, 48, 52, 48, 53, 48, 54, 48, 55, 48, 56, 48, 57, 49, 48, 49, 49, 49, 50, 49, 51, 49, 52, 49, 53, 49, 54, 49, 55, 49, 56, 49, 57, 50, 48, 50, 49, 50, 50, 50, 51, 50, 52, 50, 53, 50, 54, 50, 55, 50, 56, 50, 57, 51, 48, 51, 49, 51, 50, 51, 51, 51, 52, 51, 53, 51, 54, 51, 55, 51, 56, 51, 57, 52, 48, 52, 49, 52, 50, 52, 51, 52, 52, 52, 53, 52, 54, 52, 55, 52, 56, 52, 57, 53, 48, 53, 49, 53, 50, 53, 51, 53, 52, 53, 53, 53, 54, 53, 55, 53, 56, 53, 57, 54, 48, 54, 49, 54, 50, 54, 51, 54, 52, 54, 53, 54, 54, 54, 55, 54, 56, 54, 57, 55, 48, 55, 49, 55, 50, 55, 51, 55, 52, 55, 53, 55, 54, 55, 55, 55, 56, 55, 57, 56, 48, 56, 49, 56, 50, 56, 51, 56, 52, 56, 53, 56, 54, 56, 55, 56, 56, 56, 57, 57, 48, 57, 49, 57, 50, 57, 51, 57, 52, 57, 53, 57, 54, 57, 55, 57, 56, 57, 57]⟩)) (.t 62)),
     o 11 66 (.iaddr 1 (.t 55) (.t 57)),
     ox 12 (.store 1 (.t 66) (.t 63)),
     o 3 58 (.mv (.t 0)),
     o 4 59 (.mv (.t 4)),
     o 5 60 (.bin .sub (.lf .i) (.t 59) (.c (.int .i64 4))),
     o 9 64 (.mv (.t 8)),
     o 10 65 (.strindex (.c (.string ⟨#[48, 48, 48, 49, 48, 50, 48, 51, 48, 52, 48, 53, 48, 54, 48, 55, 48, 56, 48, 57, 49, 48, 49, 49, 49, 50, 49, 51, 49, 52, 49, 53, 49, 54, 49, 55, 49, 56, 49, 57, 50, 48, 50, 49, 50, 50, 50, 51, 50, 52, 50, 53, 50, 54, 50, 55, 50, 56, 50, 57, 51, 48, 51, 49, 51, 50, 51, 51, 51, 52, 51, 53, 51, 54, 51, 55, 51, 56, 51, 57, 52, 48, 52, 49, 52, 50, 52, 51, 52, 52, 52, 53, 52, 54, 52, 55, 52, 56, 52, 57, 53, 48, 53, 49, 53, 50, 53, 51, 53, 52, 53, 53, 53, 54, 53, 55, 53, 56, 53, 57, 54, 48, 54, 49, 54, 50, 54, 51, 54, 52, 54, 53, 54, 54, 54, 55, 54, 56, 54, 57, 55, 48, 55, 49, 55, 50, 55, 51, 55, 52, 55, 53, 55, 54, 55, 55, 55, 56, 55, 57, 56, 48, 56, 49, 56, 50, 56, 51, 56, 52, 56, 53, 56, 54, 56, 55, 56, 56, 56, 57, 57, 48, 57, 49, 57, 50, 57, 51, 57, 52, 57, 53, 57, 54, 57, 55, 57, 56, 57, 57]⟩)) (.t 64)),
     o 13 67 (.iaddr 1 (.t 58) (.t 60)),
     ox 14 (.store 1 (.t 67) (.t 65))])
   (.seq (.region 0 [o 0 68 (.mv (.t 0)),
     o 1 69 (.mv (.t 4)),
     o 2 70 (.bin .sub (.lf .i) (.t 69) (.c (.int .i64 5))),
     o 6 74 (.mv (.t 11)),
     o 7 75 (.bin .add (.lf .i) (.t 74) (.c (.int .u32 1))),
     o 8 76 (.strindex (.c (.string ⟨#[48, 48, 48, 49, 48, 50, 48, 51, 48, 52, 48, 53, 48, 54, 48, 55, 48, 56, 48, 57, 49, 48, 49, 49, 49, 50, 49, 51, 49, 52, 49, 53, 49, 54, 49, 55, 49, 56, 49, 57, 50, 48, 50, 49, 50, 50, 50, 51, 50, 52, 50, 53, 50, 54, 50, 55, 50, 56, 50, 57, 51, 48, 51, 49, 51, 50, 51, 51, 51, 52, 51, 53, 51, 54, 51, 55, 51, 56, 51, 57, 52, 48, 52, 49, 52, 50, 52, 51, 52, 52, 52, 53, 52, 54, 52, 55, 52, 56, 52, 57, 53, 48, 53, 49, 53, 50, 53, 51, 53, 52, 53, 53, 53, 54, 53, 55, 53, 56, 53, 57, 54, 48, 54, 49, 54, 50, 54, 51, 54, 52, 54, 53, 54, 54, 54, 55, 54, 56, 54, 57, 55, 48, 55, 49, 55, 50, 55, 51, 55, 52, 55, 53, 55, 54, 55, 55, 55, 56, 55, 57, 56, 48, 56, 49, 56, 50, 56, 51, 56, 52, 56, 53, 56, 54, 56, 55, 56, 56, 56, 57, 57, 48, 57, 49, 57, 50, 57, 51, 57, 52, 57, 53, 57, 54, 57, 55, 57, 56, 57, 57]⟩)) (.t 75)),
     o 11 79 (.iaddr 1 (.t 68) (.t 70)),
     ox 12 (.store 1 (.t 79) (.t 76)),
     o 3 71 (.mv (.t 0)),
     o 4 72 (.mv (.t 4)),
     o 5 73 (.bin .sub (.lf .i) (.t 72) (.c (.int .i64 6))),
     o 9 77 (.mv (.t 11)),
     o 10 78 (.strindex (.c (.string ⟨#[48, 48, 48, 49, 48, 50, 48, 51, 48, 52, 48, 53, 48, 54, 48, 55, 48, 56, 48, 57, 49, 48, 49, 49, 49, 50, 49, 51, 49, 52, 49, 53, 49, 54, 49, 55, 49, 56, 49, 57, 50, 48, 50, 49, 50, 50, 50, 51, 50, 52, 50, 53, 50, 54, 50, 55, 50, 56, 50, 57, 51, 48, 51, 49, 51, 50, 51, 51, 51, 52, 51, 53, 51, 54, 51, 55, 51, 56, 51, 57, 52, 48, 52, 49, 52, 50, 52, 51, 52, 52, 52, 53, 52, 54, 52, 55, 52, 56, 52, 57, 53, 48, 53, 49, 53, 50, 53, 51, 53, 52, 53, 53, 53, 54, 53, 55, 53, 56, 53, 57, 54, 48, 54, 49, 54, 50, 54, 51, 54, 52, 54, 53, 54, 54, 54, 55, 54, 56, 54, 57, 55, 48, 55, 49, 55, 50, 55, 51, 55, 52, 55, 53, 55, 54, 55, 55, 55, 56, 55, 57, 56, 48, 56, 49, 56, 50, 56, 51, 56, 52, 56, 53, 56, 54, 56, 55, 56, 56, 56, 57, 57, 48, 57, 49, 57, 50, 57, 51, 57, 52, 57, 53, 57, 54, 57, 55, 57, 56, 57, 57]⟩)) (.t 77)),
     o 13 80 (.iaddr 1 (.t 71) (.t 73)),
     ox 14 (.store 1 (.t 80) (.t 78))])
   (.seq (.region 0 [o 0 81 (.mv (.t 0)),
     o 1 82 (.mv (.t 4)),
     o 2 83 (.bin .sub (.lf .i) (.t 82) (.c (.int .i64 7))),
     o 6 87 (.mv (.t 10)),
     o 7 88 (.bin .add (.lf .i) (.t 87) (.c (.int .u32 1))),
     o 8 89 (.strindex (.c (.string ⟨#[48, 48, 48, 49, 48, 50, 48, 51, 48, 52, 48, 53, 48, 54, 48, 55, 48, 56, 48, 57, 49, 48, 49, 49, 49, 50, 49, 51, 49, 52, 49, 53, 49, 54, 49, 55, 49, 56, 49, 57, 50, 48, 50, 49, 50, 50, 50, 51, 50, 52, 50, 53, 50, 54, 50, 55, 50, 56, 50, 57, 51, 48, 51, 49, 51, 50, 51, 51, 51, 52, 51, 53, 51, 54, 51, 55, 51, 56, 51, 57, 52, 48, 52, 49, 52, 50, 52, 51, 52, 52, 52, 53, 52, 54, 52, 55, 52, 56, 52, 57, 53, 48, 53, 49, 53, 50, 53, 51, 53, 52, 53, 53, 53, 54, 53, 55, 53, 56, 53, 57, 54, 48, 54, 49, 54, 50, 54, 51, 54, 52, 54, 53, 54, 54, 54, 55, 54, 56, 54, 57, 55, 48, 55, 49, 55, 50, 55, 51, 55, 52, 55, 53, 55, 54, 55, 55, 55, 56, 55, 57, 56, 48, 56, 49, 56, 50, 56, 51, 56, 52, 56, 53, 56, 54, 56, 55, 56, 56, 56, 57, 57, 48, 57, 49, 57, 50, 57, 51, 57, 52, 57, 53, 57, 54, 57, 55, 57, 56, 57, 57]⟩)) (.t 88)),
     o 11 92 (.iaddr 1 (.t 81) (.t 83)),
     ox 12 (.store 1 (.t 92) (.t 89)),
     o 3 84 (.mv (.t 0)),
     o 4 85 (.mv (.t 4)),
     o 5 86 (.bin .sub (.lf .i) (.t 85) (.c (.int .i64 8))),
     o 9 90 (.mv (.t 10)),
     o 10 91 (.strindex (.c (.string ⟨#[48, 48, 48, 49, 48, 50, 48, 51, 48, 52, 48, 53, 48, 54, 48, 55, 48, 56, 48, 57, 49, 48, 49, 49, 49, 50, 49, 51, 49, 52, 49, 53, 49, 54, 49, 55, 49, 56, 49, 57, 50, 48, 50, 49, 50, 50, 50, 51, 50, 52, 50, 53, 50, 54, 50, 55, 50, 56, 50, 57, 51, 48, 51, 49, 51, 50, 51, 51, 51, 52, 51, 53, 51, 54, 51, 55, 51, 56, 51, 57, 52, 48, 52, 49, 52, 50, 52, 51, 52, 52, 52, 53, 52, 54, 52, 55, 52, 56, 52, 57, 53, 48, 53, 49, 53, 50, 53, 51, 53, 52, 53, 53, 53, 54, 53, 55, 53, 56, 53, 57, 54, 48, 54, 49, 54, 50, 54, 51, 54, 52, 54, 53, 54, 54, 54, 55, 54, 56, 54, 57, 55, 48, 55, 49, 55, 50, 55, 51, 55, 52, 55, 53, 55, 54, 55, 55, 55, 56, 55, 57, 56, 48, 56, 49, 56, 50, 56, 51, 56, 52, 56, 53, 56, 54, 56, 55, 56, 56, 56, 57, 57, 48, 57, 49, 57, 50, 57, 51, 57, 52, 57, 53, 57, 54, 57, 55, 57, 56, 57, 57]⟩)) (.t 90)),
     o 13 93 (.iaddr 1 (.t 84) (.t 86)),
     ox 14 (.store 1 (.t 93) (.t 91))])
   (.region 0 [o 0 94 (.mv (.t 4)),
     o 1 95 (.bin .sub (.lf .i) (.t 94) (.c (.int .i64 8))),
     o 2 4 (.mv (.t 95))])))))))))))
/-- internal/strconv.formatBase10 -/
def i232 : FnI := ⟨[],
 .seq (.region 0 [o 0 17 (.mv (.t 0)),
   o 1 18 (.len (.t 17)),
   o 2 4 (.mv (.t 18))])
 (.seq (.block 0 (.loop i232l0))
 (.seq (.region 0 [o 0 96 (.mv (.t 1)),
   o 1 97 (.conv .u32 (.t 96)),
   o 2 12 (.mv (.t 97))])
 (.seq (.seq (.region 0 [o 0 98 (.mv (.t 4)),
   o 1 99 (.bin .geq (.lf .i) (.t 98) (.c (.int .i64 4)))])
 (.cond (.t 99)
  (.seq (.region 0 [o 0 100 (.mv (.t 12)),
    o 1 101 (.bin .rem (.lf .i) (.t 100) (.c (.int .u32 10000))),
    o 2 13 (.mv (.t 101))])
  (.seq (.region 0 [o 0 102 (.mv (.t 12)),
    o 1 103 (.bin .quo (.lf .i) (.t 102) (.c (.int .u32 10000))),
    o 2 12 (.mv (.t 103))])
  (.seq (.region 0 [o 0 104 (.mv (.t 13)),
    o 1 105 (.bin .quo (.lf .i) (.t 104) (.c (.int .u32 100))),
    o 2 106 (.bin .mul (.lf .i) (.t 105) (.c (.int .u32 2))),
    o 3 107 (.mv (.t 13)),
    o 4 108 (.bin .rem (.lf .i) (.t 107) (.c (.int .u32 100))),
    o 5 109 (.bin .mul (.lf .i) (.t 108) (.c (.int .u32 2))),
    o 6 14 (.mv (.t 106)),
    o 7 15 (.mv (.t 109))])
  (.seq (.region 0 [o 0 110 (.mv (.t 0)),
    o 1 111 (.mv (.t 4)),
    o 2 112 (.bin .sub (.lf .i) (.t 111) (.c (.int .i64 1))),
    o 6 116 (.mv (.t 15)),
    o 7 117 (.bin .add (.lf .i) (.t 116) (.c (.int .u32 1))),
    o 8 118 (.strindex (.c (.string ⟨#[48, 48, 48, 49, 48, 50, 48, 51, 48, 52, 48, 53, 48, 54, 48, 55, 48, 56, 48, 57, 49, 48, 49, 49, 49, 50, 49, 51, 49, 52, 49, 53, 49, 54, 49, 55, 49, 56, 49, 57, 50, 48, 50, 49, 50, 50, 50, 51, 50, 52, 50, 53, 50, 54, 50, 55, 50, 56, 50, 57, 51, 48, 51, 49, 51, 50, 51, 51, 51, 52, 51, 53, 51, 54, 51, 55, 51, 56, 51, 57, 52, 48, 52, 49, 52, 50, 52, 51, 52, 52, 52, 53, 52, 54, 52, 55, 52, 56, 52, 57, 53, 48, 53, 49, 53, 50, 53, 51, 53, 52, 53, 53, 53, 54, 53, 55, 53, 56, 53, 57, 54, 48, 54, 49, 54, 50, 54, 51, 54, 52, 54, 53, 54, 54, 54, 55, 54, 56, 54, 57, 55, 48, 55, 49, 55, 50, 55, 51, 55, 52, 55, 53, 55, 54, 55, 55, 55, 56, 55, 57, 56, 48, 56, 49, 56, 50, 56, 51, 56, 52, 56, 53, 56, 54, 56, 55, 56, 56, 56, 57, 57, 48, 57, 49, 57, 50, 57, 51, 57, 52, 57, 53, 57, 54, 57, 55, 57, 56, 57, 57]⟩)) (.t 117)),
    o 11 121 (.iaddr 1 (.t 110) (.t 112)),
    ox 12 (.store 1 (.t 121) (.t 118)),
    o 3 113 (.mv (.t 0)),
    o 4 114 (.mv (.t 4)),
    o 5 115 (.bin .sub (.lf .i) (.t 114) (.c (.int .i64 2))),
    o 9 119 (.mv (.t 15)),
    o 10 120 (.strindex (.c (.string ⟨#[48, 48, 48, 49, 48, 50, 48, 51, 48, 52, 48, 53, 48, 54, 48, 55, 48, 56, 48, 57, 49, 48, 49, 49, 49, 50, 49, 51, 49, 52, 49, 53, 49, 54, 49, 55, 49, 56, 49, 57, 50, 48, 50, 49, 50, 50, 50, 51, 50, 52, 50, 53, 50, 54, 50, 55, 50, 56, 50, 57, 51, 48, 51, 49, 51, 50, 51, 51, 51, 52, 51, 53, 51, 54, 51, 55, 51, 56, 51, 57, 52, 48, 52, 49, 52, 50, 52, 51, 52, 52, 52, 53, 52, 54, 52, 55, 52, 56, 52, 57, 53, 48, 53, 49, 53, 50, 53, 51, 53, 52, 53, 53, 53, 54, 53, 55, 53, 56, 53, 57, 54, 48, 54, 49, 54, 50, 54, 51, 54, 52, 54, 53, 54, 54, 54, 55, 54, 56, 54, 57, 55, 48, 55, 49, 55, 50, 55, 51, 55, 52, 55, 53, 55, 54, 55, 55, 55, 56, 55, 57, 56, 48, 56, 49, 56, 50, 56, 51, 56, 52, 56, 53, 56, 54, 56, 55, 56, 56, 56, 57, 57, 48, 57, 49, 57, 50, 57, 51, 57, 52, 57, 53, 57, 54, 57, 55, 57, 56, 57, 57]⟩)) (.t 119)),
    o 13 122 (.iaddr 1 (.t 113) (.t 115)),
    ox 14 (.store 1 (.t 122) (.t 120))])
  (.seq (.region 0 [o 0 123 (.mv (.t 0)),
    o 1 124 (.mv (.t 4)),
    o 2 125 (.bin .sub (.lf .i) (.t 124) (.c (.int .i64 3))),
    o 6 129 (.mv (.t 14)),
    o 7 130 (.bin .add (.lf .i) (.t 129) (.c (.int .u32 1))),
    o 8 131 (.strindex (.c (.string ⟨#[48, 48, 48, 49, 48, 50, 48, 51, 48, 52, 48, 53, 48, 54, 48, 55, 48, 56, 48, 57, 49, 48, 49, 49, 49, 50, 49, 51, 49, 52, 49, 53, 49, 54, 49, 55, 49, 56, 49, 57, 50, 48, 50, 49, 50, 50, 50, 51, 50, 52, 50, 53, 50, 54, 50, 55, 50, 56, 50, 57, 51, 48, 51, 49, 51, 50, 51, 51, 51, 52, 51, 53, 51, 54, 51, 55, 51, 56, 51, 57, 52, 48, 52, 49, 52, 50, 52, 51, 52, 52, 52, 53, 52, 54, 52, 55, 52, 56, 52, 57, 53, 48, 53, 49, 53, 50, 53, 51, 53, 52, 53, 53, 53, 54, 53, 55, 53, 56, 53, 57, 54, 48, 54, 49, 54, 50, 54, 51, 54, 52, 54, 53, 54, 54, 54, 55, 54, 56, 54, 57, 55, 48, 55, 49, 55, 50, 55, 51, 55, 52, 55, 53, 55, 54, 55, 55, 55, 56, 55, 57, 56, 48, 56, 49, 56, 50, 56, 51, 56, 52, 56, 53, 56, 54, 56, 55, 56, 56, 56, 57, 57, 48, 57, 49, 57, 50, 57, 51, 57, 52, 57, 53, 57, 54, 57, 55, 57, 56, 57, 57]⟩)) (.t 130)),
    o 11 134 (.iaddr 1 (.t 123) (.t 125)),
    ox 12 (.store 1 (.t 134) (.t 131)),
    o 3 126 (.mv (.t 0)),
    o 4 127 (.mv (.t 4)),
    o 5 128 (.bin .sub (.lf .i) (.t 127) (.c (.int .i64 4))),
    o 9 132 (.mv (.t 14)),
    o 10 133 (.strindex (.c (.string ⟨#[48, 48, 48, 49, 48, 50, 48, 51, 48, 52, 48, 53, 48, 54, 48, 55, 48, 56, 48, 57, 49, 48, 49, 49, 49, 50, 49, 51, 49, 52, 49, 53, 49, 54, 49, 55, 49, 56, 49, 57, 50, 48, 50, 49, 50, 50, 50, 51, 50, 52, 50, 53, 50, 54, 50, 55, 50, 56, 50, 57, 51, 48, 51, 49, 51, 50, 51, 51, 51, 52, 51, 53, 51, 54, 51, 55, 51, 56, 51, 57, 52, 48, 52, 49, 52, 50, 52, 51, 52, 52, 52, 53, 52, 54, 52, 55, 52, 56, 52, 57, 53, 48, 53, 49, 53, 50, 53, 51, 53, 52, 53, 53, 53, 54, 53, 55, 53, 56, 53, 57, 54, 48, 54, 49, 54, 50, 54, 51, 54, 52, 54, 53, 54, 54, 54, 55, 54, 56, 54, 57, 55, 48, 55, 49, 55, 50, 55, 51, 55, 52, 55, 53, 55, 54, 55, 55, 55, 56, 55, 57, 56, 48, 56, 49, 56, 50, 56, 51, 56, 52, 56, 53, 56, 54, 56, 55, 56, 56, 56, 57, 57, 48, 57, 49, 57, 50, 57, 51, 57, 52, 57, 53, 57, 54, 57, 55, 57, 56, 57, 57]⟩)) (.t 132)),
    o 13 135 (.iaddr 1 (.t 126) (.t 128)),
    ox 14 (.store 1 (.t 135) (.t 133))])
  (.region 0 [o 0 136 (.mv (.t 4)),
    o 1 137 (.bin .sub (.lf .i) (.t 136) (.c (.int .i64 4))),
    o 2 4 (.mv (.t 137))]))))))
  (.skip)))
 (.seq (.seq (.region 0 [o 0 138 (.mv (.t 4)),
   o 1 139 (.bin .geq (.lf .i) (.t 138) (.c (.int .i64 2)))])
 (.cond (.t 139)
  (.seq (.region 0 [o 0 140 (.mv (.t 12)),
    o 1 141 (.bin .rem (.lf .i) (.t 140) (.c (.int .u32 100))),
    o 2 142 (.bin .mul (.lf .i) (.t 141) (.c (.int .u32 2))),
    o 3 16 (.mv (.t 142))])
  (.seq (.region 0 [o 0 143 (.mv (.t 12)),
    o 1 144 (.bin .quo (.lf .i) (.t 143) (.c (.int .u32 100))),
    o 2 12 (.mv (.t 144))])
  (.seq (.region 0 [o 0 145 (.mv (.t 0)),
    o 1 146 (.mv (.t 4)),
    o 2 147 (.bin .sub (.lf .i) (.t 146) (.c (.int .i64 1))),
    o 6 151 (.mv (.t 16)),
    o 7 152 (.bin .add (.lf .i) (.t 151) (.c (.int .u32 1))),
    o 8 153 (.strindex (.c (.string ⟨#[48, 48, 48, 49, 48, 50, 48, 51, 48, 52, 48, 53, 48, 54, 48, 55, 48, 56, 48, 57, 49, 48, 49, 49, 49, 50, 49, 51, 49, 52, 49, 53, 49, 54, 49, 55, 49, 56, 49, 57, 50, 48, 50, 49, 50, 50, 50, 51, 50, 52, 50, 53, 50, 54, 50, 55, 50, 56, 50, 57, 51, 48, 51, 49, 51, 50, 51, 51, 51, 52, 51, 53, 51, 54, 51, 55, 51, 56, 51, 57, 52, 48, 52, 49, 52, 50, 52, 51, 52, 52, 52, 53, 52, 54, 52, 55, 52, 56, 52, 57, 53, 48, 53, 49, 53, 50, 53, 51, 53, 52, 53, 53, 53, 54, 53, 55, 53, 56, 53, 57, 54, 48, 54, 49, 54, 50, 54, 51, 54, 52, 54, 53, 54, 54, 54, 55, 54, 56, 54, 57, 55, 48, 55, 49, 55, 50, 55, 51, 55, 52, 55, 53, 55, 54, 55, 55, 55, 56, 55, 57, 56, 48, 56, 49, 56, 50, 56, 51, 56, 52, 56, 53, 56, 54, 56, 55, 56, 56, 56, 57, 57, 48, 57, 49, 57, 50, 57, 51, 57, 52, 57, 53, 57, 54, 57, 55, 57, 56, 57, 57]⟩)) (.t 152)),
    o 11 156 (.iaddr 1 (.t 145) (.t 147)),
    ox 12 (.store 1 (.t 156) (.t 153)),
    o 3 148 (.mv (.t 0)),
    o 4 149 (.mv (.t 4)),
    o 5 150 (.bin .sub (.lf .i) (.t 149) (.c (.int .i64 2))),
    o 9 154 (.mv (.t 16)),
    o 10 155 (.strindex (.c (.string ⟨#[48, 48, 48, 49, 48, 50, 48, 51, 48, 52, 48, 53, 48, 54, 48, 55, 48, 56, 48, 57, 49, 48, 49, 49, 49, 50, 49, 51, 49, 52, 49, 53, 49, 54, 49, 55, 49, 56, 49, 57, 50, 48, 50, 49, 50, 50, 50, 51, 50, 52, 50, 53, 50, 54, 50, 55, 50, 56, 50, 57, 51, 48, 51, 49, 51, 50, 51, 51, 51, 52, 51, 53, 51, 54, 51, 55, 51, 56, 51, 57, 52, 48, 52, 49, 52, 50, 52, 51, 52, 52, 52, 53, 52, 54, 52, 55, 52, 56, 52, 57, 53, 48, 53, 49, 53, 50, 53, 51, 53, 52, 53, 53, 53, 54, 53, 55, 53, 56, 53, 57, 54, 48, 54, 49, 54, 50, 54, 51, 54, 52, 54, 53, 54, 54, 54, 55, 54, 56, 54, 57, 55, 48, 55, 49, 55, 50, 55, 51, 55, 52, 55, 53, 55, 54, 55, 55, 55, 56, 55, 57, 56, 48, 56, 49, 56, 50, 56, 51, 56, 52, 56, 53, 56, 54, 56, 55, 56, 56, 56, 57, 57, 48, 57, 49, 57, 50, 57, 51, 57, 52, 57, 53, 57, 54, 57, 55, 57, 56, 57, 57]⟩)) (.t 154)),
    o 13 157 (.iaddr 1 (.t 148) (.t 150)),
    ox 14 (.store 1 (.t 157) (.t 155))])
  (.region 0 [o 0 158 (.mv (.t 4)),
    o 1 159 (.bin .sub (.lf .i) (.t 158) (.c (.int .i64 2))),
    o 2 4 (.mv (.t 159))]))))
  (.skip)))
 (.seq (.region 0 [o 0 160 (.mv (.t 4)),
   o 1 161 (.bin .gtr (.lf .i) (.t 160) (.c (.int .i64 0)))])
 (.cond (.t 161)
  (.region 0 [o 0 162 (.mv (.t 0)),
    o 1 163 (.mv (.t 12)),
    o 2 164 (.bin .add (.lf .i) (.c (.int .u32 48)) (.t 163)),
    o 3 165 (.conv .u8 (.t 164)),
    o 4 166 (.iaddr 1 (.t 162) (.c (.int .i64 0))),
    ox 5 (.store 1 (.t 166) (.t 165))])
  (.skip)))))))⟩
theorem c232 : cFn Tryz.prog Tryz.f232 = some i232 := by kernel_rfl
def i233l1 : Cd :=
  .seq (.seq (.region 0 [o 0 66 (.mv (.t 1)),
    o 1 67 (.mv (.t 17)),
    o 2 68 (.bin .geq (.lf .i) (.t 66) (.t 67))])
  (.cond (.t 68)
   (.skip)
   (.exit 2)))
  (.block 3 (.seq (.region 0 [o 0 69 (.mv (.t 13)),
     o 1 70 (.bin .sub (.lf .i) (.t 69) (.c (.int .i64 1))),
     o 2 13 (.mv (.t 70))])
   (.seq (.region 0 [o 0 71 (.mv (.t 1)),
     o 1 72 (.mv (.t 17)),
     o 2 73 (.bin .quo (.lf .i) (.t 71) (.t 72)),
     o 3 18 (.mv (.t 73))])
   (.seq (.region 0 [o 0 74 (.mv (.t 13)),
     o 1 75 (.mv (.t 1)),
     o 2 76 (.mv (.t 18)),
     o 3 77 (.mv (.t 17)),
     o 4 78 (.bin .mul (.lf .i) (.t 76) (.t 77)),
     o 5 79 (.bin .sub (.lf .i) (.t 75) (.t 78)),
     o 6 80 (.strindex (.c (.string ⟨#[48, 49, 50, 51, 52, 53, 54, 55, 56, 57, 97, 98, 99, 100, 101, 102, 103, 104, 105, 106, 107, 108, 109, 110, 111, 112, 113, 114, 115, 116, 117, 118, 119, 120, 121, 122]⟩)) (.t 79)),
     o 7 81 (.aaddr 65 1 (.t 12) (.t 74)),
     ox 8 (.store 1 (.t 81) (.t 80))])
   (.region 0 [o 0 82 (.mv (.t 18)),
     o 1 1 (.mv (.t 82))])))))
def i233l0 : Cd :=
  .seq (.seq (.region 0 [o 0 44 (.mv (.t 1)),
    o 1 45 (.mv (.t 15)),
    o 2 46 (.bin .geq (.lf .i) (.t 44) (.t 45))])
  (.cond (.t 46)
   (.skip)
   (.exit 0)))
  (.block 1 (.seq (.region 0 [o 0 47 (.mv (.t 13)),
     o 1 48 (.bin .sub (.lf .i) (.t 47) (.c (.int .i64 1))),
     o 2 13 (.mv (.t 48))])
   (.seq (.region 0 [o 0 49 (.mv (.t 13)),
     o 1 50 (.mv (.t 1)),
     o 2 51 (.mv (.t 16)),
     o 3 52 (.bin .and (.lf .i) (.t 50) (.t 51)),
     o 4 53 (.strindex (.c (.string ⟨#[48, 49, 50, 51, 52, 53, 54, 55, 56, 57, 97, 98, 99, 100, 101, 102, 103, 104, 105, 106, 107, 108, 109, 110, 111, 112, 113, 114, 115, 116, 117, 118, 119, 120, 121, 122]⟩)) (.t 52)),
     o 5 54 (.aaddr 65 1 (.t 12) (.t 49)),
     ox 6 (.store 1 (.t 54) (.t 53))])
   (.region 0 [o 0 55 (.mv (.t 1)),
     o 1 56 (.mv (.t 14)),
     o 2 57 (.bin .shr (.lf .i) (.t 55) (.t 56)),
     o 3 1 (.mv (.t 57))]))))
/-- internal/strconv.formatBits -/
def i233 : FnI := ⟨[.tmp 10, .tmp 11],
 .seq (.region 0 [o 0 10 (.mv (.c (.slice none 0 0))),
   o 1 11 (.mv (.c (.string ⟨#[]⟩)))])
 (.seq (.seq (.region 0 [o 0 19 (.mv (.t 2)),
   o 1 20 (.bin .lss (.lf .i) (.t 19) (.c (.int .i64 2))),
   o 2 21 (.mv (.t 20)),
   og 3 22 21 false (.mv (.t 2)),
   og 4 23 21 false (.bin .eql (.lf .i) (.t 22) (.c (.int .i64 10))),
   o 5 24 (.pick (.t 21) (.c (.bool true)) (.t 23)),
   o 6 25 (.mv (.t 24)),
   og 7 26 25 false (.mv (.t 2)),
   og 8 27 25 false (.bin .gtr (.lf .i) (.t 26) (.c (.int .i64 36))),
   o 9 28 (.pick (.t 25) (.c (.bool true)) (.t 27))])
 (.cond (.t 28)
  (.region 0 [o 0 29 (.stuck),
    ox 1 (.stuck)])
  (.skip)))
 (.seq (.region 1 [o 0 12 (.alloc 0 304 [(.int .u8 0), (.int .u8 0), (.int .u8 0), (.int .u8 0), (.int .u8 0), (.int .u8 0), (.int .u8 0), (.int .u8 0), (.int .u8 0), (.int .u8 0), (.int .u8 0), (.int .u8 0), (.int .u8 0), (.int .u8 0), (.int .u8 0), (.int .u8 0), (.int .u8 0), (.int .u8 0), (.int .u8 0), (.int .u8 0), (.int .u8 0), (.int .u8 0), (.int .u8 0), (.int .u8 0), (.int .u8 0), (.int .u8 0), (.int .u8 0), (.int .u8 0), (.int .u8 0), (.int .u8 0), (.int .u8 0), (.int .u8 0), (.int .u8 0), (.int .u8 0), (.int .u8 0), (.int .u8 0), (.int .u8 0), (.int .u8 0), (.int .u8 0), (.int .u8 0), (.int .u8 0), (.int .u8 0), (.int .u8 0), (.int .u8 0), (.int .u8 0), (.int .u8 0), (.int .u8 0), (.int .u8 0), (.int .u8 0), (.int .u8 0), (.int .u8 0), (.int .u8 0), (.int .u8 0), (.int .u8 0), (.int .u8 0), (.int .u8 0), (.int .u8 0), (.int .u8 0), (.int .u8 0), (.int .u8 0), (.int .u8 0), (.int .u8 0), (.int .u8 0), (.int .u8 0), (.int .u8 0)])])
 (.seq (.region 0 [o 0 13 (.mv (.c (.int .i64 65)))])
 (.seq (.seq (.region 0 [o 0 30 (.mv (.t 3))])
 (.cond (.t 30)
  (.region 0 [o 0 31 (.mv (.t 1)),
    o 1 32 (.un .neg (.t 31)),
    o 2 1 (.mv (.t 32))])
  (.skip)))
 (.seq (.seq (.region 0 [o 0 33 (.mv (.t 2)),
   o 1 34 (.call (.f 260) [(.t 33)])])
 (.cond (.t 34)
  (.seq (.region 0 [o 0 35 (.mv (.t 2)),
    o 1 36 (.conv .u64 (.t 35)),
    o 2 37 (.call (.f 261) [(.t 36)]),
    o 3 38 (.conv .u64 (.t 37)),
    o 4 14 (.mv (.t 38))])
  (.seq (.region 0 [o 0 39 (.mv (.t 2)),
    o 1 40 (.conv .u64 (.t 39)),
    o 2 15 (.mv (.t 40))])
  (.seq (.region 0 [o 0 41 (.mv (.t 2)),
    o 1 42 (.conv .u64 (.t 41)),
    o 2 43 (.bin .sub (.lf .i) (.t 42) (.c (.int .u64 1))),
    o 3 16 (.mv (.t 43))])
  (.seq (.block 0 (.loop i233l0))
  (.seq (.region 0 [o 0 58 (.mv (.t 13)),
    o 1 59 (.bin .sub (.lf .i) (.t 58) (.c (.int .i64 1))),
    o 2 13 (.mv (.t 59))])
  (.region 0 [o 0 60 (.mv (.t 13)),
    o 1 61 (.mv (.t 1)),
    o 2 62 (.strindex (.c (.string ⟨#[48, 49, 50, 51, 52, 53, 54, 55, 56, 57, 97, 98, 99, 100, 101, 102, 103, 104, 105, 106, 107, 108, 109, 110, 111, 112, 113, 114, 115, 116, 117, 118, 119, 120, 121, 122]⟩)) (.t 61)),
    o 3 63 (.aaddr 65 1 (.t 12) (.t 60)),
    ox 4 (.store 1 (.t 63) (.t 62))]))))))
  (.seq (.region 0 [o 0 64 (.mv (.t 2)),
    o 1 65 (.conv .u64 (.t 64)),
    o 2 17 (.mv (.t 65))])
  (.seq (.block 2 (.loop i233l1))
  (.seq (.region 0 [o 0 83 (.mv (.t 13)),
    o 1 84 (.bin .sub (.lf .i) (.t 83) (.c (.int .i64 1))),
    o 2 13 (.mv (.t 84))])
  (.region 0 [o 0 85 (.mv (.t 13)),
    o 1 86 (.mv (.t 1)),
    o 2 87 (.strindex (.c (.string ⟨#[48, 49, 50, 51, 52, 53, 54, 55, 56, 57, 97, 98, 99, 100, 101, 102, 103, 104, 105, 106, 107, 108, 109, 110, 111, 112, 113, 114, 115, 116, 117, 118, 119, 120, 121, 122]⟩)) (.t 86)),
    o 3 88 (.aaddr 65 1 (.t 12) (.t 85)),
    ox 4 (.store 1 (.t 88) (.t 87))]))))))
 (.seq (.seq (.region 0 [o 0 89 (.mv (.t 3))])
 (.cond (.t 89)
  (.seq (.region 0 [o 0 90 (.mv (.t 13)),
    o 1 91 (.bin .sub (.lf .i) (.t 90) (.c (.int .i64 1))),
    o 2 13 (.mv (.t 91))])
  (.region 0 [o 0 92 (.mv (.t 13)),
    o 1 93 (.aaddr 65 1 (.t 12) (.t 92)),
    ox 2 (.store 1 (.t 93) (.c (.int .u8 45)))]))
  (.skip)))
 (.seq (.seq (.region 0 [o 0 94 (.mv (.t 4))])
 (.cond (.t 94)
  (.seq (.region 1 [o 0 95 (.mv (.t 0)),
    o 1 96 (.mv (.t 13)),
    o 2 97 (.aslice 65 1 (.t 12) (some (.t 96)) none),
    o 3 98 (.append 0 5 1 1 false (.t 95) (.t 97)),
    o 4 10 (.mv (.t 98))])
  (.ret))
  (.skip)))
 (.seq (.region 0 [o 0 99 (.mv (.t 13)),
   o 1 100 (.aslice 65 1 (.t 12) (some (.t 99)) none),
   o 2 101 (.b2s (.t 100)),
   o 3 11 (.mv (.t 101))])
 (.ret)))))))))⟩
theorem c233 : cFn Tryz.prog Tryz.f233 = some i233 := by kernel_rfl
def i236l1 : Cd :=
  .seq (.seq (.region 0 [o 0 18 (.mv (.t 9)),
    o 1 19 (.mv (.t 1)),
    o 2 20 (.bin .gtr (.lf .i) (.t 18) (.t 19)),
    o 3 21 (.mv (.t 20)),
    og 4 22 21 true (.mv (.t 3)),
    og 5 23 21 true (.mv (.t 0)),
    og 6 24 21 true (.mv (.t 9)),
    og 7 25 21 true (.iaddr 2 (.t 23) (.t 24)),
    og 8 26 21 true (.load true 2 (.t 25)),
    og 9 27 21 true (.mv (.t 0)),
    og 10 28 21 true (.mv (.t 9)),
    og 11 29 21 true (.bin .sub (.lf .i) (.t 28) (.c (.int .i64 1))),
    og 12 30 21 true (.iaddr 2 (.t 27) (.t 29)),
    og 13 31 21 true (.load true 2 (.t 30)),
    og 14 32 21 true (.call (.t 22) [(.t 26), (.t 31)]),
    og 15 33 21 true (.bin .lss (.lf .i) (.t 32) (.c (.int .i64 0))),
    o 16 34 (.pick (.t 21) (.t 33) (.c (.bool false)))])
  (.cond (.t 34)
   (.skip)
   (.exit 2)))
  (.seq (.block 3 (.region 0 [o 5 42 (.mv (.t 0)),
     o 6 43 (.mv (.t 9)),
     o 7 44 (.bin .sub (.lf .i) (.t 43) (.c (.int .i64 1))),
     o 8 45 (.iaddr 2 (.t 42) (.t 44)),
     o 9 46 (.load true 2 (.t 45)),
     o 10 47 (.mv (.t 0)),
     o 11 48 (.mv (.t 9)),
     o 12 49 (.iaddr 2 (.t 47) (.t 48)),
     o 13 50 (.load true 2 (.t 49)),
     o 0 37 (.mv (.t 0)),
     o 1 38 (.mv (.t 9)),
     o 14 51 (.iaddr 2 (.t 37) (.t 38)),
     ox 15 (.store 2 (.t 51) (.t 46)),
     o 2 39 (.mv (.t 0)),
     o 3 40 (.mv (.t 9)),
     o 4 41 (.bin .sub (.lf .i) (.t 40) (.c (.int .i64 1))),
     o 16 52 (.iaddr 2 (.t 39) (.t 41)),
     ox 17 (.store 2 (.t 52) (.t 50))]))
  (.region 0 [o 0 35 (.mv (.t 9)),
    o 1 36 (.bin .sub (.lf .i) (.t 35) (.c (.int .i64 1))),
    o 2 9 (.mv (.t 36))]))
def i236l0 : Cd :=
  .seq (.seq (.region 0 [o 0 12 (.mv (.t 8)),
    o 1 13 (.mv (.t 2)),
    o 2 14 (.bin .lss (.lf .i) (.t 12) (.t 13))])
  (.cond (.t 14)
   (.skip)
   (.exit 0)))
  (.seq (.block 1 (.seq (.region 0 [o 0 17 (.mv (.t 8)),
     o 1 9 (.mv (.t 17))])
   (.block 2 (.loop i236l1))))
  (.region 0 [o 0 15 (.mv (.t 8)),
    o 1 16 (.bin .add (.lf .i) (.t 15) (.c (.int .i64 1))),
    o 2 8 (.mv (.t 16))]))
/-- slices.insertionSortCmpFunc[burnish/term.mono] -/
def i236 : FnI := ⟨[],
 .seq (.region 0 [o 0 10 (.mv (.t 1)),
   o 1 11 (.bin .add (.lf .i) (.t 10) (.c (.int .i64 1))),
   o 2 8 (.mv (.t 11))])
 (.block 0 (.loop i236l0))⟩
theorem c236 : cFn Tryz.prog Tryz.f236 = some i236 := by kernel_rfl
def i237l1 : Cd :=
  .seq (.seq (.region 0 [o 0 32 (.mv (.t 12)),
    o 1 33 (.bin .geq (.lf .i) (.t 32) (.c (.int .i64 0)))])
  (.cond (.t 33)
   (.skip)
   (.exit 2)))
  (.seq (.block 3 (.seq (.region 0 [o 6 42 (.mv (.t 0)),
     o 7 43 (.mv (.t 8)),
     o 8 44 (.mv (.t 12)),
     o 9 45 (.bin .add (.lf .i) (.t 43) (.t 44)),
     o 10 46 (.iaddr 2 (.t 42) (.t 45)),
     o 11 47 (.load true 2 (.t 46)),
     o 12 48 (.mv (.t 0)),
     o 13 49 (.mv (.t 8)),
     o 14 50 (.iaddr 2 (.t 48) (.t 49)),
     o 15 51 (.load true 2 (.t 50)),
     o 0 36 (.mv (.t 0)),
     o 1 37 (.mv (.t 8)),
     o 16 52 (.iaddr 2 (.t 36) (.t 37)),
     ox 17 (.store 2 (.t 52) (.t 47)),
     o 2 38 (.mv (.t 0)),
     o 3 39 (.mv (.t 8)),
     o 4 40 (.mv (.t 12)),
     o 5 41 (.bin .add (.lf .i) (.t 39) (.t 40)),
     o 18 53 (.iaddr 2 (.t 38) (.t 41)),
     ox 19 (.store 2 (.t 53) (.t 51))])
   (.region 0 [o 0 54 (.mv (.t 0)),
     o 1 55 (.mv (.t 9)),
     o 2 56 (.mv (.t 12)),
     o 3 57 (.mv (.t 8)),
     o 4 58 (.mv (.t 3)),
     o 5 59 (.call (.f 262) [(.t 54), (.t 55), (.t 56), (.t 57), (.t 58)])])))
  (.region 0 [o 0 34 (.mv (.t 12)),
    o 1 35 (.bin .sub (.lf .i) (.t 34) (.c (.int .i64 1))),
    o 2 12 (.mv (.t 35))]))
def i237l0 : Cd :=
  .seq (.seq (.region 0 [o 0 20 (.mv (.t 11)),
    o 1 21 (.bin .geq (.lf .i) (.t 20) (.c (.int .i64 0)))])
  (.cond (.t 21)
   (.skip)
   (.exit 0)))
  (.seq (.block 1 (.region 0 [o 0 24 (.mv (.t 0)),
     o 1 25 (.mv (.t 11)),
     o 2 26 (.mv (.t 10)),
     o 3 27 (.mv (.t 8)),
     o 4 28 (.mv (.t 3)),
     o 5 29 (.call (.f 262) [(.t 24), (.t 25), (.t 26), (.t 27), (.t 28)])]))
  (.region 0 [o 0 22 (.mv (.t 11)),
    o 1 23 (.bin .sub (.lf .i) (.t 22) (.c (.int .i64 1))),
    o 2 11 (.mv (.t 23))]))
/-- slices.heapSortCmpFunc[burnish/term.mono] -/
def i237 : FnI := ⟨[],
 .seq (.region 0 [o 0 13 (.mv (.t 1)),
   o 1 8 (.mv (.t 13))])
 (.seq (.region 0 [o 0 9 (.mv (.c (.int .i64 0)))])
 (.seq (.region 0 [o 0 14 (.mv (.t 2)),
   o 1 15 (.mv (.t 1)),
   o 2 16 (.bin .sub (.lf .i) (.t 14) (.t 15)),
   o 3 10 (.mv (.t 16))])
 (.seq (.seq (.region 0 [o 0 17 (.mv (.t 10)),
   o 1 18 (.bin .sub (.lf .i) (.t 17) (.c (.int .i64 1))),
   o 2 19 (.bin .quo (.lf .i) (.t 18) (.c (.int .i64 2))),
   o 3 11 (.mv (.t 19))])
 (.block 0 (.loop i237l0)))
 (.seq (.region 0 [o 0 30 (.mv (.t 10)),
   o 1 31 (.bin .sub (.lf .i) (.t 30) (.c (.int .i64 1))),
   o 2 12 (.mv (.t 31))])
 (.block 2 (.loop i237l1))))))⟩
theorem c237 : cFn Tryz.prog Tryz.f237 = some i237 := by kernel_rfl
def i238l0 : Cd :=
  .seq (.seq (.region 0 [o 0 28 (.mv (.t 11)),
    o 1 29 (.mv (.t 1)),
    o 2 30 (.mv (.t 8)),
    o 3 31 (.bin .quo (.lf .i) (.t 30) (.c (.int .i64 4))),
    o 4 32 (.bin .mul (.lf .i) (.t 31) (.c (.int .i64 2))),
    o 5 33 (.bin .add (.lf .i) (.t 29) (.t 32)),
    o 6 34 (.bin .add (.lf .i) (.t 33) (.c (.int .i64 1))),
    o 7 35 (.bin .leq (.lf .i) (.t 28) (.t 34))])
  (.cond (.t 35)
   (.skip)
   (.exit 0)))
  (.seq (.block 1 (.seq (.region 0 [o 0 38 (.call (.f 192) [(.t 9)]),
     o 1 39 (.mv (.t 10)),
     o 2 40 (.bin .sub (.lf .i) (.t 39) (.c (.int .u64 1))),
     o 3 41 (.bin .and (.lf .i) (.t 38) (.t 40)),
     o 4 42 (.conv .i64 (.t 41)),
     o 5 12 (.mv (.t 42))])
   (.seq (.seq (.region 0 [o 0 43 (.mv (.t 12)),
     o 1 44 (.mv (.t 8)),
     o 2 45 (.bin .geq (.lf .i) (.t 43) (.t 44))])
   (.cond (.t 45)
    (.region 0 [o 0 46 (.mv (.t 12)),
      o 1 47 (.mv (.t 8)),
      o 2 48 (.bin .sub (.lf .i) (.t 46) (.t 47)),
      o 3 12 (.mv (.t 48))])
    (.skip)))
   (.region 0 [o 6 55 (.mv (.t 0)),
     o 7 56 (.mv (.t 1)),
     o 8 57 (.mv (.t 12)),
     o 9 58 (.bin .add (.lf .i) (.t 56) (.t 57)),
     o 10 59 (.iaddr 2 (.t 55) (.t 58)),
     o 11 60 (.load true 2 (.t 59)),
     o 12 61 (.mv (.t 0)),
     o 13 62 (.mv (.t 11)),
     o 14 63 (.iaddr 2 (.t 61) (.t 62)),
     o 15 64 (.load true 2 (.t 63)),
     o 0 49 (.mv (.t 0)),
     o 1 50 (.mv (.t 11)),
     o 16 65 (.iaddr 2 (.t 49) (.t 50)),
     ox 17 (.store 2 (.t 65) (.t 60)),
     o 2 51 (.mv (.t 0)),
     o 3 52 (.mv (.t 1)),
     o 4 53 (.mv (.t 12)),
     o 5 54 (.bin .add (.lf .i) (.t 52) (.t 53)),
     o 18 66 (.iaddr 2 (.t 51) (.t 54)),
     ox 19 (.store 2 (.t 66) (.t 64))]))))
  (.region 0 [o 0 36 (.mv (.t 11)),
    o 1 37 (.bin .add (.lf .i) (.t 36) (.c (.int .i64 1))),
    o 2 11 (.mv (.t 37))]))
/-- slices.breakPatternsCmpFunc[burnish/term.mono] -/
def i238 : FnI := ⟨[],
 .seq (.region 0 [o 0 13 (.mv (.t 2)),
   o 1 14 (.mv (.t 1)),
   o 2 15 (.bin .sub (.lf .i) (.t 13) (.t 14)),
   o 3 8 (.mv (.t 15))])
 (.seq (.region 0 [o 0 16 (.mv (.t 8)),
   o 1 17 (.bin .geq (.lf .i) (.t 16) (.c (.int .i64 8)))])
 (.cond (.t 17)
  (.seq (.region 1 [o 0 18 (.mv (.t 8)),
    o 1 19 (.conv .u64 (.t 18)),
    o 2 9 (.alloc 0 258 [(.int .u64 0)]),
    ox 3 (.store 1 (.t 9) (.t 19))])
  (.seq (.region 0 [o 0 20 (.mv (.t 8)),
    o 1 21 (.call (.f 191) [(.t 20)]),
    o 2 10 (.mv (.t 21))])
  (.seq (.region 0 [o 0 22 (.mv (.t 1)),
    o 1 23 (.mv (.t 8)),
    o 2 24 (.bin .quo (.lf .i) (.t 23) (.c (.int .i64 4))),
    o 3 25 (.bin .mul (.lf .i) (.t 24) (.c (.int .i64 2))),
    o 4 26 (.bin .add (.lf .i) (.t 22) (.t 25)),
    o 5 27 (.bin .sub (.lf .i) (.t 26) (.c (.int .i64 1))),
    o 6 11 (.mv (.t 27))])
  (.block 0 (.loop i238l0)))))
  (.skip)))⟩
theorem c238 : cFn Tryz.prog Tryz.f238 = some i238 := by kernel_rfl
/-- slices.choosePivotCmpFunc[burnish/term.mono] -/
def i239 : FnI := ⟨[.tmp 8, .tmp 9],
 .seq (.region 0 [o 0 8 (.mv (.c (.int .i64 0))),
   o 1 9 (.mv (.c (.int .i64 0)))])
 (.seq (.region 0 [o 0 15 (.mv (.t 2)),
   o 1 16 (.mv (.t 1)),
   o 2 17 (.bin .sub (.lf .i) (.t 15) (.t 16)),
   o 3 10 (.mv (.t 17))])
 (.seq (.region 1 [o 0 11 (.alloc 0 3 [(.int .i64 0)])])
 (.seq (.region 0 [o 0 18 (.mv (.t 1)),
   o 1 19 (.mv (.t 10)),
   o 2 20 (.bin .quo (.lf .i) (.t 19) (.c (.int .i64 4))),
   o 3 21 (.bin .mul (.lf .i) (.t 20) (.c (.int .i64 1))),
   o 4 22 (.bin .add (.lf .i) (.t 18) (.t 21)),
   o 5 12 (.mv (.t 22))])
 (.seq (.region 0 [o 0 23 (.mv (.t 1)),
   o 1 24 (.mv (.t 10)),
   o 2 25 (.bin .quo (.lf .i) (.t 24) (.c (.int .i64 4))),
   o 3 26 (.bin .mul (.lf .i) (.t 25) (.c (.int .i64 2))),
   o 4 27 (.bin .add (.lf .i) (.t 23) (.t 26)),
   o 5 13 (.mv (.t 27))])
 (.seq (.region 0 [o 0 28 (.mv (.t 1)),
   o 1 29 (.mv (.t 10)),
   o 2 30 (.bin .quo (.lf .i) (.t 29) (.c (.int .i64 4))),
   o 3 31 (.bin .mul (.lf .i) (.t 30) (.c (.int .i64 3))),
   o 4 32 (.bin .add (.lf .i) (.t 28) (.t 31)),
   o 5 14 (.mv (.t 32))])
 (.seq (.seq (.region 0 [o 0 33 (.mv (.t 10)),
   o 1 34 (.bin .geq (.lf .i) (.t 33) (.c (.int .i64 8)))])
 (.cond (.t 34)
  (.seq (.seq (.region 0 [o 0 35 (.mv (.t 10)),
    o 1 36 (.bin .geq (.lf .i) (.t 35) (.c (.int .i64 50)))])
  (.cond (.t 36)
   (.seq (.region 0 [o 0 37 (.mv (.t 0)),
     o 1 38 (.mv (.t 12)),
     o 2 39 (.mv (.t 3)),
     o 3 40 (.call (.f 263) [(.t 37), (.t 38), (.t 11), (.t 39)]),
     o 4 12 (.mv (.t 40))])
   (.seq (.region 0 [o 0 41 (.mv (.t 0)),
     o 1 42 (.mv (.t 13)),
     o 2 43 (.mv (.t 3)),
     o 3 44 (.call (.f 263) [(.t 41), (.t 42), (.t 11), (.t 43)]),
     o 4 13 (.mv (.t 44))])
   (.region 0 [o 0 45 (.mv (.t 0)),
     o 1 46 (.mv (.t 14)),
     o 2 47 (.mv (.t 3)),
     o 3 48 (.call (.f 263) [(.t 45), (.t 46), (.t 11), (.t 47)]),
     o 4 14 (.mv (.t 48))])))
   (.skip)))
  (.region 0 [o 0 49 (.mv (.t 0)),
    o 1 50 (.mv (.t 12)),
    o 2 51 (.mv (.t 13)),
    o 3 52 (.mv (.t 14)),
    o 4 53 (.mv (.t 3)),
    o 5 54 (.call (.f 264) [(.t 49), (.t 50), (.t 51), (.t 52), (.t 11), (.t 53)]),
    o 6 13 (.mv (.t 54))]))
  (.skip)))
 (.seq (.region 0 [o 0 55 (.load false 1 (.t 11))])
 (.block 0 (.seq (.region 0 [o 0 58 (.bin .eql (.lf .i) (.t 55) (.c (.int .i64 0))),
    o 1 57 (.mv (.t 58))])
  (.cond (.t 57)
   (.seq (.region 0 [o 0 59 (.mv (.t 13)),
     o 1 8 (.mv (.t 59)),
     o 2 9 (.mv (.c (.int .i64 1)))])
   (.ret))
   (.seq (.region 0 [o 0 61 (.bin .eql (.lf .i) (.t 55) (.c (.int .i64 12))),
     o 1 60 (.mv (.t 61))])
   (.cond (.t 60)
    (.seq (.region 0 [o 0 62 (.mv (.t 13)),
      o 1 8 (.mv (.t 62)),
      o 2 9 (.mv (.c (.int .i64 2)))])
    (.ret))
    (.seq (.region 0 [o 0 56 (.mv (.t 13)),
      o 1 8 (.mv (.t 56)),
      o 2 9 (.mv (.c (.int .i64 0)))])
    (.ret))))))))))))))⟩
theorem c239 : cFn Tryz.prog Tryz.f239 = some i239 := by kernel_rfl
def i240l0 : Cd :=
  .seq (.seq (.region 0 [o 0 13 (.mv (.t 8)),
    o 1 14 (.mv (.t 9)),
    o 2 15 (.bin .lss (.lf .i) (.t 13) (.t 14))])
  (.cond (.t 15)
   (.skip)
   (.exit 0)))
  (.block 1 (.seq (.region 0 [o 4 20 (.mv (.t 0)),
     o 5 21 (.mv (.t 9)),
     o 6 22 (.iaddr 2 (.t 20) (.t 21)),
     o 7 23 (.load true 2 (.t 22)),
     o 8 24 (.mv (.t 0)),
     o 9 25 (.mv (.t 8)),
     o 10 26 (.iaddr 2 (.t 24) (.t 25)),
     o 11 27 (.load true 2 (.t 26)),
     o 0 16 (.mv (.t 0)),
     o 1 17 (.mv (.t 8)),
     o 12 28 (.iaddr 2 (.t 16) (.t 17)),
     ox 13 (.store 2 (.t 28) (.t 23)),
     o 2 18 (.mv (.t 0)),
     o 3 19 (.mv (.t 9)),
     o 14 29 (.iaddr 2 (.t 18) (.t 19)),
     ox 15 (.store 2 (.t 29) (.t 27))])
   (.seq (.region 0 [o 0 30 (.mv (.t 8)),
     o 1 31 (.bin .add (.lf .i) (.t 30) (.c (.int .i64 1))),
     o 2 8 (.mv (.t 31))])
   (.region 0 [o 0 32 (.mv (.t 9)),
     o 1 33 (.bin .sub (.lf .i) (.t 32) (.c (.int .i64 1))),
     o 2 9 (.mv (.t 33))]))))
/-- slices.reverseRangeCmpFunc[burnish/term.mono] -/
def i240 : FnI := ⟨[],
 .seq (.region 0 [o 0 10 (.mv (.t 1)),
   o 1 8 (.mv (.t 10))])
 (.seq (.region 0 [o 0 11 (.mv (.t 2)),
   o 1 12 (.bin .sub (.lf .i) (.t 11) (.c (.int .i64 1))),
   o 2 9 (.mv (.t 12))])
 (.block 0 (.loop i240l0)))⟩
theorem c240 : cFn Tryz.prog Tryz.f240 = some i240 := by kernel_rfl
def i241l3 : Cd :=
  .seq (.seq (.region 0 [o 0 107 (.mv (.t 12)),
    o 1 108 (.mv (.t 2)),
    o 2 109 (.bin .lss (.lf .i) (.t 107) (.t 108))])
  (.cond (.t 109)
   (.skip)
   (.exit 6)))
  (.seq (.block 7 (.seq (.seq (.region 0 [o 0 112 (.mv (.t 3)),
     o 1 113 (.mv (.t 0)),
     o 2 114 (.mv (.t 12)),
     o 3 115 (.iaddr 2 (.t 113) (.t 114)),
     o 4 116 (.load true 2 (.t 115)),
     o 5 117 (.mv (.t 0)),
     o 6 118 (.mv (.t 12)),
     o 7 119 (.bin .sub (.lf .i) (.t 118) (.c (.int .i64 1))),
     o 8 120 (.iaddr 2 (.t 117) (.t 119)),
     o 9 121 (.load true 2 (.t 120)),
     o 10 122 (.call (.t 112) [(.t 116), (.t 121)]),
     o 11 123 (.bin .lss (.lf .i) (.t 122) (.c (.int .i64 0))),
     o 12 124 (.un .not (.t 123))])
   (.cond (.t 124)
    (.exit 6)
    (.skip)))
   (.region 0 [o 5 130 (.mv (.t 0)),
     o 6 131 (.mv (.t 12)),
     o 7 132 (.bin .sub (.lf .i) (.t 131) (.c (.int .i64 1))),
     o 8 133 (.iaddr 2 (.t 130) (.t 132)),
     o 9 134 (.load true 2 (.t 133)),
     o 10 135 (.mv (.t 0)),
     o 11 136 (.mv (.t 12)),
     o 12 137 (.iaddr 2 (.t 135) (.t 136)),
     o 13 138 (.load true 2 (.t 137)),
     o 0 125 (.mv (.t 0)),
     o 1 126 (.mv (.t 12)),
     o 14 139 (.iaddr 2 (.t 125) (.t 126)),
     ox 15 (.store 2 (.t 139) (.t 134)),
     o 2 127 (.mv (.t 0)),
     o 3 128 (.mv (.t 12)),
     o 4 129 (.bin .sub (.lf .i) (.t 128) (.c (.int .i64 1))),
     o 16 140 (.iaddr 2 (.t 127) (.t 129)),
     ox 17 (.store 2 (.t 140) (.t 138))])))
  (.region 0 [o 0 110 (.mv (.t 12)),
    o 1 111 (.bin .add (.lf .i) (.t 110) (.c (.int .i64 1))),
    o 2 12 (.mv (.t 111))]))
def i241l2 : Cd :=
  .seq (.seq (.region 0 [o 0 68 (.mv (.t 11)),
    o 1 69 (.bin .geq (.lf .i) (.t 68) (.c (.int .i64 1)))])
  (.cond (.t 69)
   (.skip)
   (.exit 4)))
  (.seq (.block 5 (.seq (.seq (.region 0 [o 0 72 (.mv (.t 3)),
     o 1 73 (.mv (.t 0)),
     o 2 74 (.mv (.t 11)),
     o 3 75 (.iaddr 2 (.t 73) (.t 74)),
     o 4 76 (.load true 2 (.t 75)),
     o 5 77 (.mv (.t 0)),
     o 6 78 (.mv (.t 11)),
     o 7 79 (.bin .sub (.lf .i) (.t 78) (.c (.int .i64 1))),
     o 8 80 (.iaddr 2 (.t 77) (.t 79)),
     o 9 81 (.load true 2 (.t 80)),
     o 10 82 (.call (.t 72) [(.t 76), (.t 81)]),
     o 11 83 (.bin .lss (.lf .i) (.t 82) (.c (.int .i64 0))),
     o 12 84 (.un .not (.t 83))])
   (.cond (.t 84)
    (.exit 4)
    (.skip)))
   (.region 0 [o 5 90 (.mv (.t 0)),
     o 6 91 (.mv (.t 11)),
     o 7 92 (.bin .sub (.lf .i) (.t 91) (.c (.int .i64 1))),
     o 8 93 (.iaddr 2 (.t 90) (.t 92)),
     o 9 94 (.load true 2 (.t 93)),
     o 10 95 (.mv (.t 0)),
     o 11 96 (.mv (.t 11)),
     o 12 97 (.iaddr 2 (.t 95) (.t 96)),
     o 13 98 (.load true 2 (.t 97)),
     o 0 85 (.mv (.t 0)),
     o 1 86 (.mv (.t 11)),
     o 14 99 (.iaddr 2 (.t 85) (.t 86)),
     ox 15 (.store 2 (.t 99) (.t 94)),
     o 2 87 (.mv (.t 0)),
     o 3 88 (.mv (.t 11)),
     o 4 89 (.bin .sub (.lf .i) (.t 88) (.c (.int .i64 1))),
     o 16 100 (.iaddr 2 (.t 87) (.t 89)),
     ox 17 (.store 2 (.t 100) (.t 98))])))
  (.region 0 [o 0 70 (.mv (.t 11)),
    o 1 71 (.bin .sub (.lf .i) (.t 70) (.c (.int .i64 1))),
    o 2 11 (.mv (.t 71))]))
def i241l1 : Cd :=
  .seq (.seq (.region 0 [o 0 19 (.mv (.t 9)),
    o 1 20 (.mv (.t 2)),
    o 2 21 (.bin .lss (.lf .i) (.t 19) (.t 20)),
    o 3 22 (.mv (.t 21)),
    og 4 23 22 true (.mv (.t 3)),
    og 5 24 22 true (.mv (.t 0)),
    og 6 25 22 true (.mv (.t 9)),
    og 7 26 22 true (.iaddr 2 (.t 24) (.t 25)),
    og 8 27 22 true (.load true 2 (.t 26)),
    og 9 28 22 true (.mv (.t 0)),
    og 10 29 22 true (.mv (.t 9)),
    og 11 30 22 true (.bin .sub (.lf .i) (.t 29) (.c (.int .i64 1))),
    og 12 31 22 true (.iaddr 2 (.t 28) (.t 30)),
    og 13 32 22 true (.load true 2 (.t 31)),
    og 14 33 22 true (.call (.t 23) [(.t 27), (.t 32)]),
    og 15 34 22 true (.bin .lss (.lf .i) (.t 33) (.c (.int .i64 0))),
    og 16 35 22 true (.un .not (.t 34)),
    o 17 36 (.pick (.t 22) (.t 35) (.c (.bool false)))])
  (.cond (.t 36)
   (.skip)
   (.exit 2)))
  (.block 3 (.region 0 [o 0 37 (.mv (.t 9)),
     o 1 38 (.bin .add (.lf .i) (.t 37) (.c (.int .i64 1))),
     o 2 9 (.mv (.t 38))]))
def i241l0 : Cd :=
  .seq (.seq (.region 0 [o 0 15 (.mv (.t 10)),
    o 1 16 (.bin .lss (.lf .i) (.t 15) (.c (.int .i64 5)))])
  (.cond (.t 16)
   (.skip)
   (.exit 0)))
  (.seq (.block 1 (.seq (.block 2 (.loop i241l1))
   (.seq (.seq (.region 0 [o 0 39 (.mv (.t 9)),
     o 1 40 (.mv (.t 2)),
     o 2 41 (.bin .eql (.lf .i) (.t 39) (.t 40))])
   (.cond (.t 41)
    (.seq (.region 0 [o 0 8 (.mv (.c (.bool true)))])
    (.ret))
    (.skip)))
   (.seq (.seq (.region 0 [o 0 42 (.mv (.t 2)),
     o 1 43 (.mv (.t 1)),
     o 2 44 (.bin .sub (.lf .i) (.t 42) (.t 43)),
     o 3 45 (.bin .lss (.lf .i) (.t 44) (.c (.int .i64 50)))])
   (.cond (.t 45)
    (.seq (.region 0 [o 0 8 (.mv (.c (.bool false)))])
    (.ret))
    (.skip)))
   (.seq (.region 0 [o 5 51 (.mv (.t 0)),
     o 6 52 (.mv (.t 9)),
     o 7 53 (.bin .sub (.lf .i) (.t 52) (.c (.int .i64 1))),
     o 8 54 (.iaddr 2 (.t 51) (.t 53)),
     o 9 55 (.load true 2 (.t 54)),
     o 10 56 (.mv (.t 0)),
     o 11 57 (.mv (.t 9)),
     o 12 58 (.iaddr 2 (.t 56) (.t 57)),
     o 13 59 (.load true 2 (.t 58)),
     o 0 46 (.mv (.t 0)),
     o 1 47 (.mv (.t 9)),
     o 14 60 (.iaddr 2 (.t 46) (.t 47)),
     ox 15 (.store 2 (.t 60) (.t 55)),
     o 2 48 (.mv (.t 0)),
     o 3 49 (.mv (.t 9)),
     o 4 50 (.bin .sub (.lf .i) (.t 49) (.c (.int .i64 1))),
     o 16 61 (.iaddr 2 (.t 48) (.t 50)),
     ox 17 (.store 2 (.t 61) (.t 59))])
   (.seq (.seq (.region 0 [o 0 62 (.mv (.t 9)),
     o 1 63 (.mv (.t 1)),
     o 2 64 (.bin .sub (.lf .i) (.t 62) (.t 63)),
     o 3 65 (.bin .geq (.lf .i) (.t 64) (.c (.int .i64 2)))])
   (.cond (.t 65)
    (.seq (.region 0 [o 0 66 (.mv (.t 9)),
      o 1 67 (.bin .sub (.lf .i) (.t 66) (.c (.int .i64 1))),
      o 2 11 (.mv (.t 67))])
    (.block 4 (.loop i241l2)))
    (.skip)))
   (.seq (.region 0 [o 0 101 (.mv (.t 2)),
     o 1 102 (.mv (.t 9)),
     o 2 103 (.bin .sub (.lf .i) (.t 101) (.t 102)),
     o 3 104 (.bin .geq (.lf .i) (.t 103) (.c (.int .i64 2)))])
   (.cond (.t 104)
    (.seq (.region 0 [o 0 105 (.mv (.t 9)),
      o 1 106 (.bin .add (.lf .i) (.t 105) (.c (.int .i64 1))),
      o 2 12 (.mv (.t 106))])
    (.block 6 (.loop i241l3)))
    (.skip)))))))))
  (.region 0 [o 0 17 (.mv (.t 10)),
    o 1 18 (.bin .add (.lf .i) (.t 17) (.c (.int .i64 1))),
    o 2 10 (.mv (.t 18))]))
/-- slices.partialInsertionSortCmpFunc[burnish/term.mono] -/
def i241 : FnI := ⟨[.tmp 8],
 .seq (.region 0 [o 0 8 (.mv (.c (.bool false)))])
 (.seq (.region 0 [o 0 13 (.mv (.t 1)),
   o 1 14 (.bin .add (.lf .i) (.t 13) (.c (.int .i64 1))),
   o 2 9 (.mv (.t 14))])
 (.seq (.seq (.region 0 [o 0 10 (.mv (.c (.int .i64 0)))])
 (.block 0 (.loop i241l0)))
 (.seq (.region 0 [o 0 8 (.mv (.c (.bool false)))])
 (.ret))))⟩
theorem c241 : cFn Tryz.prog Tryz.f241 = some i241 := by kernel_rfl
def i242l2 : Cd :=
  .seq (.seq (.region 0 [o 0 50 (.mv (.t 11)),
    o 1 51 (.mv (.t 12)),
    o 2 52 (.bin .leq (.lf .i) (.t 50) (.t 51)),
    o 3 53 (.mv (.t 52)),
    og 4 54 53 true (.mv (.t 4)),
    og 5 55 53 true (.mv (.t 0)),
    og 6 56 53 true (.mv (.t 1)),
    og 7 57 53 true (.iaddr 2 (.t 55) (.t 56)),
    og 8 58 53 true (.load true 2 (.t 57)),
    og 9 59 53 true (.mv (.t 0)),
    og 10 60 53 true (.mv (.t 12)),
    og 11 61 53 true (.iaddr 2 (.t 59) (.t 60)),
    og 12 62 53 true (.load true 2 (.t 61)),
    og 13 63 53 true (.call (.t 54) [(.t 58), (.t 62)]),
    og 14 64 53 true (.bin .lss (.lf .i) (.t 63) (.c (.int .i64 0))),
    o 15 65 (.pick (.t 53) (.t 64) (.c (.bool false)))])
  (.cond (.t 65)
   (.skip)
   (.exit 4)))
  (.block 5 (.region 0 [o 0 66 (.mv (.t 12)),
     o 1 67 (.bin .sub (.lf .i) (.t 66) (.c (.int .i64 1))),
     o 2 12 (.mv (.t 67))]))
def i242l1 : Cd :=
  .seq (.seq (.region 0 [o 0 31 (.mv (.t 11)),
    o 1 32 (.mv (.t 12)),
    o 2 33 (.bin .leq (.lf .i) (.t 31) (.t 32)),
    o 3 34 (.mv (.t 33)),
    og 4 35 34 true (.mv (.t 4)),
    og 5 36 34 true (.mv (.t 0)),
    og 6 37 34 true (.mv (.t 1)),
    og 7 38 34 true (.iaddr 2 (.t 36) (.t 37)),
    og 8 39 34 true (.load true 2 (.t 38)),
    og 9 40 34 true (.mv (.t 0)),
    og 10 41 34 true (.mv (.t 11)),
    og 11 42 34 true (.iaddr 2 (.t 40) (.t 41)),
    og 12 43 34 true (.load true 2 (.t 42)),
    og 13 44 34 true (.call (.t 35) [(.t 39), (.t 43)]),
    og 14 45 34 true (.bin .lss (.lf .i) (.t 44) (.c (.int .i64 0))),
    og 15 46 34 true (.un .not (.t 45)),
    o 16 47 (.pick (.t 34) (.t 46) (.c (.bool false)))])
  (.cond (.t 47)
   (.skip)
   (.exit 2)))
  (.block 3 (.region 0 [o 0 48 (.mv (.t 11)),
     o 1 49 (.bin .add (.lf .i) (.t 48) (.c (.int .i64 1))),
     o 2 11 (.mv (.t 49))]))
def i242l0 : Cd :=
  .block 1 (.seq (.block 2 (.loop i242l1))
   (.seq (.block 4 (.loop i242l2))
   (.seq (.seq (.region 0 [o 0 68 (.mv (.t 11)),
     o 1 69 (.mv (.t 12)),
     o 2 70 (.bin .gtr (.lf .i) (.t 68) (.t 69))])
   (.cond (.t 70)
    (.exit 0)
    (.skip)))
   (.seq (.region 0 [o 4 75 (.mv (.t 0)),
     o 5 76 (.mv (.t 12)),
     o 6 77 (.iaddr 2 (.t 75) (.t 76)),
     o 7 78 (.load true 2 (.t 77)),
     o 8 79 (.mv (.t 0)),
     o 9 80 (.mv (.t 11)),
     o 10 81 (.iaddr 2 (.t 79) (.t 80)),
     o 11 82 (.load true 2 (.t 81)),
     o 0 71 (.mv (.t 0)),
     o 1 72 (.mv (.t 11)),
     o 12 83 (.iaddr 2 (.t 71) (.t 72)),
     ox 13 (.store 2 (.t 83) (.t 78)),
     o 2 73 (.mv (.t 0)),
     o 3 74 (.mv (.t 12)),
     o 14 84 (.iaddr 2 (.t 73) (.t 74)),
     ox 15 (.store 2 (.t 84) (.t 82))])
   (.seq (.region 0 [o 0 85 (.mv (.t 11)),
     o 1 86 (.bin .add (.lf .i) (.t 85) (.c (.int .i64 1))),
     o 2 11 (.mv (.t 86))])
   (.region 0 [o 0 87 (.mv (.t 12)),
     o 1 88 (.bin .sub (.lf .i) (.t 87) (.c (.int .i64 1))),
     o 2 12 (.mv (.t 88))]))))))
/-- slices.partitionEqualCmpFunc[burnish/term.mono] -/
def i242 : FnI := ⟨[.tmp 10],
 .seq (.region 0 [o 0 10 (.mv (.c (.int .i64 0)))])
 (.seq (.region 0 [o 4 17 (.mv (.t 0)),
   o 5 18 (.mv (.t 3)),
   o 6 19 (.iaddr 2 (.t 17) (.t 18)),
   o 7 20 (.load true 2 (.t 19)),
   o 8 21 (.mv (.t 0)),
   o 9 22 (.mv (.t 1)),
   o 10 23 (.iaddr 2 (.t 21) (.t 22)),
   o 11 24 (.load true 2 (.t 23)),
   o 0 13 (.mv (.t 0)),
   o 1 14 (.mv (.t 1)),
   o 12 25 (.iaddr 2 (.t 13) (.t 14)),
   ox 13 (.store 2 (.t 25) (.t 20)),
   o 2 15 (.mv (.t 0)),
   o 3 16 (.mv (.t 3)),
   o 14 26 (.iaddr 2 (.t 15) (.t 16)),
   ox 15 (.store 2 (.t 26) (.t 24))])
 (.seq (.region 0 [o 0 27 (.mv (.t 1)),
   o 1 28 (.bin .add (.lf .i) (.t 27) (.c (.int .i64 1))),
   o 2 29 (.mv (.t 2)),
   o 3 30 (.bin .sub (.lf .i) (.t 29) (.c (.int .i64 1))),
   o 4 11 (.mv (.t 28)),
   o 5 12 (.mv (.t 30))])
 (.seq (.block 0 (.loop i242l0))
 (.seq (.region 0 [o 0 89 (.mv (.t 11)),
   o 1 10 (.mv (.t 89))])
 (.ret)))))⟩
theorem c242 : cFn Tryz.prog Tryz.f242 = some i242 := by kernel_rfl
def i243l4 : Cd :=
  .seq (.seq (.region 0 [o 0 123 (.mv (.t 12)),
    o 1 124 (.mv (.t 13)),
    o 2 125 (.bin .leq (.lf .i) (.t 123) (.t 124)),
    o 3 126 (.mv (.t 125)),
    og 4 127 126 true (.mv (.t 4)),
    og 5 128 126 true (.mv (.t 0)),
    og 6 129 126 true (.mv (.t 13)),
    og 7 130 126 true (.iaddr 2 (.t 128) (.t 129)),
    og 8 131 126 true (.load true 2 (.t 130)),
    og 9 132 126 true (.mv (.t 0)),
    og 10 133 126 true (.mv (.t 1)),
    og 11 134 126 true (.iaddr 2 (.t 132) (.t 133)),
    og 12 135 126 true (.load true 2 (.t 134)),
    og 13 136 126 true (.call (.t 127) [(.t 131), (.t 135)]),
    og 14 137 126 true (.bin .lss (.lf .i) (.t 136) (.c (.int .i64 0))),
    og 15 138 126 true (.un .not (.t 137)),
    o 16 139 (.pick (.t 126) (.t 138) (.c (.bool false)))])
  (.cond (.t 139)
   (.skip)
   (.exit 8)))
  (.block 9 (.region 0 [o 0 140 (.mv (.t 13)),
     o 1 141 (.bin .sub (.lf .i) (.t 140) (.c (.int .i64 1))),
     o 2 13 (.mv (.t 141))]))
def i243l3 : Cd :=
  .seq (.seq (.region 0 [o 0 105 (.mv (.t 12)),
    o 1 106 (.mv (.t 13)),
    o 2 107 (.bin .leq (.lf .i) (.t 105) (.t 106)),
    o 3 108 (.mv (.t 107)),
    og 4 109 108 true (.mv (.t 4)),
    og 5 110 108 true (.mv (.t 0)),
    og 6 111 108 true (.mv (.t 12)),
    og 7 112 108 true (.iaddr 2 (.t 110) (.t 111)),
    og 8 113 108 true (.load true 2 (.t 112)),
    og 9 114 108 true (.mv (.t 0)),
    og 10 115 108 true (.mv (.t 1)),
    og 11 116 108 true (.iaddr 2 (.t 114) (.t 115)),
    og 12 117 108 true (.load true 2 (.t 116)),
    og 13 118 108 true (.call (.t 109) [(.t 113), (.t 117)]),
    og 14 119 108 true (.bin .lss (.lf .i) (.t 118) (.c (.int .i64 0))),
    o 15 120 (.pick (.t 108) (.t 119) (.c (.bool false)))])
  (.cond (.t 120)
   (.skip)
   (.exit 6)))
  (.block 7 (.region 0 [o 0 121 (.mv (.t 12)),
     o 1 122 (.bin .add (.lf .i) (.t 121) (.c (.int .i64 1))),
     o 2 12 (.mv (.t 122))]))
def i243l2 : Cd :=
  .block 5 (.seq (.block 6 (.loop i243l3))
   (.seq (.block 8 (.loop i243l4))
   (.seq (.seq (.region 0 [o 0 142 (.mv (.t 12)),
     o 1 143 (.mv (.t 13)),
     o 2 144 (.bin .gtr (.lf .i) (.t 142) (.t 143))])
   (.cond (.t 144)
    (.exit 4)
    (.skip)))
   (.seq (.region 0 [o 4 149 (.mv (.t 0)),
     o 5 150 (.mv (.t 13)),
     o 6 151 (.iaddr 2 (.t 149) (.t 150)),
     o 7 152 (.load true 2 (.t 151)),
     o 8 153 (.mv (.t 0)),
     o 9 154 (.mv (.t 12)),
     o 10 155 (.iaddr 2 (.t 153) (.t 154)),
     o 11 156 (.load true 2 (.t 155)),
     o 0 145 (.mv (.t 0)),
     o 1 146 (.mv (.t 12)),
     o 12 157 (.iaddr 2 (.t 145) (.t 146)),
     ox 13 (.store 2 (.t 157) (.t 152)),
     o 2 147 (.mv (.t 0)),
     o 3 148 (.mv (.t 13)),
     o 14 158 (.iaddr 2 (.t 147) (.t 148)),
     ox 15 (.store 2 (.t 158) (.t 156))])
   (.seq (.region 0 [o 0 159 (.mv (.t 12)),
     o 1 160 (.bin .add (.lf .i) (.t 159) (.c (.int .i64 1))),
     o 2 12 (.mv (.t 160))])
   (.region 0 [o 0 161 (.mv (.t 13)),
     o 1 162 (.bin .sub (.lf .i) (.t 161) (.c (.int .i64 1))),
     o 2 13 (.mv (.t 162))]))))))
def i243l1 : Cd :=
  .seq (.seq (.region 0 [o 0 50 (.mv (.t 12)),
    o 1 51 (.mv (.t 13)),
    o 2 52 (.bin .leq (.lf .i) (.t 50) (.t 51)),
    o 3 53 (.mv (.t 52)),
    og 4 54 53 true (.mv (.t 4)),
    og 5 55 53 true (.mv (.t 0)),
    og 6 56 53 true (.mv (.t 13)),
    og 7 57 53 true (.iaddr 2 (.t 55) (.t 56)),
    og 8 58 53 true (.load true 2 (.t 57)),
    og 9 59 53 true (.mv (.t 0)),
    og 10 60 53 true (.mv (.t 1)),
    og 11 61 53 true (.iaddr 2 (.t 59) (.t 60)),
    og 12 62 53 true (.load true 2 (.t 61)),
    og 13 63 53 true (.call (.t 54) [(.t 58), (.t 62)]),
    og 14 64 53 true (.bin .lss (.lf .i) (.t 63) (.c (.int .i64 0))),
    og 15 65 53 true (.un .not (.t 64)),
    o 16 66 (.pick (.t 53) (.t 65) (.c (.bool false)))])
  (.cond (.t 66)
   (.skip)
   (.exit 2)))
  (.block 3 (.region 0 [o 0 67 (.mv (.t 13)),
     o 1 68 (.bin .sub (.lf .i) (.t 67) (.c (.int .i64 1))),
     o 2 13 (.mv (.t 68))]))
def i243l0 : Cd :=
  .seq (.seq (.region 0 [o 0 32 (.mv (.t 12)),
    o 1 33 (.mv (.t 13)),
    o 2 34 (.bin .leq (.lf .i) (.t 32) (.t 33)),
    o 3 35 (.mv (.t 34)),
    og 4 36 35 true (.mv (.t 4)),
    og 5 37 35 true (.mv (.t 0)),
    og 6 38 35 true (.mv (.t 12)),
    og 7 39 35 true (.iaddr 2 (.t 37) (.t 38)),
    og 8 40 35 true (.load true 2 (.t 39)),
    og 9 41 35 true (.mv (.t 0)),
    og 10 42 35 true (.mv (.t 1)),
    og 11 43 35 true (.iaddr 2 (.t 41) (.t 42)),
    og 12 44 35 true (.load true 2 (.t 43)),
    og 13 45 35 true (.call (.t 36) [(.t 40), (.t 44)]),
    og 14 46 35 true (.bin .lss (.lf .i) (.t 45) (.c (.int .i64 0))),
    o 15 47 (.pick (.t 35) (.t 46) (.c (.bool false)))])
  (.cond (.t 47)
   (.skip)
   (.exit 0)))
  (.block 1 (.region 0 [o 0 48 (.mv (.t 12)),
     o 1 49 (.bin .add (.lf .i) (.t 48) (.c (.int .i64 1))),
     o 2 12 (.mv (.t 49))]))
/-- slices.partitionCmpFunc[burnish/term.mono] -/
def i243 : FnI := ⟨[.tmp 10, .tmp 11],
 .seq (.region 0 [o 0 10 (.mv (.c (.int .i64 0))),
   o 1 11 (.mv (.c (.bool false)))])
 (.seq (.region 0 [o 4 18 (.mv (.t 0)),
   o 5 19 (.mv (.t 3)),
   o 6 20 (.iaddr 2 (.t 18) (.t 19)),
   o 7 21 (.load true 2 (.t 20)),
   o 8 22 (.mv (.t 0)),
   o 9 23 (.mv (.t 1)),
   o 10 24 (.iaddr 2 (.t 22) (.t 23)),
   o 11 25 (.load true 2 (.t 24)),
   o 0 14 (.mv (.t 0)),
   o 1 15 (.mv (.t 1)),
   o 12 26 (.iaddr 2 (.t 14) (.t 15)),
   ox 13 (.store 2 (.t 26) (.t 21)),
   o 2 16 (.mv (.t 0)),
   o 3 17 (.mv (.t 3)),
   o 14 27 (.iaddr 2 (.t 16) (.t 17)),
   ox 15 (.store 2 (.t 27) (.t 25))])
 (.seq (.region 0 [o 0 28 (.mv (.t 1)),
   o 1 29 (.bin .add (.lf .i) (.t 28) (.c (.int .i64 1))),
   o 2 30 (.mv (.t 2)),
   o 3 31 (.bin .sub (.lf .i) (.t 30) (.c (.int .i64 1))),
   o 4 12 (.mv (.t 29)),
   o 5 13 (.mv (.t 31))])
 (.seq (.block 0 (.loop i243l0))
 (.seq (.block 2 (.loop i243l1))
 (.seq (.seq (.region 0 [o 0 69 (.mv (.t 12)),
   o 1 70 (.mv (.t 13)),
   o 2 71 (.bin .gtr (.lf .i) (.t 69) (.t 70))])
 (.cond (.t 71)
  (.seq (.region 0 [o 4 76 (.mv (.t 0)),
    o 5 77 (.mv (.t 1)),
    o 6 78 (.iaddr 2 (.t 76) (.t 77)),
    o 7 79 (.load true 2 (.t 78)),
    o 8 80 (.mv (.t 0)),
    o 9 81 (.mv (.t 13)),
    o 10 82 (.iaddr 2 (.t 80) (.t 81)),
    o 11 83 (.load true 2 (.t 82)),
    o 0 72 (.mv (.t 0)),
    o 1 73 (.mv (.t 13)),
    o 12 84 (.iaddr 2 (.t 72) (.t 73)),
    ox 13 (.store 2 (.t 84) (.t 79)),
    o 2 74 (.mv (.t 0)),
    o 3 75 (.mv (.t 1)),
    o 14 85 (.iaddr 2 (.t 74) (.t 75)),
    ox 15 (.store 2 (.t 85) (.t 83))])
  (.seq (.region 0 [o 0 86 (.mv (.t 13)),
    o 1 10 (.mv (.t 86)),
    o 2 11 (.mv (.c (.bool true)))])
  (.ret)))
  (.skip)))
 (.seq (.region 0 [o 4 91 (.mv (.t 0)),
   o 5 92 (.mv (.t 13)),
   o 6 93 (.iaddr 2 (.t 91) (.t 92)),
   o 7 94 (.load true 2 (.t 93)),
   o 8 95 (.mv (.t 0)),
   o 9 96 (.mv (.t 12)),
   o 10 97 (.iaddr 2 (.t 95) (.t 96)),
   o 11 98 (.load true 2 (.t 97)),
   o 0 87 (.mv (.t 0)),
   o 1 88 (.mv (.t 12)),
   o 12 99 (.iaddr 2 (.t 87) (.t 88)),
   ox 13 (.store 2 (.t 99) (.t 94)),
   o 2 89 (.mv (.t 0)),
   o 3 90 (.mv (.t 13)),
   o 14 100 (.iaddr 2 (.t 89) (.t 90)),
   ox 15 (.store 2 (.t 100) (.t 98))])
 (.seq (.region 0 [o 0 101 (.mv (.t 12)),
   o 1 102 (.bin .add (.lf .i) (.t 101) (.c (.int .i64 1))),
   o 2 12 (.mv (.t 102))])
 (.seq (.region 0 [o 0 103 (.mv (.t 13)),
   o 1 104 (.bin .sub (.lf .i) (.t 103) (.c (.int .i64 1))),
   o 2 13 (.mv (.t 104))])
 (.seq (.block 4 (.loop i243l2))
 (.seq (.region 0 [o 4 167 (.mv (.t 0)),
   o 5 168 (.mv (.t 1)),
   o 6 169 (.iaddr 2 (.t 167) (.t 168)),
   o 7 170 (.load true 2 (.t 169)),
   o 8 171 (.mv (.t 0)),
   o 9 172 (.mv (.t 13)),
   o 10 173 (.iaddr 2 (.t 171) (.t 172)),
   o 11 174 (.load true 2 (.t 173)),
   o 0 163 (.mv (.t 0)),
   o 1 164 (.mv (.t 13)),
   o 12 175 (.iaddr 2 (.t 163) (.t 164)),
   ox 13 (.store 2 (.t 175) (.t 170)),
   o 2 165 (.mv (.t 0)),
   o 3 166 (.mv (.t 1)),
   o 14 176 (.iaddr 2 (.t 165) (.t 166)),
   ox 15 (.store 2 (.t 176) (.t 174))])
 (.seq (.region 0 [o 0 177 (.mv (.t 13)),
   o 1 10 (.mv (.t 177)),
   o 2 11 (.mv (.c (.bool false)))])
 (.ret))))))))))))⟩
theorem c243 : cFn Tryz.prog Tryz.f243 = some i243 := by kernel_rfl
/-- burnish/intn.shift -/
def i254 : FnI := ⟨[.tmp 8, .tmp 9],
 .seq (.region 0 [o 0 8 (.mv (.c (.int .i64 0))),
   o 1 9 (.mv (.c (.bool false)))])
 (.seq (.region 0 [o 0 11 (.mv (.t 0)),
   o 1 12 (.mv (.t 2)),
   o 2 13 (.call (.f 139) [(.t 11), (.t 12)]),
   o 3 10 (.mv (.t 13))])
 (.seq (.seq (.region 0 [o 0 14 (.mv (.t 10)),
   o 1 15 (.mv (.t 0)),
   o 2 16 (.call (.f 51) [(.t 15)]),
   o 3 17 (.conv .u64 (.t 16)),
   o 4 18 (.bin .geq (.lf .i) (.t 14) (.t 17))])
 (.cond (.t 18)
  (.seq (.region 0 [o 0 8 (.mv (.c (.int .i64 0))),
    o 1 9 (.mv (.c (.bool false)))])
  (.ret))
  (.skip)))
 (.seq (.region 0 [o 0 19 (.mv (.t 0)),
   o 1 20 (.mv (.t 3)),
   o 2 21 (.mv (.t 10)),
   o 3 22 (.call (.t 20) [(.t 21)]),
   o 4 23 (.call (.f 102) [(.t 19), (.t 22)]),
   o 5 8 (.mv (.t 23)),
   o 6 9 (.mv (.c (.bool true)))])
 (.ret))))⟩
theorem c254 : cFn Tryz.prog Tryz.f254 = some i254 := by kernel_rfl
/-- burnish/intn.Shl$1 -/
def i255 : FnI := ⟨[.tmp 3],
 .seq (.region 0 [o 0 3 (.mv (.c (.int .i64 0)))])
 (.seq (.region 0 [o 0 4 (.load false 1 (.t 1)),
   o 1 5 (.mv (.t 0)),
   o 2 6 (.bin .shl (.lf .i) (.t 4) (.t 5)),
   o 3 3 (.mv (.t 6))])
 (.ret))⟩
theorem c255 : cFn Tryz.prog Tryz.f255 = some i255 := by kernel_rfl
/-- burnish/intn.Lshr$1 -/
def i256 : FnI := ⟨[.tmp 4],
 .seq (.region 0 [o 0 4 (.mv (.c (.int .i64 0)))])
 (.seq (.region 0 [o 0 5 (.load false 1 (.t 1)),
   o 1 6 (.load false 1 (.t 2)),
   o 2 7 (.call (.f 139) [(.t 5), (.t 6)]),
   o 3 8 (.mv (.t 0)),
   o 4 9 (.bin .shr (.lf .i) (.t 7) (.t 8)),
   o 5 10 (.conv .i64 (.t 9)),
   o 6 4 (.mv (.t 10))])
 (.ret))⟩
theorem c256 : cFn Tryz.prog Tryz.f256 = some i256 := by kernel_rfl
/-- burnish/intn.Ashr$1 -/
def i257 : FnI := ⟨[.tmp 4],
 .seq (.region 0 [o 0 4 (.mv (.c (.int .i64 0)))])
 (.seq (.region 0 [o 0 5 (.load false 1 (.t 1)),
   o 1 6 (.load false 1 (.t 2)),
   o 2 7 (.bin .sub (.lf .i) (.c (.int .i64 64)) (.t 6)),
   o 3 8 (.bin .shl (.lf .i) (.t 5) (.t 7)),
   o 4 9 (.load false 1 (.t 2)),
   o 5 10 (.bin .sub (.lf .i) (.c (.int .i64 64)) (.t 9)),
   o 6 11 (.bin .shr (.lf .i) (.t 8) (.t 10)),
   o 7 12 (.mv (.t 0)),
   o 8 13 (.bin .shr (.lf .i) (.t 11) (.t 12)),
   o 9 4 (.mv (.t 13))])
 (.ret))⟩
theorem c257 : cFn Tryz.prog Tryz.f257 = some i257 := by kernel_rfl
/-- internal/strconv.log10Pow2 -/
def i258 : FnI := ⟨[.tmp 2],
 .seq (.region 0 [o 0 2 (.mv (.c (.int .i64 0)))])
 (.seq (.region 0 [o 0 3 (.mv (.t 0)),
   o 1 4 (.bin .mul (.lf .i) (.t 3) (.c (.int .i64 78913))),
   o 2 5 (.bin .shr (.lf .i) (.t 4) (.c (.int .u64 18))),
   o 3 2 (.mv (.t 5))])
 (.ret))⟩
theorem c258 : cFn Tryz.prog Tryz.f258 = some i258 := by kernel_rfl
/-- internal/strconv.bool2[int] -/
def i259 : FnI := ⟨[.tmp 2],
 .seq (.region 0 [o 0 2 (.mv (.c (.int .i64 0)))])
 (.seq (.seq (.region 0 [o 0 3 (.mv (.t 0))])
 (.cond (.t 3)
  (.seq (.region 0 [o 0 2 (.mv (.c (.int .i64 1)))])
  (.ret))
  (.skip)))
 (.seq (.region 0 [o 0 2 (.mv (.c (.int .i64 0)))])
 (.ret)))⟩
theorem c259 : cFn Tryz.prog Tryz.f259 = some i259 := by kernel_rfl
/-- internal/strconv.isPowerOfTwo -/
def i260 : FnI := ⟨[.tmp 2],
 .seq (.region 0 [o 0 2 (.mv (.c (.bool false)))])
 (.seq (.region 0 [o 0 3 (.mv (.t 0)),
   o 1 4 (.mv (.t 0)),
   o 2 5 (.bin .sub (.lf .i) (.t 4) (.c (.int .i64 1))),
   o 3 6 (.bin .and (.lf .i) (.t 3) (.t 5)),
   o 4 7 (.bin .eql (.lf .i) (.t 6) (.c (.int .i64 0))),
   o 5 2 (.mv (.t 7))])
 (.ret))⟩
theorem c260 : cFn Tryz.prog Tryz.f260 = some i260 := by kernel_rfl
/-- math/bits.TrailingZeros -/
def i261 : FnI := ⟨[.tmp 2],
 .seq (.region 0 [o 0 2 (.mv (.c (.int .i64 0)))])
 (.seq (.cond (.c (.bool false))
  (.seq (.region 0 [o 0 3 (.mv (.t 0)),
    o 1 4 (.conv .u32 (.t 3)),
    o 2 5 (.call (.f 268) [(.t 4)]),
    o 3 2 (.mv (.t 5))])
  (.ret))
  (.skip))
 (.seq (.region 0 [o 0 6 (.mv (.t 0)),
   o 1 7 (.call (.f 269) [(.t 6)]),
   o 2 2 (.mv (.t 7))])
 (.ret)))⟩
theorem c261 : cFn Tryz.prog Tryz.f261 = some i261 := by kernel_rfl
def i262l0 : Cd :=
  .block 1 (.seq (.region 0 [o 0 13 (.mv (.t 10)),
     o 1 14 (.bin .mul (.lf .i) (.c (.int .i64 2)) (.t 13)),
     o 2 15 (.bin .add (.lf .i) (.t 14) (.c (.int .i64 1))),
     o 3 11 (.mv (.t 15))])
   (.seq (.seq (.region 0 [o 0 16 (.mv (.t 11)),
     o 1 17 (.mv (.t 2)),
     o 2 18 (.bin .geq (.lf .i) (.t 16) (.t 17))])
   (.cond (.t 18)
    (.exit 0)
    (.skip)))
   (.seq (.seq (.region 0 [o 0 19 (.mv (.t 11)),
     o 1 20 (.bin .add (.lf .i) (.t 19) (.c (.int .i64 1))),
     o 2 21 (.mv (.t 2)),
     o 3 22 (.bin .lss (.lf .i) (.t 20) (.t 21)),
     o 4 23 (.mv (.t 22)),
     og 5 24 23 true (.mv (.t 4)),
     og 6 25 23 true (.mv (.t 0)),
     og 7 26 23 true (.mv (.t 3)),
     og 8 27 23 true (.mv (.t 11)),
     og 9 28 23 true (.bin .add (.lf .i) (.t 26) (.t 27)),
     og 10 29 23 true (.iaddr 2 (.t 25) (.t 28)),
     og 11 30 23 true (.load true 2 (.t 29)),
     og 12 31 23 true (.mv (.t 0)),
     og 13 32 23 true (.mv (.t 3)),
     og 14 33 23 true (.mv (.t 11)),
     og 15 34 23 true (.bin .add (.lf .i) (.t 32) (.t 33)),
     og 16 35 23 true (.bin .add (.lf .i) (.t 34) (.c (.int .i64 1))),
     og 17 36 23 true (.iaddr 2 (.t 31) (.t 35)),
     og 18 37 23 true (.load true 2 (.t 36)),
     og 19 38 23 true (.call (.t 24) [(.t 30), (.t 37)]),
     og 20 39 23 true (.bin .lss (.lf .i) (.t 38) (.c (.int .i64 0))),
     o 21 40 (.pick (.t 23) (.t 39) (.c (.bool false)))])
   (.cond (.t 40)
    (.region 0 [o 0 41 (.mv (.t 11)),
      o 1 42 (.bin .add (.lf .i) (.t 41) (.c (.int .i64 1))),
      o 2 11 (.mv (.t 42))])
    (.skip)))
   (.seq (.seq (.region 0 [o 0 43 (.mv (.t 4)),
     o 1 44 (.mv (.t 0)),
     o 2 45 (.mv (.t 3)),
     o 3 46 (.mv (.t 10)),
     o 4 47 (.bin .add (.lf .i) (.t 45) (.t 46)),
     o 5 48 (.iaddr 2 (.t 44) (.t 47)),
     o 6 49 (.load true 2 (.t 48)),
     o 7 50 (.mv (.t 0)),
     o 8 51 (.mv (.t 3)),
     o 9 52 (.mv (.t 11)),
     o 10 53 (.bin .add (.lf .i) (.t 51) (.t 52)),
     o 11 54 (.iaddr 2 (.t 50) (.t 53)),
     o 12 55 (.load true 2 (.t 54)),
     o 13 56 (.call (.t 43) [(.t 49), (.t 55)]),
     o 14 57 (.bin .lss (.lf .i) (.t 56) (.c (.int .i64 0))),
     o 15 58 (.un .not (.t 57))])
   (.cond (.t 58)
    (.ret)
    (.skip)))
   (.seq (.region 0 [o 8 67 (.mv (.t 0)),
     o 9 68 (.mv (.t 3)),
     o 10 69 (.mv (.t 11)),
     o 11 70 (.bin .add (.lf .i) (.t 68) (.t 69)),
     o 12 71 (.iaddr 2 (.t 67) (.t 70)),
     o 13 72 (.load true 2 (.t 71)),
     o 14 73 (.mv (.t 0)),
     o 15 74 (.mv (.t 3)),
     o 16 75 (.mv (.t 10)),
     o 17 76 (.bin .add (.lf .i) (.t 74) (.t 75)),
     o 18 77 (.iaddr 2 (.t 73) (.t 76)),
     o 19 78 (.load true 2 (.t 77)),
     o 0 59 (.mv (.t 0)),
     o 1 60 (.mv (.t 3)),
     o 2 61 (.mv (.t 10)),
     o 3 62 (.bin .add (.lf .i) (.t 60) (.t 61)),
     o 20 79 (.iaddr 2 (.t 59) (.t 62)),
     ox 21 (.store 2 (.t 79) (.t 72)),
     o 4 63 (.mv (.t 0)),
     o 5 64 (.mv (.t 3)),
     o 6 65 (.mv (.t 11)),
     o 7 66 (.bin .add (.lf .i) (.t 64) (.t 65)),
     o 22 80 (.iaddr 2 (.t 63) (.t 66)),
     ox 23 (.store 2 (.t 80) (.t 78))])
   (.region 0 [o 0 81 (.mv (.t 11)),
     o 1 10 (.mv (.t 81))]))))))
/-- slices.siftDownCmpFunc[burnish/term.mono] -/
def i262 : FnI := ⟨[],
 .seq (.region 0 [o 0 12 (.mv (.t 1)),
   o 1 10 (.mv (.t 12))])
 (.block 0 (.loop i262l0))⟩
theorem c262 : cFn Tryz.prog Tryz.f262 = some i262 := by kernel_rfl
/-- slices.medianAdjacentCmpFunc[burnish/term.mono] -/
def i263 : FnI := ⟨[.tmp 8],
 .seq (.region 0 [o 0 8 (.mv (.c (.int .i64 0)))])
 (.seq (.region 0 [o 0 9 (.mv (.t 0)),
   o 1 10 (.mv (.t 1)),
   o 2 11 (.bin .sub (.lf .i) (.t 10) (.c (.int .i64 1))),
   o 3 12 (.mv (.t 1)),
   o 4 13 (.mv (.t 1)),
   o 5 14 (.bin .add (.lf .i) (.t 13) (.c (.int .i64 1))),
   o 6 15 (.mv (.t 2)),
   o 7 16 (.mv (.t 3)),
   o 8 17 (.call (.f 264) [(.t 9), (.t 11), (.t 12), (.t 14), (.t 15), (.t 16)]),
   o 9 8 (.mv (.t 17))])
 (.ret))⟩
theorem c263 : cFn Tryz.prog Tryz.f263 = some i263 := by kernel_rfl
/-- slices.medianCmpFunc[burnish/term.mono] -/
def i264 : FnI := ⟨[.tmp 12],
 .seq (.region 0 [o 0 12 (.mv (.c (.int .i64 0)))])
 (.seq (.region 0 [o 0 14 (.mv (.t 0)),
   o 1 15 (.mv (.t 1)),
   o 2 16 (.mv (.t 2)),
   o 3 17 (.mv (.t 4)),
   o 4 18 (.mv (.t 5)),
   o 5 19 (.call (.f 270) [(.t 14), (.t 15), (.t 16), (.t 17), (.t 18)]),
   o 6 13 (.mv (.t 19)),
   o 7 20 (.ext 0 (.t 13)),
   o 8 21 (.ext 1 (.t 13)),
   o 9 1 (.mv (.t 20)),
   o 10 2 (.mv (.t 21))])
 (.seq (.region 0 [o 0 23 (.mv (.t 0)),
   o 1 24 (.mv (.t 2)),
   o 2 25 (.mv (.t 3)),
   o 3 26 (.mv (.t 4)),
   o 4 27 (.mv (.t 5)),
   o 5 28 (.call (.f 270) [(.t 23), (.t 24), (.t 25), (.t 26), (.t 27)]),
   o 6 22 (.mv (.t 28)),
   o 7 29 (.ext 0 (.t 22)),
   o 8 30 (.ext 1 (.t 22)),
   o 9 2 (.mv (.t 29)),
   o 10 3 (.mv (.t 30))])
 (.seq (.region 0 [o 0 32 (.mv (.t 0)),
   o 1 33 (.mv (.t 1)),
   o 2 34 (.mv (.t 2)),
   o 3 35 (.mv (.t 4)),
   o 4 36 (.mv (.t 5)),
   o 5 37 (.call (.f 270) [(.t 32), (.t 33), (.t 34), (.t 35), (.t 36)]),
   o 6 31 (.mv (.t 37)),
   o 7 38 (.ext 0 (.t 31)),
   o 8 39 (.ext 1 (.t 31)),
   o 9 1 (.mv (.t 38)),
   o 10 2 (.mv (.t 39))])
 (.seq (.region 0 [o 0 40 (.mv (.t 2)),
   o 1 12 (.mv (.t 40))])
 (.ret)))))⟩
theorem c264 : cFn Tryz.prog Tryz.f264 = some i264 := by kernel_rfl
/-- math/bits.TrailingZeros32 -/
def i268 : FnI := ⟨[.tmp 2],
 .seq (.region 0 [o 0 2 (.mv (.c (.int .i64 0)))])
 (.seq (.seq (.region 0 [o 0 3 (.mv (.t 0)),
   o 1 4 (.bin .eql (.lf .i) (.t 3) (.c (.int .u32 0)))])
 (.cond (.t 4)
  (.seq (.region 0 [o 0 2 (.mv (.c (.int .i64 32)))])
  (.ret))
  (.skip)))
 (.seq (.region 0 [o 0 5 (.mv (.t 0)),
   o 1 6 (.mv (.t 0)),
   o 2 7 (.un .neg (.t 6)),
   o 3 8 (.bin .and (.lf .i) (.t 5) (.t 7)),
   o 4 9 (.bin .mul (.lf .i) (.t 8) (.c (.int .u32 125613361))),
   o 5 10 (.bin .shr (.lf .i) (.t 9) (.c (.int .u64 27))),
   o 6 11 (.aaddr 32 1 (.gl 2) (.t 10)),
   o 7 12 (.load false 1 (.t 11)),
   o 8 13 (.conv .i64 (.t 12)),
   o 9 2 (.mv (.t 13))])
 (.ret)))⟩
theorem c268 : cFn Tryz.prog Tryz.f268 = some i268 := by kernel_rfl
/-- math/bits.TrailingZeros64 -/
def i269 : FnI := ⟨[.tmp 2],
 .seq (.region 0 [o 0 2 (.mv (.c (.int .i64 0)))])
 (.seq (.seq (.region 0 [o 0 3 (.mv (.t 0)),
   o 1 4 (.bin .eql (.lf .i) (.t 3) (.c (.int .u64 0)))])
 (.cond (.t 4)
  (.seq (.region 0 [o 0 2 (.mv (.c (.int .i64 64)))])
  (.ret))
  (.skip)))
 (.seq (.region 0 [o 0 5 (.mv (.t 0)),
   o 1 6 (.mv (.t 0)),
   o 2 7 (.un .neg (.t 6)),
   o 3 8 (.bin .and (.lf .i) (.t 5) (.t 7)),
   o 4 9 (.bin .mul (.lf .i) (.t 8) (.c (.int .u64 285870213051353865))),
   o 5 10 (.bin .shr (.lf .i) (.t 9) (.c (.int .u64 58))),
   o 6 11 (.aaddr 64 1 (.gl 3) (.t 10)),
   o 7 12 (.load false 1 (.t 11)),
   o 8 13 (.conv .i64 (.t 12)),
   o 9 2 (.mv (.t 13))])
 (.ret)))⟩
theorem c269 : cFn Tryz.prog Tryz.f269 = some i269 := by kernel_rfl
/-- slices.order2CmpFunc[burnish/term.mono] -/
def i270 : FnI := ⟨[.tmp 10, .tmp 11],
 .seq (.region 0 [o 0 10 (.mv (.c (.int .i64 0))),
   o 1 11 (.mv (.c (.int .i64 0)))])
 (.seq (.seq (.region 0 [o 0 12 (.mv (.t 4)),
   o 1 13 (.mv (.t 0)),
   o 2 14 (.mv (.t 2)),
   o 3 15 (.iaddr 2 (.t 13) (.t 14)),
   o 4 16 (.load true 2 (.t 15)),
   o 5 17 (.mv (.t 0)),
   o 6 18 (.mv (.t 1)),
   o 7 19 (.iaddr 2 (.t 17) (.t 18)),
   o 8 20 (.load true 2 (.t 19)),
   o 9 21 (.call (.t 12) [(.t 16), (.t 20)]),
   o 10 22 (.bin .lss (.lf .i) (.t 21) (.c (.int .i64 0)))])
 (.cond (.t 22)
  (.seq (.region 0 [o 0 23 (.mv (.t 3)),
    o 1 24 (.nilchk (.t 23)),
    o 2 25 (.load false 1 (.t 24)),
    o 3 26 (.bin .add (.lf .i) (.t 25) (.c (.int .i64 1))),
    o 4 27 (.nilchk (.t 23)),
    ox 5 (.store 1 (.t 27) (.t 26))])
  (.seq (.region 0 [o 0 28 (.mv (.t 2)),
    o 1 29 (.mv (.t 1)),
    o 2 10 (.mv (.t 28)),
    o 3 11 (.mv (.t 29))])
  (.ret)))
  (.skip)))
 (.seq (.region 0 [o 0 30 (.mv (.t 1)),
   o 1 31 (.mv (.t 2)),
   o 2 10 (.mv (.t 30)),
   o 3 11 (.mv (.t 31))])
 (.ret)))⟩
theorem c270 : cFn Tryz.prog Tryz.f270 = some i270 := by kernel_rfl

def Γt : Tr FnI := (.node none (.node none (.node none (.node none (.node (some i15) (.node none (.node none (.node (some i127) (.node (some i255) .nil .nil) .nil) (.node (some i191) .nil .nil)) (.node none .nil (.node (some i223) .nil .nil))) (.node none (.node (some i79) (.node (some i143) .nil .nil) (.node (some i207) .nil .nil)) (.node none .nil (.node (some i239) .nil .nil)))) (.node (some i23) (.node (some i39) (.node none (.node (some i135) (.node (some i263) .nil .nil) .nil) .nil) (.node (some i103) .nil (.node (some i231) .nil .nil))) (.node (some i55) (.node (some i87) (.node (some i151) .nil .nil) .nil) (.node none (.node (some i183) .nil .nil) .nil)))) (.node none (.node none (.node none (.node none (.node (some i131) (.node (some i259) .nil .nil) .nil) (.node (some i195) .nil .nil)) (.node none (.node (some i163) .nil .nil) (.node (some i227) .nil .nil))) (.node (some i51) (.node (some i83) (.node (some i147) .nil .nil) .nil) (.node none (.node (some i179) .nil .nil) (.node (some i243) .nil .nil)))) (.node none (.node (some i43) (.node (some i75) (.node (some i139) .nil .nil) .nil) (.node (some i107) .nil .nil)) (.node (some i59) (.node none .nil (.node (some i219) .nil .nil)) (.node (some i123) (.node (some i187) .nil .nil) .nil))))) (.node (some i5) (.node (some i9) (.node (some i17) (.node none (.node none (.node (some i129) (.node (some i257) .nil .nil) .nil) (.node (some i193) .nil .nil)) (.node none (.node (some i161) .nil .nil) (.node (some i225) .nil .nil))) (.node none (.node (some i81) (.node (some i145) .nil .nil) (.node (some i209) .nil .nil)) (.node none .nil (.node (some i241) .nil .nil)))) (.node (some i25) (.node (some i41) (.node none (.node (some i137) .nil .nil) .nil) (.node (some i105) .nil (.node (some i233) .nil .nil))) (.node (some i57) (.node (some i89) (.node (some i153) .nil .nil) .nil) (.node none (.node (some i185) .nil .nil) .nil)))) (.node (some i13) (.node (some i21) (.node (some i37) (.node none (.node (some i133) (.node (some i261) .nil .nil) .nil) .nil) (.node none (.node (some i165) .nil .nil) (.node (some i229) .nil .nil))) (.node (some i53) (.node (some i85) (.node (some i149) .nil .nil) .nil) (.node none (.node (some i181) .nil .nil) .nil))) (.node none (.node (some i45) (.node (some i77) (.node (some i141) (.node (some i269) .nil .nil) .nil) .nil) (.node none .nil (.node (some i237) .nil .nil))) (.node (some i61) (.node none .nil (.node (some i221) .nil .nil)) (.node (some i125) (.node (some i189) .nil .nil) .nil)))))) (.node none (.node none (.node none (.node (some i16) (.node none (.node none (.node (some i128) (.node (some i256) .nil .nil) .nil) (.node (some i192) .nil .nil)) (.node none .nil (.node (some i224) .nil .nil))) (.node none (.node (some i80) (.node (some i144) .nil .nil) (.node (some i208) .nil .nil)) (.node none .nil (.node (some i240) .nil .nil)))) (.node (some i24) (.node (some i40) (.node none (.node (some i136) (.node (some i264) .nil .nil) .nil) .nil) (.node (some i104) .nil (.node (some i232) .nil .nil))) (.node (some i56) (.node (some i88) (.node (some i152) .nil .nil) .nil) (.node none (.node (some i184) .nil .nil) .nil)))) (.node (some i12) (.node (some i20) (.node (some i36) (.node none (.node (some i132) (.node (some i260) .nil .nil) .nil) (.node (some i196) .nil .nil)) (.node none (.node (some i164) .nil .nil) (.node (some i228) .nil .nil))) (.node (some i52) (.node (some i84) (.node (some i148) .nil .nil) .nil) (.node none (.node (some i180) .nil .nil) .nil))) (.node none (.node (some i44) (.node (some i76) (.node (some i140) (.node (some i268) .nil .nil) .nil) .nil) (.node (some i108) .nil (.node (some i236) .nil .nil))) (.node (some i60) (.node none .nil (.node (some i220) .nil .nil)) (.node (some i124) (.node (some i188) .nil .nil) .nil))))) (.node none (.node (some i10) (.node none (.node (some i34) (.node none (.node (some i130) (.node (some i258) .nil .nil) .nil) (.node (some i194) .nil .nil)) (.node none (.node (some i162) .nil .nil) (.node (some i226) .nil .nil))) (.node none (.node (some i82) (.node (some i146) .nil .nil) (.node (some i210) .nil .nil)) (.node none .nil (.node (some i242) .nil .nil)))) (.node (some i26) (.node (some i42) (.node (some i74) (.node (some i138) .nil .nil) .nil) (.node (some i106) .nil .nil)) (.node (some i58) .nil (.node (some i122) (.node (some i186) .nil .nil) .nil)))) (.node (some i14) (.node none (.node (some i38) (.node none (.node (some i134) (.node (some i262) .nil .nil) .nil) .nil) (.node (some i102) (.node (some i166) .nil .nil) (.node (some i230) .nil .nil))) (.node (some i54) (.node (some i86) (.node (some i150) .nil .nil) .nil) (.node none (.node (some i182) .nil .nil) .nil))) (.node none (.node (some i46) (.node (some i78) (.node (some i142) (.node (some i270) .nil .nil) .nil) .nil) (.node none .nil (.node (some i238) .nil .nil))) (.node none (.node none .nil (.node (some i222) .nil .nil)) (.node (some i126) (.node (some i190) .nil .nil) (.node (some i254) .nil .nil))))))))
def Γ : Nat → Option FnI := fun f => Γt.get f

theorem tab : TabOk Tryz.prog Γ := fun f F h => AllT.at (Q := fun f F => ∃ fn, Tryz.prog.funcs[f]? = some fn ∧ cFn Tryz.prog fn = some F) (t := Γt) (φ := fun n => n)
  ⟨(fun _ h => by cases h), ⟨(fun _ h => by cases h), ⟨(fun _ h => by cases h), ⟨(fun _ h => by cases h), ⟨(fun _ h => by cases h; exact ⟨_, Tryz.func15, c15⟩), ⟨(fun _ h => by cases h), ⟨(fun _ h => by cases h), ⟨(fun _ h => by cases h; exact ⟨_, Tryz.func127, c127⟩), ⟨(fun _ h => by cases h; exact ⟨_, Tryz.func255, c255⟩), trivial, trivial⟩, trivial⟩, ⟨(fun _ h => by cases h; exact ⟨_, Tryz.func191, c191⟩), trivial, trivial⟩⟩, ⟨(fun _ h => by cases h), trivial, ⟨(fun _ h => by cases h; exact ⟨_, Tryz.func223, c223⟩), trivial, trivial⟩⟩⟩, ⟨(fun _ h => by cases h), ⟨(fun _ h => by cases h; exact ⟨_, Tryz.func79, c79⟩), ⟨(fun _ h => by cases h; exact ⟨_, Tryz.func143, c143⟩), trivial, trivial⟩, ⟨(fun _ h => by cases h; exact ⟨_, Tryz.func207, c207⟩), trivial, trivial⟩⟩, ⟨(fun _ h => by cases h), trivial, ⟨(fun _ h => by cases h; exact ⟨_, Tryz.func239, c239⟩), trivial, trivial⟩⟩⟩⟩, ⟨(fun _ h => by cases h; exact ⟨_, Tryz.func23, c23⟩), ⟨(fun _ h => by cases h; exact ⟨_, Tryz.func39, c39⟩), ⟨(fun _ h => by cases h), ⟨(fun _ h => by cases h; exact ⟨_, Tryz.func135, c135⟩), ⟨(fun _ h => by cases h; exact ⟨_, Tryz.func263, c263⟩), trivial, trivial⟩, trivial⟩, trivial⟩, ⟨(fun _ h => by cases h; exact ⟨_, Tryz.func103, c103⟩), trivial, ⟨(fun _ h => by cases h; exact ⟨_, Tryz.func231, c231⟩), trivial, trivial⟩⟩⟩, ⟨(fun _ h => by cases h; exact ⟨_, Tryz.func55, c55⟩), ⟨(fun _ h => by cases h; exact ⟨_, Tryz.func87, c87⟩), ⟨(fun _ h => by cases h; exact ⟨_, Tryz.func151, c151⟩), trivial, trivial⟩, trivial⟩, ⟨(fun _ h => by cases h), ⟨(fun _ h => by cases h; exact ⟨_, Tryz.func183, c183⟩), trivial, trivial⟩, trivial⟩⟩⟩⟩, ⟨(fun _ h => by cases h), ⟨(fun _ h => by cases h), ⟨(fun _ h => by cases h), ⟨(fun _ h => by cases h), ⟨(fun _ h => by cases h; exact ⟨_, Tryz.func131, c131⟩), ⟨(fun _ h => by cases h; exact ⟨_, Tryz.func259, c259⟩), trivial, trivial⟩, trivial⟩, ⟨(fun _ h => by cases h; exact ⟨_, Tryz.func195, c195⟩), trivial, trivial⟩⟩, ⟨(fun _ h => by cases h), ⟨(fun _ h => by cases h; exact ⟨_, Tryz.func163, c163⟩), trivial, trivial⟩, ⟨(fun _ h => by cases h; exact ⟨_, Tryz.func227, c227⟩), trivial, trivial⟩⟩⟩, ⟨(fun _ h => by cases h; exact ⟨_, Tryz.func51, c51⟩), ⟨(fun _ h => by cases h; exact ⟨_, Tryz.func83, c83⟩), ⟨(fun _ h => by cases h; exact ⟨_, Tryz.func147, c147⟩), trivial, trivial⟩, trivial⟩, ⟨(fun _ h => by cases h), ⟨(fun _ h => by cases h; exact ⟨_, Tryz.func179, c179⟩), trivial, trivial⟩, ⟨(fun _ h => by cases h; exact ⟨_, Tryz.func243, c243⟩), trivial, trivial⟩⟩⟩⟩, ⟨(fun _ h => by cases h), ⟨(fun _ h => by cases h; exact ⟨_, Tryz.func43, c43⟩), ⟨(fun _ h => by cases h; exact ⟨_, Tryz.func75, c75⟩), ⟨(fun _ h => by cases h; exact ⟨_, Tryz.func139, c139⟩), trivial, trivial⟩, trivial⟩, ⟨(fun _ h => by cases h; exact ⟨_, Tryz.func107, c107⟩), trivial, trivial⟩⟩, ⟨(fun _ h => by cases h; exact ⟨_, Tryz.func59, c59⟩), ⟨(fun _ h => by cases h), trivial, ⟨(fun _ h => by cases h; exact ⟨_, Tryz.func219, c219⟩), trivial, trivial⟩⟩, ⟨(fun _ h => by cases h; exact ⟨_, Tryz.func123, c123⟩), ⟨(fun _ h => by cases h; exact ⟨_, Tryz.func187, c187⟩), trivial, trivial⟩, trivial⟩⟩⟩⟩⟩, ⟨(fun _ h => by cases h; exact ⟨_, Tryz.func5, c5⟩), ⟨(fun _ h => by cases h; exact ⟨_, Tryz.func9, c9⟩), ⟨(fun _ h => by cases h; exact ⟨_, Tryz.func17, c17⟩), ⟨(fun _ h => by cases h), ⟨(fun _ h => by cases h), ⟨(fun _ h => by cases h; exact ⟨_, Tryz.func129, c129⟩), ⟨(fun _ h => by cases h; exact ⟨_, Tryz.func257, c257⟩), trivial, trivial⟩, trivial⟩, ⟨(fun _ h => by cases h; exact ⟨_, Tryz.func193, c193⟩), trivial, trivial⟩⟩, ⟨(fun _ h => by cases h), ⟨(fun _ h => by cases h; exact ⟨_, Tryz.func161, c161⟩), trivial, trivial⟩, ⟨(fun _ h => by cases h; exact ⟨_, Tryz.func225, c225⟩), trivial, trivial⟩⟩⟩, ⟨(fun _ h => by cases h), ⟨(fun _ h => by cases h; exact ⟨_, Tryz.func81, c81⟩), ⟨(fun _ h => by cases h; exact ⟨_, Tryz.func145, c145⟩), trivial, trivial⟩, ⟨(fun _ h => by cases h; exact ⟨_, Tryz.func209, c209⟩), trivial, trivial⟩⟩, ⟨(fun _ h => by cases h), trivial, ⟨(fun _ h => by cases h; exact ⟨_, Tryz.func241, c241⟩), trivial, trivial⟩⟩⟩⟩, ⟨(fun _ h => by cases h; exact ⟨_, Tryz.func25, c25⟩), ⟨(fun _ h => by cases h; exact ⟨_, Tryz.func41, c41⟩), ⟨(fun _ h => by cases h), ⟨(fun _ h => by cases h; exact ⟨_, Tryz.func137, c137⟩), trivial, trivial⟩, trivial⟩, ⟨(fun _ h => by cases h; exact ⟨_, Tryz.func105, c105⟩), trivial, ⟨(fun _ h => by cases h; exact ⟨_, Tryz.func233, c233⟩), trivial, trivial⟩⟩⟩, ⟨(fun _ h => by cases h; exact ⟨_, Tryz.func57, c57⟩), ⟨(fun _ h => by cases h; exact ⟨_, Tryz.func89, c89⟩), ⟨(fun _ h => by cases h; exact ⟨_, Tryz.func153, c153⟩), trivial, trivial⟩, trivial⟩, ⟨(fun _ h => by cases h), ⟨(fun _ h => by cases h; exact ⟨_, Tryz.func185, c185⟩), trivial, trivial⟩, trivial⟩⟩⟩⟩, ⟨(fun _ h => by cases h; exact ⟨_, Tryz.func13, c13⟩), ⟨(fun _ h => by cases h; exact ⟨_, Tryz.func21, c21⟩), ⟨(fun _ h => by cases h; exact ⟨_, Tryz.func37, c37⟩), ⟨(fun _ h => by cases h), ⟨(fun _ h => by cases h; exact ⟨_, Tryz.func133, c133⟩), ⟨(fun _ h => by cases h; exact ⟨_, Tryz.func261, c261⟩), trivial, trivial⟩, trivial⟩, trivial⟩, ⟨(fun _ h => by cases h), ⟨(fun _ h => by cases h; exact ⟨_, Tryz.func165, c165⟩), trivial, trivial⟩, ⟨(fun _ h => by cases h; exact ⟨_, Tryz.func229, c229⟩), trivial, trivial⟩⟩⟩, ⟨(fun _ h => by cases h; exact ⟨_, Tryz.func53, c53⟩), ⟨(fun _ h => by cases h; exact ⟨_, Tryz.func85, c85⟩), ⟨(fun _ h => by cases h; exact ⟨_, Tryz.func149, c149⟩), trivial, trivial⟩, trivial⟩, ⟨(fun _ h => by cases h), ⟨(fun _ h => by cases h; exact ⟨_, Tryz.func181, c181⟩), trivial, trivial⟩, trivial⟩⟩⟩, ⟨(fun _ h => by cases h), ⟨(fun _ h => by cases h; exact ⟨_, Tryz.func45, c45⟩), ⟨(fun _ h => by cases h; exact ⟨_, Tryz.func77, c77⟩), ⟨(fun _ h => by cases h; exact ⟨_, Tryz.func141, c141⟩), ⟨(fun _ h => by cases h; exact ⟨_, Tryz.func269, c269⟩), trivial, trivial⟩, trivial⟩, trivial⟩, ⟨(fun _ h => by cases h), trivial, ⟨(fun _ h => by cases h; exact ⟨_, Tryz.func237, c237⟩), trivial, trivial⟩⟩⟩, ⟨(fun _ h => by cases h; exact ⟨_, Tryz.func61, c61⟩), ⟨(fun _ h => by cases h), trivial, ⟨(fun _ h => by cases h; exact ⟨_, Tryz.func221, c221⟩), trivial, trivial⟩⟩, ⟨(fun _ h => by cases h; exact ⟨_, Tryz.func125, c125⟩), ⟨(fun _ h => by cases h; exact ⟨_, Tryz.func189, c189⟩), trivial, trivial⟩, trivial⟩⟩⟩⟩⟩⟩, ⟨(fun _ h => by cases h), ⟨(fun _ h => by cases h), ⟨(fun _ h => by cases h), ⟨(fun _ h => by cases h; exact ⟨_, Tryz.func16, c16⟩), ⟨(fun _ h => by cases h), ⟨(fun _ h => by cases h), ⟨(fun _ h => by cases h; exact ⟨_, Tryz.func128, c128⟩), ⟨(fun _ h => by cases h; exact ⟨_, Tryz.func256, c256⟩), trivial, trivial⟩, trivial⟩, ⟨(fun _ h => by cases h; exact ⟨_, Tryz.func192, c192⟩), trivial, trivial⟩⟩, ⟨(fun _ h => by cases h), trivial, ⟨(fun _ h => by cases h; exact ⟨_, Tryz.func224, c224⟩), trivial, trivial⟩⟩⟩, ⟨(fun _ h => by cases h), ⟨(fun _ h => by cases h; exact ⟨_, Tryz.func80, c80⟩), ⟨(fun _ h => by cases h; exact ⟨_, Tryz.func144, c144⟩), trivial, trivial⟩, ⟨(fun _ h => by cases h; exact ⟨_, Tryz.func208, c208⟩), trivial, trivial⟩⟩, ⟨(fun _ h => by cases h), trivial, ⟨(fun _ h => by cases h; exact ⟨_, Tryz.func240, c240⟩), trivial, trivial⟩⟩⟩⟩, ⟨(fun _ h => by cases h; exact ⟨_, Tryz.func24, c24⟩), ⟨(fun _ h => by cases h; exact ⟨_, Tryz.func40, c40⟩), ⟨(fun _ h => by cases h), ⟨(fun _ h => by cases h; exact ⟨_, Tryz.func136, c136⟩), ⟨(fun _ h => by cases h; exact ⟨_, Tryz.func264, c264⟩), trivial, trivial⟩, trivial⟩, trivial⟩, ⟨(fun _ h => by cases h; exact ⟨_, Tryz.func104, c104⟩), trivial, ⟨(fun _ h => by cases h; exact ⟨_, Tryz.func232, c232⟩), trivial, trivial⟩⟩⟩, ⟨(fun _ h => by cases h; exact ⟨_, Tryz.func56, c56⟩), ⟨(fun _ h => by cases h; exact ⟨_, Tryz.func88, c88⟩), ⟨(fun _ h => by cases h; exact ⟨_, Tryz.func152, c152⟩), trivial, trivial⟩, trivial⟩, ⟨(fun _ h => by cases h), ⟨(fun _ h => by cases h; exact ⟨_, Tryz.func184, c184⟩), trivial, trivial⟩, trivial⟩⟩⟩⟩, ⟨(fun _ h => by cases h; exact ⟨_, Tryz.func12, c12⟩), ⟨(fun _ h => by cases h; exact ⟨_, Tryz.func20, c20⟩), ⟨(fun _ h => by cases h; exact ⟨_, Tryz.func36, c36⟩), ⟨(fun _ h => by cases h), ⟨(fun _ h => by cases h; exact ⟨_, Tryz.func132, c132⟩), ⟨(fun _ h => by cases h; exact ⟨_, Tryz.func260, c260⟩), trivial, trivial⟩, trivial⟩, ⟨(fun _ h => by cases h; exact ⟨_, Tryz.func196, c196⟩), trivial, trivial⟩⟩, ⟨(fun _ h => by cases h), ⟨(fun _ h => by cases h; exact ⟨_, Tryz.func164, c164⟩), trivial, trivial⟩, ⟨(fun _ h => by cases h; exact ⟨_, Tryz.func228, c228⟩), trivial, trivial⟩⟩⟩, ⟨(fun _ h => by cases h; exact ⟨_, Tryz.func52, c52⟩), ⟨(fun _ h => by cases h; exact ⟨_, Tryz.func84, c84⟩), ⟨(fun _ h => by cases h; exact ⟨_, Tryz.func148, c148⟩), trivial, trivial⟩, trivial⟩, ⟨(fun _ h => by cases h), ⟨(fun _ h => by cases h; exact ⟨_, Tryz.func180, c180⟩), trivial, trivial⟩, trivial⟩⟩⟩, ⟨(fun _ h => by cases h), ⟨(fun _ h => by cases h; exact ⟨_, Tryz.func44, c44⟩), ⟨(fun _ h => by cases h; exact ⟨_, Tryz.func76, c76⟩), ⟨(fun _ h => by cases h; exact ⟨_, Tryz.func140, c140⟩), ⟨(fun _ h => by cases h; exact ⟨_, Tryz.func268, c268⟩), trivial, trivial⟩, trivial⟩, trivial⟩, ⟨(fun _ h => by cases h; exact ⟨_, Tryz.func108, c108⟩), trivial, ⟨(fun _ h => by cases h; exact ⟨_, Tryz.func236, c236⟩), trivial, trivial⟩⟩⟩, ⟨(fun _ h => by cases h; exact ⟨_, Tryz.func60, c60⟩), ⟨(fun _ h => by cases h), trivial, ⟨(fun _ h => by cases h; exact ⟨_, Tryz.func220, c220⟩), trivial, trivial⟩⟩, ⟨(fun _ h => by cases h; exact ⟨_, Tryz.func124, c124⟩), ⟨(fun _ h => by cases h; exact ⟨_, Tryz.func188, c188⟩), trivial, trivial⟩, trivial⟩⟩⟩⟩⟩, ⟨(fun _ h => by cases h), ⟨(fun _ h => by cases h; exact ⟨_, Tryz.func10, c10⟩), ⟨(fun _ h => by cases h), ⟨(fun _ h => by cases h; exact ⟨_, Tryz.func34, c34⟩), ⟨(fun _ h => by cases h), ⟨(fun _ h => by cases h; exact ⟨_, Tryz.func130, c130⟩), ⟨(fun _ h => by cases h; exact ⟨_, Tryz.func258, c258⟩), trivial, trivial⟩, trivial⟩, ⟨(fun _ h => by cases h; exact ⟨_, Tryz.func194, c194⟩), trivial, trivial⟩⟩, ⟨(fun _ h => by cases h), ⟨(fun _ h => by cases h; exact ⟨_, Tryz.func162, c162⟩), trivial, trivial⟩, ⟨(fun _ h => by cases h; exact ⟨_, Tryz.func226, c226⟩), trivial, trivial⟩⟩⟩, ⟨(fun _ h => by cases h), ⟨(fun _ h => by cases h; exact ⟨_, Tryz.func82, c82⟩), ⟨(fun _ h => by cases h; exact ⟨_, Tryz.func146, c146⟩), trivial, trivial⟩, ⟨(fun _ h => by cases h; exact ⟨_, Tryz.func210, c210⟩), trivial, trivial⟩⟩, ⟨(fun _ h => by cases h), trivial, ⟨(fun _ h => by cases h; exact ⟨_, Tryz.func242, c242⟩), trivial, trivial⟩⟩⟩⟩, ⟨(fun _ h => by cases h; exact ⟨_, Tryz.func26, c26⟩), ⟨(fun _ h => by cases h; exact ⟨_, Tryz.func42, c42⟩), ⟨(fun _ h => by cases h; exact ⟨_, Tryz.func74, c74⟩), ⟨(fun _ h => by cases h; exact ⟨_, Tryz.func138, c138⟩), trivial, trivial⟩, trivial⟩, ⟨(fun _ h => by cases h; exact ⟨_, Tryz.func106, c106⟩), trivial, trivial⟩⟩, ⟨(fun _ h => by cases h; exact ⟨_, Tryz.func58, c58⟩), trivial, ⟨(fun _ h => by cases h; exact ⟨_, Tryz.func122, c122⟩), ⟨(fun _ h => by cases h; exact ⟨_, Tryz.func186, c186⟩), trivial, trivial⟩, trivial⟩⟩⟩⟩, ⟨(fun _ h => by cases h; exact ⟨_, Tryz.func14, c14⟩), ⟨(fun _ h => by cases h), ⟨(fun _ h => by cases h; exact ⟨_, Tryz.func38, c38⟩), ⟨(fun _ h => by cases h), ⟨(fun _ h => by cases h; exact ⟨_, Tryz.func134, c134⟩), ⟨(fun _ h => by cases h; exact ⟨_, Tryz.func262, c262⟩), trivial, trivial⟩, trivial⟩, trivial⟩, ⟨(fun _ h => by cases h; exact ⟨_, Tryz.func102, c102⟩), ⟨(fun _ h => by cases h; exact ⟨_, Tryz.func166, c166⟩), trivial, trivial⟩, ⟨(fun _ h => by cases h; exact ⟨_, Tryz.func230, c230⟩), trivial, trivial⟩⟩⟩, ⟨(fun _ h => by cases h; exact ⟨_, Tryz.func54, c54⟩), ⟨(fun _ h => by cases h; exact ⟨_, Tryz.func86, c86⟩), ⟨(fun _ h => by cases h; exact ⟨_, Tryz.func150, c150⟩), trivial, trivial⟩, trivial⟩, ⟨(fun _ h => by cases h), ⟨(fun _ h => by cases h; exact ⟨_, Tryz.func182, c182⟩), trivial, trivial⟩, trivial⟩⟩⟩, ⟨(fun _ h => by cases h), ⟨(fun _ h => by cases h; exact ⟨_, Tryz.func46, c46⟩), ⟨(fun _ h => by cases h; exact ⟨_, Tryz.func78, c78⟩), ⟨(fun _ h => by cases h; exact ⟨_, Tryz.func142, c142⟩), ⟨(fun _ h => by cases h; exact ⟨_, Tryz.func270, c270⟩), trivial, trivial⟩, trivial⟩, trivial⟩, ⟨(fun _ h => by cases h), trivial, ⟨(fun _ h => by cases h; exact ⟨_, Tryz.func238, c238⟩), trivial, trivial⟩⟩⟩, ⟨(fun _ h => by cases h), ⟨(fun _ h => by cases h), trivial, ⟨(fun _ h => by cases h; exact ⟨_, Tryz.func222, c222⟩), trivial, trivial⟩⟩, ⟨(fun _ h => by cases h; exact ⟨_, Tryz.func126, c126⟩), ⟨(fun _ h => by cases h; exact ⟨_, Tryz.func190, c190⟩), trivial, trivial⟩, ⟨(fun _ h => by cases h; exact ⟨_, Tryz.func254, c254⟩), trivial, trivial⟩⟩⟩⟩⟩⟩⟩⟩ f F h

theorem mixed : Tryz.prog.follows .mixedOrders = true := by kernel_rfl

end Go.Proofs.YtmlgalhkpenohaaGreatDoor.Ab
