/- The seat's functions as the abstract machine's code, written by a program of this session; each is checked against the model's code. -/
import Derived.Test.YtmlgalhkpenohaaGreatDoorZacO
import Derived.Test.YtmlgalhkpenohaaGreatDoorProg
import Derived.KernelRfl
set_option linter.unusedSimpArgs false
set_option linter.unusedVariables false
namespace Go.Proofs.YtmlgalhkpenohaaGreatDoor.Ab
open Go Go.Proofs.YtmlgalhkpenohaaGreatDoor.Mac

def i5l0 : Cd :=
  .seq (.region 0 [o 0 22 (.bin .lss (.lf .i) (.t 21) (.t 20))])
  (.seq (.cond (.t 22)
   (.skip)
   (.exit 0))
  (.seq (.block 1 (.seq (.region 0 [o 0 23 (.iaddr 1 (.t 19) (.t 21)),
     o 1 24 (.load false 1 (.t 23)),
     o 2 6 (.mv (.t 24))])
   (.seq (.region 0 [o 0 26 (.mv (.t 6)),
     o 1 27 (.load true 8 (.t 2)),
     o 2 28 (.call (.f 12) [(.t 26), (.t 27), (.c (.slice none 0 0))]),
     o 3 25 (.mv (.t 28)),
     o 4 29 (.ext 0 (.t 25)),
     o 5 30 (.ext 1 (.t 25)),
     o 6 7 (.mv (.t 29)),
     o 7 8 (.mv (.t 30))])
   (.seq (.region 0 [o 0 32 (.mv (.t 6)),
     o 1 33 (.mv (.t 1)),
     o 2 34 (.call (.f 20) [(.t 32), (.t 33)]),
     o 3 31 (.mv (.t 34)),
     o 4 35 (.ext 0 (.t 31)),
     o 5 36 (.ext 1 (.t 31)),
     o 6 9 (.mv (.t 35)),
     o 7 10 (.mv (.t 36))])
   (.seq (.region 0 [o 0 37 (.mv (.t 7)),
     o 1 38 (.bin .neq (.lf .i) (.t 37) (.c (.int .i64 0))),
     o 2 39 (.mv (.t 38)),
     og 3 40 39 false (.mv (.t 8)),
     og 4 41 39 false (.bin .neq (.lf .i) (.t 40) (.c (.int .i64 1))),
     o 5 42 (.pick (.t 39) (.c (.bool true)) (.t 41)),
     o 6 43 (.mv (.t 42)),
     og 7 44 43 false (.mv (.t 10)),
     o 8 45 (.pick (.t 43) (.c (.bool true)) (.t 44)),
     o 9 46 (.mv (.t 45)),
     og 10 47 46 false (.mv (.t 6)),
     og 11 48 46 false (.mv (.t 1)),
     og 12 49 46 false (.call (.f 23) [(.t 47), (.c (.int .i64 3)), (.c (.int .i64 1)), (.t 48)]),
     og 13 50 46 false (.bin .neq (.lf .i) (.t 49) (.c (.int .i64 0))),
     o 14 51 (.pick (.t 46) (.c (.bool true)) (.t 50)),
     o 15 52 (.mv (.t 51)),
     og 16 53 52 false (.mv (.t 6)),
     og 17 54 52 false (.mv (.t 1)),
     og 18 55 52 false (.call (.f 24) [(.t 53), (.c (.int .i64 4)), (.t 54)]),
     og 19 56 52 false (.bin .neq (.lf .i) (.t 55) (.c (.int .i64 0))),
     o 20 57 (.pick (.t 52) (.c (.bool true)) (.t 56)),
     o 21 58 (.mv (.t 57)),
     og 22 59 58 false (.mv (.t 6)),
     og 23 60 58 false (.mv (.t 1)),
     og 24 61 58 false (.call (.f 21) [(.t 59), (.t 60)]),
     og 25 62 58 false (.bin .neq (.lf .i) (.t 61) (.c (.int .i64 0))),
     o 26 63 (.pick (.t 58) (.c (.bool true)) (.t 62)),
     o 27 64 (.mv (.t 63)),
     og 28 65 64 false (.mv (.t 6)),
     og 29 66 64 false (.mv (.t 1)),
     og 30 67 64 false (.mv (.t 1)),
     og 31 68 64 false (.call (.f 13) [(.t 65), (.t 66), (.t 67)]),
     o 32 69 (.pick (.t 64) (.c (.bool true)) (.t 68)),
     o 33 70 (.mv (.t 69)),
     og 34 71 70 false (.mv (.t 6)),
     og 35 72 70 false (.mv (.t 1)),
     og 36 73 70 false (.call (.f 15) [(.t 71), (.t 72)]),
     og 37 74 70 false (.len (.t 73)),
     og 38 75 70 false (.bin .neq (.lf .i) (.t 74) (.c (.int .i64 0))),
     o 39 76 (.pick (.t 70) (.c (.bool true)) (.t 75)),
     o 40 77 (.mv (.t 76)),
     og 41 78 77 false (.mv (.t 6)),
     og 42 79 77 false (.call (.f 17) [(.t 78), (.c (.int .i64 1)), (.c (.int .i64 1))]),
     og 43 80 77 false (.bin .neq (.lf .i) (.t 79) (.c (.int .i64 0))),
     o 44 81 (.pick (.t 77) (.c (.bool true)) (.t 80)),
     o 45 82 (.mv (.t 81)),
     og 46 83 82 false (.mv (.t 6)),
     og 47 84 82 false (.mv (.t 1)),
     og 48 85 82 false (.call (.f 16) [(.t 83), (.t 84)]),
     og 49 86 82 false (.bin .neq (.lf .s) (.t 85) (.c (.string ⟨#[]⟩))),
     o 50 87 (.pick (.t 82) (.c (.bool true)) (.t 86)),
     o 51 88 (.mv (.t 87)),
     og 52 89 88 false (.mv (.t 6)),
     og 53 90 88 false (.call (.f 25) [(.t 89), (.c (.int .i64 1)), (.c (.int .i64 1)), (.c (.int .i64 1)), (.c (.int .i64 1))]),
     og 54 91 88 false (.bin .neq (.lf .i) (.t 90) (.c (.int .i64 0))),
     o 55 92 (.pick (.t 88) (.c (.bool true)) (.t 91))])
   (.cond (.t 92)
    (.seq (.region 0 [o 0 4 (.mv (.c (.bool false)))])
    (.ret))
    (.skip)))))))
  (.region 0 [o 0 93 (.bin .add (.lf .i) (.t 21) (.c (.int .i64 1))),
    o 1 21 (.mv (.t 93))])))
/-- burnish/burnishlaw29.TermNone -/
def i5 : FnI := ⟨[.tmp 4],
 .seq (.region 1 [o 0 2 (.box 0 26 (.t 0)),
   o 1 4 (.mv (.c (.bool false)))])
 (.seq (.seq (.region 2 [o 0 17 (.build [(.slice none 0 0), (.map none), (.slice none 0 0), (.map none), (.slice none 0 0), (.map none), (.map none), (.slice none 0 0)] []),
   o 1 18 (.box 0 70 (.t 17)),
   o 2 19 (.bslice 1 30 1 2 [(.pointer none), (.pointer none)] [(0, 1, (.c (.pointer none))), (1, 1, (.t 18))]),
   o 3 20 (.len (.t 19)),
   o 4 21 (.mv (.c (.int .i64 0)))])
 (.block 0 (.loop i5l0)))
 (.seq (.region 0 [o 0 94 (.call (.f 10) []),
   o 1 11 (.mv (.t 94))])
 (.seq (.seq (.region 0 [o 0 95 (.mv (.t 1)),
   o 1 96 (.bin .geq (.lf .i) (.t 95) (.c (.int .i64 0))),
   o 2 97 (.mv (.t 96)),
   og 3 98 97 true (.mv (.t 1)),
   og 4 99 97 true (.bin .leq (.lf .i) (.t 98) (.c (.int .i64 3))),
   o 5 100 (.pick (.t 97) (.t 99) (.c (.bool false)))])
 (.cond (.t 100)
  (.seq (.region 0 [o 0 101 (.call (.f 9) []),
    o 1 4 (.mv (.t 101))])
  (.ret))
  (.skip)))
 (.seq (.region 0 [o 0 102 (.mv (.t 1)),
   o 1 12 (.mv (.t 102))])
 (.seq (.region 0 [o 0 104 (.mv (.t 11)),
   o 1 105 (.mv (.t 12)),
   o 2 106 (.call (.f 20) [(.t 104), (.t 105)]),
   o 3 103 (.mv (.t 106)),
   o 4 107 (.ext 0 (.t 103)),
   o 5 108 (.ext 1 (.t 103)),
   o 6 13 (.mv (.t 107)),
   o 7 14 (.mv (.t 108))])
 (.seq (.region 1 [o 0 110 (.mv (.t 11)),
   o 1 111 (.call (.f 26) [(.c (.int .i64 4)), (.c (.int .i64 3))]),
   o 2 112 (.mv (.t 12)),
   o 3 113 (.bslice 0 35 1 1 [(.int .i64 0)] [(0, 1, (.t 112))]),
   o 4 114 (.call (.f 12) [(.t 110), (.t 111), (.t 113)]),
   o 5 109 (.mv (.t 114)),
   o 6 115 (.ext 0 (.t 109)),
   o 7 116 (.ext 1 (.t 109)),
   o 8 15 (.mv (.t 115)),
   o 9 16 (.mv (.t 116))])
 (.seq (.region 0 [o 0 117 (.call (.f 9) []),
   o 1 118 (.mv (.t 117)),
   og 2 119 118 true (.mv (.t 14)),
   og 3 120 118 true (.un .not (.t 119)),
   o 4 121 (.pick (.t 118) (.t 120) (.c (.bool false))),
   o 5 122 (.mv (.t 121)),
   og 6 123 122 true (.mv (.t 16)),
   og 7 124 122 true (.bin .eql (.lf .i) (.t 123) (.c (.int .i64 8))),
   o 8 125 (.pick (.t 122) (.t 124) (.c (.bool false))),
   o 9 126 (.mv (.t 125)),
   og 10 127 126 true (.mv (.t 11)),
   og 11 128 126 true (.mv (.t 12)),
   og 12 129 126 true (.call (.f 21) [(.t 127), (.t 128)]),
   og 13 130 126 true (.bin .eql (.lf .i) (.t 129) (.c (.int .i64 0))),
   o 14 131 (.pick (.t 126) (.t 130) (.c (.bool false))),
   o 15 132 (.mv (.t 131)),
   og 16 133 132 true (.mv (.t 11)),
   og 17 134 132 true (.mv (.t 12)),
   og 18 135 132 true (.mv (.t 12)),
   og 19 136 132 true (.call (.f 13) [(.t 133), (.t 134), (.t 135)]),
   og 20 137 132 true (.un .not (.t 136)),
   o 21 138 (.pick (.t 132) (.t 137) (.c (.bool false))),
   o 22 139 (.mv (.t 138)),
   og 23 140 139 true (.mv (.t 11)),
   og 24 141 139 true (.mv (.t 12)),
   og 25 142 139 true (.call (.f 15) [(.t 140), (.t 141)]),
   og 26 143 139 true (.len (.t 142)),
   og 27 144 139 true (.bin .eql (.lf .i) (.t 143) (.c (.int .i64 0))),
   o 28 145 (.pick (.t 139) (.t 144) (.c (.bool false))),
   o 29 146 (.mv (.t 145)),
   og 30 147 146 true (.mv (.t 11)),
   og 31 148 146 true (.mv (.t 12)),
   og 32 149 146 true (.mv (.t 12)),
   og 33 150 146 true (.call (.f 17) [(.t 147), (.t 148), (.t 149)]),
   og 34 151 146 true (.bin .eql (.lf .i) (.t 150) (.c (.int .i64 0))),
   o 35 152 (.pick (.t 146) (.t 151) (.c (.bool false))),
   o 36 153 (.mv (.t 152)),
   og 37 154 153 true (.mv (.t 11)),
   og 38 155 153 true (.mv (.t 12)),
   og 39 156 153 true (.call (.f 16) [(.t 154), (.t 155)]),
   og 40 157 153 true (.bin .eql (.lf .s) (.t 156) (.c (.string ⟨#[]⟩))),
   o 41 158 (.pick (.t 153) (.t 157) (.c (.bool false))),
   o 42 159 (.mv (.t 158)),
   og 43 160 159 true (.mv (.t 11)),
   og 44 161 159 true (.mv (.t 12)),
   og 45 162 159 true (.mv (.t 12)),
   og 46 163 159 true (.call (.f 25) [(.t 160), (.t 161), (.t 162), (.c (.int .i64 1)), (.c (.int .i64 1))]),
   og 47 164 159 true (.bin .eql (.lf .i) (.t 163) (.c (.int .i64 0))),
   o 48 165 (.pick (.t 159) (.t 164) (.c (.bool false))),
   o 49 4 (.mv (.t 165))])
 (.ret))))))))⟩
theorem c5 : cFn Tryz.prog Tryz.f5 = some i5 := by kernel_rfl
/-- burnish/burnishlaw29.awake -/
def i9 : FnI := ⟨[.tmp 0],
 .seq (.region 0 [o 0 0 (.mv (.c (.bool false)))])
 (.seq (.region 0 [o 0 15 (.call (.f 10) []),
   o 1 1 (.mv (.t 15))])
 (.seq (.seq (.region 0 [o 0 16 (.mv (.t 1)),
   o 1 17 (.bin .eql .ptr (.t 16) (.c (.pointer none)))])
 (.cond (.t 17)
  (.seq (.region 0 [o 0 0 (.mv (.c (.bool false)))])
  (.ret))
  (.skip)))
 (.seq (.region 0 [o 0 18 (.mv (.t 1)),
   o 1 19 (.call (.f 23) [(.t 18), (.c (.int .i64 3)), (.c (.int .i64 1)), (.c (.int .i64 0))]),
   o 2 20 (.mv (.t 1)),
   o 3 21 (.call (.f 23) [(.t 20), (.c (.int .i64 3)), (.c (.int .i64 1)), (.c (.int .i64 1))]),
   o 4 22 (.mv (.t 1)),
   o 5 23 (.call (.f 23) [(.t 22), (.c (.int .i64 1)), (.c (.int .i64 1)), (.c (.int .i64 2))]),
   o 6 2 (.mv (.t 19)),
   o 7 3 (.mv (.t 21)),
   o 8 4 (.mv (.t 23))])
 (.seq (.region 1 [o 0 25 (.mv (.t 1)),
   o 1 26 (.call (.f 26) [(.c (.int .i64 5)), (.c (.int .i64 3))]),
   o 2 27 (.mv (.t 2)),
   o 3 28 (.mv (.t 3)),
   o 4 29 (.bslice 0 35 1 2 [(.int .i64 0), (.int .i64 0)] [(0, 1, (.t 27)), (1, 1, (.t 28))]),
   o 5 30 (.call (.f 12) [(.t 25), (.t 26), (.t 29)]),
   o 6 24 (.mv (.t 30)),
   o 7 31 (.ext 0 (.t 24)),
   o 8 32 (.ext 1 (.t 24)),
   o 9 5 (.mv (.t 31)),
   o 10 6 (.mv (.t 32))])
 (.seq (.region 1 [o 0 34 (.mv (.t 1)),
   o 1 35 (.call (.f 26) [(.c (.int .i64 6)), (.c (.int .i64 3))]),
   o 2 36 (.mv (.t 5)),
   o 3 37 (.mv (.t 2)),
   o 4 38 (.bslice 0 35 1 2 [(.int .i64 0), (.int .i64 0)] [(0, 1, (.t 36)), (1, 1, (.t 37))]),
   o 5 39 (.call (.f 12) [(.t 34), (.t 35), (.t 38)]),
   o 6 33 (.mv (.t 39)),
   o 7 40 (.ext 0 (.t 33)),
   o 8 41 (.ext 1 (.t 33)),
   o 9 7 (.mv (.t 40)),
   o 10 8 (.mv (.t 41))])
 (.seq (.region 1 [o 0 43 (.mv (.t 1)),
   o 1 44 (.build [(.int .i64 0), (.int .i64 0), (.int .i64 0), (.slice none 0 0), (.int .i64 0), (.int .i64 0), (.int .i64 0), (.bool false)] [(0, 1, (.c (.int .i64 5))), (1, 1, (.c (.int .i64 3))), (7, 1, (.c (.bool true)))]),
   o 2 45 (.mv (.t 2)),
   o 3 46 (.mv (.t 3)),
   o 4 47 (.bslice 0 35 1 2 [(.int .i64 0), (.int .i64 0)] [(0, 1, (.t 45)), (1, 1, (.t 46))]),
   o 5 48 (.call (.f 12) [(.t 43), (.t 44), (.t 47)]),
   o 6 42 (.mv (.t 48)),
   o 7 49 (.ext 0 (.t 42)),
   o 8 50 (.ext 1 (.t 42)),
   o 9 9 (.mv (.t 49)),
   o 10 10 (.mv (.t 50))])
 (.seq (.region 1 [o 0 52 (.mv (.t 1)),
   o 1 53 (.build [(.int .i64 0), (.int .i64 0), (.int .i64 0), (.slice none 0 0), (.int .i64 0), (.int .i64 0), (.int .i64 0), (.bool false)] [(0, 1, (.c (.int .i64 5))), (1, 1, (.c (.int .i64 3))), (7, 1, (.c (.bool true)))]),
   o 2 54 (.mv (.t 3)),
   o 3 55 (.mv (.t 2)),
   o 4 56 (.bslice 0 35 1 2 [(.int .i64 0), (.int .i64 0)] [(0, 1, (.t 54)), (1, 1, (.t 55))]),
   o 5 57 (.call (.f 12) [(.t 52), (.t 53), (.t 56)]),
   o 6 51 (.mv (.t 57)),
   o 7 58 (.ext 0 (.t 51)),
   o 8 59 (.ext 1 (.t 51)),
   o 9 11 (.mv (.t 58)),
   o 10 12 (.mv (.t 59))])
 (.seq (.region 1 [o 0 61 (.mv (.t 1)),
   o 1 62 (.call (.f 26) [(.c (.int .i64 21)), (.c (.int .i64 3))]),
   o 2 63 (.mv (.t 4)),
   o 3 64 (.mv (.t 2)),
   o 4 65 (.mv (.t 2)),
   o 5 66 (.bslice 0 35 1 3 [(.int .i64 0), (.int .i64 0), (.int .i64 0)] [(0, 1, (.t 63)), (1, 1, (.t 64)), (2, 1, (.t 65))]),
   o 6 67 (.call (.f 12) [(.t 61), (.t 62), (.t 66)]),
   o 7 60 (.mv (.t 67)),
   o 8 68 (.ext 0 (.t 60)),
   o 9 69 (.ext 1 (.t 60)),
   o 10 13 (.mv (.t 68)),
   o 11 14 (.mv (.t 69))])
 (.seq (.seq (.region 0 [o 0 70 (.mv (.t 6)),
   o 1 71 (.bin .neq (.lf .i) (.t 70) (.c (.int .i64 0))),
   o 2 72 (.mv (.t 71)),
   og 3 73 72 false (.mv (.t 8)),
   og 4 74 72 false (.bin .neq (.lf .i) (.t 73) (.c (.int .i64 0))),
   o 5 75 (.pick (.t 72) (.c (.bool true)) (.t 74)),
   o 6 76 (.mv (.t 75)),
   og 7 77 76 false (.mv (.t 10)),
   og 8 78 76 false (.bin .neq (.lf .i) (.t 77) (.c (.int .i64 0))),
   o 9 79 (.pick (.t 76) (.c (.bool true)) (.t 78)),
   o 10 80 (.mv (.t 79)),
   og 11 81 80 false (.mv (.t 12)),
   og 12 82 80 false (.bin .neq (.lf .i) (.t 81) (.c (.int .i64 0))),
   o 13 83 (.pick (.t 80) (.c (.bool true)) (.t 82)),
   o 14 84 (.mv (.t 83)),
   og 15 85 84 false (.mv (.t 14)),
   og 16 86 84 false (.bin .neq (.lf .i) (.t 85) (.c (.int .i64 0))),
   o 17 87 (.pick (.t 84) (.c (.bool true)) (.t 86))])
 (.cond (.t 87)
  (.seq (.region 0 [o 0 0 (.mv (.c (.bool false)))])
  (.ret))
  (.skip)))
 (.seq (.region 5 [o 0 88 (.mv (.t 1)),
   o 1 89 (.mv (.t 7)),
   o 2 90 (.mv (.t 3)),
   o 3 91 (.call (.f 13) [(.t 88), (.t 89), (.t 90)]),
   o 4 92 (.mv (.t 91)),
   og 5 93 92 true (.mv (.t 1)),
   og 6 94 92 true (.mv (.t 7)),
   og 7 95 92 true (.mv (.t 2)),
   og 8 96 92 true (.call (.f 13) [(.t 93), (.t 94), (.t 95)]),
   og 9 97 92 true (.un .not (.t 96)),
   o 10 98 (.pick (.t 92) (.t 97) (.c (.bool false))),
   o 11 99 (.mv (.t 98)),
   og 12 100 99 true (.mv (.t 1)),
   og 13 101 99 true (.mv (.t 7)),
   og 14 102 99 true (.call (.f 15) [(.t 100), (.t 101)]),
   og 15 103 99 true (.bslice 0 3 1 2 [(.int .i64 0), (.int .i64 0)] [(0, 1, (.c (.int .i64 1))), (1, 1, (.c (.int .i64 2)))]),
   og 16 104 99 true (.call (.f 14) [(.t 102), (.t 103)]),
   o 17 105 (.pick (.t 99) (.t 104) (.c (.bool false))),
   o 18 106 (.mv (.t 105)),
   og 19 107 106 true (.mv (.t 1)),
   og 20 108 106 true (.mv (.t 3)),
   og 21 109 106 true (.call (.f 15) [(.t 107), (.t 108)]),
   og 22 110 106 true (.bslice 1 3 1 1 [(.int .i64 0)] [(0, 1, (.c (.int .i64 2)))]),
   og 23 111 106 true (.call (.f 14) [(.t 109), (.t 110)]),
   o 24 112 (.pick (.t 106) (.t 111) (.c (.bool false))),
   o 25 113 (.mv (.t 112)),
   og 26 114 113 true (.mv (.t 1)),
   og 27 115 113 true (.mv (.t 9)),
   og 28 116 113 true (.call (.f 15) [(.t 114), (.t 115)]),
   og 29 117 113 true (.bslice 2 3 1 3 [(.int .i64 0), (.int .i64 0), (.int .i64 0)] [(0, 1, (.c (.int .i64 1))), (1, 1, (.c (.int .i64 2))), (2, 1, (.c (.int .i64 4)))]),
   og 30 118 113 true (.call (.f 14) [(.t 116), (.t 117)]),
   o 31 119 (.pick (.t 113) (.t 118) (.c (.bool false))),
   o 32 120 (.mv (.t 119)),
   og 33 121 120 true (.mv (.t 1)),
   og 34 122 120 true (.mv (.t 11)),
   og 35 123 120 true (.call (.f 15) [(.t 121), (.t 122)]),
   og 36 124 120 true (.bslice 3 3 1 3 [(.int .i64 0), (.int .i64 0), (.int .i64 0)] [(0, 1, (.c (.int .i64 1))), (1, 1, (.c (.int .i64 2))), (2, 1, (.c (.int .i64 4)))]),
   og 37 125 120 true (.call (.f 14) [(.t 123), (.t 124)]),
   o 38 126 (.pick (.t 120) (.t 125) (.c (.bool false))),
   o 39 127 (.mv (.t 126)),
   og 40 128 127 true (.mv (.t 1)),
   og 41 129 127 true (.mv (.t 13)),
   og 42 130 127 true (.mv (.t 2)),
   og 43 131 127 true (.call (.f 13) [(.t 128), (.t 129), (.t 130)]),
   o 44 132 (.pick (.t 127) (.t 131) (.c (.bool false))),
   o 45 133 (.mv (.t 132)),
   og 46 134 133 true (.mv (.t 1)),
   og 47 135 133 true (.mv (.t 13)),
   og 48 136 133 true (.call (.f 15) [(.t 134), (.t 135)]),
   og 49 137 133 true (.bslice 4 3 1 2 [(.int .i64 0), (.int .i64 0)] [(0, 1, (.c (.int .i64 1))), (1, 1, (.c (.int .i64 3)))]),
   og 50 138 133 true (.call (.f 14) [(.t 136), (.t 137)]),
   o 51 139 (.pick (.t 133) (.t 138) (.c (.bool false))),
   o 52 140 (.mv (.t 139)),
   og 53 141 140 true (.mv (.t 1)),
   og 54 142 140 true (.mv (.t 13)),
   og 55 143 140 true (.call (.f 21) [(.t 141), (.t 142)]),
   og 56 144 140 true (.bin .eql (.lf .i) (.t 143) (.c (.int .i64 3))),
   o 57 145 (.pick (.t 140) (.t 144) (.c (.bool false))),
   o 58 146 (.mv (.t 145)),
   og 59 147 146 true (.mv (.t 1)),
   og 60 148 146 true (.call (.f 16) [(.t 147), (.c (.int .i64 0))]),
   og 61 149 146 true (.bin .eql (.lf .s) (.t 148) (.c (.string ⟨#[112, 111, 105, 115, 111, 110]⟩))),
   o 62 150 (.pick (.t 146) (.t 149) (.c (.bool false))),
   o 63 0 (.mv (.t 150))])
 (.ret)))))))))))⟩
theorem c9 : cFn Tryz.prog Tryz.f9 = some i9 := by kernel_rfl
/-- burnish/term.New -/
def i10 : FnI := ⟨[.tmp 0],
 .seq (.region 0 [o 0 0 (.mv (.c (.pointer none)))])
 (.seq (.region 2 [o 0 1 (.call (.f 34) []),
   o 1 2 (.mkmap 0),
   o 2 3 (.build [(.slice none 0 0), (.map none), (.slice none 0 0), (.map none), (.slice none 0 0), (.map none), (.map none), (.slice none 0 0)] [(0, 6, (.t 1)), (6, 1, (.t 2))]),
   o 3 4 (.box 1 70 (.t 3)),
   o 4 0 (.mv (.t 4))])
 (.ret))⟩
theorem c10 : cFn Tryz.prog Tryz.f10 = some i10 := by kernel_rfl
def i12l1 : Cd :=
  .seq (.region 0 [o 0 53 (.bin .lss (.lf .i) (.t 52) (.t 51))])
  (.seq (.cond (.t 53)
   (.skip)
   (.exit 2))
  (.seq (.block 3 (.seq (.region 0 [o 0 54 (.iaddr 1 (.t 50) (.t 52)),
     o 1 55 (.load false 1 (.t 54)),
     o 2 13 (.mv (.t 55))])
   (.seq (.region 1 [o 0 57 (.mv (.t 0)),
     o 1 58 (.mv (.t 13)),
     o 2 59 (.call (.f 38) [(.t 57), (.t 58)]),
     o 3 56 (.mv (.t 59)),
     o 4 60 (.ext 0 (.t 56)),
     o 5 61 (.ext 1 (.t 56)),
     o 6 14 (.alloc 0 94 [(.int .i64 0), (.int .i64 0), (.slice none 0 0)]),
     ox 7 (.store 3 (.t 14) (.t 60)),
     o 8 15 (.mv (.t 61))])
   (.region 2 [o 0 62 (.mv (.t 11)),
     o 1 63 (.load true 3 (.t 14)),
     o 2 64 (.bslice 0 94 3 1 [(.int .i64 0), (.int .i64 0), (.slice none 0 0)] [(0, 3, (.t 63))]),
     o 3 65 (.append 1 94 3 40 false (.t 62) (.t 64)),
     o 4 11 (.mv (.t 65))]))))
  (.region 0 [o 0 66 (.bin .add (.lf .i) (.t 52) (.c (.int .i64 1))),
    o 1 52 (.mv (.t 66))])))
def i12l0 : Cd :=
  .seq (.region 0 [o 0 29 (.bin .lss (.lf .i) (.t 28) (.t 27))])
  (.seq (.cond (.t 29)
   (.skip)
   (.exit 0))
  (.seq (.block 1 (.seq (.region 0 [o 0 30 (.mv (.t 28)),
     o 1 31 (.iaddr 1 (.t 26) (.t 28)),
     o 2 32 (.load false 1 (.t 31)),
     o 3 9 (.mv (.t 30)),
     o 4 10 (.mv (.t 32))])
   (.seq (.region 0 [o 0 33 (.mv (.t 10)),
     o 1 34 (.bin .eql (.lf .i) (.t 33) (.c (.int .i64 0))),
     o 2 35 (.mv (.t 34)),
     og 3 36 35 true (.faddr 0 (.t 4)),
     og 4 37 35 true (.load false 1 (.t 36)),
     og 5 38 35 true (.bin .neq (.lf .i) (.t 37) (.c (.int .i64 32))),
     o 6 39 (.pick (.t 35) (.t 38) (.c (.bool false))),
     o 7 40 (.mv (.t 39)),
     og 8 41 40 true (.faddr 0 (.t 4)),
     og 9 42 40 true (.load false 1 (.t 41)),
     og 10 43 40 true (.bin .neq (.lf .i) (.t 42) (.c (.int .i64 21))),
     og 11 44 40 true (.mv (.t 43)),
     og 12 45 44 false (.mv (.t 9)),
     og 13 46 44 false (.bin .eql (.lf .i) (.t 45) (.c (.int .i64 0))),
     og 14 47 40 true (.pick (.t 44) (.c (.bool true)) (.t 46)),
     o 15 48 (.pick (.t 40) (.t 47) (.c (.bool false)))])
   (.cond (.t 48)
    (.seq (.region 0 [o 0 6 (.mv (.c (.int .i64 0))),
      o 1 7 (.mv (.c (.int .i64 0)))])
    (.ret))
    (.skip)))))
  (.region 0 [o 0 49 (.bin .add (.lf .i) (.t 28) (.c (.int .i64 1))),
    o 1 28 (.mv (.t 49))])))
/-- (*burnish/term.Bank).Apply -/
def i12 : FnI := ⟨[.tmp 6, .tmp 7],
 .seq (.region 1 [o 0 4 (.box 0 26 (.t 1)),
   o 1 6 (.mv (.c (.int .i64 0))),
   o 2 7 (.mv (.c (.int .i64 0)))])
 (.seq (.seq (.region 0 [o 0 16 (.mv (.t 0)),
   o 1 17 (.call (.f 36) [(.t 16)]),
   o 2 18 (.un .not (.t 17))])
 (.cond (.t 18)
  (.seq (.region 0 [o 0 6 (.mv (.c (.int .i64 0))),
    o 1 7 (.mv (.c (.int .i64 1)))])
  (.ret))
  (.skip)))
 (.seq (.seq (.region 0 [o 0 19 (.mv (.t 0)),
   o 1 20 (.load true 8 (.t 4)),
   o 2 21 (.mv (.t 2)),
   o 3 22 (.call (.f 37) [(.t 19), (.t 20), (.t 21)]),
   o 4 8 (.mv (.t 22))])
 (.seq (.region 0 [o 0 23 (.mv (.t 8)),
   o 1 24 (.bin .neq (.lf .i) (.t 23) (.c (.int .i64 0)))])
 (.cond (.t 24)
  (.seq (.region 0 [o 0 25 (.mv (.t 8)),
    o 1 6 (.mv (.c (.int .i64 0))),
    o 2 7 (.mv (.t 25))])
  (.ret))
  (.skip))))
 (.seq (.seq (.region 0 [o 0 26 (.mv (.t 2)),
   o 1 27 (.len (.t 26)),
   o 2 28 (.mv (.c (.int .i64 0)))])
 (.block 0 (.loop i12l0)))
 (.seq (.region 0 [o 0 11 (.mv (.c (.slice none 0 0)))])
 (.seq (.seq (.region 0 [o 0 50 (.mv (.t 2)),
   o 1 51 (.len (.t 50)),
   o 2 52 (.mv (.c (.int .i64 0)))])
 (.block 2 (.loop i12l1)))
 (.seq (.region 0 [o 0 67 (.mv (.t 0)),
   o 1 68 (.load true 8 (.t 4)),
   o 2 69 (.mv (.t 11)),
   o 3 70 (.call (.f 39) [(.t 67), (.t 68), (.t 69)]),
   o 4 6 (.mv (.t 70)),
   o 5 7 (.mv (.c (.int .i64 0)))])
 (.ret)))))))⟩
theorem c12 : cFn Tryz.prog Tryz.f12 = some i12 := by kernel_rfl
/-- (*burnish/term.Bank).SameValue -/
def i13 : FnI := ⟨[.tmp 6],
 .seq (.region 0 [o 0 6 (.mv (.c (.bool false)))])
 (.seq (.seq (.region 0 [o 0 11 (.mv (.t 0)),
   o 1 12 (.call (.f 36) [(.t 11)]),
   o 2 13 (.un .not (.t 12))])
 (.cond (.t 13)
  (.seq (.region 0 [o 0 6 (.mv (.c (.bool false)))])
  (.ret))
  (.skip)))
 (.seq (.seq (.region 0 [o 0 14 (.mv (.t 1)),
   o 1 15 (.bin .eql (.lf .i) (.t 14) (.c (.int .i64 0))),
   o 2 16 (.mv (.t 15)),
   og 3 17 16 true (.mv (.t 2)),
   og 4 18 16 true (.bin .eql (.lf .i) (.t 17) (.c (.int .i64 0))),
   o 5 19 (.pick (.t 16) (.t 18) (.c (.bool false)))])
 (.cond (.t 19)
  (.seq (.region 0 [o 0 6 (.mv (.c (.bool true)))])
  (.ret))
  (.skip)))
 (.seq (.region 1 [o 0 21 (.mv (.t 0)),
   o 1 22 (.mv (.t 1)),
   o 2 23 (.call (.f 38) [(.t 21), (.t 22)]),
   o 3 20 (.mv (.t 23)),
   o 4 24 (.ext 0 (.t 20)),
   o 5 25 (.ext 1 (.t 20)),
   o 6 7 (.alloc 0 94 [(.int .i64 0), (.int .i64 0), (.slice none 0 0)]),
   ox 7 (.store 3 (.t 7) (.t 24)),
   o 8 8 (.mv (.t 25))])
 (.seq (.region 1 [o 0 27 (.mv (.t 0)),
   o 1 28 (.mv (.t 2)),
   o 2 29 (.call (.f 38) [(.t 27), (.t 28)]),
   o 3 26 (.mv (.t 29)),
   o 4 30 (.ext 0 (.t 26)),
   o 5 31 (.ext 1 (.t 26)),
   o 6 9 (.alloc 0 94 [(.int .i64 0), (.int .i64 0), (.slice none 0 0)]),
   ox 7 (.store 3 (.t 9) (.t 30)),
   o 8 10 (.mv (.t 31))])
 (.seq (.region 0 [o 0 32 (.mv (.t 8)),
   o 1 33 (.mv (.t 32)),
   og 2 34 33 true (.mv (.t 10)),
   o 3 35 (.pick (.t 33) (.t 34) (.c (.bool false))),
   o 4 36 (.mv (.t 35)),
   og 5 37 36 true (.faddr 0 (.t 7)),
   og 6 38 36 true (.load false 1 (.t 37)),
   og 7 39 36 true (.faddr 0 (.t 9)),
   og 8 40 36 true (.load false 1 (.t 39)),
   og 9 41 36 true (.bin .eql (.lf .i) (.t 38) (.t 40)),
   o 10 42 (.pick (.t 36) (.t 41) (.c (.bool false))),
   o 11 43 (.mv (.t 42)),
   og 12 44 43 true (.faddr 1 (.t 7)),
   og 13 45 43 true (.load false 1 (.t 44)),
   og 14 46 43 true (.faddr 1 (.t 9)),
   og 15 47 43 true (.load false 1 (.t 46)),
   og 16 48 43 true (.bin .eql (.lf .i) (.t 45) (.t 47)),
   o 17 49 (.pick (.t 43) (.t 48) (.c (.bool false))),
   o 18 50 (.mv (.t 49)),
   og 19 51 50 true (.faddr 2 (.t 7)),
   og 20 52 50 true (.load false 1 (.t 51)),
   og 21 53 50 true (.faddr 2 (.t 9)),
   og 22 54 50 true (.load false 1 (.t 53)),
   og 23 55 50 true (.call (.f 40) [(.t 52), (.t 54), (.f 41)]),
   o 24 56 (.pick (.t 50) (.t 55) (.c (.bool false))),
   o 25 6 (.mv (.t 56))])
 (.ret))))))⟩
theorem c13 : cFn Tryz.prog Tryz.f13 = some i13 := by kernel_rfl
def i14l0 : Cd :=
  .seq (.region 0 [o 0 14 (.bin .lss (.lf .i) (.t 13) (.t 12))])
  (.seq (.cond (.t 14)
   (.skip)
   (.exit 0))
  (.seq (.block 1 (.seq (.region 0 [o 0 15 (.mv (.t 13)),
     o 1 5 (.mv (.t 15))])
   (.seq (.region 0 [o 0 16 (.mv (.t 0)),
     o 1 17 (.mv (.t 5)),
     o 2 18 (.iaddr 1 (.t 16) (.t 17)),
     o 3 19 (.load false 1 (.t 18)),
     o 4 20 (.mv (.t 1)),
     o 5 21 (.mv (.t 5)),
     o 6 22 (.iaddr 1 (.t 20) (.t 21)),
     o 7 23 (.load false 1 (.t 22)),
     o 8 24 (.bin .neq (.lf .i) (.t 19) (.t 23))])
   (.cond (.t 24)
    (.seq (.region 0 [o 0 4 (.mv (.c (.bool false)))])
    (.ret))
    (.skip)))))
  (.region 0 [o 0 25 (.bin .add (.lf .i) (.t 13) (.c (.int .i64 1))),
    o 1 13 (.mv (.t 25))])))
/-- slices.Equal[[]int,int] -/
def i14 : FnI := ⟨[.tmp 4],
 .seq (.region 0 [o 0 4 (.mv (.c (.bool false)))])
 (.seq (.seq (.region 0 [o 0 6 (.mv (.t 0)),
   o 1 7 (.len (.t 6)),
   o 2 8 (.mv (.t 1)),
   o 3 9 (.len (.t 8)),
   o 4 10 (.bin .neq (.lf .i) (.t 7) (.t 9))])
 (.cond (.t 10)
  (.seq (.region 0 [o 0 4 (.mv (.c (.bool false)))])
  (.ret))
  (.skip)))
 (.seq (.seq (.region 0 [o 0 11 (.mv (.t 0)),
   o 1 12 (.len (.t 11)),
   o 2 13 (.mv (.c (.int .i64 0)))])
 (.block 0 (.loop i14l0)))
 (.seq (.region 0 [o 0 4 (.mv (.c (.bool true)))])
 (.ret))))⟩
theorem c14 : cFn Tryz.prog Tryz.f14 = some i14 := by kernel_rfl
def i15l1 : Cd :=
  .seq (.region 0 [o 0 53 (.bin .lss (.lf .i) (.t 52) (.t 51))])
  (.seq (.cond (.t 53)
   (.skip)
   (.exit 2))
  (.seq (.block 3 (.seq (.region 0 [o 0 54 (.iaddr 1 (.t 50) (.t 52)),
     o 1 55 (.load false 1 (.t 54)),
     o 2 11 (.mv (.t 55))])
   (.region 2 [o 0 56 (.mv (.t 7)),
     o 1 57 (.mv (.t 11)),
     o 2 58 (.bin .mul (.lf .i) (.c (.int .i64 4)) (.t 57)),
     o 3 59 (.mv (.t 8)),
     o 4 60 (.bin .add (.lf .i) (.t 58) (.t 59)),
     o 5 61 (.un .neg (.t 60)),
     o 6 62 (.bin .sub (.lf .i) (.t 61) (.c (.int .i64 1))),
     o 7 63 (.bslice 0 3 1 1 [(.int .i64 0)] [(0, 1, (.t 62))]),
     o 8 64 (.append 1 3 1 8 false (.t 56) (.t 63)),
     o 9 7 (.mv (.t 64))])))
  (.region 0 [o 0 65 (.bin .add (.lf .i) (.t 52) (.c (.int .i64 1))),
    o 1 52 (.mv (.t 65))])))
def i15l0 : Cd :=
  .seq (.region 0 [o 0 45 (.bin .lss (.lf .i) (.t 44) (.t 43))])
  (.seq (.cond (.t 45)
   (.skip)
   (.exit 0))
  (.seq (.block 1 (.seq (.region 1 [o 0 46 (.mv (.t 44)),
     o 1 47 (.iaddr 2 (.t 42) (.t 44)),
     o 2 48 (.load true 2 (.t 47)),
     o 3 9 (.alloc 0 100 [(.int .i64 0), (.slice none 0 0)]),
     o 4 8 (.mv (.t 46)),
     ox 5 (.store 2 (.t 9) (.t 48))])
   (.seq (.region 0 [o 0 49 (.faddr 1 (.t 9)),
     o 1 50 (.load false 1 (.t 49)),
     o 2 51 (.len (.t 50)),
     o 3 52 (.mv (.c (.int .i64 0)))])
   (.block 2 (.loop i15l1)))))
  (.region 0 [o 0 66 (.bin .add (.lf .i) (.t 44) (.c (.int .i64 1))),
    o 1 44 (.mv (.t 66))])))
/-- (*burnish/term.Bank).PoisonConds -/
def i15 : FnI := ⟨[.tmp 4],
 .seq (.region 0 [o 0 4 (.mv (.c (.slice none 0 0)))])
 (.seq (.seq (.region 0 [o 0 12 (.mv (.t 0)),
   o 1 13 (.call (.f 36) [(.t 12)]),
   o 2 14 (.mv (.t 13)),
   og 3 15 14 true (.mv (.t 1)),
   og 4 16 14 true (.bin .eql (.lf .i) (.t 15) (.c (.int .i64 0))),
   o 5 17 (.pick (.t 14) (.t 16) (.c (.bool false)))])
 (.cond (.t 17)
  (.seq (.region 1 [o 0 18 (.bslice 0 3 1 1 [(.int .i64 0)] [(0, 1, (.c (.int .i64 0)))]),
    o 1 4 (.mv (.t 18))])
  (.ret))
  (.skip)))
 (.seq (.region 1 [o 0 20 (.mv (.t 0)),
   o 1 21 (.mv (.t 1)),
   o 2 22 (.call (.f 38) [(.t 20), (.t 21)]),
   o 3 19 (.mv (.t 22)),
   o 4 23 (.ext 0 (.t 19)),
   o 5 24 (.ext 1 (.t 19)),
   o 6 5 (.alloc 0 94 [(.int .i64 0), (.int .i64 0), (.slice none 0 0)]),
   ox 7 (.store 3 (.t 5) (.t 23)),
   o 8 6 (.mv (.t 24))])
 (.seq (.seq (.region 0 [o 0 25 (.mv (.t 6)),
   o 1 26 (.un .not (.t 25))])
 (.cond (.t 26)
  (.seq (.region 0 [o 0 4 (.mv (.c (.slice none 0 0)))])
  (.ret))
  (.skip)))
 (.seq (.seq (.region 0 [o 0 27 (.faddr 0 (.t 5)),
   o 1 28 (.load false 1 (.t 27)),
   o 2 29 (.bin .neq (.lf .i) (.t 28) (.c (.int .i64 6))),
   o 3 30 (.mv (.t 29)),
   og 4 31 30 true (.faddr 0 (.t 5)),
   og 5 32 30 true (.load false 1 (.t 31)),
   og 6 33 30 true (.bin .neq (.lf .i) (.t 32) (.c (.int .i64 7))),
   o 7 34 (.pick (.t 30) (.t 33) (.c (.bool false)))])
 (.cond (.t 34)
  (.seq (.region 0 [o 0 35 (.faddr 2 (.t 5)),
    o 1 36 (.load false 1 (.t 35)),
    o 2 37 (.iaddr 2 (.t 36) (.c (.int .i64 0))),
    o 3 38 (.faddr 1 (.t 37)),
    o 4 39 (.load false 1 (.t 38)),
    o 5 40 (.call (.f 42) [(.t 39)]),
    o 6 4 (.mv (.t 40))])
  (.ret))
  (.skip)))
 (.seq (.region 0 [o 0 7 (.mv (.c (.slice none 0 0)))])
 (.seq (.seq (.region 0 [o 0 41 (.faddr 2 (.t 5)),
   o 1 42 (.load false 1 (.t 41)),
   o 2 43 (.len (.t 42)),
   o 3 44 (.mv (.c (.int .i64 0)))])
 (.block 0 (.loop i15l0)))
 (.seq (.region 0 [o 0 67 (.mv (.t 7)),
   o 1 68 (.call (.f 43) [(.t 67)])])
 (.seq (.region 0 [o 0 69 (.mv (.t 7)),
   o 1 4 (.mv (.t 69))])
 (.ret)))))))))⟩
theorem c15 : cFn Tryz.prog Tryz.f15 = some i15 := by kernel_rfl
def i16l1 : Cd :=
  .seq (.region 0 [o 0 56 (.bin .lss (.lf .i) (.t 55) (.t 54))])
  (.seq (.cond (.t 56)
   (.skip)
   (.exit 2))
  (.seq (.block 3 (.seq (.region 0 [o 0 57 (.iaddr 1 (.t 53) (.t 55)),
     o 1 58 (.load false 1 (.t 57)),
     o 2 11 (.mv (.t 58))])
   (.region 0 [o 0 59 (.mv (.t 7)),
     o 1 60 (.mv (.t 11)),
     o 2 61 (.call (.f 44) [(.t 60)]),
     o 3 62 (.bin .add (.lf .s) (.c (.string ⟨#[32, 33]⟩)) (.t 61)),
     o 4 63 (.bin .add (.lf .s) (.t 59) (.t 62)),
     o 5 7 (.mv (.t 63))])))
  (.region 0 [o 0 64 (.bin .add (.lf .i) (.t 55) (.c (.int .i64 1))),
    o 1 55 (.mv (.t 64))])))
def i16l0 : Cd :=
  .seq (.region 0 [o 0 43 (.bin .lss (.lf .i) (.t 42) (.t 41))])
  (.seq (.cond (.t 43)
   (.skip)
   (.exit 0))
  (.seq (.block 1 (.seq (.region 1 [o 0 44 (.iaddr 2 (.t 40) (.t 42)),
     o 1 45 (.load true 2 (.t 44)),
     o 2 9 (.alloc 0 100 [(.int .i64 0), (.slice none 0 0)]),
     ox 3 (.store 2 (.t 9) (.t 45))])
   (.seq (.region 0 [o 0 46 (.mv (.t 7)),
     o 1 47 (.faddr 0 (.t 9)),
     o 2 48 (.load false 1 (.t 47)),
     o 3 49 (.call (.f 44) [(.t 48)]),
     o 4 50 (.bin .add (.lf .s) (.c (.string ⟨#[32, 102, 111, 114, 109]⟩)) (.t 49)),
     o 5 51 (.bin .add (.lf .s) (.t 46) (.t 50)),
     o 6 7 (.mv (.t 51))])
   (.seq (.region 0 [o 0 52 (.faddr 1 (.t 9)),
     o 1 53 (.load false 1 (.t 52)),
     o 2 54 (.len (.t 53)),
     o 3 55 (.mv (.c (.int .i64 0)))])
   (.block 2 (.loop i16l1))))))
  (.region 0 [o 0 65 (.bin .add (.lf .i) (.t 42) (.c (.int .i64 1))),
    o 1 42 (.mv (.t 65))])))
/-- (*burnish/term.Bank).Format -/
def i16 : FnI := ⟨[.tmp 4],
 .seq (.region 0 [o 0 4 (.mv (.c (.string ⟨#[]⟩)))])
 (.seq (.seq (.region 0 [o 0 12 (.mv (.t 0)),
   o 1 13 (.call (.f 36) [(.t 12)]),
   o 2 14 (.mv (.t 13)),
   og 3 15 14 true (.mv (.t 1)),
   og 4 16 14 true (.bin .eql (.lf .i) (.t 15) (.c (.int .i64 0))),
   o 5 17 (.pick (.t 14) (.t 16) (.c (.bool false)))])
 (.cond (.t 17)
  (.seq (.region 0 [o 0 4 (.mv (.c (.string ⟨#[112, 111, 105, 115, 111, 110]⟩)))])
  (.ret))
  (.skip)))
 (.seq (.region 1 [o 0 19 (.mv (.t 0)),
   o 1 20 (.mv (.t 1)),
   o 2 21 (.call (.f 38) [(.t 19), (.t 20)]),
   o 3 18 (.mv (.t 21)),
   o 4 22 (.ext 0 (.t 18)),
   o 5 23 (.ext 1 (.t 18)),
   o 6 5 (.alloc 0 94 [(.int .i64 0), (.int .i64 0), (.slice none 0 0)]),
   ox 7 (.store 3 (.t 5) (.t 22)),
   o 8 6 (.mv (.t 23))])
 (.seq (.seq (.region 0 [o 0 24 (.mv (.t 6)),
   o 1 25 (.un .not (.t 24))])
 (.cond (.t 25)
  (.seq (.region 0 [o 0 4 (.mv (.c (.string ⟨#[]⟩)))])
  (.ret))
  (.skip)))
 (.seq (.region 0 [o 0 26 (.faddr 0 (.t 5)),
   o 1 27 (.load false 1 (.t 26)),
   o 2 28 (.call (.f 44) [(.t 27)]),
   o 3 29 (.bin .add (.lf .s) (.c (.string ⟨#[116, 121, 112, 101]⟩)) (.t 28)),
   o 4 7 (.mv (.t 29))])
 (.seq (.seq (.region 0 [o 0 30 (.faddr 0 (.t 5)),
   o 1 31 (.load false 1 (.t 30)),
   o 2 32 (.bin .eql (.lf .i) (.t 31) (.c (.int .i64 5)))])
 (.cond (.t 32)
  (.region 0 [o 0 33 (.mv (.t 7)),
    o 1 34 (.faddr 1 (.t 5)),
    o 2 35 (.load false 1 (.t 34)),
    o 3 36 (.call (.f 44) [(.t 35)]),
    o 4 37 (.bin .add (.lf .s) (.c (.string ⟨#[32, 98, 97, 115, 101]⟩)) (.t 36)),
    o 5 38 (.bin .add (.lf .s) (.t 33) (.t 37)),
    o 6 7 (.mv (.t 38))])
  (.skip)))
 (.seq (.seq (.region 0 [o 0 39 (.faddr 2 (.t 5)),
   o 1 40 (.load false 1 (.t 39)),
   o 2 41 (.len (.t 40)),
   o 3 42 (.mv (.c (.int .i64 0)))])
 (.block 0 (.loop i16l0)))
 (.seq (.region 0 [o 0 66 (.mv (.t 7)),
   o 1 4 (.mv (.t 66))])
 (.ret))))))))⟩
theorem c16 : cFn Tryz.prog Tryz.f16 = some i16 := by kernel_rfl
def i17l1 : Cd :=
  .seq (.region 0 [o 0 73 (.bin .lss (.lf .i) (.t 72) (.t 71))])
  (.seq (.cond (.t 73)
   (.skip)
   (.exit 2))
  (.seq (.block 3 (.seq (.region 1 [o 0 74 (.mv (.t 72)),
     o 1 75 (.iaddr 2 (.t 70) (.t 72)),
     o 2 76 (.load true 2 (.t 75)),
     o 3 17 (.alloc 0 100 [(.int .i64 0), (.slice none 0 0)]),
     o 4 16 (.mv (.t 74)),
     ox 5 (.store 2 (.t 17) (.t 76))])
   (.seq (.region 0 [o 0 77 (.mv (.t 12)),
     o 1 18 (.mv (.t 77))])
   (.seq (.seq (.region 0 [o 0 78 (.mv (.t 11))])
   (.cond (.t 78)
    (.region 0 [o 0 79 (.faddr 2 (.t 9)),
      o 1 80 (.load false 1 (.t 79)),
      o 2 81 (.mv (.t 16)),
      o 3 82 (.iaddr 2 (.t 80) (.t 81)),
      o 4 83 (.faddr 1 (.t 82)),
      o 5 84 (.load false 1 (.t 83)),
      o 6 18 (.mv (.t 84))])
    (.skip)))
   (.region 2 [o 4 89 (.faddr 1 (.t 17)),
     o 5 90 (.load false 1 (.t 89)),
     o 6 91 (.mv (.t 18)),
     ⟨7, (some 92), none, .call (.f 45) [(.t 90), (.t 91)], [], true⟩,
     o 0 85 (.faddr 2 (.t 15)),
     ⟨1, (some 86), none, .load false 1 (.t 85), [7], false⟩,
     o 2 87 (.faddr 0 (.t 17)),
     ⟨3, (some 88), none, .load false 1 (.t 87), [7], false⟩,
     o 8 93 (.build [(.int .i64 0), (.slice none 0 0)] [(0, 1, (.t 88)), (1, 1, (.t 92))]),
     o 9 94 (.bslice 0 100 2 1 [(.int .i64 0), (.slice none 0 0)] [(0, 2, (.t 93))]),
     o 10 95 (.append 1 100 2 32 false (.t 86) (.t 94)),
     o 11 96 (.faddr 2 (.t 15)),
     ox 12 (.store 1 (.t 96) (.t 95))])))))
  (.region 0 [o 0 97 (.bin .add (.lf .i) (.t 72) (.c (.int .i64 1))),
    o 1 72 (.mv (.t 97))])))
def i17l0 : Cd :=
  .seq (.region 0 [o 0 56 (.bin .lss (.lf .i) (.t 55) (.t 54))])
  (.seq (.cond (.t 56)
   (.skip)
   (.exit 0))
  (.seq (.block 1 (.seq (.region 1 [o 0 57 (.iaddr 2 (.t 53) (.t 55)),
     o 1 58 (.load true 2 (.t 57)),
     o 2 14 (.alloc 0 100 [(.int .i64 0), (.slice none 0 0)]),
     ox 3 (.store 2 (.t 14) (.t 58))])
   (.region 0 [o 0 59 (.mv (.t 12)),
     o 1 60 (.faddr 1 (.t 14)),
     o 2 61 (.load false 1 (.t 60)),
     o 3 62 (.call (.f 45) [(.t 59), (.t 61)]),
     o 4 12 (.mv (.t 62))])))
  (.region 0 [o 0 63 (.bin .add (.lf .i) (.t 55) (.c (.int .i64 1))),
    o 1 55 (.mv (.t 63))])))
/-- (*burnish/term.Bank).WithPoison -/
def i17 : FnI := ⟨[.tmp 6],
 .seq (.region 0 [o 0 6 (.mv (.c (.int .i64 0)))])
 (.seq (.region 1 [o 0 20 (.mv (.t 0)),
   o 1 21 (.mv (.t 1)),
   o 2 22 (.call (.f 38) [(.t 20), (.t 21)]),
   o 3 19 (.mv (.t 22)),
   o 4 23 (.ext 0 (.t 19)),
   o 5 24 (.ext 1 (.t 19)),
   o 6 7 (.alloc 0 94 [(.int .i64 0), (.int .i64 0), (.slice none 0 0)]),
   ox 7 (.store 3 (.t 7) (.t 23)),
   o 8 8 (.mv (.t 24))])
 (.seq (.region 1 [o 0 26 (.mv (.t 0)),
   o 1 27 (.mv (.t 2)),
   o 2 28 (.call (.f 38) [(.t 26), (.t 27)]),
   o 3 25 (.mv (.t 28)),
   o 4 29 (.ext 0 (.t 25)),
   o 5 30 (.ext 1 (.t 25)),
   o 6 9 (.alloc 0 94 [(.int .i64 0), (.int .i64 0), (.slice none 0 0)]),
   ox 7 (.store 3 (.t 9) (.t 29)),
   o 8 10 (.mv (.t 30))])
 (.seq (.seq (.region 0 [o 0 31 (.mv (.t 8)),
   o 1 32 (.un .not (.t 31)),
   o 2 33 (.mv (.t 32)),
   og 3 34 33 false (.mv (.t 10)),
   og 4 35 33 false (.un .not (.t 34)),
   o 5 36 (.pick (.t 33) (.c (.bool true)) (.t 35))])
 (.cond (.t 36)
  (.seq (.region 0 [o 0 6 (.mv (.c (.int .i64 0)))])
  (.ret))
  (.skip)))
 (.seq (.region 0 [o 0 37 (.faddr 0 (.t 7)),
   o 1 38 (.load false 1 (.t 37)),
   o 2 39 (.faddr 0 (.t 9)),
   o 3 40 (.load false 1 (.t 39)),
   o 4 41 (.bin .eql (.lf .i) (.t 38) (.t 40)),
   o 5 42 (.mv (.t 41)),
   og 6 43 42 true (.faddr 0 (.t 7)),
   og 7 44 42 true (.load false 1 (.t 43)),
   og 8 45 42 true (.bin .eql (.lf .i) (.t 44) (.c (.int .i64 6))),
   og 9 46 42 true (.mv (.t 45)),
   og 10 47 46 false (.faddr 0 (.t 7)),
   og 11 48 46 false (.load false 1 (.t 47)),
   og 12 49 46 false (.bin .eql (.lf .i) (.t 48) (.c (.int .i64 7))),
   og 13 50 42 true (.pick (.t 46) (.c (.bool true)) (.t 49)),
   o 14 51 (.pick (.t 42) (.t 50) (.c (.bool false))),
   o 15 11 (.mv (.t 51))])
 (.seq (.region 0 [o 0 12 (.mv (.c (.slice none 0 0)))])
 (.seq (.seq (.region 0 [o 0 52 (.faddr 2 (.t 9)),
   o 1 53 (.load false 1 (.t 52)),
   o 2 54 (.len (.t 53)),
   o 3 55 (.mv (.c (.int .i64 0)))])
 (.block 0 (.loop i17l0)))
 (.seq (.region 1 [o 0 64 (.faddr 0 (.t 7)),
   o 1 65 (.load false 1 (.t 64)),
   o 2 66 (.faddr 1 (.t 7)),
   o 3 67 (.load false 1 (.t 66)),
   o 4 68 (.build [(.int .i64 0), (.int .i64 0), (.slice none 0 0)] [(0, 1, (.t 65)), (1, 1, (.t 67))]),
   o 5 15 (.alloc 0 94 [(.int .i64 0), (.int .i64 0), (.slice none 0 0)]),
   ox 6 (.store 3 (.t 15) (.t 68))])
 (.seq (.seq (.region 0 [o 0 69 (.faddr 2 (.t 7)),
   o 1 70 (.load false 1 (.t 69)),
   o 2 71 (.len (.t 70)),
   o 3 72 (.mv (.c (.int .i64 0)))])
 (.block 2 (.loop i17l1)))
 (.seq (.region 0 [o 0 98 (.mv (.t 0)),
   o 1 99 (.load true 3 (.t 15)),
   o 2 100 (.call (.f 46) [(.t 98), (.t 99)]),
   o 3 6 (.mv (.t 100))])
 (.ret))))))))))⟩
theorem c17 : cFn Tryz.prog Tryz.f17 = some i17 := by kernel_rfl
/-- (*burnish/term.Bank).ConstValue -/
def i20 : FnI := ⟨[.tmp 4, .tmp 5],
 .seq (.region 0 [o 0 4 (.mv (.c (.int .i64 0))),
   o 1 5 (.mv (.c (.bool false)))])
 (.seq (.region 1 [o 0 9 (.mv (.t 0)),
   o 1 10 (.mv (.t 1)),
   o 2 11 (.call (.f 38) [(.t 9), (.t 10)]),
   o 3 8 (.mv (.t 11)),
   o 4 12 (.ext 0 (.t 8)),
   o 5 13 (.ext 1 (.t 8)),
   o 6 6 (.alloc 0 94 [(.int .i64 0), (.int .i64 0), (.slice none 0 0)]),
   ox 7 (.store 3 (.t 6) (.t 12)),
   o 8 7 (.mv (.t 13))])
 (.seq (.seq (.region 0 [o 0 14 (.mv (.t 7)),
   o 1 15 (.un .not (.t 14)),
   o 2 16 (.mv (.t 15)),
   og 3 17 16 false (.faddr 0 (.t 6)),
   og 4 18 16 false (.load false 1 (.t 17)),
   og 5 19 16 false (.call (.f 51) [(.t 18)]),
   og 6 20 16 false (.bin .eql (.lf .i) (.t 19) (.c (.int .i64 0))),
   o 7 21 (.pick (.t 16) (.c (.bool true)) (.t 20))])
 (.cond (.t 21)
  (.seq (.region 0 [o 0 4 (.mv (.c (.int .i64 0))),
    o 1 5 (.mv (.c (.bool false)))])
  (.ret))
  (.skip)))
 (.seq (.region 0 [o 0 22 (.mv (.t 0)),
   o 1 23 (.nilchk (.t 22)),
   o 2 24 (.faddr 0 (.t 23)),
   o 3 25 (.faddr 2 (.t 6)),
   o 4 26 (.load false 1 (.t 25)),
   o 5 27 (.iaddr 2 (.t 26) (.c (.int .i64 0))),
   o 6 28 (.faddr 0 (.t 27)),
   o 7 29 (.load false 1 (.t 28)),
   o 8 30 (.call (.f 52) [(.t 24), (.t 29)]),
   o 9 31 (.ext 0 (.t 30)),
   o 10 32 (.ext 1 (.t 30)),
   o 11 4 (.mv (.t 31)),
   o 12 5 (.mv (.t 32))])
 (.ret))))⟩
theorem c20 : cFn Tryz.prog Tryz.f20 = some i20 := by kernel_rfl
/-- (*burnish/term.Bank).Type -/
def i21 : FnI := ⟨[.tmp 4],
 .seq (.region 0 [o 0 4 (.mv (.c (.int .i64 0)))])
 (.seq (.region 1 [o 0 8 (.mv (.t 0)),
   o 1 9 (.mv (.t 1)),
   o 2 10 (.call (.f 38) [(.t 8), (.t 9)]),
   o 3 7 (.mv (.t 10)),
   o 4 11 (.ext 0 (.t 7)),
   o 5 12 (.ext 1 (.t 7)),
   o 6 5 (.alloc 0 94 [(.int .i64 0), (.int .i64 0), (.slice none 0 0)]),
   ox 7 (.store 3 (.t 5) (.t 11)),
   o 8 6 (.mv (.t 12))])
 (.seq (.region 0 [o 0 13 (.faddr 0 (.t 5)),
   o 1 14 (.load false 1 (.t 13)),
   o 2 4 (.mv (.t 14))])
 (.ret)))⟩
theorem c21 : cFn Tryz.prog Tryz.f21 = some i21 := by kernel_rfl
def i23l0 : Cd :=
  .seq (.region 0 [o 0 31 (.bin .lss (.lf .i) (.t 30) (.t 29))])
  (.seq (.cond (.t 31)
   (.skip)
   (.exit 0))
  (.seq (.block 1 (.seq (.region 0 [o 0 32 (.mv (.t 30)),
     o 1 12 (.mv (.t 32))])
   (.seq (.region 1 [o 0 33 (.build [(.int .i64 0), (.slice none 0 0)] []),
     o 1 13 (.alloc 0 100 [(.int .i64 0), (.slice none 0 0)]),
     ox 2 (.store 2 (.t 13) (.t 33))])
   (.seq (.seq (.region 0 [o 0 34 (.mv (.t 1)),
     o 1 35 (.bin .eql (.lf .i) (.t 34) (.c (.int .i64 5)))])
   (.cond (.t 35)
    (.seq (.region 0 [o 0 36 (.mv (.t 0)),
      o 1 37 (.nilchk (.t 36)),
      o 2 38 (.faddr 0 (.t 37)),
      o 3 39 (.mv (.t 2)),
      o 4 40 (.mv (.t 3)),
      o 5 41 (.build [(.int .i64 0), (.int .i64 0), (.int .i64 0), (.int .i64 0), (.int .i64 0), (.int .i64 0)] [(0, 1, (.c (.int .i64 2))), (1, 1, (.t 39)), (2, 1, (.t 40))]),
      o 6 42 (.call (.f 56) [(.t 38), (.t 41)]),
      o 7 43 (.faddr 1 (.t 11)),
      ox 8 (.store 1 (.t 43) (.t 42))])
    (.region 0 [o 0 44 (.mv (.t 0)),
      o 1 45 (.nilchk (.t 44)),
      o 2 46 (.faddr 0 (.t 45)),
      o 3 47 (.mv (.t 9)),
      o 4 48 (.call (.f 57) [(.t 46), (.t 47), (.c (.int .i64 0))]),
      o 5 49 (.faddr 0 (.t 13)),
      ox 6 (.store 1 (.t 49) (.t 48))]))
    (.region 0 [o 0 50 (.mv (.t 0)),
      o 1 51 (.nilchk (.t 50)),
      o 2 52 (.faddr 0 (.t 51)),
      o 3 53 (.mv (.t 9)),
      o 4 54 (.mv (.t 2)),
      o 5 55 (.mv (.t 3)),
      o 6 56 (.mv (.t 12)),
      o 7 57 (.mv (.t 1)),
      o 8 58 (.build [(.int .i64 0), (.int .i64 0), (.int .i64 0), (.int .i64 0), (.int .i64 0), (.int .i64 0)] [(1, 1, (.t 53)), (2, 1, (.t 54)), (3, 1, (.t 55)), (4, 1, (.t 56)), (5, 1, (.t 57))]),
      o 9 59 (.call (.f 58) [(.t 52), (.t 58)]),
      o 10 60 (.faddr 0 (.t 13)),
      ox 11 (.store 1 (.t 60) (.t 59))])))
   (.seq (.seq (.region 0 [o 0 61 (.mv (.t 2)),
     o 1 62 (.bin .neq (.lf .i) (.t 61) (.c (.int .i64 3))),
     o 2 63 (.mv (.t 62)),
     og 3 64 63 true (.mv (.t 2)),
     og 4 65 63 true (.bin .neq (.lf .i) (.t 64) (.c (.int .i64 5))),
     o 5 66 (.pick (.t 63) (.t 65) (.c (.bool false)))])
   (.cond (.t 66)
    (.region 1 [o 0 67 (.mv (.t 0)),
      o 1 68 (.mv (.t 1)),
      o 2 69 (.mv (.t 2)),
      o 3 70 (.mv (.t 3)),
      o 4 71 (.mv (.t 12)),
      o 5 72 (.build [(.int .i64 0), (.int .i64 0), (.int .i64 0), (.int .i64 0), (.int .i64 0), (.string ⟨#[]⟩), (.string ⟨#[]⟩)] [(0, 1, (.c (.int .i64 0))), (1, 1, (.t 68)), (2, 1, (.t 69)), (3, 1, (.t 70)), (4, 1, (.t 71))]),
      o 6 73 (.call (.f 59) [(.t 67), (.t 72)]),
      o 7 74 (.bslice 0 3 1 1 [(.int .i64 0)] [(0, 1, (.t 73))]),
      o 8 75 (.faddr 1 (.t 13)),
      ox 9 (.store 1 (.t 75) (.t 74))])
    (.skip)))
   (.region 2 [o 0 76 (.faddr 2 (.t 11)),
     o 1 77 (.load false 1 (.t 76)),
     o 2 78 (.load true 2 (.t 13)),
     o 3 79 (.bslice 0 100 2 1 [(.int .i64 0), (.slice none 0 0)] [(0, 2, (.t 78))]),
     o 4 80 (.append 1 100 2 32 false (.t 77) (.t 79)),
     o 5 81 (.faddr 2 (.t 11)),
     ox 6 (.store 1 (.t 81) (.t 80))]))))))
  (.region 0 [o 0 82 (.bin .add (.lf .i) (.t 30) (.c (.int .i64 1))),
    o 1 30 (.mv (.t 82))])))
/-- (*burnish/term.Bank).Symbol -/
def i23 : FnI := ⟨[.tmp 8],
 .seq (.region 0 [o 0 8 (.mv (.c (.int .i64 0)))])
 (.seq (.seq (.region 0 [o 0 14 (.mv (.t 0)),
   o 1 15 (.call (.f 36) [(.t 14)]),
   o 2 16 (.un .not (.t 15)),
   o 3 17 (.mv (.t 16)),
   og 4 18 17 false (.mv (.t 1)),
   og 5 19 17 false (.call (.f 54) [(.t 18)]),
   og 6 20 17 false (.un .not (.t 19)),
   o 7 21 (.pick (.t 17) (.c (.bool true)) (.t 20))])
 (.cond (.t 21)
  (.seq (.region 0 [o 0 8 (.mv (.c (.int .i64 0)))])
  (.ret))
  (.skip)))
 (.seq (.region 0 [o 0 23 (.mv (.t 1)),
   o 1 24 (.call (.f 55) [(.t 23)]),
   o 2 22 (.mv (.t 24)),
   o 3 25 (.ext 0 (.t 22)),
   o 4 26 (.ext 1 (.t 22)),
   o 5 9 (.mv (.t 25)),
   o 6 10 (.mv (.t 26))])
 (.seq (.region 1 [o 0 27 (.mv (.t 1)),
   o 1 28 (.build [(.int .i64 0), (.int .i64 0), (.slice none 0 0)] [(0, 1, (.t 27))]),
   o 2 11 (.alloc 0 94 [(.int .i64 0), (.int .i64 0), (.slice none 0 0)]),
   ox 3 (.store 3 (.t 11) (.t 28))])
 (.seq (.seq (.region 0 [o 0 29 (.mv (.t 10)),
   o 1 30 (.mv (.c (.int .i64 0)))])
 (.block 0 (.loop i23l0)))
 (.seq (.region 0 [o 0 83 (.mv (.t 0)),
   o 1 84 (.load true 3 (.t 11)),
   o 2 85 (.call (.f 46) [(.t 83), (.t 84)]),
   o 3 8 (.mv (.t 85))])
 (.ret))))))⟩
theorem c23 : cFn Tryz.prog Tryz.f23 = some i23 := by kernel_rfl
/-- (*burnish/term.Bank).Const -/
def i24 : FnI := ⟨[.tmp 6],
 .seq (.region 0 [o 0 6 (.mv (.c (.int .i64 0)))])
 (.seq (.seq (.region 0 [o 0 7 (.mv (.t 0)),
   o 1 8 (.call (.f 36) [(.t 7)]),
   o 2 9 (.un .not (.t 8)),
   o 3 10 (.mv (.t 9)),
   og 4 11 10 false (.mv (.t 1)),
   og 5 12 10 false (.call (.f 51) [(.t 11)]),
   og 6 13 10 false (.bin .eql (.lf .i) (.t 12) (.c (.int .i64 0))),
   o 7 14 (.pick (.t 10) (.c (.bool true)) (.t 13))])
 (.cond (.t 14)
  (.seq (.region 0 [o 0 6 (.mv (.c (.int .i64 0)))])
  (.ret))
  (.skip)))
 (.seq (.region 1 [o 0 15 (.mv (.t 0)),
   o 1 16 (.mv (.t 1)),
   o 2 17 (.mv (.t 0)),
   o 3 18 (.nilchk (.t 17)),
   o 4 19 (.faddr 0 (.t 18)),
   o 5 20 (.mv (.t 1)),
   o 6 21 (.mv (.t 2)),
   o 7 22 (.call (.f 57) [(.t 19), (.t 20), (.t 21)]),
   o 8 23 (.build [(.int .i64 0), (.slice none 0 0)] [(0, 1, (.t 22))]),
   o 9 24 (.bslice 0 100 2 1 [(.int .i64 0), (.slice none 0 0)] [(0, 2, (.t 23))]),
   o 10 25 (.build [(.int .i64 0), (.int .i64 0), (.slice none 0 0)] [(0, 1, (.t 16)), (2, 1, (.t 24))]),
   o 11 26 (.call (.f 46) [(.t 15), (.t 25)]),
   o 12 6 (.mv (.t 26))])
 (.ret)))⟩
theorem c24 : cFn Tryz.prog Tryz.f24 = some i24 := by kernel_rfl
/-- (*burnish/term.Bank).Distance -/
def i25 : FnI := ⟨[.tmp 10],
 .seq (.region 0 [o 0 10 (.mv (.c (.int .i64 0)))])
 (.seq (.region 1 [o 0 18 (.mv (.t 0)),
   o 1 19 (.mv (.t 1)),
   o 2 20 (.call (.f 38) [(.t 18), (.t 19)]),
   o 3 17 (.mv (.t 20)),
   o 4 21 (.ext 0 (.t 17)),
   o 5 22 (.ext 1 (.t 17)),
   o 6 11 (.alloc 0 94 [(.int .i64 0), (.int .i64 0), (.slice none 0 0)]),
   ox 7 (.store 3 (.t 11) (.t 21)),
   o 8 12 (.mv (.t 22))])
 (.seq (.region 1 [o 0 24 (.mv (.t 0)),
   o 1 25 (.mv (.t 2)),
   o 2 26 (.call (.f 38) [(.t 24), (.t 25)]),
   o 3 23 (.mv (.t 26)),
   o 4 27 (.ext 0 (.t 23)),
   o 5 28 (.ext 1 (.t 23)),
   o 6 13 (.alloc 0 94 [(.int .i64 0), (.int .i64 0), (.slice none 0 0)]),
   ox 7 (.store 3 (.t 13) (.t 27)),
   o 8 14 (.mv (.t 28))])
 (.seq (.seq (.region 0 [o 0 29 (.mv (.t 12)),
   o 1 30 (.un .not (.t 29)),
   o 2 31 (.mv (.t 30)),
   og 3 32 31 false (.mv (.t 14)),
   og 4 33 31 false (.un .not (.t 32)),
   o 5 34 (.pick (.t 31) (.c (.bool true)) (.t 33)),
   o 6 35 (.mv (.t 34)),
   og 7 36 35 false (.faddr 0 (.t 11)),
   og 8 37 35 false (.load false 1 (.t 36)),
   og 9 38 35 false (.bin .neq (.lf .i) (.t 37) (.c (.int .i64 5))),
   o 10 39 (.pick (.t 35) (.c (.bool true)) (.t 38)),
   o 11 40 (.mv (.t 39)),
   og 12 41 40 false (.faddr 0 (.t 13)),
   og 13 42 40 false (.load false 1 (.t 41)),
   og 14 43 40 false (.bin .neq (.lf .i) (.t 42) (.c (.int .i64 5))),
   o 15 44 (.pick (.t 40) (.c (.bool true)) (.t 43)),
   o 16 45 (.mv (.t 44)),
   og 17 46 45 false (.mv (.t 3)),
   og 18 47 45 false (.bin .lss (.lf .i) (.t 46) (.c (.int .i64 1))),
   o 19 48 (.pick (.t 45) (.c (.bool true)) (.t 47)),
   o 20 49 (.mv (.t 48)),
   og 21 50 49 false (.mv (.t 4)),
   og 22 51 49 false (.bin .lss (.lf .i) (.t 50) (.c (.int .i64 1))),
   o 23 52 (.pick (.t 49) (.c (.bool true)) (.t 51))])
 (.cond (.t 52)
  (.seq (.region 0 [o 0 10 (.mv (.c (.int .i64 0)))])
  (.ret))
  (.skip)))
 (.seq (.seq (.region 0 [o 0 53 (.mv (.t 0)),
   o 1 54 (.nilchk (.t 53)),
   o 2 55 (.faddr 0 (.t 54)),
   o 3 56 (.faddr 1 (.t 11)),
   o 4 57 (.load false 1 (.t 56)),
   o 5 58 (.faddr 1 (.t 13)),
   o 6 59 (.load false 1 (.t 58)),
   o 7 60 (.call (.f 60) [(.t 55), (.t 57), (.t 59)])])
 (.cond (.t 60)
  (.seq (.region 0 [o 0 10 (.mv (.c (.int .i64 1)))])
  (.ret))
  (.skip)))
 (.seq (.seq (.region 0 [o 0 61 (.faddr 1 (.t 11)),
   o 1 62 (.load false 1 (.t 61)),
   o 2 63 (.faddr 1 (.t 13)),
   o 3 64 (.load false 1 (.t 63)),
   o 4 65 (.bin .neq (.lf .i) (.t 62) (.t 64))])
 (.cond (.t 65)
  (.seq (.region 0 [o 0 10 (.mv (.c (.int .i64 2)))])
  (.ret))
  (.skip)))
 (.seq (.seq (.region 0 [o 0 66 (.faddr 2 (.t 11)),
   o 1 67 (.load false 1 (.t 66)),
   o 2 68 (.iaddr 2 (.t 67) (.c (.int .i64 0))),
   o 3 69 (.faddr 0 (.t 68)),
   o 4 70 (.load false 1 (.t 69)),
   o 5 71 (.faddr 2 (.t 13)),
   o 6 72 (.load false 1 (.t 71)),
   o 7 73 (.iaddr 2 (.t 72) (.c (.int .i64 0))),
   o 8 74 (.faddr 0 (.t 73)),
   o 9 75 (.load false 1 (.t 74)),
   o 10 76 (.bin .eql (.lf .i) (.t 70) (.t 75)),
   o 11 77 (.mv (.t 76)),
   og 12 78 77 true (.mv (.t 3)),
   og 13 79 77 true (.mv (.t 4)),
   og 14 80 77 true (.bin .eql (.lf .i) (.t 78) (.t 79)),
   o 15 81 (.pick (.t 77) (.t 80) (.c (.bool false)))])
 (.cond (.t 81)
  (.seq (.region 0 [o 0 10 (.mv (.c (.int .i64 3)))])
  (.ret))
  (.skip)))
 (.seq (.region 0 [o 3 86 (.mv (.t 0)),
   o 4 87 (.nilchk (.t 86)),
   o 5 88 (.faddr 0 (.t 87)),
   o 6 89 (.faddr 2 (.t 13)),
   o 7 90 (.load false 1 (.t 89)),
   o 8 91 (.iaddr 2 (.t 90) (.c (.int .i64 0))),
   o 9 92 (.faddr 0 (.t 91)),
   o 10 93 (.load false 1 (.t 92)),
   o 11 94 (.faddr 2 (.t 11)),
   o 12 95 (.load false 1 (.t 94)),
   o 13 96 (.iaddr 2 (.t 95) (.c (.int .i64 0))),
   o 14 97 (.faddr 0 (.t 96)),
   o 15 98 (.load false 1 (.t 97)),
   o 16 99 (.call (.f 61) [(.t 88), (.t 93), (.t 98), (.c (.int .i64 (-1)))]),
   o 0 83 (.mv (.t 0)),
   o 1 84 (.nilchk (.t 83)),
   o 2 85 (.faddr 0 (.t 84)),
   o 17 100 (.call (.f 52) [(.t 85), (.t 99)]),
   o 18 82 (.mv (.t 100)),
   o 19 101 (.ext 0 (.t 82)),
   o 20 102 (.ext 1 (.t 82)),
   o 21 15 (.mv (.t 101)),
   o 22 16 (.mv (.t 102))])
 (.seq (.seq (.region 0 [o 0 103 (.mv (.t 16)),
   o 1 104 (.mv (.t 103)),
   og 2 105 104 true (.mv (.t 15)),
   og 3 106 104 true (.mv (.t 3)),
   og 4 107 104 true (.bin .geq (.lf .i) (.t 105) (.t 106)),
   og 5 108 104 true (.mv (.t 107)),
   og 6 109 108 false (.mv (.t 15)),
   og 7 110 108 false (.mv (.t 4)),
   og 8 111 108 false (.un .neg (.t 110)),
   og 9 112 108 false (.bin .leq (.lf .i) (.t 109) (.t 111)),
   og 10 113 104 true (.pick (.t 108) (.c (.bool true)) (.t 112)),
   o 11 114 (.pick (.t 104) (.t 113) (.c (.bool false)))])
 (.cond (.t 114)
  (.seq (.region 0 [o 0 10 (.mv (.c (.int .i64 1)))])
  (.ret))
  (.skip)))
 (.seq (.region 0 [o 0 10 (.mv (.c (.int .i64 2)))])
 (.ret))))))))))⟩
theorem c25 : cFn Tryz.prog Tryz.f25 = some i25 := by kernel_rfl
/-- burnish/burnishlaw29.in -/
def i26 : FnI := ⟨[.cell 4 true 8],
 .seq (.region 1 [o 0 4 (.alloc 0 26 [(.int .i64 0), (.int .i64 0), (.int .i64 0), (.slice none 0 0), (.int .i64 0), (.int .i64 0), (.int .i64 0), (.bool false)])])
 (.seq (.region 0 [o 0 5 (.mv (.t 0)),
   o 1 6 (.mv (.t 1)),
   o 2 7 (.build [(.int .i64 0), (.int .i64 0), (.int .i64 0), (.slice none 0 0), (.int .i64 0), (.int .i64 0), (.int .i64 0), (.bool false)] [(0, 1, (.t 5)), (1, 1, (.t 6))]),
   ox 3 (.store 8 (.t 4) (.t 7))])
 (.ret))⟩
theorem c26 : cFn Tryz.prog Tryz.f26 = some i26 := by kernel_rfl
/-- burnish/term.newForms -/
def i34 : FnI := ⟨[.cell 0 true 6],
 .seq (.region 1 [o 0 0 (.alloc 0 66 [(.slice none 0 0), (.map none), (.slice none 0 0), (.map none), (.slice none 0 0), (.map none)])])
 (.seq (.region 4 [o 0 1 (.mkmap 0),
   o 1 2 (.mkmap 1),
   o 2 3 (.build [(.int .i64 0), (.int .i64 0), (.int .i64 0), (.int .i64 0), (.int .i64 0), (.int .i64 0)] []),
   o 3 4 (.bslice 2 118 6 1 [(.int .i64 0), (.int .i64 0), (.int .i64 0), (.int .i64 0), (.int .i64 0), (.int .i64 0)] [(0, 6, (.t 3))]),
   o 4 5 (.mkmap 3),
   o 5 6 (.build [(.slice none 0 0), (.map none), (.slice none 0 0), (.map none), (.slice none 0 0), (.map none)] [(1, 1, (.t 1)), (3, 1, (.t 2)), (4, 1, (.t 4)), (5, 1, (.t 5))]),
   ox 6 (.store 6 (.t 0) (.t 6))])
 (.ret))⟩
theorem c34 : cFn Tryz.prog Tryz.f34 = some i34 := by kernel_rfl
/-- (*burnish/term.Bank).made -/
def i36 : FnI := ⟨[.tmp 2],
 .seq (.region 0 [o 0 2 (.mv (.c (.bool false)))])
 (.seq (.region 0 [o 0 3 (.mv (.t 0)),
   o 1 4 (.bin .neq .ptr (.t 3) (.c (.pointer none))),
   o 2 5 (.mv (.t 4)),
   og 3 6 5 true (.mv (.t 0)),
   og 4 7 5 true (.nilchk (.t 6)),
   og 5 8 5 true (.faddr 6 (.t 7)),
   og 6 9 5 true (.load false 1 (.t 8)),
   og 7 10 5 true (.bin .neq .mp (.t 9) (.c (.map none))),
   o 8 11 (.pick (.t 5) (.t 10) (.c (.bool false))),
   o 9 2 (.mv (.t 11))])
 (.ret))⟩
theorem c36 : cFn Tryz.prog Tryz.f36 = some i36 := by kernel_rfl
def i37l1 : Cd :=
  .seq (.region 0 [o 0 41 (.bin .lss (.lf .i) (.t 40) (.t 39))])
  (.seq (.cond (.t 41)
   (.skip)
   (.exit 2))
  (.seq (.block 3 (.seq (.region 0 [o 0 42 (.mv (.t 40)),
     o 1 43 (.iaddr 1 (.t 38) (.t 40)),
     o 2 44 (.load false 1 (.t 43)),
     o 3 9 (.mv (.t 42)),
     o 4 10 (.mv (.t 44))])
   (.seq (.region 0 [o 0 45 (.mv (.t 10)),
     o 1 46 (.bin .neq (.lf .i) (.t 45) (.c (.int .i64 0))),
     o 2 47 (.mv (.t 46)),
     og 5 50 47 true (.mv (.t 0)),
     og 6 51 47 true (.mv (.t 10)),
     ⟨7, (some 52), (some (47, true)), .call (.f 21) [(.t 50), (.t 51)], [], true⟩,
     og 8 53 47 true (.mv (.t 0)),
     og 9 54 47 true (.mv (.t 2)),
     og 10 55 47 true (.iaddr 1 (.t 54) (.c (.int .i64 0))),
     ⟨11, (some 56), (some (47, true)), .load false 1 (.t 55), [7], false⟩,
     ⟨12, (some 57), (some (47, true)), .call (.f 21) [(.t 53), (.t 56)], [], true⟩,
     ⟨3, (some 48), (some (47, true)), .load true 8 (.t 4), [7, 12], false⟩,
     og 4 49 47 true (.mv (.t 9)),
     og 13 58 47 true (.call (.f 76) [(.t 48), (.t 49), (.t 52), (.t 57)]),
     og 14 59 47 true (.un .not (.t 58)),
     o 15 60 (.pick (.t 47) (.t 59) (.c (.bool false)))])
   (.cond (.t 60)
    (.seq (.region 0 [o 0 6 (.mv (.c (.int .i64 9)))])
    (.ret))
    (.skip)))))
  (.region 0 [o 0 61 (.bin .add (.lf .i) (.t 40) (.c (.int .i64 1))),
    o 1 40 (.mv (.t 61))])))
def i37l0 : Cd :=
  .seq (.region 0 [o 0 20 (.bin .lss (.lf .i) (.t 19) (.t 18))])
  (.seq (.cond (.t 20)
   (.skip)
   (.exit 0))
  (.seq (.block 1 (.seq (.region 0 [o 0 21 (.iaddr 1 (.t 17) (.t 19)),
     o 1 22 (.load false 1 (.t 21)),
     o 2 8 (.mv (.t 22))])
   (.seq (.region 0 [o 0 23 (.mv (.t 8)),
     o 1 24 (.bin .lss (.lf .i) (.t 23) (.c (.int .i64 0))),
     o 2 25 (.mv (.t 24)),
     og 3 26 25 false (.mv (.t 8)),
     og 4 27 25 false (.mv (.t 0)),
     og 5 28 25 false (.nilchk (.t 27)),
     og 6 29 25 false (.faddr 7 (.t 28)),
     og 7 30 25 false (.load false 1 (.t 29)),
     og 8 31 25 false (.len (.t 30)),
     og 9 32 25 false (.bin .gtr (.lf .i) (.t 26) (.t 31)),
     o 10 33 (.pick (.t 25) (.c (.bool true)) (.t 32))])
   (.cond (.t 33)
    (.seq (.region 0 [o 0 6 (.mv (.c (.int .i64 8)))])
    (.ret))
    (.skip)))))
  (.region 0 [o 0 34 (.bin .add (.lf .i) (.t 19) (.c (.int .i64 1))),
    o 1 19 (.mv (.t 34))])))
/-- (*burnish/term.Bank).check -/
def i37 : FnI := ⟨[.tmp 6],
 .seq (.region 1 [o 0 4 (.box 0 26 (.t 1)),
   o 1 6 (.mv (.c (.int .i64 0)))])
 (.seq (.seq (.region 0 [o 0 11 (.load true 8 (.t 4)),
   o 1 12 (.call (.f 74) [(.t 11)]),
   o 2 13 (.mv (.t 2)),
   o 3 14 (.len (.t 13)),
   o 4 15 (.call (.f 53) [(.t 12), (.t 14)]),
   o 5 16 (.un .not (.t 15))])
 (.cond (.t 16)
  (.seq (.region 0 [o 0 6 (.mv (.c (.int .i64 2)))])
  (.ret))
  (.skip)))
 (.seq (.seq (.region 0 [o 0 17 (.mv (.t 2)),
   o 1 18 (.len (.t 17)),
   o 2 19 (.mv (.c (.int .i64 0)))])
 (.block 0 (.loop i37l0)))
 (.seq (.seq (.region 0 [o 0 35 (.load true 8 (.t 4)),
   o 1 36 (.call (.f 75) [(.t 35)]),
   o 2 37 (.un .not (.t 36))])
 (.cond (.t 37)
  (.seq (.region 0 [o 0 6 (.mv (.c (.int .i64 9)))])
  (.ret))
  (.skip)))
 (.seq (.seq (.region 0 [o 0 38 (.mv (.t 2)),
   o 1 39 (.len (.t 38)),
   o 2 40 (.mv (.c (.int .i64 0)))])
 (.block 2 (.loop i37l1)))
 (.seq (.region 0 [o 0 6 (.mv (.c (.int .i64 0)))])
 (.ret))))))⟩
theorem c37 : cFn Tryz.prog Tryz.f37 = some i37 := by kernel_rfl
/-- (*burnish/term.Bank).get -/
def i38 : FnI := ⟨[.cell 4 true 3, .tmp 5],
 .seq (.region 1 [o 0 4 (.alloc 0 94 [(.int .i64 0), (.int .i64 0), (.slice none 0 0)]),
   o 1 5 (.mv (.c (.bool false)))])
 (.seq (.seq (.region 0 [o 0 6 (.mv (.t 0)),
   o 1 7 (.call (.f 36) [(.t 6)]),
   o 2 8 (.un .not (.t 7)),
   o 3 9 (.mv (.t 8)),
   og 4 10 9 false (.mv (.t 1)),
   og 5 11 9 false (.bin .lss (.lf .i) (.t 10) (.c (.int .i64 1))),
   o 6 12 (.pick (.t 9) (.c (.bool true)) (.t 11)),
   o 7 13 (.mv (.t 12)),
   og 8 14 13 false (.mv (.t 1)),
   og 9 15 13 false (.mv (.t 0)),
   og 10 16 13 false (.nilchk (.t 15)),
   og 11 17 13 false (.faddr 7 (.t 16)),
   og 12 18 13 false (.load false 1 (.t 17)),
   og 13 19 13 false (.len (.t 18)),
   og 14 20 13 false (.bin .gtr (.lf .i) (.t 14) (.t 19)),
   o 15 21 (.pick (.t 13) (.c (.bool true)) (.t 20))])
 (.cond (.t 21)
  (.seq (.region 0 [o 0 22 (.build [(.int .i64 0), (.int .i64 0), (.slice none 0 0)] []),
    ox 1 (.store 3 (.t 4) (.t 22)),
    o 2 5 (.mv (.c (.bool false)))])
  (.ret))
  (.skip)))
 (.seq (.region 0 [o 0 23 (.mv (.t 0)),
   o 1 24 (.nilchk (.t 23)),
   o 2 25 (.faddr 7 (.t 24)),
   o 3 26 (.load false 1 (.t 25)),
   o 4 27 (.mv (.t 1)),
   o 5 28 (.bin .sub (.lf .i) (.t 27) (.c (.int .i64 1))),
   o 6 29 (.iaddr 3 (.t 26) (.t 28)),
   o 7 30 (.load true 3 (.t 29)),
   ox 8 (.store 3 (.t 4) (.t 30)),
   o 9 5 (.mv (.c (.bool true)))])
 (.ret)))⟩
theorem c38 : cFn Tryz.prog Tryz.f38 = some i38 := by kernel_rfl
def i39l0 : Cd :=
  .seq (.region 0 [o 0 114 (.bin .lss (.lf .i) (.t 113) (.t 112))])
  (.seq (.cond (.t 114)
   (.skip)
   (.exit 1))
  (.seq (.block 2 (.seq (.region 1 [o 0 115 (.iaddr 3 (.t 111) (.t 113)),
     o 1 116 (.load true 3 (.t 115)),
     o 2 11 (.alloc 0 94 [(.int .i64 0), (.int .i64 0), (.slice none 0 0)]),
     ox 3 (.store 3 (.t 11) (.t 116))])
   (.seq (.region 1 [o 0 117 (.mv (.t 0)),
     o 1 118 (.call (.f 78) [(.t 117), (.c (.int .i64 3))]),
     o 2 12 (.alloc 0 100 [(.int .i64 0), (.slice none 0 0)]),
     ox 3 (.store 2 (.t 12) (.t 118))])
   (.seq (.seq (.region 0 [o 0 119 (.faddr 0 (.t 11)),
     o 1 120 (.load false 1 (.t 119)),
     o 2 121 (.bin .neq (.lf .i) (.t 120) (.c (.int .i64 0)))])
   (.cond (.t 121)
    (.region 0 [o 0 122 (.faddr 2 (.t 11)),
      o 1 123 (.load false 1 (.t 122)),
      o 2 124 (.iaddr 2 (.t 123) (.c (.int .i64 0))),
      o 3 125 (.load true 2 (.t 124)),
      ox 4 (.store 2 (.t 12) (.t 125))])
    (.skip)))
   (.region 2 [o 0 126 (.faddr 2 (.t 7)),
     o 1 127 (.load false 1 (.t 126)),
     o 2 128 (.load true 2 (.t 12)),
     o 3 129 (.bslice 0 100 2 1 [(.int .i64 0), (.slice none 0 0)] [(0, 2, (.t 128))]),
     o 4 130 (.append 1 100 2 32 false (.t 127) (.t 129)),
     o 5 131 (.faddr 2 (.t 7)),
     ox 6 (.store 1 (.t 131) (.t 130))])))))
  (.region 0 [o 0 132 (.bin .add (.lf .i) (.t 113) (.c (.int .i64 1))),
    o 1 113 (.mv (.t 132))])))
/-- (*burnish/term.Bank).apply -/
def i39 : FnI := ⟨[.tmp 6],
 .seq (.region 1 [o 0 4 (.box 0 26 (.t 1)),
   o 1 6 (.mv (.c (.int .i64 0)))])
 (.seq (.region 1 [o 0 14 (.faddr 1 (.t 4)),
   o 1 15 (.load false 1 (.t 14)),
   o 2 16 (.build [(.int .i64 0), (.int .i64 0), (.slice none 0 0)] [(0, 1, (.t 15))]),
   o 3 7 (.alloc 0 94 [(.int .i64 0), (.int .i64 0), (.slice none 0 0)]),
   ox 4 (.store 3 (.t 7) (.t 16))])
 (.seq (.seq (.region 0 [o 0 17 (.faddr 0 (.t 4)),
   o 1 18 (.load false 1 (.t 17))])
 (.block 0 (.seq (.region 0 [o 0 32 (.bin .eql (.lf .i) (.t 18) (.c (.int .i64 2))),
    o 1 31 (.mv (.t 32))])
  (.cond (.t 31)
   (.seq (.region 0 [o 0 6 (.mv (.c (.int .i64 0)))])
   (.ret))
   (.seq (.region 0 [o 0 34 (.bin .eql (.lf .i) (.t 18) (.c (.int .i64 1))),
     o 1 33 (.mv (.t 34))])
   (.cond (.t 33)
    (.seq (.region 0 [o 0 35 (.mv (.t 0)),
      o 1 36 (.faddr 1 (.t 4)),
      o 2 37 (.load false 1 (.t 36)),
      o 3 38 (.faddr 4 (.t 4)),
      o 4 39 (.load false 1 (.t 38)),
      o 5 40 (.call (.f 24) [(.t 35), (.t 37), (.t 39)]),
      o 6 6 (.mv (.t 40))])
    (.ret))
    (.seq (.region 0 [o 0 42 (.bin .eql (.lf .i) (.t 18) (.c (.int .i64 4))),
      o 1 41 (.mv (.t 42))])
    (.cond (.t 41)
     (.seq (.region 0 [o 7 50 (.mv (.t 2)),
       o 8 51 (.iaddr 3 (.t 50) (.c (.int .i64 0))),
       o 9 52 (.faddr 2 (.t 51)),
       o 10 53 (.load false 1 (.t 52)),
       ⟨11, (some 54), none, .call (.f 77) [(.t 53)], [], true⟩,
       o 0 43 (.mv (.t 0)),
       o 1 44 (.faddr 1 (.t 4)),
       ⟨2, (some 45), none, .load false 1 (.t 44), [11], false⟩,
       o 3 46 (.mv (.t 2)),
       o 4 47 (.iaddr 3 (.t 46) (.c (.int .i64 0))),
       o 5 48 (.faddr 1 (.t 47)),
       ⟨6, (some 49), none, .load false 1 (.t 48), [11], false⟩,
       o 12 55 (.build [(.int .i64 0), (.int .i64 0), (.slice none 0 0)] [(0, 1, (.t 45)), (1, 1, (.t 49)), (2, 1, (.t 54))]),
       o 13 56 (.call (.f 46) [(.t 43), (.t 55)]),
       o 14 6 (.mv (.t 56))])
     (.ret))
     (.seq (.region 0 [o 0 58 (.bin .eql (.lf .i) (.t 18) (.c (.int .i64 25))),
       o 1 57 (.mv (.t 58))])
     (.cond (.t 57)
      (.seq (.region 0 [o 0 59 (.mv (.t 0)),
        o 1 60 (.nilchk (.t 59)),
        o 2 61 (.faddr 0 (.t 60)),
        o 3 62 (.faddr 5 (.t 4)),
        o 4 63 (.load false 1 (.t 62)),
        o 5 64 (.build [(.int .i64 0), (.int .i64 0), (.int .i64 0), (.int .i64 0), (.int .i64 0), (.int .i64 0)] [(0, 1, (.c (.int .i64 1))), (1, 1, (.t 63))]),
        o 6 65 (.call (.f 56) [(.t 61), (.t 64)]),
        o 7 66 (.faddr 1 (.t 7)),
        ox 8 (.store 1 (.t 66) (.t 65))])
      (.region 1 [o 0 67 (.mv (.t 0)),
        o 1 68 (.nilchk (.t 67)),
        o 2 69 (.faddr 0 (.t 68)),
        o 3 70 (.call (.f 57) [(.t 69), (.c (.int .i64 4)), (.c (.int .i64 0))]),
        o 4 71 (.build [(.int .i64 0), (.slice none 0 0)] [(0, 1, (.t 70))]),
        o 5 72 (.bslice 0 100 2 1 [(.int .i64 0), (.slice none 0 0)] [(0, 2, (.t 71))]),
        o 6 73 (.faddr 2 (.t 7)),
        ox 7 (.store 1 (.t 73) (.t 72))]))
      (.seq (.region 0 [o 0 75 (.bin .eql (.lf .i) (.t 18) (.c (.int .i64 27))),
        o 1 74 (.mv (.t 75))])
      (.cond (.t 74)
       (.seq (.region 2 [o 0 76 (.mv (.t 2)),
         o 1 77 (.iaddr 3 (.t 76) (.c (.int .i64 0))),
         o 2 78 (.faddr 2 (.t 77)),
         o 3 79 (.load false 1 (.t 78)),
         o 4 80 (.iaddr 2 (.t 79) (.c (.int .i64 0))),
         o 5 81 (.load true 2 (.t 80)),
         o 6 82 (.mv (.t 2)),
         o 7 83 (.iaddr 3 (.t 82) (.c (.int .i64 1))),
         o 8 84 (.faddr 2 (.t 83)),
         ⟨9, (some 85), none, .load false 1 (.t 84), [], true⟩,
         o 10 86 (.iaddr 2 (.t 85) (.c (.int .i64 0))),
         ⟨11, (some 87), none, .load true 2 (.t 86), [], true⟩,
         o 12 8 (.alloc 0 100 [(.int .i64 0), (.slice none 0 0)]),
         o 13 9 (.alloc 1 100 [(.int .i64 0), (.slice none 0 0)]),
         ⟨14, none, none, .store 2 (.t 8) (.t 81), [9, 11], false⟩,
         ox 15 (.store 2 (.t 9) (.t 87))])
       (.seq (.region 0 [o 0 88 (.mv (.t 2)),
         o 1 89 (.iaddr 3 (.t 88) (.c (.int .i64 0))),
         o 2 90 (.faddr 1 (.t 89)),
         o 3 91 (.load false 1 (.t 90)),
         o 4 92 (.faddr 1 (.t 7)),
         ox 5 (.store 1 (.t 92) (.t 91))])
       (.region 1 [o 0 93 (.mv (.t 0)),
         o 1 94 (.nilchk (.t 93)),
         o 2 95 (.faddr 0 (.t 94)),
         o 3 96 (.faddr 0 (.t 8)),
         o 4 97 (.load false 1 (.t 96)),
         o 5 98 (.faddr 0 (.t 9)),
         o 6 99 (.load false 1 (.t 98)),
         ⟨7, (some 100), none, .call (.f 61) [(.t 95), (.t 97), (.t 99), (.c (.int .i64 1))], [], true⟩,
         o 8 101 (.faddr 1 (.t 8)),
         ⟨9, (some 102), none, .load false 1 (.t 101), [7], false⟩,
         o 10 103 (.faddr 1 (.t 9)),
         ⟨11, (some 104), none, .load false 1 (.t 103), [7], false⟩,
         o 12 105 (.call (.f 45) [(.t 102), (.t 104)]),
         o 13 106 (.build [(.int .i64 0), (.slice none 0 0)] [(0, 1, (.t 100)), (1, 1, (.t 105))]),
         o 14 107 (.bslice 0 100 2 1 [(.int .i64 0), (.slice none 0 0)] [(0, 2, (.t 106))]),
         o 15 108 (.faddr 2 (.t 7)),
         ox 16 (.store 1 (.t 108) (.t 107))])))
       (.seq (.region 0 [o 0 110 (.bin .eql (.lf .i) (.t 18) (.c (.int .i64 32))),
         o 1 109 (.mv (.t 110))])
       (.cond (.t 109)
        (.seq (.region 0 [o 0 111 (.mv (.t 2)),
          o 1 112 (.len (.t 111)),
          o 2 113 (.mv (.c (.int .i64 0)))])
        (.block 1 (.loop i39l0)))
        (.seq (.region 0 [o 0 134 (.bin .eql (.lf .i) (.t 18) (.c (.int .i64 33))),
          o 1 133 (.mv (.t 134))])
        (.cond (.t 133)
         (.region 1 [o 0 135 (.mv (.t 2)),
           o 1 136 (.iaddr 3 (.t 135) (.c (.int .i64 0))),
           o 2 137 (.faddr 2 (.t 136)),
           o 3 138 (.load false 1 (.t 137)),
           o 4 139 (.faddr 4 (.t 4)),
           o 5 140 (.load false 1 (.t 139)),
           o 6 141 (.iaddr 2 (.t 138) (.t 140)),
           o 7 142 (.load true 2 (.t 141)),
           o 8 143 (.bslice 0 100 2 1 [(.int .i64 0), (.slice none 0 0)] [(0, 2, (.t 142))]),
           o 9 144 (.faddr 2 (.t 7)),
           ox 10 (.store 1 (.t 144) (.t 143))])
         (.seq (.region 0 [o 0 146 (.bin .eql (.lf .i) (.t 18) (.c (.int .i64 21))),
           o 1 145 (.mv (.t 146))])
         (.cond (.t 145)
          (.seq (.region 0 [o 0 147 (.mv (.t 0)),
            o 1 148 (.faddr 1 (.t 4)),
            o 2 149 (.load false 1 (.t 148)),
            o 3 150 (.mv (.t 2)),
            o 4 151 (.iaddr 3 (.t 150) (.c (.int .i64 0))),
            o 5 152 (.faddr 2 (.t 151)),
            o 6 153 (.load false 1 (.t 152)),
            o 7 154 (.iaddr 2 (.t 153) (.c (.int .i64 0))),
            o 8 155 (.load true 2 (.t 154)),
            o 9 156 (.mv (.t 2)),
            o 10 157 (.iaddr 3 (.t 156) (.c (.int .i64 1))),
            o 11 158 (.load true 3 (.t 157)),
            o 12 159 (.mv (.t 2)),
            o 13 160 (.iaddr 3 (.t 159) (.c (.int .i64 2))),
            o 14 161 (.load true 3 (.t 160)),
            o 15 162 (.call (.f 79) [(.t 147), (.t 149), (.t 155), (.t 158), (.t 161)]),
            o 16 6 (.mv (.t 162))])
          (.ret))
          (.seq (.seq (.region 0 [o 0 164 (.bin .eql (.lf .i) (.t 18) (.c (.int .i64 22))),
            o 1 163 (.mv (.t 164))])
          (.cond (.t 163)
           (.skip)
           (.seq (.region 0 [o 0 165 (.bin .eql (.lf .i) (.t 18) (.c (.int .i64 23))),
             o 1 163 (.mv (.t 165))])
           (.cond (.t 163)
            (.skip)
            (.region 0 [o 0 166 (.bin .eql (.lf .i) (.t 18) (.c (.int .i64 24))),
              o 1 163 (.mv (.t 166))])))))
          (.cond (.t 163)
           (.seq (.region 1 [o 0 167 (.mv (.t 2)),
             o 1 168 (.iaddr 3 (.t 167) (.c (.int .i64 0))),
             o 2 169 (.faddr 2 (.t 168)),
             o 3 170 (.load false 1 (.t 169)),
             o 4 171 (.iaddr 2 (.t 170) (.c (.int .i64 0))),
             o 5 172 (.load true 2 (.t 171)),
             o 6 13 (.alloc 0 100 [(.int .i64 0), (.slice none 0 0)]),
             ox 7 (.store 2 (.t 13) (.t 172))])
           (.region 1 [o 0 173 (.mv (.t 0)),
             o 1 174 (.nilchk (.t 173)),
             o 2 175 (.faddr 0 (.t 174)),
             o 3 176 (.faddr 0 (.t 4)),
             o 4 177 (.load false 1 (.t 176)),
             o 5 178 (.faddr 1 (.t 4)),
             o 6 179 (.load false 1 (.t 178)),
             o 7 180 (.faddr 0 (.t 13)),
             o 8 181 (.load false 1 (.t 180)),
             ⟨9, (some 182), none, .call (.f 80) [(.t 175), (.t 177), (.t 179), (.t 181)], [], true⟩,
             o 10 183 (.faddr 1 (.t 13)),
             ⟨11, (some 184), none, .load false 1 (.t 183), [9], false⟩,
             o 12 185 (.build [(.int .i64 0), (.slice none 0 0)] [(0, 1, (.t 182)), (1, 1, (.t 184))]),
             o 13 186 (.bslice 0 100 2 1 [(.int .i64 0), (.slice none 0 0)] [(0, 2, (.t 185))]),
             o 14 187 (.faddr 2 (.t 7)),
             ox 15 (.store 1 (.t 187) (.t 186))]))
           (.seq (.seq (.region 0 [o 0 189 (.bin .eql (.lf .i) (.t 18) (.c (.int .i64 16))),
             o 1 188 (.mv (.t 189))])
           (.cond (.t 188)
            (.skip)
            (.seq (.region 0 [o 0 190 (.bin .eql (.lf .i) (.t 18) (.c (.int .i64 17))),
              o 1 188 (.mv (.t 190))])
            (.cond (.t 188)
             (.skip)
             (.seq (.region 0 [o 0 191 (.bin .eql (.lf .i) (.t 18) (.c (.int .i64 18))),
               o 1 188 (.mv (.t 191))])
             (.cond (.t 188)
              (.skip)
              (.seq (.region 0 [o 0 192 (.bin .eql (.lf .i) (.t 18) (.c (.int .i64 19))),
                o 1 188 (.mv (.t 192))])
              (.cond (.t 188)
               (.skip)
               (.region 0 [o 0 193 (.bin .eql (.lf .i) (.t 18) (.c (.int .i64 20))),
                 o 1 188 (.mv (.t 193))])))))))))
           (.cond (.t 188)
            (.region 1 [o 0 194 (.mv (.t 0)),
              o 1 195 (.faddr 0 (.t 4)),
              o 2 196 (.load false 1 (.t 195)),
              o 3 197 (.mv (.t 2)),
              o 4 198 (.iaddr 3 (.t 197) (.c (.int .i64 0))),
              o 5 199 (.load true 3 (.t 198)),
              o 6 200 (.mv (.t 2)),
              o 7 201 (.iaddr 3 (.t 200) (.c (.int .i64 1))),
              o 8 202 (.load true 3 (.t 201)),
              o 9 203 (.call (.f 81) [(.t 194), (.t 196), (.t 199), (.t 202)]),
              o 10 204 (.bslice 0 100 2 1 [(.int .i64 0), (.slice none 0 0)] [(0, 2, (.t 203))]),
              o 11 205 (.faddr 2 (.t 7)),
              ox 12 (.store 1 (.t 205) (.t 204))])
            (.region 0 [o 0 19 (.mv (.t 0)),
              o 1 20 (.mv (.t 2)),
              o 2 21 (.iaddr 3 (.t 20) (.c (.int .i64 0))),
              o 3 22 (.load true 3 (.t 21)),
              o 4 23 (.mv (.t 2)),
              o 5 24 (.iaddr 3 (.t 23) (.c (.int .i64 1))),
              o 6 25 (.load true 3 (.t 24)),
              o 7 26 (.mv (.t 0)),
              o 8 27 (.load true 8 (.t 4)),
              o 9 28 (.build [(.pointer none), (.int .i64 0), (.int .i64 0), (.int .i64 0), (.slice none 0 0), (.int .i64 0), (.int .i64 0), (.int .i64 0), (.bool false)] [(0, 1, (.t 26)), (1, 8, (.t 27))]),
              o 10 29 (.mkfn (.func 83) [(.t 28)] []),
              o 11 30 (.call (.f 82) [(.t 19), (.t 7), (.t 22), (.t 25), (.t 29)])])))))))))))))))))))))))
 (.seq (.region 0 [o 0 206 (.mv (.t 0)),
   o 1 207 (.load true 3 (.t 7)),
   o 2 208 (.call (.f 46) [(.t 206), (.t 207)]),
   o 3 6 (.mv (.t 208))])
 (.ret))))⟩
theorem c39 : cFn Tryz.prog Tryz.f39 = some i39 := by kernel_rfl
def i40l0 : Cd :=
  .seq (.region 0 [o 0 18 (.bin .lss (.lf .i) (.t 17) (.t 16))])
  (.seq (.cond (.t 18)
   (.skip)
   (.exit 0))
  (.seq (.block 1 (.seq (.region 1 [o 0 19 (.mv (.t 17)),
     o 1 20 (.iaddr 2 (.t 15) (.t 17)),
     o 2 21 (.load true 2 (.t 20)),
     o 3 8 (.alloc 0 100 [(.int .i64 0), (.slice none 0 0)]),
     o 4 7 (.mv (.t 19)),
     ox 5 (.store 2 (.t 8) (.t 21))])
   (.seq (.region 1 [o 0 22 (.mv (.t 1)),
     o 1 23 (.mv (.t 7)),
     o 2 24 (.iaddr 2 (.t 22) (.t 23)),
     o 3 25 (.load true 2 (.t 24)),
     o 4 9 (.alloc 0 100 [(.int .i64 0), (.slice none 0 0)]),
     ox 5 (.store 2 (.t 9) (.t 25))])
   (.seq (.region 0 [o 0 26 (.mv (.t 2)),
     o 1 27 (.load true 2 (.t 8)),
     o 2 28 (.load true 2 (.t 9)),
     o 3 29 (.call (.t 26) [(.t 27), (.t 28)]),
     o 4 30 (.un .not (.t 29))])
   (.cond (.t 30)
    (.seq (.region 0 [o 0 6 (.mv (.c (.bool false)))])
    (.ret))
    (.skip))))))
  (.region 0 [o 0 31 (.bin .add (.lf .i) (.t 17) (.c (.int .i64 1))),
    o 1 17 (.mv (.t 31))])))
/-- slices.EqualFunc[[]burnish/term.lane,[]burnish/term.lane,burnish/term.lane,burnish/term.lane] -/
def i40 : FnI := ⟨[.tmp 6],
 .seq (.region 0 [o 0 6 (.mv (.c (.bool false)))])
 (.seq (.seq (.region 0 [o 0 10 (.mv (.t 0)),
   o 1 11 (.len (.t 10)),
   o 2 12 (.mv (.t 1)),
   o 3 13 (.len (.t 12)),
   o 4 14 (.bin .neq (.lf .i) (.t 11) (.t 13))])
 (.cond (.t 14)
  (.seq (.region 0 [o 0 6 (.mv (.c (.bool false)))])
  (.ret))
  (.skip)))
 (.seq (.seq (.region 0 [o 0 15 (.mv (.t 0)),
   o 1 16 (.len (.t 15)),
   o 2 17 (.mv (.c (.int .i64 0)))])
 (.block 0 (.loop i40l0)))
 (.seq (.region 0 [o 0 6 (.mv (.c (.bool true)))])
 (.ret))))⟩
theorem c40 : cFn Tryz.prog Tryz.f40 = some i40 := by kernel_rfl
/-- (*burnish/term.Bank).SameValue$1 -/
def i41 : FnI := ⟨[.tmp 4],
 .seq (.region 2 [o 0 2 (.box 0 100 (.t 0)),
   o 1 3 (.box 1 100 (.t 1)),
   o 2 4 (.mv (.c (.bool false)))])
 (.seq (.region 0 [o 0 5 (.faddr 0 (.t 2)),
   o 1 6 (.load false 1 (.t 5)),
   o 2 7 (.faddr 0 (.t 3)),
   o 3 8 (.load false 1 (.t 7)),
   o 4 9 (.bin .eql (.lf .i) (.t 6) (.t 8)),
   o 5 4 (.mv (.t 9))])
 (.ret))⟩
theorem c41 : cFn Tryz.prog Tryz.f41 = some i41 := by kernel_rfl
/-- slices.Clone[[]int,int] -/
def i42 : FnI := ⟨[.tmp 2],
 .seq (.region 0 [o 0 2 (.mv (.c (.slice none 0 0)))])
 (.seq (.seq (.region 0 [o 0 3 (.mv (.t 0)),
   o 1 4 (.bin .eql .slc (.t 3) (.c (.slice none 0 0)))])
 (.cond (.t 4)
  (.seq (.region 0 [o 0 2 (.mv (.c (.slice none 0 0)))])
  (.ret))
  (.skip)))
 (.seq (.region 2 [o 0 5 (.bslice 0 3 1 0 [] []),
   o 1 6 (.mv (.t 0)),
   o 2 7 (.append 1 3 1 8 false (.t 5) (.t 6)),
   o 3 2 (.mv (.t 7))])
 (.ret)))⟩
theorem c42 : cFn Tryz.prog Tryz.f42 = some i42 := by kernel_rfl
/-- slices.Sort[[]int,int] -/
def i43 : FnI := ⟨[],
 .seq (.region 0 [o 0 3 (.mv (.t 0)),
   o 1 4 (.len (.t 3)),
   o 2 2 (.mv (.t 4))])
 (.region 0 [o 0 5 (.mv (.t 0)),
   o 1 6 (.mv (.t 2)),
   o 2 7 (.mv (.t 2)),
   o 3 8 (.conv .u64 (.t 7)),
   o 4 9 (.call (.f 85) [(.t 8)]),
   o 5 10 (.call (.f 84) [(.t 5), (.c (.int .i64 0)), (.t 6), (.t 9)])])⟩
theorem c43 : cFn Tryz.prog Tryz.f43 = some i43 := by kernel_rfl
/-- burnish/term.decimal -/
def i44 : FnI := ⟨[.tmp 2],
 .seq (.region 0 [o 0 2 (.mv (.c (.string ⟨#[]⟩)))])
 (.seq (.region 0 [o 0 3 (.mv (.t 0)),
   o 1 4 (.call (.f 86) [(.t 3)]),
   o 2 2 (.mv (.t 4))])
 (.ret))⟩
theorem c44 : cFn Tryz.prog Tryz.f44 = some i44 := by kernel_rfl
/-- burnish/term.union -/
def i45 : FnI := ⟨[.tmp 4],
 .seq (.region 0 [o 0 4 (.mv (.c (.slice none 0 0)))])
 (.seq (.region 1 [o 0 6 (.mv (.t 0)),
   o 1 7 (.call (.f 42) [(.t 6)]),
   o 2 8 (.mv (.t 1)),
   o 3 9 (.append 0 3 1 8 false (.t 7) (.t 8)),
   o 4 5 (.mv (.t 9))])
 (.seq (.region 0 [o 0 10 (.mv (.t 5)),
   o 1 11 (.call (.f 43) [(.t 10)])])
 (.seq (.region 0 [o 0 12 (.mv (.t 5)),
   o 1 13 (.call (.f 87) [(.t 12)]),
   o 2 4 (.mv (.t 13))])
 (.ret))))⟩
theorem c45 : cFn Tryz.prog Tryz.f45 = some i45 := by kernel_rfl
def i46l0 : Cd :=
  .seq (.region 0 [o 0 13 (.bin .lss (.lf .i) (.t 12) (.t 11))])
  (.seq (.cond (.t 13)
   (.skip)
   (.exit 0))
  (.seq (.block 1 (.seq (.region 1 [o 0 14 (.mv (.t 12)),
     o 1 15 (.iaddr 2 (.t 10) (.t 12)),
     o 2 16 (.load true 2 (.t 15)),
     o 3 8 (.alloc 0 100 [(.int .i64 0), (.slice none 0 0)]),
     o 4 7 (.mv (.t 14)),
     ox 5 (.store 2 (.t 8) (.t 16))])
   (.seq (.region 0 [o 0 17 (.mv (.t 5)),
     o 1 18 (.load true 2 (.t 8)),
     o 2 19 (.call (.t 17) [(.t 18)])])
   (.cond (.t 19)
    (.region 1 [o 3 23 (.mv (.t 0)),
      o 4 24 (.nilchk (.t 23)),
      o 5 25 (.faddr 0 (.t 24)),
      ⟨6, (some 26), none, .call (.f 57) [(.t 25), (.c (.int .i64 3)), (.c (.int .i64 0))], [], true⟩,
      o 0 20 (.faddr 2 (.t 3)),
      ⟨1, (some 21), none, .load false 1 (.t 20), [6], false⟩,
      o 2 22 (.mv (.t 7)),
      o 7 27 (.bslice 0 3 1 1 [(.int .i64 0)] [(0, 1, (.c (.int .i64 0)))]),
      o 8 28 (.build [(.int .i64 0), (.slice none 0 0)] [(0, 1, (.t 26)), (1, 1, (.t 27))]),
      o 9 29 (.iaddr 2 (.t 21) (.t 22)),
      ox 10 (.store 2 (.t 29) (.t 28))])
    (.region 0 [o 0 6 (.mv (.c (.bool false)))])))))
  (.region 0 [o 0 30 (.bin .add (.lf .i) (.t 12) (.c (.int .i64 1))),
    o 1 12 (.mv (.t 30))])))
/-- (*burnish/term.Bank).add -/
def i46 : FnI := ⟨[.tmp 4],
 .seq (.region 1 [o 0 3 (.box 0 94 (.t 1)),
   o 1 4 (.mv (.c (.int .i64 0)))])
 (.seq (.region 0 [o 0 5 (.mv (.f 88))])
 (.seq (.region 0 [o 0 6 (.mv (.c (.bool true)))])
 (.seq (.seq (.region 0 [o 0 9 (.faddr 2 (.t 3)),
   o 1 10 (.load false 1 (.t 9)),
   o 2 11 (.len (.t 10)),
   o 3 12 (.mv (.c (.int .i64 0)))])
 (.block 0 (.loop i46l0)))
 (.seq (.seq (.region 0 [o 0 31 (.mv (.t 6))])
 (.cond (.t 31)
  (.seq (.region 0 [o 0 4 (.mv (.c (.int .i64 0)))])
  (.ret))
  (.skip)))
 (.seq (.region 2 [o 1 33 (.mv (.t 0)),
   o 2 34 (.nilchk (.t 33)),
   o 3 35 (.faddr 7 (.t 34)),
   o 4 36 (.load false 1 (.t 35)),
   o 5 37 (.load true 3 (.t 3)),
   o 6 38 (.bslice 0 94 3 1 [(.int .i64 0), (.int .i64 0), (.slice none 0 0)] [(0, 3, (.t 37))]),
   o 7 39 (.append 1 94 3 40 false (.t 36) (.t 38)),
   o 0 32 (.mv (.t 0)),
   o 8 40 (.nilchk (.t 32)),
   o 9 41 (.faddr 7 (.t 40)),
   ox 10 (.store 1 (.t 41) (.t 39))])
 (.seq (.region 0 [o 0 42 (.mv (.t 0)),
   o 1 43 (.nilchk (.t 42)),
   o 2 44 (.faddr 7 (.t 43)),
   o 3 45 (.load false 1 (.t 44)),
   o 4 46 (.len (.t 45)),
   o 5 4 (.mv (.t 46))])
 (.ret)))))))⟩
theorem c46 : cFn Tryz.prog Tryz.f46 = some i46 := by kernel_rfl
/-- burnish/intn.Bits -/
def i51 : FnI := ⟨[.tmp 2],
 .seq (.region 0 [o 0 2 (.mv (.c (.int .i64 0)))])
 (.seq (.seq (.region 0 [o 0 3 (.mv (.t 0)),
   o 1 4 (.bin .lss (.lf .i) (.t 3) (.c (.int .i64 0))),
   o 2 5 (.mv (.t 4)),
   og 3 6 5 false (.mv (.t 0)),
   og 4 7 5 false (.bin .geq (.lf .i) (.t 6) (.c (.int .i64 5))),
   o 5 8 (.pick (.t 5) (.c (.bool true)) (.t 7))])
 (.cond (.t 8)
  (.seq (.region 0 [o 0 2 (.mv (.c (.int .i64 0)))])
  (.ret))
  (.skip)))
 (.seq (.region 0 [o 0 9 (.mv (.t 0)),
   o 1 10 (.aaddr 5 1 (.gl 0) (.t 9)),
   o 2 11 (.load false 1 (.t 10)),
   o 3 2 (.mv (.t 11))])
 (.ret)))⟩
theorem c51 : cFn Tryz.prog Tryz.f51 = some i51 := by kernel_rfl
/-- (*burnish/term.forms).value -/
def i52 : FnI := ⟨[.tmp 4, .tmp 5],
 .seq (.region 0 [o 0 4 (.mv (.c (.int .i64 0))),
   o 1 5 (.mv (.c (.bool false)))])
 (.seq (.region 1 [o 0 7 (.mv (.t 0)),
   o 1 8 (.nilchk (.t 7)),
   o 2 9 (.faddr 2 (.t 8)),
   o 3 10 (.load false 1 (.t 9)),
   o 4 11 (.mv (.t 1)),
   o 5 12 (.iaddr 2 (.t 10) (.t 11)),
   o 6 13 (.load true 2 (.t 12)),
   o 7 6 (.alloc 0 182 [(.int .i64 0), (.slice none 0 0)]),
   ox 8 (.store 2 (.t 6) (.t 13))])
 (.seq (.block 0 (.seq (.region 0 [o 0 15 (.faddr 1 (.t 6)),
    o 1 16 (.load false 1 (.t 15)),
    o 2 17 (.len (.t 16)),
    o 3 18 (.bin .eql (.lf .i) (.t 17) (.c (.int .i64 0))),
    o 4 14 (.mv (.t 18))])
  (.cond (.t 14)
   (.seq (.region 0 [o 0 4 (.mv (.c (.int .i64 0))),
     o 1 5 (.mv (.c (.bool true)))])
   (.ret))
   (.seq (.region 0 [o 0 20 (.faddr 1 (.t 6)),
     o 1 21 (.load false 1 (.t 20)),
     o 2 22 (.len (.t 21)),
     o 3 23 (.bin .eql (.lf .i) (.t 22) (.c (.int .i64 1))),
     o 4 24 (.mv (.t 23)),
     og 5 25 24 true (.faddr 1 (.t 6)),
     og 6 26 24 true (.load false 1 (.t 25)),
     og 7 27 24 true (.iaddr 2 (.t 26) (.c (.int .i64 0))),
     og 8 28 24 true (.faddr 1 (.t 27)),
     og 9 29 24 true (.load false 1 (.t 28)),
     og 10 30 24 true (.len (.t 29)),
     og 11 31 24 true (.bin .eql (.lf .i) (.t 30) (.c (.int .i64 0))),
     o 12 32 (.pick (.t 24) (.t 31) (.c (.bool false))),
     o 13 19 (.mv (.t 32))])
   (.cond (.t 19)
    (.seq (.region 0 [o 0 33 (.faddr 0 (.t 6)),
      o 1 34 (.load false 1 (.t 33)),
      o 2 35 (.faddr 1 (.t 6)),
      o 3 36 (.load false 1 (.t 35)),
      o 4 37 (.iaddr 2 (.t 36) (.c (.int .i64 0))),
      o 5 38 (.faddr 0 (.t 37)),
      o 6 39 (.load false 1 (.t 38)),
      o 7 40 (.conv .i64 (.t 39)),
      o 8 41 (.call (.f 102) [(.t 34), (.t 40)]),
      o 9 4 (.mv (.t 41)),
      o 10 5 (.mv (.c (.bool true)))])
    (.ret))
    (.skip))))))
 (.seq (.region 0 [o 0 4 (.mv (.c (.int .i64 0))),
   o 1 5 (.mv (.c (.bool false)))])
 (.ret))))⟩
theorem c52 : cFn Tryz.prog Tryz.f52 = some i52 := by kernel_rfl
/-- slices.Contains[[]int,int] -/
def i53 : FnI := ⟨[.tmp 4],
 .seq (.region 0 [o 0 4 (.mv (.c (.bool false)))])
 (.seq (.region 0 [o 0 5 (.mv (.t 0)),
   o 1 6 (.mv (.t 1)),
   o 2 7 (.call (.f 103) [(.t 5), (.t 6)]),
   o 3 8 (.bin .geq (.lf .i) (.t 7) (.c (.int .i64 0))),
   o 4 4 (.mv (.t 8))])
 (.ret))⟩
theorem c53 : cFn Tryz.prog Tryz.f53 = some i53 := by kernel_rfl
/-- burnish/term.valid -/
def i54 : FnI := ⟨[.tmp 2],
 .seq (.region 0 [o 0 2 (.mv (.c (.bool false)))])
 (.seq (.region 0 [o 0 3 (.mv (.t 0)),
   o 1 4 (.bin .geq (.lf .i) (.t 3) (.c (.int .i64 1))),
   o 2 5 (.mv (.t 4)),
   og 3 6 5 true (.mv (.t 0)),
   og 4 7 5 true (.bin .leq (.lf .i) (.t 6) (.c (.int .i64 7))),
   o 5 8 (.pick (.t 5) (.t 7) (.c (.bool false))),
   o 6 2 (.mv (.t 8))])
 (.ret))⟩
theorem c54 : cFn Tryz.prog Tryz.f54 = some i54 := by kernel_rfl
/-- burnish/term.laneTypes -/
def i55 : FnI := ⟨[.tmp 2, .tmp 3],
 .seq (.region 0 [o 0 2 (.mv (.c (.int .i64 0))),
   o 1 3 (.mv (.c (.int .i64 0)))])
 (.seq (.seq (.region 0 [o 0 4 (.mv (.t 0))])
 (.block 0 (.seq (.region 0 [o 0 6 (.bin .eql (.lf .i) (.t 4) (.c (.int .i64 5))),
    o 1 5 (.mv (.t 6))])
  (.cond (.t 5)
   (.seq (.region 0 [o 0 2 (.mv (.c (.int .i64 4))),
     o 1 3 (.mv (.c (.int .i64 1)))])
   (.ret))
   (.seq (.region 0 [o 0 8 (.bin .eql (.lf .i) (.t 4) (.c (.int .i64 6))),
     o 1 7 (.mv (.t 8))])
   (.cond (.t 7)
    (.seq (.region 0 [o 0 2 (.mv (.c (.int .i64 3))),
      o 1 3 (.mv (.c (.int .i64 2)))])
    (.ret))
    (.seq (.region 0 [o 0 10 (.bin .eql (.lf .i) (.t 4) (.c (.int .i64 7))),
      o 1 9 (.mv (.t 10))])
    (.cond (.t 9)
     (.seq (.region 0 [o 0 2 (.mv (.c (.int .i64 3))),
       o 1 3 (.mv (.c (.int .i64 4)))])
     (.ret))
     (.skip)))))))))
 (.seq (.region 0 [o 0 11 (.mv (.t 0)),
   o 1 2 (.mv (.t 11)),
   o 2 3 (.mv (.c (.int .i64 1)))])
 (.ret)))⟩
theorem c55 : cFn Tryz.prog Tryz.f55 = some i55 := by kernel_rfl
/-- (*burnish/term.forms).base -/
def i56 : FnI := ⟨[.tmp 4],
 .seq (.region 1 [o 0 3 (.box 0 118 (.t 1)),
   o 1 4 (.mv (.c (.int .i64 0)))])
 (.seq (.region 0 [o 0 8 (.mv (.t 0)),
   o 1 9 (.nilchk (.t 8)),
   o 2 10 (.faddr 5 (.t 9)),
   o 3 11 (.load false 1 (.t 10)),
   o 4 12 (.load true 6 (.t 3)),
   o 5 13 (.lookup (.cells [.i, .i, .i, .i, .i, .i]) (.int .i64 0) true (.t 11) (.t 12)),
   o 6 7 (.mv (.t 13)),
   o 7 14 (.ext 0 (.t 7)),
   o 8 15 (.ext 1 (.t 7)),
   o 9 5 (.mv (.t 14)),
   o 10 6 (.mv (.t 15))])
 (.seq (.seq (.region 0 [o 0 16 (.mv (.t 6)),
   o 1 17 (.un .not (.t 16))])
 (.cond (.t 17)
  (.seq (.region 0 [o 0 18 (.mv (.t 0)),
    o 1 19 (.nilchk (.t 18)),
    o 2 20 (.faddr 4 (.t 19)),
    o 3 21 (.load false 1 (.t 20)),
    o 4 22 (.len (.t 21)),
    o 5 5 (.mv (.t 22))])
  (.seq (.region 2 [o 1 24 (.mv (.t 0)),
    o 2 25 (.nilchk (.t 24)),
    o 3 26 (.faddr 4 (.t 25)),
    o 4 27 (.load false 1 (.t 26)),
    o 5 28 (.load true 6 (.t 3)),
    o 6 29 (.bslice 0 118 6 1 [(.int .i64 0), (.int .i64 0), (.int .i64 0), (.int .i64 0), (.int .i64 0), (.int .i64 0)] [(0, 6, (.t 28))]),
    o 7 30 (.append 1 118 6 48 false (.t 27) (.t 29)),
    o 0 23 (.mv (.t 0)),
    o 8 31 (.nilchk (.t 23)),
    o 9 32 (.faddr 4 (.t 31)),
    ox 10 (.store 1 (.t 32) (.t 30))])
  (.region 0 [o 0 33 (.mv (.t 0)),
    o 1 34 (.nilchk (.t 33)),
    o 2 35 (.faddr 5 (.t 34)),
    o 3 36 (.load false 1 (.t 35)),
    o 4 37 (.load true 6 (.t 3)),
    o 5 38 (.mv (.t 5)),
    ox 6 (.mapset (.cells [.i, .i, .i, .i, .i, .i]) (.t 36) (.t 37) (.t 38))])))
  (.skip)))
 (.seq (.region 0 [o 0 39 (.mv (.t 5)),
   o 1 4 (.mv (.t 39))])
 (.ret))))⟩
theorem c56 : cFn Tryz.prog Tryz.f56 = some i56 := by kernel_rfl
/-- (*burnish/term.forms).constant -/
def i57 : FnI := ⟨[.tmp 6],
 .seq (.region 0 [o 0 6 (.mv (.c (.int .i64 0)))])
 (.seq (.region 1 [o 0 7 (.mv (.t 0)),
   o 1 8 (.mv (.t 1)),
   o 2 9 (.mv (.t 2)),
   o 3 10 (.conv .u64 (.t 9)),
   o 4 11 (.build [(.int .u64 0), (.slice none 0 0)] [(0, 1, (.t 10))]),
   o 5 12 (.bslice 0 184 2 1 [(.int .u64 0), (.slice none 0 0)] [(0, 2, (.t 11))]),
   o 6 13 (.call (.f 104) [(.t 7), (.t 8), (.t 12)]),
   o 7 6 (.mv (.t 13))])
 (.ret))⟩
theorem c57 : cFn Tryz.prog Tryz.f57 = some i57 := by kernel_rfl
/-- (*burnish/term.forms).single -/
def i58 : FnI := ⟨[.tmp 4],
 .seq (.region 1 [o 0 3 (.box 0 122 (.t 1)),
   o 1 4 (.mv (.c (.int .i64 0)))])
 (.seq (.region 0 [o 0 8 (.mv (.t 0)),
   o 1 9 (.nilchk (.t 8)),
   o 2 10 (.faddr 1 (.t 9)),
   o 3 11 (.load false 1 (.t 10)),
   o 4 12 (.load true 6 (.t 3)),
   o 5 13 (.lookup (.cells [.i, .i, .i, .i, .i, .i]) (.int .i64 0) true (.t 11) (.t 12)),
   o 6 7 (.mv (.t 13)),
   o 7 14 (.ext 0 (.t 7)),
   o 8 15 (.ext 1 (.t 7)),
   o 9 5 (.mv (.t 14)),
   o 10 6 (.mv (.t 15))])
 (.seq (.seq (.region 0 [o 0 16 (.mv (.t 6)),
   o 1 17 (.un .not (.t 16))])
 (.cond (.t 17)
  (.seq (.region 0 [o 0 18 (.mv (.t 0)),
    o 1 19 (.nilchk (.t 18)),
    o 2 20 (.faddr 0 (.t 19)),
    o 3 21 (.load false 1 (.t 20)),
    o 4 22 (.len (.t 21)),
    o 5 5 (.mv (.t 22))])
  (.seq (.region 2 [o 1 24 (.mv (.t 0)),
    o 2 25 (.nilchk (.t 24)),
    o 3 26 (.faddr 0 (.t 25)),
    o 4 27 (.load false 1 (.t 26)),
    o 5 28 (.load true 6 (.t 3)),
    o 6 29 (.bslice 0 122 6 1 [(.int .i64 0), (.int .i64 0), (.int .i64 0), (.int .i64 0), (.int .i64 0), (.int .i64 0)] [(0, 6, (.t 28))]),
    o 7 30 (.append 1 122 6 48 false (.t 27) (.t 29)),
    o 0 23 (.mv (.t 0)),
    o 8 31 (.nilchk (.t 23)),
    o 9 32 (.faddr 0 (.t 31)),
    ox 10 (.store 1 (.t 32) (.t 30))])
  (.region 0 [o 0 33 (.mv (.t 0)),
    o 1 34 (.nilchk (.t 33)),
    o 2 35 (.faddr 1 (.t 34)),
    o 3 36 (.load false 1 (.t 35)),
    o 4 37 (.load true 6 (.t 3)),
    o 5 38 (.mv (.t 5)),
    ox 6 (.mapset (.cells [.i, .i, .i, .i, .i, .i]) (.t 36) (.t 37) (.t 38))])))
  (.skip)))
 (.seq (.region 2 [o 0 39 (.mv (.t 0)),
   o 1 40 (.faddr 1 (.t 3)),
   o 2 41 (.load false 1 (.t 40)),
   o 3 42 (.mv (.t 5)),
   o 4 43 (.bslice 0 3 1 1 [(.int .i64 0)] [(0, 1, (.t 42))]),
   o 5 44 (.build [(.int .u64 0), (.slice none 0 0)] [(0, 1, (.c (.int .u64 1))), (1, 1, (.t 43))]),
   o 6 45 (.bslice 1 184 2 1 [(.int .u64 0), (.slice none 0 0)] [(0, 2, (.t 44))]),
   o 7 46 (.call (.f 104) [(.t 39), (.t 41), (.t 45)]),
   o 8 4 (.mv (.t 46))])
 (.ret))))⟩
theorem c58 : cFn Tryz.prog Tryz.f58 = some i58 := by kernel_rfl
/-- (*burnish/term.Bank).number -/
def i59 : FnI := ⟨[.tmp 4],
 .seq (.region 1 [o 0 3 (.box 0 125 (.t 1)),
   o 1 4 (.mv (.c (.int .i64 0)))])
 (.seq (.region 0 [o 0 8 (.mv (.t 0)),
   o 1 9 (.nilchk (.t 8)),
   o 2 10 (.faddr 6 (.t 9)),
   o 3 11 (.load false 1 (.t 10)),
   o 4 12 (.load true 7 (.t 3)),
   o 5 13 (.lookup (.cells [.i, .i, .i, .i, .i, .s, .s]) (.int .i64 0) true (.t 11) (.t 12)),
   o 6 7 (.mv (.t 13)),
   o 7 14 (.ext 0 (.t 7)),
   o 8 15 (.ext 1 (.t 7)),
   o 9 5 (.mv (.t 14)),
   o 10 6 (.mv (.t 15))])
 (.seq (.seq (.region 0 [o 0 16 (.mv (.t 6)),
   o 1 17 (.un .not (.t 16))])
 (.cond (.t 17)
  (.seq (.region 0 [o 0 18 (.mv (.t 0)),
    o 1 19 (.nilchk (.t 18)),
    o 2 20 (.faddr 6 (.t 19)),
    o 3 21 (.load false 1 (.t 20)),
    o 4 22 (.maplen (.t 21)),
    o 5 23 (.bin .add (.lf .i) (.t 22) (.c (.int .i64 1))),
    o 6 5 (.mv (.t 23))])
  (.region 0 [o 0 24 (.mv (.t 0)),
    o 1 25 (.nilchk (.t 24)),
    o 2 26 (.faddr 6 (.t 25)),
    o 3 27 (.load false 1 (.t 26)),
    o 4 28 (.load true 7 (.t 3)),
    o 5 29 (.mv (.t 5)),
    ox 6 (.mapset (.cells [.i, .i, .i, .i, .i, .s, .s]) (.t 27) (.t 28) (.t 29))]))
  (.skip)))
 (.seq (.region 0 [o 0 30 (.mv (.t 5)),
   o 1 4 (.mv (.t 30))])
 (.ret))))⟩
theorem c59 : cFn Tryz.prog Tryz.f59 = some i59 := by kernel_rfl
/-- (*burnish/term.forms).distinct -/
def i60 : FnI := ⟨[.tmp 6],
 .seq (.region 0 [o 0 6 (.mv (.c (.bool false)))])
 (.seq (.region 2 [o 0 9 (.mv (.t 0)),
   o 1 10 (.nilchk (.t 9)),
   o 2 11 (.faddr 4 (.t 10)),
   o 3 12 (.load false 1 (.t 11)),
   o 4 13 (.mv (.t 1)),
   o 5 14 (.iaddr 6 (.t 12) (.t 13)),
   o 6 15 (.load true 6 (.t 14)),
   o 7 16 (.mv (.t 0)),
   o 8 17 (.nilchk (.t 16)),
   o 9 18 (.faddr 4 (.t 17)),
   ⟨10, (some 19), none, .load false 1 (.t 18), [], true⟩,
   o 11 20 (.mv (.t 2)),
   o 12 21 (.iaddr 6 (.t 19) (.t 20)),
   ⟨13, (some 22), none, .load true 6 (.t 21), [], true⟩,
   o 14 7 (.alloc 0 118 [(.int .i64 0), (.int .i64 0), (.int .i64 0), (.int .i64 0), (.int .i64 0), (.int .i64 0)]),
   o 15 8 (.alloc 1 118 [(.int .i64 0), (.int .i64 0), (.int .i64 0), (.int .i64 0), (.int .i64 0), (.int .i64 0)]),
   ⟨16, none, none, .store 6 (.t 7) (.t 15), [10, 13], false⟩,
   ox 17 (.store 6 (.t 8) (.t 22))])
 (.seq (.seq (.region 0 [o 0 23 (.load true 6 (.t 7)),
   o 1 24 (.load true 6 (.t 8)),
   o 2 25 (.bin .eql (.cells [.i, .i, .i, .i, .i, .i]) (.t 23) (.t 24))])
 (.cond (.t 25)
  (.seq (.region 0 [o 0 6 (.mv (.c (.bool false)))])
  (.ret))
  (.skip)))
 (.seq (.seq (.region 0 [o 0 26 (.load true 6 (.t 7)),
   o 1 27 (.call (.f 105) [(.t 26)])])
 (.cond (.t 27)
  (.region 0 [o 0 28 (.load true 6 (.t 8)),
    o 1 29 (.load true 6 (.t 7)),
    ox 2 (.store 6 (.t 7) (.t 28)),
    ox 3 (.store 6 (.t 8) (.t 29))])
  (.skip)))
 (.seq (.region 0 [o 0 30 (.load true 6 (.t 7)),
   o 1 31 (.call (.f 106) [(.t 30)]),
   o 2 32 (.mv (.t 31)),
   og 3 33 32 true (.load true 6 (.t 8)),
   og 4 34 32 true (.call (.f 106) [(.t 33)]),
   o 5 35 (.pick (.t 32) (.t 34) (.c (.bool false))),
   o 6 36 (.mv (.t 35)),
   og 7 37 36 false (.load true 6 (.t 8)),
   og 8 38 36 false (.call (.f 105) [(.t 37)]),
   og 9 39 36 false (.mv (.t 38)),
   og 10 40 39 true (.load true 6 (.t 7)),
   og 11 41 39 true (.call (.f 106) [(.t 40)]),
   og 12 42 39 true (.mv (.t 41)),
   og 13 43 42 false (.load true 6 (.t 7)),
   og 14 44 42 false (.call (.f 105) [(.t 43)]),
   og 15 45 39 true (.pick (.t 42) (.c (.bool true)) (.t 44)),
   og 16 46 39 true (.mv (.t 45)),
   og 17 47 46 false (.load true 6 (.t 7)),
   og 18 48 46 false (.call (.f 107) [(.t 47)]),
   og 19 49 39 true (.pick (.t 46) (.c (.bool true)) (.t 48)),
   og 20 50 36 false (.pick (.t 39) (.t 49) (.c (.bool false))),
   o 21 51 (.pick (.t 36) (.c (.bool true)) (.t 50)),
   o 22 6 (.mv (.t 51))])
 (.ret)))))⟩
theorem c60 : cFn Tryz.prog Tryz.f60 = some i60 := by kernel_rfl
def i61l0 : Cd :=
  .seq (.region 0 [o 0 31 (.bin .lss (.lf .i) (.t 30) (.t 29))])
  (.seq (.cond (.t 31)
   (.skip)
   (.exit 0))
  (.seq (.block 1 (.seq (.region 1 [o 0 32 (.iaddr 2 (.t 28) (.t 30)),
     o 1 33 (.load true 2 (.t 32)),
     o 2 11 (.alloc 0 184 [(.int .u64 0), (.slice none 0 0)]),
     ox 3 (.store 2 (.t 11) (.t 33))])
   (.region 2 [o 0 34 (.mv (.t 9)),
     o 1 35 (.faddr 0 (.t 11)),
     o 2 36 (.load false 1 (.t 35)),
     o 3 37 (.mv (.t 3)),
     o 4 38 (.conv .u64 (.t 37)),
     o 5 39 (.bin .mul (.lf .i) (.t 36) (.t 38)),
     o 6 40 (.faddr 1 (.t 11)),
     o 7 41 (.load false 1 (.t 40)),
     o 8 42 (.build [(.int .u64 0), (.slice none 0 0)] [(0, 1, (.t 39)), (1, 1, (.t 41))]),
     o 9 43 (.bslice 0 184 2 1 [(.int .u64 0), (.slice none 0 0)] [(0, 2, (.t 42))]),
     o 10 44 (.append 1 184 2 32 false (.t 34) (.t 43)),
     o 11 9 (.mv (.t 44))])))
  (.region 0 [o 0 45 (.bin .add (.lf .i) (.t 30) (.c (.int .i64 1))),
    o 1 30 (.mv (.t 45))])))
/-- (*burnish/term.forms).sum -/
def i61 : FnI := ⟨[.tmp 8],
 .seq (.region 0 [o 0 8 (.mv (.c (.int .i64 0)))])
 (.seq (.region 0 [o 0 12 (.mv (.t 0)),
   o 1 13 (.nilchk (.t 12)),
   o 2 14 (.faddr 2 (.t 13)),
   o 3 15 (.load false 1 (.t 14)),
   o 4 16 (.mv (.t 1)),
   o 5 17 (.iaddr 2 (.t 15) (.t 16)),
   o 6 18 (.faddr 1 (.t 17)),
   o 7 19 (.load false 1 (.t 18)),
   o 8 20 (.call (.f 108) [(.t 19)]),
   o 9 9 (.mv (.t 20))])
 (.seq (.seq (.region 0 [o 0 21 (.mv (.t 0)),
   o 1 22 (.nilchk (.t 21)),
   o 2 23 (.faddr 2 (.t 22)),
   o 3 24 (.load false 1 (.t 23)),
   o 4 25 (.mv (.t 2)),
   o 5 26 (.iaddr 2 (.t 24) (.t 25)),
   o 6 27 (.faddr 1 (.t 26)),
   o 7 28 (.load false 1 (.t 27)),
   o 8 29 (.len (.t 28)),
   o 9 30 (.mv (.c (.int .i64 0)))])
 (.block 0 (.loop i61l0)))
 (.seq (.region 0 [o 0 46 (.mv (.t 0)),
   o 1 47 (.mv (.t 0)),
   o 2 48 (.nilchk (.t 47)),
   o 3 49 (.faddr 2 (.t 48)),
   o 4 50 (.load false 1 (.t 49)),
   o 5 51 (.mv (.t 1)),
   o 6 52 (.iaddr 2 (.t 50) (.t 51)),
   o 7 53 (.faddr 0 (.t 52)),
   o 8 54 (.load false 1 (.t 53)),
   o 9 55 (.mv (.t 9)),
   o 10 56 (.call (.f 104) [(.t 46), (.t 54), (.t 55)]),
   o 11 8 (.mv (.t 56))])
 (.ret))))⟩
theorem c61 : cFn Tryz.prog Tryz.f61 = some i61 := by kernel_rfl
/-- burnish/term.arity -/
def i74 : FnI := ⟨[.tmp 2],
 .seq (.region 1 [o 0 1 (.box 0 26 (.t 0)),
   o 1 2 (.mv (.c (.slice none 0 0)))])
 (.seq (.seq (.region 0 [o 0 3 (.faddr 0 (.t 1)),
   o 1 4 (.load false 1 (.t 3))])
 (.block 0 (.seq (.seq (.region 0 [o 0 6 (.bin .eql (.lf .i) (.t 4) (.c (.int .i64 1))),
    o 1 5 (.mv (.t 6))])
  (.cond (.t 5)
   (.skip)
   (.seq (.region 0 [o 0 7 (.bin .eql (.lf .i) (.t 4) (.c (.int .i64 2))),
     o 1 5 (.mv (.t 7))])
   (.cond (.t 5)
    (.skip)
    (.region 0 [o 0 8 (.bin .eql (.lf .i) (.t 4) (.c (.int .i64 25))),
      o 1 5 (.mv (.t 8))])))))
  (.cond (.t 5)
   (.seq (.region 1 [o 0 9 (.bslice 0 3 1 1 [(.int .i64 0)] [(0, 1, (.c (.int .i64 0)))]),
     o 1 2 (.mv (.t 9))])
   (.ret))
   (.seq (.seq (.region 0 [o 0 11 (.bin .eql (.lf .i) (.t 4) (.c (.int .i64 4))),
     o 1 10 (.mv (.t 11))])
   (.cond (.t 10)
    (.skip)
    (.seq (.region 0 [o 0 12 (.bin .eql (.lf .i) (.t 4) (.c (.int .i64 22))),
      o 1 10 (.mv (.t 12))])
    (.cond (.t 10)
     (.skip)
     (.seq (.region 0 [o 0 13 (.bin .eql (.lf .i) (.t 4) (.c (.int .i64 23))),
       o 1 10 (.mv (.t 13))])
     (.cond (.t 10)
      (.skip)
      (.seq (.region 0 [o 0 14 (.bin .eql (.lf .i) (.t 4) (.c (.int .i64 24))),
        o 1 10 (.mv (.t 14))])
      (.cond (.t 10)
       (.skip)
       (.region 0 [o 0 15 (.bin .eql (.lf .i) (.t 4) (.c (.int .i64 33))),
         o 1 10 (.mv (.t 15))])))))))))
   (.cond (.t 10)
    (.seq (.region 1 [o 0 16 (.bslice 0 3 1 1 [(.int .i64 0)] [(0, 1, (.c (.int .i64 1)))]),
      o 1 2 (.mv (.t 16))])
    (.ret))
    (.seq (.region 0 [o 0 18 (.bin .eql (.lf .i) (.t 4) (.c (.int .i64 21))),
      o 1 17 (.mv (.t 18))])
    (.cond (.t 17)
     (.seq (.region 1 [o 0 19 (.bslice 0 3 1 1 [(.int .i64 0)] [(0, 1, (.c (.int .i64 3)))]),
       o 1 2 (.mv (.t 19))])
     (.ret))
     (.seq (.region 0 [o 0 21 (.bin .eql (.lf .i) (.t 4) (.c (.int .i64 32))),
       o 1 20 (.mv (.t 21))])
     (.cond (.t 20)
      (.seq (.seq (.region 0 [o 0 22 (.faddr 1 (.t 1)),
        o 1 23 (.load false 1 (.t 22))])
      (.block 1 (.seq (.region 0 [o 0 25 (.bin .eql (.lf .i) (.t 23) (.c (.int .i64 6))),
         o 1 24 (.mv (.t 25))])
       (.cond (.t 24)
        (.seq (.region 1 [o 0 26 (.bslice 0 3 1 1 [(.int .i64 0)] [(0, 1, (.c (.int .i64 2)))]),
          o 1 2 (.mv (.t 26))])
        (.ret))
        (.seq (.region 0 [o 0 28 (.bin .eql (.lf .i) (.t 23) (.c (.int .i64 7))),
          o 1 27 (.mv (.t 28))])
        (.cond (.t 27)
         (.seq (.region 1 [o 0 29 (.bslice 0 3 1 1 [(.int .i64 0)] [(0, 1, (.c (.int .i64 4)))]),
           o 1 2 (.mv (.t 29))])
         (.ret))
         (.skip)))))))
      (.seq (.region 1 [o 0 30 (.bslice 0 3 1 2 [(.int .i64 0), (.int .i64 0)] [(0, 1, (.c (.int .i64 2))), (1, 1, (.c (.int .i64 4)))]),
        o 1 2 (.mv (.t 30))])
      (.ret)))
      (.skip)))))))))))
 (.seq (.seq (.region 0 [o 0 31 (.faddr 0 (.t 1)),
   o 1 32 (.load false 1 (.t 31)),
   o 2 33 (.bin .eql (.lf .i) (.t 32) (.c (.int .i64 27))),
   o 3 34 (.mv (.t 33)),
   og 4 35 34 false (.faddr 0 (.t 1)),
   og 5 36 34 false (.load false 1 (.t 35)),
   og 6 37 34 false (.bin .neq (.lf .i) (.t 36) (.c (.int .i64 3))),
   og 7 38 34 false (.mv (.t 37)),
   og 8 39 38 true (.faddr 0 (.t 1)),
   og 9 40 38 true (.load false 1 (.t 39)),
   og 10 41 38 true (.call (.f 122) [(.t 40)]),
   og 11 42 34 false (.pick (.t 38) (.t 41) (.c (.bool false))),
   o 12 43 (.pick (.t 34) (.c (.bool true)) (.t 42))])
 (.cond (.t 43)
  (.seq (.region 1 [o 0 44 (.bslice 0 3 1 1 [(.int .i64 0)] [(0, 1, (.c (.int .i64 2)))]),
    o 1 2 (.mv (.t 44))])
  (.ret))
  (.skip)))
 (.seq (.region 0 [o 0 2 (.mv (.c (.slice none 0 0)))])
 (.ret))))⟩
theorem c74 : cFn Tryz.prog Tryz.f74 = some i74 := by kernel_rfl
/-- burnish/term.result -/
def i75 : FnI := ⟨[.tmp 2],
 .seq (.region 1 [o 0 1 (.box 0 26 (.t 0)),
   o 1 2 (.mv (.c (.bool false)))])
 (.seq (.region 0 [o 0 4 (.faddr 1 (.t 1)),
   o 1 5 (.load false 1 (.t 4)),
   o 2 3 (.mv (.t 5))])
 (.seq (.seq (.region 0 [o 0 6 (.faddr 0 (.t 1)),
   o 1 7 (.load false 1 (.t 6))])
 (.block 0 (.seq (.region 0 [o 0 9 (.bin .eql (.lf .i) (.t 7) (.c (.int .i64 1))),
    o 1 8 (.mv (.t 9))])
  (.cond (.t 8)
   (.seq (.region 0 [o 0 10 (.mv (.t 3)),
     o 1 11 (.call (.f 123) [(.t 10)]),
     o 2 12 (.mv (.t 11)),
     og 3 13 12 true (.mv (.t 3)),
     og 4 14 12 true (.faddr 4 (.t 1)),
     og 5 15 12 true (.load false 1 (.t 14)),
     ⟨6, (some 16), (some (12, true)), .call (.f 102) [(.t 13), (.t 15)], [], true⟩,
     og 7 17 12 true (.faddr 4 (.t 1)),
     ⟨8, (some 18), (some (12, true)), .load false 1 (.t 17), [6], false⟩,
     og 9 19 12 true (.bin .eql (.lf .i) (.t 16) (.t 18)),
     o 10 20 (.pick (.t 12) (.t 19) (.c (.bool false))),
     o 11 2 (.mv (.t 20))])
   (.ret))
   (.seq (.seq (.region 0 [o 0 22 (.bin .eql (.lf .i) (.t 7) (.c (.int .i64 2))),
     o 1 21 (.mv (.t 22))])
   (.cond (.t 21)
    (.skip)
    (.seq (.region 0 [o 0 23 (.bin .eql (.lf .i) (.t 7) (.c (.int .i64 4))),
      o 1 21 (.mv (.t 23))])
    (.cond (.t 21)
     (.skip)
     (.region 0 [o 0 24 (.bin .eql (.lf .i) (.t 7) (.c (.int .i64 21))),
       o 1 21 (.mv (.t 24))])))))
   (.cond (.t 21)
    (.seq (.region 0 [o 0 25 (.mv (.t 3)),
      o 1 26 (.call (.f 54) [(.t 25)]),
      o 2 2 (.mv (.t 26))])
    (.ret))
    (.seq (.seq (.region 0 [o 0 28 (.bin .eql (.lf .i) (.t 7) (.c (.int .i64 5))),
      o 1 27 (.mv (.t 28))])
    (.cond (.t 27)
     (.skip)
     (.seq (.region 0 [o 0 29 (.bin .eql (.lf .i) (.t 7) (.c (.int .i64 6))),
       o 1 27 (.mv (.t 29))])
     (.cond (.t 27)
      (.skip)
      (.region 0 [o 0 30 (.bin .eql (.lf .i) (.t 7) (.c (.int .i64 7))),
        o 1 27 (.mv (.t 30))])))))
    (.cond (.t 27)
     (.seq (.region 0 [o 0 31 (.mv (.t 3)),
       o 1 32 (.call (.f 124) [(.t 31)]),
       o 2 33 (.mv (.t 32)),
       og 3 34 33 false (.mv (.t 3)),
       og 4 35 33 false (.call (.f 125) [(.t 34)]),
       o 5 36 (.pick (.t 33) (.c (.bool true)) (.t 35)),
       o 6 2 (.mv (.t 36))])
     (.ret))
     (.seq (.seq (.region 0 [o 0 38 (.bin .eql (.lf .i) (.t 7) (.c (.int .i64 8))),
       o 1 37 (.mv (.t 38))])
     (.cond (.t 37)
      (.skip)
      (.seq (.region 0 [o 0 39 (.bin .eql (.lf .i) (.t 7) (.c (.int .i64 9))),
        o 1 37 (.mv (.t 39))])
      (.cond (.t 37)
       (.skip)
       (.region 0 [o 0 40 (.bin .eql (.lf .i) (.t 7) (.c (.int .i64 10))),
         o 1 37 (.mv (.t 40))])))))
     (.cond (.t 37)
      (.seq (.region 0 [o 0 41 (.mv (.t 3)),
        o 1 42 (.call (.f 123) [(.t 41)]),
        o 2 43 (.mv (.t 42)),
        og 3 44 43 false (.mv (.t 3)),
        og 4 45 43 false (.call (.f 125) [(.t 44)]),
        o 5 46 (.pick (.t 43) (.c (.bool true)) (.t 45)),
        o 6 2 (.mv (.t 46))])
      (.ret))
      (.seq (.seq (.region 0 [o 0 48 (.bin .eql (.lf .i) (.t 7) (.c (.int .i64 11))),
        o 1 47 (.mv (.t 48))])
      (.cond (.t 47)
       (.skip)
       (.seq (.region 0 [o 0 49 (.bin .eql (.lf .i) (.t 7) (.c (.int .i64 12))),
         o 1 47 (.mv (.t 49))])
       (.cond (.t 47)
        (.skip)
        (.seq (.region 0 [o 0 50 (.bin .eql (.lf .i) (.t 7) (.c (.int .i64 13))),
          o 1 47 (.mv (.t 50))])
        (.cond (.t 47)
         (.skip)
         (.seq (.region 0 [o 0 51 (.bin .eql (.lf .i) (.t 7) (.c (.int .i64 14))),
           o 1 47 (.mv (.t 51))])
         (.cond (.t 47)
          (.skip)
          (.region 0 [o 0 52 (.bin .eql (.lf .i) (.t 7) (.c (.int .i64 15))),
            o 1 47 (.mv (.t 52))])))))))))
      (.cond (.t 47)
       (.seq (.region 0 [o 0 53 (.mv (.t 3)),
         o 1 54 (.call (.f 124) [(.t 53)]),
         o 2 2 (.mv (.t 54))])
       (.ret))
       (.seq (.seq (.region 0 [o 0 56 (.bin .eql (.lf .i) (.t 7) (.c (.int .i64 16))),
         o 1 55 (.mv (.t 56))])
       (.cond (.t 55)
        (.skip)
        (.seq (.region 0 [o 0 57 (.bin .eql (.lf .i) (.t 7) (.c (.int .i64 17))),
          o 1 55 (.mv (.t 57))])
        (.cond (.t 55)
         (.skip)
         (.seq (.region 0 [o 0 58 (.bin .eql (.lf .i) (.t 7) (.c (.int .i64 18))),
           o 1 55 (.mv (.t 58))])
         (.cond (.t 55)
          (.skip)
          (.seq (.region 0 [o 0 59 (.bin .eql (.lf .i) (.t 7) (.c (.int .i64 19))),
            o 1 55 (.mv (.t 59))])
          (.cond (.t 55)
           (.skip)
           (.region 0 [o 0 60 (.bin .eql (.lf .i) (.t 7) (.c (.int .i64 20))),
             o 1 55 (.mv (.t 60))])))))))))
       (.cond (.t 55)
        (.seq (.region 0 [o 0 61 (.mv (.t 3)),
          o 1 62 (.bin .eql (.lf .i) (.t 61) (.c (.int .i64 1))),
          o 2 2 (.mv (.t 62))])
        (.ret))
        (.seq (.region 0 [o 0 64 (.bin .eql (.lf .i) (.t 7) (.c (.int .i64 22))),
          o 1 63 (.mv (.t 64))])
        (.cond (.t 63)
         (.seq (.region 0 [o 0 65 (.mv (.t 3)),
           o 1 66 (.bin .eql (.lf .i) (.t 65) (.c (.int .i64 3))),
           o 2 67 (.mv (.t 66)),
           og 3 68 67 false (.mv (.t 3)),
           og 4 69 67 false (.bin .eql (.lf .i) (.t 68) (.c (.int .i64 4))),
           o 5 70 (.pick (.t 67) (.c (.bool true)) (.t 69)),
           o 6 2 (.mv (.t 70))])
         (.ret))
         (.seq (.region 0 [o 0 72 (.bin .eql (.lf .i) (.t 7) (.c (.int .i64 23))),
           o 1 71 (.mv (.t 72))])
         (.cond (.t 71)
          (.seq (.region 0 [o 0 73 (.mv (.t 3)),
            o 1 74 (.call (.f 124) [(.t 73)]),
            o 2 2 (.mv (.t 74))])
          (.ret))
          (.seq (.region 0 [o 0 76 (.bin .eql (.lf .i) (.t 7) (.c (.int .i64 24))),
            o 1 75 (.mv (.t 76))])
          (.cond (.t 75)
           (.seq (.region 0 [o 0 77 (.mv (.t 3)),
             o 1 78 (.bin .eql (.lf .i) (.t 77) (.c (.int .i64 1))),
             o 2 79 (.mv (.t 78)),
             og 3 80 79 false (.mv (.t 3)),
             og 4 81 79 false (.bin .eql (.lf .i) (.t 80) (.c (.int .i64 2))),
             o 5 82 (.pick (.t 79) (.c (.bool true)) (.t 81)),
             o 6 83 (.mv (.t 82)),
             og 7 84 83 false (.mv (.t 3)),
             og 8 85 83 false (.bin .eql (.lf .i) (.t 84) (.c (.int .i64 3))),
             o 9 86 (.pick (.t 83) (.c (.bool true)) (.t 85)),
             o 10 2 (.mv (.t 86))])
           (.ret))
           (.seq (.region 0 [o 0 88 (.bin .eql (.lf .i) (.t 7) (.c (.int .i64 25))),
             o 1 87 (.mv (.t 88))])
           (.cond (.t 87)
            (.seq (.region 0 [o 0 89 (.mv (.t 3)),
              o 1 90 (.bin .eql (.lf .i) (.t 89) (.c (.int .i64 5))),
              o 2 91 (.mv (.t 90)),
              og 3 92 91 true (.faddr 5 (.t 1)),
              og 4 93 91 true (.load false 1 (.t 92)),
              og 5 94 91 true (.bin .geq (.lf .i) (.t 93) (.c (.int .i64 0))),
              o 6 95 (.pick (.t 91) (.t 94) (.c (.bool false))),
              o 7 2 (.mv (.t 95))])
            (.ret))
            (.seq (.region 0 [o 0 97 (.bin .eql (.lf .i) (.t 7) (.c (.int .i64 27))),
              o 1 96 (.mv (.t 97))])
            (.cond (.t 96)
             (.seq (.region 0 [o 0 98 (.mv (.t 3)),
               o 1 99 (.bin .eql (.lf .i) (.t 98) (.c (.int .i64 5))),
               o 2 2 (.mv (.t 99))])
             (.ret))
             (.seq (.region 0 [o 0 101 (.bin .eql (.lf .i) (.t 7) (.c (.int .i64 32))),
               o 1 100 (.mv (.t 101))])
             (.cond (.t 100)
              (.seq (.region 0 [o 0 102 (.mv (.t 3)),
                o 1 103 (.call (.f 125) [(.t 102)]),
                o 2 2 (.mv (.t 103))])
              (.ret))
              (.skip)))))))))))))))))))))))))))
 (.seq (.region 0 [o 0 104 (.mv (.t 3)),
   o 1 105 (.bin .eql (.lf .i) (.t 104) (.c (.int .i64 3))),
   o 2 106 (.mv (.t 105)),
   og 3 107 106 true (.faddr 4 (.t 1)),
   og 4 108 106 true (.load false 1 (.t 107)),
   og 5 109 106 true (.bin .geq (.lf .i) (.t 108) (.c (.int .i64 0))),
   o 6 110 (.pick (.t 106) (.t 109) (.c (.bool false))),
   o 7 111 (.mv (.t 110)),
   og 8 112 111 true (.faddr 4 (.t 1)),
   og 9 113 111 true (.load false 1 (.t 112)),
   og 10 114 111 true (.bin .lss (.lf .i) (.t 113) (.c (.int .i64 4))),
   o 11 115 (.pick (.t 111) (.t 114) (.c (.bool false))),
   o 12 2 (.mv (.t 115))])
 (.ret))))⟩
theorem c75 : cFn Tryz.prog Tryz.f75 = some i75 := by kernel_rfl
/-- burnish/term.operand -/
def i76 : FnI := ⟨[.tmp 8],
 .seq (.region 1 [o 0 4 (.box 0 26 (.t 0)),
   o 1 8 (.mv (.c (.bool false)))])
 (.seq (.region 0 [o 0 12 (.faddr 1 (.t 4)),
   o 1 13 (.load false 1 (.t 12)),
   o 2 9 (.mv (.t 13))])
 (.seq (.seq (.region 0 [o 0 14 (.faddr 0 (.t 4)),
   o 1 15 (.load false 1 (.t 14))])
 (.block 0 (.seq (.seq (.region 0 [o 0 17 (.bin .eql (.lf .i) (.t 15) (.c (.int .i64 16))),
    o 1 16 (.mv (.t 17))])
  (.cond (.t 16)
   (.skip)
   (.region 0 [o 0 18 (.bin .eql (.lf .i) (.t 15) (.c (.int .i64 17))),
     o 1 16 (.mv (.t 18))])))
  (.cond (.t 16)
   (.seq (.region 0 [o 0 19 (.mv (.t 2)),
     o 1 20 (.call (.f 123) [(.t 19)]),
     o 2 21 (.mv (.t 20)),
     og 3 22 21 false (.mv (.t 2)),
     og 4 23 21 false (.bin .eql (.lf .i) (.t 22) (.c (.int .i64 5))),
     o 5 24 (.pick (.t 21) (.c (.bool true)) (.t 23)),
     o 6 25 (.mv (.t 24)),
     og 7 26 25 true (.mv (.t 3)),
     og 8 27 25 true (.bin .eql (.lf .i) (.t 26) (.c (.int .i64 0))),
     og 9 28 25 true (.mv (.t 27)),
     og 10 29 28 false (.mv (.t 2)),
     og 11 30 28 false (.mv (.t 3)),
     og 12 31 28 false (.bin .eql (.lf .i) (.t 29) (.t 30)),
     og 13 32 25 true (.pick (.t 28) (.c (.bool true)) (.t 31)),
     o 14 33 (.pick (.t 25) (.t 32) (.c (.bool false))),
     o 15 8 (.mv (.t 33))])
   (.ret))
   (.seq (.seq (.region 0 [o 0 35 (.bin .eql (.lf .i) (.t 15) (.c (.int .i64 18))),
     o 1 34 (.mv (.t 35))])
   (.cond (.t 34)
    (.skip)
    (.seq (.region 0 [o 0 36 (.bin .eql (.lf .i) (.t 15) (.c (.int .i64 19))),
      o 1 34 (.mv (.t 36))])
    (.cond (.t 34)
     (.skip)
     (.region 0 [o 0 37 (.bin .eql (.lf .i) (.t 15) (.c (.int .i64 20))),
       o 1 34 (.mv (.t 37))])))))
   (.cond (.t 34)
    (.seq (.region 0 [o 0 38 (.mv (.t 2)),
      o 1 39 (.call (.f 124) [(.t 38)]),
      o 2 40 (.mv (.t 39)),
      og 3 41 40 true (.mv (.t 3)),
      og 4 42 40 true (.bin .eql (.lf .i) (.t 41) (.c (.int .i64 0))),
      og 5 43 40 true (.mv (.t 42)),
      og 6 44 43 false (.mv (.t 2)),
      og 7 45 43 false (.mv (.t 3)),
      og 8 46 43 false (.bin .eql (.lf .i) (.t 44) (.t 45)),
      og 9 47 40 true (.pick (.t 43) (.c (.bool true)) (.t 46)),
      o 10 48 (.pick (.t 40) (.t 47) (.c (.bool false))),
      o 11 8 (.mv (.t 48))])
    (.ret))
    (.seq (.region 0 [o 0 50 (.bin .eql (.lf .i) (.t 15) (.c (.int .i64 21))),
      o 1 49 (.mv (.t 50))])
    (.cond (.t 49)
     (.seq (.seq (.region 0 [o 0 51 (.mv (.t 1)),
       o 1 52 (.bin .eql (.lf .i) (.t 51) (.c (.int .i64 0)))])
     (.cond (.t 52)
      (.seq (.region 0 [o 0 53 (.mv (.t 2)),
        o 1 54 (.bin .eql (.lf .i) (.t 53) (.c (.int .i64 1))),
        o 2 8 (.mv (.t 54))])
      (.ret))
      (.skip)))
     (.seq (.region 0 [o 0 55 (.mv (.t 2)),
       o 1 56 (.mv (.t 9)),
       o 2 57 (.bin .eql (.lf .i) (.t 55) (.t 56)),
       o 3 8 (.mv (.t 57))])
     (.ret)))
     (.seq (.region 0 [o 0 59 (.bin .eql (.lf .i) (.t 15) (.c (.int .i64 22))),
       o 1 58 (.mv (.t 59))])
     (.cond (.t 58)
      (.seq (.region 0 [o 0 60 (.mv (.t 2)),
        o 1 61 (.bin .eql (.lf .i) (.t 60) (.c (.int .i64 2))),
        o 2 62 (.mv (.t 61)),
        og 3 63 62 false (.mv (.t 2)),
        og 4 64 62 false (.bin .eql (.lf .i) (.t 63) (.c (.int .i64 3))),
        o 5 65 (.pick (.t 62) (.c (.bool true)) (.t 64)),
        o 6 66 (.mv (.t 65)),
        og 7 67 66 true (.mv (.t 2)),
        og 8 68 66 true (.mv (.t 9)),
        og 9 69 66 true (.bin .lss (.lf .i) (.t 67) (.t 68)),
        o 10 70 (.pick (.t 66) (.t 69) (.c (.bool false))),
        o 11 8 (.mv (.t 70))])
      (.ret))
      (.seq (.region 0 [o 0 72 (.bin .eql (.lf .i) (.t 15) (.c (.int .i64 23))),
        o 1 71 (.mv (.t 72))])
      (.cond (.t 71)
       (.seq (.region 0 [o 0 73 (.mv (.t 2)),
         o 1 74 (.call (.f 123) [(.t 73)]),
         o 2 75 (.mv (.t 74)),
         og 3 76 75 true (.mv (.t 2)),
         og 4 77 75 true (.mv (.t 9)),
         og 5 78 75 true (.bin .lss (.lf .i) (.t 76) (.t 77)),
         o 6 79 (.pick (.t 75) (.t 78) (.c (.bool false))),
         o 7 8 (.mv (.t 79))])
       (.ret))
       (.seq (.region 0 [o 0 81 (.bin .eql (.lf .i) (.t 15) (.c (.int .i64 24))),
         o 1 80 (.mv (.t 81))])
       (.cond (.t 80)
        (.seq (.region 0 [o 0 82 (.mv (.t 2)),
          o 1 83 (.call (.f 124) [(.t 82)]),
          o 2 84 (.mv (.t 83)),
          og 3 85 84 true (.mv (.t 2)),
          og 4 86 84 true (.mv (.t 9)),
          og 5 87 84 true (.bin .gtr (.lf .i) (.t 85) (.t 86)),
          o 6 88 (.pick (.t 84) (.t 87) (.c (.bool false))),
          o 7 8 (.mv (.t 88))])
        (.ret))
        (.seq (.region 0 [o 0 90 (.bin .eql (.lf .i) (.t 15) (.c (.int .i64 27))),
          o 1 89 (.mv (.t 90))])
        (.cond (.t 89)
         (.seq (.seq (.region 0 [o 0 91 (.mv (.t 1)),
           o 1 92 (.bin .eql (.lf .i) (.t 91) (.c (.int .i64 0)))])
         (.cond (.t 92)
          (.seq (.region 0 [o 0 93 (.mv (.t 2)),
            o 1 94 (.bin .eql (.lf .i) (.t 93) (.c (.int .i64 5))),
            o 2 8 (.mv (.t 94))])
          (.ret))
          (.skip)))
         (.seq (.region 0 [o 0 95 (.mv (.t 2)),
           o 1 96 (.bin .eql (.lf .i) (.t 95) (.c (.int .i64 4))),
           o 2 8 (.mv (.t 96))])
         (.ret)))
         (.seq (.region 0 [o 0 98 (.bin .eql (.lf .i) (.t 15) (.c (.int .i64 32))),
           o 1 97 (.mv (.t 98))])
         (.cond (.t 97)
          (.seq (.region 0 [o 0 99 (.mv (.t 2)),
            o 1 100 (.bin .eql (.lf .i) (.t 99) (.c (.int .i64 3))),
            o 2 8 (.mv (.t 100))])
          (.ret))
          (.seq (.region 0 [o 0 102 (.bin .eql (.lf .i) (.t 15) (.c (.int .i64 33))),
            o 1 101 (.mv (.t 102))])
          (.cond (.t 101)
           (.seq (.region 0 [o 0 104 (.mv (.t 2)),
             o 1 105 (.call (.f 55) [(.t 104)]),
             o 2 103 (.mv (.t 105)),
             o 3 106 (.ext 0 (.t 103)),
             o 4 107 (.ext 1 (.t 103)),
             o 5 10 (.mv (.t 106)),
             o 6 11 (.mv (.t 107))])
           (.seq (.region 0 [o 0 108 (.mv (.t 2)),
             o 1 109 (.call (.f 125) [(.t 108)]),
             o 2 110 (.mv (.t 109)),
             og 3 111 110 true (.faddr 4 (.t 4)),
             og 4 112 110 true (.load false 1 (.t 111)),
             og 5 113 110 true (.mv (.t 11)),
             og 6 114 110 true (.bin .lss (.lf .i) (.t 112) (.t 113)),
             o 7 115 (.pick (.t 110) (.t 114) (.c (.bool false))),
             o 8 8 (.mv (.t 115))])
           (.ret)))
           (.skip)))))))))))))))))))))
 (.seq (.region 0 [o 0 116 (.mv (.t 2)),
   o 1 117 (.mv (.t 9)),
   o 2 118 (.bin .eql (.lf .i) (.t 116) (.t 117)),
   o 3 8 (.mv (.t 118))])
 (.ret))))⟩
theorem c76 : cFn Tryz.prog Tryz.f76 = some i76 := by kernel_rfl
/-- slices.Clone[[]burnish/term.lane,burnish/term.lane] -/
def i77 : FnI := ⟨[.tmp 2],
 .seq (.region 0 [o 0 2 (.mv (.c (.slice none 0 0)))])
 (.seq (.seq (.region 0 [o 0 3 (.mv (.t 0)),
   o 1 4 (.bin .eql .slc (.t 3) (.c (.slice none 0 0)))])
 (.cond (.t 4)
  (.seq (.region 0 [o 0 2 (.mv (.c (.slice none 0 0)))])
  (.ret))
  (.skip)))
 (.seq (.region 2 [o 0 5 (.bslice 0 100 2 0 [] []),
   o 1 6 (.mv (.t 0)),
   o 2 7 (.append 1 100 2 32 false (.t 5) (.t 6)),
   o 3 2 (.mv (.t 7))])
 (.ret)))⟩
theorem c77 : cFn Tryz.prog Tryz.f77 = some i77 := by kernel_rfl
/-- (*burnish/term.Bank).bad -/
def i78 : FnI := ⟨[.cell 4 true 2],
 .seq (.region 1 [o 0 4 (.alloc 0 100 [(.int .i64 0), (.slice none 0 0)])])
 (.seq (.region 1 [o 0 5 (.mv (.t 0)),
   o 1 6 (.nilchk (.t 5)),
   o 2 7 (.faddr 0 (.t 6)),
   o 3 8 (.mv (.t 1)),
   o 4 9 (.call (.f 57) [(.t 7), (.t 8), (.c (.int .i64 0))]),
   o 5 10 (.bslice 0 3 1 1 [(.int .i64 0)] [(0, 1, (.c (.int .i64 0)))]),
   o 6 11 (.build [(.int .i64 0), (.slice none 0 0)] [(0, 1, (.t 9)), (1, 1, (.t 10))]),
   ox 7 (.store 2 (.t 4) (.t 11))])
 (.ret))⟩
theorem c78 : cFn Tryz.prog Tryz.f78 = some i78 := by kernel_rfl
def i79l1 : Cd :=
  .seq (.region 0 [o 0 93 (.bin .lss (.lf .i) (.t 92) (.t 91))])
  (.seq (.cond (.t 93)
   (.skip)
   (.exit 2))
  (.seq (.block 3 (.seq (.region 1 [o 0 94 (.mv (.t 92)),
     o 1 95 (.iaddr 2 (.t 90) (.t 92)),
     o 2 96 (.load true 2 (.t 95)),
     o 3 20 (.alloc 0 100 [(.int .i64 0), (.slice none 0 0)]),
     o 4 19 (.mv (.t 94)),
     ox 5 (.store 2 (.t 20) (.t 96))])
   (.seq (.region 1 [o 0 97 (.faddr 2 (.t 9)),
     o 1 98 (.load false 1 (.t 97)),
     o 2 99 (.mv (.t 19)),
     o 3 100 (.iaddr 2 (.t 98) (.t 99)),
     o 4 101 (.load true 2 (.t 100)),
     o 5 21 (.alloc 0 100 [(.int .i64 0), (.slice none 0 0)]),
     ox 6 (.store 2 (.t 21) (.t 101))])
   (.seq (.region 0 [o 0 102 (.faddr 1 (.t 20)),
     o 1 103 (.load false 1 (.t 102)),
     o 2 22 (.mv (.t 103))])
   (.seq (.seq (.region 0 [o 0 104 (.faddr 1 (.t 20)),
     o 1 105 (.load false 1 (.t 104)),
     o 2 106 (.faddr 1 (.t 21)),
     o 3 107 (.load false 1 (.t 106)),
     o 4 108 (.call (.f 14) [(.t 105), (.t 107)]),
     o 5 109 (.un .not (.t 108))])
   (.cond (.t 109)
    (.region 1 [o 2 112 (.faddr 1 (.t 20)),
      o 3 113 (.load false 1 (.t 112)),
      ⟨4, (some 114), none, .call (.f 128) [(.t 113)], [], true⟩,
      o 5 115 (.faddr 1 (.t 21)),
      ⟨6, (some 116), none, .load false 1 (.t 115), [4], false⟩,
      o 7 117 (.call (.f 128) [(.t 116)]),
      o 0 110 (.mv (.t 0)),
      o 1 111 (.mv (.t 17)),
      o 8 118 (.build [(.int .i64 0), (.int .i64 0), (.int .i64 0), (.int .i64 0), (.int .i64 0), (.string ⟨#[]⟩), (.string ⟨#[]⟩)] [(0, 1, (.c (.int .i64 3))), (1, 1, (.t 111)), (5, 1, (.t 114)), (6, 1, (.t 117))]),
      o 9 119 (.call (.f 59) [(.t 110), (.t 118)]),
      o 10 120 (.bslice 0 3 1 1 [(.int .i64 0)] [(0, 1, (.t 119))]),
      o 11 22 (.mv (.t 120))])
    (.skip)))
   (.seq (.region 0 [o 0 121 (.faddr 1 (.t 8)),
     o 1 122 (.load false 1 (.t 121)),
     o 2 123 (.faddr 1 (.t 9)),
     o 3 124 (.load false 1 (.t 123)),
     o 4 23 (.mv (.t 122)),
     o 5 24 (.mv (.t 124))])
   (.seq (.block 4 (.seq (.region 0 [o 0 126 (.load true 2 (.t 20)),
      o 1 127 (.call (.f 89) [(.t 126)]),
      o 2 125 (.mv (.t 127))])
    (.cond (.t 125)
     (.region 0 [o 0 128 (.faddr 0 (.t 21)),
       o 1 129 (.load false 1 (.t 128)),
       o 2 130 (.mv (.t 24)),
       o 3 131 (.faddr 0 (.t 20)),
       ox 4 (.store 1 (.t 131) (.t 129)),
       o 5 23 (.mv (.t 130))])
     (.seq (.region 0 [o 0 133 (.load true 2 (.t 21)),
       o 1 134 (.call (.f 89) [(.t 133)]),
       o 2 132 (.mv (.t 134))])
     (.cond (.t 132)
      (.region 0 [o 0 135 (.faddr 0 (.t 20)),
        o 1 136 (.load false 1 (.t 135)),
        o 2 137 (.mv (.t 23)),
        o 3 138 (.faddr 0 (.t 21)),
        ox 4 (.store 1 (.t 138) (.t 136)),
        o 5 24 (.mv (.t 137))])
      (.skip))))))
   (.seq (.region 1 [o 0 139 (.faddr 1 (.t 7)),
     o 1 140 (.load false 1 (.t 139)),
     o 2 141 (.mv (.t 22)),
     o 3 142 (.call (.f 45) [(.t 140), (.t 141)]),
     o 4 143 (.build [(.int .i64 0), (.slice none 0 0)] [(1, 1, (.t 142))]),
     o 5 25 (.alloc 0 100 [(.int .i64 0), (.slice none 0 0)]),
     ox 6 (.store 2 (.t 25) (.t 143))])
   (.seq (.block 5 (.seq (.region 0 [o 0 157 (.mv (.t 1)),
      o 1 158 (.bin .eql (.lf .i) (.t 157) (.c (.int .i64 5))),
      o 2 159 (.mv (.t 158)),
      og 3 160 159 true (.mv (.t 23)),
      og 4 161 159 true (.mv (.t 24)),
      og 5 162 159 true (.bin .neq (.lf .i) (.t 160) (.t 161)),
      o 6 163 (.pick (.t 159) (.t 162) (.c (.bool false))),
      o 7 156 (.mv (.t 163))])
    (.cond (.t 156)
     (.seq (.region 0 [o 0 164 (.mv (.t 0)),
       o 1 165 (.nilchk (.t 164)),
       o 2 166 (.faddr 0 (.t 165)),
       o 3 167 (.mv (.t 17)),
       o 4 168 (.mv (.t 23)),
       o 5 169 (.faddr 0 (.t 20)),
       o 6 170 (.load false 1 (.t 169)),
       o 7 171 (.mv (.t 24)),
       o 8 172 (.faddr 0 (.t 21)),
       o 9 173 (.load false 1 (.t 172)),
       o 10 174 (.build [(.int .i64 0), (.int .i64 0), (.int .i64 0), (.int .i64 0), (.int .i64 0), (.int .i64 0)] [(0, 1, (.c (.int .i64 3))), (1, 1, (.t 167)), (2, 1, (.t 168)), (3, 1, (.t 170)), (4, 1, (.t 171)), (5, 1, (.t 173))]),
       o 11 175 (.call (.f 56) [(.t 166), (.t 174)]),
       o 12 176 (.faddr 1 (.t 11)),
       ox 13 (.store 1 (.t 176) (.t 175))])
     (.region 0 [o 0 177 (.mv (.t 0)),
       o 1 178 (.nilchk (.t 177)),
       o 2 179 (.faddr 0 (.t 178)),
       o 3 180 (.call (.f 57) [(.t 179), (.c (.int .i64 4)), (.c (.int .i64 0))]),
       o 4 181 (.faddr 0 (.t 25)),
       ox 5 (.store 1 (.t 181) (.t 180))]))
     (.seq (.region 0 [o 0 144 (.mv (.t 23)),
       o 1 145 (.faddr 1 (.t 11)),
       ox 2 (.store 1 (.t 145) (.t 144))])
     (.region 0 [o 0 146 (.mv (.t 0)),
       o 1 147 (.nilchk (.t 146)),
       o 2 148 (.faddr 0 (.t 147)),
       o 3 149 (.mv (.t 17)),
       o 4 150 (.faddr 0 (.t 20)),
       o 5 151 (.load false 1 (.t 150)),
       o 6 152 (.faddr 0 (.t 21)),
       o 7 153 (.load false 1 (.t 152)),
       o 8 154 (.call (.f 129) [(.t 148), (.t 149), (.t 151), (.t 153)]),
       o 9 155 (.faddr 0 (.t 25)),
       ox 10 (.store 1 (.t 155) (.t 154))])))))
   (.region 2 [o 0 182 (.faddr 2 (.t 11)),
     o 1 183 (.load false 1 (.t 182)),
     o 2 184 (.load true 2 (.t 25)),
     o 3 185 (.bslice 0 100 2 1 [(.int .i64 0), (.slice none 0 0)] [(0, 2, (.t 184))]),
     o 4 186 (.append 1 100 2 32 false (.t 183) (.t 185)),
     o 5 187 (.faddr 2 (.t 11)),
     ox 6 (.store 1 (.t 187) (.t 186))]))))))))))
  (.region 0 [o 0 188 (.bin .add (.lf .i) (.t 92) (.c (.int .i64 1))),
    o 1 92 (.mv (.t 188))])))
def i79l0 : Cd :=
  .seq (.region 0 [o 0 57 (.bin .lss (.lf .i) (.t 56) (.t 55))])
  (.seq (.cond (.t 57)
   (.skip)
   (.exit 0))
  (.seq (.block 1 (.seq (.region 1 [o 0 58 (.iaddr 2 (.t 54) (.t 56)),
     o 1 59 (.load true 2 (.t 58)),
     o 2 16 (.alloc 0 100 [(.int .i64 0), (.slice none 0 0)]),
     ox 3 (.store 2 (.t 16) (.t 59))])
   (.region 2 [o 4 64 (.faddr 1 (.t 7)),
     o 5 65 (.load false 1 (.t 64)),
     o 6 66 (.faddr 1 (.t 16)),
     o 7 67 (.load false 1 (.t 66)),
     ⟨8, (some 68), none, .call (.f 45) [(.t 65), (.t 67)], [], true⟩,
     o 0 60 (.faddr 2 (.t 11)),
     ⟨1, (some 61), none, .load false 1 (.t 60), [8], false⟩,
     o 2 62 (.faddr 0 (.t 16)),
     ⟨3, (some 63), none, .load false 1 (.t 62), [8], false⟩,
     o 9 69 (.build [(.int .i64 0), (.slice none 0 0)] [(0, 1, (.t 63)), (1, 1, (.t 68))]),
     o 10 70 (.bslice 0 100 2 1 [(.int .i64 0), (.slice none 0 0)] [(0, 2, (.t 69))]),
     o 11 71 (.append 1 100 2 32 false (.t 61) (.t 70)),
     o 12 72 (.faddr 2 (.t 11)),
     ox 13 (.store 1 (.t 72) (.t 71))])))
  (.region 0 [o 0 73 (.bin .add (.lf .i) (.t 56) (.c (.int .i64 1))),
    o 1 56 (.mv (.t 73))])))
/-- (*burnish/term.Bank).selected -/
def i79 : FnI := ⟨[.tmp 10],
 .seq (.region 3 [o 0 7 (.box 0 100 (.t 2)),
   o 1 8 (.box 1 94 (.t 3)),
   o 2 9 (.box 2 94 (.t 4)),
   o 3 10 (.mv (.c (.int .i64 0)))])
 (.seq (.region 0 [o 0 26 (.mv (.t 0)),
   o 1 27 (.mv (.t 1)),
   o 2 28 (.load true 3 (.t 8)),
   ⟨3, (some 29), none, .call (.f 126) [(.t 26), (.t 27), (.t 28)], [], true⟩,
   o 4 30 (.mv (.t 0)),
   o 5 31 (.mv (.t 1)),
   ⟨6, (some 32), none, .load true 3 (.t 9), [3], false⟩,
   o 7 33 (.call (.f 126) [(.t 30), (.t 31), (.t 32)]),
   ox 8 (.store 3 (.t 8) (.t 29)),
   ox 9 (.store 3 (.t 9) (.t 33))])
 (.seq (.region 1 [o 0 34 (.mv (.t 1)),
   o 1 35 (.build [(.int .i64 0), (.int .i64 0), (.slice none 0 0)] [(0, 1, (.t 34))]),
   o 2 11 (.alloc 0 94 [(.int .i64 0), (.int .i64 0), (.slice none 0 0)]),
   ox 3 (.store 3 (.t 11) (.t 35))])
 (.seq (.seq (.region 0 [o 0 37 (.mv (.t 0)),
   o 1 38 (.nilchk (.t 37)),
   o 2 39 (.faddr 0 (.t 38)),
   o 3 40 (.faddr 0 (.t 7)),
   o 4 41 (.load false 1 (.t 40)),
   o 5 42 (.call (.f 52) [(.t 39), (.t 41)]),
   o 6 36 (.mv (.t 42)),
   o 7 43 (.ext 0 (.t 36)),
   o 8 44 (.ext 1 (.t 36)),
   o 9 12 (.mv (.t 43)),
   o 10 13 (.mv (.t 44))])
 (.seq (.region 0 [o 0 45 (.mv (.t 13))])
 (.cond (.t 45)
  (.seq (.region 1 [o 0 46 (.load true 3 (.t 9)),
    o 1 14 (.alloc 0 94 [(.int .i64 0), (.int .i64 0), (.slice none 0 0)]),
    ox 2 (.store 3 (.t 14) (.t 46))])
  (.seq (.seq (.region 0 [o 0 47 (.mv (.t 12)),
    o 1 48 (.bin .eql (.lf .i) (.t 47) (.c (.int .i64 1)))])
  (.cond (.t 48)
   (.region 0 [o 0 49 (.load true 3 (.t 8)),
     ox 1 (.store 3 (.t 14) (.t 49))])
   (.skip)))
  (.seq (.region 0 [o 0 50 (.faddr 1 (.t 14)),
    o 1 51 (.load false 1 (.t 50)),
    o 2 52 (.faddr 1 (.t 11)),
    ox 3 (.store 1 (.t 52) (.t 51))])
  (.seq (.seq (.region 0 [o 0 53 (.faddr 2 (.t 14)),
    o 1 54 (.load false 1 (.t 53)),
    o 2 55 (.len (.t 54)),
    o 3 56 (.mv (.c (.int .i64 0)))])
  (.block 0 (.loop i79l0)))
  (.seq (.region 0 [o 0 74 (.mv (.t 0)),
    o 1 75 (.load true 3 (.t 11)),
    o 2 76 (.call (.f 46) [(.t 74), (.t 75)]),
    o 3 10 (.mv (.t 76))])
  (.ret))))))
  (.skip))))
 (.seq (.region 0 [o 0 78 (.mv (.t 0)),
   o 1 79 (.nilchk (.t 78)),
   o 2 80 (.faddr 0 (.t 79)),
   o 3 81 (.faddr 0 (.t 7)),
   o 4 82 (.load false 1 (.t 81)),
   o 5 83 (.call (.f 127) [(.t 80), (.t 82)]),
   o 6 77 (.mv (.t 83)),
   o 7 84 (.ext 0 (.t 77)),
   o 8 85 (.ext 1 (.t 77)),
   o 9 17 (.mv (.t 84)),
   o 10 18 (.mv (.t 85))])
 (.seq (.seq (.region 0 [o 0 86 (.mv (.t 18))])
 (.cond (.t 86)
  (.region 0 [o 0 87 (.load true 3 (.t 9)),
    o 1 88 (.load true 3 (.t 8)),
    ox 2 (.store 3 (.t 8) (.t 87)),
    ox 3 (.store 3 (.t 9) (.t 88))])
  (.skip)))
 (.seq (.seq (.region 0 [o 0 89 (.faddr 2 (.t 8)),
   o 1 90 (.load false 1 (.t 89)),
   o 2 91 (.len (.t 90)),
   o 3 92 (.mv (.c (.int .i64 0)))])
 (.block 2 (.loop i79l1)))
 (.seq (.region 0 [o 0 189 (.mv (.t 0)),
   o 1 190 (.load true 3 (.t 11)),
   o 2 191 (.call (.f 46) [(.t 189), (.t 190)]),
   o 3 10 (.mv (.t 191))])
 (.ret))))))))⟩
theorem c79 : cFn Tryz.prog Tryz.f79 = some i79 := by kernel_rfl
/-- (*burnish/term.forms).convert -/
def i80 : FnI := ⟨[.tmp 8],
 .seq (.region 0 [o 0 8 (.mv (.c (.int .i64 0)))])
 (.seq (.region 0 [o 0 16 (.mv (.t 0)),
   o 1 17 (.nilchk (.t 16)),
   o 2 18 (.faddr 2 (.t 17)),
   o 3 19 (.load false 1 (.t 18)),
   o 4 20 (.mv (.t 3)),
   o 5 21 (.iaddr 2 (.t 19) (.t 20)),
   o 6 22 (.faddr 0 (.t 21)),
   o 7 23 (.load false 1 (.t 22)),
   o 8 9 (.mv (.t 23))])
 (.seq (.seq (.region 0 [o 0 25 (.mv (.t 0)),
   o 1 26 (.mv (.t 3)),
   o 2 27 (.call (.f 52) [(.t 25), (.t 26)]),
   o 3 24 (.mv (.t 27)),
   o 4 28 (.ext 0 (.t 24)),
   o 5 29 (.ext 1 (.t 24)),
   o 6 10 (.mv (.t 28)),
   o 7 11 (.mv (.t 29))])
 (.seq (.region 0 [o 0 30 (.mv (.t 11))])
 (.cond (.t 30)
  (.seq (.seq (.region 0 [o 0 31 (.mv (.t 1)),
    o 1 32 (.bin .eql (.lf .i) (.t 31) (.c (.int .i64 23)))])
  (.cond (.t 32)
   (.seq (.region 0 [o 0 33 (.mv (.t 0)),
     o 1 34 (.mv (.t 2)),
     o 2 35 (.mv (.t 9)),
     o 3 36 (.mv (.t 2)),
     o 4 37 (.mv (.t 10)),
     o 5 38 (.call (.f 130) [(.t 35), (.t 36), (.t 37)]),
     o 6 39 (.call (.f 57) [(.t 33), (.t 34), (.t 38)]),
     o 7 8 (.mv (.t 39))])
   (.ret))
   (.skip)))
  (.seq (.region 0 [o 0 40 (.mv (.t 0)),
    o 1 41 (.mv (.t 2)),
    o 2 42 (.mv (.t 10)),
    o 3 43 (.call (.f 57) [(.t 40), (.t 41), (.t 42)]),
    o 4 8 (.mv (.t 43))])
  (.ret)))
  (.skip))))
 (.seq (.region 1 [o 0 45 (.mv (.t 0)),
   o 1 46 (.mv (.t 3)),
   o 2 47 (.call (.f 131) [(.t 45), (.t 46)]),
   o 3 44 (.mv (.t 47)),
   o 4 48 (.ext 0 (.t 44)),
   o 5 49 (.ext 1 (.t 44)),
   o 6 12 (.alloc 0 122 [(.int .i64 0), (.int .i64 0), (.int .i64 0), (.int .i64 0), (.int .i64 0), (.int .i64 0)]),
   ox 7 (.store 6 (.t 12) (.t 48)),
   o 8 13 (.mv (.t 49))])
 (.seq (.seq (.region 0 [o 0 50 (.mv (.t 13)),
   o 1 51 (.un .not (.t 50)),
   o 2 52 (.mv (.t 51)),
   og 3 53 52 false (.faddr 0 (.t 12)),
   og 4 54 52 false (.load false 1 (.t 53)),
   og 5 55 52 false (.bin .neq (.lf .i) (.t 54) (.c (.int .i64 22))),
   og 6 56 52 false (.mv (.t 55)),
   og 7 57 56 true (.faddr 0 (.t 12)),
   og 8 58 56 true (.load false 1 (.t 57)),
   og 9 59 56 true (.bin .neq (.lf .i) (.t 58) (.c (.int .i64 23))),
   og 10 60 52 false (.pick (.t 56) (.t 59) (.c (.bool false))),
   og 11 61 52 false (.mv (.t 60)),
   og 12 62 61 true (.faddr 0 (.t 12)),
   og 13 63 61 true (.load false 1 (.t 62)),
   og 14 64 61 true (.bin .neq (.lf .i) (.t 63) (.c (.int .i64 24))),
   og 15 65 52 false (.pick (.t 61) (.t 64) (.c (.bool false))),
   o 16 66 (.pick (.t 52) (.c (.bool true)) (.t 65))])
 (.cond (.t 66)
  (.seq (.region 0 [o 0 67 (.mv (.t 0)),
    o 1 68 (.mv (.t 1)),
    o 2 69 (.mv (.t 2)),
    o 3 70 (.mv (.t 3)),
    o 4 71 (.build [(.int .i64 0), (.int .i64 0), (.int .i64 0), (.int .i64 0), (.int .i64 0), (.int .i64 0)] [(0, 1, (.t 68)), (1, 1, (.t 69)), (2, 1, (.t 70))]),
    o 5 72 (.call (.f 58) [(.t 67), (.t 71)]),
    o 6 8 (.mv (.t 72))])
  (.ret))
  (.skip)))
 (.seq (.region 0 [o 0 73 (.faddr 0 (.t 12)),
   o 1 74 (.load false 1 (.t 73)),
   o 2 75 (.bin .neq (.lf .i) (.t 74) (.c (.int .i64 24))),
   o 3 14 (.mv (.t 75))])
 (.seq (.region 0 [o 0 76 (.mv (.t 0)),
   o 1 77 (.nilchk (.t 76)),
   o 2 78 (.faddr 2 (.t 77)),
   o 3 79 (.load false 1 (.t 78)),
   o 4 80 (.faddr 2 (.t 12)),
   o 5 81 (.load false 1 (.t 80)),
   o 6 82 (.iaddr 2 (.t 79) (.t 81)),
   o 7 83 (.faddr 0 (.t 82)),
   o 8 84 (.load false 1 (.t 83)),
   o 9 15 (.mv (.t 84))])
 (.seq (.block 0 (.seq (.seq (.region 0 [o 0 86 (.mv (.t 1)),
    o 1 87 (.bin .eql (.lf .i) (.t 86) (.c (.int .i64 22))),
    o 2 88 (.mv (.t 87)),
    og 3 89 88 true (.mv (.t 14)),
    o 4 90 (.pick (.t 88) (.t 89) (.c (.bool false))),
    o 5 85 (.mv (.t 90))])
  (.cond (.t 85)
   (.skip)
   (.region 0 [o 0 91 (.mv (.t 1)),
     o 1 92 (.bin .eql (.lf .i) (.t 91) (.c (.int .i64 23))),
     o 2 93 (.mv (.t 92)),
     og 3 94 93 true (.faddr 0 (.t 12)),
     og 4 95 93 true (.load false 1 (.t 94)),
     og 5 96 93 true (.bin .eql (.lf .i) (.t 95) (.c (.int .i64 23))),
     o 6 97 (.pick (.t 93) (.t 96) (.c (.bool false))),
     o 7 85 (.mv (.t 97))])))
  (.cond (.t 85)
   (.seq (.region 0 [o 0 98 (.mv (.t 0)),
     o 1 99 (.faddr 0 (.t 12)),
     o 2 100 (.load false 1 (.t 99)),
     o 3 101 (.mv (.t 2)),
     o 4 102 (.faddr 2 (.t 12)),
     o 5 103 (.load false 1 (.t 102)),
     o 6 104 (.build [(.int .i64 0), (.int .i64 0), (.int .i64 0), (.int .i64 0), (.int .i64 0), (.int .i64 0)] [(0, 1, (.t 100)), (1, 1, (.t 101)), (2, 1, (.t 103))]),
     o 7 105 (.call (.f 58) [(.t 98), (.t 104)]),
     o 8 8 (.mv (.t 105))])
   (.ret))
   (.seq (.region 0 [o 0 107 (.mv (.t 1)),
     o 1 108 (.bin .eql (.lf .i) (.t 107) (.c (.int .i64 24))),
     o 2 109 (.mv (.t 108)),
     og 3 110 109 true (.mv (.t 14)),
     og 4 111 109 true (.un .not (.t 110)),
     o 5 112 (.pick (.t 109) (.t 111) (.c (.bool false))),
     o 6 106 (.mv (.t 112))])
   (.cond (.t 106)
    (.seq (.region 0 [o 0 113 (.mv (.t 0)),
      o 1 114 (.mv (.t 2)),
      o 2 115 (.faddr 2 (.t 12)),
      o 3 116 (.load false 1 (.t 115)),
      o 4 117 (.build [(.int .i64 0), (.int .i64 0), (.int .i64 0), (.int .i64 0), (.int .i64 0), (.int .i64 0)] [(0, 1, (.c (.int .i64 24))), (1, 1, (.t 114)), (2, 1, (.t 116))]),
      o 5 118 (.call (.f 58) [(.t 113), (.t 117)]),
      o 6 8 (.mv (.t 118))])
    (.ret))
    (.seq (.region 0 [o 0 120 (.mv (.t 1)),
      o 1 121 (.bin .eql (.lf .i) (.t 120) (.c (.int .i64 24))),
      o 2 122 (.mv (.t 121)),
      og 3 123 122 true (.mv (.t 15)),
      og 4 124 122 true (.mv (.t 2)),
      og 5 125 122 true (.bin .lss (.lf .i) (.t 123) (.t 124)),
      o 6 126 (.pick (.t 122) (.t 125) (.c (.bool false))),
      o 7 119 (.mv (.t 126))])
    (.cond (.t 119)
     (.seq (.region 0 [o 0 127 (.mv (.t 0)),
       o 1 128 (.faddr 0 (.t 12)),
       o 2 129 (.load false 1 (.t 128)),
       o 3 130 (.mv (.t 2)),
       o 4 131 (.faddr 2 (.t 12)),
       o 5 132 (.load false 1 (.t 131)),
       o 6 133 (.build [(.int .i64 0), (.int .i64 0), (.int .i64 0), (.int .i64 0), (.int .i64 0), (.int .i64 0)] [(0, 1, (.t 129)), (1, 1, (.t 130)), (2, 1, (.t 132))]),
       o 7 134 (.call (.f 58) [(.t 127), (.t 133)]),
       o 8 8 (.mv (.t 134))])
     (.ret))
     (.seq (.region 0 [o 0 136 (.mv (.t 1)),
       o 1 137 (.bin .eql (.lf .i) (.t 136) (.c (.int .i64 24))),
       o 2 138 (.mv (.t 137)),
       og 3 139 138 true (.mv (.t 15)),
       og 4 140 138 true (.mv (.t 2)),
       og 5 141 138 true (.bin .eql (.lf .i) (.t 139) (.t 140)),
       o 6 142 (.pick (.t 138) (.t 141) (.c (.bool false))),
       o 7 135 (.mv (.t 142))])
     (.cond (.t 135)
      (.seq (.region 0 [o 0 143 (.faddr 2 (.t 12)),
        o 1 144 (.load false 1 (.t 143)),
        o 2 8 (.mv (.t 144))])
      (.ret))
      (.seq (.region 0 [o 0 146 (.mv (.t 1)),
        o 1 147 (.bin .eql (.lf .i) (.t 146) (.c (.int .i64 24))),
        o 2 145 (.mv (.t 147))])
      (.cond (.t 145)
       (.seq (.region 0 [o 0 148 (.mv (.t 0)),
         o 1 149 (.mv (.t 2)),
         o 2 150 (.faddr 2 (.t 12)),
         o 3 151 (.load false 1 (.t 150)),
         o 4 152 (.call (.f 80) [(.t 148), (.c (.int .i64 24)), (.t 149), (.t 151)]),
         o 5 8 (.mv (.t 152))])
       (.ret))
       (.skip))))))))))))
 (.seq (.region 0 [o 0 153 (.mv (.t 0)),
   o 1 154 (.mv (.t 1)),
   o 2 155 (.mv (.t 2)),
   o 3 156 (.mv (.t 3)),
   o 4 157 (.build [(.int .i64 0), (.int .i64 0), (.int .i64 0), (.int .i64 0), (.int .i64 0), (.int .i64 0)] [(0, 1, (.t 154)), (1, 1, (.t 155)), (2, 1, (.t 156))]),
   o 5 158 (.call (.f 58) [(.t 153), (.t 157)]),
   o 6 8 (.mv (.t 158))])
 (.ret)))))))))⟩
theorem c80 : cFn Tryz.prog Tryz.f80 = some i80 := by kernel_rfl
/-- (*burnish/term.Bank).compare -/
def i81 : FnI := ⟨[.cell 8 true 2],
 .seq (.region 3 [o 0 6 (.box 0 94 (.t 2)),
   o 1 7 (.box 1 94 (.t 3)),
   o 2 8 (.alloc 2 100 [(.int .i64 0), (.slice none 0 0)])])
 (.seq (.region 2 [o 0 12 (.faddr 2 (.t 6)),
   o 1 13 (.load false 1 (.t 12)),
   o 2 14 (.iaddr 2 (.t 13) (.c (.int .i64 0))),
   o 3 15 (.load true 2 (.t 14)),
   o 4 16 (.faddr 2 (.t 7)),
   ⟨5, (some 17), none, .load false 1 (.t 16), [], true⟩,
   o 6 18 (.iaddr 2 (.t 17) (.c (.int .i64 0))),
   ⟨7, (some 19), none, .load true 2 (.t 18), [], true⟩,
   o 8 9 (.alloc 0 100 [(.int .i64 0), (.slice none 0 0)]),
   o 9 10 (.alloc 1 100 [(.int .i64 0), (.slice none 0 0)]),
   ⟨10, none, none, .store 2 (.t 9) (.t 15), [5, 7], false⟩,
   ox 11 (.store 2 (.t 10) (.t 19))])
 (.seq (.region 1 [o 0 20 (.faddr 1 (.t 9)),
   o 1 21 (.load false 1 (.t 20)),
   o 2 22 (.faddr 1 (.t 10)),
   o 3 23 (.load false 1 (.t 22)),
   o 4 24 (.call (.f 45) [(.t 21), (.t 23)]),
   o 5 25 (.build [(.int .i64 0), (.slice none 0 0)] [(1, 1, (.t 24))]),
   o 6 11 (.alloc 0 100 [(.int .i64 0), (.slice none 0 0)]),
   ox 7 (.store 2 (.t 11) (.t 25))])
 (.seq (.seq (.region 0 [o 0 26 (.mv (.t 1))])
 (.block 0 (.seq (.seq (.region 0 [o 0 38 (.bin .eql (.lf .i) (.t 26) (.c (.int .i64 16))),
    o 1 37 (.mv (.t 38))])
  (.cond (.t 37)
   (.skip)
   (.region 0 [o 0 39 (.bin .eql (.lf .i) (.t 26) (.c (.int .i64 17))),
     o 1 37 (.mv (.t 39))])))
  (.cond (.t 37)
   (.seq (.region 0 [o 0 40 (.faddr 0 (.t 6)),
     o 1 41 (.load false 1 (.t 40)),
     o 2 42 (.bin .eql (.lf .i) (.t 41) (.c (.int .i64 5)))])
   (.cond (.t 42)
    (.region 0 [o 0 43 (.mv (.t 0)),
      o 1 44 (.nilchk (.t 43)),
      o 2 45 (.faddr 0 (.t 44)),
      o 3 46 (.faddr 1 (.t 6)),
      o 4 47 (.load false 1 (.t 46)),
      o 5 48 (.faddr 0 (.t 9)),
      o 6 49 (.load false 1 (.t 48)),
      o 7 50 (.faddr 1 (.t 7)),
      o 8 51 (.load false 1 (.t 50)),
      o 9 52 (.faddr 0 (.t 10)),
      o 10 53 (.load false 1 (.t 52)),
      o 11 54 (.call (.f 132) [(.t 45), (.t 47), (.t 49), (.t 51), (.t 53)]),
      o 12 55 (.faddr 0 (.t 11)),
      ox 13 (.store 1 (.t 55) (.t 54))])
    (.region 0 [o 0 56 (.mv (.t 0)),
      o 1 57 (.nilchk (.t 56)),
      o 2 58 (.faddr 0 (.t 57)),
      o 3 59 (.faddr 0 (.t 9)),
      o 4 60 (.load false 1 (.t 59)),
      o 5 61 (.faddr 0 (.t 10)),
      o 6 62 (.load false 1 (.t 61)),
      o 7 63 (.call (.f 133) [(.t 58), (.t 60), (.t 62)]),
      o 8 64 (.faddr 0 (.t 11)),
      ox 9 (.store 1 (.t 64) (.t 63))])))
   (.seq (.region 0 [o 0 66 (.bin .eql (.lf .i) (.t 26) (.c (.int .i64 19))),
     o 1 65 (.mv (.t 66))])
   (.cond (.t 65)
    (.region 0 [o 0 67 (.mv (.t 0)),
      o 1 68 (.nilchk (.t 67)),
      o 2 69 (.faddr 0 (.t 68)),
      o 3 70 (.faddr 0 (.t 10)),
      o 4 71 (.load false 1 (.t 70)),
      o 5 72 (.faddr 0 (.t 9)),
      o 6 73 (.load false 1 (.t 72)),
      o 7 74 (.call (.f 134) [(.t 69), (.c (.int .i64 18)), (.t 71), (.t 73)]),
      o 8 75 (.faddr 0 (.t 11)),
      ox 9 (.store 1 (.t 75) (.t 74))])
    (.region 0 [o 0 27 (.mv (.t 0)),
      o 1 28 (.nilchk (.t 27)),
      o 2 29 (.faddr 0 (.t 28)),
      o 3 30 (.mv (.t 1)),
      o 4 31 (.faddr 0 (.t 9)),
      o 5 32 (.load false 1 (.t 31)),
      o 6 33 (.faddr 0 (.t 10)),
      o 7 34 (.load false 1 (.t 33)),
      o 8 35 (.call (.f 134) [(.t 29), (.t 30), (.t 32), (.t 34)]),
      o 9 36 (.faddr 0 (.t 11)),
      ox 10 (.store 1 (.t 36) (.t 35))])))))))
 (.seq (.seq (.region 0 [o 0 76 (.mv (.t 1)),
   o 1 77 (.bin .eql (.lf .i) (.t 76) (.c (.int .i64 17))),
   o 2 78 (.mv (.t 77)),
   og 3 79 78 false (.mv (.t 1)),
   og 4 80 78 false (.bin .eql (.lf .i) (.t 79) (.c (.int .i64 19))),
   o 5 81 (.pick (.t 78) (.c (.bool true)) (.t 80))])
 (.cond (.t 81)
  (.region 0 [o 0 82 (.mv (.t 0)),
    o 1 83 (.nilchk (.t 82)),
    o 2 84 (.faddr 0 (.t 83)),
    o 3 85 (.faddr 0 (.t 11)),
    o 4 86 (.load false 1 (.t 85)),
    o 5 87 (.call (.f 135) [(.t 84), (.t 86)]),
    o 6 88 (.faddr 0 (.t 11)),
    ox 7 (.store 1 (.t 88) (.t 87))])
  (.skip)))
 (.seq (.region 0 [o 0 89 (.load true 2 (.t 11)),
   ox 1 (.store 2 (.t 8) (.t 89))])
 (.ret))))))⟩
theorem c81 : cFn Tryz.prog Tryz.f81 = some i81 := by kernel_rfl
def i82l0 : Cd :=
  .seq (.region 0 [o 0 19 (.bin .lss (.lf .i) (.t 18) (.t 17))])
  (.seq (.cond (.t 19)
   (.skip)
   (.exit 0))
  (.seq (.block 1 (.seq (.region 1 [o 0 20 (.mv (.t 18)),
     o 1 21 (.iaddr 2 (.t 16) (.t 18)),
     o 2 22 (.load true 2 (.t 21)),
     o 3 11 (.alloc 0 100 [(.int .i64 0), (.slice none 0 0)]),
     o 4 10 (.mv (.t 20)),
     ox 5 (.store 2 (.t 11) (.t 22))])
   (.seq (.region 1 [o 0 23 (.faddr 2 (.t 8)),
     o 1 24 (.load false 1 (.t 23)),
     o 2 25 (.mv (.t 10)),
     o 3 26 (.iaddr 2 (.t 24) (.t 25)),
     o 4 27 (.load true 2 (.t 26)),
     o 5 12 (.alloc 0 100 [(.int .i64 0), (.slice none 0 0)]),
     ox 6 (.store 2 (.t 12) (.t 27))])
   (.seq (.seq (.region 0 [o 0 28 (.load true 2 (.t 11)),
     o 1 29 (.call (.f 89) [(.t 28)]),
     o 2 30 (.mv (.t 29)),
     og 3 31 30 false (.load true 2 (.t 12)),
     og 4 32 30 false (.call (.f 89) [(.t 31)]),
     o 5 33 (.pick (.t 30) (.c (.bool true)) (.t 32))])
   (.cond (.t 33)
    (.seq (.region 0 [o 0 35 (.mv (.t 1)),
      o 1 36 (.nilchk (.t 35)),
      o 2 37 (.faddr 0 (.t 36)),
      o 3 38 (.load false 1 (.t 37)),
      o 4 39 (.call (.f 55) [(.t 38)]),
      o 5 34 (.mv (.t 39)),
      o 6 40 (.ext 0 (.t 34)),
      o 7 41 (.ext 1 (.t 34)),
      o 8 13 (.mv (.t 40)),
      o 9 14 (.mv (.t 41))])
    (.seq (.region 2 [o 5 47 (.mv (.t 0)),
      o 6 48 (.mv (.t 13)),
      ⟨7, (some 49), none, .call (.f 78) [(.t 47), (.t 48)], [], true⟩,
      o 1 43 (.mv (.t 1)),
      o 2 44 (.nilchk (.t 43)),
      o 3 45 (.faddr 2 (.t 44)),
      ⟨4, (some 46), none, .load false 1 (.t 45), [7], false⟩,
      o 8 50 (.bslice 0 100 2 1 [(.int .i64 0), (.slice none 0 0)] [(0, 2, (.t 49))]),
      o 9 51 (.append 1 100 2 32 false (.t 46) (.t 50)),
      o 0 42 (.mv (.t 1)),
      o 10 52 (.nilchk (.t 42)),
      o 11 53 (.faddr 2 (.t 52)),
      ox 12 (.store 1 (.t 53) (.t 51))])
    (.exit 1)))
    (.skip)))
   (.region 2 [o 5 59 (.mv (.t 4)),
     o 6 60 (.load true 2 (.t 11)),
     o 7 61 (.load true 2 (.t 12)),
     ⟨8, (some 62), none, .call (.t 59) [(.t 60), (.t 61)], [], true⟩,
     o 1 55 (.mv (.t 1)),
     o 2 56 (.nilchk (.t 55)),
     o 3 57 (.faddr 2 (.t 56)),
     ⟨4, (some 58), none, .load false 1 (.t 57), [8], false⟩,
     o 9 63 (.bslice 0 100 2 1 [(.int .i64 0), (.slice none 0 0)] [(0, 2, (.t 62))]),
     o 10 64 (.append 1 100 2 32 false (.t 58) (.t 63)),
     o 0 54 (.mv (.t 1)),
     o 11 65 (.nilchk (.t 54)),
     o 12 66 (.faddr 2 (.t 65)),
     ox 13 (.store 1 (.t 66) (.t 64))])))))
  (.region 0 [o 0 67 (.bin .add (.lf .i) (.t 18) (.c (.int .i64 1))),
    o 1 18 (.mv (.t 67))])))
/-- (*burnish/term.Bank).eachLane -/
def i82 : FnI := ⟨[],
 .seq (.region 2 [o 0 7 (.box 0 94 (.t 2)),
   o 1 8 (.box 1 94 (.t 3))])
 (.seq (.region 0 [o 0 15 (.faddr 2 (.t 7)),
   o 1 16 (.load false 1 (.t 15)),
   o 2 17 (.len (.t 16)),
   o 3 18 (.mv (.c (.int .i64 0)))])
 (.block 0 (.loop i82l0)))⟩
theorem c82 : cFn Tryz.prog Tryz.f82 = some i82 := by kernel_rfl
/-- (burnish/term.operation).lane -/
def i83 : FnI := ⟨[.cell 6 true 2],
 .seq (.region 4 [o 0 3 (.box 0 162 (.t 0)),
   o 1 4 (.box 1 100 (.t 1)),
   o 2 5 (.box 2 100 (.t 2)),
   o 3 6 (.alloc 3 100 [(.int .i64 0), (.slice none 0 0)])])
 (.seq (.region 0 [o 0 15 (.faddr 1 (.t 3)),
   o 1 16 (.faddr 1 (.t 15)),
   o 2 17 (.load false 1 (.t 16)),
   o 3 18 (.call (.f 55) [(.t 17)]),
   o 4 14 (.mv (.t 18)),
   o 5 19 (.ext 0 (.t 14)),
   o 6 20 (.ext 1 (.t 14)),
   o 7 7 (.mv (.t 19)),
   o 8 8 (.mv (.t 20))])
 (.seq (.region 0 [o 0 21 (.faddr 0 (.t 3)),
   o 1 22 (.load false 1 (.t 21)),
   o 2 23 (.faddr 1 (.t 3)),
   o 3 24 (.faddr 0 (.t 23)),
   o 4 25 (.load false 1 (.t 24)),
   o 5 9 (.mv (.t 22)),
   o 6 10 (.mv (.t 25))])
 (.seq (.region 1 [o 0 26 (.faddr 1 (.t 4)),
   o 1 27 (.load false 1 (.t 26)),
   o 2 28 (.faddr 1 (.t 5)),
   o 3 29 (.load false 1 (.t 28)),
   o 4 30 (.call (.f 45) [(.t 27), (.t 29)]),
   o 5 31 (.build [(.int .i64 0), (.slice none 0 0)] [(1, 1, (.t 30))]),
   o 6 11 (.alloc 0 100 [(.int .i64 0), (.slice none 0 0)]),
   ox 7 (.store 2 (.t 11) (.t 31))])
 (.seq (.seq (.region 0 [o 0 32 (.mv (.t 10))])
 (.block 0 (.seq (.region 0 [o 0 79 (.bin .eql (.lf .i) (.t 32) (.c (.int .i64 5))),
    o 1 78 (.mv (.t 79))])
  (.cond (.t 78)
   (.region 0 [o 0 80 (.mv (.t 9)),
     o 1 81 (.nilchk (.t 80)),
     o 2 82 (.faddr 0 (.t 81)),
     o 3 83 (.faddr 0 (.t 4)),
     o 4 84 (.load false 1 (.t 83)),
     o 5 85 (.faddr 0 (.t 5)),
     o 6 86 (.load false 1 (.t 85)),
     o 7 87 (.call (.f 61) [(.t 82), (.t 84), (.t 86), (.c (.int .i64 1))]),
     o 8 88 (.faddr 0 (.t 11)),
     ox 9 (.store 1 (.t 88) (.t 87))])
   (.seq (.region 0 [o 0 90 (.bin .eql (.lf .i) (.t 32) (.c (.int .i64 6))),
     o 1 89 (.mv (.t 90))])
   (.cond (.t 89)
    (.region 0 [o 0 91 (.mv (.t 9)),
      o 1 92 (.nilchk (.t 91)),
      o 2 93 (.faddr 0 (.t 92)),
      o 3 94 (.faddr 0 (.t 4)),
      o 4 95 (.load false 1 (.t 94)),
      o 5 96 (.faddr 0 (.t 5)),
      o 6 97 (.load false 1 (.t 96)),
      o 7 98 (.call (.f 61) [(.t 93), (.t 95), (.t 97), (.c (.int .i64 (-1)))]),
      o 8 99 (.faddr 0 (.t 11)),
      ox 9 (.store 1 (.t 99) (.t 98))])
    (.seq (.region 0 [o 0 101 (.bin .eql (.lf .i) (.t 32) (.c (.int .i64 7))),
      o 1 100 (.mv (.t 101))])
    (.cond (.t 100)
     (.region 0 [o 0 102 (.mv (.t 9)),
       o 1 103 (.nilchk (.t 102)),
       o 2 104 (.faddr 0 (.t 103)),
       o 3 105 (.faddr 0 (.t 4)),
       o 4 106 (.load false 1 (.t 105)),
       o 5 107 (.faddr 0 (.t 5)),
       o 6 108 (.load false 1 (.t 107)),
       o 7 109 (.call (.f 136) [(.t 104), (.t 106), (.t 108)]),
       o 8 110 (.faddr 0 (.t 11)),
       ox 9 (.store 1 (.t 110) (.t 109))])
     (.seq (.seq (.region 0 [o 0 112 (.bin .eql (.lf .i) (.t 32) (.c (.int .i64 8))),
       o 1 111 (.mv (.t 112))])
     (.cond (.t 111)
      (.skip)
      (.seq (.region 0 [o 0 113 (.bin .eql (.lf .i) (.t 32) (.c (.int .i64 9))),
        o 1 111 (.mv (.t 113))])
      (.cond (.t 111)
       (.skip)
       (.region 0 [o 0 114 (.bin .eql (.lf .i) (.t 32) (.c (.int .i64 10))),
         o 1 111 (.mv (.t 114))])))))
     (.cond (.t 111)
      (.region 0 [o 0 115 (.mv (.t 9)),
        o 1 116 (.nilchk (.t 115)),
        o 2 117 (.faddr 0 (.t 116)),
        o 3 118 (.mv (.t 10)),
        o 4 119 (.mv (.t 7)),
        o 5 120 (.faddr 0 (.t 4)),
        o 6 121 (.load false 1 (.t 120)),
        o 7 122 (.faddr 0 (.t 5)),
        o 8 123 (.load false 1 (.t 122)),
        o 9 124 (.call (.f 137) [(.t 117), (.t 118), (.t 119), (.t 121), (.t 123)]),
        o 10 125 (.faddr 0 (.t 11)),
        ox 11 (.store 1 (.t 125) (.t 124))])
      (.seq (.seq (.region 0 [o 0 127 (.bin .eql (.lf .i) (.t 32) (.c (.int .i64 14))),
        o 1 126 (.mv (.t 127))])
      (.cond (.t 126)
       (.skip)
       (.region 0 [o 0 128 (.bin .eql (.lf .i) (.t 32) (.c (.int .i64 15))),
         o 1 126 (.mv (.t 128))])))
      (.cond (.t 126)
       (.region 0 [o 0 129 (.mv (.t 9)),
         o 1 130 (.nilchk (.t 129)),
         o 2 131 (.faddr 0 (.t 130)),
         o 3 132 (.mv (.t 10)),
         o 4 133 (.mv (.t 7)),
         o 5 134 (.faddr 0 (.t 4)),
         o 6 135 (.load false 1 (.t 134)),
         o 7 136 (.faddr 0 (.t 5)),
         o 8 137 (.load false 1 (.t 136)),
         o 9 138 (.call (.f 138) [(.t 131), (.t 132), (.t 133), (.t 135), (.t 137)]),
         o 10 139 (.faddr 0 (.t 11)),
         ox 11 (.store 1 (.t 139) (.t 138))])
       (.seq (.region 0 [o 0 34 (.mv (.t 9)),
         o 1 35 (.nilchk (.t 34)),
         o 2 36 (.faddr 0 (.t 35)),
         o 3 37 (.faddr 0 (.t 5)),
         o 4 38 (.load false 1 (.t 37)),
         o 5 39 (.call (.f 52) [(.t 36), (.t 38)]),
         o 6 33 (.mv (.t 39)),
         o 7 40 (.ext 0 (.t 33)),
         o 8 41 (.ext 1 (.t 33)),
         o 9 12 (.mv (.t 40)),
         o 10 13 (.mv (.t 41))])
       (.seq (.seq (.region 0 [o 0 42 (.mv (.t 13)),
         o 1 43 (.mv (.t 42)),
         og 2 44 43 true (.mv (.t 7)),
         og 3 45 43 true (.mv (.t 12)),
         og 4 46 43 true (.call (.f 139) [(.t 44), (.t 45)]),
         og 5 47 43 true (.mv (.t 7)),
         og 6 48 43 true (.call (.f 51) [(.t 47)]),
         og 7 49 43 true (.conv .u64 (.t 48)),
         og 8 50 43 true (.bin .geq (.lf .i) (.t 46) (.t 49)),
         o 9 51 (.pick (.t 43) (.t 50) (.c (.bool false)))])
       (.cond (.t 51)
        (.seq (.region 0 [o 0 52 (.mv (.t 9)),
          o 1 53 (.mv (.t 7)),
          o 2 54 (.call (.f 78) [(.t 52), (.t 53)]),
          ox 3 (.store 2 (.t 6) (.t 54))])
        (.ret))
        (.skip)))
       (.seq (.seq (.region 0 [o 0 55 (.mv (.t 13)),
         o 1 56 (.un .not (.t 55))])
       (.cond (.t 56)
        (.region 1 [o 2 59 (.mv (.t 9)),
          o 3 60 (.faddr 0 (.t 5)),
          o 4 61 (.load false 1 (.t 60)),
          o 5 62 (.build [(.int .i64 0), (.int .i64 0), (.int .i64 0), (.int .i64 0), (.int .i64 0), (.string ⟨#[]⟩), (.string ⟨#[]⟩)] [(0, 1, (.c (.int .i64 2))), (1, 1, (.t 61))]),
          ⟨6, (some 63), none, .call (.f 59) [(.t 59), (.t 62)], [], true⟩,
          o 0 57 (.faddr 1 (.t 11)),
          ⟨1, (some 58), none, .load false 1 (.t 57), [6], false⟩,
          o 7 64 (.bslice 0 3 1 1 [(.int .i64 0)] [(0, 1, (.t 63))]),
          o 8 65 (.call (.f 45) [(.t 58), (.t 64)]),
          o 9 66 (.faddr 1 (.t 11)),
          ox 10 (.store 1 (.t 66) (.t 65))])
        (.skip)))
       (.region 0 [o 0 67 (.mv (.t 9)),
         o 1 68 (.nilchk (.t 67)),
         o 2 69 (.faddr 0 (.t 68)),
         o 3 70 (.mv (.t 10)),
         o 4 71 (.mv (.t 7)),
         o 5 72 (.faddr 0 (.t 4)),
         o 6 73 (.load false 1 (.t 72)),
         o 7 74 (.faddr 0 (.t 5)),
         o 8 75 (.load false 1 (.t 74)),
         o 9 76 (.call (.f 140) [(.t 69), (.t 70), (.t 71), (.t 73), (.t 75)]),
         o 10 77 (.faddr 0 (.t 11)),
         ox 11 (.store 1 (.t 77) (.t 76))]))))))))))))))))
 (.seq (.seq (.region 0 [o 0 140 (.mv (.t 10)),
   o 1 141 (.bin .leq (.lf .i) (.t 140) (.c (.int .i64 7))),
   o 2 142 (.mv (.t 141)),
   og 3 143 142 true (.faddr 1 (.t 3)),
   og 4 144 142 true (.faddr 7 (.t 143)),
   og 5 145 142 true (.load false 1 (.t 144)),
   o 6 146 (.pick (.t 142) (.t 145) (.c (.bool false)))])
 (.cond (.t 146)
  (.region 0 [o 2 149 (.mv (.t 9)),
    o 3 150 (.mv (.t 10)),
    o 4 151 (.mv (.t 7)),
    o 5 152 (.faddr 0 (.t 4)),
    o 6 153 (.load false 1 (.t 152)),
    o 7 154 (.faddr 0 (.t 5)),
    o 8 155 (.load false 1 (.t 154)),
    ⟨9, (some 156), none, .call (.f 141) [(.t 149), (.t 150), (.t 151), (.t 153), (.t 155)], [], true⟩,
    o 0 147 (.faddr 1 (.t 11)),
    ⟨1, (some 148), none, .load false 1 (.t 147), [9], false⟩,
    o 10 157 (.call (.f 45) [(.t 148), (.t 156)]),
    o 11 158 (.faddr 1 (.t 11)),
    ox 12 (.store 1 (.t 158) (.t 157))])
  (.skip)))
 (.seq (.region 0 [o 0 159 (.load true 2 (.t 11)),
   ox 1 (.store 2 (.t 6) (.t 159))])
 (.ret)))))))⟩
theorem c83 : cFn Tryz.prog Tryz.f83 = some i83 := by kernel_rfl
def i84l0 : Cd :=
  .block 1 (.seq (.region 0 [o 0 19 (.mv (.t 2)),
     o 1 20 (.mv (.t 1)),
     o 2 21 (.bin .sub (.lf .i) (.t 19) (.t 20)),
     o 3 10 (.mv (.t 21))])
   (.seq (.seq (.region 0 [o 0 22 (.mv (.t 10)),
     o 1 23 (.bin .leq (.lf .i) (.t 22) (.c (.int .i64 12)))])
   (.cond (.t 23)
    (.seq (.region 0 [o 0 24 (.mv (.t 0)),
      o 1 25 (.mv (.t 1)),
      o 2 26 (.mv (.t 2)),
      o 3 27 (.call (.f 142) [(.t 24), (.t 25), (.t 26)])])
    (.ret))
    (.skip)))
   (.seq (.seq (.region 0 [o 0 28 (.mv (.t 3)),
     o 1 29 (.bin .eql (.lf .i) (.t 28) (.c (.int .i64 0)))])
   (.cond (.t 29)
    (.seq (.region 0 [o 0 30 (.mv (.t 0)),
      o 1 31 (.mv (.t 1)),
      o 2 32 (.mv (.t 2)),
      o 3 33 (.call (.f 143) [(.t 30), (.t 31), (.t 32)])])
    (.ret))
    (.skip)))
   (.seq (.seq (.region 0 [o 0 34 (.mv (.t 8)),
     o 1 35 (.un .not (.t 34))])
   (.cond (.t 35)
    (.seq (.region 0 [o 0 36 (.mv (.t 0)),
      o 1 37 (.mv (.t 1)),
      o 2 38 (.mv (.t 2)),
      o 3 39 (.call (.f 144) [(.t 36), (.t 37), (.t 38)])])
    (.region 0 [o 0 40 (.mv (.t 3)),
      o 1 41 (.bin .sub (.lf .i) (.t 40) (.c (.int .i64 1))),
      o 2 3 (.mv (.t 41))]))
    (.skip)))
   (.seq (.region 0 [o 0 43 (.mv (.t 0)),
     o 1 44 (.mv (.t 1)),
     o 2 45 (.mv (.t 2)),
     o 3 46 (.call (.f 145) [(.t 43), (.t 44), (.t 45)]),
     o 4 42 (.mv (.t 46)),
     o 5 47 (.ext 0 (.t 42)),
     o 6 48 (.ext 1 (.t 42)),
     o 7 11 (.mv (.t 47)),
     o 8 12 (.mv (.t 48))])
   (.seq (.seq (.region 0 [o 0 49 (.mv (.t 12)),
     o 1 50 (.bin .eql (.lf .i) (.t 49) (.c (.int .i64 2)))])
   (.cond (.t 50)
    (.seq (.region 0 [o 0 51 (.mv (.t 0)),
      o 1 52 (.mv (.t 1)),
      o 2 53 (.mv (.t 2)),
      o 3 54 (.call (.f 146) [(.t 51), (.t 52), (.t 53)])])
    (.seq (.region 0 [o 0 55 (.mv (.t 2)),
      o 1 56 (.bin .sub (.lf .i) (.t 55) (.c (.int .i64 1))),
      o 2 57 (.mv (.t 11)),
      o 3 58 (.mv (.t 1)),
      o 4 59 (.bin .sub (.lf .i) (.t 57) (.t 58)),
      o 5 60 (.bin .sub (.lf .i) (.t 56) (.t 59)),
      o 6 11 (.mv (.t 60))])
    (.region 0 [o 0 12 (.mv (.c (.int .i64 1)))])))
    (.skip)))
   (.seq (.seq (.region 0 [o 0 61 (.mv (.t 8)),
     o 1 62 (.mv (.t 61)),
     og 2 63 62 true (.mv (.t 9)),
     o 3 64 (.pick (.t 62) (.t 63) (.c (.bool false))),
     o 4 65 (.mv (.t 64)),
     og 5 66 65 true (.mv (.t 12)),
     og 6 67 65 true (.bin .eql (.lf .i) (.t 66) (.c (.int .i64 1))),
     o 7 68 (.pick (.t 65) (.t 67) (.c (.bool false)))])
   (.cond (.t 68)
    (.seq (.region 0 [o 0 69 (.mv (.t 0)),
      o 1 70 (.mv (.t 1)),
      o 2 71 (.mv (.t 2)),
      o 3 72 (.call (.f 147) [(.t 69), (.t 70), (.t 71)])])
    (.cond (.t 72)
     (.ret)
     (.skip)))
    (.skip)))
   (.seq (.seq (.region 0 [o 0 73 (.mv (.t 1)),
     o 1 74 (.bin .gtr (.lf .i) (.t 73) (.c (.int .i64 0))),
     o 2 75 (.mv (.t 74)),
     og 3 76 75 true (.mv (.t 0)),
     og 4 77 75 true (.mv (.t 1)),
     og 5 78 75 true (.bin .sub (.lf .i) (.t 77) (.c (.int .i64 1))),
     og 6 79 75 true (.iaddr 1 (.t 76) (.t 78)),
     og 7 80 75 true (.load false 1 (.t 79)),
     og 8 81 75 true (.mv (.t 0)),
     og 9 82 75 true (.mv (.t 11)),
     og 10 83 75 true (.iaddr 1 (.t 81) (.t 82)),
     og 11 84 75 true (.load false 1 (.t 83)),
     og 12 85 75 true (.call (.f 148) [(.t 80), (.t 84)]),
     og 13 86 75 true (.un .not (.t 85)),
     o 14 87 (.pick (.t 75) (.t 86) (.c (.bool false)))])
   (.cond (.t 87)
    (.seq (.region 0 [o 0 88 (.mv (.t 0)),
      o 1 89 (.mv (.t 1)),
      o 2 90 (.mv (.t 2)),
      o 3 91 (.mv (.t 11)),
      o 4 92 (.call (.f 149) [(.t 88), (.t 89), (.t 90), (.t 91)]),
      o 5 13 (.mv (.t 92))])
    (.seq (.region 0 [o 0 93 (.mv (.t 13)),
      o 1 1 (.mv (.t 93))])
    (.exit 1)))
    (.skip)))
   (.seq (.region 0 [o 0 95 (.mv (.t 0)),
     o 1 96 (.mv (.t 1)),
     o 2 97 (.mv (.t 2)),
     o 3 98 (.mv (.t 11)),
     o 4 99 (.call (.f 150) [(.t 95), (.t 96), (.t 97), (.t 98)]),
     o 5 94 (.mv (.t 99)),
     o 6 100 (.ext 0 (.t 94)),
     o 7 101 (.ext 1 (.t 94)),
     o 8 14 (.mv (.t 100)),
     o 9 15 (.mv (.t 101))])
   (.seq (.region 0 [o 0 102 (.mv (.t 15)),
     o 1 9 (.mv (.t 102))])
   (.seq (.region 0 [o 0 103 (.mv (.t 14)),
     o 1 104 (.mv (.t 1)),
     o 2 105 (.bin .sub (.lf .i) (.t 103) (.t 104)),
     o 3 106 (.mv (.t 2)),
     o 4 107 (.mv (.t 14)),
     o 5 108 (.bin .sub (.lf .i) (.t 106) (.t 107)),
     o 6 16 (.mv (.t 105)),
     o 7 17 (.mv (.t 108))])
   (.seq (.region 0 [o 0 109 (.mv (.t 10)),
     o 1 110 (.bin .quo (.lf .i) (.t 109) (.c (.int .i64 8))),
     o 2 18 (.mv (.t 110))])
   (.seq (.region 0 [o 0 111 (.mv (.t 16)),
     o 1 112 (.mv (.t 17)),
     o 2 113 (.bin .lss (.lf .i) (.t 111) (.t 112))])
   (.cond (.t 113)
    (.seq (.region 0 [o 0 114 (.mv (.t 16)),
      o 1 115 (.mv (.t 18)),
      o 2 116 (.bin .geq (.lf .i) (.t 114) (.t 115)),
      o 3 8 (.mv (.t 116))])
    (.seq (.region 0 [o 0 117 (.mv (.t 0)),
      o 1 118 (.mv (.t 1)),
      o 2 119 (.mv (.t 14)),
      o 3 120 (.mv (.t 3)),
      o 4 121 (.call (.f 84) [(.t 117), (.t 118), (.t 119), (.t 120)])])
    (.region 0 [o 0 122 (.mv (.t 14)),
      o 1 123 (.bin .add (.lf .i) (.t 122) (.c (.int .i64 1))),
      o 2 1 (.mv (.t 123))])))
    (.seq (.region 0 [o 0 124 (.mv (.t 17)),
      o 1 125 (.mv (.t 18)),
      o 2 126 (.bin .geq (.lf .i) (.t 124) (.t 125)),
      o 3 8 (.mv (.t 126))])
    (.seq (.region 0 [o 0 127 (.mv (.t 0)),
      o 1 128 (.mv (.t 14)),
      o 2 129 (.bin .add (.lf .i) (.t 128) (.c (.int .i64 1))),
      o 3 130 (.mv (.t 2)),
      o 4 131 (.mv (.t 3)),
      o 5 132 (.call (.f 84) [(.t 127), (.t 129), (.t 130), (.t 131)])])
    (.region 0 [o 0 133 (.mv (.t 14)),
      o 1 2 (.mv (.t 133))])))))))))))))))))
/-- slices.pdqsortOrdered[int] -/
def i84 : FnI := ⟨[],
 .seq (.region 0 [o 0 8 (.mv (.c (.bool true)))])
 (.seq (.region 0 [o 0 9 (.mv (.c (.bool true)))])
 (.block 0 (.loop i84l0)))⟩
theorem c84 : cFn Tryz.prog Tryz.f84 = some i84 := by kernel_rfl
/-- math/bits.Len -/
def i85 : FnI := ⟨[.tmp 2],
 .seq (.region 0 [o 0 2 (.mv (.c (.int .i64 0)))])
 (.seq (.cond (.c (.bool false))
  (.seq (.region 0 [o 0 3 (.mv (.t 0)),
    o 1 4 (.conv .u32 (.t 3)),
    o 2 5 (.call (.f 151) [(.t 4)]),
    o 3 2 (.mv (.t 5))])
  (.ret))
  (.skip))
 (.seq (.region 0 [o 0 6 (.mv (.t 0)),
   o 1 7 (.call (.f 152) [(.t 6)]),
   o 2 2 (.mv (.t 7))])
 (.ret)))⟩
theorem c85 : cFn Tryz.prog Tryz.f85 = some i85 := by kernel_rfl
/-- strconv.Itoa -/
def i86 : FnI := ⟨[.tmp 2],
 .seq (.region 0 [o 0 2 (.mv (.c (.string ⟨#[]⟩)))])
 (.seq (.region 0 [o 0 3 (.mv (.t 0)),
   o 1 4 (.call (.f 153) [(.t 3)]),
   o 2 2 (.mv (.t 4))])
 (.ret))⟩
theorem c86 : cFn Tryz.prog Tryz.f86 = some i86 := by kernel_rfl
def i87l1 : Cd :=
  .seq (.seq (.region 0 [o 0 29 (.mv (.t 5)),
    o 1 30 (.mv (.t 4)),
    o 2 31 (.len (.t 30)),
    o 3 32 (.bin .lss (.lf .i) (.t 29) (.t 31))])
  (.cond (.t 32)
   (.skip)
   (.exit 2)))
  (.seq (.block 3 (.seq (.region 0 [o 0 35 (.mv (.t 4)),
     o 1 36 (.mv (.t 5)),
     o 2 37 (.iaddr 1 (.t 35) (.t 36)),
     o 3 38 (.load false 1 (.t 37)),
     o 4 39 (.mv (.t 4)),
     o 5 40 (.mv (.t 5)),
     o 6 41 (.bin .sub (.lf .i) (.t 40) (.c (.int .i64 1))),
     o 7 42 (.iaddr 1 (.t 39) (.t 41)),
     o 8 43 (.load false 1 (.t 42)),
     o 9 44 (.bin .neq (.lf .i) (.t 38) (.t 43))])
   (.cond (.t 44)
    (.seq (.region 0 [o 0 45 (.mv (.t 0)),
      o 1 46 (.mv (.t 3)),
      o 2 47 (.mv (.t 4)),
      o 3 48 (.mv (.t 5)),
      o 4 49 (.iaddr 1 (.t 47) (.t 48)),
      o 5 50 (.load false 1 (.t 49)),
      o 6 51 (.iaddr 1 (.t 45) (.t 46)),
      ox 7 (.store 1 (.t 51) (.t 50))])
    (.region 0 [o 0 52 (.mv (.t 3)),
      o 1 53 (.bin .add (.lf .i) (.t 52) (.c (.int .i64 1))),
      o 2 3 (.mv (.t 53))]))
    (.skip))))
  (.region 0 [o 0 33 (.mv (.t 5)),
    o 1 34 (.bin .add (.lf .i) (.t 33) (.c (.int .i64 1))),
    o 2 5 (.mv (.t 34))]))
def i87l0 : Cd :=
  .seq (.seq (.region 0 [o 0 10 (.mv (.t 3)),
    o 1 11 (.mv (.t 0)),
    o 2 12 (.len (.t 11)),
    o 3 13 (.bin .lss (.lf .i) (.t 10) (.t 12))])
  (.cond (.t 13)
   (.skip)
   (.exit 0)))
  (.seq (.block 1 (.seq (.region 0 [o 0 16 (.mv (.t 0)),
     o 1 17 (.mv (.t 3)),
     o 2 18 (.iaddr 1 (.t 16) (.t 17)),
     o 3 19 (.load false 1 (.t 18)),
     o 4 20 (.mv (.t 0)),
     o 5 21 (.mv (.t 3)),
     o 6 22 (.bin .sub (.lf .i) (.t 21) (.c (.int .i64 1))),
     o 7 23 (.iaddr 1 (.t 20) (.t 22)),
     o 8 24 (.load false 1 (.t 23)),
     o 9 25 (.bin .eql (.lf .i) (.t 19) (.t 24))])
   (.cond (.t 25)
    (.seq (.region 0 [o 0 26 (.mv (.t 0)),
      o 1 27 (.mv (.t 3)),
      o 2 28 (.slice 1 (.t 26) (some (.t 27)) none none),
      o 3 4 (.mv (.t 28))])
    (.seq (.seq (.region 0 [o 0 5 (.mv (.c (.int .i64 1)))])
    (.block 2 (.loop i87l1)))
    (.seq (.region 0 [o 0 54 (.mv (.t 0)),
      o 1 55 (.mv (.t 3)),
      o 2 56 (.slice 1 (.t 54) (some (.t 55)) none none),
      ox 3 (.clear 1 [(.int .i64 0)] (.t 56))])
    (.seq (.region 0 [o 0 57 (.mv (.t 0)),
      o 1 58 (.mv (.t 3)),
      o 2 59 (.slice 1 (.t 57) none (some (.t 58)) none),
      o 3 2 (.mv (.t 59))])
    (.ret)))))
    (.skip))))
  (.region 0 [o 0 14 (.mv (.t 3)),
    o 1 15 (.bin .add (.lf .i) (.t 14) (.c (.int .i64 1))),
    o 2 3 (.mv (.t 15))]))
/-- slices.Compact[[]int,int] -/
def i87 : FnI := ⟨[.tmp 2],
 .seq (.region 0 [o 0 2 (.mv (.c (.slice none 0 0)))])
 (.seq (.seq (.region 0 [o 0 6 (.mv (.t 0)),
   o 1 7 (.len (.t 6)),
   o 2 8 (.bin .lss (.lf .i) (.t 7) (.c (.int .i64 2)))])
 (.cond (.t 8)
  (.seq (.region 0 [o 0 9 (.mv (.t 0)),
    o 1 2 (.mv (.t 9))])
  (.ret))
  (.skip)))
 (.seq (.seq (.region 0 [o 0 3 (.mv (.c (.int .i64 1)))])
 (.block 0 (.loop i87l0)))
 (.seq (.region 0 [o 0 60 (.mv (.t 0)),
   o 1 2 (.mv (.t 60))])
 (.ret))))⟩
theorem c87 : cFn Tryz.prog Tryz.f87 = some i87 := by kernel_rfl
/-- (*burnish/term.Bank).add$1 -/
def i88 : FnI := ⟨[.tmp 2],
 .seq (.region 1 [o 0 1 (.box 0 100 (.t 0)),
   o 1 2 (.mv (.c (.bool false)))])
 (.seq (.region 0 [o 0 3 (.load true 2 (.t 1)),
   o 1 4 (.call (.f 89) [(.t 3)]),
   o 2 2 (.mv (.t 4))])
 (.ret))⟩
theorem c88 : cFn Tryz.prog Tryz.f88 = some i88 := by kernel_rfl
/-- burnish/term.isBad -/
def i89 : FnI := ⟨[.tmp 2],
 .seq (.region 1 [o 0 1 (.box 0 100 (.t 0)),
   o 1 2 (.mv (.c (.bool false)))])
 (.seq (.region 0 [o 0 3 (.faddr 1 (.t 1)),
   o 1 4 (.load false 1 (.t 3)),
   o 2 5 (.call (.f 53) [(.t 4), (.c (.int .i64 0))]),
   o 3 2 (.mv (.t 5))])
 (.ret))⟩
theorem c89 : cFn Tryz.prog Tryz.f89 = some i89 := by kernel_rfl
/-- burnish/intn.Wrap -/
def i102 : FnI := ⟨[.tmp 4],
 .seq (.region 0 [o 0 4 (.mv (.c (.int .i64 0)))])
 (.seq (.region 0 [o 0 6 (.mv (.t 0)),
   o 1 7 (.call (.f 51) [(.t 6)]),
   o 2 5 (.mv (.t 7))])
 (.seq (.region 0 [o 0 8 (.mv (.t 5))])
 (.block 0 (.seq (.region 0 [o 0 17 (.bin .eql (.lf .i) (.t 8) (.c (.int .i64 0))),
    o 1 16 (.mv (.t 17))])
  (.cond (.t 16)
   (.seq (.region 0 [o 0 4 (.mv (.c (.int .i64 0)))])
   (.ret))
   (.seq (.region 0 [o 0 19 (.bin .eql (.lf .i) (.t 8) (.c (.int .i64 1))),
     o 1 18 (.mv (.t 19))])
   (.cond (.t 18)
    (.seq (.region 0 [o 0 20 (.mv (.t 1)),
      o 1 21 (.bin .and (.lf .i) (.t 20) (.c (.int .i64 1))),
      o 2 4 (.mv (.t 21))])
    (.ret))
    (.seq (.region 0 [o 0 9 (.mv (.t 1)),
      o 1 10 (.mv (.t 5)),
      o 2 11 (.bin .sub (.lf .i) (.c (.int .i64 64)) (.t 10)),
      o 3 12 (.bin .shl (.lf .i) (.t 9) (.t 11)),
      o 4 13 (.mv (.t 5)),
      o 5 14 (.bin .sub (.lf .i) (.c (.int .i64 64)) (.t 13)),
      o 6 15 (.bin .shr (.lf .i) (.t 12) (.t 14)),
      o 7 4 (.mv (.t 15))])
    (.ret)))))))))⟩
theorem c102 : cFn Tryz.prog Tryz.f102 = some i102 := by kernel_rfl
def i103l0 : Cd :=
  .seq (.region 0 [o 0 9 (.bin .lss (.lf .i) (.t 8) (.t 7))])
  (.seq (.cond (.t 9)
   (.skip)
   (.exit 0))
  (.seq (.block 1 (.seq (.region 0 [o 0 10 (.mv (.t 8)),
     o 1 5 (.mv (.t 10))])
   (.seq (.region 0 [o 0 11 (.mv (.t 1)),
     o 1 12 (.mv (.t 0)),
     o 2 13 (.mv (.t 5)),
     o 3 14 (.iaddr 1 (.t 12) (.t 13)),
     o 4 15 (.load false 1 (.t 14)),
     o 5 16 (.bin .eql (.lf .i) (.t 11) (.t 15))])
   (.cond (.t 16)
    (.seq (.region 0 [o 0 17 (.mv (.t 5)),
      o 1 4 (.mv (.t 17))])
    (.ret))
    (.skip)))))
  (.region 0 [o 0 18 (.bin .add (.lf .i) (.t 8) (.c (.int .i64 1))),
    o 1 8 (.mv (.t 18))])))
/-- slices.Index[[]int,int] -/
def i103 : FnI := ⟨[.tmp 4],
 .seq (.region 0 [o 0 4 (.mv (.c (.int .i64 0)))])
 (.seq (.seq (.region 0 [o 0 6 (.mv (.t 0)),
   o 1 7 (.len (.t 6)),
   o 2 8 (.mv (.c (.int .i64 0)))])
 (.block 0 (.loop i103l0)))
 (.seq (.region 0 [o 0 4 (.mv (.c (.int .i64 (-1))))])
 (.ret)))⟩
theorem c103 : cFn Tryz.prog Tryz.f103 = some i103 := by kernel_rfl
def i104l3 : Cd :=
  .seq (.region 0 [o 0 109 (.bin .lss (.lf .i) (.t 108) (.t 107))])
  (.seq (.cond (.t 109)
   (.skip)
   (.exit 6))
  (.seq (.block 7 (.seq (.region 0 [o 0 110 (.iaddr 1 (.t 106) (.t 108)),
     o 1 111 (.load false 1 (.t 110)),
     o 2 16 (.mv (.t 111))])
   (.region 0 [o 0 112 (.mv (.t 12)),
     o 1 113 (.mv (.t 16)),
     o 2 114 (.call (.f 44) [(.t 113)]),
     o 3 115 (.bin .add (.lf .s) (.c (.string ⟨#[42]⟩)) (.t 114)),
     o 4 116 (.bin .add (.lf .s) (.t 112) (.t 115)),
     o 5 12 (.mv (.t 116))])))
  (.region 0 [o 0 117 (.bin .add (.lf .i) (.t 108) (.c (.int .i64 1))),
    o 1 108 (.mv (.t 117))])))
def i104l2 : Cd :=
  .seq (.region 0 [o 0 96 (.bin .lss (.lf .i) (.t 95) (.t 94))])
  (.seq (.cond (.t 96)
   (.skip)
   (.exit 4))
  (.seq (.block 5 (.seq (.region 1 [o 0 97 (.iaddr 2 (.t 93) (.t 95)),
     o 1 98 (.load true 2 (.t 97)),
     o 2 14 (.alloc 0 184 [(.int .u64 0), (.slice none 0 0)]),
     ox 3 (.store 2 (.t 14) (.t 98))])
   (.seq (.region 0 [o 0 99 (.mv (.t 12)),
     o 1 100 (.faddr 0 (.t 14)),
     o 2 101 (.load false 1 (.t 100)),
     o 3 102 (.call (.f 166) [(.t 101), (.c (.int .i64 10))]),
     o 4 103 (.bin .add (.lf .s) (.c (.string ⟨#[43]⟩)) (.t 102)),
     o 5 104 (.bin .add (.lf .s) (.t 99) (.t 103)),
     o 6 12 (.mv (.t 104))])
   (.seq (.region 0 [o 0 105 (.faddr 1 (.t 14)),
     o 1 106 (.load false 1 (.t 105)),
     o 2 107 (.len (.t 106)),
     o 3 108 (.mv (.c (.int .i64 0)))])
   (.block 6 (.loop i104l3))))))
  (.region 0 [o 0 118 (.bin .add (.lf .i) (.t 95) (.c (.int .i64 1))),
    o 1 95 (.mv (.t 118))])))
def i104l1 : Cd :=
  .seq (.region 0 [o 0 69 (.bin .lss (.lf .i) (.t 68) (.t 67))])
  (.seq (.cond (.t 69)
   (.skip)
   (.exit 2))
  (.seq (.block 3 (.seq (.region 0 [o 0 70 (.mv (.t 68)),
     o 1 11 (.mv (.t 70))])
   (.region 0 [o 3 74 (.mv (.t 1)),
     o 4 75 (.faddr 1 (.t 7)),
     o 5 76 (.load false 1 (.t 75)),
     o 6 77 (.mv (.t 11)),
     o 7 78 (.iaddr 2 (.t 76) (.t 77)),
     o 8 79 (.faddr 0 (.t 78)),
     o 9 80 (.load false 1 (.t 79)),
     o 10 81 (.conv .i64 (.t 80)),
     ⟨11, (some 82), none, .call (.f 139) [(.t 74), (.t 81)], [], true⟩,
     o 0 71 (.faddr 1 (.t 7)),
     ⟨1, (some 72), none, .load false 1 (.t 71), [11], false⟩,
     o 2 73 (.mv (.t 11)),
     o 12 83 (.iaddr 2 (.t 72) (.t 73)),
     o 13 84 (.faddr 0 (.t 83)),
     ox 14 (.store 1 (.t 84) (.t 82))])))
  (.region 0 [o 0 85 (.bin .add (.lf .i) (.t 68) (.c (.int .i64 1))),
    o 1 68 (.mv (.t 85))])))
def i104l0 : Cd :=
  .seq (.region 0 [o 0 26 (.bin .lss (.lf .i) (.t 25) (.t 24))])
  (.seq (.cond (.t 26)
   (.skip)
   (.exit 0))
  (.seq (.block 1 (.seq (.region 1 [o 0 27 (.iaddr 2 (.t 23) (.t 25)),
     o 1 28 (.load true 2 (.t 27)),
     o 2 9 (.alloc 0 184 [(.int .u64 0), (.slice none 0 0)]),
     ox 3 (.store 2 (.t 9) (.t 28))])
   (.seq (.region 0 [o 0 29 (.faddr 1 (.t 7)),
     o 1 30 (.load false 1 (.t 29)),
     o 2 31 (.len (.t 30)),
     o 3 10 (.mv (.t 31))])
   (.seq (.region 0 [o 0 32 (.mv (.t 10)),
     o 1 33 (.bin .gtr (.lf .i) (.t 32) (.c (.int .i64 0))),
     o 2 34 (.mv (.t 33)),
     og 3 35 34 true (.faddr 1 (.t 7)),
     og 4 36 34 true (.load false 1 (.t 35)),
     og 5 37 34 true (.mv (.t 10)),
     og 6 38 34 true (.bin .sub (.lf .i) (.t 37) (.c (.int .i64 1))),
     og 7 39 34 true (.iaddr 2 (.t 36) (.t 38)),
     og 8 40 34 true (.faddr 1 (.t 39)),
     og 9 41 34 true (.load false 1 (.t 40)),
     og 10 42 34 true (.faddr 1 (.t 9)),
     og 11 43 34 true (.load false 1 (.t 42)),
     og 12 44 34 true (.call (.f 14) [(.t 41), (.t 43)]),
     o 13 45 (.pick (.t 34) (.t 44) (.c (.bool false)))])
   (.cond (.t 45)
    (.region 0 [o 0 46 (.faddr 1 (.t 7)),
      o 1 47 (.load false 1 (.t 46)),
      o 2 48 (.mv (.t 10)),
      o 3 49 (.bin .sub (.lf .i) (.t 48) (.c (.int .i64 1))),
      o 4 50 (.iaddr 2 (.t 47) (.t 49)),
      o 5 51 (.faddr 0 (.t 50)),
      o 6 52 (.load false 1 (.t 51)),
      o 7 53 (.faddr 0 (.t 9)),
      o 8 54 (.load false 1 (.t 53)),
      o 9 55 (.bin .add (.lf .i) (.t 52) (.t 54)),
      o 10 56 (.iaddr 2 (.t 47) (.t 49)),
      o 11 57 (.faddr 0 (.t 56)),
      ox 12 (.store 1 (.t 57) (.t 55))])
    (.region 2 [o 0 58 (.faddr 1 (.t 7)),
      o 1 59 (.load false 1 (.t 58)),
      o 2 60 (.load true 2 (.t 9)),
      o 3 61 (.bslice 0 184 2 1 [(.int .u64 0), (.slice none 0 0)] [(0, 2, (.t 60))]),
      o 4 62 (.append 1 184 2 32 false (.t 59) (.t 61)),
      o 5 63 (.faddr 1 (.t 7)),
      ox 6 (.store 1 (.t 63) (.t 62))]))))))
  (.region 0 [o 0 64 (.bin .add (.lf .i) (.t 25) (.c (.int .i64 1))),
    o 1 25 (.mv (.t 64))])))
/-- (*burnish/term.forms).intern -/
def i104 : FnI := ⟨[.tmp 6],
 .seq (.region 0 [o 0 6 (.mv (.c (.int .i64 0)))])
 (.seq (.region 0 [o 0 19 (.mv (.t 2)),
   o 1 20 (.call (.f 161) [(.t 19), (.f 162)])])
 (.seq (.region 1 [o 0 21 (.mv (.t 1)),
   o 1 22 (.build [(.int .i64 0), (.slice none 0 0)] [(0, 1, (.t 21))]),
   o 2 7 (.alloc 0 182 [(.int .i64 0), (.slice none 0 0)]),
   ox 3 (.store 2 (.t 7) (.t 22))])
 (.seq (.seq (.region 0 [o 0 23 (.mv (.t 2)),
   o 1 24 (.len (.t 23)),
   o 2 25 (.mv (.c (.int .i64 0)))])
 (.block 0 (.loop i104l0)))
 (.seq (.seq (.region 0 [o 0 65 (.faddr 1 (.t 7)),
   o 1 66 (.load false 1 (.t 65)),
   o 2 67 (.len (.t 66)),
   o 3 68 (.mv (.c (.int .i64 0)))])
 (.block 2 (.loop i104l1)))
 (.seq (.region 0 [o 0 86 (.faddr 1 (.t 7)),
   o 1 87 (.load false 1 (.t 86)),
   o 2 88 (.call (.f 164) [(.t 87), (.f 165)]),
   o 3 89 (.faddr 1 (.t 7)),
   ox 4 (.store 1 (.t 89) (.t 88))])
 (.seq (.region 0 [o 0 90 (.mv (.t 1)),
   o 1 91 (.call (.f 44) [(.t 90)]),
   o 2 12 (.mv (.t 91))])
 (.seq (.seq (.region 0 [o 0 92 (.faddr 1 (.t 7)),
   o 1 93 (.load false 1 (.t 92)),
   o 2 94 (.len (.t 93)),
   o 3 95 (.mv (.c (.int .i64 0)))])
 (.block 4 (.loop i104l2)))
 (.seq (.region 0 [o 0 120 (.mv (.t 0)),
   o 1 121 (.nilchk (.t 120)),
   o 2 122 (.faddr 3 (.t 121)),
   o 3 123 (.load false 1 (.t 122)),
   o 4 124 (.mv (.t 12)),
   o 5 125 (.lookup (.lf .s) (.int .i64 0) true (.t 123) (.t 124)),
   o 6 119 (.mv (.t 125)),
   o 7 126 (.ext 0 (.t 119)),
   o 8 127 (.ext 1 (.t 119)),
   o 9 17 (.mv (.t 126)),
   o 10 18 (.mv (.t 127))])
 (.seq (.seq (.region 0 [o 0 128 (.mv (.t 18)),
   o 1 129 (.un .not (.t 128))])
 (.cond (.t 129)
  (.seq (.region 0 [o 0 130 (.mv (.t 0)),
    o 1 131 (.nilchk (.t 130)),
    o 2 132 (.faddr 2 (.t 131)),
    o 3 133 (.load false 1 (.t 132)),
    o 4 134 (.len (.t 133)),
    o 5 17 (.mv (.t 134))])
  (.seq (.region 2 [o 1 136 (.mv (.t 0)),
    o 2 137 (.nilchk (.t 136)),
    o 3 138 (.faddr 2 (.t 137)),
    o 4 139 (.load false 1 (.t 138)),
    o 5 140 (.load true 2 (.t 7)),
    o 6 141 (.bslice 0 182 2 1 [(.int .i64 0), (.slice none 0 0)] [(0, 2, (.t 140))]),
    o 7 142 (.append 1 182 2 32 false (.t 139) (.t 141)),
    o 0 135 (.mv (.t 0)),
    o 8 143 (.nilchk (.t 135)),
    o 9 144 (.faddr 2 (.t 143)),
    ox 10 (.store 1 (.t 144) (.t 142))])
  (.region 0 [o 0 145 (.mv (.t 0)),
    o 1 146 (.nilchk (.t 145)),
    o 2 147 (.faddr 3 (.t 146)),
    o 3 148 (.load false 1 (.t 147)),
    o 4 149 (.mv (.t 12)),
    o 5 150 (.mv (.t 17)),
    ox 6 (.mapset (.lf .s) (.t 148) (.t 149) (.t 150))])))
  (.skip)))
 (.seq (.region 0 [o 0 151 (.mv (.t 17)),
   o 1 6 (.mv (.t 151))])
 (.ret)))))))))))⟩
theorem c104 : cFn Tryz.prog Tryz.f104 = some i104 := by kernel_rfl
/-- (burnish/term.base).stack -/
def i105 : FnI := ⟨[.tmp 2],
 .seq (.region 1 [o 0 1 (.box 0 118 (.t 0)),
   o 1 2 (.mv (.c (.bool false)))])
 (.seq (.region 0 [o 0 3 (.faddr 0 (.t 1)),
   o 1 4 (.load false 1 (.t 3)),
   o 2 5 (.bin .eql (.lf .i) (.t 4) (.c (.int .i64 2))),
   o 3 6 (.mv (.t 5)),
   og 4 7 6 true (.faddr 1 (.t 1)),
   og 5 8 6 true (.load false 1 (.t 7)),
   og 6 9 6 true (.bin .eql (.lf .i) (.t 8) (.c (.int .i64 5))),
   o 7 10 (.pick (.t 6) (.t 9) (.c (.bool false))),
   o 8 2 (.mv (.t 10))])
 (.ret))⟩
theorem c105 : cFn Tryz.prog Tryz.f105 = some i105 := by kernel_rfl
/-- (burnish/term.base).global -/
def i106 : FnI := ⟨[.tmp 2],
 .seq (.region 1 [o 0 1 (.box 0 118 (.t 0)),
   o 1 2 (.mv (.c (.bool false)))])
 (.seq (.region 0 [o 0 3 (.faddr 0 (.t 1)),
   o 1 4 (.load false 1 (.t 3)),
   o 2 5 (.bin .eql (.lf .i) (.t 4) (.c (.int .i64 1))),
   o 3 2 (.mv (.t 5))])
 (.ret))⟩
theorem c106 : cFn Tryz.prog Tryz.f106 = some i106 := by kernel_rfl
/-- (burnish/term.base).register -/
def i107 : FnI := ⟨[.tmp 2],
 .seq (.region 1 [o 0 1 (.box 0 118 (.t 0)),
   o 1 2 (.mv (.c (.bool false)))])
 (.seq (.region 0 [o 0 3 (.faddr 0 (.t 1)),
   o 1 4 (.load false 1 (.t 3)),
   o 2 5 (.bin .eql (.lf .i) (.t 4) (.c (.int .i64 2))),
   o 3 6 (.mv (.t 5)),
   og 4 7 6 true (.faddr 1 (.t 1)),
   og 5 8 6 true (.load false 1 (.t 7)),
   og 6 9 6 true (.bin .eql (.lf .i) (.t 8) (.c (.int .i64 1))),
   og 7 10 6 true (.mv (.t 9)),
   og 8 11 10 false (.faddr 1 (.t 1)),
   og 9 12 10 false (.load false 1 (.t 11)),
   og 10 13 10 false (.bin .eql (.lf .i) (.t 12) (.c (.int .i64 2))),
   og 11 14 6 true (.pick (.t 10) (.c (.bool true)) (.t 13)),
   o 12 15 (.pick (.t 6) (.t 14) (.c (.bool false))),
   o 13 2 (.mv (.t 15))])
 (.ret))⟩
theorem c107 : cFn Tryz.prog Tryz.f107 = some i107 := by kernel_rfl
/-- slices.Clone[[]burnish/term.mono,burnish/term.mono] -/
def i108 : FnI := ⟨[.tmp 2],
 .seq (.region 0 [o 0 2 (.mv (.c (.slice none 0 0)))])
 (.seq (.seq (.region 0 [o 0 3 (.mv (.t 0)),
   o 1 4 (.bin .eql .slc (.t 3) (.c (.slice none 0 0)))])
 (.cond (.t 4)
  (.seq (.region 0 [o 0 2 (.mv (.c (.slice none 0 0)))])
  (.ret))
  (.skip)))
 (.seq (.region 2 [o 0 5 (.bslice 0 184 2 0 [] []),
   o 1 6 (.mv (.t 0)),
   o 2 7 (.append 1 184 2 32 false (.t 5) (.t 6)),
   o 3 2 (.mv (.t 7))])
 (.ret)))⟩
theorem c108 : cFn Tryz.prog Tryz.f108 = some i108 := by kernel_rfl
/-- burnish/opcode.IsPure -/
def i122 : FnI := ⟨[.tmp 2],
 .seq (.region 0 [o 0 2 (.mv (.c (.bool false)))])
 (.seq (.seq (.region 0 [o 0 3 (.mv (.t 0))])
 (.block 0 (.seq (.seq (.region 0 [o 0 5 (.bin .eql (.lf .i) (.t 3) (.c (.int .i64 3))),
    o 1 4 (.mv (.t 5))])
  (.cond (.t 4)
   (.skip)
   (.seq (.region 0 [o 0 6 (.bin .eql (.lf .i) (.t 3) (.c (.int .i64 26))),
     o 1 4 (.mv (.t 6))])
   (.cond (.t 4)
    (.skip)
    (.seq (.region 0 [o 0 7 (.bin .eql (.lf .i) (.t 3) (.c (.int .i64 28))),
      o 1 4 (.mv (.t 7))])
    (.cond (.t 4)
     (.skip)
     (.seq (.region 0 [o 0 8 (.bin .eql (.lf .i) (.t 3) (.c (.int .i64 29))),
       o 1 4 (.mv (.t 8))])
     (.cond (.t 4)
      (.skip)
      (.seq (.region 0 [o 0 9 (.bin .eql (.lf .i) (.t 3) (.c (.int .i64 30))),
        o 1 4 (.mv (.t 9))])
      (.cond (.t 4)
       (.skip)
       (.region 0 [o 0 10 (.bin .eql (.lf .i) (.t 3) (.c (.int .i64 31))),
         o 1 4 (.mv (.t 10))])))))))))))
  (.cond (.t 4)
   (.seq (.region 0 [o 0 2 (.mv (.c (.bool false)))])
   (.ret))
   (.skip)))))
 (.seq (.region 0 [o 0 11 (.mv (.t 0)),
   o 1 12 (.bin .geq (.lf .i) (.t 11) (.c (.int .i64 1))),
   o 2 13 (.mv (.t 12)),
   og 3 14 13 true (.mv (.t 0)),
   og 4 15 13 true (.bin .leq (.lf .i) (.t 14) (.c (.int .i64 33))),
   o 5 16 (.pick (.t 13) (.t 15) (.c (.bool false))),
   o 6 2 (.mv (.t 16))])
 (.ret)))⟩
theorem c122 : cFn Tryz.prog Tryz.f122 = some i122 := by kernel_rfl
/-- burnish/term.integer -/
def i123 : FnI := ⟨[.tmp 2],
 .seq (.region 0 [o 0 2 (.mv (.c (.bool false)))])
 (.seq (.region 0 [o 0 3 (.mv (.t 0)),
   o 1 4 (.call (.f 51) [(.t 3)]),
   o 2 5 (.bin .gtr (.lf .i) (.t 4) (.c (.int .i64 0))),
   o 3 2 (.mv (.t 5))])
 (.ret))⟩
theorem c123 : cFn Tryz.prog Tryz.f123 = some i123 := by kernel_rfl
/-- burnish/term.wide -/
def i124 : FnI := ⟨[.tmp 2],
 .seq (.region 0 [o 0 2 (.mv (.c (.bool false)))])
 (.seq (.region 0 [o 0 3 (.mv (.t 0)),
   o 1 4 (.bin .geq (.lf .i) (.t 3) (.c (.int .i64 2))),
   o 2 5 (.mv (.t 4)),
   og 3 6 5 true (.mv (.t 0)),
   og 4 7 5 true (.bin .leq (.lf .i) (.t 6) (.c (.int .i64 4))),
   o 5 8 (.pick (.t 5) (.t 7) (.c (.bool false))),
   o 6 2 (.mv (.t 8))])
 (.ret))⟩
theorem c124 : cFn Tryz.prog Tryz.f124 = some i124 := by kernel_rfl
/-- burnish/term.vector -/
def i125 : FnI := ⟨[.tmp 2],
 .seq (.region 0 [o 0 2 (.mv (.c (.bool false)))])
 (.seq (.region 0 [o 0 3 (.mv (.t 0)),
   o 1 4 (.bin .eql (.lf .i) (.t 3) (.c (.int .i64 6))),
   o 2 5 (.mv (.t 4)),
   og 3 6 5 false (.mv (.t 0)),
   og 4 7 5 false (.bin .eql (.lf .i) (.t 6) (.c (.int .i64 7))),
   o 5 8 (.pick (.t 5) (.c (.bool true)) (.t 7)),
   o 6 2 (.mv (.t 8))])
 (.ret))⟩
theorem c125 : cFn Tryz.prog Tryz.f125 = some i125 := by kernel_rfl
def i126l0 : Cd :=
  .seq (.region 0 [o 0 22 (.bin .lss (.lf .i) (.t 21) (.t 20))])
  (.seq (.cond (.t 22)
   (.skip)
   (.exit 0))
  (.seq (.block 1 (.region 2 [o 2 25 (.mv (.t 0)),
     o 3 26 (.mv (.t 7)),
     ⟨4, (some 27), none, .call (.f 78) [(.t 25), (.t 26)], [], true⟩,
     o 0 23 (.faddr 2 (.t 5)),
     ⟨1, (some 24), none, .load false 1 (.t 23), [4], false⟩,
     o 5 28 (.bslice 0 100 2 1 [(.int .i64 0), (.slice none 0 0)] [(0, 2, (.t 27))]),
     o 6 29 (.append 1 100 2 32 false (.t 24) (.t 28)),
     o 7 30 (.faddr 2 (.t 5)),
     ox 8 (.store 1 (.t 30) (.t 29))]))
  (.region 0 [o 0 31 (.bin .add (.lf .i) (.t 21) (.c (.int .i64 1))),
    o 1 21 (.mv (.t 31))])))
/-- (*burnish/term.Bank).filled -/
def i126 : FnI := ⟨[.cell 6 true 3],
 .seq (.region 2 [o 0 5 (.box 0 94 (.t 2)),
   o 1 6 (.alloc 1 94 [(.int .i64 0), (.int .i64 0), (.slice none 0 0)])])
 (.seq (.seq (.region 0 [o 0 9 (.faddr 0 (.t 5)),
   o 1 10 (.load false 1 (.t 9)),
   o 2 11 (.bin .neq (.lf .i) (.t 10) (.c (.int .i64 0)))])
 (.cond (.t 11)
  (.seq (.region 0 [o 0 12 (.load true 3 (.t 5)),
    ox 1 (.store 3 (.t 6) (.t 12))])
  (.ret))
  (.skip)))
 (.seq (.region 0 [o 0 14 (.mv (.t 1)),
   o 1 15 (.call (.f 55) [(.t 14)]),
   o 2 13 (.mv (.t 15)),
   o 3 16 (.ext 0 (.t 13)),
   o 4 17 (.ext 1 (.t 13)),
   o 5 7 (.mv (.t 16)),
   o 6 8 (.mv (.t 17))])
 (.seq (.region 0 [o 0 18 (.mv (.t 1)),
   o 1 19 (.build [(.int .i64 0), (.int .i64 0), (.slice none 0 0)] [(0, 1, (.t 18))]),
   ox 2 (.store 3 (.t 5) (.t 19))])
 (.seq (.seq (.region 0 [o 0 20 (.mv (.t 8)),
   o 1 21 (.mv (.c (.int .i64 0)))])
 (.block 0 (.loop i126l0)))
 (.seq (.region 0 [o 0 32 (.load true 3 (.t 5)),
   ox 1 (.store 3 (.t 6) (.t 32))])
 (.ret))))))⟩
theorem c126 : cFn Tryz.prog Tryz.f126 = some i126 := by kernel_rfl
def i127l0 : Cd :=
  .seq (.region 0 [o 0 18 (.bin .lss (.lf .i) (.t 17) (.t 16))])
  (.seq (.cond (.t 18)
   (.skip)
   (.exit 0))
  (.seq (.block 1 (.seq (.region 1 [o 0 19 (.iaddr 2 (.t 15) (.t 17)),
     o 1 20 (.load true 2 (.t 19)),
     o 2 7 (.alloc 0 184 [(.int .u64 0), (.slice none 0 0)]),
     ox 3 (.store 2 (.t 7) (.t 20))])
   (.seq (.region 0 [o 0 21 (.faddr 1 (.t 7)),
     o 1 22 (.load false 1 (.t 21)),
     o 2 23 (.len (.t 22)),
     o 3 24 (.bin .eql (.lf .i) (.t 23) (.c (.int .i64 0)))])
   (.cond (.t 24)
    (.seq (.region 0 [o 0 25 (.mv (.t 0)),
      o 1 26 (.mv (.t 1)),
      o 2 27 (.call (.f 135) [(.t 25), (.t 26)]),
      o 3 4 (.mv (.t 27)),
      o 4 5 (.mv (.c (.bool true)))])
    (.ret))
    (.skip)))))
  (.region 0 [o 0 28 (.bin .add (.lf .i) (.t 17) (.c (.int .i64 1))),
    o 1 17 (.mv (.t 28))])))
/-- (*burnish/term.forms).negated -/
def i127 : FnI := ⟨[.tmp 4, .tmp 5],
 .seq (.region 0 [o 0 4 (.mv (.c (.int .i64 0))),
   o 1 5 (.mv (.c (.bool false)))])
 (.seq (.seq (.region 0 [o 0 8 (.mv (.t 0)),
   o 1 9 (.nilchk (.t 8)),
   o 2 10 (.faddr 2 (.t 9)),
   o 3 11 (.load false 1 (.t 10)),
   o 4 12 (.mv (.t 1)),
   o 5 13 (.iaddr 2 (.t 11) (.t 12)),
   o 6 14 (.faddr 1 (.t 13)),
   o 7 15 (.load false 1 (.t 14)),
   o 8 16 (.len (.t 15)),
   o 9 17 (.mv (.c (.int .i64 0)))])
 (.block 0 (.loop i127l0)))
 (.seq (.region 0 [o 0 29 (.mv (.t 1)),
   o 1 4 (.mv (.t 29)),
   o 2 5 (.mv (.c (.bool false)))])
 (.ret)))⟩
theorem c127 : cFn Tryz.prog Tryz.f127 = some i127 := by kernel_rfl
def i128l0 : Cd :=
  .seq (.region 0 [o 0 9 (.bin .lss (.lf .i) (.t 8) (.t 7))])
  (.seq (.cond (.t 9)
   (.skip)
   (.exit 0))
  (.seq (.block 1 (.seq (.region 0 [o 0 10 (.iaddr 1 (.t 6) (.t 8)),
     o 1 11 (.load false 1 (.t 10)),
     o 2 5 (.mv (.t 11))])
   (.region 0 [o 0 12 (.mv (.t 3)),
     o 1 13 (.mv (.t 5)),
     o 2 14 (.call (.f 44) [(.t 13)]),
     o 3 15 (.bin .add (.lf .s) (.t 14) (.c (.string ⟨#[32]⟩))),
     o 4 16 (.bin .add (.lf .s) (.t 12) (.t 15)),
     o 5 3 (.mv (.t 16))])))
  (.region 0 [o 0 17 (.bin .add (.lf .i) (.t 8) (.c (.int .i64 1))),
    o 1 8 (.mv (.t 17))])))
/-- burnish/term.key -/
def i128 : FnI := ⟨[.tmp 2],
 .seq (.region 0 [o 0 2 (.mv (.c (.string ⟨#[]⟩)))])
 (.seq (.region 0 [o 0 3 (.mv (.c (.string ⟨#[]⟩)))])
 (.seq (.seq (.region 0 [o 0 6 (.mv (.t 0)),
   o 1 7 (.len (.t 6)),
   o 2 8 (.mv (.c (.int .i64 0)))])
 (.block 0 (.loop i128l0)))
 (.seq (.region 0 [o 0 18 (.mv (.t 3)),
   o 1 2 (.mv (.t 18))])
 (.ret))))⟩
theorem c128 : cFn Tryz.prog Tryz.f128 = some i128 := by kernel_rfl
/-- (*burnish/term.forms).choose -/
def i129 : FnI := ⟨[.tmp 8],
 .seq (.region 0 [o 0 8 (.mv (.c (.int .i64 0)))])
 (.seq (.region 0 [o 0 10 (.mv (.t 0)),
   o 1 11 (.nilchk (.t 10)),
   o 2 12 (.faddr 2 (.t 11)),
   o 3 13 (.load false 1 (.t 12)),
   o 4 14 (.mv (.t 2)),
   o 5 15 (.iaddr 2 (.t 13) (.t 14)),
   o 6 16 (.faddr 0 (.t 15)),
   o 7 17 (.load false 1 (.t 16)),
   o 8 9 (.mv (.t 17))])
 (.seq (.block 0 (.seq (.region 0 [o 0 19 (.mv (.t 2)),
    o 1 20 (.mv (.t 3)),
    o 2 21 (.bin .eql (.lf .i) (.t 19) (.t 20)),
    o 3 18 (.mv (.t 21))])
  (.cond (.t 18)
   (.seq (.region 0 [o 0 22 (.mv (.t 2)),
     o 1 8 (.mv (.t 22))])
   (.ret))
   (.seq (.region 0 [o 0 24 (.mv (.t 9)),
     o 1 25 (.bin .eql (.lf .i) (.t 24) (.c (.int .i64 1))),
     o 2 23 (.mv (.t 25))])
   (.cond (.t 23)
    (.seq (.region 0 [o 0 26 (.mv (.t 0)),
      o 1 27 (.mv (.t 0)),
      o 2 28 (.mv (.t 0)),
      o 3 29 (.mv (.t 1)),
      o 4 30 (.mv (.t 2)),
      o 5 31 (.call (.f 136) [(.t 28), (.t 29), (.t 30)]),
      o 6 32 (.mv (.t 0)),
      o 7 33 (.mv (.t 1)),
      o 8 34 (.mv (.t 3)),
      o 9 35 (.call (.f 136) [(.t 32), (.t 33), (.t 34)]),
      o 10 36 (.call (.f 61) [(.t 27), (.t 31), (.t 35), (.c (.int .i64 1))]),
      o 11 37 (.mv (.t 3)),
      o 12 38 (.call (.f 61) [(.t 26), (.t 36), (.t 37), (.c (.int .i64 1))]),
      o 13 8 (.mv (.t 38))])
    (.ret))
    (.skip))))))
 (.seq (.region 0 [o 0 39 (.mv (.t 0)),
   o 1 40 (.mv (.t 9)),
   o 2 41 (.mv (.t 1)),
   o 3 42 (.mv (.t 2)),
   o 4 43 (.mv (.t 3)),
   o 5 44 (.build [(.int .i64 0), (.int .i64 0), (.int .i64 0), (.int .i64 0), (.int .i64 0), (.int .i64 0)] [(0, 1, (.c (.int .i64 21))), (1, 1, (.t 40)), (2, 1, (.t 41)), (3, 1, (.t 42)), (4, 1, (.t 43))]),
   o 6 45 (.call (.f 58) [(.t 39), (.t 44)]),
   o 7 8 (.mv (.t 45))])
 (.ret))))⟩
theorem c129 : cFn Tryz.prog Tryz.f129 = some i129 := by kernel_rfl
/-- burnish/intn.Zext -/
def i130 : FnI := ⟨[.tmp 6],
 .seq (.region 0 [o 0 6 (.mv (.c (.int .i64 0)))])
 (.seq (.region 0 [o 0 7 (.mv (.t 1)),
   o 1 8 (.mv (.t 0)),
   o 2 9 (.mv (.t 2)),
   o 3 10 (.call (.f 139) [(.t 8), (.t 9)]),
   o 4 11 (.conv .i64 (.t 10)),
   o 5 12 (.call (.f 102) [(.t 7), (.t 11)]),
   o 6 6 (.mv (.t 12))])
 (.ret))⟩
theorem c130 : cFn Tryz.prog Tryz.f130 = some i130 := by kernel_rfl
/-- (*burnish/term.forms).one -/
def i131 : FnI := ⟨[.cell 4 true 6, .tmp 5],
 .seq (.region 1 [o 0 4 (.alloc 0 122 [(.int .i64 0), (.int .i64 0), (.int .i64 0), (.int .i64 0), (.int .i64 0), (.int .i64 0)]),
   o 1 5 (.mv (.c (.bool false)))])
 (.seq (.region 0 [o 0 7 (.mv (.t 0)),
   o 1 8 (.nilchk (.t 7)),
   o 2 9 (.faddr 2 (.t 8)),
   o 3 10 (.load false 1 (.t 9)),
   o 4 11 (.mv (.t 1)),
   o 5 12 (.iaddr 2 (.t 10) (.t 11)),
   o 6 13 (.faddr 1 (.t 12)),
   o 7 14 (.load false 1 (.t 13)),
   o 8 6 (.mv (.t 14))])
 (.seq (.seq (.region 0 [o 0 15 (.mv (.t 6)),
   o 1 16 (.len (.t 15)),
   o 2 17 (.bin .neq (.lf .i) (.t 16) (.c (.int .i64 1))),
   o 3 18 (.mv (.t 17)),
   og 4 19 18 false (.mv (.t 6)),
   og 5 20 18 false (.iaddr 2 (.t 19) (.c (.int .i64 0))),
   og 6 21 18 false (.faddr 0 (.t 20)),
   og 7 22 18 false (.load false 1 (.t 21)),
   og 8 23 18 false (.bin .neq (.lf .i) (.t 22) (.c (.int .u64 1))),
   o 9 24 (.pick (.t 18) (.c (.bool true)) (.t 23)),
   o 10 25 (.mv (.t 24)),
   og 11 26 25 false (.mv (.t 6)),
   og 12 27 25 false (.iaddr 2 (.t 26) (.c (.int .i64 0))),
   og 13 28 25 false (.faddr 1 (.t 27)),
   og 14 29 25 false (.load false 1 (.t 28)),
   og 15 30 25 false (.len (.t 29)),
   og 16 31 25 false (.bin .neq (.lf .i) (.t 30) (.c (.int .i64 1))),
   o 17 32 (.pick (.t 25) (.c (.bool true)) (.t 31))])
 (.cond (.t 32)
  (.seq (.region 0 [o 0 33 (.build [(.int .i64 0), (.int .i64 0), (.int .i64 0), (.int .i64 0), (.int .i64 0), (.int .i64 0)] []),
    ox 1 (.store 6 (.t 4) (.t 33)),
    o 2 5 (.mv (.c (.bool false)))])
  (.ret))
  (.skip)))
 (.seq (.region 0 [o 0 34 (.mv (.t 0)),
   o 1 35 (.nilchk (.t 34)),
   o 2 36 (.faddr 0 (.t 35)),
   o 3 37 (.load false 1 (.t 36)),
   o 4 38 (.mv (.t 6)),
   o 5 39 (.iaddr 2 (.t 38) (.c (.int .i64 0))),
   o 6 40 (.faddr 1 (.t 39)),
   o 7 41 (.load false 1 (.t 40)),
   o 8 42 (.iaddr 1 (.t 41) (.c (.int .i64 0))),
   o 9 43 (.load false 1 (.t 42)),
   o 10 44 (.iaddr 6 (.t 37) (.t 43)),
   o 11 45 (.load true 6 (.t 44)),
   ox 12 (.store 6 (.t 4) (.t 45)),
   o 13 5 (.mv (.c (.bool true)))])
 (.ret))))⟩
theorem c131 : cFn Tryz.prog Tryz.f131 = some i131 := by kernel_rfl
/-- (*burnish/term.forms).equalPointers -/
def i132 : FnI := ⟨[.tmp 10],
 .seq (.region 0 [o 0 10 (.mv (.c (.int .i64 0)))])
 (.seq (.block 0 (.seq (.region 0 [o 0 12 (.mv (.t 1)),
    o 1 13 (.mv (.t 3)),
    o 2 14 (.bin .eql (.lf .i) (.t 12) (.t 13)),
    o 3 11 (.mv (.t 14))])
  (.cond (.t 11)
   (.seq (.region 0 [o 0 15 (.mv (.t 0)),
     o 1 16 (.mv (.t 2)),
     o 2 17 (.mv (.t 4)),
     o 3 18 (.call (.f 133) [(.t 15), (.t 16), (.t 17)]),
     o 4 10 (.mv (.t 18))])
   (.ret))
   (.seq (.region 0 [o 0 20 (.mv (.t 0)),
     o 1 21 (.mv (.t 1)),
     o 2 22 (.mv (.t 3)),
     o 3 23 (.call (.f 60) [(.t 20), (.t 21), (.t 22)]),
     o 4 19 (.mv (.t 23))])
   (.cond (.t 19)
    (.seq (.region 0 [o 0 24 (.mv (.t 0)),
      o 1 25 (.call (.f 179) [(.t 24), (.c (.bool false))]),
      o 2 10 (.mv (.t 25))])
    (.ret))
    (.seq (.region 0 [o 0 27 (.mv (.t 1)),
      o 1 28 (.mv (.t 3)),
      o 2 29 (.bin .gtr (.lf .i) (.t 27) (.t 28)),
      o 3 26 (.mv (.t 29))])
    (.cond (.t 26)
     (.region 0 [o 0 30 (.mv (.t 3)),
       o 1 31 (.mv (.t 4)),
       o 2 32 (.mv (.t 1)),
       o 3 33 (.mv (.t 2)),
       o 4 1 (.mv (.t 30)),
       o 5 2 (.mv (.t 31)),
       o 6 3 (.mv (.t 32)),
       o 7 4 (.mv (.t 33))])
     (.skip))))))))
 (.seq (.region 0 [o 0 34 (.mv (.t 0)),
   o 1 35 (.mv (.t 1)),
   o 2 36 (.mv (.t 3)),
   o 3 37 (.mv (.t 0)),
   o 4 38 (.mv (.t 2)),
   o 5 39 (.mv (.t 4)),
   o 6 40 (.call (.f 61) [(.t 37), (.t 38), (.t 39), (.c (.int .i64 (-1)))]),
   o 7 41 (.build [(.int .i64 0), (.int .i64 0), (.int .i64 0), (.int .i64 0), (.int .i64 0), (.int .i64 0)] [(0, 1, (.c (.int .i64 16))), (1, 1, (.c (.int .i64 1))), (2, 1, (.t 35)), (3, 1, (.t 36)), (4, 1, (.t 40)), (5, 1, (.c (.int .i64 5)))]),
   o 8 42 (.call (.f 58) [(.t 34), (.t 41)]),
   o 9 10 (.mv (.t 42))])
 (.ret)))⟩
theorem c132 : cFn Tryz.prog Tryz.f132 = some i132 := by kernel_rfl
/-- (*burnish/term.forms).equal -/
def i133 : FnI := ⟨[.tmp 6],
 .seq (.region 0 [o 0 6 (.mv (.c (.int .i64 0)))])
 (.seq (.region 0 [o 0 11 (.mv (.t 0)),
   o 1 12 (.nilchk (.t 11)),
   o 2 13 (.faddr 2 (.t 12)),
   o 3 14 (.load false 1 (.t 13)),
   o 4 15 (.mv (.t 1)),
   o 5 16 (.iaddr 2 (.t 14) (.t 15)),
   o 6 17 (.faddr 0 (.t 16)),
   o 7 18 (.load false 1 (.t 17)),
   o 8 7 (.mv (.t 18))])
 (.seq (.seq (.region 0 [o 0 19 (.mv (.t 7)),
   o 1 20 (.bin .eql (.lf .i) (.t 19) (.c (.int .i64 1)))])
 (.cond (.t 20)
  (.seq (.region 0 [o 0 21 (.mv (.t 0)),
    o 1 22 (.mv (.t 0)),
    o 2 23 (.mv (.t 1)),
    o 3 24 (.mv (.t 2)),
    o 4 25 (.call (.f 61) [(.t 22), (.t 23), (.t 24), (.c (.int .i64 1))]),
    o 5 26 (.call (.f 135) [(.t 21), (.t 25)]),
    o 6 6 (.mv (.t 26))])
  (.ret))
  (.skip)))
 (.seq (.region 0 [o 0 27 (.mv (.t 0)),
   o 1 28 (.mv (.t 1)),
   o 2 29 (.mv (.t 2)),
   o 3 30 (.call (.f 61) [(.t 27), (.t 28), (.t 29), (.c (.int .i64 (-1)))]),
   o 4 8 (.mv (.t 30))])
 (.seq (.seq (.region 0 [o 0 32 (.mv (.t 0)),
   o 1 33 (.mv (.t 8)),
   o 2 34 (.call (.f 52) [(.t 32), (.t 33)]),
   o 3 31 (.mv (.t 34)),
   o 4 35 (.ext 0 (.t 31)),
   o 5 36 (.ext 1 (.t 31)),
   o 6 9 (.mv (.t 35)),
   o 7 10 (.mv (.t 36))])
 (.seq (.region 0 [o 0 37 (.mv (.t 10))])
 (.cond (.t 37)
  (.seq (.region 0 [o 0 38 (.mv (.t 0)),
    o 1 39 (.mv (.t 9)),
    o 2 40 (.bin .eql (.lf .i) (.t 39) (.c (.int .i64 0))),
    o 3 41 (.call (.f 179) [(.t 38), (.t 40)]),
    o 4 6 (.mv (.t 41))])
  (.ret))
  (.skip))))
 (.seq (.region 0 [o 0 42 (.mv (.t 0)),
   o 1 43 (.mv (.t 8)),
   o 2 44 (.mv (.t 0)),
   o 3 45 (.mv (.t 0)),
   o 4 46 (.mv (.t 7)),
   o 5 47 (.call (.f 57) [(.t 45), (.t 46), (.c (.int .i64 0))]),
   o 6 48 (.mv (.t 8)),
   o 7 49 (.call (.f 61) [(.t 44), (.t 47), (.t 48), (.c (.int .i64 (-1)))]),
   o 8 50 (.call (.f 180) [(.t 42), (.c (.int .i64 16)), (.c (.int .i64 1)), (.t 43), (.t 49)]),
   o 9 6 (.mv (.t 50))])
 (.ret))))))⟩
theorem c133 : cFn Tryz.prog Tryz.f133 = some i133 := by kernel_rfl
/-- (*burnish/term.forms).less -/
def i134 : FnI := ⟨[.tmp 8],
 .seq (.region 0 [o 0 8 (.mv (.c (.int .i64 0)))])
 (.seq (.region 0 [o 0 15 (.mv (.t 0)),
   o 1 16 (.nilchk (.t 15)),
   o 2 17 (.faddr 2 (.t 16)),
   o 3 18 (.load false 1 (.t 17)),
   o 4 19 (.mv (.t 2)),
   o 5 20 (.iaddr 2 (.t 18) (.t 19)),
   o 6 21 (.faddr 0 (.t 20)),
   o 7 22 (.load false 1 (.t 21)),
   o 8 9 (.mv (.t 22))])
 (.seq (.region 0 [o 0 24 (.mv (.t 0)),
   o 1 25 (.mv (.t 2)),
   o 2 26 (.call (.f 52) [(.t 24), (.t 25)]),
   o 3 23 (.mv (.t 26)),
   o 4 27 (.ext 0 (.t 23)),
   o 5 28 (.ext 1 (.t 23)),
   o 6 10 (.mv (.t 27)),
   o 7 11 (.mv (.t 28))])
 (.seq (.region 0 [o 0 30 (.mv (.t 0)),
   o 1 31 (.mv (.t 3)),
   o 2 32 (.call (.f 52) [(.t 30), (.t 31)]),
   o 3 29 (.mv (.t 32)),
   o 4 33 (.ext 0 (.t 29)),
   o 5 34 (.ext 1 (.t 29)),
   o 6 12 (.mv (.t 33)),
   o 7 13 (.mv (.t 34))])
 (.seq (.region 0 [o 0 35 (.mv (.t 9)),
   o 1 36 (.call (.f 51) [(.t 35)]),
   o 2 37 (.bin .sub (.lf .i) (.t 36) (.c (.int .i64 1))),
   o 3 38 (.bin .shl (.lf .i) (.c (.int .i64 1)) (.t 37)),
   o 4 39 (.bin .sub (.lf .i) (.t 38) (.c (.int .i64 1))),
   o 5 14 (.mv (.t 39))])
 (.seq (.block 0 (.seq (.region 0 [o 0 41 (.mv (.t 2)),
    o 1 42 (.mv (.t 3)),
    o 2 43 (.bin .eql (.lf .i) (.t 41) (.t 42)),
    o 3 40 (.mv (.t 43))])
  (.cond (.t 40)
   (.seq (.region 0 [o 0 44 (.mv (.t 0)),
     o 1 45 (.call (.f 179) [(.t 44), (.c (.bool false))]),
     o 2 8 (.mv (.t 45))])
   (.ret))
   (.seq (.region 0 [o 0 47 (.mv (.t 11)),
     o 1 48 (.mv (.t 47)),
     og 2 49 48 true (.mv (.t 13)),
     o 3 50 (.pick (.t 48) (.t 49) (.c (.bool false))),
     o 4 51 (.mv (.t 50)),
     og 5 52 51 true (.mv (.t 1)),
     og 6 53 51 true (.bin .eql (.lf .i) (.t 52) (.c (.int .i64 18))),
     o 7 54 (.pick (.t 51) (.t 53) (.c (.bool false))),
     o 8 46 (.mv (.t 54))])
   (.cond (.t 46)
    (.seq (.region 0 [o 0 55 (.mv (.t 0)),
      o 1 56 (.mv (.t 10)),
      o 2 57 (.mv (.t 12)),
      o 3 58 (.bin .lss (.lf .i) (.t 56) (.t 57)),
      o 4 59 (.call (.f 179) [(.t 55), (.t 58)]),
      o 5 8 (.mv (.t 59))])
    (.ret))
    (.seq (.region 0 [o 0 61 (.mv (.t 11)),
      o 1 62 (.mv (.t 61)),
      og 2 63 62 true (.mv (.t 13)),
      o 3 64 (.pick (.t 62) (.t 63) (.c (.bool false))),
      o 4 60 (.mv (.t 64))])
    (.cond (.t 60)
     (.seq (.region 0 [o 0 65 (.mv (.t 0)),
       o 1 66 (.mv (.t 9)),
       o 2 67 (.mv (.t 10)),
       o 3 68 (.mv (.t 12)),
       o 4 69 (.call (.f 181) [(.t 66), (.t 67), (.t 68)]),
       o 5 70 (.call (.f 179) [(.t 65), (.t 69)]),
       o 6 8 (.mv (.t 70))])
     (.ret))
     (.seq (.seq (.region 0 [o 0 72 (.mv (.t 1)),
       o 1 73 (.bin .eql (.lf .i) (.t 72) (.c (.int .i64 18))),
       o 2 74 (.mv (.t 73)),
       og 3 75 74 true (.mv (.t 13)),
       og 4 76 74 true (.mv (.t 75)),
       og 5 77 76 true (.mv (.t 12)),
       og 6 78 76 true (.mv (.t 14)),
       og 7 79 76 true (.un .neg (.t 78)),
       og 8 80 76 true (.bin .sub (.lf .i) (.t 79) (.c (.int .i64 1))),
       og 9 81 76 true (.bin .eql (.lf .i) (.t 77) (.t 80)),
       og 10 82 74 true (.pick (.t 76) (.t 81) (.c (.bool false))),
       og 11 83 74 true (.mv (.t 82)),
       og 12 84 83 false (.mv (.t 11)),
       og 13 85 83 false (.mv (.t 84)),
       og 14 86 85 true (.mv (.t 10)),
       og 15 87 85 true (.mv (.t 14)),
       og 16 88 85 true (.bin .eql (.lf .i) (.t 86) (.t 87)),
       og 17 89 83 false (.pick (.t 85) (.t 88) (.c (.bool false))),
       og 18 90 74 true (.pick (.t 83) (.c (.bool true)) (.t 89)),
       o 19 91 (.pick (.t 74) (.t 90) (.c (.bool false))),
       o 20 71 (.mv (.t 91))])
     (.cond (.t 71)
      (.skip)
      (.region 0 [o 0 92 (.mv (.t 1)),
        o 1 93 (.bin .eql (.lf .i) (.t 92) (.c (.int .i64 20))),
        o 2 94 (.mv (.t 93)),
        og 3 95 94 true (.mv (.t 13)),
        og 4 96 94 true (.mv (.t 95)),
        og 5 97 96 true (.mv (.t 12)),
        og 6 98 96 true (.bin .eql (.lf .i) (.t 97) (.c (.int .i64 0))),
        og 7 99 94 true (.pick (.t 96) (.t 98) (.c (.bool false))),
        og 8 100 94 true (.mv (.t 99)),
        og 9 101 100 false (.mv (.t 11)),
        og 10 102 100 false (.mv (.t 101)),
        og 11 103 102 true (.mv (.t 10)),
        og 12 104 102 true (.bin .eql (.lf .i) (.t 103) (.c (.int .i64 (-1)))),
        og 13 105 100 false (.pick (.t 102) (.t 104) (.c (.bool false))),
        og 14 106 94 true (.pick (.t 100) (.c (.bool true)) (.t 105)),
        o 15 107 (.pick (.t 94) (.t 106) (.c (.bool false))),
        o 16 71 (.mv (.t 107))])))
     (.cond (.t 71)
      (.seq (.region 0 [o 0 108 (.mv (.t 0)),
        o 1 109 (.call (.f 179) [(.t 108), (.c (.bool false))]),
        o 2 8 (.mv (.t 109))])
      (.ret))
      (.skip))))))))))
 (.seq (.region 0 [o 0 110 (.mv (.t 0)),
   o 1 111 (.mv (.t 1)),
   o 2 112 (.mv (.t 2)),
   o 3 113 (.mv (.t 3)),
   o 4 114 (.build [(.int .i64 0), (.int .i64 0), (.int .i64 0), (.int .i64 0), (.int .i64 0), (.int .i64 0)] [(0, 1, (.t 111)), (1, 1, (.c (.int .i64 1))), (2, 1, (.t 112)), (3, 1, (.t 113))]),
   o 5 115 (.call (.f 58) [(.t 110), (.t 114)]),
   o 6 8 (.mv (.t 115))])
 (.ret)))))))⟩
theorem c134 : cFn Tryz.prog Tryz.f134 = some i134 := by kernel_rfl
/-- (*burnish/term.forms).not -/
def i135 : FnI := ⟨[.tmp 4],
 .seq (.region 0 [o 0 4 (.mv (.c (.int .i64 0)))])
 (.seq (.region 0 [o 0 5 (.mv (.t 0)),
   o 1 6 (.mv (.t 1)),
   o 2 7 (.mv (.t 0)),
   o 3 8 (.call (.f 57) [(.t 7), (.c (.int .i64 1)), (.c (.int .i64 1))]),
   o 4 9 (.call (.f 61) [(.t 5), (.t 6), (.t 8), (.c (.int .i64 1))]),
   o 5 4 (.mv (.t 9))])
 (.ret))⟩
theorem c135 : cFn Tryz.prog Tryz.f135 = some i135 := by kernel_rfl
def i136l1 : Cd :=
  .seq (.region 0 [o 0 48 (.bin .lss (.lf .i) (.t 47) (.t 46))])
  (.seq (.cond (.t 48)
   (.skip)
   (.exit 2))
  (.seq (.block 3 (.seq (.region 1 [o 0 49 (.iaddr 2 (.t 45) (.t 47)),
     o 1 50 (.load true 2 (.t 49)),
     o 2 13 (.alloc 0 184 [(.int .u64 0), (.slice none 0 0)]),
     ox 3 (.store 2 (.t 13) (.t 50))])
   (.seq (.region 1 [o 0 51 (.faddr 1 (.t 11)),
     o 1 52 (.load false 1 (.t 51)),
     ⟨2, (some 53), none, .call (.f 42) [(.t 52)], [], true⟩,
     o 3 54 (.faddr 1 (.t 13)),
     ⟨4, (some 55), none, .load false 1 (.t 54), [2], false⟩,
     o 5 56 (.append 0 3 1 8 false (.t 53) (.t 55)),
     o 6 14 (.mv (.t 56))])
   (.seq (.region 0 [o 0 57 (.mv (.t 14)),
     o 1 58 (.call (.f 43) [(.t 57)])])
   (.seq (.seq (.region 0 [o 0 59 (.faddr 0 (.t 7)),
     o 1 60 (.load false 1 (.t 59)),
     o 2 61 (.bin .eql (.lf .i) (.t 60) (.c (.int .i64 1)))])
   (.cond (.t 61)
    (.region 0 [o 0 62 (.mv (.t 14)),
      o 1 63 (.call (.f 87) [(.t 62)]),
      o 2 14 (.mv (.t 63))])
    (.skip)))
   (.region 2 [o 0 64 (.mv (.t 9)),
     o 1 65 (.faddr 0 (.t 11)),
     o 2 66 (.load false 1 (.t 65)),
     o 3 67 (.faddr 0 (.t 13)),
     o 4 68 (.load false 1 (.t 67)),
     o 5 69 (.bin .mul (.lf .i) (.t 66) (.t 68)),
     o 6 70 (.mv (.t 14)),
     o 7 71 (.build [(.int .u64 0), (.slice none 0 0)] [(0, 1, (.t 69)), (1, 1, (.t 70))]),
     o 8 72 (.bslice 0 184 2 1 [(.int .u64 0), (.slice none 0 0)] [(0, 2, (.t 71))]),
     o 9 73 (.append 1 184 2 32 false (.t 64) (.t 72)),
     o 10 9 (.mv (.t 73))]))))))
  (.region 0 [o 0 74 (.bin .add (.lf .i) (.t 47) (.c (.int .i64 1))),
    o 1 47 (.mv (.t 74))])))
def i136l0 : Cd :=
  .seq (.region 0 [o 0 41 (.bin .lss (.lf .i) (.t 40) (.t 39))])
  (.seq (.cond (.t 41)
   (.skip)
   (.exit 0))
  (.seq (.block 1 (.seq (.region 1 [o 0 42 (.iaddr 2 (.t 38) (.t 40)),
     o 1 43 (.load true 2 (.t 42)),
     o 2 11 (.alloc 0 184 [(.int .u64 0), (.slice none 0 0)]),
     ox 3 (.store 2 (.t 11) (.t 43))])
   (.seq (.region 0 [o 0 44 (.faddr 1 (.t 8)),
     o 1 45 (.load false 1 (.t 44)),
     o 2 46 (.len (.t 45)),
     o 3 47 (.mv (.c (.int .i64 0)))])
   (.block 2 (.loop i136l1)))))
  (.region 0 [o 0 75 (.bin .add (.lf .i) (.t 40) (.c (.int .i64 1))),
    o 1 40 (.mv (.t 75))])))
/-- (*burnish/term.forms).product -/
def i136 : FnI := ⟨[.tmp 6],
 .seq (.region 0 [o 0 6 (.mv (.c (.int .i64 0)))])
 (.seq (.region 2 [o 0 23 (.mv (.t 0)),
   o 1 24 (.nilchk (.t 23)),
   o 2 25 (.faddr 2 (.t 24)),
   o 3 26 (.load false 1 (.t 25)),
   o 4 27 (.mv (.t 1)),
   o 5 28 (.iaddr 2 (.t 26) (.t 27)),
   o 6 29 (.load true 2 (.t 28)),
   o 7 30 (.mv (.t 0)),
   o 8 31 (.nilchk (.t 30)),
   o 9 32 (.faddr 2 (.t 31)),
   ⟨10, (some 33), none, .load false 1 (.t 32), [], true⟩,
   o 11 34 (.mv (.t 2)),
   o 12 35 (.iaddr 2 (.t 33) (.t 34)),
   ⟨13, (some 36), none, .load true 2 (.t 35), [], true⟩,
   o 14 7 (.alloc 0 182 [(.int .i64 0), (.slice none 0 0)]),
   o 15 8 (.alloc 1 182 [(.int .i64 0), (.slice none 0 0)]),
   ⟨16, none, none, .store 2 (.t 7) (.t 29), [10, 13], false⟩,
   ox 17 (.store 2 (.t 8) (.t 36))])
 (.seq (.region 0 [o 0 9 (.mv (.c (.slice none 0 0)))])
 (.seq (.seq (.region 0 [o 0 37 (.faddr 1 (.t 7)),
   o 1 38 (.load false 1 (.t 37)),
   o 2 39 (.len (.t 38)),
   o 3 40 (.mv (.c (.int .i64 0)))])
 (.block 0 (.loop i136l0)))
 (.seq (.region 0 [o 0 76 (.mv (.t 0)),
   o 1 77 (.faddr 0 (.t 7)),
   o 2 78 (.load false 1 (.t 77)),
   o 3 79 (.mv (.t 9)),
   o 4 80 (.call (.f 104) [(.t 76), (.t 78), (.t 79)]),
   o 5 15 (.mv (.t 80))])
 (.seq (.region 0 [o 0 16 (.mv (.f 182))])
 (.seq (.seq (.region 0 [o 0 81 (.mv (.t 0)),
   o 1 82 (.nilchk (.t 81)),
   o 2 83 (.faddr 2 (.t 82)),
   o 3 84 (.load false 1 (.t 83)),
   o 4 85 (.mv (.t 15)),
   o 5 86 (.iaddr 2 (.t 84) (.t 85)),
   o 6 87 (.faddr 1 (.t 86)),
   o 7 88 (.load false 1 (.t 87)),
   o 8 17 (.mv (.t 88))])
 (.seq (.region 0 [o 0 89 (.mv (.t 17)),
   o 1 90 (.len (.t 89)),
   o 2 91 (.bin .leq (.lf .i) (.t 90) (.c (.int .i64 32))),
   o 3 92 (.mv (.t 91)),
   og 4 93 92 true (.mv (.t 17)),
   og 5 94 92 true (.mv (.t 16)),
   og 6 95 92 true (.call (.f 183) [(.t 93), (.t 94)]),
   og 7 96 92 true (.un .not (.t 95)),
   o 8 97 (.pick (.t 92) (.t 96) (.c (.bool false)))])
 (.cond (.t 97)
  (.seq (.region 0 [o 0 98 (.mv (.t 15)),
    o 1 6 (.mv (.t 98))])
  (.ret))
  (.skip))))
 (.seq (.region 0 [o 0 100 (.mv (.t 0)),
   o 1 101 (.mv (.t 1)),
   o 2 102 (.call (.f 52) [(.t 100), (.t 101)]),
   o 3 99 (.mv (.t 102)),
   o 4 103 (.ext 0 (.t 99)),
   o 5 104 (.ext 1 (.t 99)),
   o 6 18 (.mv (.t 103)),
   o 7 19 (.mv (.t 104))])
 (.seq (.region 0 [o 0 106 (.mv (.t 0)),
   o 1 107 (.mv (.t 2)),
   o 2 108 (.call (.f 52) [(.t 106), (.t 107)]),
   o 3 105 (.mv (.t 108)),
   o 4 109 (.ext 0 (.t 105)),
   o 5 110 (.ext 1 (.t 105)),
   o 6 20 (.mv (.t 109)),
   o 7 21 (.mv (.t 110))])
 (.seq (.seq (.region 0 [o 0 111 (.mv (.t 19)),
   o 1 112 (.mv (.t 111)),
   og 2 113 112 false (.mv (.t 21)),
   o 3 114 (.pick (.t 112) (.c (.bool true)) (.t 113)),
   o 4 115 (.mv (.t 114)),
   og 5 116 115 false (.mv (.t 1)),
   og 6 117 115 false (.mv (.t 2)),
   og 7 118 115 false (.bin .eql (.lf .i) (.t 116) (.t 117)),
   og 8 119 115 false (.mv (.t 118)),
   og 9 120 119 true (.faddr 0 (.t 7)),
   og 10 121 119 true (.load false 1 (.t 120)),
   og 11 122 119 true (.bin .eql (.lf .i) (.t 121) (.c (.int .i64 1))),
   og 12 123 115 false (.pick (.t 119) (.t 122) (.c (.bool false))),
   o 13 124 (.pick (.t 115) (.c (.bool true)) (.t 123))])
 (.cond (.t 124)
  (.seq (.region 0 [o 0 125 (.mv (.t 15)),
    o 1 6 (.mv (.t 125))])
  (.ret))
  (.skip)))
 (.seq (.region 0 [o 0 22 (.mv (.c (.int .i64 7)))])
 (.seq (.seq (.region 0 [o 0 126 (.faddr 0 (.t 7)),
   o 1 127 (.load false 1 (.t 126)),
   o 2 128 (.bin .eql (.lf .i) (.t 127) (.c (.int .i64 1)))])
 (.cond (.t 128)
  (.region 0 [o 0 22 (.mv (.c (.int .i64 8)))])
  (.skip)))
 (.seq (.region 0 [o 0 129 (.mv (.t 0)),
   o 1 130 (.mv (.t 22)),
   o 2 131 (.faddr 0 (.t 7)),
   o 3 132 (.load false 1 (.t 131)),
   o 4 133 (.mv (.t 1)),
   o 5 134 (.mv (.t 2)),
   o 6 135 (.call (.f 180) [(.t 129), (.t 130), (.t 132), (.t 133), (.t 134)]),
   o 7 6 (.mv (.t 135))])
 (.ret)))))))))))))⟩
theorem c136 : cFn Tryz.prog Tryz.f136 = some i136 := by kernel_rfl
/-- (*burnish/term.forms).bitwise -/
def i137 : FnI := ⟨[.tmp 10],
 .seq (.region 0 [o 0 10 (.mv (.c (.int .i64 0)))])
 (.seq (.seq (.region 0 [o 0 17 (.mv (.t 2)),
   o 1 18 (.bin .eql (.lf .i) (.t 17) (.c (.int .i64 1)))])
 (.cond (.t 18)
  (.seq (.seq (.region 0 [o 0 19 (.mv (.t 1))])
  (.block 0 (.seq (.region 0 [o 0 21 (.bin .eql (.lf .i) (.t 19) (.c (.int .i64 8))),
     o 1 20 (.mv (.t 21))])
   (.cond (.t 20)
    (.seq (.region 0 [o 0 22 (.mv (.t 0)),
      o 1 23 (.mv (.t 3)),
      o 2 24 (.mv (.t 4)),
      o 3 25 (.call (.f 136) [(.t 22), (.t 23), (.t 24)]),
      o 4 10 (.mv (.t 25))])
    (.ret))
    (.seq (.region 0 [o 0 27 (.bin .eql (.lf .i) (.t 19) (.c (.int .i64 9))),
      o 1 26 (.mv (.t 27))])
    (.cond (.t 26)
     (.seq (.region 0 [o 0 28 (.mv (.t 0)),
       o 1 29 (.mv (.t 0)),
       o 2 30 (.mv (.t 3)),
       o 3 31 (.mv (.t 4)),
       o 4 32 (.call (.f 61) [(.t 29), (.t 30), (.t 31), (.c (.int .i64 1))]),
       o 5 33 (.mv (.t 0)),
       o 6 34 (.mv (.t 3)),
       o 7 35 (.mv (.t 4)),
       o 8 36 (.call (.f 136) [(.t 33), (.t 34), (.t 35)]),
       o 9 37 (.call (.f 61) [(.t 28), (.t 32), (.t 36), (.c (.int .i64 1))]),
       o 10 10 (.mv (.t 37))])
     (.ret))
     (.skip)))))))
  (.seq (.region 0 [o 0 38 (.mv (.t 0)),
    o 1 39 (.mv (.t 3)),
    o 2 40 (.mv (.t 4)),
    o 3 41 (.call (.f 61) [(.t 38), (.t 39), (.t 40), (.c (.int .i64 1))]),
    o 4 10 (.mv (.t 41))])
  (.ret)))
  (.skip)))
 (.seq (.region 0 [o 0 43 (.mv (.t 0)),
   o 1 44 (.mv (.t 3)),
   o 2 45 (.call (.f 52) [(.t 43), (.t 44)]),
   o 3 42 (.mv (.t 45)),
   o 4 46 (.ext 0 (.t 42)),
   o 5 47 (.ext 1 (.t 42)),
   o 6 11 (.mv (.t 46)),
   o 7 12 (.mv (.t 47))])
 (.seq (.region 0 [o 0 49 (.mv (.t 0)),
   o 1 50 (.mv (.t 4)),
   o 2 51 (.call (.f 52) [(.t 49), (.t 50)]),
   o 3 48 (.mv (.t 51)),
   o 4 52 (.ext 0 (.t 48)),
   o 5 53 (.ext 1 (.t 48)),
   o 6 13 (.mv (.t 52)),
   o 7 14 (.mv (.t 53))])
 (.seq (.region 0 [o 0 54 (.mv (.t 0)),
   o 1 55 (.mv (.t 2)),
   o 2 56 (.call (.f 57) [(.t 54), (.t 55), (.c (.int .i64 0))]),
   o 3 57 (.mv (.t 0)),
   o 4 58 (.mv (.t 2)),
   o 5 59 (.call (.f 57) [(.t 57), (.t 58), (.c (.int .i64 (-1)))]),
   o 6 15 (.mv (.t 56)),
   o 7 16 (.mv (.t 59))])
 (.seq (.seq (.region 0 [o 0 60 (.mv (.t 3)),
   o 1 61 (.mv (.t 16)),
   o 2 62 (.bin .eql (.lf .i) (.t 60) (.t 61)),
   o 3 63 (.mv (.t 62)),
   og 4 64 63 false (.mv (.t 4)),
   og 5 65 63 false (.mv (.t 15)),
   og 6 66 63 false (.bin .eql (.lf .i) (.t 64) (.t 65)),
   o 7 67 (.pick (.t 63) (.c (.bool true)) (.t 66))])
 (.cond (.t 67)
  (.region 0 [o 0 68 (.mv (.t 4)),
    o 1 69 (.mv (.t 3)),
    o 2 3 (.mv (.t 68)),
    o 3 4 (.mv (.t 69))])
  (.skip)))
 (.seq (.block 1 (.seq (.region 0 [o 0 71 (.mv (.t 12)),
    o 1 72 (.mv (.t 71)),
    og 2 73 72 true (.mv (.t 14)),
    o 3 74 (.pick (.t 72) (.t 73) (.c (.bool false))),
    o 4 75 (.mv (.t 74)),
    og 5 76 75 true (.mv (.t 1)),
    og 6 77 75 true (.bin .eql (.lf .i) (.t 76) (.c (.int .i64 8))),
    o 7 78 (.pick (.t 75) (.t 77) (.c (.bool false))),
    o 8 70 (.mv (.t 78))])
  (.cond (.t 70)
   (.seq (.region 0 [o 0 79 (.mv (.t 0)),
     o 1 80 (.mv (.t 2)),
     o 2 81 (.mv (.t 11)),
     o 3 82 (.mv (.t 13)),
     o 4 83 (.bin .and (.lf .i) (.t 81) (.t 82)),
     o 5 84 (.call (.f 57) [(.t 79), (.t 80), (.t 83)]),
     o 6 10 (.mv (.t 84))])
   (.ret))
   (.seq (.region 0 [o 0 86 (.mv (.t 12)),
     o 1 87 (.mv (.t 86)),
     og 2 88 87 true (.mv (.t 14)),
     o 3 89 (.pick (.t 87) (.t 88) (.c (.bool false))),
     o 4 90 (.mv (.t 89)),
     og 5 91 90 true (.mv (.t 1)),
     og 6 92 90 true (.bin .eql (.lf .i) (.t 91) (.c (.int .i64 9))),
     o 7 93 (.pick (.t 90) (.t 92) (.c (.bool false))),
     o 8 85 (.mv (.t 93))])
   (.cond (.t 85)
    (.seq (.region 0 [o 0 94 (.mv (.t 0)),
      o 1 95 (.mv (.t 2)),
      o 2 96 (.mv (.t 11)),
      o 3 97 (.mv (.t 13)),
      o 4 98 (.bin .or (.lf .i) (.t 96) (.t 97)),
      o 5 99 (.call (.f 57) [(.t 94), (.t 95), (.t 98)]),
      o 6 10 (.mv (.t 99))])
    (.ret))
    (.seq (.region 0 [o 0 101 (.mv (.t 12)),
      o 1 102 (.mv (.t 101)),
      og 2 103 102 true (.mv (.t 14)),
      o 3 104 (.pick (.t 102) (.t 103) (.c (.bool false))),
      o 4 100 (.mv (.t 104))])
    (.cond (.t 100)
     (.seq (.region 0 [o 0 105 (.mv (.t 0)),
       o 1 106 (.mv (.t 2)),
       o 2 107 (.mv (.t 11)),
       o 3 108 (.mv (.t 13)),
       o 4 109 (.bin .xor (.lf .i) (.t 107) (.t 108)),
       o 5 110 (.call (.f 57) [(.t 105), (.t 106), (.t 109)]),
       o 6 10 (.mv (.t 110))])
     (.ret))
     (.seq (.seq (.region 0 [o 0 112 (.mv (.t 3)),
       o 1 113 (.mv (.t 4)),
       o 2 114 (.bin .eql (.lf .i) (.t 112) (.t 113)),
       o 3 115 (.mv (.t 114)),
       og 4 116 115 true (.mv (.t 1)),
       og 5 117 115 true (.bin .eql (.lf .i) (.t 116) (.c (.int .i64 10))),
       o 6 118 (.pick (.t 115) (.t 117) (.c (.bool false))),
       o 7 111 (.mv (.t 118))])
     (.cond (.t 111)
      (.skip)
      (.region 0 [o 0 119 (.mv (.t 3)),
        o 1 120 (.mv (.t 15)),
        o 2 121 (.bin .eql (.lf .i) (.t 119) (.t 120)),
        o 3 122 (.mv (.t 121)),
        og 4 123 122 true (.mv (.t 1)),
        og 5 124 122 true (.bin .eql (.lf .i) (.t 123) (.c (.int .i64 8))),
        o 6 125 (.pick (.t 122) (.t 124) (.c (.bool false))),
        o 7 111 (.mv (.t 125))])))
     (.cond (.t 111)
      (.seq (.region 0 [o 0 126 (.mv (.t 15)),
        o 1 10 (.mv (.t 126))])
      (.ret))
      (.seq (.region 0 [o 0 128 (.mv (.t 3)),
        o 1 129 (.mv (.t 4)),
        o 2 130 (.bin .eql (.lf .i) (.t 128) (.t 129)),
        o 3 127 (.mv (.t 130))])
      (.cond (.t 127)
       (.seq (.region 0 [o 0 131 (.mv (.t 3)),
         o 1 10 (.mv (.t 131))])
       (.ret))
       (.seq (.region 0 [o 0 133 (.mv (.t 3)),
         o 1 134 (.mv (.t 15)),
         o 2 135 (.bin .eql (.lf .i) (.t 133) (.t 134)),
         o 3 132 (.mv (.t 135))])
       (.cond (.t 132)
        (.seq (.region 0 [o 0 136 (.mv (.t 4)),
          o 1 10 (.mv (.t 136))])
        (.ret))
        (.seq (.region 0 [o 0 138 (.mv (.t 4)),
          o 1 139 (.mv (.t 16)),
          o 2 140 (.bin .eql (.lf .i) (.t 138) (.t 139)),
          o 3 141 (.mv (.t 140)),
          og 4 142 141 true (.mv (.t 1)),
          og 5 143 141 true (.bin .eql (.lf .i) (.t 142) (.c (.int .i64 8))),
          o 6 144 (.pick (.t 141) (.t 143) (.c (.bool false))),
          o 7 137 (.mv (.t 144))])
        (.cond (.t 137)
         (.seq (.region 0 [o 0 145 (.mv (.t 3)),
           o 1 10 (.mv (.t 145))])
         (.ret))
         (.seq (.region 0 [o 0 147 (.mv (.t 4)),
           o 1 148 (.mv (.t 16)),
           o 2 149 (.bin .eql (.lf .i) (.t 147) (.t 148)),
           o 3 150 (.mv (.t 149)),
           og 4 151 150 true (.mv (.t 1)),
           og 5 152 150 true (.bin .eql (.lf .i) (.t 151) (.c (.int .i64 9))),
           o 6 153 (.pick (.t 150) (.t 152) (.c (.bool false))),
           o 7 146 (.mv (.t 153))])
         (.cond (.t 146)
          (.seq (.region 0 [o 0 154 (.mv (.t 16)),
            o 1 10 (.mv (.t 154))])
          (.ret))
          (.seq (.region 0 [o 0 156 (.mv (.t 4)),
            o 1 157 (.mv (.t 16)),
            o 2 158 (.bin .eql (.lf .i) (.t 156) (.t 157)),
            o 3 155 (.mv (.t 158))])
          (.cond (.t 155)
           (.seq (.region 0 [o 0 159 (.mv (.t 0)),
             o 1 160 (.mv (.t 16)),
             o 2 161 (.mv (.t 3)),
             o 3 162 (.call (.f 61) [(.t 159), (.t 160), (.t 161), (.c (.int .i64 (-1)))]),
             o 4 10 (.mv (.t 162))])
           (.ret))
           (.skip))))))))))))))))))))
 (.seq (.region 0 [o 0 163 (.mv (.t 0)),
   o 1 164 (.mv (.t 1)),
   o 2 165 (.mv (.t 2)),
   o 3 166 (.mv (.t 3)),
   o 4 167 (.mv (.t 4)),
   o 5 168 (.call (.f 180) [(.t 163), (.t 164), (.t 165), (.t 166), (.t 167)]),
   o 6 10 (.mv (.t 168))])
 (.ret))))))))⟩
theorem c137 : cFn Tryz.prog Tryz.f137 = some i137 := by kernel_rfl
/-- (*burnish/term.forms).divide -/
def i138 : FnI := ⟨[.tmp 10],
 .seq (.region 0 [o 0 10 (.mv (.c (.int .i64 0)))])
 (.seq (.region 0 [o 0 22 (.mv (.t 0)),
   o 1 23 (.mv (.t 3)),
   o 2 24 (.call (.f 52) [(.t 22), (.t 23)]),
   o 3 21 (.mv (.t 24)),
   o 4 25 (.ext 0 (.t 21)),
   o 5 26 (.ext 1 (.t 21)),
   o 6 11 (.mv (.t 25)),
   o 7 12 (.mv (.t 26))])
 (.seq (.region 0 [o 0 28 (.mv (.t 0)),
   o 1 29 (.mv (.t 4)),
   o 2 30 (.call (.f 52) [(.t 28), (.t 29)]),
   o 3 27 (.mv (.t 30)),
   o 4 31 (.ext 0 (.t 27)),
   o 5 32 (.ext 1 (.t 27)),
   o 6 13 (.mv (.t 31)),
   o 7 14 (.mv (.t 32))])
 (.seq (.region 0 [o 0 33 (.mv (.t 0)),
   o 1 34 (.mv (.t 2)),
   o 2 35 (.call (.f 57) [(.t 33), (.t 34), (.c (.int .i64 0))]),
   o 3 15 (.mv (.t 35))])
 (.seq (.region 0 [o 0 36 (.mv (.t 1)),
   o 1 37 (.bin .eql (.lf .i) (.t 36) (.c (.int .i64 15))),
   o 2 16 (.mv (.t 37))])
 (.seq (.block 0 (.seq (.region 0 [o 0 39 (.mv (.t 12)),
    o 1 40 (.mv (.t 39)),
    og 2 41 40 true (.mv (.t 14)),
    o 3 42 (.pick (.t 40) (.t 41) (.c (.bool false))),
    o 4 43 (.mv (.t 42)),
    og 5 44 43 true (.mv (.t 13)),
    og 6 45 43 true (.bin .neq (.lf .i) (.t 44) (.c (.int .i64 0))),
    o 7 46 (.pick (.t 43) (.t 45) (.c (.bool false))),
    o 8 47 (.mv (.t 46)),
    og 9 48 47 true (.mv (.t 16)),
    o 10 49 (.pick (.t 47) (.t 48) (.c (.bool false))),
    o 11 38 (.mv (.t 49))])
  (.cond (.t 38)
   (.seq (.region 0 [o 0 51 (.mv (.t 2)),
     o 1 52 (.mv (.t 11)),
     o 2 53 (.mv (.t 13)),
     o 3 54 (.call (.f 184) [(.t 51), (.t 52), (.t 53)]),
     o 4 50 (.mv (.t 54)),
     o 5 55 (.ext 0 (.t 50)),
     o 6 56 (.ext 1 (.t 50)),
     o 7 17 (.mv (.t 55)),
     o 8 18 (.mv (.t 56))])
   (.seq (.region 0 [o 0 57 (.mv (.t 0)),
     o 1 58 (.mv (.t 2)),
     o 2 59 (.mv (.t 17)),
     o 3 60 (.call (.f 57) [(.t 57), (.t 58), (.t 59)]),
     o 4 10 (.mv (.t 60))])
   (.ret)))
   (.seq (.region 0 [o 0 62 (.mv (.t 12)),
     o 1 63 (.mv (.t 62)),
     og 2 64 63 true (.mv (.t 14)),
     o 3 65 (.pick (.t 63) (.t 64) (.c (.bool false))),
     o 4 66 (.mv (.t 65)),
     og 5 67 66 true (.mv (.t 13)),
     og 6 68 66 true (.bin .neq (.lf .i) (.t 67) (.c (.int .i64 0))),
     o 7 69 (.pick (.t 66) (.t 68) (.c (.bool false))),
     o 8 61 (.mv (.t 69))])
   (.cond (.t 61)
    (.seq (.region 0 [o 0 71 (.mv (.t 2)),
      o 1 72 (.mv (.t 11)),
      o 2 73 (.mv (.t 13)),
      o 3 74 (.call (.f 185) [(.t 71), (.t 72), (.t 73)]),
      o 4 70 (.mv (.t 74)),
      o 5 75 (.ext 0 (.t 70)),
      o 6 76 (.ext 1 (.t 70)),
      o 7 19 (.mv (.t 75)),
      o 8 20 (.mv (.t 76))])
    (.seq (.region 0 [o 0 77 (.mv (.t 0)),
      o 1 78 (.mv (.t 2)),
      o 2 79 (.mv (.t 19)),
      o 3 80 (.call (.f 57) [(.t 77), (.t 78), (.t 79)]),
      o 4 10 (.mv (.t 80))])
    (.ret)))
    (.seq (.region 0 [o 0 82 (.mv (.t 14)),
      o 1 83 (.mv (.t 82)),
      og 2 84 83 true (.mv (.t 13)),
      og 3 85 83 true (.bin .eql (.lf .i) (.t 84) (.c (.int .i64 1))),
      og 4 86 83 true (.mv (.t 85)),
      og 5 87 86 false (.mv (.t 13)),
      og 6 88 86 false (.bin .eql (.lf .i) (.t 87) (.c (.int .i64 (-1)))),
      og 7 89 83 true (.pick (.t 86) (.c (.bool true)) (.t 88)),
      o 8 90 (.pick (.t 83) (.t 89) (.c (.bool false))),
      o 9 91 (.mv (.t 90)),
      og 10 92 91 true (.mv (.t 16)),
      o 11 93 (.pick (.t 91) (.t 92) (.c (.bool false))),
      o 12 81 (.mv (.t 93))])
    (.cond (.t 81)
     (.seq (.region 0 [o 0 94 (.mv (.t 15)),
       o 1 10 (.mv (.t 94))])
     (.ret))
     (.seq (.region 0 [o 0 96 (.mv (.t 14)),
       o 1 97 (.mv (.t 96)),
       og 2 98 97 true (.mv (.t 13)),
       og 3 99 97 true (.bin .eql (.lf .i) (.t 98) (.c (.int .i64 1))),
       o 4 100 (.pick (.t 97) (.t 99) (.c (.bool false))),
       o 5 95 (.mv (.t 100))])
     (.cond (.t 95)
      (.seq (.region 0 [o 0 101 (.mv (.t 3)),
        o 1 10 (.mv (.t 101))])
      (.ret))
      (.seq (.region 0 [o 0 103 (.mv (.t 14)),
        o 1 104 (.mv (.t 103)),
        og 2 105 104 true (.mv (.t 13)),
        og 3 106 104 true (.bin .eql (.lf .i) (.t 105) (.c (.int .i64 (-1)))),
        o 4 107 (.pick (.t 104) (.t 106) (.c (.bool false))),
        o 5 102 (.mv (.t 107))])
      (.cond (.t 102)
       (.seq (.region 0 [o 0 108 (.mv (.t 0)),
         o 1 109 (.mv (.t 15)),
         o 2 110 (.mv (.t 3)),
         o 3 111 (.call (.f 61) [(.t 108), (.t 109), (.t 110), (.c (.int .i64 (-1)))]),
         o 4 10 (.mv (.t 111))])
       (.ret))
       (.skip))))))))))))
 (.seq (.region 0 [o 0 112 (.mv (.t 0)),
   o 1 113 (.mv (.t 1)),
   o 2 114 (.mv (.t 2)),
   o 3 115 (.mv (.t 3)),
   o 4 116 (.mv (.t 4)),
   o 5 117 (.build [(.int .i64 0), (.int .i64 0), (.int .i64 0), (.int .i64 0), (.int .i64 0), (.int .i64 0)] [(0, 1, (.t 113)), (1, 1, (.t 114)), (2, 1, (.t 115)), (3, 1, (.t 116))]),
   o 6 118 (.call (.f 58) [(.t 112), (.t 117)]),
   o 7 10 (.mv (.t 118))])
 (.ret)))))))⟩
theorem c138 : cFn Tryz.prog Tryz.f138 = some i138 := by kernel_rfl
/-- burnish/intn.Unsigned -/
def i139 : FnI := ⟨[.tmp 4],
 .seq (.region 0 [o 0 4 (.mv (.c (.int .u64 0)))])
 (.seq (.region 0 [o 0 6 (.mv (.t 0)),
   o 1 7 (.call (.f 51) [(.t 6)]),
   o 2 5 (.mv (.t 7))])
 (.seq (.seq (.region 0 [o 0 8 (.mv (.t 5)),
   o 1 9 (.bin .eql (.lf .i) (.t 8) (.c (.int .i64 0)))])
 (.cond (.t 9)
  (.seq (.region 0 [o 0 4 (.mv (.c (.int .u64 0)))])
  (.ret))
  (.skip)))
 (.seq (.region 0 [o 0 10 (.mv (.t 1)),
   o 1 11 (.conv .u64 (.t 10)),
   o 2 12 (.mv (.t 5)),
   o 3 13 (.bin .sub (.lf .i) (.c (.int .i64 64)) (.t 12)),
   o 4 14 (.bin .shl (.lf .i) (.t 11) (.t 13)),
   o 5 15 (.mv (.t 5)),
   o 6 16 (.bin .sub (.lf .i) (.c (.int .i64 64)) (.t 15)),
   o 7 17 (.bin .shr (.lf .i) (.t 14) (.t 16)),
   o 8 4 (.mv (.t 17))])
 (.ret))))⟩
theorem c139 : cFn Tryz.prog Tryz.f139 = some i139 := by kernel_rfl
/-- (*burnish/term.forms).shift -/
def i140 : FnI := ⟨[.tmp 10],
 .seq (.region 0 [o 0 10 (.mv (.c (.int .i64 0)))])
 (.seq (.region 0 [o 0 16 (.mv (.t 0)),
   o 1 17 (.mv (.t 4)),
   o 2 18 (.call (.f 52) [(.t 16), (.t 17)]),
   o 3 15 (.mv (.t 18)),
   o 4 19 (.ext 0 (.t 15)),
   o 5 20 (.ext 1 (.t 15)),
   o 6 11 (.mv (.t 19)),
   o 7 12 (.mv (.t 20))])
 (.seq (.region 0 [o 0 22 (.mv (.t 0)),
   o 1 23 (.mv (.t 3)),
   o 2 24 (.call (.f 52) [(.t 22), (.t 23)]),
   o 3 21 (.mv (.t 24)),
   o 4 25 (.ext 0 (.t 21)),
   o 5 26 (.ext 1 (.t 21)),
   o 6 13 (.mv (.t 25)),
   o 7 14 (.mv (.t 26))])
 (.seq (.block 0 (.seq (.region 0 [o 0 28 (.mv (.t 12)),
    o 1 29 (.un .not (.t 28)),
    o 2 27 (.mv (.t 29))])
  (.cond (.t 27)
   (.skip)
   (.seq (.region 0 [o 0 31 (.mv (.t 11)),
     o 1 32 (.bin .eql (.lf .i) (.t 31) (.c (.int .i64 0))),
     o 2 30 (.mv (.t 32))])
   (.cond (.t 30)
    (.seq (.region 0 [o 0 33 (.mv (.t 3)),
      o 1 10 (.mv (.t 33))])
    (.ret))
    (.seq (.region 0 [o 0 35 (.mv (.t 14)),
      o 1 34 (.mv (.t 35))])
    (.cond (.t 34)
     (.seq (.region 0 [o 0 36 (.mv (.t 0)),
       o 1 37 (.mv (.t 2)),
       o 2 38 (.mv (.t 1)),
       o 3 39 (.mv (.t 2)),
       o 4 40 (.mv (.t 13)),
       o 5 41 (.mv (.t 11)),
       o 6 42 (.call (.f 186) [(.t 38), (.t 39), (.t 40), (.t 41)]),
       o 7 43 (.call (.f 57) [(.t 36), (.t 37), (.t 42)]),
       o 8 10 (.mv (.t 43))])
     (.ret))
     (.seq (.region 0 [o 0 45 (.mv (.t 1)),
       o 1 46 (.bin .eql (.lf .i) (.t 45) (.c (.int .i64 11))),
       o 2 44 (.mv (.t 46))])
     (.cond (.t 44)
      (.seq (.region 0 [o 0 47 (.mv (.t 0)),
        o 1 48 (.mv (.t 0)),
        o 2 49 (.mv (.t 2)),
        o 3 50 (.call (.f 57) [(.t 48), (.t 49), (.c (.int .i64 0))]),
        o 4 51 (.mv (.t 3)),
        o 5 52 (.mv (.t 2)),
        o 6 53 (.mv (.t 11)),
        o 7 54 (.call (.f 139) [(.t 52), (.t 53)]),
        o 8 55 (.bin .shl (.lf .i) (.c (.int .i64 1)) (.t 54)),
        o 9 56 (.call (.f 61) [(.t 47), (.t 50), (.t 51), (.t 55)]),
        o 10 10 (.mv (.t 56))])
      (.ret))
      (.skip))))))))))
 (.seq (.region 0 [o 0 57 (.mv (.t 0)),
   o 1 58 (.mv (.t 1)),
   o 2 59 (.mv (.t 2)),
   o 3 60 (.mv (.t 3)),
   o 4 61 (.mv (.t 4)),
   o 5 62 (.build [(.int .i64 0), (.int .i64 0), (.int .i64 0), (.int .i64 0), (.int .i64 0), (.int .i64 0)] [(0, 1, (.t 58)), (1, 1, (.t 59)), (2, 1, (.t 60)), (3, 1, (.t 61))]),
   o 6 63 (.call (.f 58) [(.t 57), (.t 62)]),
   o 7 10 (.mv (.t 63))])
 (.ret)))))⟩
theorem c140 : cFn Tryz.prog Tryz.f140 = some i140 := by kernel_rfl
/-- (*burnish/term.Bank).wraps -/
def i141 : FnI := ⟨[.tmp 10],
 .seq (.region 0 [o 0 10 (.mv (.c (.slice none 0 0)))])
 (.seq (.region 0 [o 0 20 (.mv (.t 0)),
   o 1 21 (.nilchk (.t 20)),
   o 2 22 (.faddr 0 (.t 21)),
   o 3 23 (.mv (.t 3)),
   o 4 24 (.call (.f 52) [(.t 22), (.t 23)]),
   o 5 19 (.mv (.t 24)),
   o 6 25 (.ext 0 (.t 19)),
   o 7 26 (.ext 1 (.t 19)),
   o 8 11 (.mv (.t 25)),
   o 9 12 (.mv (.t 26))])
 (.seq (.region 0 [o 0 28 (.mv (.t 0)),
   o 1 29 (.nilchk (.t 28)),
   o 2 30 (.faddr 0 (.t 29)),
   o 3 31 (.mv (.t 4)),
   o 4 32 (.call (.f 52) [(.t 30), (.t 31)]),
   o 5 27 (.mv (.t 32)),
   o 6 33 (.ext 0 (.t 27)),
   o 7 34 (.ext 1 (.t 27)),
   o 8 13 (.mv (.t 33)),
   o 9 14 (.mv (.t 34))])
 (.seq (.seq (.region 0 [o 0 35 (.mv (.t 12)),
   o 1 36 (.mv (.t 35)),
   og 2 37 36 true (.mv (.t 14)),
   o 3 38 (.pick (.t 36) (.t 37) (.c (.bool false)))])
 (.cond (.t 38)
  (.seq (.region 0 [o 0 15 (.mv (.f 187))])
  (.seq (.seq (.region 0 [o 0 39 (.mv (.t 1))])
  (.block 0 (.seq (.region 0 [o 0 41 (.bin .eql (.lf .i) (.t 39) (.c (.int .i64 6))),
     o 1 40 (.mv (.t 41))])
   (.cond (.t 40)
    (.region 0 [o 0 15 (.mv (.f 188))])
    (.seq (.region 0 [o 0 43 (.bin .eql (.lf .i) (.t 39) (.c (.int .i64 7))),
      o 1 42 (.mv (.t 43))])
    (.cond (.t 42)
     (.region 0 [o 0 15 (.mv (.f 189))])
     (.skip)))))))
  (.seq (.seq (.region 0 [o 0 45 (.mv (.t 15)),
    o 1 46 (.mv (.t 2)),
    o 2 47 (.mv (.t 11)),
    o 3 48 (.mv (.t 13)),
    o 4 49 (.call (.t 45) [(.t 46), (.t 47), (.t 48)]),
    o 5 44 (.mv (.t 49)),
    o 6 50 (.ext 0 (.t 44)),
    o 7 51 (.ext 1 (.t 44)),
    o 8 16 (.mv (.t 50)),
    o 9 17 (.mv (.t 51))])
  (.seq (.region 0 [o 0 52 (.mv (.t 17))])
  (.cond (.t 52)
   (.seq (.region 1 [o 0 53 (.bslice 0 3 1 1 [(.int .i64 0)] [(0, 1, (.c (.int .i64 0)))]),
     o 1 10 (.mv (.t 53))])
   (.ret))
   (.skip))))
  (.seq (.region 0 [o 0 10 (.mv (.c (.slice none 0 0)))])
  (.ret)))))
  (.skip)))
 (.seq (.region 0 [o 0 54 (.mv (.t 14)),
   o 1 55 (.mv (.t 54)),
   og 2 56 55 true (.mv (.t 13)),
   og 3 57 55 true (.bin .eql (.lf .i) (.t 56) (.c (.int .i64 0))),
   o 4 58 (.pick (.t 55) (.t 57) (.c (.bool false))),
   o 5 59 (.mv (.t 58)),
   og 6 60 59 false (.mv (.t 12)),
   og 7 61 59 false (.mv (.t 60)),
   og 8 62 61 true (.mv (.t 11)),
   og 9 63 61 true (.bin .eql (.lf .i) (.t 62) (.c (.int .i64 0))),
   og 10 64 59 false (.pick (.t 61) (.t 63) (.c (.bool false))),
   og 11 65 59 false (.mv (.t 64)),
   og 12 66 65 true (.mv (.t 1)),
   og 13 67 65 true (.bin .neq (.lf .i) (.t 66) (.c (.int .i64 6))),
   og 14 68 59 false (.pick (.t 65) (.t 67) (.c (.bool false))),
   o 15 69 (.pick (.t 59) (.c (.bool true)) (.t 68)),
   o 16 18 (.mv (.t 69))])
 (.seq (.seq (.region 0 [o 0 70 (.mv (.t 18)),
   o 1 71 (.mv (.t 70)),
   og 2 72 71 false (.mv (.t 1)),
   og 3 73 71 false (.bin .eql (.lf .i) (.t 72) (.c (.int .i64 7))),
   og 4 74 71 false (.mv (.t 73)),
   og 5 75 74 true (.mv (.t 14)),
   og 6 76 74 true (.mv (.t 75)),
   og 7 77 76 true (.mv (.t 13)),
   og 8 78 76 true (.bin .eql (.lf .i) (.t 77) (.c (.int .i64 1))),
   og 9 79 74 true (.pick (.t 76) (.t 78) (.c (.bool false))),
   og 10 80 74 true (.mv (.t 79)),
   og 11 81 80 false (.mv (.t 12)),
   og 12 82 80 false (.mv (.t 81)),
   og 13 83 82 true (.mv (.t 11)),
   og 14 84 82 true (.bin .eql (.lf .i) (.t 83) (.c (.int .i64 1))),
   og 15 85 80 false (.pick (.t 82) (.t 84) (.c (.bool false))),
   og 16 86 74 true (.pick (.t 80) (.c (.bool true)) (.t 85)),
   og 17 87 71 false (.pick (.t 74) (.t 86) (.c (.bool false))),
   o 18 88 (.pick (.t 71) (.c (.bool true)) (.t 87))])
 (.cond (.t 88)
  (.seq (.region 0 [o 0 10 (.mv (.c (.slice none 0 0)))])
  (.ret))
  (.skip)))
 (.seq (.seq (.region 0 [o 0 89 (.mv (.t 1)),
   o 1 90 (.bin .neq (.lf .i) (.t 89) (.c (.int .i64 6))),
   o 2 91 (.mv (.t 90)),
   og 3 92 91 true (.mv (.t 3)),
   og 4 93 91 true (.mv (.t 4)),
   og 5 94 91 true (.bin .gtr (.lf .i) (.t 92) (.t 93)),
   o 6 95 (.pick (.t 91) (.t 94) (.c (.bool false)))])
 (.cond (.t 95)
  (.region 0 [o 0 96 (.mv (.t 4)),
    o 1 97 (.mv (.t 3)),
    o 2 3 (.mv (.t 96)),
    o 3 4 (.mv (.t 97))])
  (.skip)))
 (.seq (.region 1 [o 0 98 (.mv (.t 0)),
   o 1 99 (.mv (.t 1)),
   o 2 100 (.mv (.t 3)),
   o 3 101 (.mv (.t 4)),
   o 4 102 (.build [(.int .i64 0), (.int .i64 0), (.int .i64 0), (.int .i64 0), (.int .i64 0), (.string ⟨#[]⟩), (.string ⟨#[]⟩)] [(0, 1, (.c (.int .i64 1))), (1, 1, (.t 99)), (2, 1, (.t 100)), (3, 1, (.t 101))]),
   o 5 103 (.call (.f 59) [(.t 98), (.t 102)]),
   o 6 104 (.bslice 0 3 1 1 [(.int .i64 0)] [(0, 1, (.t 103))]),
   o 7 10 (.mv (.t 104))])
 (.ret))))))))⟩
theorem c141 : cFn Tryz.prog Tryz.f141 = some i141 := by kernel_rfl
def i142l1 : Cd :=
  .seq (.seq (.region 0 [o 0 16 (.mv (.t 7)),
    o 1 17 (.mv (.t 1)),
    o 2 18 (.bin .gtr (.lf .i) (.t 16) (.t 17)),
    o 3 19 (.mv (.t 18)),
    og 4 20 19 true (.mv (.t 0)),
    og 5 21 19 true (.mv (.t 7)),
    og 6 22 19 true (.iaddr 1 (.t 20) (.t 21)),
    og 7 23 19 true (.load false 1 (.t 22)),
    og 8 24 19 true (.mv (.t 0)),
    og 9 25 19 true (.mv (.t 7)),
    og 10 26 19 true (.bin .sub (.lf .i) (.t 25) (.c (.int .i64 1))),
    og 11 27 19 true (.iaddr 1 (.t 24) (.t 26)),
    og 12 28 19 true (.load false 1 (.t 27)),
    og 13 29 19 true (.call (.f 148) [(.t 23), (.t 28)]),
    o 14 30 (.pick (.t 19) (.t 29) (.c (.bool false)))])
  (.cond (.t 30)
   (.skip)
   (.exit 2)))
  (.seq (.block 3 (.region 0 [o 5 38 (.mv (.t 0)),
     o 6 39 (.mv (.t 7)),
     o 7 40 (.bin .sub (.lf .i) (.t 39) (.c (.int .i64 1))),
     o 8 41 (.iaddr 1 (.t 38) (.t 40)),
     o 9 42 (.load false 1 (.t 41)),
     o 10 43 (.mv (.t 0)),
     o 11 44 (.mv (.t 7)),
     o 12 45 (.iaddr 1 (.t 43) (.t 44)),
     o 13 46 (.load false 1 (.t 45)),
     o 0 33 (.mv (.t 0)),
     o 1 34 (.mv (.t 7)),
     o 14 47 (.iaddr 1 (.t 33) (.t 34)),
     ox 15 (.store 1 (.t 47) (.t 42)),
     o 2 35 (.mv (.t 0)),
     o 3 36 (.mv (.t 7)),
     o 4 37 (.bin .sub (.lf .i) (.t 36) (.c (.int .i64 1))),
     o 16 48 (.iaddr 1 (.t 35) (.t 37)),
     ox 17 (.store 1 (.t 48) (.t 46))]))
  (.region 0 [o 0 31 (.mv (.t 7)),
    o 1 32 (.bin .sub (.lf .i) (.t 31) (.c (.int .i64 1))),
    o 2 7 (.mv (.t 32))]))
def i142l0 : Cd :=
  .seq (.seq (.region 0 [o 0 10 (.mv (.t 6)),
    o 1 11 (.mv (.t 2)),
    o 2 12 (.bin .lss (.lf .i) (.t 10) (.t 11))])
  (.cond (.t 12)
   (.skip)
   (.exit 0)))
  (.seq (.block 1 (.seq (.region 0 [o 0 15 (.mv (.t 6)),
     o 1 7 (.mv (.t 15))])
   (.block 2 (.loop i142l1))))
  (.region 0 [o 0 13 (.mv (.t 6)),
    o 1 14 (.bin .add (.lf .i) (.t 13) (.c (.int .i64 1))),
    o 2 6 (.mv (.t 14))]))
/-- slices.insertionSortOrdered[int] -/
def i142 : FnI := ⟨[],
 .seq (.region 0 [o 0 8 (.mv (.t 1)),
   o 1 9 (.bin .add (.lf .i) (.t 8) (.c (.int .i64 1))),
   o 2 6 (.mv (.t 9))])
 (.block 0 (.loop i142l0))⟩
theorem c142 : cFn Tryz.prog Tryz.f142 = some i142 := by kernel_rfl
def i143l1 : Cd :=
  .seq (.seq (.region 0 [o 0 29 (.mv (.t 10)),
    o 1 30 (.bin .geq (.lf .i) (.t 29) (.c (.int .i64 0)))])
  (.cond (.t 30)
   (.skip)
   (.exit 2)))
  (.seq (.block 3 (.seq (.region 0 [o 6 39 (.mv (.t 0)),
     o 7 40 (.mv (.t 6)),
     o 8 41 (.mv (.t 10)),
     o 9 42 (.bin .add (.lf .i) (.t 40) (.t 41)),
     o 10 43 (.iaddr 1 (.t 39) (.t 42)),
     o 11 44 (.load false 1 (.t 43)),
     o 12 45 (.mv (.t 0)),
     o 13 46 (.mv (.t 6)),
     o 14 47 (.iaddr 1 (.t 45) (.t 46)),
     o 15 48 (.load false 1 (.t 47)),
     o 0 33 (.mv (.t 0)),
     o 1 34 (.mv (.t 6)),
     o 16 49 (.iaddr 1 (.t 33) (.t 34)),
     ox 17 (.store 1 (.t 49) (.t 44)),
     o 2 35 (.mv (.t 0)),
     o 3 36 (.mv (.t 6)),
     o 4 37 (.mv (.t 10)),
     o 5 38 (.bin .add (.lf .i) (.t 36) (.t 37)),
     o 18 50 (.iaddr 1 (.t 35) (.t 38)),
     ox 19 (.store 1 (.t 50) (.t 48))])
   (.region 0 [o 0 51 (.mv (.t 0)),
     o 1 52 (.mv (.t 7)),
     o 2 53 (.mv (.t 10)),
     o 3 54 (.mv (.t 6)),
     o 4 55 (.call (.f 190) [(.t 51), (.t 52), (.t 53), (.t 54)])])))
  (.region 0 [o 0 31 (.mv (.t 10)),
    o 1 32 (.bin .sub (.lf .i) (.t 31) (.c (.int .i64 1))),
    o 2 10 (.mv (.t 32))]))
def i143l0 : Cd :=
  .seq (.seq (.region 0 [o 0 18 (.mv (.t 9)),
    o 1 19 (.bin .geq (.lf .i) (.t 18) (.c (.int .i64 0)))])
  (.cond (.t 19)
   (.skip)
   (.exit 0)))
  (.seq (.block 1 (.region 0 [o 0 22 (.mv (.t 0)),
     o 1 23 (.mv (.t 9)),
     o 2 24 (.mv (.t 8)),
     o 3 25 (.mv (.t 6)),
     o 4 26 (.call (.f 190) [(.t 22), (.t 23), (.t 24), (.t 25)])]))
  (.region 0 [o 0 20 (.mv (.t 9)),
    o 1 21 (.bin .sub (.lf .i) (.t 20) (.c (.int .i64 1))),
    o 2 9 (.mv (.t 21))]))
/-- slices.heapSortOrdered[int] -/
def i143 : FnI := ⟨[],
 .seq (.region 0 [o 0 11 (.mv (.t 1)),
   o 1 6 (.mv (.t 11))])
 (.seq (.region 0 [o 0 7 (.mv (.c (.int .i64 0)))])
 (.seq (.region 0 [o 0 12 (.mv (.t 2)),
   o 1 13 (.mv (.t 1)),
   o 2 14 (.bin .sub (.lf .i) (.t 12) (.t 13)),
   o 3 8 (.mv (.t 14))])
 (.seq (.seq (.region 0 [o 0 15 (.mv (.t 8)),
   o 1 16 (.bin .sub (.lf .i) (.t 15) (.c (.int .i64 1))),
   o 2 17 (.bin .quo (.lf .i) (.t 16) (.c (.int .i64 2))),
   o 3 9 (.mv (.t 17))])
 (.block 0 (.loop i143l0)))
 (.seq (.region 0 [o 0 27 (.mv (.t 8)),
   o 1 28 (.bin .sub (.lf .i) (.t 27) (.c (.int .i64 1))),
   o 2 10 (.mv (.t 28))])
 (.block 2 (.loop i143l1))))))⟩
theorem c143 : cFn Tryz.prog Tryz.f143 = some i143 := by kernel_rfl
def i144l0 : Cd :=
  .seq (.seq (.region 0 [o 0 26 (.mv (.t 9)),
    o 1 27 (.mv (.t 1)),
    o 2 28 (.mv (.t 6)),
    o 3 29 (.bin .quo (.lf .i) (.t 28) (.c (.int .i64 4))),
    o 4 30 (.bin .mul (.lf .i) (.t 29) (.c (.int .i64 2))),
    o 5 31 (.bin .add (.lf .i) (.t 27) (.t 30)),
    o 6 32 (.bin .add (.lf .i) (.t 31) (.c (.int .i64 1))),
    o 7 33 (.bin .leq (.lf .i) (.t 26) (.t 32))])
  (.cond (.t 33)
   (.skip)
   (.exit 0)))
  (.seq (.block 1 (.seq (.region 0 [o 0 36 (.call (.f 192) [(.t 7)]),
     o 1 37 (.mv (.t 8)),
     o 2 38 (.bin .sub (.lf .i) (.t 37) (.c (.int .u64 1))),
     o 3 39 (.bin .and (.lf .i) (.t 36) (.t 38)),
     o 4 40 (.conv .i64 (.t 39)),
     o 5 10 (.mv (.t 40))])
   (.seq (.seq (.region 0 [o 0 41 (.mv (.t 10)),
     o 1 42 (.mv (.t 6)),
     o 2 43 (.bin .geq (.lf .i) (.t 41) (.t 42))])
   (.cond (.t 43)
    (.region 0 [o 0 44 (.mv (.t 10)),
      o 1 45 (.mv (.t 6)),
      o 2 46 (.bin .sub (.lf .i) (.t 44) (.t 45)),
      o 3 10 (.mv (.t 46))])
    (.skip)))
   (.region 0 [o 6 53 (.mv (.t 0)),
     o 7 54 (.mv (.t 1)),
     o 8 55 (.mv (.t 10)),
     o 9 56 (.bin .add (.lf .i) (.t 54) (.t 55)),
     o 10 57 (.iaddr 1 (.t 53) (.t 56)),
     o 11 58 (.load false 1 (.t 57)),
     o 12 59 (.mv (.t 0)),
     o 13 60 (.mv (.t 9)),
     o 14 61 (.iaddr 1 (.t 59) (.t 60)),
     o 15 62 (.load false 1 (.t 61)),
     o 0 47 (.mv (.t 0)),
     o 1 48 (.mv (.t 9)),
     o 16 63 (.iaddr 1 (.t 47) (.t 48)),
     ox 17 (.store 1 (.t 63) (.t 58)),
     o 2 49 (.mv (.t 0)),
     o 3 50 (.mv (.t 1)),
     o 4 51 (.mv (.t 10)),
     o 5 52 (.bin .add (.lf .i) (.t 50) (.t 51)),
     o 18 64 (.iaddr 1 (.t 49) (.t 52)),
     ox 19 (.store 1 (.t 64) (.t 62))]))))
  (.region 0 [o 0 34 (.mv (.t 9)),
    o 1 35 (.bin .add (.lf .i) (.t 34) (.c (.int .i64 1))),
    o 2 9 (.mv (.t 35))]))
/-- slices.breakPatternsOrdered[int] -/
def i144 : FnI := ⟨[],
 .seq (.region 0 [o 0 11 (.mv (.t 2)),
   o 1 12 (.mv (.t 1)),
   o 2 13 (.bin .sub (.lf .i) (.t 11) (.t 12)),
   o 3 6 (.mv (.t 13))])
 (.seq (.region 0 [o 0 14 (.mv (.t 6)),
   o 1 15 (.bin .geq (.lf .i) (.t 14) (.c (.int .i64 8)))])
 (.cond (.t 15)
  (.seq (.region 1 [o 0 16 (.mv (.t 6)),
    o 1 17 (.conv .u64 (.t 16)),
    o 2 7 (.alloc 0 258 [(.int .u64 0)]),
    ox 3 (.store 1 (.t 7) (.t 17))])
  (.seq (.region 0 [o 0 18 (.mv (.t 6)),
    o 1 19 (.call (.f 191) [(.t 18)]),
    o 2 8 (.mv (.t 19))])
  (.seq (.region 0 [o 0 20 (.mv (.t 1)),
    o 1 21 (.mv (.t 6)),
    o 2 22 (.bin .quo (.lf .i) (.t 21) (.c (.int .i64 4))),
    o 3 23 (.bin .mul (.lf .i) (.t 22) (.c (.int .i64 2))),
    o 4 24 (.bin .add (.lf .i) (.t 20) (.t 23)),
    o 5 25 (.bin .sub (.lf .i) (.t 24) (.c (.int .i64 1))),
    o 6 9 (.mv (.t 25))])
  (.block 0 (.loop i144l0)))))
  (.skip)))⟩
theorem c144 : cFn Tryz.prog Tryz.f144 = some i144 := by kernel_rfl
/-- slices.choosePivotOrdered[int] -/
def i145 : FnI := ⟨[.tmp 6, .tmp 7],
 .seq (.region 0 [o 0 6 (.mv (.c (.int .i64 0))),
   o 1 7 (.mv (.c (.int .i64 0)))])
 (.seq (.region 0 [o 0 13 (.mv (.t 2)),
   o 1 14 (.mv (.t 1)),
   o 2 15 (.bin .sub (.lf .i) (.t 13) (.t 14)),
   o 3 8 (.mv (.t 15))])
 (.seq (.region 1 [o 0 9 (.alloc 0 3 [(.int .i64 0)])])
 (.seq (.region 0 [o 0 16 (.mv (.t 1)),
   o 1 17 (.mv (.t 8)),
   o 2 18 (.bin .quo (.lf .i) (.t 17) (.c (.int .i64 4))),
   o 3 19 (.bin .mul (.lf .i) (.t 18) (.c (.int .i64 1))),
   o 4 20 (.bin .add (.lf .i) (.t 16) (.t 19)),
   o 5 10 (.mv (.t 20))])
 (.seq (.region 0 [o 0 21 (.mv (.t 1)),
   o 1 22 (.mv (.t 8)),
   o 2 23 (.bin .quo (.lf .i) (.t 22) (.c (.int .i64 4))),
   o 3 24 (.bin .mul (.lf .i) (.t 23) (.c (.int .i64 2))),
   o 4 25 (.bin .add (.lf .i) (.t 21) (.t 24)),
   o 5 11 (.mv (.t 25))])
 (.seq (.region 0 [o 0 26 (.mv (.t 1)),
   o 1 27 (.mv (.t 8)),
   o 2 28 (.bin .quo (.lf .i) (.t 27) (.c (.int .i64 4))),
   o 3 29 (.bin .mul (.lf .i) (.t 28) (.c (.int .i64 3))),
   o 4 30 (.bin .add (.lf .i) (.t 26) (.t 29)),
   o 5 12 (.mv (.t 30))])
 (.seq (.seq (.region 0 [o 0 31 (.mv (.t 8)),
   o 1 32 (.bin .geq (.lf .i) (.t 31) (.c (.int .i64 8)))])
 (.cond (.t 32)
  (.seq (.seq (.region 0 [o 0 33 (.mv (.t 8)),
    o 1 34 (.bin .geq (.lf .i) (.t 33) (.c (.int .i64 50)))])
  (.cond (.t 34)
   (.seq (.region 0 [o 0 35 (.mv (.t 0)),
     o 1 36 (.mv (.t 10)),
     o 2 37 (.call (.f 193) [(.t 35), (.t 36), (.t 9)]),
     o 3 10 (.mv (.t 37))])
   (.seq (.region 0 [o 0 38 (.mv (.t 0)),
     o 1 39 (.mv (.t 11)),
     o 2 40 (.call (.f 193) [(.t 38), (.t 39), (.t 9)]),
     o 3 11 (.mv (.t 40))])
   (.region 0 [o 0 41 (.mv (.t 0)),
     o 1 42 (.mv (.t 12)),
     o 2 43 (.call (.f 193) [(.t 41), (.t 42), (.t 9)]),
     o 3 12 (.mv (.t 43))])))
   (.skip)))
  (.region 0 [o 0 44 (.mv (.t 0)),
    o 1 45 (.mv (.t 10)),
    o 2 46 (.mv (.t 11)),
    o 3 47 (.mv (.t 12)),
    o 4 48 (.call (.f 194) [(.t 44), (.t 45), (.t 46), (.t 47), (.t 9)]),
    o 5 11 (.mv (.t 48))]))
  (.skip)))
 (.seq (.region 0 [o 0 49 (.load false 1 (.t 9))])
 (.block 0 (.seq (.region 0 [o 0 52 (.bin .eql (.lf .i) (.t 49) (.c (.int .i64 0))),
    o 1 51 (.mv (.t 52))])
  (.cond (.t 51)
   (.seq (.region 0 [o 0 53 (.mv (.t 11)),
     o 1 6 (.mv (.t 53)),
     o 2 7 (.mv (.c (.int .i64 1)))])
   (.ret))
   (.seq (.region 0 [o 0 55 (.bin .eql (.lf .i) (.t 49) (.c (.int .i64 12))),
     o 1 54 (.mv (.t 55))])
   (.cond (.t 54)
    (.seq (.region 0 [o 0 56 (.mv (.t 11)),
      o 1 6 (.mv (.t 56)),
      o 2 7 (.mv (.c (.int .i64 2)))])
    (.ret))
    (.seq (.region 0 [o 0 50 (.mv (.t 11)),
      o 1 6 (.mv (.t 50)),
      o 2 7 (.mv (.c (.int .i64 0)))])
    (.ret))))))))))))))⟩
theorem c145 : cFn Tryz.prog Tryz.f145 = some i145 := by kernel_rfl
def i146l0 : Cd :=
  .seq (.seq (.region 0 [o 0 11 (.mv (.t 6)),
    o 1 12 (.mv (.t 7)),
    o 2 13 (.bin .lss (.lf .i) (.t 11) (.t 12))])
  (.cond (.t 13)
   (.skip)
   (.exit 0)))
  (.block 1 (.seq (.region 0 [o 4 18 (.mv (.t 0)),
     o 5 19 (.mv (.t 7)),
     o 6 20 (.iaddr 1 (.t 18) (.t 19)),
     o 7 21 (.load false 1 (.t 20)),
     o 8 22 (.mv (.t 0)),
     o 9 23 (.mv (.t 6)),
     o 10 24 (.iaddr 1 (.t 22) (.t 23)),
     o 11 25 (.load false 1 (.t 24)),
     o 0 14 (.mv (.t 0)),
     o 1 15 (.mv (.t 6)),
     o 12 26 (.iaddr 1 (.t 14) (.t 15)),
     ox 13 (.store 1 (.t 26) (.t 21)),
     o 2 16 (.mv (.t 0)),
     o 3 17 (.mv (.t 7)),
     o 14 27 (.iaddr 1 (.t 16) (.t 17)),
     ox 15 (.store 1 (.t 27) (.t 25))])
   (.seq (.region 0 [o 0 28 (.mv (.t 6)),
     o 1 29 (.bin .add (.lf .i) (.t 28) (.c (.int .i64 1))),
     o 2 6 (.mv (.t 29))])
   (.region 0 [o 0 30 (.mv (.t 7)),
     o 1 31 (.bin .sub (.lf .i) (.t 30) (.c (.int .i64 1))),
     o 2 7 (.mv (.t 31))]))))
/-- slices.reverseRangeOrdered[int] -/
def i146 : FnI := ⟨[],
 .seq (.region 0 [o 0 8 (.mv (.t 1)),
   o 1 6 (.mv (.t 8))])
 (.seq (.region 0 [o 0 9 (.mv (.t 2)),
   o 1 10 (.bin .sub (.lf .i) (.t 9) (.c (.int .i64 1))),
   o 2 7 (.mv (.t 10))])
 (.block 0 (.loop i146l0)))⟩
theorem c146 : cFn Tryz.prog Tryz.f146 = some i146 := by kernel_rfl
def i147l3 : Cd :=
  .seq (.seq (.region 0 [o 0 101 (.mv (.t 10)),
    o 1 102 (.mv (.t 2)),
    o 2 103 (.bin .lss (.lf .i) (.t 101) (.t 102))])
  (.cond (.t 103)
   (.skip)
   (.exit 6)))
  (.seq (.block 7 (.seq (.seq (.region 0 [o 0 106 (.mv (.t 0)),
     o 1 107 (.mv (.t 10)),
     o 2 108 (.iaddr 1 (.t 106) (.t 107)),
     o 3 109 (.load false 1 (.t 108)),
     o 4 110 (.mv (.t 0)),
     o 5 111 (.mv (.t 10)),
     o 6 112 (.bin .sub (.lf .i) (.t 111) (.c (.int .i64 1))),
     o 7 113 (.iaddr 1 (.t 110) (.t 112)),
     o 8 114 (.load false 1 (.t 113)),
     o 9 115 (.call (.f 148) [(.t 109), (.t 114)]),
     o 10 116 (.un .not (.t 115))])
   (.cond (.t 116)
    (.exit 6)
    (.skip)))
   (.region 0 [o 5 122 (.mv (.t 0)),
     o 6 123 (.mv (.t 10)),
     o 7 124 (.bin .sub (.lf .i) (.t 123) (.c (.int .i64 1))),
     o 8 125 (.iaddr 1 (.t 122) (.t 124)),
     o 9 126 (.load false 1 (.t 125)),
     o 10 127 (.mv (.t 0)),
     o 11 128 (.mv (.t 10)),
     o 12 129 (.iaddr 1 (.t 127) (.t 128)),
     o 13 130 (.load false 1 (.t 129)),
     o 0 117 (.mv (.t 0)),
     o 1 118 (.mv (.t 10)),
     o 14 131 (.iaddr 1 (.t 117) (.t 118)),
     ox 15 (.store 1 (.t 131) (.t 126)),
     o 2 119 (.mv (.t 0)),
     o 3 120 (.mv (.t 10)),
     o 4 121 (.bin .sub (.lf .i) (.t 120) (.c (.int .i64 1))),
     o 16 132 (.iaddr 1 (.t 119) (.t 121)),
     ox 17 (.store 1 (.t 132) (.t 130))])))
  (.region 0 [o 0 104 (.mv (.t 10)),
    o 1 105 (.bin .add (.lf .i) (.t 104) (.c (.int .i64 1))),
    o 2 10 (.mv (.t 105))]))
def i147l2 : Cd :=
  .seq (.seq (.region 0 [o 0 64 (.mv (.t 9)),
    o 1 65 (.bin .geq (.lf .i) (.t 64) (.c (.int .i64 1)))])
  (.cond (.t 65)
   (.skip)
   (.exit 4)))
  (.seq (.block 5 (.seq (.seq (.region 0 [o 0 68 (.mv (.t 0)),
     o 1 69 (.mv (.t 9)),
     o 2 70 (.iaddr 1 (.t 68) (.t 69)),
     o 3 71 (.load false 1 (.t 70)),
     o 4 72 (.mv (.t 0)),
     o 5 73 (.mv (.t 9)),
     o 6 74 (.bin .sub (.lf .i) (.t 73) (.c (.int .i64 1))),
     o 7 75 (.iaddr 1 (.t 72) (.t 74)),
     o 8 76 (.load false 1 (.t 75)),
     o 9 77 (.call (.f 148) [(.t 71), (.t 76)]),
     o 10 78 (.un .not (.t 77))])
   (.cond (.t 78)
    (.exit 4)
    (.skip)))
   (.region 0 [o 5 84 (.mv (.t 0)),
     o 6 85 (.mv (.t 9)),
     o 7 86 (.bin .sub (.lf .i) (.t 85) (.c (.int .i64 1))),
     o 8 87 (.iaddr 1 (.t 84) (.t 86)),
     o 9 88 (.load false 1 (.t 87)),
     o 10 89 (.mv (.t 0)),
     o 11 90 (.mv (.t 9)),
     o 12 91 (.iaddr 1 (.t 89) (.t 90)),
     o 13 92 (.load false 1 (.t 91)),
     o 0 79 (.mv (.t 0)),
     o 1 80 (.mv (.t 9)),
     o 14 93 (.iaddr 1 (.t 79) (.t 80)),
     ox 15 (.store 1 (.t 93) (.t 88)),
     o 2 81 (.mv (.t 0)),
     o 3 82 (.mv (.t 9)),
     o 4 83 (.bin .sub (.lf .i) (.t 82) (.c (.int .i64 1))),
     o 16 94 (.iaddr 1 (.t 81) (.t 83)),
     ox 17 (.store 1 (.t 94) (.t 92))])))
  (.region 0 [o 0 66 (.mv (.t 9)),
    o 1 67 (.bin .sub (.lf .i) (.t 66) (.c (.int .i64 1))),
    o 2 9 (.mv (.t 67))]))
def i147l1 : Cd :=
  .seq (.seq (.region 0 [o 0 17 (.mv (.t 7)),
    o 1 18 (.mv (.t 2)),
    o 2 19 (.bin .lss (.lf .i) (.t 17) (.t 18)),
    o 3 20 (.mv (.t 19)),
    og 4 21 20 true (.mv (.t 0)),
    og 5 22 20 true (.mv (.t 7)),
    og 6 23 20 true (.iaddr 1 (.t 21) (.t 22)),
    og 7 24 20 true (.load false 1 (.t 23)),
    og 8 25 20 true (.mv (.t 0)),
    og 9 26 20 true (.mv (.t 7)),
    og 10 27 20 true (.bin .sub (.lf .i) (.t 26) (.c (.int .i64 1))),
    og 11 28 20 true (.iaddr 1 (.t 25) (.t 27)),
    og 12 29 20 true (.load false 1 (.t 28)),
    og 13 30 20 true (.call (.f 148) [(.t 24), (.t 29)]),
    og 14 31 20 true (.un .not (.t 30)),
    o 15 32 (.pick (.t 20) (.t 31) (.c (.bool false)))])
  (.cond (.t 32)
   (.skip)
   (.exit 2)))
  (.block 3 (.region 0 [o 0 33 (.mv (.t 7)),
     o 1 34 (.bin .add (.lf .i) (.t 33) (.c (.int .i64 1))),
     o 2 7 (.mv (.t 34))]))
def i147l0 : Cd :=
  .seq (.seq (.region 0 [o 0 13 (.mv (.t 8)),
    o 1 14 (.bin .lss (.lf .i) (.t 13) (.c (.int .i64 5)))])
  (.cond (.t 14)
   (.skip)
   (.exit 0)))
  (.seq (.block 1 (.seq (.block 2 (.loop i147l1))
   (.seq (.seq (.region 0 [o 0 35 (.mv (.t 7)),
     o 1 36 (.mv (.t 2)),
     o 2 37 (.bin .eql (.lf .i) (.t 35) (.t 36))])
   (.cond (.t 37)
    (.seq (.region 0 [o 0 6 (.mv (.c (.bool true)))])
    (.ret))
    (.skip)))
   (.seq (.seq (.region 0 [o 0 38 (.mv (.t 2)),
     o 1 39 (.mv (.t 1)),
     o 2 40 (.bin .sub (.lf .i) (.t 38) (.t 39)),
     o 3 41 (.bin .lss (.lf .i) (.t 40) (.c (.int .i64 50)))])
   (.cond (.t 41)
    (.seq (.region 0 [o 0 6 (.mv (.c (.bool false)))])
    (.ret))
    (.skip)))
   (.seq (.region 0 [o 5 47 (.mv (.t 0)),
     o 6 48 (.mv (.t 7)),
     o 7 49 (.bin .sub (.lf .i) (.t 48) (.c (.int .i64 1))),
     o 8 50 (.iaddr 1 (.t 47) (.t 49)),
     o 9 51 (.load false 1 (.t 50)),
     o 10 52 (.mv (.t 0)),
     o 11 53 (.mv (.t 7)),
     o 12 54 (.iaddr 1 (.t 52) (.t 53)),
     o 13 55 (.load false 1 (.t 54)),
     o 0 42 (.mv (.t 0)),
     o 1 43 (.mv (.t 7)),
     o 14 56 (.iaddr 1 (.t 42) (.t 43)),
     ox 15 (.store 1 (.t 56) (.t 51)),
     o 2 44 (.mv (.t 0)),
     o 3 45 (.mv (.t 7)),
     o 4 46 (.bin .sub (.lf .i) (.t 45) (.c (.int .i64 1))),
     o 16 57 (.iaddr 1 (.t 44) (.t 46)),
     ox 17 (.store 1 (.t 57) (.t 55))])
   (.seq (.seq (.region 0 [o 0 58 (.mv (.t 7)),
     o 1 59 (.mv (.t 1)),
     o 2 60 (.bin .sub (.lf .i) (.t 58) (.t 59)),
     o 3 61 (.bin .geq (.lf .i) (.t 60) (.c (.int .i64 2)))])
   (.cond (.t 61)
    (.seq (.region 0 [o 0 62 (.mv (.t 7)),
      o 1 63 (.bin .sub (.lf .i) (.t 62) (.c (.int .i64 1))),
      o 2 9 (.mv (.t 63))])
    (.block 4 (.loop i147l2)))
    (.skip)))
   (.seq (.region 0 [o 0 95 (.mv (.t 2)),
     o 1 96 (.mv (.t 7)),
     o 2 97 (.bin .sub (.lf .i) (.t 95) (.t 96)),
     o 3 98 (.bin .geq (.lf .i) (.t 97) (.c (.int .i64 2)))])
   (.cond (.t 98)
    (.seq (.region 0 [o 0 99 (.mv (.t 7)),
      o 1 100 (.bin .add (.lf .i) (.t 99) (.c (.int .i64 1))),
      o 2 10 (.mv (.t 100))])
    (.block 6 (.loop i147l3)))
    (.skip)))))))))
  (.region 0 [o 0 15 (.mv (.t 8)),
    o 1 16 (.bin .add (.lf .i) (.t 15) (.c (.int .i64 1))),
    o 2 8 (.mv (.t 16))]))
/-- slices.partialInsertionSortOrdered[int] -/
def i147 : FnI := ⟨[.tmp 6],
 .seq (.region 0 [o 0 6 (.mv (.c (.bool false)))])
 (.seq (.region 0 [o 0 11 (.mv (.t 1)),
   o 1 12 (.bin .add (.lf .i) (.t 11) (.c (.int .i64 1))),
   o 2 7 (.mv (.t 12))])
 (.seq (.seq (.region 0 [o 0 8 (.mv (.c (.int .i64 0)))])
 (.block 0 (.loop i147l0)))
 (.seq (.region 0 [o 0 6 (.mv (.c (.bool false)))])
 (.ret))))⟩
theorem c147 : cFn Tryz.prog Tryz.f147 = some i147 := by kernel_rfl
/-- cmp.Less[int] -/
def i148 : FnI := ⟨[.tmp 4],
 .seq (.region 0 [o 0 4 (.mv (.c (.bool false)))])
 (.seq (.region 0 [o 0 5 (.mv (.t 0)),
   o 1 6 (.call (.f 195) [(.t 5)]),
   o 2 7 (.mv (.t 6)),
   og 3 8 7 true (.mv (.t 1)),
   og 4 9 7 true (.call (.f 195) [(.t 8)]),
   og 5 10 7 true (.un .not (.t 9)),
   o 6 11 (.pick (.t 7) (.t 10) (.c (.bool false))),
   o 7 12 (.mv (.t 11)),
   og 8 13 12 false (.mv (.t 0)),
   og 9 14 12 false (.mv (.t 1)),
   og 10 15 12 false (.bin .lss (.lf .i) (.t 13) (.t 14)),
   o 11 16 (.pick (.t 12) (.c (.bool true)) (.t 15)),
   o 12 4 (.mv (.t 16))])
 (.ret))⟩
theorem c148 : cFn Tryz.prog Tryz.f148 = some i148 := by kernel_rfl
def i149l2 : Cd :=
  .seq (.seq (.region 0 [o 0 46 (.mv (.t 9)),
    o 1 47 (.mv (.t 10)),
    o 2 48 (.bin .leq (.lf .i) (.t 46) (.t 47)),
    o 3 49 (.mv (.t 48)),
    og 4 50 49 true (.mv (.t 0)),
    og 5 51 49 true (.mv (.t 1)),
    og 6 52 49 true (.iaddr 1 (.t 50) (.t 51)),
    og 7 53 49 true (.load false 1 (.t 52)),
    og 8 54 49 true (.mv (.t 0)),
    og 9 55 49 true (.mv (.t 10)),
    og 10 56 49 true (.iaddr 1 (.t 54) (.t 55)),
    og 11 57 49 true (.load false 1 (.t 56)),
    og 12 58 49 true (.call (.f 148) [(.t 53), (.t 57)]),
    o 13 59 (.pick (.t 49) (.t 58) (.c (.bool false)))])
  (.cond (.t 59)
   (.skip)
   (.exit 4)))
  (.block 5 (.region 0 [o 0 60 (.mv (.t 10)),
     o 1 61 (.bin .sub (.lf .i) (.t 60) (.c (.int .i64 1))),
     o 2 10 (.mv (.t 61))]))
def i149l1 : Cd :=
  .seq (.seq (.region 0 [o 0 29 (.mv (.t 9)),
    o 1 30 (.mv (.t 10)),
    o 2 31 (.bin .leq (.lf .i) (.t 29) (.t 30)),
    o 3 32 (.mv (.t 31)),
    og 4 33 32 true (.mv (.t 0)),
    og 5 34 32 true (.mv (.t 1)),
    og 6 35 32 true (.iaddr 1 (.t 33) (.t 34)),
    og 7 36 32 true (.load false 1 (.t 35)),
    og 8 37 32 true (.mv (.t 0)),
    og 9 38 32 true (.mv (.t 9)),
    og 10 39 32 true (.iaddr 1 (.t 37) (.t 38)),
    og 11 40 32 true (.load false 1 (.t 39)),
    og 12 41 32 true (.call (.f 148) [(.t 36), (.t 40)]),
    og 13 42 32 true (.un .not (.t 41)),
    o 14 43 (.pick (.t 32) (.t 42) (.c (.bool false)))])
  (.cond (.t 43)
   (.skip)
   (.exit 2)))
  (.block 3 (.region 0 [o 0 44 (.mv (.t 9)),
     o 1 45 (.bin .add (.lf .i) (.t 44) (.c (.int .i64 1))),
     o 2 9 (.mv (.t 45))]))
def i149l0 : Cd :=
  .block 1 (.seq (.block 2 (.loop i149l1))
   (.seq (.block 4 (.loop i149l2))
   (.seq (.seq (.region 0 [o 0 62 (.mv (.t 9)),
     o 1 63 (.mv (.t 10)),
     o 2 64 (.bin .gtr (.lf .i) (.t 62) (.t 63))])
   (.cond (.t 64)
    (.exit 0)
    (.skip)))
   (.seq (.region 0 [o 4 69 (.mv (.t 0)),
     o 5 70 (.mv (.t 10)),
     o 6 71 (.iaddr 1 (.t 69) (.t 70)),
     o 7 72 (.load false 1 (.t 71)),
     o 8 73 (.mv (.t 0)),
     o 9 74 (.mv (.t 9)),
     o 10 75 (.iaddr 1 (.t 73) (.t 74)),
     o 11 76 (.load false 1 (.t 75)),
     o 0 65 (.mv (.t 0)),
     o 1 66 (.mv (.t 9)),
     o 12 77 (.iaddr 1 (.t 65) (.t 66)),
     ox 13 (.store 1 (.t 77) (.t 72)),
     o 2 67 (.mv (.t 0)),
     o 3 68 (.mv (.t 10)),
     o 14 78 (.iaddr 1 (.t 67) (.t 68)),
     ox 15 (.store 1 (.t 78) (.t 76))])
   (.seq (.region 0 [o 0 79 (.mv (.t 9)),
     o 1 80 (.bin .add (.lf .i) (.t 79) (.c (.int .i64 1))),
     o 2 9 (.mv (.t 80))])
   (.region 0 [o 0 81 (.mv (.t 10)),
     o 1 82 (.bin .sub (.lf .i) (.t 81) (.c (.int .i64 1))),
     o 2 10 (.mv (.t 82))]))))))
/-- slices.partitionEqualOrdered[int] -/
def i149 : FnI := ⟨[.tmp 8],
 .seq (.region 0 [o 0 8 (.mv (.c (.int .i64 0)))])
 (.seq (.region 0 [o 4 15 (.mv (.t 0)),
   o 5 16 (.mv (.t 3)),
   o 6 17 (.iaddr 1 (.t 15) (.t 16)),
   o 7 18 (.load false 1 (.t 17)),
   o 8 19 (.mv (.t 0)),
   o 9 20 (.mv (.t 1)),
   o 10 21 (.iaddr 1 (.t 19) (.t 20)),
   o 11 22 (.load false 1 (.t 21)),
   o 0 11 (.mv (.t 0)),
   o 1 12 (.mv (.t 1)),
   o 12 23 (.iaddr 1 (.t 11) (.t 12)),
   ox 13 (.store 1 (.t 23) (.t 18)),
   o 2 13 (.mv (.t 0)),
   o 3 14 (.mv (.t 3)),
   o 14 24 (.iaddr 1 (.t 13) (.t 14)),
   ox 15 (.store 1 (.t 24) (.t 22))])
 (.seq (.region 0 [o 0 25 (.mv (.t 1)),
   o 1 26 (.bin .add (.lf .i) (.t 25) (.c (.int .i64 1))),
   o 2 27 (.mv (.t 2)),
   o 3 28 (.bin .sub (.lf .i) (.t 27) (.c (.int .i64 1))),
   o 4 9 (.mv (.t 26)),
   o 5 10 (.mv (.t 28))])
 (.seq (.block 0 (.loop i149l0))
 (.seq (.region 0 [o 0 83 (.mv (.t 9)),
   o 1 8 (.mv (.t 83))])
 (.ret)))))⟩
theorem c149 : cFn Tryz.prog Tryz.f149 = some i149 := by kernel_rfl

end Go.Proofs.YtmlgalhkpenohaaGreatDoor.Ab
