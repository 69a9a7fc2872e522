/- The seat's functions as the abstract machine's code, written by a program of this session; each is checked against the model's code. -/
import Derived.Test.YtmgkdnncjapejaaZabO
import Derived.Test.YtmgkdnncjapejaaProg
import Derived.KernelRfl
set_option linter.unusedSimpArgs false
set_option linter.unusedVariables false
namespace Go.Proofs.Ytmgkdnncjapejaa.Ab
open Go Go.Proofs.Ytmgkdnncjapejaa.Abs

/-- burnish/burnishlaw05.WorklistQueue -/
def i3 : FnI := ⟨[.tmp 4],
 .seq (.region 0 [⟨0, (some 4), none, .mv (.c (.bool false)), []⟩])
 (.seq (.seq (.region 0 [⟨0, (some 5), none, .mv (.t 1), []⟩,
   ⟨1, (some 6), none, .len (.t 5), []⟩,
   ⟨2, (some 7), none, .bin .gtr .no (.t 6) (.c (.int .i64 150)), []⟩])
 (.cond (.t 7)
  (.seq (.region 0 [⟨0, (some 8), none, .call (.f 8) [], []⟩,
    ⟨1, (some 4), none, .mv (.t 8), []⟩])
  (.ret))
  (.skip)))
 (.seq (.region 0 [⟨0, (some 9), none, .mv (.t 0), []⟩,
   ⟨1, (some 10), none, .call (.f 10) [(.t 9)], []⟩,
   ⟨2, (some 11), none, .mv (.t 0), []⟩,
   ⟨3, (some 12), none, .call (.f 11) [(.t 11)], []⟩,
   ⟨4, (some 13), none, .mv (.t 1), []⟩,
   ⟨5, (some 14), none, .call (.f 9) [(.t 10), (.t 12), (.t 13)], []⟩,
   ⟨6, (some 15), none, .mv (.t 14), []⟩,
   ⟨7, (some 16), (some (15, true)), .call (.f 8) [], []⟩,
   ⟨8, (some 17), none, .pick (.t 15) (.t 16) (.c (.bool false)), []⟩,
   ⟨9, (some 4), none, .mv (.t 17), []⟩])
 (.ret)))⟩

/-- burnish/burnishlaw05.WorklistRank -/
def i4 : FnI := ⟨[.tmp 4],
 .seq (.region 0 [⟨0, (some 4), none, .mv (.c (.bool false)), []⟩])
 (.seq (.seq (.region 0 [⟨0, (some 5), none, .mv (.t 0), []⟩,
   ⟨1, (some 6), none, .len (.t 5), []⟩,
   ⟨2, (some 7), none, .bin .gtr .no (.t 6) (.c (.int .i64 300)), []⟩,
   ⟨3, (some 8), none, .mv (.t 7), []⟩,
   ⟨4, (some 9), (some (8, false)), .mv (.t 1), []⟩,
   ⟨5, (some 10), (some (8, false)), .len (.t 9), []⟩,
   ⟨6, (some 11), (some (8, false)), .bin .gtr .no (.t 10) (.c (.int .i64 150)), []⟩,
   ⟨7, (some 12), none, .pick (.t 8) (.c (.bool true)) (.t 11), []⟩])
 (.cond (.t 12)
  (.seq (.region 0 [⟨0, (some 13), none, .call (.f 8) [], []⟩,
    ⟨1, (some 4), none, .mv (.t 13), []⟩])
  (.ret))
  (.skip)))
 (.seq (.region 0 [⟨0, (some 14), none, .mv (.t 0), []⟩,
   ⟨1, (some 15), none, .call (.f 12) [(.t 14)], []⟩,
   ⟨2, (some 16), none, .mv (.t 0), []⟩,
   ⟨3, (some 17), none, .call (.f 13) [(.t 16)], []⟩,
   ⟨4, (some 18), none, .mv (.t 1), []⟩,
   ⟨5, (some 19), none, .call (.f 9) [(.t 15), (.t 17), (.t 18)], []⟩,
   ⟨6, (some 20), none, .mv (.t 19), []⟩,
   ⟨7, (some 21), (some (20, true)), .call (.f 8) [], []⟩,
   ⟨8, (some 22), none, .pick (.t 20) (.t 21) (.c (.bool false)), []⟩,
   ⟨9, (some 4), none, .mv (.t 22), []⟩])
 (.ret)))⟩

def i5l0 : Cd :=
  .seq (.region 0 [⟨0, (some 31), none, .bin .lss .no (.t 30) (.t 29), []⟩])
  (.seq (.cond (.t 31)
   (.skip)
   (.exit 0))
  (.seq (.block 1 (.seq (.region 0 [⟨0, (some 32), none, .iaddr 1 (.t 28) (.t 30), []⟩,
     ⟨1, (some 33), none, .load false 1 (.t 32), []⟩,
     ⟨2, (some 8), none, .mv (.t 33), []⟩])
   (.seq (.region 0 [⟨0, (some 34), none, .mv (.t 5), []⟩,
     ⟨1, (some 35), none, .mv (.t 8), []⟩,
     ⟨2, (some 36), none, .call (.f 14) [(.t 34), (.t 35)], []⟩])
   (.cond (.t 36)
    (.region 0 [⟨0, (some 37), none, .mv (.t 6), []⟩,
      ⟨1, (some 38), none, .bin .add .no (.t 37) (.c (.int .i64 1)), []⟩,
      ⟨2, (some 6), none, .mv (.t 38), []⟩])
    (.skip)))))
  (.region 0 [⟨0, (some 39), none, .bin .add .no (.t 30) (.c (.int .i64 1)), []⟩,
    ⟨1, (some 30), none, .mv (.t 39), []⟩])))

def i5l1 : Cd :=
  .seq (.seq (.region 0 [⟨0, (some 40), none, .mv (.t 10), []⟩,
    ⟨1, (some 41), none, .mv (.t 6), []⟩,
    ⟨2, (some 42), none, .bin .lss .no (.t 40) (.t 41), []⟩])
  (.cond (.t 42)
   (.skip)
   (.exit 2)))
  (.seq (.block 3 (.seq (.region 0 [⟨0, (some 46), none, .mv (.t 5), []⟩,
     ⟨1, (some 47), none, .call (.f 15) [(.t 46)], []⟩,
     ⟨2, (some 45), none, .mv (.t 47), []⟩,
     ⟨3, (some 48), none, .ext 0 (.t 45), []⟩,
     ⟨4, (some 49), none, .ext 1 (.t 45), []⟩,
     ⟨5, (some 11), none, .mv (.t 48), []⟩,
     ⟨6, (some 12), none, .mv (.t 49), []⟩])
   (.seq (.seq (.region 0 [⟨0, (some 50), none, .mv (.t 12), []⟩,
     ⟨1, (some 51), none, .un .not (.t 50), []⟩,
     ⟨2, (some 52), none, .mv (.t 51), []⟩,
     ⟨3, (some 53), (some (52, false)), .mv (.t 11), []⟩,
     ⟨4, (some 54), (some (52, false)), .bin .lss .no (.t 53) (.c (.int .i64 0)), []⟩,
     ⟨5, (some 55), none, .pick (.t 52) (.c (.bool true)) (.t 54), []⟩,
     ⟨6, (some 56), none, .mv (.t 55), []⟩,
     ⟨7, (some 57), (some (56, false)), .mv (.t 11), []⟩,
     ⟨8, (some 58), (some (56, false)), .mv (.t 0), []⟩,
     ⟨9, (some 59), (some (56, false)), .len (.t 58), []⟩,
     ⟨10, (some 60), (some (56, false)), .bin .geq .no (.t 57) (.t 59), []⟩,
     ⟨11, (some 61), none, .pick (.t 56) (.c (.bool true)) (.t 60), []⟩,
     ⟨12, (some 62), none, .mv (.t 61), []⟩,
     ⟨13, (some 63), (some (62, false)), .mv (.t 9), []⟩,
     ⟨14, (some 64), (some (62, false)), .bin .geq .no (.t 63) (.c (.int .i64 0)), []⟩,
     ⟨15, (some 65), (some (62, false)), .mv (.t 64), []⟩,
     ⟨16, (some 66), (some (65, true)), .mv (.t 0), []⟩,
     ⟨17, (some 67), (some (65, true)), .mv (.t 11), []⟩,
     ⟨18, (some 68), (some (65, true)), .iaddr 1 (.t 66) (.t 67), []⟩,
     ⟨19, (some 69), (some (65, true)), .load false 1 (.t 68), []⟩,
     ⟨20, (some 70), (some (65, true)), .mv (.t 0), []⟩,
     ⟨21, (some 71), (some (65, true)), .mv (.t 9), []⟩,
     ⟨22, (some 72), (some (65, true)), .iaddr 1 (.t 70) (.t 71), []⟩,
     ⟨23, (some 73), (some (65, true)), .load false 1 (.t 72), []⟩,
     ⟨24, (some 74), (some (65, true)), .bin .lss .no (.t 69) (.t 73), []⟩,
     ⟨25, (some 75), (some (65, true)), .mv (.t 74), []⟩,
     ⟨26, (some 76), (some (75, false)), .mv (.t 0), []⟩,
     ⟨27, (some 77), (some (75, false)), .mv (.t 11), []⟩,
     ⟨28, (some 78), (some (75, false)), .iaddr 1 (.t 76) (.t 77), []⟩,
     ⟨29, (some 79), (some (75, false)), .load false 1 (.t 78), []⟩,
     ⟨30, (some 80), (some (75, false)), .mv (.t 0), []⟩,
     ⟨31, (some 81), (some (75, false)), .mv (.t 9), []⟩,
     ⟨32, (some 82), (some (75, false)), .iaddr 1 (.t 80) (.t 81), []⟩,
     ⟨33, (some 83), (some (75, false)), .load false 1 (.t 82), []⟩,
     ⟨34, (some 84), (some (75, false)), .bin .eql .no (.t 79) (.t 83), []⟩,
     ⟨35, (some 85), (some (75, false)), .mv (.t 84), []⟩,
     ⟨36, (some 86), (some (85, true)), .mv (.t 11), []⟩,
     ⟨37, (some 87), (some (85, true)), .mv (.t 9), []⟩,
     ⟨38, (some 88), (some (85, true)), .bin .leq .no (.t 86) (.t 87), []⟩,
     ⟨39, (some 89), (some (75, false)), .pick (.t 85) (.t 88) (.c (.bool false)), []⟩,
     ⟨40, (some 90), (some (65, true)), .pick (.t 75) (.c (.bool true)) (.t 89), []⟩,
     ⟨41, (some 91), (some (62, false)), .pick (.t 65) (.t 90) (.c (.bool false)), []⟩,
     ⟨42, (some 92), none, .pick (.t 62) (.c (.bool true)) (.t 91), []⟩])
   (.cond (.t 92)
    (.seq (.region 0 [⟨0, (some 4), none, .mv (.c (.bool false)), []⟩])
    (.ret))
    (.skip)))
   (.region 0 [⟨0, (some 93), none, .mv (.t 11), []⟩,
     ⟨1, (some 9), none, .mv (.t 93), []⟩]))))
  (.region 0 [⟨0, (some 43), none, .mv (.t 10), []⟩,
    ⟨1, (some 44), none, .bin .add .no (.t 43) (.c (.int .i64 1)), []⟩,
    ⟨2, (some 10), none, .mv (.t 44), []⟩]))

/-- burnish/burnishlaw05.WorklistSorted -/
def i5 : FnI := ⟨[.tmp 4],
 .seq (.region 0 [⟨0, (some 4), none, .mv (.c (.bool false)), []⟩])
 (.seq (.seq (.region 0 [⟨0, (some 15), none, .mv (.t 0), []⟩,
   ⟨1, (some 16), none, .len (.t 15), []⟩,
   ⟨2, (some 17), none, .bin .gtr .no (.t 16) (.c (.int .i64 200)), []⟩,
   ⟨3, (some 18), none, .mv (.t 17), []⟩,
   ⟨4, (some 19), (some (18, false)), .mv (.t 1), []⟩,
   ⟨5, (some 20), (some (18, false)), .len (.t 19), []⟩,
   ⟨6, (some 21), (some (18, false)), .bin .gtr .no (.t 20) (.c (.int .i64 200)), []⟩,
   ⟨7, (some 22), none, .pick (.t 18) (.c (.bool true)) (.t 21), []⟩])
 (.cond (.t 22)
  (.seq (.region 0 [⟨0, (some 23), none, .call (.f 8) [], []⟩,
    ⟨1, (some 4), none, .mv (.t 23), []⟩])
  (.ret))
  (.skip)))
 (.seq (.region 0 [⟨0, (some 24), none, .mv (.t 0), []⟩,
   ⟨1, (some 25), none, .call (.f 12) [(.t 24)], []⟩,
   ⟨2, (some 5), none, .mv (.t 25), []⟩])
 (.seq (.seq (.region 0 [⟨0, (some 26), none, .mv (.t 5), []⟩,
   ⟨1, (some 27), none, .bin .eql .ptr (.t 26) (.c (.pointer none)), []⟩])
 (.cond (.t 27)
  (.seq (.region 0 [⟨0, (some 4), none, .mv (.c (.bool false)), []⟩])
  (.ret))
  (.skip)))
 (.seq (.region 0 [⟨0, (some 6), none, .mv (.c (.int .i64 0)), []⟩])
 (.seq (.seq (.region 0 [⟨0, (some 28), none, .mv (.t 1), []⟩,
   ⟨1, (some 29), none, .len (.t 28), []⟩,
   ⟨2, (some 30), none, .mv (.c (.int .i64 0)), []⟩])
 (.block 0 (.loop i5l0)))
 (.seq (.region 0 [⟨0, (some 9), none, .mv (.c (.int .i64 (-1))), []⟩])
 (.seq (.seq (.region 0 [⟨0, (some 10), none, .mv (.c (.int .i64 0)), []⟩])
 (.block 2 (.loop i5l1)))
 (.seq (.region 0 [⟨0, (some 95), none, .mv (.t 5), []⟩,
   ⟨1, (some 96), none, .call (.f 15) [(.t 95)], []⟩,
   ⟨2, (some 94), none, .mv (.t 96), []⟩,
   ⟨3, (some 97), none, .ext 0 (.t 94), []⟩,
   ⟨4, (some 98), none, .ext 1 (.t 94), []⟩,
   ⟨5, (some 13), none, .mv (.t 97), []⟩,
   ⟨6, (some 14), none, .mv (.t 98), []⟩])
 (.seq (.region 0 [⟨0, (some 99), none, .mv (.t 14), []⟩,
   ⟨1, (some 100), none, .un .not (.t 99), []⟩,
   ⟨2, (some 101), none, .mv (.t 100), []⟩,
   ⟨3, (some 102), (some (101, true)), .mv (.t 5), []⟩,
   ⟨4, (some 103), (some (101, true)), .call (.f 16) [(.t 102)], []⟩,
   ⟨5, (some 104), (some (101, true)), .bin .eql .no (.t 103) (.c (.int .i64 0)), []⟩,
   ⟨6, (some 105), none, .pick (.t 101) (.t 104) (.c (.bool false)), []⟩,
   ⟨7, (some 106), none, .mv (.t 105), []⟩,
   ⟨8, (some 107), (some (106, true)), .call (.f 8) [], []⟩,
   ⟨9, (some 108), none, .pick (.t 106) (.t 107) (.c (.bool false)), []⟩,
   ⟨10, (some 4), none, .mv (.t 108), []⟩])
 (.ret))))))))))⟩

def i6l0 : Cd :=
  .seq (.region 0 [⟨0, (some 25), none, .bin .lss .no (.t 24) (.t 23), []⟩])
  (.seq (.cond (.t 25)
   (.skip)
   (.exit 0))
  (.seq (.block 1 (.seq (.region 0 [⟨0, (some 26), none, .iaddr 1 (.t 22) (.t 24), []⟩,
     ⟨1, (some 27), none, .load false 1 (.t 26), []⟩,
     ⟨2, (some 8), none, .mv (.t 27), []⟩])
   (.seq (.region 0 [⟨0, (some 28), none, .mv (.t 5), []⟩,
     ⟨1, (some 29), none, .mv (.t 8), []⟩,
     ⟨2, (some 30), none, .call (.f 14) [(.t 28), (.t 29)], []⟩])
   (.cond (.t 30)
    (.region 2 [⟨0, (some 31), none, .mv (.t 6), []⟩,
      ⟨1, (some 32), none, .mv (.t 8), []⟩,
      ⟨2, (some 33), none, .bslice 0 3 1 1 [(.int .i64 0)] [(0, 1, (.t 32))], []⟩,
      ⟨3, (some 34), none, .append 1 3 1 8 false (.t 31) (.t 33), []⟩,
      ⟨4, (some 6), none, .mv (.t 34), []⟩])
    (.skip)))))
  (.region 0 [⟨0, (some 35), none, .bin .add .no (.t 24) (.c (.int .i64 1)), []⟩,
    ⟨1, (some 24), none, .mv (.t 35), []⟩])))

def i6l1 : Cd :=
  .seq (.region 0 [⟨0, (some 39), none, .bin .lss .no (.t 38) (.t 37), []⟩])
  (.seq (.cond (.t 39)
   (.skip)
   (.exit 2))
  (.seq (.block 3 (.seq (.region 0 [⟨0, (some 40), none, .iaddr 1 (.t 36) (.t 38), []⟩,
     ⟨1, (some 41), none, .load false 1 (.t 40), []⟩,
     ⟨2, (some 10), none, .mv (.t 41), []⟩])
   (.seq (.region 0 [⟨0, (some 43), none, .mv (.t 5), []⟩,
     ⟨1, (some 44), none, .call (.f 15) [(.t 43)], []⟩,
     ⟨2, (some 42), none, .mv (.t 44), []⟩,
     ⟨3, (some 45), none, .ext 0 (.t 42), []⟩,
     ⟨4, (some 46), none, .ext 1 (.t 42), []⟩,
     ⟨5, (some 11), none, .mv (.t 45), []⟩,
     ⟨6, (some 12), none, .mv (.t 46), []⟩])
   (.seq (.region 0 [⟨0, (some 47), none, .mv (.t 12), []⟩,
     ⟨1, (some 48), none, .un .not (.t 47), []⟩,
     ⟨2, (some 49), none, .mv (.t 48), []⟩,
     ⟨3, (some 50), (some (49, false)), .mv (.t 11), []⟩,
     ⟨4, (some 51), (some (49, false)), .mv (.t 10), []⟩,
     ⟨5, (some 52), (some (49, false)), .bin .neq .no (.t 50) (.t 51), []⟩,
     ⟨6, (some 53), none, .pick (.t 49) (.c (.bool true)) (.t 52), []⟩,
     ⟨7, (some 54), none, .mv (.t 53), []⟩,
     ⟨8, (some 55), (some (54, false)), .mv (.t 10), []⟩,
     ⟨9, (some 56), (some (54, false)), .bin .lss .no (.t 55) (.c (.int .i64 0)), []⟩,
     ⟨10, (some 57), none, .pick (.t 54) (.c (.bool true)) (.t 56), []⟩,
     ⟨11, (some 58), none, .mv (.t 57), []⟩,
     ⟨12, (some 59), (some (58, false)), .mv (.t 10), []⟩,
     ⟨13, (some 60), (some (58, false)), .mv (.t 0), []⟩,
     ⟨14, (some 61), (some (58, false)), .conv .i64 (.t 60), []⟩,
     ⟨15, (some 62), (some (58, false)), .bin .geq .no (.t 59) (.t 61), []⟩,
     ⟨16, (some 63), none, .pick (.t 58) (.c (.bool true)) (.t 62), []⟩])
   (.cond (.t 63)
    (.seq (.region 0 [⟨0, (some 4), none, .mv (.c (.bool false)), []⟩])
    (.ret))
    (.skip))))))
  (.region 0 [⟨0, (some 64), none, .bin .add .no (.t 38) (.c (.int .i64 1)), []⟩,
    ⟨1, (some 38), none, .mv (.t 64), []⟩])))

/-- burnish/burnishlaw05.WorklistTurn -/
def i6 : FnI := ⟨[.tmp 4],
 .seq (.region 0 [⟨0, (some 4), none, .mv (.c (.bool false)), []⟩])
 (.seq (.seq (.region 0 [⟨0, (some 13), none, .mv (.t 1), []⟩,
   ⟨1, (some 14), none, .len (.t 13), []⟩,
   ⟨2, (some 15), none, .bin .gtr .no (.t 14) (.c (.int .i64 300)), []⟩])
 (.cond (.t 15)
  (.seq (.region 0 [⟨0, (some 16), none, .call (.f 8) [], []⟩,
    ⟨1, (some 4), none, .mv (.t 16), []⟩])
  (.ret))
  (.skip)))
 (.seq (.region 0 [⟨0, (some 17), none, .mv (.t 0), []⟩,
   ⟨1, (some 18), none, .conv .i64 (.t 17), []⟩,
   ⟨2, (some 19), none, .call (.f 10) [(.t 18)], []⟩,
   ⟨3, (some 5), none, .mv (.t 19), []⟩])
 (.seq (.seq (.region 0 [⟨0, (some 20), none, .mv (.t 5), []⟩,
   ⟨1, (some 21), none, .bin .eql .ptr (.t 20) (.c (.pointer none)), []⟩])
 (.cond (.t 21)
  (.seq (.region 0 [⟨0, (some 4), none, .mv (.c (.bool false)), []⟩])
  (.ret))
  (.skip)))
 (.seq (.region 0 [⟨0, (some 6), none, .mv (.c (.slice none 0 0)), []⟩])
 (.seq (.seq (.region 0 [⟨0, (some 22), none, .mv (.t 1), []⟩,
   ⟨1, (some 23), none, .len (.t 22), []⟩,
   ⟨2, (some 24), none, .mv (.c (.int .i64 0)), []⟩])
 (.block 0 (.loop i6l0)))
 (.seq (.seq (.region 0 [⟨0, (some 36), none, .mv (.t 6), []⟩,
   ⟨1, (some 37), none, .len (.t 36), []⟩,
   ⟨2, (some 38), none, .mv (.c (.int .i64 0)), []⟩])
 (.block 2 (.loop i6l1)))
 (.seq (.region 0 [⟨0, (some 65), none, .mv (.t 5), []⟩,
   ⟨1, (some 66), none, .call (.f 16) [(.t 65)], []⟩,
   ⟨2, (some 67), none, .bin .eql .no (.t 66) (.c (.int .i64 0)), []⟩,
   ⟨3, (some 68), none, .mv (.t 67), []⟩,
   ⟨4, (some 69), (some (68, true)), .call (.f 8) [], []⟩,
   ⟨5, (some 70), none, .pick (.t 68) (.t 69) (.c (.bool false)), []⟩,
   ⟨6, (some 4), none, .mv (.t 70), []⟩])
 (.ret))))))))⟩

def i7l0 : Cd :=
  .seq (.region 0 [⟨0, (some 31), none, .bin .lss .no (.t 30) (.t 29), []⟩])
  (.seq (.cond (.t 31)
   (.skip)
   (.exit 0))
  (.seq (.block 1 (.seq (.region 0 [⟨0, (some 32), none, .mv (.t 30), []⟩,
     ⟨1, (some 7), none, .mv (.t 32), []⟩])
   (.region 0 [⟨0, (some 33), none, .mv (.t 5), []⟩,
     ⟨1, (some 34), none, .mv (.t 7), []⟩,
     ⟨2, (some 35), none, .mv (.t 5), []⟩,
     ⟨3, (some 36), none, .mv (.t 7), []⟩,
     ⟨4, (some 37), none, .iaddr 1 (.t 35) (.t 36), []⟩,
     ⟨5, (some 38), none, .load false 1 (.t 37), []⟩,
     ⟨6, (some 39), none, .un .neg (.t 38), []⟩,
     ⟨7, (some 40), none, .iaddr 1 (.t 33) (.t 34), []⟩,
     ⟨8, none, none, .store 1 (.t 40) (.t 39), []⟩])))
  (.region 0 [⟨0, (some 41), none, .bin .add .no (.t 30) (.c (.int .i64 1)), []⟩,
    ⟨1, (some 30), none, .mv (.t 41), []⟩])))

/-- burnish/burnishlaw05.WorklistOwn -/
def i7 : FnI := ⟨[.tmp 4],
 .seq (.region 0 [⟨0, (some 4), none, .mv (.c (.bool false)), []⟩])
 (.seq (.seq (.region 0 [⟨0, (some 14), none, .mv (.t 0), []⟩,
   ⟨1, (some 15), none, .len (.t 14), []⟩,
   ⟨2, (some 16), none, .bin .gtr .no (.t 15) (.c (.int .i64 100)), []⟩,
   ⟨3, (some 17), none, .mv (.t 16), []⟩,
   ⟨4, (some 18), (some (17, false)), .mv (.t 1), []⟩,
   ⟨5, (some 19), (some (17, false)), .len (.t 18), []⟩,
   ⟨6, (some 20), (some (17, false)), .bin .gtr .no (.t 19) (.c (.int .i64 100)), []⟩,
   ⟨7, (some 21), none, .pick (.t 17) (.c (.bool true)) (.t 20), []⟩])
 (.cond (.t 21)
  (.seq (.region 0 [⟨0, (some 22), none, .call (.f 8) [], []⟩,
    ⟨1, (some 4), none, .mv (.t 22), []⟩])
  (.ret))
  (.skip)))
 (.seq (.region 2 [⟨0, (some 23), none, .bslice 0 3 1 0 [] [], []⟩,
   ⟨1, (some 24), none, .mv (.t 0), []⟩,
   ⟨2, (some 25), none, .append 1 3 1 8 false (.t 23) (.t 24), []⟩,
   ⟨3, (some 5), none, .mv (.t 25), []⟩])
 (.seq (.region 0 [⟨0, (some 26), none, .mv (.t 5), []⟩,
   ⟨1, (some 27), none, .call (.f 12) [(.t 26)], []⟩,
   ⟨2, (some 6), none, .mv (.t 27), []⟩])
 (.seq (.seq (.region 0 [⟨0, (some 28), none, .mv (.t 5), []⟩,
   ⟨1, (some 29), none, .len (.t 28), []⟩,
   ⟨2, (some 30), none, .mv (.c (.int .i64 0)), []⟩])
 (.block 0 (.loop i7l0)))
 (.seq (.region 0 [⟨0, (some 8), none, .mv (.c (.pointer none)), []⟩])
 (.seq (.region 1 [⟨0, (some 42), none, .build [(.bool false), (.slice none 0 0), (.slice none 0 0), .nilFunc] [], []⟩,
   ⟨1, (some 43), none, .box 0 43 (.t 42), []⟩,
   ⟨2, (some 9), none, .mv (.t 43), []⟩])
 (.seq (.region 0 [⟨0, (some 45), none, .mv (.t 8), []⟩,
   ⟨1, (some 46), none, .call (.f 15) [(.t 45)], []⟩,
   ⟨2, (some 44), none, .mv (.t 46), []⟩,
   ⟨3, (some 47), none, .ext 0 (.t 44), []⟩,
   ⟨4, (some 48), none, .ext 1 (.t 44), []⟩,
   ⟨5, (some 10), none, .mv (.t 47), []⟩,
   ⟨6, (some 11), none, .mv (.t 48), []⟩])
 (.seq (.region 0 [⟨0, (some 50), none, .mv (.t 9), []⟩,
   ⟨1, (some 51), none, .call (.f 15) [(.t 50)], []⟩,
   ⟨2, (some 49), none, .mv (.t 51), []⟩,
   ⟨3, (some 52), none, .ext 0 (.t 49), []⟩,
   ⟨4, (some 53), none, .ext 1 (.t 49), []⟩,
   ⟨5, (some 12), none, .mv (.t 52), []⟩,
   ⟨6, (some 13), none, .mv (.t 53), []⟩])
 (.seq (.seq (.region 0 [⟨0, (some 54), none, .mv (.t 11), []⟩,
   ⟨1, (some 55), none, .mv (.t 54), []⟩,
   ⟨2, (some 56), (some (55, false)), .mv (.t 13), []⟩,
   ⟨3, (some 57), none, .pick (.t 55) (.c (.bool true)) (.t 56), []⟩,
   ⟨4, (some 58), none, .mv (.t 57), []⟩,
   ⟨5, (some 59), (some (58, false)), .mv (.t 8), []⟩,
   ⟨6, (some 60), (some (58, false)), .call (.f 14) [(.t 59), (.c (.int .i64 0))], []⟩,
   ⟨7, (some 61), none, .pick (.t 58) (.c (.bool true)) (.t 60), []⟩,
   ⟨8, (some 62), none, .mv (.t 61), []⟩,
   ⟨9, (some 63), (some (62, false)), .mv (.t 9), []⟩,
   ⟨10, (some 64), (some (62, false)), .call (.f 14) [(.t 63), (.c (.int .i64 0))], []⟩,
   ⟨11, (some 65), none, .pick (.t 62) (.c (.bool true)) (.t 64), []⟩,
   ⟨12, (some 66), none, .mv (.t 65), []⟩,
   ⟨13, (some 67), (some (66, false)), .mv (.t 8), []⟩,
   ⟨14, (some 68), (some (66, false)), .call (.f 16) [(.t 67)], []⟩,
   ⟨15, (some 69), (some (66, false)), .mv (.t 9), []⟩,
   ⟨16, (some 70), (some (66, false)), .call (.f 16) [(.t 69)], []⟩,
   ⟨17, (some 71), (some (66, false)), .bin .add .no (.t 68) (.t 70), []⟩,
   ⟨18, (some 72), (some (66, false)), .bin .neq .no (.t 71) (.c (.int .i64 0)), []⟩,
   ⟨19, (some 73), none, .pick (.t 66) (.c (.bool true)) (.t 72), []⟩,
   ⟨20, (some 74), none, .mv (.t 73), []⟩,
   ⟨21, (some 75), (some (74, false)), .mv (.t 8), []⟩,
   ⟨22, (some 76), (some (74, false)), .call (.f 17) [(.t 75), (.c (.int .i64 0))], []⟩,
   ⟨23, (some 77), none, .pick (.t 74) (.c (.bool true)) (.t 76), []⟩,
   ⟨24, (some 78), none, .mv (.t 77), []⟩,
   ⟨25, (some 79), (some (78, false)), .mv (.t 9), []⟩,
   ⟨26, (some 80), (some (78, false)), .call (.f 17) [(.t 79), (.c (.int .i64 0))], []⟩,
   ⟨27, (some 81), none, .pick (.t 78) (.c (.bool true)) (.t 80), []⟩])
 (.cond (.t 81)
  (.seq (.region 0 [⟨0, (some 4), none, .mv (.c (.bool false)), []⟩])
  (.ret))
  (.skip)))
 (.seq (.region 0 [⟨0, (some 82), none, .mv (.t 6), []⟩,
   ⟨1, (some 83), none, .mv (.t 0), []⟩,
   ⟨2, (some 84), none, .call (.f 13) [(.t 83)], []⟩,
   ⟨3, (some 85), none, .mv (.t 1), []⟩,
   ⟨4, (some 86), none, .call (.f 9) [(.t 82), (.t 84), (.t 85)], []⟩,
   ⟨5, (some 87), none, .mv (.t 86), []⟩,
   ⟨6, (some 88), (some (87, true)), .call (.f 8) [], []⟩,
   ⟨7, (some 89), none, .pick (.t 87) (.t 88) (.c (.bool false)), []⟩,
   ⟨8, (some 4), none, .mv (.t 89), []⟩])
 (.ret)))))))))))⟩

def i8l0 : Cd :=
  .seq (.region 0 [⟨0, (some 32), none, .bin .lss .no (.t 31) (.c (.int .i64 3)), []⟩])
  (.seq (.cond (.t 32)
   (.skip)
   (.exit 0))
  (.seq (.block 1 (.seq (.region 0 [⟨0, (some 33), none, .mv (.t 31), []⟩,
     ⟨1, (some 8), none, .mv (.t 33), []⟩])
   (.region 0 [⟨0, (some 34), none, .mv (.t 2), []⟩,
     ⟨1, (some 35), none, .mv (.t 8), []⟩,
     ⟨2, (some 36), none, .call (.f 14) [(.t 34), (.t 35)], []⟩])))
  (.region 0 [⟨0, (some 37), none, .bin .add .no (.t 31) (.c (.int .i64 1)), []⟩,
    ⟨1, (some 31), none, .mv (.t 37), []⟩])))

/-- burnish/burnishlaw05.works -/
def i8 : FnI := ⟨[.tmp 0],
 .seq (.region 0 [⟨0, (some 0), none, .mv (.c (.bool false)), []⟩])
 (.seq (.region 1 [⟨0, (some 11), none, .call (.f 10) [(.c (.int .i64 3))], []⟩,
   ⟨1, (some 12), none, .bslice 0 3 1 3 [(.int .i64 0), (.int .i64 0), (.int .i64 0)] [(0, 1, (.c (.int .i64 5))), (1, 1, (.c (.int .i64 1))), (2, 1, (.c (.int .i64 5)))], []⟩,
   ⟨2, (some 13), none, .call (.f 12) [(.t 12)], []⟩,
   ⟨3, (some 1), none, .mv (.t 11), []⟩,
   ⟨4, (some 2), none, .mv (.t 13), []⟩])
 (.seq (.seq (.region 0 [⟨0, (some 14), none, .mv (.t 1), []⟩,
   ⟨1, (some 15), none, .bin .eql .ptr (.t 14) (.c (.pointer none)), []⟩,
   ⟨2, (some 16), none, .mv (.t 15), []⟩,
   ⟨3, (some 17), (some (16, false)), .mv (.t 2), []⟩,
   ⟨4, (some 18), (some (16, false)), .bin .eql .ptr (.t 17) (.c (.pointer none)), []⟩,
   ⟨5, (some 19), none, .pick (.t 16) (.c (.bool true)) (.t 18), []⟩])
 (.cond (.t 19)
  (.seq (.region 0 [⟨0, (some 0), none, .mv (.c (.bool false)), []⟩])
  (.ret))
  (.skip)))
 (.seq (.region 0 [⟨0, (some 20), none, .mv (.t 1), []⟩,
   ⟨1, (some 21), none, .call (.f 14) [(.t 20), (.c (.int .i64 2))], []⟩,
   ⟨2, (some 22), none, .mv (.t 1), []⟩,
   ⟨3, (some 23), none, .call (.f 14) [(.t 22), (.c (.int .i64 0))], []⟩,
   ⟨4, (some 24), none, .mv (.t 1), []⟩,
   ⟨5, (some 25), none, .call (.f 14) [(.t 24), (.c (.int .i64 2))], []⟩,
   ⟨6, (some 3), none, .mv (.t 21), []⟩,
   ⟨7, (some 4), none, .mv (.t 23), []⟩,
   ⟨8, (some 5), none, .mv (.t 25), []⟩])
 (.seq (.region 0 [⟨0, (some 27), none, .mv (.t 1), []⟩,
   ⟨1, (some 28), none, .call (.f 15) [(.t 27)], []⟩,
   ⟨2, (some 26), none, .mv (.t 28), []⟩,
   ⟨3, (some 29), none, .ext 0 (.t 26), []⟩,
   ⟨4, (some 30), none, .ext 1 (.t 26), []⟩,
   ⟨5, (some 6), none, .mv (.t 29), []⟩,
   ⟨6, (some 7), none, .mv (.t 30), []⟩])
 (.seq (.seq (.region 0 [⟨0, (some 31), none, .mv (.c (.int .i64 0)), []⟩])
 (.block 0 (.loop i8l0)))
 (.seq (.region 0 [⟨0, (some 39), none, .mv (.t 2), []⟩,
   ⟨1, (some 40), none, .call (.f 15) [(.t 39)], []⟩,
   ⟨2, (some 38), none, .mv (.t 40), []⟩,
   ⟨3, (some 41), none, .ext 0 (.t 38), []⟩,
   ⟨4, (some 42), none, .ext 1 (.t 38), []⟩,
   ⟨5, (some 9), none, .mv (.t 41), []⟩,
   ⟨6, (some 10), none, .mv (.t 42), []⟩])
 (.seq (.region 0 [⟨0, (some 43), none, .mv (.t 3), []⟩,
   ⟨1, (some 44), none, .mv (.t 43), []⟩,
   ⟨2, (some 45), (some (44, true)), .mv (.t 4), []⟩,
   ⟨3, (some 46), none, .pick (.t 44) (.t 45) (.c (.bool false)), []⟩,
   ⟨4, (some 47), none, .mv (.t 46), []⟩,
   ⟨5, (some 48), (some (47, true)), .mv (.t 5), []⟩,
   ⟨6, (some 49), (some (47, true)), .un .not (.t 48), []⟩,
   ⟨7, (some 50), none, .pick (.t 47) (.t 49) (.c (.bool false)), []⟩,
   ⟨8, (some 51), none, .mv (.t 50), []⟩,
   ⟨9, (some 52), (some (51, true)), .mv (.t 7), []⟩,
   ⟨10, (some 53), none, .pick (.t 51) (.t 52) (.c (.bool false)), []⟩,
   ⟨11, (some 54), none, .mv (.t 53), []⟩,
   ⟨12, (some 55), (some (54, true)), .mv (.t 10), []⟩,
   ⟨13, (some 56), none, .pick (.t 54) (.t 55) (.c (.bool false)), []⟩,
   ⟨14, (some 57), none, .mv (.t 56), []⟩,
   ⟨15, (some 58), (some (57, true)), .mv (.t 6), []⟩,
   ⟨16, (some 59), (some (57, true)), .bin .eql .no (.t 58) (.c (.int .i64 2)), []⟩,
   ⟨17, (some 60), none, .pick (.t 57) (.t 59) (.c (.bool false)), []⟩,
   ⟨18, (some 61), none, .mv (.t 60), []⟩,
   ⟨19, (some 62), (some (61, true)), .mv (.t 9), []⟩,
   ⟨20, (some 63), (some (61, true)), .bin .eql .no (.t 62) (.c (.int .i64 1)), []⟩,
   ⟨21, (some 64), none, .pick (.t 61) (.t 63) (.c (.bool false)), []⟩,
   ⟨22, (some 65), none, .mv (.t 64), []⟩,
   ⟨23, (some 66), (some (65, true)), .mv (.t 1), []⟩,
   ⟨24, (some 67), (some (65, true)), .call (.f 16) [(.t 66)], []⟩,
   ⟨25, (some 68), (some (65, true)), .bin .eql .no (.t 67) (.c (.int .i64 1)), []⟩,
   ⟨26, (some 69), none, .pick (.t 65) (.t 68) (.c (.bool false)), []⟩,
   ⟨27, (some 70), none, .mv (.t 69), []⟩,
   ⟨28, (some 71), (some (70, true)), .mv (.t 1), []⟩,
   ⟨29, (some 72), (some (70, true)), .call (.f 17) [(.t 71), (.c (.int .i64 0))], []⟩,
   ⟨30, (some 73), none, .pick (.t 70) (.t 72) (.c (.bool false)), []⟩,
   ⟨31, (some 74), none, .mv (.t 73), []⟩,
   ⟨32, (some 75), (some (74, true)), .mv (.t 1), []⟩,
   ⟨33, (some 76), (some (74, true)), .call (.f 17) [(.t 75), (.c (.int .i64 2))], []⟩,
   ⟨34, (some 77), (some (74, true)), .un .not (.t 76), []⟩,
   ⟨35, (some 78), none, .pick (.t 74) (.t 77) (.c (.bool false)), []⟩,
   ⟨36, (some 0), none, .mv (.t 78), []⟩])
 (.ret))))))))⟩

def i9l0 : Cd :=
  .seq (.region 0 [⟨0, (some 18), none, .bin .lss .no (.t 17) (.t 16), []⟩])
  (.seq (.cond (.t 18)
   (.skip)
   (.exit 0))
  (.seq (.block 1 (.seq (.region 1 [⟨0, (some 19), none, .iaddr 2 (.t 15) (.t 17), []⟩,
     ⟨1, (some 20), none, .load true 2 (.t 19), []⟩,
     ⟨2, (some 8), none, .alloc 0 45 [(.int .i64 0), (.int .i64 0)], []⟩,
     ⟨3, none, none, .store 2 (.t 8) (.t 20), []⟩])
   (.seq (.seq (.region 0 [⟨0, (some 21), none, .faddr 0 (.t 8), []⟩,
     ⟨1, (some 22), none, .load false 1 (.t 21), []⟩,
     ⟨2, (some 23), none, .bin .eql .no (.t 22) (.c (.int .i64 0)), []⟩])
   (.cond (.t 23)
    (.seq (.region 0 [⟨0, (some 25), none, .mv (.t 0), []⟩,
      ⟨1, (some 26), none, .call (.f 15) [(.t 25)], []⟩,
      ⟨2, (some 24), none, .mv (.t 26), []⟩,
      ⟨3, (some 27), none, .ext 0 (.t 24), []⟩,
      ⟨4, (some 28), none, .ext 1 (.t 24), []⟩,
      ⟨5, (some 9), none, .mv (.t 27), []⟩,
      ⟨6, (some 10), none, .mv (.t 28), []⟩])
    (.seq (.region 0 [⟨0, (some 30), none, .mv (.t 1), []⟩,
      ⟨1, (some 31), none, .call (.f 18) [(.t 30)], []⟩,
      ⟨2, (some 29), none, .mv (.t 31), []⟩,
      ⟨3, (some 32), none, .ext 0 (.t 29), []⟩,
      ⟨4, (some 33), none, .ext 1 (.t 29), []⟩,
      ⟨5, (some 11), none, .mv (.t 32), []⟩,
      ⟨6, (some 12), none, .mv (.t 33), []⟩])
    (.seq (.region 0 [⟨0, (some 34), none, .mv (.t 9), []⟩,
      ⟨1, (some 35), none, .mv (.t 11), []⟩,
      ⟨2, (some 36), none, .bin .neq .no (.t 34) (.t 35), []⟩,
      ⟨3, (some 37), none, .mv (.t 36), []⟩,
      ⟨4, (some 38), (some (37, false)), .mv (.t 10), []⟩,
      ⟨5, (some 39), (some (37, false)), .mv (.t 12), []⟩,
      ⟨6, (some 40), (some (37, false)), .bin .neq .leaf (.t 38) (.t 39), []⟩,
      ⟨7, (some 41), none, .pick (.t 37) (.c (.bool true)) (.t 40), []⟩])
    (.cond (.t 41)
     (.seq (.region 0 [⟨0, (some 6), none, .mv (.c (.bool false)), []⟩])
     (.ret))
     (.skip)))))
    (.seq (.region 0 [⟨0, (some 42), none, .mv (.t 0), []⟩,
      ⟨1, (some 43), none, .faddr 1 (.t 8), []⟩,
      ⟨2, (some 44), none, .load false 1 (.t 43), []⟩,
      ⟨3, (some 45), none, .call (.f 14) [(.t 42), (.t 44)], []⟩,
      ⟨4, (some 46), none, .mv (.t 1), []⟩,
      ⟨5, (some 47), none, .faddr 1 (.t 8), []⟩,
      ⟨6, (some 48), none, .load false 1 (.t 47), [3]⟩,
      ⟨7, (some 49), none, .call (.f 19) [(.t 46), (.t 48)], []⟩,
      ⟨8, (some 50), none, .bin .neq .leaf (.t 45) (.t 49), []⟩])
    (.cond (.t 50)
     (.seq (.region 0 [⟨0, (some 6), none, .mv (.c (.bool false)), []⟩])
     (.ret))
     (.skip)))))
   (.seq (.region 0 [⟨0, (some 51), none, .mv (.t 0), []⟩,
     ⟨1, (some 52), none, .call (.f 16) [(.t 51)], []⟩,
     ⟨2, (some 53), none, .mv (.t 1), []⟩,
     ⟨3, (some 54), none, .call (.f 20) [(.t 53)], []⟩,
     ⟨4, (some 55), none, .bin .neq .no (.t 52) (.t 54), []⟩,
     ⟨5, (some 56), none, .mv (.t 55), []⟩,
     ⟨6, (some 57), (some (56, false)), .mv (.t 0), []⟩,
     ⟨7, (some 58), (some (56, false)), .faddr 1 (.t 8), []⟩,
     ⟨8, (some 59), (some (56, false)), .load false 1 (.t 58), []⟩,
     ⟨9, (some 60), (some (56, false)), .call (.f 17) [(.t 57), (.t 59)], []⟩,
     ⟨10, (some 61), (some (56, false)), .mv (.t 1), []⟩,
     ⟨11, (some 62), (some (56, false)), .faddr 1 (.t 8), []⟩,
     ⟨12, (some 63), (some (56, false)), .load false 1 (.t 62), [9]⟩,
     ⟨13, (some 64), (some (56, false)), .call (.f 21) [(.t 61), (.t 63)], []⟩,
     ⟨14, (some 65), (some (56, false)), .bin .neq .leaf (.t 60) (.t 64), []⟩,
     ⟨15, (some 66), none, .pick (.t 56) (.c (.bool true)) (.t 65), []⟩])
   (.cond (.t 66)
    (.seq (.region 0 [⟨0, (some 6), none, .mv (.c (.bool false)), []⟩])
    (.ret))
    (.skip))))))
  (.region 0 [⟨0, (some 67), none, .bin .add .no (.t 17) (.c (.int .i64 1)), []⟩,
    ⟨1, (some 17), none, .mv (.t 67), []⟩])))

/-- burnish/burnishlaw05.play -/
def i9 : FnI := ⟨[.tmp 6],
 .seq (.region 0 [⟨0, (some 6), none, .mv (.c (.bool false)), []⟩])
 (.seq (.seq (.region 0 [⟨0, (some 13), none, .mv (.t 0), []⟩,
   ⟨1, (some 14), none, .bin .eql .ptr (.t 13) (.c (.pointer none)), []⟩])
 (.cond (.t 14)
  (.seq (.region 0 [⟨0, (some 6), none, .mv (.c (.bool false)), []⟩])
  (.ret))
  (.skip)))
 (.seq (.seq (.region 0 [⟨0, (some 15), none, .mv (.t 2), []⟩,
   ⟨1, (some 16), none, .len (.t 15), []⟩,
   ⟨2, (some 17), none, .mv (.c (.int .i64 0)), []⟩])
 (.block 0 (.loop i9l0)))
 (.seq (.region 0 [⟨0, (some 6), none, .mv (.c (.bool true)), []⟩])
 (.ret))))⟩

/-- burnish/worklist.New -/
def i10 : FnI := ⟨[.tmp 2],
 .seq (.region 0 [⟨0, (some 2), none, .mv (.c (.pointer none)), []⟩])
 (.seq (.region 0 [⟨0, (some 3), none, .mv (.t 0), []⟩,
   ⟨1, (some 4), none, .call (.f 22) [(.t 3)], []⟩,
   ⟨2, (some 2), none, .mv (.t 4), []⟩])
 (.ret))⟩

/-- burnish/burnishref05.New -/
def i11 : FnI := ⟨[.tmp 2],
 .seq (.region 0 [⟨0, (some 2), none, .mv (.c (.pointer none)), []⟩])
 (.seq (.region 1 [⟨0, (some 3), none, .mv (.t 0), []⟩,
   ⟨1, (some 4), none, .call (.f 23) [(.t 3)], []⟩,
   ⟨2, (some 5), none, .build [(.bool false), (.bool false), (.int .i64 0), (.slice none 0 0), (.slice none 0 0)] [(0, 1, (.c (.bool true))), (2, 1, (.t 4))], []⟩,
   ⟨3, (some 6), none, .box 0 48 (.t 5), []⟩,
   ⟨4, (some 2), none, .mv (.t 6), []⟩])
 (.ret))⟩

/-- burnish/worklist.NewByRank -/
def i12 : FnI := ⟨[.tmp 2],
 .seq (.region 0 [⟨0, (some 2), none, .mv (.c (.pointer none)), []⟩])
 (.seq (.region 0 [⟨0, (some 5), none, .mv (.t 0), []⟩,
   ⟨1, (some 6), none, .len (.t 5), []⟩,
   ⟨2, (some 7), none, .call (.f 22) [(.t 6)], []⟩,
   ⟨3, (some 3), none, .mv (.t 7), []⟩])
 (.seq (.region 3 [⟨1, (some 9), none, .mv (.t 0), []⟩,
   ⟨2, (some 10), none, .mv (.t 3), []⟩,
   ⟨3, (some 11), none, .nilchk (.t 10), []⟩,
   ⟨4, (some 12), none, .faddr 1 (.t 11), []⟩,
   ⟨5, (some 13), none, .load false 1 (.t 12), []⟩,
   ⟨6, (some 14), none, .len (.t 13), []⟩,
   ⟨7, (some 15), none, .mv (.t 3), []⟩,
   ⟨8, (some 16), none, .nilchk (.t 15), []⟩,
   ⟨9, (some 17), none, .faddr 1 (.t 16), []⟩,
   ⟨10, (some 18), none, .load false 1 (.t 17), []⟩,
   ⟨11, (some 19), none, .len (.t 18), []⟩,
   ⟨12, (some 20), none, .slice 1 (.t 9) none (some (.t 14)) (some (.t 19)), []⟩,
   ⟨0, (some 8), none, .bslice 0 3 1 0 [] [], []⟩,
   ⟨13, (some 21), none, .append 1 3 1 8 true (.t 8) (.t 20), []⟩,
   ⟨14, (some 4), none, .alloc 2 30 [(.slice none 0 0)], []⟩,
   ⟨15, none, none, .store 1 (.t 4) (.t 21), []⟩])
 (.seq (.region 0 [⟨0, (some 22), none, .mv (.t 3), []⟩,
   ⟨1, (some 23), none, .mkfn (.func 24) [] [(.t 4)], []⟩,
   ⟨2, (some 24), none, .nilchk (.t 22), []⟩,
   ⟨3, (some 25), none, .faddr 3 (.t 24), []⟩,
   ⟨4, none, none, .store 1 (.t 25) (.t 23), []⟩])
 (.seq (.region 0 [⟨0, (some 26), none, .mv (.t 3), []⟩,
   ⟨1, (some 2), none, .mv (.t 26), []⟩])
 (.ret)))))⟩

/-- burnish/burnishref05.NewByRank -/
def i13 : FnI := ⟨[.tmp 2],
 .seq (.region 0 [⟨0, (some 2), none, .mv (.c (.pointer none)), []⟩])
 (.seq (.region 3 [⟨0, (some 3), none, .mv (.t 0), []⟩,
   ⟨1, (some 4), none, .len (.t 3), []⟩,
   ⟨2, (some 5), none, .call (.f 23) [(.t 4)], []⟩,
   ⟨3, (some 6), none, .bslice 0 3 1 0 [] [], []⟩,
   ⟨4, (some 7), none, .mv (.t 0), []⟩,
   ⟨5, (some 8), none, .append 1 3 1 8 false (.t 6) (.t 7), []⟩,
   ⟨6, (some 9), none, .build [(.bool false), (.bool false), (.int .i64 0), (.slice none 0 0), (.slice none 0 0)] [(0, 1, (.c (.bool true))), (1, 1, (.c (.bool true))), (2, 1, (.t 5)), (3, 1, (.t 8))], []⟩,
   ⟨7, (some 10), none, .box 2 48 (.t 9), []⟩,
   ⟨8, (some 2), none, .mv (.t 10), []⟩])
 (.ret))⟩

/-- (*burnish/worklist.Queue).Push -/
def i14 : FnI := ⟨[.tmp 4],
 .seq (.region 0 [⟨0, (some 4), none, .mv (.c (.bool false)), []⟩])
 (.seq (.seq (.region 0 [⟨0, (some 5), none, .mv (.t 0), []⟩,
   ⟨1, (some 6), none, .call (.f 25) [(.t 5)], []⟩,
   ⟨2, (some 7), none, .un .not (.t 6), []⟩,
   ⟨3, (some 8), none, .mv (.t 7), []⟩,
   ⟨4, (some 9), (some (8, false)), .mv (.t 1), []⟩,
   ⟨5, (some 10), (some (8, false)), .bin .lss .no (.t 9) (.c (.int .i64 0)), []⟩,
   ⟨6, (some 11), none, .pick (.t 8) (.c (.bool true)) (.t 10), []⟩,
   ⟨7, (some 12), none, .mv (.t 11), []⟩,
   ⟨8, (some 13), (some (12, false)), .mv (.t 1), []⟩,
   ⟨9, (some 14), (some (12, false)), .mv (.t 0), []⟩,
   ⟨10, (some 15), (some (12, false)), .nilchk (.t 14), []⟩,
   ⟨11, (some 16), (some (12, false)), .faddr 1 (.t 15), []⟩,
   ⟨12, (some 17), (some (12, false)), .load false 1 (.t 16), []⟩,
   ⟨13, (some 18), (some (12, false)), .len (.t 17), []⟩,
   ⟨14, (some 19), (some (12, false)), .bin .geq .no (.t 13) (.t 18), []⟩,
   ⟨15, (some 20), none, .pick (.t 12) (.c (.bool true)) (.t 19), []⟩,
   ⟨16, (some 21), none, .mv (.t 20), []⟩,
   ⟨17, (some 22), (some (21, false)), .mv (.t 0), []⟩,
   ⟨18, (some 23), (some (21, false)), .nilchk (.t 22), []⟩,
   ⟨19, (some 24), (some (21, false)), .faddr 1 (.t 23), []⟩,
   ⟨20, (some 25), (some (21, false)), .load false 1 (.t 24), []⟩,
   ⟨21, (some 26), (some (21, false)), .mv (.t 1), []⟩,
   ⟨22, (some 27), (some (21, false)), .iaddr 1 (.t 25) (.t 26), []⟩,
   ⟨23, (some 28), (some (21, false)), .load false 1 (.t 27), []⟩,
   ⟨24, (some 29), none, .pick (.t 21) (.c (.bool true)) (.t 28), []⟩])
 (.cond (.t 29)
  (.seq (.region 0 [⟨0, (some 4), none, .mv (.c (.bool false)), []⟩])
  (.ret))
  (.skip)))
 (.seq (.region 0 [⟨0, (some 30), none, .mv (.t 0), []⟩,
   ⟨1, (some 31), none, .nilchk (.t 30), []⟩,
   ⟨2, (some 32), none, .faddr 1 (.t 31), []⟩,
   ⟨3, (some 33), none, .load false 1 (.t 32), []⟩,
   ⟨4, (some 34), none, .mv (.t 1), []⟩,
   ⟨5, (some 35), none, .iaddr 1 (.t 33) (.t 34), []⟩,
   ⟨6, none, none, .store 1 (.t 35) (.c (.bool true)), []⟩])
 (.seq (.region 2 [⟨0, (some 36), none, .mv (.t 0), []⟩,
   ⟨1, (some 37), none, .mv (.t 0), []⟩,
   ⟨2, (some 38), none, .nilchk (.t 37), []⟩,
   ⟨3, (some 39), none, .faddr 2 (.t 38), []⟩,
   ⟨4, (some 40), none, .load false 1 (.t 39), []⟩,
   ⟨5, (some 41), none, .mv (.t 1), []⟩,
   ⟨6, (some 42), none, .bslice 0 3 1 1 [(.int .i64 0)] [(0, 1, (.t 41))], []⟩,
   ⟨7, (some 43), none, .append 1 3 1 8 false (.t 40) (.t 42), []⟩,
   ⟨8, (some 44), none, .nilchk (.t 36), []⟩,
   ⟨9, (some 45), none, .faddr 2 (.t 44), []⟩,
   ⟨10, none, none, .store 1 (.t 45) (.t 43), []⟩])
 (.seq (.seq (.region 0 [⟨0, (some 46), none, .mv (.t 0), []⟩,
   ⟨1, (some 47), none, .nilchk (.t 46), []⟩,
   ⟨2, (some 48), none, .faddr 3 (.t 47), []⟩,
   ⟨3, (some 49), none, .load false 1 (.t 48), []⟩,
   ⟨4, (some 50), none, .bin .neq .fnc (.t 49) (.c .nilFunc), []⟩])
 (.cond (.t 50)
  (.region 0 [⟨0, (some 51), none, .mv (.t 0), []⟩,
    ⟨1, (some 52), none, .mv (.t 0), []⟩,
    ⟨2, (some 53), none, .nilchk (.t 52), []⟩,
    ⟨3, (some 54), none, .faddr 2 (.t 53), []⟩,
    ⟨4, (some 55), none, .load false 1 (.t 54), []⟩,
    ⟨5, (some 56), none, .len (.t 55), []⟩,
    ⟨6, (some 57), none, .bin .sub .no (.t 56) (.c (.int .i64 1)), []⟩,
    ⟨7, (some 58), none, .call (.f 26) [(.t 51), (.t 57)], []⟩])
  (.skip)))
 (.seq (.region 0 [⟨0, (some 4), none, .mv (.c (.bool true)), []⟩])
 (.ret))))))⟩

/-- (*burnish/worklist.Queue).Pop -/
def i15 : FnI := ⟨[.tmp 2, .tmp 3],
 .seq (.region 0 [⟨0, (some 2), none, .mv (.c (.int .i64 0)), []⟩,
   ⟨1, (some 3), none, .mv (.c (.bool false)), []⟩])
 (.seq (.seq (.region 0 [⟨0, (some 6), none, .mv (.t 0), []⟩,
   ⟨1, (some 7), none, .call (.f 16) [(.t 6)], []⟩,
   ⟨2, (some 8), none, .bin .eql .no (.t 7) (.c (.int .i64 0)), []⟩])
 (.cond (.t 8)
  (.seq (.region 0 [⟨0, (some 2), none, .mv (.c (.int .i64 0)), []⟩,
    ⟨1, (some 3), none, .mv (.c (.bool false)), []⟩])
  (.ret))
  (.skip)))
 (.seq (.region 0 [⟨0, (some 9), none, .mv (.t 0), []⟩,
   ⟨1, (some 10), none, .nilchk (.t 9), []⟩,
   ⟨2, (some 11), none, .faddr 2 (.t 10), []⟩,
   ⟨3, (some 12), none, .load false 1 (.t 11), []⟩,
   ⟨4, (some 13), none, .iaddr 1 (.t 12) (.c (.int .i64 0)), []⟩,
   ⟨5, (some 14), none, .load false 1 (.t 13), []⟩,
   ⟨6, (some 4), none, .mv (.t 14), []⟩])
 (.seq (.region 0 [⟨0, (some 15), none, .mv (.t 0), []⟩,
   ⟨1, (some 16), none, .nilchk (.t 15), []⟩,
   ⟨2, (some 17), none, .faddr 1 (.t 16), []⟩,
   ⟨3, (some 18), none, .load false 1 (.t 17), []⟩,
   ⟨4, (some 19), none, .mv (.t 4), []⟩,
   ⟨5, (some 20), none, .iaddr 1 (.t 18) (.t 19), []⟩,
   ⟨6, none, none, .store 1 (.t 20) (.c (.bool false)), []⟩])
 (.seq (.seq (.region 0 [⟨0, (some 21), none, .mv (.t 0), []⟩,
   ⟨1, (some 22), none, .nilchk (.t 21), []⟩,
   ⟨2, (some 23), none, .faddr 3 (.t 22), []⟩,
   ⟨3, (some 24), none, .load false 1 (.t 23), []⟩,
   ⟨4, (some 25), none, .bin .eql .fnc (.t 24) (.c .nilFunc), []⟩])
 (.cond (.t 25)
  (.seq (.region 0 [⟨0, (some 26), none, .mv (.t 0), []⟩,
    ⟨1, (some 27), none, .mv (.t 0), []⟩,
    ⟨2, (some 28), none, .nilchk (.t 27), []⟩,
    ⟨3, (some 29), none, .faddr 2 (.t 28), []⟩,
    ⟨4, (some 30), none, .load false 1 (.t 29), []⟩,
    ⟨5, (some 31), none, .mv (.t 0), []⟩,
    ⟨6, (some 32), none, .nilchk (.t 31), []⟩,
    ⟨7, (some 33), none, .faddr 2 (.t 32), []⟩,
    ⟨8, (some 34), none, .load false 1 (.t 33), []⟩,
    ⟨9, (some 35), none, .len (.t 34), []⟩,
    ⟨10, (some 36), none, .mv (.t 0), []⟩,
    ⟨11, (some 37), none, .nilchk (.t 36), []⟩,
    ⟨12, (some 38), none, .faddr 2 (.t 37), []⟩,
    ⟨13, (some 39), none, .load false 1 (.t 38), []⟩,
    ⟨14, (some 40), none, .len (.t 39), []⟩,
    ⟨15, (some 41), none, .slice 1 (.t 30) (some (.c (.int .i64 1))) (some (.t 35)) (some (.t 40)), []⟩,
    ⟨16, (some 42), none, .nilchk (.t 26), []⟩,
    ⟨17, (some 43), none, .faddr 2 (.t 42), []⟩,
    ⟨18, none, none, .store 1 (.t 43) (.t 41), []⟩])
  (.seq (.region 0 [⟨0, (some 44), none, .mv (.t 4), []⟩,
    ⟨1, (some 2), none, .mv (.t 44), []⟩,
    ⟨2, (some 3), none, .mv (.c (.bool true)), []⟩])
  (.ret)))
  (.skip)))
 (.seq (.region 0 [⟨0, (some 45), none, .mv (.t 0), []⟩,
   ⟨1, (some 46), none, .nilchk (.t 45), []⟩,
   ⟨2, (some 47), none, .faddr 2 (.t 46), []⟩,
   ⟨3, (some 48), none, .load false 1 (.t 47), []⟩,
   ⟨4, (some 49), none, .len (.t 48), []⟩,
   ⟨5, (some 50), none, .bin .sub .no (.t 49) (.c (.int .i64 1)), []⟩,
   ⟨6, (some 5), none, .mv (.t 50), []⟩])
 (.seq (.region 0 [⟨0, (some 51), none, .mv (.t 0), []⟩,
   ⟨1, (some 52), none, .mv (.t 5), []⟩,
   ⟨2, (some 53), none, .call (.f 27) [(.t 51), (.c (.int .i64 0)), (.t 52)], []⟩])
 (.seq (.region 0 [⟨0, (some 54), none, .mv (.t 0), []⟩,
   ⟨1, (some 55), none, .mv (.t 0), []⟩,
   ⟨2, (some 56), none, .nilchk (.t 55), []⟩,
   ⟨3, (some 57), none, .faddr 2 (.t 56), []⟩,
   ⟨4, (some 58), none, .load false 1 (.t 57), []⟩,
   ⟨5, (some 59), none, .mv (.t 5), []⟩,
   ⟨6, (some 60), none, .slice 1 (.t 58) none (some (.t 59)) none, []⟩,
   ⟨7, (some 61), none, .nilchk (.t 54), []⟩,
   ⟨8, (some 62), none, .faddr 2 (.t 61), []⟩,
   ⟨9, none, none, .store 1 (.t 62) (.t 60), []⟩])
 (.seq (.region 0 [⟨0, (some 63), none, .mv (.t 0), []⟩,
   ⟨1, (some 64), none, .call (.f 28) [(.t 63), (.c (.int .i64 0))], []⟩])
 (.seq (.region 0 [⟨0, (some 65), none, .mv (.t 4), []⟩,
   ⟨1, (some 2), none, .mv (.t 65), []⟩,
   ⟨2, (some 3), none, .mv (.c (.bool true)), []⟩])
 (.ret))))))))))⟩

/-- (*burnish/worklist.Queue).Len -/
def i16 : FnI := ⟨[.tmp 2],
 .seq (.region 0 [⟨0, (some 2), none, .mv (.c (.int .i64 0)), []⟩])
 (.seq (.seq (.region 0 [⟨0, (some 3), none, .mv (.t 0), []⟩,
   ⟨1, (some 4), none, .call (.f 25) [(.t 3)], []⟩,
   ⟨2, (some 5), none, .un .not (.t 4), []⟩])
 (.cond (.t 5)
  (.seq (.region 0 [⟨0, (some 2), none, .mv (.c (.int .i64 0)), []⟩])
  (.ret))
  (.skip)))
 (.seq (.region 0 [⟨0, (some 6), none, .mv (.t 0), []⟩,
   ⟨1, (some 7), none, .nilchk (.t 6), []⟩,
   ⟨2, (some 8), none, .faddr 2 (.t 7), []⟩,
   ⟨3, (some 9), none, .load false 1 (.t 8), []⟩,
   ⟨4, (some 10), none, .len (.t 9), []⟩,
   ⟨5, (some 2), none, .mv (.t 10), []⟩])
 (.ret)))⟩

/-- (*burnish/worklist.Queue).Has -/
def i17 : FnI := ⟨[.tmp 4],
 .seq (.region 0 [⟨0, (some 4), none, .mv (.c (.bool false)), []⟩])
 (.seq (.region 0 [⟨0, (some 5), none, .mv (.t 0), []⟩,
   ⟨1, (some 6), none, .call (.f 25) [(.t 5)], []⟩,
   ⟨2, (some 7), none, .mv (.t 6), []⟩,
   ⟨3, (some 8), (some (7, true)), .mv (.t 1), []⟩,
   ⟨4, (some 9), (some (7, true)), .bin .geq .no (.t 8) (.c (.int .i64 0)), []⟩,
   ⟨5, (some 10), none, .pick (.t 7) (.t 9) (.c (.bool false)), []⟩,
   ⟨6, (some 11), none, .mv (.t 10), []⟩,
   ⟨7, (some 12), (some (11, true)), .mv (.t 1), []⟩,
   ⟨8, (some 13), (some (11, true)), .mv (.t 0), []⟩,
   ⟨9, (some 14), (some (11, true)), .nilchk (.t 13), []⟩,
   ⟨10, (some 15), (some (11, true)), .faddr 1 (.t 14), []⟩,
   ⟨11, (some 16), (some (11, true)), .load false 1 (.t 15), []⟩,
   ⟨12, (some 17), (some (11, true)), .len (.t 16), []⟩,
   ⟨13, (some 18), (some (11, true)), .bin .lss .no (.t 12) (.t 17), []⟩,
   ⟨14, (some 19), none, .pick (.t 11) (.t 18) (.c (.bool false)), []⟩,
   ⟨15, (some 20), none, .mv (.t 19), []⟩,
   ⟨16, (some 21), (some (20, true)), .mv (.t 0), []⟩,
   ⟨17, (some 22), (some (20, true)), .nilchk (.t 21), []⟩,
   ⟨18, (some 23), (some (20, true)), .faddr 1 (.t 22), []⟩,
   ⟨19, (some 24), (some (20, true)), .load false 1 (.t 23), []⟩,
   ⟨20, (some 25), (some (20, true)), .mv (.t 1), []⟩,
   ⟨21, (some 26), (some (20, true)), .iaddr 1 (.t 24) (.t 25), []⟩,
   ⟨22, (some 27), (some (20, true)), .load false 1 (.t 26), []⟩,
   ⟨23, (some 28), none, .pick (.t 20) (.t 27) (.c (.bool false)), []⟩,
   ⟨24, (some 4), none, .mv (.t 28), []⟩])
 (.ret))⟩

/-- (*burnish/burnishref05.Queue).Pop -/
def i18 : FnI := ⟨[.tmp 2, .tmp 3],
 .seq (.region 0 [⟨0, (some 2), none, .mv (.c (.int .i64 0)), []⟩,
   ⟨1, (some 3), none, .mv (.c (.bool false)), []⟩])
 (.seq (.seq (.region 0 [⟨0, (some 7), none, .mv (.t 0), []⟩,
   ⟨1, (some 8), none, .bin .eql .ptr (.t 7) (.c (.pointer none)), []⟩,
   ⟨2, (some 9), none, .mv (.t 8), []⟩,
   ⟨3, (some 10), (some (9, false)), .mv (.t 0), []⟩,
   ⟨4, (some 11), (some (9, false)), .nilchk (.t 10), []⟩,
   ⟨5, (some 12), (some (9, false)), .faddr 0 (.t 11), []⟩,
   ⟨6, (some 13), (some (9, false)), .load false 1 (.t 12), []⟩,
   ⟨7, (some 14), (some (9, false)), .un .not (.t 13), []⟩,
   ⟨8, (some 15), none, .pick (.t 9) (.c (.bool true)) (.t 14), []⟩,
   ⟨9, (some 16), none, .mv (.t 15), []⟩,
   ⟨10, (some 17), (some (16, false)), .mv (.t 0), []⟩,
   ⟨11, (some 18), (some (16, false)), .nilchk (.t 17), []⟩,
   ⟨12, (some 19), (some (16, false)), .faddr 4 (.t 18), []⟩,
   ⟨13, (some 20), (some (16, false)), .load false 1 (.t 19), []⟩,
   ⟨14, (some 21), (some (16, false)), .len (.t 20), []⟩,
   ⟨15, (some 22), (some (16, false)), .bin .eql .no (.t 21) (.c (.int .i64 0)), []⟩,
   ⟨16, (some 23), none, .pick (.t 16) (.c (.bool true)) (.t 22), []⟩])
 (.cond (.t 23)
  (.seq (.region 0 [⟨0, (some 2), none, .mv (.c (.int .i64 0)), []⟩,
    ⟨1, (some 3), none, .mv (.c (.bool false)), []⟩])
  (.ret))
  (.skip)))
 (.seq (.region 0 [⟨0, (some 24), none, .mv (.t 0), []⟩,
   ⟨1, (some 25), none, .call (.f 29) [(.t 24)], []⟩,
   ⟨2, (some 4), none, .mv (.t 25), []⟩])
 (.seq (.region 0 [⟨0, (some 26), none, .mv (.t 0), []⟩,
   ⟨1, (some 27), none, .nilchk (.t 26), []⟩,
   ⟨2, (some 28), none, .faddr 4 (.t 27), []⟩,
   ⟨3, (some 29), none, .load false 1 (.t 28), []⟩,
   ⟨4, (some 30), none, .mv (.t 4), []⟩,
   ⟨5, (some 31), none, .iaddr 1 (.t 29) (.t 30), []⟩,
   ⟨6, (some 32), none, .load false 1 (.t 31), []⟩,
   ⟨7, (some 5), none, .mv (.t 32), []⟩])
 (.seq (.region 2 [⟨0, (some 33), none, .bslice 0 3 1 0 [] [], []⟩,
   ⟨1, (some 34), none, .mv (.t 0), []⟩,
   ⟨2, (some 35), none, .nilchk (.t 34), []⟩,
   ⟨3, (some 36), none, .faddr 4 (.t 35), []⟩,
   ⟨4, (some 37), none, .load false 1 (.t 36), []⟩,
   ⟨5, (some 38), none, .mv (.t 4), []⟩,
   ⟨6, (some 39), none, .slice 1 (.t 37) none (some (.t 38)) none, []⟩,
   ⟨7, (some 40), none, .append 1 3 1 8 false (.t 33) (.t 39), []⟩,
   ⟨8, (some 6), none, .mv (.t 40), []⟩])
 (.seq (.region 1 [⟨0, (some 41), none, .mv (.t 0), []⟩,
   ⟨1, (some 42), none, .mv (.t 6), []⟩,
   ⟨2, (some 43), none, .mv (.t 0), []⟩,
   ⟨3, (some 44), none, .nilchk (.t 43), []⟩,
   ⟨4, (some 45), none, .faddr 4 (.t 44), []⟩,
   ⟨5, (some 46), none, .load false 1 (.t 45), []⟩,
   ⟨6, (some 47), none, .mv (.t 4), []⟩,
   ⟨7, (some 48), none, .bin .add .no (.t 47) (.c (.int .i64 1)), []⟩,
   ⟨8, (some 49), none, .slice 1 (.t 46) (some (.t 48)) none none, []⟩,
   ⟨9, (some 50), none, .append 0 3 1 8 false (.t 42) (.t 49), []⟩,
   ⟨10, (some 51), none, .nilchk (.t 41), []⟩,
   ⟨11, (some 52), none, .faddr 4 (.t 51), []⟩,
   ⟨12, none, none, .store 1 (.t 52) (.t 50), []⟩])
 (.seq (.region 0 [⟨0, (some 53), none, .mv (.t 5), []⟩,
   ⟨1, (some 2), none, .mv (.t 53), []⟩,
   ⟨2, (some 3), none, .mv (.c (.bool true)), []⟩])
 (.ret)))))))⟩

/-- (*burnish/burnishref05.Queue).Push -/
def i19 : FnI := ⟨[.tmp 4],
 .seq (.region 0 [⟨0, (some 4), none, .mv (.c (.bool false)), []⟩])
 (.seq (.seq (.region 0 [⟨0, (some 5), none, .mv (.t 0), []⟩,
   ⟨1, (some 6), none, .bin .eql .ptr (.t 5) (.c (.pointer none)), []⟩,
   ⟨2, (some 7), none, .mv (.t 6), []⟩,
   ⟨3, (some 8), (some (7, false)), .mv (.t 0), []⟩,
   ⟨4, (some 9), (some (7, false)), .nilchk (.t 8), []⟩,
   ⟨5, (some 10), (some (7, false)), .faddr 0 (.t 9), []⟩,
   ⟨6, (some 11), (some (7, false)), .load false 1 (.t 10), []⟩,
   ⟨7, (some 12), (some (7, false)), .un .not (.t 11), []⟩,
   ⟨8, (some 13), none, .pick (.t 7) (.c (.bool true)) (.t 12), []⟩,
   ⟨9, (some 14), none, .mv (.t 13), []⟩,
   ⟨10, (some 15), (some (14, false)), .mv (.t 1), []⟩,
   ⟨11, (some 16), (some (14, false)), .bin .lss .no (.t 15) (.c (.int .i64 0)), []⟩,
   ⟨12, (some 17), none, .pick (.t 14) (.c (.bool true)) (.t 16), []⟩,
   ⟨13, (some 18), none, .mv (.t 17), []⟩,
   ⟨14, (some 19), (some (18, false)), .mv (.t 1), []⟩,
   ⟨15, (some 20), (some (18, false)), .mv (.t 0), []⟩,
   ⟨16, (some 21), (some (18, false)), .nilchk (.t 20), []⟩,
   ⟨17, (some 22), (some (18, false)), .faddr 2 (.t 21), []⟩,
   ⟨18, (some 23), (some (18, false)), .load false 1 (.t 22), []⟩,
   ⟨19, (some 24), (some (18, false)), .bin .geq .no (.t 19) (.t 23), []⟩,
   ⟨20, (some 25), none, .pick (.t 18) (.c (.bool true)) (.t 24), []⟩,
   ⟨21, (some 26), none, .mv (.t 25), []⟩,
   ⟨22, (some 27), (some (26, false)), .mv (.t 0), []⟩,
   ⟨23, (some 28), (some (26, false)), .mv (.t 1), []⟩,
   ⟨24, (some 29), (some (26, false)), .call (.f 21) [(.t 27), (.t 28)], []⟩,
   ⟨25, (some 30), none, .pick (.t 26) (.c (.bool true)) (.t 29), []⟩])
 (.cond (.t 30)
  (.seq (.region 0 [⟨0, (some 4), none, .mv (.c (.bool false)), []⟩])
  (.ret))
  (.skip)))
 (.seq (.region 2 [⟨0, (some 31), none, .mv (.t 0), []⟩,
   ⟨1, (some 32), none, .mv (.t 0), []⟩,
   ⟨2, (some 33), none, .nilchk (.t 32), []⟩,
   ⟨3, (some 34), none, .faddr 4 (.t 33), []⟩,
   ⟨4, (some 35), none, .load false 1 (.t 34), []⟩,
   ⟨5, (some 36), none, .mv (.t 1), []⟩,
   ⟨6, (some 37), none, .bslice 0 3 1 1 [(.int .i64 0)] [(0, 1, (.t 36))], []⟩,
   ⟨7, (some 38), none, .append 1 3 1 8 false (.t 35) (.t 37), []⟩,
   ⟨8, (some 39), none, .nilchk (.t 31), []⟩,
   ⟨9, (some 40), none, .faddr 4 (.t 39), []⟩,
   ⟨10, none, none, .store 1 (.t 40) (.t 38), []⟩])
 (.seq (.region 0 [⟨0, (some 4), none, .mv (.c (.bool true)), []⟩])
 (.ret))))⟩

/-- (*burnish/burnishref05.Queue).Len -/
def i20 : FnI := ⟨[.tmp 2],
 .seq (.region 0 [⟨0, (some 2), none, .mv (.c (.int .i64 0)), []⟩])
 (.seq (.seq (.region 0 [⟨0, (some 3), none, .mv (.t 0), []⟩,
   ⟨1, (some 4), none, .bin .eql .ptr (.t 3) (.c (.pointer none)), []⟩,
   ⟨2, (some 5), none, .mv (.t 4), []⟩,
   ⟨3, (some 6), (some (5, false)), .mv (.t 0), []⟩,
   ⟨4, (some 7), (some (5, false)), .nilchk (.t 6), []⟩,
   ⟨5, (some 8), (some (5, false)), .faddr 0 (.t 7), []⟩,
   ⟨6, (some 9), (some (5, false)), .load false 1 (.t 8), []⟩,
   ⟨7, (some 10), (some (5, false)), .un .not (.t 9), []⟩,
   ⟨8, (some 11), none, .pick (.t 5) (.c (.bool true)) (.t 10), []⟩])
 (.cond (.t 11)
  (.seq (.region 0 [⟨0, (some 2), none, .mv (.c (.int .i64 0)), []⟩])
  (.ret))
  (.skip)))
 (.seq (.region 0 [⟨0, (some 12), none, .mv (.t 0), []⟩,
   ⟨1, (some 13), none, .nilchk (.t 12), []⟩,
   ⟨2, (some 14), none, .faddr 4 (.t 13), []⟩,
   ⟨3, (some 15), none, .load false 1 (.t 14), []⟩,
   ⟨4, (some 16), none, .len (.t 15), []⟩,
   ⟨5, (some 2), none, .mv (.t 16), []⟩])
 (.ret)))⟩

def i21l0 : Cd :=
  .seq (.region 0 [⟨0, (some 22), none, .bin .lss .no (.t 21) (.t 20), []⟩])
  (.seq (.cond (.t 22)
   (.skip)
   (.exit 0))
  (.seq (.block 1 (.seq (.region 0 [⟨0, (some 23), none, .iaddr 1 (.t 19) (.t 21), []⟩,
     ⟨1, (some 24), none, .load false 1 (.t 23), []⟩,
     ⟨2, (some 6), none, .mv (.t 24), []⟩])
   (.seq (.region 0 [⟨0, (some 25), none, .mv (.t 6), []⟩,
     ⟨1, (some 26), none, .mv (.t 1), []⟩,
     ⟨2, (some 27), none, .bin .eql .no (.t 25) (.t 26), []⟩])
   (.cond (.t 27)
    (.seq (.region 0 [⟨0, (some 4), none, .mv (.c (.bool true)), []⟩])
    (.ret))
    (.skip)))))
  (.region 0 [⟨0, (some 28), none, .bin .add .no (.t 21) (.c (.int .i64 1)), []⟩,
    ⟨1, (some 21), none, .mv (.t 28), []⟩])))

/-- (*burnish/burnishref05.Queue).Has -/
def i21 : FnI := ⟨[.tmp 4],
 .seq (.region 0 [⟨0, (some 4), none, .mv (.c (.bool false)), []⟩])
 (.seq (.seq (.region 0 [⟨0, (some 7), none, .mv (.t 0), []⟩,
   ⟨1, (some 8), none, .bin .eql .ptr (.t 7) (.c (.pointer none)), []⟩,
   ⟨2, (some 9), none, .mv (.t 8), []⟩,
   ⟨3, (some 10), (some (9, false)), .mv (.t 0), []⟩,
   ⟨4, (some 11), (some (9, false)), .nilchk (.t 10), []⟩,
   ⟨5, (some 12), (some (9, false)), .faddr 0 (.t 11), []⟩,
   ⟨6, (some 13), (some (9, false)), .load false 1 (.t 12), []⟩,
   ⟨7, (some 14), (some (9, false)), .un .not (.t 13), []⟩,
   ⟨8, (some 15), none, .pick (.t 9) (.c (.bool true)) (.t 14), []⟩])
 (.cond (.t 15)
  (.seq (.region 0 [⟨0, (some 4), none, .mv (.c (.bool false)), []⟩])
  (.ret))
  (.skip)))
 (.seq (.seq (.region 0 [⟨0, (some 16), none, .mv (.t 0), []⟩,
   ⟨1, (some 17), none, .nilchk (.t 16), []⟩,
   ⟨2, (some 18), none, .faddr 4 (.t 17), []⟩,
   ⟨3, (some 19), none, .load false 1 (.t 18), []⟩,
   ⟨4, (some 20), none, .len (.t 19), []⟩,
   ⟨5, (some 21), none, .mv (.c (.int .i64 0)), []⟩])
 (.block 0 (.loop i21l0)))
 (.seq (.region 0 [⟨0, (some 4), none, .mv (.c (.bool false)), []⟩])
 (.ret))))⟩

/-- burnish/worklist.empty -/
def i22 : FnI := ⟨[.tmp 2],
 .seq (.region 0 [⟨0, (some 2), none, .mv (.c (.pointer none)), []⟩])
 (.seq (.region 2 [⟨0, (some 3), none, .mv (.t 0), []⟩,
   ⟨1, (some 4), none, .minmax true (.t 3) (.c (.int .i64 0)), []⟩,
   ⟨2, (some 5), none, .minmax false (.t 4) (.c (.int .i64 65536)), []⟩,
   ⟨3, (some 6), none, .mkslice 0 4 1 1 [(.bool false)] (.t 5) (.t 5), []⟩,
   ⟨4, (some 7), none, .build [(.bool false), (.slice none 0 0), (.slice none 0 0), .nilFunc] [(0, 1, (.c (.bool true))), (1, 1, (.t 6))], []⟩,
   ⟨5, (some 8), none, .box 1 43 (.t 7), []⟩,
   ⟨6, (some 2), none, .mv (.t 8), []⟩])
 (.ret))⟩

/-- burnish/burnishref05.capacity -/
def i23 : FnI := ⟨[.tmp 2],
 .seq (.region 0 [⟨0, (some 2), none, .mv (.c (.int .i64 0)), []⟩])
 (.seq (.seq (.region 0 [⟨0, (some 3), none, .mv (.t 0), []⟩,
   ⟨1, (some 4), none, .bin .lss .no (.t 3) (.c (.int .i64 0)), []⟩])
 (.cond (.t 4)
  (.seq (.region 0 [⟨0, (some 2), none, .mv (.c (.int .i64 0)), []⟩])
  (.ret))
  (.skip)))
 (.seq (.seq (.region 0 [⟨0, (some 5), none, .mv (.t 0), []⟩,
   ⟨1, (some 6), none, .bin .gtr .no (.t 5) (.c (.int .i64 65536)), []⟩])
 (.cond (.t 6)
  (.seq (.region 0 [⟨0, (some 2), none, .mv (.c (.int .i64 65536)), []⟩])
  (.ret))
  (.skip)))
 (.seq (.region 0 [⟨0, (some 7), none, .mv (.t 0), []⟩,
   ⟨1, (some 2), none, .mv (.t 7), []⟩])
 (.ret))))⟩

/-- burnish/worklist.NewByRank$1 -/
def i24 : FnI := ⟨[.tmp 5],
 .seq (.region 0 [⟨0, (some 5), none, .mv (.c (.bool false)), []⟩])
 (.seq (.region 0 [⟨0, (some 6), none, .load false 1 (.t 2), []⟩,
   ⟨1, (some 7), none, .mv (.t 0), []⟩,
   ⟨2, (some 8), none, .iaddr 1 (.t 6) (.t 7), []⟩,
   ⟨3, (some 9), none, .load false 1 (.t 8), []⟩,
   ⟨4, (some 10), none, .load false 1 (.t 2), []⟩,
   ⟨5, (some 11), none, .mv (.t 1), []⟩,
   ⟨6, (some 12), none, .iaddr 1 (.t 10) (.t 11), []⟩,
   ⟨7, (some 13), none, .load false 1 (.t 12), []⟩,
   ⟨8, (some 14), none, .bin .lss .no (.t 9) (.t 13), []⟩,
   ⟨9, (some 15), none, .mv (.t 14), []⟩,
   ⟨10, (some 16), (some (15, false)), .load false 1 (.t 2), []⟩,
   ⟨11, (some 17), (some (15, false)), .mv (.t 0), []⟩,
   ⟨12, (some 18), (some (15, false)), .iaddr 1 (.t 16) (.t 17), []⟩,
   ⟨13, (some 19), (some (15, false)), .load false 1 (.t 18), []⟩,
   ⟨14, (some 20), (some (15, false)), .load false 1 (.t 2), []⟩,
   ⟨15, (some 21), (some (15, false)), .mv (.t 1), []⟩,
   ⟨16, (some 22), (some (15, false)), .iaddr 1 (.t 20) (.t 21), []⟩,
   ⟨17, (some 23), (some (15, false)), .load false 1 (.t 22), []⟩,
   ⟨18, (some 24), (some (15, false)), .bin .eql .no (.t 19) (.t 23), []⟩,
   ⟨19, (some 25), (some (15, false)), .mv (.t 24), []⟩,
   ⟨20, (some 26), (some (25, true)), .mv (.t 0), []⟩,
   ⟨21, (some 27), (some (25, true)), .mv (.t 1), []⟩,
   ⟨22, (some 28), (some (25, true)), .bin .lss .no (.t 26) (.t 27), []⟩,
   ⟨23, (some 29), (some (15, false)), .pick (.t 25) (.t 28) (.c (.bool false)), []⟩,
   ⟨24, (some 30), none, .pick (.t 15) (.c (.bool true)) (.t 29), []⟩,
   ⟨25, (some 5), none, .mv (.t 30), []⟩])
 (.ret))⟩

/-- (*burnish/worklist.Queue).ok -/
def i25 : FnI := ⟨[.tmp 2],
 .seq (.region 0 [⟨0, (some 2), none, .mv (.c (.bool false)), []⟩])
 (.seq (.region 0 [⟨0, (some 3), none, .mv (.t 0), []⟩,
   ⟨1, (some 4), none, .bin .neq .ptr (.t 3) (.c (.pointer none)), []⟩,
   ⟨2, (some 5), none, .mv (.t 4), []⟩,
   ⟨3, (some 6), (some (5, true)), .mv (.t 0), []⟩,
   ⟨4, (some 7), (some (5, true)), .nilchk (.t 6), []⟩,
   ⟨5, (some 8), (some (5, true)), .faddr 0 (.t 7), []⟩,
   ⟨6, (some 9), (some (5, true)), .load false 1 (.t 8), []⟩,
   ⟨7, (some 10), none, .pick (.t 5) (.t 9) (.c (.bool false)), []⟩,
   ⟨8, (some 2), none, .mv (.t 10), []⟩])
 (.ret))⟩

def i26l0 : Cd :=
  .seq (.seq (.region 0 [⟨0, (some 5), none, .mv (.t 1), []⟩,
    ⟨1, (some 6), none, .bin .gtr .no (.t 5) (.c (.int .i64 0)), []⟩])
  (.cond (.t 6)
   (.skip)
   (.exit 0)))
  (.block 1 (.seq (.region 0 [⟨0, (some 7), none, .mv (.t 1), []⟩,
     ⟨1, (some 8), none, .bin .sub .no (.t 7) (.c (.int .i64 1)), []⟩,
     ⟨2, (some 9), none, .bin .quo .no (.t 8) (.c (.int .i64 2)), []⟩,
     ⟨3, (some 4), none, .mv (.t 9), []⟩])
   (.seq (.seq (.region 0 [⟨0, (some 10), none, .mv (.t 0), []⟩,
     ⟨1, (some 11), none, .nilchk (.t 10), []⟩,
     ⟨2, (some 12), none, .faddr 3 (.t 11), []⟩,
     ⟨3, (some 13), none, .load false 1 (.t 12), []⟩,
     ⟨4, (some 14), none, .mv (.t 0), []⟩,
     ⟨5, (some 15), none, .nilchk (.t 14), []⟩,
     ⟨6, (some 16), none, .faddr 2 (.t 15), []⟩,
     ⟨7, (some 17), none, .load false 1 (.t 16), []⟩,
     ⟨8, (some 18), none, .mv (.t 1), []⟩,
     ⟨9, (some 19), none, .iaddr 1 (.t 17) (.t 18), []⟩,
     ⟨10, (some 20), none, .load false 1 (.t 19), []⟩,
     ⟨11, (some 21), none, .mv (.t 0), []⟩,
     ⟨12, (some 22), none, .nilchk (.t 21), []⟩,
     ⟨13, (some 23), none, .faddr 2 (.t 22), []⟩,
     ⟨14, (some 24), none, .load false 1 (.t 23), []⟩,
     ⟨15, (some 25), none, .mv (.t 4), []⟩,
     ⟨16, (some 26), none, .iaddr 1 (.t 24) (.t 25), []⟩,
     ⟨17, (some 27), none, .load false 1 (.t 26), []⟩,
     ⟨18, (some 28), none, .call (.t 13) [(.t 20), (.t 27)], []⟩,
     ⟨19, (some 29), none, .un .not (.t 28), []⟩])
   (.cond (.t 29)
    (.ret)
    (.skip)))
   (.seq (.region 0 [⟨0, (some 30), none, .mv (.t 0), []⟩,
     ⟨1, (some 31), none, .mv (.t 1), []⟩,
     ⟨2, (some 32), none, .mv (.t 4), []⟩,
     ⟨3, (some 33), none, .call (.f 27) [(.t 30), (.t 31), (.t 32)], []⟩])
   (.region 0 [⟨0, (some 34), none, .mv (.t 4), []⟩,
     ⟨1, (some 1), none, .mv (.t 34), []⟩])))))

/-- (*burnish/worklist.Queue).up -/
def i26 : FnI := ⟨[],
 .block 0 (.loop i26l0)⟩

/-- (*burnish/worklist.Queue).swap -/
def i27 : FnI := ⟨[],
 .region 0 [⟨0, (some 6), none, .mv (.t 0), []⟩,
   ⟨1, (some 7), none, .nilchk (.t 6), []⟩,
   ⟨2, (some 8), none, .faddr 2 (.t 7), []⟩,
   ⟨3, (some 9), none, .load false 1 (.t 8), []⟩,
   ⟨4, (some 10), none, .mv (.t 1), []⟩,
   ⟨5, (some 11), none, .mv (.t 0), []⟩,
   ⟨6, (some 12), none, .nilchk (.t 11), []⟩,
   ⟨7, (some 13), none, .faddr 2 (.t 12), []⟩,
   ⟨8, (some 14), none, .load false 1 (.t 13), []⟩,
   ⟨10, (some 16), none, .mv (.t 0), []⟩,
   ⟨11, (some 17), none, .nilchk (.t 16), []⟩,
   ⟨12, (some 18), none, .faddr 2 (.t 17), []⟩,
   ⟨13, (some 19), none, .load false 1 (.t 18), []⟩,
   ⟨14, (some 20), none, .mv (.t 2), []⟩,
   ⟨15, (some 21), none, .iaddr 1 (.t 19) (.t 20), []⟩,
   ⟨16, (some 22), none, .load false 1 (.t 21), []⟩,
   ⟨17, (some 23), none, .mv (.t 0), []⟩,
   ⟨18, (some 24), none, .nilchk (.t 23), []⟩,
   ⟨19, (some 25), none, .faddr 2 (.t 24), []⟩,
   ⟨20, (some 26), none, .load false 1 (.t 25), []⟩,
   ⟨21, (some 27), none, .mv (.t 1), []⟩,
   ⟨22, (some 28), none, .iaddr 1 (.t 26) (.t 27), []⟩,
   ⟨23, (some 29), none, .load false 1 (.t 28), []⟩,
   ⟨24, (some 30), none, .iaddr 1 (.t 9) (.t 10), []⟩,
   ⟨25, none, none, .store 1 (.t 30) (.t 22), []⟩,
   ⟨9, (some 15), none, .mv (.t 2), []⟩,
   ⟨26, (some 31), none, .iaddr 1 (.t 14) (.t 15), []⟩,
   ⟨27, none, none, .store 1 (.t 31) (.t 29), []⟩]⟩

def i28l1 : Cd :=
  .seq (.seq (.region 0 [⟨0, (some 10), none, .mv (.t 5), []⟩,
    ⟨1, (some 11), none, .mv (.t 1), []⟩,
    ⟨2, (some 12), none, .bin .mul .no (.c (.int .i64 2)) (.t 11), []⟩,
    ⟨3, (some 13), none, .bin .add .no (.t 12) (.c (.int .i64 2)), []⟩,
    ⟨4, (some 14), none, .bin .leq .no (.t 10) (.t 13), []⟩,
    ⟨5, (some 15), none, .mv (.t 14), []⟩,
    ⟨6, (some 16), (some (15, true)), .mv (.t 5), []⟩,
    ⟨7, (some 17), (some (15, true)), .mv (.t 0), []⟩,
    ⟨8, (some 18), (some (15, true)), .nilchk (.t 17), []⟩,
    ⟨9, (some 19), (some (15, true)), .faddr 2 (.t 18), []⟩,
    ⟨10, (some 20), (some (15, true)), .load false 1 (.t 19), []⟩,
    ⟨11, (some 21), (some (15, true)), .len (.t 20), []⟩,
    ⟨12, (some 22), (some (15, true)), .bin .lss .no (.t 16) (.t 21), []⟩,
    ⟨13, (some 23), none, .pick (.t 15) (.t 22) (.c (.bool false)), []⟩])
  (.cond (.t 23)
   (.skip)
   (.exit 2)))
  (.seq (.block 3 (.seq (.region 0 [⟨0, (some 26), none, .mv (.t 0), []⟩,
     ⟨1, (some 27), none, .nilchk (.t 26), []⟩,
     ⟨2, (some 28), none, .faddr 3 (.t 27), []⟩,
     ⟨3, (some 29), none, .load false 1 (.t 28), []⟩,
     ⟨4, (some 30), none, .mv (.t 0), []⟩,
     ⟨5, (some 31), none, .nilchk (.t 30), []⟩,
     ⟨6, (some 32), none, .faddr 2 (.t 31), []⟩,
     ⟨7, (some 33), none, .load false 1 (.t 32), []⟩,
     ⟨8, (some 34), none, .mv (.t 5), []⟩,
     ⟨9, (some 35), none, .iaddr 1 (.t 33) (.t 34), []⟩,
     ⟨10, (some 36), none, .load false 1 (.t 35), []⟩,
     ⟨11, (some 37), none, .mv (.t 0), []⟩,
     ⟨12, (some 38), none, .nilchk (.t 37), []⟩,
     ⟨13, (some 39), none, .faddr 2 (.t 38), []⟩,
     ⟨14, (some 40), none, .load false 1 (.t 39), []⟩,
     ⟨15, (some 41), none, .mv (.t 4), []⟩,
     ⟨16, (some 42), none, .iaddr 1 (.t 40) (.t 41), []⟩,
     ⟨17, (some 43), none, .load false 1 (.t 42), []⟩,
     ⟨18, (some 44), none, .call (.t 29) [(.t 36), (.t 43)], []⟩])
   (.cond (.t 44)
    (.region 0 [⟨0, (some 45), none, .mv (.t 5), []⟩,
      ⟨1, (some 4), none, .mv (.t 45), []⟩])
    (.skip))))
  (.region 0 [⟨0, (some 24), none, .mv (.t 5), []⟩,
    ⟨1, (some 25), none, .bin .add .no (.t 24) (.c (.int .i64 1)), []⟩,
    ⟨2, (some 5), none, .mv (.t 25), []⟩]))

def i28l0 : Cd :=
  .block 1 (.seq (.region 0 [⟨0, (some 6), none, .mv (.t 1), []⟩,
     ⟨1, (some 4), none, .mv (.t 6), []⟩])
   (.seq (.seq (.region 0 [⟨0, (some 7), none, .mv (.t 1), []⟩,
     ⟨1, (some 8), none, .bin .mul .no (.c (.int .i64 2)) (.t 7), []⟩,
     ⟨2, (some 9), none, .bin .add .no (.t 8) (.c (.int .i64 1)), []⟩,
     ⟨3, (some 5), none, .mv (.t 9), []⟩])
   (.block 2 (.loop i28l1)))
   (.seq (.seq (.region 0 [⟨0, (some 46), none, .mv (.t 4), []⟩,
     ⟨1, (some 47), none, .mv (.t 1), []⟩,
     ⟨2, (some 48), none, .bin .eql .no (.t 46) (.t 47), []⟩])
   (.cond (.t 48)
    (.ret)
    (.skip)))
   (.seq (.region 0 [⟨0, (some 49), none, .mv (.t 0), []⟩,
     ⟨1, (some 50), none, .mv (.t 1), []⟩,
     ⟨2, (some 51), none, .mv (.t 4), []⟩,
     ⟨3, (some 52), none, .call (.f 27) [(.t 49), (.t 50), (.t 51)], []⟩])
   (.region 0 [⟨0, (some 53), none, .mv (.t 4), []⟩,
     ⟨1, (some 1), none, .mv (.t 53), []⟩])))))

/-- (*burnish/worklist.Queue).down -/
def i28 : FnI := ⟨[],
 .block 0 (.loop i28l0)⟩

def i29l0 : Cd :=
  .seq (.region 0 [⟨0, (some 19), none, .bin .lss .no (.t 18) (.t 17), []⟩])
  (.seq (.cond (.t 19)
   (.skip)
   (.exit 0))
  (.seq (.block 1 (.seq (.region 0 [⟨0, (some 20), none, .mv (.t 18), []⟩,
     ⟨1, (some 21), none, .iaddr 1 (.t 16) (.t 18), []⟩,
     ⟨2, (some 22), none, .load false 1 (.t 21), []⟩,
     ⟨3, (some 4), none, .mv (.t 20), []⟩,
     ⟨4, (some 5), none, .mv (.t 22), []⟩])
   (.seq (.region 0 [⟨0, (some 23), none, .mv (.t 0), []⟩,
     ⟨1, (some 24), none, .nilchk (.t 23), []⟩,
     ⟨2, (some 25), none, .faddr 4 (.t 24), []⟩,
     ⟨3, (some 26), none, .load false 1 (.t 25), []⟩,
     ⟨4, (some 27), none, .mv (.t 3), []⟩,
     ⟨5, (some 28), none, .iaddr 1 (.t 26) (.t 27), []⟩,
     ⟨6, (some 29), none, .load false 1 (.t 28), []⟩,
     ⟨7, (some 6), none, .mv (.t 29), []⟩])
   (.seq (.region 0 [⟨0, (some 30), none, .mv (.t 0), []⟩,
     ⟨1, (some 31), none, .nilchk (.t 30), []⟩,
     ⟨2, (some 32), none, .faddr 3 (.t 31), []⟩,
     ⟨3, (some 33), none, .load false 1 (.t 32), []⟩,
     ⟨4, (some 34), none, .mv (.t 5), []⟩,
     ⟨5, (some 35), none, .iaddr 1 (.t 33) (.t 34), []⟩,
     ⟨6, (some 36), none, .load false 1 (.t 35), []⟩,
     ⟨7, (some 37), none, .mv (.t 0), []⟩,
     ⟨8, (some 38), none, .nilchk (.t 37), []⟩,
     ⟨9, (some 39), none, .faddr 3 (.t 38), []⟩,
     ⟨10, (some 40), none, .load false 1 (.t 39), []⟩,
     ⟨11, (some 41), none, .mv (.t 6), []⟩,
     ⟨12, (some 42), none, .iaddr 1 (.t 40) (.t 41), []⟩,
     ⟨13, (some 43), none, .load false 1 (.t 42), []⟩,
     ⟨14, (some 44), none, .bin .lss .no (.t 36) (.t 43), []⟩,
     ⟨15, (some 45), none, .mv (.t 44), []⟩,
     ⟨16, (some 46), (some (45, false)), .mv (.t 0), []⟩,
     ⟨17, (some 47), (some (45, false)), .nilchk (.t 46), []⟩,
     ⟨18, (some 48), (some (45, false)), .faddr 3 (.t 47), []⟩,
     ⟨19, (some 49), (some (45, false)), .load false 1 (.t 48), []⟩,
     ⟨20, (some 50), (some (45, false)), .mv (.t 5), []⟩,
     ⟨21, (some 51), (some (45, false)), .iaddr 1 (.t 49) (.t 50), []⟩,
     ⟨22, (some 52), (some (45, false)), .load false 1 (.t 51), []⟩,
     ⟨23, (some 53), (some (45, false)), .mv (.t 0), []⟩,
     ⟨24, (some 54), (some (45, false)), .nilchk (.t 53), []⟩,
     ⟨25, (some 55), (some (45, false)), .faddr 3 (.t 54), []⟩,
     ⟨26, (some 56), (some (45, false)), .load false 1 (.t 55), []⟩,
     ⟨27, (some 57), (some (45, false)), .mv (.t 6), []⟩,
     ⟨28, (some 58), (some (45, false)), .iaddr 1 (.t 56) (.t 57), []⟩,
     ⟨29, (some 59), (some (45, false)), .load false 1 (.t 58), []⟩,
     ⟨30, (some 60), (some (45, false)), .bin .eql .no (.t 52) (.t 59), []⟩,
     ⟨31, (some 61), (some (45, false)), .mv (.t 60), []⟩,
     ⟨32, (some 62), (some (61, true)), .mv (.t 5), []⟩,
     ⟨33, (some 63), (some (61, true)), .mv (.t 6), []⟩,
     ⟨34, (some 64), (some (61, true)), .bin .lss .no (.t 62) (.t 63), []⟩,
     ⟨35, (some 65), (some (45, false)), .pick (.t 61) (.t 64) (.c (.bool false)), []⟩,
     ⟨36, (some 66), none, .pick (.t 45) (.c (.bool true)) (.t 65), []⟩])
   (.cond (.t 66)
    (.region 0 [⟨0, (some 67), none, .mv (.t 4), []⟩,
      ⟨1, (some 3), none, .mv (.t 67), []⟩])
    (.skip))))))
  (.region 0 [⟨0, (some 68), none, .bin .add .no (.t 18) (.c (.int .i64 1)), []⟩,
    ⟨1, (some 18), none, .mv (.t 68), []⟩])))

/-- (*burnish/burnishref05.Queue).first -/
def i29 : FnI := ⟨[.tmp 2],
 .seq (.region 0 [⟨0, (some 2), none, .mv (.c (.int .i64 0)), []⟩])
 (.seq (.region 0 [⟨0, (some 3), none, .mv (.c (.int .i64 0)), []⟩])
 (.seq (.seq (.region 0 [⟨0, (some 7), none, .mv (.t 0), []⟩,
   ⟨1, (some 8), none, .nilchk (.t 7), []⟩,
   ⟨2, (some 9), none, .faddr 1 (.t 8), []⟩,
   ⟨3, (some 10), none, .load false 1 (.t 9), []⟩,
   ⟨4, (some 11), none, .un .not (.t 10), []⟩])
 (.cond (.t 11)
  (.seq (.region 0 [⟨0, (some 12), none, .mv (.t 3), []⟩,
    ⟨1, (some 2), none, .mv (.t 12), []⟩])
  (.ret))
  (.skip)))
 (.seq (.seq (.region 0 [⟨0, (some 13), none, .mv (.t 0), []⟩,
   ⟨1, (some 14), none, .nilchk (.t 13), []⟩,
   ⟨2, (some 15), none, .faddr 4 (.t 14), []⟩,
   ⟨3, (some 16), none, .load false 1 (.t 15), []⟩,
   ⟨4, (some 17), none, .len (.t 16), []⟩,
   ⟨5, (some 18), none, .mv (.c (.int .i64 0)), []⟩])
 (.block 0 (.loop i29l0)))
 (.seq (.region 0 [⟨0, (some 69), none, .mv (.t 3), []⟩,
   ⟨1, (some 2), none, .mv (.t 69), []⟩])
 (.ret)))))⟩

theorem c3 : cFn Try.prog Try.f3 = some i3 := by kernel_rfl
theorem c4 : cFn Try.prog Try.f4 = some i4 := by kernel_rfl
theorem c5 : cFn Try.prog Try.f5 = some i5 := by kernel_rfl
theorem c6 : cFn Try.prog Try.f6 = some i6 := by kernel_rfl
theorem c7 : cFn Try.prog Try.f7 = some i7 := by kernel_rfl
theorem c8 : cFn Try.prog Try.f8 = some i8 := by kernel_rfl
theorem c9 : cFn Try.prog Try.f9 = some i9 := by kernel_rfl
theorem c10 : cFn Try.prog Try.f10 = some i10 := by kernel_rfl
theorem c11 : cFn Try.prog Try.f11 = some i11 := by kernel_rfl
theorem c12 : cFn Try.prog Try.f12 = some i12 := by kernel_rfl
theorem c13 : cFn Try.prog Try.f13 = some i13 := by kernel_rfl
theorem c14 : cFn Try.prog Try.f14 = some i14 := by kernel_rfl
theorem c15 : cFn Try.prog Try.f15 = some i15 := by kernel_rfl
theorem c16 : cFn Try.prog Try.f16 = some i16 := by kernel_rfl
theorem c17 : cFn Try.prog Try.f17 = some i17 := by kernel_rfl
theorem c18 : cFn Try.prog Try.f18 = some i18 := by kernel_rfl
theorem c19 : cFn Try.prog Try.f19 = some i19 := by kernel_rfl
theorem c20 : cFn Try.prog Try.f20 = some i20 := by kernel_rfl
theorem c21 : cFn Try.prog Try.f21 = some i21 := by kernel_rfl
theorem c22 : cFn Try.prog Try.f22 = some i22 := by kernel_rfl
theorem c23 : cFn Try.prog Try.f23 = some i23 := by kernel_rfl
theorem c24 : cFn Try.prog Try.f24 = some i24 := by kernel_rfl
theorem c25 : cFn Try.prog Try.f25 = some i25 := by kernel_rfl
theorem c26 : cFn Try.prog Try.f26 = some i26 := by kernel_rfl
theorem c27 : cFn Try.prog Try.f27 = some i27 := by kernel_rfl
theorem c28 : cFn Try.prog Try.f28 = some i28 := by kernel_rfl
theorem c29 : cFn Try.prog Try.f29 = some i29 := by kernel_rfl

def Γ : Nat → Option FnI
  | 3 => some i3
  | 4 => some i4
  | 5 => some i5
  | 6 => some i6
  | 7 => some i7
  | 8 => some i8
  | 9 => some i9
  | 10 => some i10
  | 11 => some i11
  | 12 => some i12
  | 13 => some i13
  | 14 => some i14
  | 15 => some i15
  | 16 => some i16
  | 17 => some i17
  | 18 => some i18
  | 19 => some i19
  | 20 => some i20
  | 21 => some i21
  | 22 => some i22
  | 23 => some i23
  | 24 => some i24
  | 25 => some i25
  | 26 => some i26
  | 27 => some i27
  | 28 => some i28
  | 29 => some i29
  | _ => none

theorem tab : TabOk Try.prog Γ := by
  intro f F h
  unfold Γ at h
  split at h <;> cases h
  · exact ⟨_, Try.func3, c3⟩
  · exact ⟨_, Try.func4, c4⟩
  · exact ⟨_, Try.func5, c5⟩
  · exact ⟨_, Try.func6, c6⟩
  · exact ⟨_, Try.func7, c7⟩
  · exact ⟨_, Try.func8, c8⟩
  · exact ⟨_, Try.func9, c9⟩
  · exact ⟨_, Try.func10, c10⟩
  · exact ⟨_, Try.func11, c11⟩
  · exact ⟨_, Try.func12, c12⟩
  · exact ⟨_, Try.func13, c13⟩
  · exact ⟨_, Try.func14, c14⟩
  · exact ⟨_, Try.func15, c15⟩
  · exact ⟨_, Try.func16, c16⟩
  · exact ⟨_, Try.func17, c17⟩
  · exact ⟨_, Try.func18, c18⟩
  · exact ⟨_, Try.func19, c19⟩
  · exact ⟨_, Try.func20, c20⟩
  · exact ⟨_, Try.func21, c21⟩
  · exact ⟨_, Try.func22, c22⟩
  · exact ⟨_, Try.func23, c23⟩
  · exact ⟨_, Try.func24, c24⟩
  · exact ⟨_, Try.func25, c25⟩
  · exact ⟨_, Try.func26, c26⟩
  · exact ⟨_, Try.func27, c27⟩
  · exact ⟨_, Try.func28, c28⟩
  · exact ⟨_, Try.func29, c29⟩

theorem mixed : Try.prog.follows .mixedOrders = true := by kernel_rfl

end Go.Proofs.Ytmgkdnncjapejaa.Ab
