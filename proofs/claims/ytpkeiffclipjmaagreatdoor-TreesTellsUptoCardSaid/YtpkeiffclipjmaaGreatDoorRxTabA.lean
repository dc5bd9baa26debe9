/-
  Rx: the plain program (written by gen/tab.py): its functions, and that each is what the program's own is told as.
-/
import Derived.Test.YtpkeiffclipjmaaGreatDoorRxK
import Derived.Test.YtpkeiffclipjmaaGreatDoorProg
import Derived.KernelRfl
namespace Go.Proofs.YtpkeiffclipjmaaGreatDoor.Rx
open Go
/-- collator/collatorlaw02.TreesTells -/
def K3 : List (List Nat) := [[0, 1, 2, 4, 5, 9], [0, 1, 2, 4, 5, 9, 13], [0, 1, 2, 4, 5, 9, 13, 14], [0, 2, 4, 5, 9, 13, 14, 15], [0, 2, 4, 5, 9, 13, 14, 15, 16], [4, 5, 9, 13, 14, 62, 63, 64], [4, 5, 9, 13, 14, 62, 63, 64, 65], [4, 5, 9, 13, 14, 18, 62, 63, 64], [4, 5, 9, 13, 14, 18, 62, 63, 64, 71, 72, 73], [4, 5, 9, 13, 14, 18, 62, 63, 64, 71, 72, 73, 74], [4, 5, 9, 13, 14, 18, 20, 62, 63, 64, 71, 72, 73], [4, 5, 9, 13, 14, 18, 62, 63, 64, 71, 72, 73, 83], [12], [4, 5, 9, 13, 14, 18, 62, 63, 64, 71, 72, 73], [4, 5, 9, 13, 14, 18, 62, 63, 64, 90], [12], [4, 5, 9, 13, 14, 18, 62, 63, 64, 94, 95, 96], [4, 5, 9, 13, 14, 18, 62, 63, 64, 94, 95, 96, 97], [4, 5, 9, 13, 14, 18, 22, 62, 63, 64, 94, 95, 96], [4, 5, 9, 13, 14, 18, 22, 23, 24, 62, 63, 64, 94, 95, 96], [4, 5, 9, 13, 14, 18, 22, 23, 24, 25, 26, 62, 63, 64, 94, 95, 96], [4, 5, 9, 13, 14, 18, 22, 23, 24, 25, 26, 27, 28, 62, 63, 64, 94, 95, 96], [4, 5, 9, 13, 14, 18, 22, 23, 24, 25, 26, 27, 28, 29, 30, 62, 63, 64, 94, 95, 96], [4, 5, 9, 13, 14, 18, 62, 63, 64, 94, 95, 96, 151], [12], [4, 5, 9, 13, 14, 18, 62, 63, 64, 94, 95, 96], [4, 5, 9, 13, 14, 62, 63, 64], [12]]
def L3x0 : ACode := .seq (.reg [Oo 74 (.bin .lss (.t 73) (.t 72))] [4, 5, 9, 13, 14, 18, 62, 63, 64, 71, 72, 73, 74])
 (.seq (.cond (.t 74) (.skip)
 (.exit 2))
 (.seq (.blk 3 (.seq (.reg [Oo 75 (.iaddr 3 (.t 71) (.t 73)),
 Oo 76 (.load true 3 (.t 75)),
 Oo 20 (.alloc [(.int .i64 0), (.int .i64 0), (.int .i64 0)]),
 ⟨none, none, .store 3 (.t 20) (.t 76), []⟩] [4, 5, 9, 13, 14, 18, 20, 62, 63, 64, 71, 72, 73])
 (.seq (.regD [Mo 77 18,
 Oo 78 (.load true 3 (.t 20)),
 ⟨(some 79), none, .call 15 [(.t 77), (.t 78)], [1]⟩,
 Mo 80 18,
 Oo 81 (.load true 3 (.t 20)),
 ⟨(some 82), none, .call 16 [(.t 80), (.t 81)], [4, 2, 1]⟩,
 ⟨(some 83), none, .eqv true (some [2, 1]) (.t 79) (.t 82), [2, 5]⟩] [4, 5, 9, 13, 14, 18, 62, 63, 64, 71, 72, 73, 83])
 (.cond (.t 83) (.seq (.reg [Oo 12 (.mv (.c (.bool false)))] [12])
 (.ret))
 (.skip)))))
 (.reg [Oo 84 (.bin .add (.t 73) (.c (.int .i64 1))),
 Mo 73 84] [4, 5, 9, 13, 14, 18, 62, 63, 64, 71, 72, 73])))
def L3x1 : ACode := .seq (.reg [Oo 97 (.bin .lss (.t 96) (.t 95))] [4, 5, 9, 13, 14, 18, 62, 63, 64, 94, 95, 96, 97])
 (.seq (.cond (.t 97) (.skip)
 (.exit 4))
 (.seq (.blk 5 (.seq (.reg [Oo 98 (.iaddr 1 (.t 94) (.t 96)),
 Oo 99 (.load false 1 (.t 98)),
 Mo 22 99] [4, 5, 9, 13, 14, 18, 22, 62, 63, 64, 94, 95, 96])
 (.seq (.reg [Mo 101 18,
 Mo 102 22,
 Oo 103 (.call 21 [(.t 101), (.t 102)]),
 Mo 100 103,
 Oo 104 (.ext (.t 100) 0),
 Oo 105 (.ext (.t 100) 1),
 Oo 23 (.alloc [(.str []), (.int .i64 0), (.str []), (.bool false)]),
 ⟨none, none, .store 4 (.t 23) (.t 104), []⟩,
 Mo 24 105] [4, 5, 9, 13, 14, 18, 22, 23, 24, 62, 63, 64, 94, 95, 96])
 (.seq (.reg [Mo 107 18,
 Mo 108 22,
 Oo 109 (.call 22 [(.t 107), (.t 108)]),
 Mo 106 109,
 Oo 110 (.ext (.t 106) 0),
 Oo 111 (.ext (.t 106) 1),
 Oo 25 (.alloc [(.str []), (.int .i64 0), (.str []), (.bool false)]),
 ⟨none, none, .store 4 (.t 25) (.t 110), []⟩,
 Mo 26 111] [4, 5, 9, 13, 14, 18, 22, 23, 24, 25, 26, 62, 63, 64, 94, 95, 96])
 (.seq (.reg [Mo 113 18,
 Mo 114 22,
 Oo 115 (.call 23 [(.t 113), (.t 114)]),
 Mo 112 115,
 Oo 116 (.ext (.t 112) 0),
 Oo 117 (.ext (.t 112) 1),
 Mo 27 116,
 Mo 28 117] [4, 5, 9, 13, 14, 18, 22, 23, 24, 25, 26, 27, 28, 62, 63, 64, 94, 95, 96])
 (.seq (.reg [Mo 119 18,
 Mo 120 22,
 Oo 121 (.call 24 [(.t 119), (.t 120)]),
 Mo 118 121,
 Oo 122 (.ext (.t 118) 0),
 Oo 123 (.ext (.t 118) 1),
 Mo 29 122,
 Mo 30 123] [4, 5, 9, 13, 14, 18, 22, 23, 24, 25, 26, 27, 28, 29, 30, 62, 63, 64, 94, 95, 96])
 (.seq (.reg [Oo 124 (.load true 4 (.t 23)),
 Oo 125 (.load true 4 (.t 25)),
 Oo 126 (.eqv true (some [2, 1, 2, 0]) (.t 124) (.t 125)),
 Mo 127 126,
 ⟨(some 128), some (127, false), .mv (.t 24), []⟩,
 ⟨(some 129), some (127, false), .mv (.t 26), []⟩,
 ⟨(some 130), some (127, false), .eqv true none (.t 128) (.t 129), []⟩,
 Oo 131 (.pick (.t 127) (.c (.bool true)) (.t 130)),
 Mo 132 131,
 ⟨(some 133), some (132, false), .mv (.t 27), []⟩,
 ⟨(some 134), some (132, false), .mv (.t 29), []⟩,
 ⟨(some 135), some (132, false), .bin .neq (.t 133) (.t 134), []⟩,
 Oo 136 (.pick (.t 132) (.c (.bool true)) (.t 135)),
 Mo 137 136,
 ⟨(some 138), some (137, false), .mv (.t 28), []⟩,
 ⟨(some 139), some (137, false), .mv (.t 30), []⟩,
 ⟨(some 140), some (137, false), .bin .neq (.t 138) (.t 139), []⟩,
 Oo 141 (.pick (.t 137) (.c (.bool true)) (.t 140)),
 Mo 142 141,
 ⟨(some 143), some (142, false), .mv (.t 18), []⟩,
 ⟨(some 144), some (142, false), .mv (.t 22), []⟩,
 ⟨(some 145), some (142, false), .call 25 [(.t 143), (.t 144)], []⟩,
 ⟨(some 146), some (142, false), .mv (.t 18), []⟩,
 ⟨(some 147), some (142, false), .mv (.t 22), []⟩,
 ⟨(some 148), some (142, false), .call 26 [(.t 146), (.t 147)], []⟩,
 ⟨(some 149), some (142, false), .call 17 [(.t 145), (.t 148)], []⟩,
 ⟨(some 150), some (142, false), .un .not (.t 149), []⟩,
 Oo 151 (.pick (.t 142) (.c (.bool true)) (.t 150))] [4, 5, 9, 13, 14, 18, 62, 63, 64, 94, 95, 96, 151])
 (.cond (.t 151) (.seq (.reg [Oo 12 (.mv (.c (.bool false)))] [12])
 (.ret))
 (.skip)))))))))
 (.reg [Oo 152 (.bin .add (.t 96) (.c (.int .i64 1))),
 Mo 96 152] [4, 5, 9, 13, 14, 18, 62, 63, 64, 94, 95, 96])))
def L3x2 : ACode := .seq (.reg [Oo 65 (.bin .lss (.t 64) (.t 63))] [4, 5, 9, 13, 14, 62, 63, 64, 65])
 (.seq (.cond (.t 65) (.skip)
 (.exit 0))
 (.seq (.blk 1 (.seq (.reg [Oo 66 (.iaddr 1 (.t 62) (.t 64)),
 Oo 67 (.load false 1 (.t 66)),
 Mo 18 67] [4, 5, 9, 13, 14, 18, 62, 63, 64])
 (.seq (.seq (.regD [Oo 68 (.load true 3 (.t 9)),
 Oo 69 (.load true 3 (.t 14)),
 Oo 70 (.call 14 []),
 ⟨(some 71), none, .mks 3 3 true [(.int .i64 0), (.int .i64 0), (.int .i64 0)] [(0, (.t 68)), (1, (.t 69)), (2, (.t 70))], [2]⟩,
 ⟨(some 72), none, .len false (.t 71), [2]⟩,
 Oo 73 (.mv (.c (.int .i64 0)))] [4, 5, 9, 13, 14, 18, 62, 63, 64, 71, 72, 73])
 (.blk 2 (.loop L3x0)))
 (.seq (.seq (.reg [Mo 85 18,
 Oo 86 (.call 18 [(.t 85)]),
 Mo 87 18,
 Oo 88 (.call 19 [(.t 87)]),
 Oo 89 (.call 17 [(.t 86), (.t 88)]),
 Oo 90 (.un .not (.t 89))] [4, 5, 9, 13, 14, 18, 62, 63, 64, 90])
 (.cond (.t 90) (.seq (.reg [Oo 12 (.mv (.c (.bool false)))] [12])
 (.ret))
 (.skip)))
 (.seq (.reg [Mo 91 4,
 Mo 92 5,
 Oo 93 (.call 20 [(.t 92)]),
 Oo 94 (.mks 4 1 false [(.str [])] [(0, (.t 91)), (1, (.t 93)), (2, (.c (.str []))), (3, (.c (.str [97])))]),
 Oo 95 (.len false (.t 94)),
 Oo 96 (.mv (.c (.int .i64 0)))] [4, 5, 9, 13, 14, 18, 62, 63, 64, 94, 95, 96])
 (.blk 4 (.loop L3x1)))))))
 (.reg [Oo 153 (.bin .add (.t 64) (.c (.int .i64 1))),
 Mo 64 153] [4, 5, 9, 13, 14, 62, 63, 64])))
def A3 : AFunc := ⟨6, [.t 12], .seq (.reg [Oo 9 (.box (.t 3)),
 Oo 12 (.mv (.c (.bool false)))] [0, 1, 2, 4, 5, 9])
 (.seq (.reg [Oo 31 (.call 10 []),
 Mo 13 31] [0, 1, 2, 4, 5, 9, 13])
 (.seq (.regD [Oo 32 (.faddr 0 (.t 9)),
 Oo 33 (.load false 1 (.t 32)),
 ⟨(some 34), none, .call 11 [(.t 33), (.c (.int .i64 6))], [1]⟩,
 Oo 35 (.faddr 1 (.t 9)),
 Oo 36 (.load false 1 (.t 35)),
 ⟨(some 37), none, .call 11 [(.t 36), (.c (.int .i64 10))], [4, 2, 1]⟩,
 Oo 38 (.faddr 2 (.t 9)),
 Oo 39 (.load false 1 (.t 38)),
 ⟨(some 40), none, .call 11 [(.t 39), (.c (.int .i64 14))], [7, 5, 4, 2, 1]⟩,
 ⟨(some 41), none, .bin .add (.c (.int .i64 3)) (.t 40), [8, 5, 2]⟩,
 ⟨(some 42), none, .agg [(.int .i64 0), (.int .i64 0), (.int .i64 0)] [(0, 1, (.t 34)), (1, 1, (.t 37)), (2, 1, (.t 41))], [2, 5, 8]⟩,
 Oo 14 (.alloc [(.int .i64 0), (.int .i64 0), (.int .i64 0)]),
 ⟨none, none, .store 3 (.t 14) (.t 42), [11, 8, 1, 2, 4, 5, 7]⟩] [0, 1, 2, 4, 5, 9, 13, 14])
 (.seq (.reg [Mo 43 1,
 Oo 44 (.call 12 [(.t 43)]),
 Mo 15 44] [0, 2, 4, 5, 9, 13, 14, 15])
 (.seq (.regD [Mo 45 15,
 Oo 46 (.app none 4 48 (.c (.sl 4 [] .nil)) (.t 45)),
 Mo 47 0,
 Mo 48 0,
 Oo 49 (.len false (.t 48)),
 Oo 50 (.min [(.t 49), (.c (.int .i64 10))]),
 Oo 51 (.slice (some 4) (.t 47) none (some (.t 50)) none),
 ⟨(some 52), none, .app none 4 48 (.t 46) (.t 51), [1]⟩,
 Mo 16 52] [0, 2, 4, 5, 9, 13, 14, 15, 16])
 (.seq (.seq (.regD [Mo 53 0,
 Mo 54 0,
 Oo 55 (.len false (.t 54)),
 Oo 56 (.min [(.t 55), (.c (.int .i64 10))]),
 Oo 57 (.slice (some 4) (.t 53) none (some (.t 56)) none),
 Mo 58 15,
 Mo 59 16,
 Mo 60 2,
 Oo 61 (.call 13 [(.t 60)]),
 ⟨(some 62), none, .mks 4 1 false [(.sl 4 [] .nil)] [(0, (.t 57)), (1, (.t 58)), (2, (.t 59)), (3, (.t 61))], [8]⟩,
 ⟨(some 63), none, .len false (.t 62), [8]⟩,
 Oo 64 (.mv (.c (.int .i64 0)))] [4, 5, 9, 13, 14, 62, 63, 64])
 (.blk 0 (.loop L3x2)))
 (.seq (.reg [Mo 154 13,
 Mo 12 154] [12])
 (.ret)))))))⟩
theorem c3 : cmpF Tryz.prog ⟨[(59, 4), (81, 4), (82, 4), (101, 4), (113, 4)], false, false⟩ Tryz.f3 K3 = some A3 := by kernel_rfl
/-- collator/collatorlaw02.TreesOrder -/
def K4 : List (List Nat) := [[0, 1], [0, 1, 5], [1, 5, 6], [5, 6, 7], [5, 6, 8], [5, 6, 8, 9], [5, 6, 9, 51], [4], [5, 6, 9, 10], [5, 6, 9, 10, 55], [5, 6, 9, 10, 89], [4], [5, 6, 9, 10], [4]]
def L4x0 : ACode := .seq (.seq (.reg [Mo 52 10,
 Mo 53 9,
 Oo 54 (.len false (.t 53)),
 Oo 55 (.bin .lss (.t 52) (.t 54))] [5, 6, 9, 10, 55])
 (.cond (.t 55) (.skip)
 (.exit 0)))
 (.seq (.blk 1 (.seq (.regD [Mo 58 10,
 Oo 59 (.bin .gtr (.t 58) (.c (.int .i64 0))),
 Mo 60 59,
 ⟨(some 61), some (60, true), .mv (.t 9), []⟩,
 ⟨(some 62), some (60, true), .mv (.t 10), []⟩,
 ⟨(some 63), some (60, true), .bin .sub (.t 62) (.c (.int .i64 1)), []⟩,
 ⟨(some 64), some (60, true), .iaddr 4 (.t 61) (.t 63), []⟩,
 ⟨(some 65), some (60, true), .faddr 0 (.t 64), []⟩,
 ⟨(some 66), some (60, true), .load false 1 (.t 65), []⟩,
 ⟨(some 67), some (60, true), .mv (.t 9), []⟩,
 ⟨(some 68), some (60, true), .mv (.t 10), []⟩,
 ⟨(some 69), some (60, true), .iaddr 4 (.t 67) (.t 68), []⟩,
 ⟨(some 70), some (60, true), .faddr 0 (.t 69), []⟩,
 ⟨(some 71), some (60, true), .load false 1 (.t 70), []⟩,
 ⟨(some 72), some (60, true), .call 27 [(.t 66), (.t 71)], [8, 13]⟩,
 ⟨(some 73), some (60, true), .bin .gtr (.t 72) (.c (.int .i64 0)), [14]⟩,
 ⟨(some 74), none, .pick (.t 60) (.t 73) (.c (.bool false)), [14]⟩,
 ⟨(some 75), none, .mv (.t 74), [14]⟩,
 ⟨(some 76), some (75, false), .mv (.t 9), [14]⟩,
 ⟨(some 77), some (75, false), .mv (.t 9), [14]⟩,
 ⟨(some 78), some (75, false), .mv (.t 10), [14]⟩,
 ⟨(some 79), some (75, false), .iaddr 4 (.t 77) (.t 78), [14]⟩,
 ⟨(some 80), some (75, false), .load true 4 (.t 79), [14, 8, 13]⟩,
 ⟨(some 81), some (75, false), .call 28 [(.t 76), (.t 80)], [22, 14, 8, 13]⟩,
 ⟨(some 82), some (75, false), .mv (.t 6), [14]⟩,
 ⟨(some 83), some (75, false), .mv (.t 9), [14]⟩,
 ⟨(some 84), some (75, false), .mv (.t 10), [14]⟩,
 ⟨(some 85), some (75, false), .iaddr 4 (.t 83) (.t 84), [14]⟩,
 ⟨(some 86), some (75, false), .load true 4 (.t 85), [14, 8, 13]⟩,
 ⟨(some 87), some (75, false), .call 28 [(.t 82), (.t 86)], [28, 23, 14, 8, 13, 22]⟩,
 ⟨(some 88), some (75, false), .bin .neq (.t 81) (.t 87), [23, 29, 14]⟩,
 ⟨(some 89), none, .pick (.t 75) (.c (.bool true)) (.t 88), [14, 23, 29]⟩] [5, 6, 9, 10, 89])
 (.cond (.t 89) (.seq (.reg [Oo 4 (.mv (.c (.bool false)))] [4])
 (.ret))
 (.skip))))
 (.reg [Mo 56 10,
 Oo 57 (.bin .add (.t 56) (.c (.int .i64 1))),
 Mo 10 57] [5, 6, 9, 10]))
def A4 : AFunc := ⟨2, [.t 4], .seq (.reg [Oo 4 (.mv (.c (.bool false)))] [0, 1])
 (.seq (.reg [Oo 11 (.call 10 []),
 Mo 5 11] [0, 1, 5])
 (.seq (.reg [Mo 12 0,
 Oo 13 (.call 12 [(.t 12)]),
 Mo 6 13] [1, 5, 6])
 (.seq (.reg [Mo 14 1,
 Mo 15 6,
 Oo 16 (.len false (.t 15)),
 Oo 17 (.bin .add (.t 16) (.c (.int .i64 1))),
 Oo 18 (.call 11 [(.t 14), (.t 17)]),
 Mo 7 18] [5, 6, 7])
 (.seq (.regD [Mo 19 6,
 Mo 20 7,
 Oo 21 (.slice (some 4) (.t 19) (some (.t 20)) none none),
 Oo 22 (.app none 4 48 (.c (.sl 4 [] .nil)) (.t 21)),
 Mo 23 6,
 Mo 24 7,
 Oo 25 (.slice (some 4) (.t 23) none (some (.t 24)) none),
 ⟨(some 26), none, .app none 4 48 (.t 22) (.t 25), [3]⟩,
 Mo 8 26] [5, 6, 8])
 (.seq (.reg [Mo 27 6,
 Oo 28 (.call 18 [(.t 27)]),
 Mo 9 28] [5, 6, 8, 9])
 (.seq (.seq (.reg [Mo 29 6,
 Oo 30 (.call 14 []),
 Oo 31 (.call 15 [(.t 29), (.t 30)]),
 Mo 32 8,
 Oo 33 (.call 14 []),
 Oo 34 (.call 15 [(.t 32), (.t 33)]),
 Oo 35 (.eqv true (some [2, 1]) (.t 31) (.t 34)),
 Mo 36 35,
 ⟨(some 37), some (36, false), .mv (.t 6), []⟩,
 ⟨(some 38), some (36, false), .call 14 [], []⟩,
 ⟨(some 39), some (36, false), .call 15 [(.t 37), (.t 38)], []⟩,
 ⟨(some 40), some (36, false), .mv (.t 9), []⟩,
 ⟨(some 41), some (36, false), .call 14 [], []⟩,
 ⟨(some 42), some (36, false), .call 15 [(.t 40), (.t 41)], []⟩,
 ⟨(some 43), some (36, false), .eqv true (some [2, 1]) (.t 39) (.t 42), []⟩,
 Oo 44 (.pick (.t 36) (.c (.bool true)) (.t 43)),
 Mo 45 44,
 ⟨(some 46), some (45, false), .mv (.t 9), []⟩,
 ⟨(some 47), some (45, false), .len false (.t 46), []⟩,
 ⟨(some 48), some (45, false), .mv (.t 6), []⟩,
 ⟨(some 49), some (45, false), .len false (.t 48), []⟩,
 ⟨(some 50), some (45, false), .bin .neq (.t 47) (.t 49), []⟩,
 Oo 51 (.pick (.t 45) (.c (.bool true)) (.t 50))] [5, 6, 9, 51])
 (.cond (.t 51) (.seq (.reg [Oo 4 (.mv (.c (.bool false)))] [4])
 (.ret))
 (.skip)))
 (.seq (.seq (.reg [Oo 10 (.mv (.c (.int .i64 0)))] [5, 6, 9, 10])
 (.blk 0 (.loop L4x0)))
 (.seq (.reg [Mo 90 5,
 Mo 91 90,
 ⟨(some 92), some (91, true), .mv (.t 9), []⟩,
 ⟨(some 93), some (91, true), .call 18 [(.t 92)], []⟩,
 ⟨(some 94), some (91, true), .mv (.t 9), []⟩,
 ⟨(some 95), some (91, true), .call 17 [(.t 93), (.t 94)], []⟩,
 Oo 96 (.pick (.t 91) (.t 95) (.c (.bool false))),
 Mo 4 96] [4])
 (.ret)))))))))⟩
theorem c4 : cmpF Tryz.prog ⟨[(59, 4), (81, 4), (82, 4), (101, 4), (113, 4)], false, false⟩ Tryz.f4 K4 = some A4 := by kernel_rfl
/-- collator/collatorlaw02.TreesLeast -/
def K5 : List (List Nat) := [[0, 1, 2], [0, 1, 2, 7], [1, 2, 7, 8], [1, 2, 7, 8, 19], [6], [1, 2, 7, 8, 22], [6], [2, 7, 8, 9], [2, 7, 8, 9, 10], [2, 7, 8, 9, 10, 11], [7, 8, 9, 10, 11, 37], [7, 8, 9, 10, 11, 37, 38], [7, 10, 11], [7, 10, 11], [7, 8, 9, 10, 11, 37, 45], [7, 10, 11], [7, 10, 11], [7, 8, 9, 10, 11, 37, 55], [7, 8, 9, 10, 11], [7, 8, 9, 10, 11], [7, 8, 9, 10, 11], [7, 10, 11, 73], [6], [7, 9, 10, 11, 82], [7, 10, 11], [7, 10, 11], [6]]
def A5 : AFunc := ⟨3, [.t 6], .seq (.reg [Oo 6 (.mv (.c (.bool false)))] [0, 1, 2])
 (.seq (.reg [Oo 12 (.call 10 []),
 Mo 7 12] [0, 1, 2, 7])
 (.seq (.reg [Mo 13 0,
 Oo 14 (.call 13 [(.t 13)]),
 Mo 8 14] [1, 2, 7, 8])
 (.seq (.seq (.reg [Mo 15 8,
 Oo 16 (.call 14 []),
 Oo 17 (.call 15 [(.t 15), (.t 16)]),
 Oo 18 (.agg [(.str []), (.int .i64 0)] []),
 Oo 19 (.eqv true (some [2, 1]) (.t 17) (.t 18))] [1, 2, 7, 8, 19])
 (.cond (.t 19) (.seq (.reg [Oo 6 (.mv (.c (.bool false)))] [6])
 (.ret))
 (.skip)))
 (.seq (.seq (.reg [Mo 20 8,
 Oo 21 (.len false (.t 20)),
 Oo 22 (.bin .eql (.t 21) (.c (.int .i64 0)))] [1, 2, 7, 8, 22])
 (.cond (.t 22) (.seq (.reg [Mo 23 7,
 Mo 6 23] [6])
 (.ret))
 (.skip)))
 (.seq (.reg [Mo 24 1,
 Mo 25 8,
 Oo 26 (.len false (.t 25)),
 Oo 27 (.call 11 [(.t 24), (.t 26)]),
 Mo 9 27] [2, 7, 8, 9])
 (.seq (.reg [Mo 28 8,
 Oo 29 (.app (some true) 4 48 (.c (.sl 4 [] .nil)) (.t 28)),
 Mo 10 29] [2, 7, 8, 9, 10])
 (.seq (.reg [Mo 30 8,
 Mo 31 9,
 Oo 32 (.iaddr 4 (.t 30) (.t 31)),
 Oo 33 (.faddr 0 (.t 32)),
 Oo 34 (.load false 1 (.t 33)),
 Oo 35 (.agg [(.str []), (.int .i64 0)] [(0, 1, (.t 34))]),
 Oo 11 (.alloc [(.str []), (.int .i64 0)]),
 ⟨none, none, .store 2 (.t 11) (.t 35), []⟩] [2, 7, 8, 9, 10, 11])
 (.seq (.seq (.reg [Mo 36 2,
 Oo 37 (.call 11 [(.t 36), (.c (.int .i64 4))])] [7, 8, 9, 10, 11, 37])
 (.blk 0 (.seq (.reg [Oo 39 (.bin .eql (.t 37) (.c (.int .i64 0))),
 Mo 38 39] [7, 8, 9, 10, 11, 37, 38])
 (.cond (.t 38) (.seq (.reg [Mo 40 10,
 Mo 41 9,
 Oo 42 (.iaddr 4 (.t 40) (.t 41)),
 Oo 43 (.faddr 3 (.t 42)),
 ⟨none, none, .store 1 (.t 43) (.c (.bool true)), []⟩] [7, 10, 11])
 (.reg [Oo 44 (.faddr 1 (.t 11)),
 ⟨none, none, .store 1 (.t 44) (.c (.int .i64 9)), []⟩] [7, 10, 11]))
 (.seq (.reg [Oo 46 (.bin .eql (.t 37) (.c (.int .i64 1))),
 Mo 45 46] [7, 8, 9, 10, 11, 37, 45])
 (.cond (.t 45) (.seq (.reg [Mo 47 10,
 Mo 48 8,
 Mo 49 9,
 Oo 50 (.iaddr 4 (.t 48) (.t 49)),
 Oo 51 (.load true 4 (.t 50)),
 Oo 52 (.mks 1 4 true [(.str []), (.int .i64 0), (.str []), (.bool false)] [(0, (.t 51))]),
 Oo 53 (.app (some true) 4 48 (.t 47) (.t 52)),
 Mo 10 53] [7, 10, 11])
 (.reg [Oo 54 (.faddr 1 (.t 11)),
 ⟨none, none, .store 1 (.t 54) (.c (.int .i64 4)), []⟩] [7, 10, 11]))
 (.seq (.reg [Oo 56 (.bin .eql (.t 37) (.c (.int .i64 2))),
 Mo 55 56] [7, 8, 9, 10, 11, 37, 55])
 (.cond (.t 55) (.seq (.reg [Mo 57 10,
 Mo 58 9,
 Oo 59 (.iaddr 4 (.t 57) (.t 58)),
 Oo 60 (.faddr 1 (.t 59)),
 ⟨none, none, .store 1 (.t 60) (.c (.int .i64 2)), []⟩] [7, 8, 9, 10, 11])
 (.seq (.reg [Mo 61 10,
 Mo 62 9,
 Oo 63 (.mksl 1 1 false [(.int .u8 0)] (.c (.int .i64 1001)) (.c (.int .i64 1001))),
 Oo 64 (.conv .ofBytes (.t 63)),
 Oo 65 (.iaddr 4 (.t 61) (.t 62)),
 Oo 66 (.faddr 2 (.t 65)),
 ⟨none, none, .store 1 (.t 66) (.t 64), []⟩] [7, 8, 9, 10, 11])
 (.seq (.reg [Oo 67 (.faddr 1 (.t 11)),
 ⟨none, none, .store 1 (.t 67) (.c (.int .i64 7)), []⟩] [7, 8, 9, 10, 11])
 (.seq (.reg [Mo 68 8,
 Mo 69 9,
 Oo 70 (.iaddr 4 (.t 68) (.t 69)),
 Oo 71 (.faddr 1 (.t 70)),
 Oo 72 (.load false 1 (.t 71)),
 Oo 73 (.bin .eql (.t 72) (.c (.int .i64 1)))] [7, 10, 11, 73])
 (.cond (.t 73) (.seq (.reg [Mo 74 7,
 Mo 75 74,
 ⟨(some 76), some (75, true), .mv (.t 10), []⟩,
 ⟨(some 77), some (75, true), .call 14 [], []⟩,
 ⟨(some 78), some (75, true), .call 15 [(.t 76), (.t 77)], []⟩,
 ⟨(some 79), some (75, true), .fld false 1 1 (.t 78), []⟩,
 ⟨(some 80), some (75, true), .bin .neq (.t 79) (.c (.int .i64 0)), []⟩,
 Oo 81 (.pick (.t 75) (.t 80) (.c (.bool false))),
 Mo 6 81] [6])
 (.ret))
 (.skip))))))
 (.seq (.reg [Oo 83 (.bin .eql (.t 37) (.c (.int .i64 3))),
 Mo 82 83] [7, 9, 10, 11, 82])
 (.cond (.t 82) (.seq (.reg [Mo 84 10,
 Mo 85 9,
 Oo 86 (.iaddr 4 (.t 84) (.t 85)),
 Oo 87 (.faddr 1 (.t 86)),
 ⟨none, none, .store 1 (.t 87) (.c (.int .i64 4)), []⟩] [7, 10, 11])
 (.reg [Oo 88 (.faddr 1 (.t 11)),
 ⟨none, none, .store 1 (.t 88) (.c (.int .i64 5)), []⟩] [7, 10, 11]))
 (.skip)))))))))))
 (.seq (.regD [Mo 89 7,
 Mo 90 89,
 ⟨(some 91), some (90, true), .mv (.t 10), []⟩,
 ⟨(some 92), some (90, true), .call 14 [], []⟩,
 ⟨(some 93), some (90, true), .call 15 [(.t 91), (.t 92)], [3]⟩,
 ⟨(some 94), some (90, true), .load true 2 (.t 11), []⟩,
 ⟨(some 95), some (90, true), .eqv false (some [2, 1]) (.t 93) (.t 94), [4, 3]⟩,
 ⟨(some 96), none, .pick (.t 90) (.t 95) (.c (.bool false)), [4, 3]⟩,
 ⟨(some 6), none, .mv (.t 96), [4, 3]⟩] [6])
 (.ret))))))))))⟩
theorem c5 : cmpF Tryz.prog ⟨[(59, 4), (81, 4), (82, 4), (101, 4), (113, 4)], true, false⟩ Tryz.f5 K5 = some A5 := by kernel_rfl
/-- collator/collatorlaw02.TreesLimits -/
def K6 : List (List Nat) := [[0, 4, 5], [0, 4, 5, 7], [4, 5, 7, 8], [5, 7, 8, 9], [7, 8, 9, 10], [7, 8, 9, 10, 11], [7, 8, 9, 11, 12], [7, 8, 11, 12, 13], [7, 8, 11, 12, 13], [7, 11, 12, 64], [6], [7, 11, 12, 67], [6], [6]]
def A6 : AFunc := ⟨3, [.t 6], .seq (.reg [Oo 4 (.box (.t 1)),
 Oo 5 (.box (.t 2)),
 Oo 6 (.mv (.c (.bool false)))] [0, 4, 5])
 (.seq (.reg [Oo 14 (.call 10 []),
 Mo 7 14] [0, 4, 5, 7])
 (.seq (.reg [Mo 15 0,
 Oo 16 (.call 12 [(.t 15)]),
 Mo 8 16] [4, 5, 7, 8])
 (.seq (.regD [Oo 17 (.faddr 0 (.t 4)),
 Oo 18 (.load false 1 (.t 17)),
 ⟨(some 19), none, .call 11 [(.t 18), (.c (.int .i64 9))], [1]⟩,
 Oo 20 (.faddr 1 (.t 4)),
 Oo 21 (.load false 1 (.t 20)),
 ⟨(some 22), none, .call 11 [(.t 21), (.c (.int .i64 30))], [4, 2, 1]⟩,
 Mo 23 8,
 Oo 24 (.len false (.t 23)),
 Oo 25 (.faddr 2 (.t 4)),
 Oo 26 (.load false 1 (.t 25)),
 ⟨(some 27), none, .call 11 [(.t 26), (.c (.int .i64 3))], [9, 5, 4, 2, 1]⟩,
 ⟨(some 28), none, .bin .add (.t 24) (.t 27), [10, 5, 2]⟩,
 ⟨(some 29), none, .agg [(.int .i64 0), (.int .i64 0), (.int .i64 0)] [(0, 1, (.t 19)), (1, 1, (.t 22)), (2, 1, (.t 28))], [2, 5, 10]⟩,
 Oo 9 (.alloc [(.int .i64 0), (.int .i64 0), (.int .i64 0)]),
 ⟨none, none, .store 3 (.t 9) (.t 29), [13, 10, 1, 2, 4, 5, 9]⟩] [5, 7, 8, 9])
 (.seq (.regD [Oo 30 (.faddr 0 (.t 9)),
 Oo 31 (.load false 1 (.t 30)),
 Oo 32 (.aaddr 3 1 (.t 5) (.c (.int .i64 0))),
 Oo 33 (.load false 1 (.t 32)),
 ⟨(some 34), none, .call 11 [(.t 33), (.c (.int .i64 5))], [3]⟩,
 ⟨(some 35), none, .bin .add (.t 31) (.t 34), [4]⟩,
 Oo 36 (.faddr 1 (.t 9)),
 Oo 37 (.load false 1 (.t 36)),
 Oo 38 (.aaddr 3 1 (.t 5) (.c (.int .i64 1))),
 Oo 39 (.load false 1 (.t 38)),
 ⟨(some 40), none, .call 11 [(.t 39), (.c (.int .i64 30))], [9, 4, 3]⟩,
 ⟨(some 41), none, .bin .add (.t 37) (.t 40), [10, 4]⟩,
 Oo 42 (.faddr 2 (.t 9)),
 Oo 43 (.load false 1 (.t 42)),
 Oo 44 (.aaddr 3 1 (.t 5) (.c (.int .i64 2))),
 Oo 45 (.load false 1 (.t 44)),
 ⟨(some 46), none, .call 11 [(.t 45), (.c (.int .i64 5))], [15, 10, 9, 4, 3]⟩,
 ⟨(some 47), none, .bin .add (.t 43) (.t 46), [16, 10, 4]⟩,
 ⟨(some 48), none, .agg [(.int .i64 0), (.int .i64 0), (.int .i64 0)] [(0, 1, (.t 35)), (1, 1, (.t 41)), (2, 1, (.t 47))], [4, 10, 16]⟩,
 Oo 10 (.alloc [(.int .i64 0), (.int .i64 0), (.int .i64 0)]),
 ⟨none, none, .store 3 (.t 10) (.t 48), [19, 16, 1, 3, 4, 7, 9, 10, 13, 15]⟩] [7, 8, 9, 10])
 (.seq (.reg [Mo 49 8,
 Oo 50 (.load true 3 (.t 9)),
 Oo 51 (.call 15 [(.t 49), (.t 50)]),
 Oo 11 (.alloc [(.str []), (.int .i64 0)]),
 ⟨none, none, .store 2 (.t 11) (.t 51), []⟩] [7, 8, 9, 10, 11])
 (.seq (.reg [Mo 52 8,
 Oo 53 (.load true 3 (.t 10)),
 Oo 54 (.call 15 [(.t 52), (.t 53)]),
 Oo 12 (.alloc [(.str []), (.int .i64 0)]),
 ⟨none, none, .store 2 (.t 12) (.t 54), []⟩] [7, 8, 9, 11, 12])
 (.seq (.reg [Oo 55 (.load true 3 (.t 9)),
 Oo 13 (.alloc [(.int .i64 0), (.int .i64 0), (.int .i64 0)]),
 ⟨none, none, .store 3 (.t 13) (.t 55), []⟩] [7, 8, 11, 12, 13])
 (.seq (.reg [Mo 56 8,
 Oo 57 (.len false (.t 56)),
 Oo 58 (.bin .sub (.t 57) (.c (.int .i64 1))),
 Oo 59 (.faddr 2 (.t 13)),
 ⟨none, none, .store 1 (.t 59) (.t 58), []⟩] [7, 8, 11, 12, 13])
 (.seq (.seq (.reg [Mo 60 8,
 Oo 61 (.load true 3 (.t 13)),
 Oo 62 (.call 15 [(.t 60), (.t 61)]),
 Oo 63 (.agg [(.str []), (.int .i64 0)] [(1, 1, (.c (.int .i64 8)))]),
 Oo 64 (.eqv true (some [2, 1]) (.t 62) (.t 63))] [7, 11, 12, 64])
 (.cond (.t 64) (.seq (.reg [Oo 6 (.mv (.c (.bool false)))] [6])
 (.ret))
 (.skip)))
 (.seq (.seq (.reg [Oo 65 (.faddr 1 (.t 11)),
 Oo 66 (.load false 1 (.t 65)),
 Oo 67 (.bin .eql (.t 66) (.c (.int .i64 0)))] [7, 11, 12, 67])
 (.cond (.t 67) (.seq (.reg [Mo 68 7,
 Mo 69 68,
 ⟨(some 70), some (69, true), .load true 2 (.t 12), []⟩,
 ⟨(some 71), some (69, true), .agg [(.str []), (.int .i64 0)] [], []⟩,
 ⟨(some 72), some (69, true), .eqv false (some [2, 1]) (.t 70) (.t 71), []⟩,
 Oo 73 (.pick (.t 69) (.t 72) (.c (.bool false))),
 Mo 6 73] [6])
 (.ret))
 (.skip)))
 (.seq (.reg [Mo 74 7,
 Mo 75 74,
 ⟨(some 76), some (75, true), .faddr 1 (.t 12), []⟩,
 ⟨(some 77), some (75, true), .load false 1 (.t 76), []⟩,
 ⟨(some 78), some (75, true), .bin .eql (.t 77) (.c (.int .i64 0)), []⟩,
 ⟨(some 79), some (75, true), .mv (.t 78), []⟩,
 ⟨(some 80), some (79, false), .faddr 0 (.t 11), []⟩,
 ⟨(some 81), some (79, false), .load false 1 (.t 80), []⟩,
 ⟨(some 82), some (79, false), .faddr 0 (.t 12), []⟩,
 ⟨(some 83), some (79, false), .load false 1 (.t 82), []⟩,
 ⟨(some 84), some (79, false), .call 27 [(.t 81), (.t 83)], []⟩,
 ⟨(some 85), some (79, false), .bin .leq (.t 84) (.c (.int .i64 0)), []⟩,
 ⟨(some 86), some (75, true), .pick (.t 79) (.c (.bool true)) (.t 85), []⟩,
 Oo 87 (.pick (.t 75) (.t 86) (.c (.bool false))),
 Mo 6 87] [6])
 (.ret))))))))))))⟩
theorem c6 : cmpF Tryz.prog ⟨[(59, 4), (81, 4), (82, 4), (101, 4), (113, 4)], false, false⟩ Tryz.f6 K6 = some A6 := by kernel_rfl
/-- collator/collatorlaw02.TreesList -/
def K7 : List (List Nat) := [[0, 1], [0, 1, 5], [1, 5, 6], [1, 5, 6, 7], [1, 5, 6, 7, 8], [1, 5, 6, 7, 8, 25], [1, 5, 6, 7, 8, 9], [1, 5, 6, 7, 8, 9], [1, 5, 6, 7, 8, 9, 49], [4], [1, 5, 6, 7, 8, 9, 10], [1, 5, 6, 7, 8, 9, 10, 53], [1, 5, 6, 7, 8, 9, 10, 95], [4], [1, 5, 6, 7, 8, 9, 10], [1, 5, 6, 7, 8], [1, 5, 6, 99], [4], [1, 5, 6, 102], [4], [5, 6, 11], [5, 6, 11, 12, 13], [5, 11, 12, 13, 14, 15], [4]]
def L7x0 : ACode := .seq (.seq (.reg [Mo 50 10,
 Mo 51 9,
 Oo 52 (.len false (.t 51)),
 Oo 53 (.bin .lss (.t 50) (.t 52))] [1, 5, 6, 7, 8, 9, 10, 53])
 (.cond (.t 53) (.skip)
 (.exit 2)))
 (.seq (.blk 3 (.seq (.regD [Mo 56 9,
 Mo 57 10,
 Oo 58 (.iaddr 4 (.t 56) (.t 57)),
 Oo 59 (.faddr 0 (.t 58)),
 Oo 60 (.load false 1 (.t 59)),
 ⟨(some 61), none, .call 29 [(.t 60)], [4]⟩,
 Mo 62 6,
 Mo 63 8,
 Oo 64 (.iaddr 4 (.t 62) (.t 63)),
 Oo 65 (.faddr 0 (.t 64)),
 Oo 66 (.load false 1 (.t 65)),
 ⟨(some 67), none, .bin .neq (.t 61) (.t 66), [5]⟩,
 ⟨(some 68), none, .mv (.t 67), [5]⟩,
 ⟨(some 69), some (68, false), .mv (.t 6), [5]⟩,
 ⟨(some 70), some (68, false), .mv (.t 9), [5]⟩,
 ⟨(some 71), some (68, false), .mv (.t 10), [5]⟩,
 ⟨(some 72), some (68, false), .iaddr 4 (.t 70) (.t 71), [5]⟩,
 ⟨(some 73), some (68, false), .load true 4 (.t 72), [5, 10, 4]⟩,
 ⟨(some 74), some (68, false), .call 28 [(.t 69), (.t 73)], [17, 5, 10, 4]⟩,
 ⟨(some 75), some (68, false), .bin .neq (.t 74) (.c (.int .i64 1)), [18, 5]⟩,
 ⟨(some 76), none, .pick (.t 68) (.c (.bool true)) (.t 75), [5, 18]⟩,
 ⟨(some 77), none, .mv (.t 76), [18, 5]⟩,
 ⟨(some 78), some (77, false), .mv (.t 10), [18, 5]⟩,
 ⟨(some 79), some (77, false), .bin .gtr (.t 78) (.c (.int .i64 0)), [18, 5]⟩,
 ⟨(some 80), some (77, false), .mv (.t 79), [18, 5]⟩,
 ⟨(some 81), some (80, true), .mv (.t 9), [18, 5]⟩,
 ⟨(some 82), some (80, true), .mv (.t 10), [18, 5]⟩,
 ⟨(some 83), some (80, true), .bin .sub (.t 82) (.c (.int .i64 1)), [18, 5]⟩,
 ⟨(some 84), some (80, true), .iaddr 4 (.t 81) (.t 83), [18, 5]⟩,
 ⟨(some 85), some (80, true), .faddr 0 (.t 84), [18, 5]⟩,
 ⟨(some 86), some (80, true), .load false 1 (.t 85), [18, 5, 10, 4, 17]⟩,
 ⟨(some 87), some (80, true), .mv (.t 9), [18, 5]⟩,
 ⟨(some 88), some (80, true), .mv (.t 10), [18, 5]⟩,
 ⟨(some 89), some (80, true), .iaddr 4 (.t 87) (.t 88), [18, 5]⟩,
 ⟨(some 90), some (80, true), .faddr 0 (.t 89), [18, 5]⟩,
 ⟨(some 91), some (80, true), .load false 1 (.t 90), [18, 5, 10, 4, 17]⟩,
 ⟨(some 92), some (80, true), .call 27 [(.t 86), (.t 91)], [30, 35, 18, 5, 10, 4, 17]⟩,
 ⟨(some 93), some (80, true), .bin .geq (.t 92) (.c (.int .i64 0)), [36, 18, 5]⟩,
 ⟨(some 94), some (77, false), .pick (.t 80) (.t 93) (.c (.bool false)), [18, 5, 36]⟩,
 ⟨(some 95), none, .pick (.t 77) (.c (.bool true)) (.t 94), [18, 5, 36]⟩] [1, 5, 6, 7, 8, 9, 10, 95])
 (.cond (.t 95) (.seq (.reg [Oo 4 (.mv (.c (.bool false)))] [4])
 (.ret))
 (.skip))))
 (.reg [Mo 54 10,
 Oo 55 (.bin .add (.t 54) (.c (.int .i64 1))),
 Mo 10 55] [1, 5, 6, 7, 8, 9, 10]))
def L7x1 : ACode := .seq (.seq (.reg [Mo 22 8,
 Mo 23 6,
 Oo 24 (.len false (.t 23)),
 Oo 25 (.bin .lss (.t 22) (.t 24))] [1, 5, 6, 7, 8, 25])
 (.cond (.t 25) (.skip)
 (.exit 0)))
 (.seq (.blk 1 (.seq (.reg [Mo 28 6,
 Mo 29 6,
 Mo 30 8,
 Oo 31 (.iaddr 4 (.t 29) (.t 30)),
 Oo 32 (.faddr 0 (.t 31)),
 Oo 33 (.load false 1 (.t 32)),
 Oo 34 (.call 25 [(.t 28), (.t 33)]),
 Mo 9 34] [1, 5, 6, 7, 8, 9])
 (.seq (.reg [Mo 35 7,
 Mo 36 9,
 Oo 37 (.len false (.t 36)),
 Oo 38 (.bin .add (.t 35) (.t 37)),
 Mo 7 38] [1, 5, 6, 7, 8, 9])
 (.seq (.seq (.reg [Mo 39 6,
 Mo 40 8,
 Oo 41 (.iaddr 4 (.t 39) (.t 40)),
 Oo 42 (.faddr 1 (.t 41)),
 Oo 43 (.load false 1 (.t 42)),
 Oo 44 (.bin .neq (.t 43) (.c (.int .i64 1))),
 Mo 45 44,
 ⟨(some 46), some (45, true), .mv (.t 9), []⟩,
 ⟨(some 47), some (45, true), .len false (.t 46), []⟩,
 ⟨(some 48), some (45, true), .bin .gtr (.t 47) (.c (.int .i64 0)), []⟩,
 Oo 49 (.pick (.t 45) (.t 48) (.c (.bool false)))] [1, 5, 6, 7, 8, 9, 49])
 (.cond (.t 49) (.seq (.reg [Oo 4 (.mv (.c (.bool false)))] [4])
 (.ret))
 (.skip)))
 (.seq (.reg [Oo 10 (.mv (.c (.int .i64 0)))] [1, 5, 6, 7, 8, 9, 10])
 (.blk 2 (.loop L7x0)))))))
 (.reg [Mo 26 8,
 Oo 27 (.bin .add (.t 26) (.c (.int .i64 1))),
 Mo 8 27] [1, 5, 6, 7, 8]))
def A7 : AFunc := ⟨2, [.t 4], .seq (.reg [Oo 4 (.mv (.c (.bool false)))] [0, 1])
 (.seq (.reg [Oo 16 (.call 10 []),
 Mo 5 16] [0, 1, 5])
 (.seq (.reg [Mo 17 0,
 Oo 18 (.call 13 [(.t 17)]),
 Mo 6 18] [1, 5, 6])
 (.seq (.reg [Mo 19 6,
 Oo 20 (.call 25 [(.t 19), (.c (.str []))]),
 Oo 21 (.len false (.t 20)),
 Mo 7 21] [1, 5, 6, 7])
 (.seq (.seq (.reg [Oo 8 (.mv (.c (.int .i64 0)))] [1, 5, 6, 7, 8])
 (.blk 0 (.loop L7x1)))
 (.seq (.seq (.reg [Mo 96 7,
 Mo 97 6,
 Oo 98 (.len false (.t 97)),
 Oo 99 (.bin .neq (.t 96) (.t 98))] [1, 5, 6, 99])
 (.cond (.t 99) (.seq (.reg [Oo 4 (.mv (.c (.bool false)))] [4])
 (.ret))
 (.skip)))
 (.seq (.seq (.reg [Mo 100 6,
 Oo 101 (.len false (.t 100)),
 Oo 102 (.bin .eql (.t 101) (.c (.int .i64 0)))] [1, 5, 6, 102])
 (.cond (.t 102) (.seq (.reg [Mo 103 5,
 Mo 4 103] [4])
 (.ret))
 (.skip)))
 (.seq (.reg [Mo 104 6,
 Mo 105 1,
 Mo 106 6,
 Oo 107 (.len false (.t 106)),
 Oo 108 (.call 11 [(.t 105), (.t 107)]),
 Oo 109 (.iaddr 4 (.t 104) (.t 108)),
 Oo 110 (.load true 4 (.t 109)),
 Oo 11 (.alloc [(.str []), (.int .i64 0), (.str []), (.bool false)]),
 ⟨none, none, .store 4 (.t 11) (.t 110), []⟩] [5, 6, 11])
 (.seq (.reg [Mo 112 6,
 Oo 113 (.faddr 0 (.t 11)),
 Oo 114 (.load false 1 (.t 113)),
 Oo 115 (.call 21 [(.t 112), (.t 114)]),
 Mo 111 115,
 Oo 116 (.ext (.t 111) 0),
 Oo 117 (.ext (.t 111) 1),
 Oo 12 (.alloc [(.str []), (.int .i64 0), (.str []), (.bool false)]),
 ⟨none, none, .store 4 (.t 12) (.t 116), []⟩,
 Mo 13 117] [5, 6, 11, 12, 13])
 (.seq (.reg [Mo 119 6,
 Oo 120 (.faddr 0 (.t 11)),
 Oo 121 (.load false 1 (.t 120)),
 Oo 122 (.call 23 [(.t 119), (.t 121)]),
 Mo 118 122,
 Oo 123 (.ext (.t 118) 0),
 Oo 124 (.ext (.t 118) 1),
 Mo 14 123,
 Mo 15 124] [5, 11, 12, 13, 14, 15])
 (.seq (.reg [Mo 125 5,
 Mo 126 125,
 ⟨(some 127), some (126, true), .mv (.t 13), []⟩,
 Oo 128 (.pick (.t 126) (.t 127) (.c (.bool false))),
 Mo 129 128,
 ⟨(some 130), some (129, true), .load true 4 (.t 12), []⟩,
 ⟨(some 131), some (129, true), .load true 4 (.t 11), []⟩,
 ⟨(some 132), some (129, true), .eqv false (some [2, 1, 2, 0]) (.t 130) (.t 131), []⟩,
 Oo 133 (.pick (.t 129) (.t 132) (.c (.bool false))),
 Mo 134 133,
 ⟨(some 135), some (134, true), .faddr 1 (.t 11), []⟩,
 ⟨(some 136), some (134, true), .load false 1 (.t 135), []⟩,
 ⟨(some 137), some (134, true), .bin .eql (.t 136) (.c (.int .i64 2)), []⟩,
 ⟨(some 138), some (134, true), .mv (.t 15), []⟩,
 ⟨(some 139), some (134, true), .bin .eql (.t 138) (.c (.int .i64 0)), []⟩,
 ⟨(some 140), some (134, true), .eqv false none (.t 137) (.t 139), []⟩,
 Oo 141 (.pick (.t 134) (.t 140) (.c (.bool false))),
 Mo 142 141,
 ⟨(some 143), some (142, true), .mv (.t 15), []⟩,
 ⟨(some 144), some (142, true), .bin .neq (.t 143) (.c (.int .i64 0)), []⟩,
 ⟨(some 145), some (142, true), .mv (.t 144), []⟩,
 ⟨(some 146), some (145, false), .mv (.t 14), []⟩,
 ⟨(some 147), some (145, false), .faddr 2 (.t 11), []⟩,
 ⟨(some 148), some (145, false), .load false 1 (.t 147), []⟩,
 ⟨(some 149), some (145, false), .bin .eql (.t 146) (.t 148), []⟩,
 ⟨(some 150), some (142, true), .pick (.t 145) (.c (.bool true)) (.t 149), []⟩,
 Oo 151 (.pick (.t 142) (.t 150) (.c (.bool false))),
 Mo 4 151] [4])
 (.ret)))))))))))⟩
theorem c7 : cmpF Tryz.prog ⟨[(59, 4), (81, 4), (82, 4), (101, 4), (113, 4)], false, false⟩ Tryz.f7 K7 = some A7 := by kernel_rfl
/-- collator/collatorlaw02.TreesLeaf -/
def K8 : List (List Nat) := [[0, 1], [0, 1, 5], [1, 5, 6], [1, 5, 6, 15], [4], [5, 6, 7], [5, 6, 7, 8], [5, 8, 9], [5, 8, 9, 41], [4], [4]]
def A8 : AFunc := ⟨2, [.t 4], .seq (.reg [Oo 4 (.mv (.c (.bool false)))] [0, 1])
 (.seq (.reg [Oo 10 (.call 10 []),
 Mo 5 10] [0, 1, 5])
 (.seq (.reg [Mo 11 0,
 Oo 12 (.call 13 [(.t 11)]),
 Mo 6 12] [1, 5, 6])
 (.seq (.seq (.reg [Mo 13 6,
 Oo 14 (.len false (.t 13)),
 Oo 15 (.bin .eql (.t 14) (.c (.int .i64 0)))] [1, 5, 6, 15])
 (.cond (.t 15) (.seq (.reg [Mo 16 5,
 Mo 4 16] [4])
 (.ret))
 (.skip)))
 (.seq (.reg [Mo 17 1,
 Mo 18 6,
 Oo 19 (.len false (.t 18)),
 Oo 20 (.call 11 [(.t 17), (.t 19)]),
 Mo 7 20] [5, 6, 7])
 (.seq (.reg [Mo 21 6,
 Mo 22 6,
 Mo 23 7,
 Oo 24 (.iaddr 4 (.t 22) (.t 23)),
 Oo 25 (.faddr 0 (.t 24)),
 Oo 26 (.load false 1 (.t 25)),
 Oo 27 (.call 25 [(.t 21), (.t 26)]),
 Mo 8 27] [5, 6, 7, 8])
 (.seq (.regD [Mo 28 6,
 Mo 29 7,
 Oo 30 (.slice (some 4) (.t 28) none (some (.t 29)) none),
 Oo 31 (.app none 4 48 (.c (.sl 4 [] .nil)) (.t 30)),
 Mo 32 6,
 Mo 33 7,
 Oo 34 (.bin .add (.t 33) (.c (.int .i64 1))),
 Oo 35 (.slice (some 4) (.t 32) (some (.t 34)) none none),
 ⟨(some 36), none, .app none 4 48 (.t 31) (.t 35), [3]⟩,
 ⟨(some 37), none, .call 14 [], [8, 3]⟩,
 ⟨(some 38), none, .call 15 [(.t 36), (.t 37)], [8, 9, 3]⟩,
 Oo 9 (.alloc [(.str []), (.int .i64 0)]),
 ⟨none, none, .store 2 (.t 9) (.t 38), [11, 10, 3, 8, 9]⟩] [5, 8, 9])
 (.seq (.seq (.reg [Mo 39 8,
 Oo 40 (.len false (.t 39)),
 Oo 41 (.bin .eql (.t 40) (.c (.int .i64 0)))] [5, 8, 9, 41])
 (.cond (.t 41) (.seq (.reg [Mo 42 5,
 Mo 43 42,
 ⟨(some 44), some (43, true), .load true 2 (.t 9), []⟩,
 ⟨(some 45), some (43, true), .agg [(.str []), (.int .i64 0)] [], []⟩,
 ⟨(some 46), some (43, true), .eqv false (some [2, 1]) (.t 44) (.t 45), []⟩,
 Oo 47 (.pick (.t 43) (.t 46) (.c (.bool false))),
 Mo 4 47] [4])
 (.ret))
 (.skip)))
 (.seq (.regD [Mo 48 5,
 Mo 49 48,
 ⟨(some 50), some (49, true), .load true 2 (.t 9), []⟩,
 ⟨(some 51), some (49, true), .mv (.t 8), []⟩,
 ⟨(some 52), some (49, true), .iaddr 4 (.t 51) (.c (.int .i64 0)), []⟩,
 ⟨(some 53), some (49, true), .faddr 0 (.t 52), []⟩,
 ⟨(some 54), some (49, true), .load false 1 (.t 53), []⟩,
 ⟨(some 55), some (49, true), .agg [(.str []), (.int .i64 0)] [(0, 1, (.t 54)), (1, 1, (.c (.int .i64 6)))], []⟩,
 ⟨(some 56), some (49, true), .eqv false (some [2, 1]) (.t 50) (.t 55), []⟩,
 Oo 57 (.pick (.t 49) (.t 56) (.c (.bool false))),
 Mo 4 57] [4])
 (.ret)))))))))⟩
theorem c8 : cmpF Tryz.prog ⟨[(59, 4), (81, 4), (82, 4), (101, 4), (113, 4)], false, false⟩ Tryz.f8 K8 = some A8 := by kernel_rfl
/-- collator/collatorlaw02.TreesUnder -/
def K9 : List (List Nat) := [[0, 1], [0, 1, 5], [1, 5, 6], [5, 6, 7], [5, 6, 7, 8], [5, 6, 7, 8, 9], [5, 6, 7, 8, 9, 30], [5, 6, 7, 8, 9, 36], [5, 6, 7, 8, 9, 10], [5, 6, 7, 8, 9, 10], [5, 6, 7, 8, 9], [5, 6, 7, 8, 9, 52], [5, 6, 7, 8, 9, 11], [5, 6, 7, 8, 9, 11], [5, 6, 7, 8, 9], [5, 6, 7, 8, 9], [5, 6, 7, 8, 12], [5, 6, 7, 8, 12, 13], [5, 6, 8, 12, 13, 98], [4], [5, 6, 8, 12, 13, 14], [5, 6, 8, 12, 13, 14, 102], [5, 6, 8, 12, 13, 14, 15], [5, 6, 8, 12, 13, 14, 15], [5, 6, 8, 12, 13, 14, 119], [4], [5, 6, 8, 12, 13, 14], [4]]
def L9x0 : ACode := .seq (.seq (.reg [Mo 24 9,
 Mo 25 6,
 Oo 26 (.len false (.t 25)),
 Mo 27 7,
 Oo 28 (.len false (.t 27)),
 Oo 29 (.max [(.t 26), (.t 28)]),
 Oo 30 (.bin .lss (.t 24) (.t 29))] [5, 6, 7, 8, 9, 30])
 (.cond (.t 30) (.skip)
 (.exit 0)))
 (.seq (.blk 1 (.seq (.seq (.reg [Mo 33 9,
 Mo 34 7,
 Oo 35 (.len false (.t 34)),
 Oo 36 (.bin .lss (.t 33) (.t 35))] [5, 6, 7, 8, 9, 36])
 (.cond (.t 36) (.seq (.reg [Mo 37 7,
 Mo 38 9,
 Oo 39 (.iaddr 4 (.t 37) (.t 38)),
 Oo 40 (.load true 4 (.t 39)),
 Oo 10 (.alloc [(.str []), (.int .i64 0), (.str []), (.bool false)]),
 ⟨none, none, .store 4 (.t 10) (.t 40), []⟩] [5, 6, 7, 8, 9, 10])
 (.seq (.reg [Oo 41 (.faddr 0 (.t 10)),
 Oo 42 (.load false 1 (.t 41)),
 Oo 43 (.bin .add (.c (.str [121, 47])) (.t 42)),
 Oo 44 (.faddr 0 (.t 10)),
 ⟨none, none, .store 1 (.t 44) (.t 43), []⟩] [5, 6, 7, 8, 9, 10])
 (.reg [Mo 45 8,
 Oo 46 (.load true 4 (.t 10)),
 Oo 47 (.mks 1 4 true [(.str []), (.int .i64 0), (.str []), (.bool false)] [(0, (.t 46))]),
 Oo 48 (.app none 4 48 (.t 45) (.t 47)),
 Mo 8 48] [5, 6, 7, 8, 9])))
 (.skip)))
 (.seq (.reg [Mo 49 9,
 Mo 50 6,
 Oo 51 (.len false (.t 50)),
 Oo 52 (.bin .lss (.t 49) (.t 51))] [5, 6, 7, 8, 9, 52])
 (.cond (.t 52) (.seq (.reg [Mo 53 6,
 Mo 54 9,
 Oo 55 (.iaddr 4 (.t 53) (.t 54)),
 Oo 56 (.load true 4 (.t 55)),
 Oo 11 (.alloc [(.str []), (.int .i64 0), (.str []), (.bool false)]),
 ⟨none, none, .store 4 (.t 11) (.t 56), []⟩] [5, 6, 7, 8, 9, 11])
 (.seq (.reg [Oo 57 (.faddr 0 (.t 11)),
 Oo 58 (.load false 1 (.t 57)),
 Oo 59 (.bin .add (.c (.str [120, 47])) (.t 58)),
 Oo 60 (.faddr 0 (.t 11)),
 ⟨none, none, .store 1 (.t 60) (.t 59), []⟩] [5, 6, 7, 8, 9, 11])
 (.reg [Mo 61 8,
 Oo 62 (.load true 4 (.t 11)),
 Oo 63 (.mks 1 4 true [(.str []), (.int .i64 0), (.str []), (.bool false)] [(0, (.t 62))]),
 Oo 64 (.app none 4 48 (.t 61) (.t 63)),
 Mo 8 64] [5, 6, 7, 8, 9])))
 (.skip)))))
 (.reg [Mo 31 9,
 Oo 32 (.bin .add (.t 31) (.c (.int .i64 1))),
 Mo 9 32] [5, 6, 7, 8, 9]))
def L9x1 : ACode := .seq (.seq (.reg [Mo 99 14,
 Mo 100 13,
 Oo 101 (.len false (.t 100)),
 Oo 102 (.bin .lss (.t 99) (.t 101))] [5, 6, 8, 12, 13, 14, 102])
 (.cond (.t 102) (.skip)
 (.exit 2)))
 (.seq (.blk 3 (.seq (.reg [Mo 105 13,
 Mo 106 14,
 Oo 107 (.iaddr 4 (.t 105) (.t 106)),
 Oo 108 (.load true 4 (.t 107)),
 Oo 15 (.alloc [(.str []), (.int .i64 0), (.str []), (.bool false)]),
 ⟨none, none, .store 4 (.t 15) (.t 108), []⟩] [5, 6, 8, 12, 13, 14, 15])
 (.seq (.reg [Oo 109 (.faddr 0 (.t 15)),
 Oo 110 (.load false 1 (.t 109)),
 Oo 111 (.bin .add (.c (.str [120, 47])) (.t 110)),
 Oo 112 (.faddr 0 (.t 15)),
 ⟨none, none, .store 1 (.t 112) (.t 111), []⟩] [5, 6, 8, 12, 13, 14, 15])
 (.seq (.regD [Mo 113 12,
 Mo 114 14,
 Oo 115 (.bin .add (.c (.int .i64 1)) (.t 114)),
 Oo 116 (.iaddr 4 (.t 113) (.t 115)),
 Oo 117 (.load true 4 (.t 116)),
 Oo 118 (.load true 4 (.t 15)),
 Oo 119 (.eqv true (some [2, 1, 2, 0]) (.t 117) (.t 118))] [5, 6, 8, 12, 13, 14, 119])
 (.cond (.t 119) (.seq (.reg [Oo 4 (.mv (.c (.bool false)))] [4])
 (.ret))
 (.skip))))))
 (.reg [Mo 103 14,
 Oo 104 (.bin .add (.t 103) (.c (.int .i64 1))),
 Mo 14 104] [5, 6, 8, 12, 13, 14]))
def A9 : AFunc := ⟨2, [.t 4], .seq (.reg [Oo 4 (.mv (.c (.bool false)))] [0, 1])
 (.seq (.reg [Oo 16 (.call 10 []),
 Mo 5 16] [0, 1, 5])
 (.seq (.reg [Mo 17 0,
 Oo 18 (.call 13 [(.t 17)]),
 Mo 6 18] [1, 5, 6])
 (.seq (.reg [Mo 19 1,
 Oo 20 (.call 13 [(.t 19)]),
 Mo 7 20] [5, 6, 7])
 (.seq (.reg [Oo 21 (.agg [(.str []), (.int .i64 0), (.str []), (.bool false)] [(0, 1, (.c (.str [121]))), (1, 1, (.c (.int .i64 1)))]),
 Oo 22 (.agg [(.str []), (.int .i64 0), (.str []), (.bool false)] [(0, 1, (.c (.str [120]))), (1, 1, (.c (.int .i64 1)))]),
 Oo 23 (.mks 2 4 true [(.str []), (.int .i64 0), (.str []), (.bool false)] [(0, (.t 21)), (1, (.t 22))]),
 Mo 8 23] [5, 6, 7, 8])
 (.seq (.seq (.reg [Oo 9 (.mv (.c (.int .i64 0)))] [5, 6, 7, 8, 9])
 (.blk 0 (.loop L9x0)))
 (.seq (.reg [Mo 65 8,
 Oo 66 (.call 18 [(.t 65)]),
 Mo 12 66] [5, 6, 7, 8, 12])
 (.seq (.reg [Mo 67 6,
 Oo 68 (.call 18 [(.t 67)]),
 Mo 13 68] [5, 6, 7, 8, 12, 13])
 (.seq (.seq (.reg [Mo 69 8,
 Oo 70 (.agg [(.int .i64 0), (.int .i64 0), (.int .i64 0)] [(0, 1, (.c (.int .i64 16))), (1, 1, (.c (.int .i64 1000))), (2, 1, (.c (.int .i64 300)))]),
 Oo 71 (.call 15 [(.t 69), (.t 70)]),
 Oo 72 (.agg [(.str []), (.int .i64 0)] []),
 Oo 73 (.eqv true (some [2, 1]) (.t 71) (.t 72)),
 Mo 74 73,
 ⟨(some 75), some (74, false), .mv (.t 12), []⟩,
 ⟨(some 76), some (74, false), .len false (.t 75), []⟩,
 ⟨(some 77), some (74, false), .mv (.t 6), []⟩,
 ⟨(some 78), some (74, false), .len false (.t 77), []⟩,
 ⟨(some 79), some (74, false), .mv (.t 7), []⟩,
 ⟨(some 80), some (74, false), .len false (.t 79), []⟩,
 ⟨(some 81), some (74, false), .bin .add (.t 78) (.t 80), []⟩,
 ⟨(some 82), some (74, false), .bin .add (.t 81) (.c (.int .i64 2)), []⟩,
 ⟨(some 83), some (74, false), .bin .neq (.t 76) (.t 82), []⟩,
 Oo 84 (.pick (.t 74) (.c (.bool true)) (.t 83)),
 Mo 85 84,
 ⟨(some 86), some (85, false), .mv (.t 13), []⟩,
 ⟨(some 87), some (85, false), .len false (.t 86), []⟩,
 ⟨(some 88), some (85, false), .mv (.t 6), []⟩,
 ⟨(some 89), some (85, false), .len false (.t 88), []⟩,
 ⟨(some 90), some (85, false), .bin .neq (.t 87) (.t 89), []⟩,
 Oo 91 (.pick (.t 85) (.c (.bool true)) (.t 90)),
 Mo 92 91,
 ⟨(some 93), some (92, false), .mv (.t 12), []⟩,
 ⟨(some 94), some (92, false), .iaddr 4 (.t 93) (.c (.int .i64 0)), []⟩,
 ⟨(some 95), some (92, false), .faddr 0 (.t 94), []⟩,
 ⟨(some 96), some (92, false), .load false 1 (.t 95), []⟩,
 ⟨(some 97), some (92, false), .bin .neq (.t 96) (.c (.str [120])), []⟩,
 Oo 98 (.pick (.t 92) (.c (.bool true)) (.t 97))] [5, 6, 8, 12, 13, 98])
 (.cond (.t 98) (.seq (.reg [Oo 4 (.mv (.c (.bool false)))] [4])
 (.ret))
 (.skip)))
 (.seq (.seq (.reg [Oo 14 (.mv (.c (.int .i64 0)))] [5, 6, 8, 12, 13, 14])
 (.blk 2 (.loop L9x1)))
 (.seq (.reg [Mo 120 5,
 Mo 121 120,
 ⟨(some 122), some (121, true), .mv (.t 12), []⟩,
 ⟨(some 123), some (121, true), .mv (.t 6), []⟩,
 ⟨(some 124), some (121, true), .len false (.t 123), []⟩,
 ⟨(some 125), some (121, true), .bin .add (.c (.int .i64 1)) (.t 124), []⟩,
 ⟨(some 126), some (121, true), .iaddr 4 (.t 122) (.t 125), []⟩,
 ⟨(some 127), some (121, true), .faddr 0 (.t 126), []⟩,
 ⟨(some 128), some (121, true), .load false 1 (.t 127), []⟩,
 ⟨(some 129), some (121, true), .bin .eql (.t 128) (.c (.str [121])), []⟩,
 Oo 130 (.pick (.t 121) (.t 129) (.c (.bool false))),
 Mo 131 130,
 ⟨(some 132), some (131, true), .mv (.t 8), []⟩,
 ⟨(some 133), some (131, true), .call 25 [(.t 132), (.c (.str []))], []⟩,
 ⟨(some 134), some (131, true), .len false (.t 133), []⟩,
 ⟨(some 135), some (131, true), .bin .eql (.t 134) (.c (.int .i64 2)), []⟩,
 Oo 136 (.pick (.t 131) (.t 135) (.c (.bool false))),
 Mo 4 136] [4])
 (.ret)))))))))))⟩
theorem c9 : cmpF Tryz.prog ⟨[(59, 4), (81, 4), (82, 4), (101, 4), (113, 4)], false, false⟩ Tryz.f9 K9 = some A9 := by kernel_rfl
/-- collator/collatorlaw02.awake -/
def K10 : List (List Nat) := [[], [1], [1, 2], [1, 2, 3, 4], [1, 2, 3, 4, 6], [1, 2, 3, 4, 6, 8], [1, 2, 3, 4, 6, 8, 10], [1, 2, 3, 4, 6, 8, 10, 11, 12], [1, 2, 3, 4, 6, 8, 10, 11, 12, 13], [0]]
def A10 : AFunc := ⟨0, [.t 0], .seq (.reg [Oo 0 (.mv (.c (.bool false)))] [])
 (.seq (.reg [Oo 14 (.call 14 []),
 Oo 1 (.alloc [(.int .i64 0), (.int .i64 0), (.int .i64 0)]),
 ⟨none, none, .store 3 (.t 1) (.t 14), []⟩] [1])
 (.seq (.reg [Oo 15 (.agg [(.str []), (.int .i64 0), (.str []), (.bool false)] [(0, 1, (.c (.str [98]))), (1, 1, (.c (.int .i64 2))), (2, 1, (.c (.str [120])))]),
 Oo 16 (.agg [(.str []), (.int .i64 0), (.str []), (.bool false)] [(0, 1, (.c (.str [97]))), (1, 1, (.c (.int .i64 1)))]),
 Oo 17 (.agg [(.str []), (.int .i64 0), (.str []), (.bool false)] [(0, 1, (.c (.str [97, 47, 99]))), (1, 1, (.c (.int .i64 2))), (3, 1, (.c (.bool true)))]),
 Oo 18 (.mks 3 4 true [(.str []), (.int .i64 0), (.str []), (.bool false)] [(0, (.t 15)), (1, (.t 16)), (2, (.t 17))]),
 Mo 2 18] [1, 2])
 (.seq (.reg [Mo 20 2,
 Oo 21 (.call 23 [(.t 20), (.c (.str [98]))]),
 Mo 19 21,
 Oo 22 (.ext (.t 19) 0),
 Oo 23 (.ext (.t 19) 1),
 Mo 3 22,
 Mo 4 23] [1, 2, 3, 4])
 (.seq (.reg [Mo 25 2,
 Oo 26 (.call 23 [(.t 25), (.c (.str [97]))]),
 Mo 24 26,
 Oo 27 (.ext (.t 24) 0),
 Oo 28 (.ext (.t 24) 1),
 Mo 5 27,
 Mo 6 28] [1, 2, 3, 4, 6])
 (.seq (.reg [Mo 30 2,
 Oo 31 (.call 23 [(.t 30), (.c (.str [97, 47, 99]))]),
 Mo 29 31,
 Oo 32 (.ext (.t 29) 0),
 Oo 33 (.ext (.t 29) 1),
 Mo 7 32,
 Mo 8 33] [1, 2, 3, 4, 6, 8])
 (.seq (.reg [Mo 35 2,
 Oo 36 (.call 23 [(.t 35), (.c (.str [122]))]),
 Mo 34 36,
 Oo 37 (.ext (.t 34) 0),
 Oo 38 (.ext (.t 34) 1),
 Mo 9 37,
 Mo 10 38] [1, 2, 3, 4, 6, 8, 10])
 (.seq (.reg [Mo 40 2,
 Oo 41 (.call 21 [(.t 40), (.c (.str [98]))]),
 Mo 39 41,
 Oo 42 (.ext (.t 39) 0),
 Oo 43 (.ext (.t 39) 1),
 Oo 11 (.alloc [(.str []), (.int .i64 0), (.str []), (.bool false)]),
 ⟨none, none, .store 4 (.t 11) (.t 42), []⟩,
 Mo 12 43] [1, 2, 3, 4, 6, 8, 10, 11, 12])
 (.seq (.reg [Mo 44 2,
 Oo 45 (.call 25 [(.t 44), (.c (.str []))]),
 Mo 13 45] [1, 2, 3, 4, 6, 8, 10, 11, 12, 13])
 (.seq (.regD [Oo 46 (.agg [(.str []), (.int .i64 0), (.str []), (.bool false)] [(0, 1, (.c (.str [98, 47, 99]))), (1, 1, (.c (.int .i64 2)))]),
 Oo 47 (.mks 1 4 true [(.str []), (.int .i64 0), (.str []), (.bool false)] [(0, (.t 46))]),
 Oo 48 (.load true 3 (.t 1)),
 ⟨(some 49), none, .call 15 [(.t 47), (.t 48)], [2]⟩,
 Oo 50 (.agg [(.str []), (.int .i64 0)] [(0, 1, (.c (.str [98, 47, 99]))), (1, 1, (.c (.int .i64 6)))]),
 ⟨(some 51), none, .eqv false (some [2, 1]) (.t 49) (.t 50), [3]⟩,
 ⟨(some 52), none, .mv (.t 51), [3]⟩,
 ⟨(some 53), some (52, true), .agg [(.str []), (.int .i64 0), (.str []), (.bool false)] [(0, 1, (.c (.str [97]))), (1, 1, (.c (.int .i64 2))), (3, 1, (.c (.bool true)))], [3]⟩,
 ⟨(some 54), some (52, true), .agg [(.str []), (.int .i64 0), (.str []), (.bool false)] [(0, 1, (.c (.str [47, 47]))), (1, 1, (.c (.int .i64 2)))], [3]⟩,
 ⟨(some 55), some (52, true), .mks 2 4 true [(.str []), (.int .i64 0), (.str []), (.bool false)] [(0, (.t 53)), (1, (.t 54))], [3]⟩,
 ⟨(some 56), some (52, true), .load true 3 (.t 1), [3, 2]⟩,
 ⟨(some 57), some (52, true), .call 15 [(.t 55), (.t 56)], [10, 3, 2]⟩,
 ⟨(some 58), some (52, true), .agg [(.str []), (.int .i64 0)] [(0, 1, (.c (.str [47, 47]))), (1, 1, (.c (.int .i64 2)))], [3]⟩,
 ⟨(some 59), some (52, true), .eqv false (some [2, 1]) (.t 57) (.t 58), [11, 3]⟩,
 ⟨(some 60), none, .pick (.t 52) (.t 59) (.c (.bool false)), [3, 11]⟩,
 ⟨(some 61), none, .mv (.t 60), [11, 3]⟩,
 ⟨(some 62), some (61, true), .mv (.t 2), [11, 3]⟩,
 ⟨(some 63), some (61, true), .load true 3 (.t 1), [11, 3, 2, 10]⟩,
 ⟨(some 64), some (61, true), .call 15 [(.t 62), (.t 63)], [17, 11, 3, 2, 10]⟩,
 ⟨(some 65), some (61, true), .agg [(.str []), (.int .i64 0)] [(0, 1, (.c (.str [97, 47, 99]))), (1, 1, (.c (.int .i64 9)))], [11, 3]⟩,
 ⟨(some 66), some (61, true), .eqv false (some [2, 1]) (.t 64) (.t 65), [18, 11, 3]⟩,
 ⟨(some 67), none, .pick (.t 61) (.t 66) (.c (.bool false)), [11, 3, 18]⟩,
 ⟨(some 68), none, .mv (.t 67), [18, 11, 3]⟩,
 ⟨(some 69), some (68, true), .mv (.t 2), [18, 11, 3]⟩,
 ⟨(some 70), some (68, true), .agg [(.int .i64 0), (.int .i64 0), (.int .i64 0)] [(2, 1, (.c (.int .i64 2)))], [18, 11, 3]⟩,
 ⟨(some 71), some (68, true), .call 15 [(.t 69), (.t 70)], [18, 11, 3, 2, 10, 17]⟩,
 ⟨(some 72), some (68, true), .agg [(.str []), (.int .i64 0)] [(1, 1, (.c (.int .i64 8)))], [18, 11, 3]⟩,
 ⟨(some 73), some (68, true), .eqv false (some [2, 1]) (.t 71) (.t 72), [25, 18, 11, 3]⟩,
 ⟨(some 74), none, .pick (.t 68) (.t 73) (.c (.bool false)), [18, 11, 3, 25]⟩,
 ⟨(some 75), none, .mv (.t 74), [25, 18, 11, 3]⟩,
 ⟨(some 76), some (75, true), .agg [(.int .i64 0), (.int .i64 0), (.int .i64 0)] [], [25, 18, 11, 3]⟩,
 ⟨(some 77), some (75, true), .call 15 [(.c (.sl 4 [] .nil)), (.t 76)], [25, 18, 11, 3, 2, 10, 17]⟩,
 ⟨(some 78), some (75, true), .agg [(.str []), (.int .i64 0)] [], [25, 18, 11, 3]⟩,
 ⟨(some 79), some (75, true), .eqv false (some [2, 1]) (.t 77) (.t 78), [31, 25, 18, 11, 3]⟩,
 ⟨(some 80), none, .pick (.t 75) (.t 79) (.c (.bool false)), [25, 18, 11, 3, 31]⟩,
 ⟨(some 81), none, .mv (.t 80), [31, 25, 18, 11, 3]⟩,
 ⟨(some 82), some (81, true), .mv (.t 4), [31, 25, 18, 11, 3]⟩,
 ⟨(some 83), some (81, true), .bin .eql (.t 82) (.c (.int .i64 0)), [31, 25, 18, 11, 3]⟩,
 ⟨(some 84), none, .pick (.t 81) (.t 83) (.c (.bool false)), [31, 25, 18, 11, 3]⟩,
 ⟨(some 85), none, .mv (.t 84), [31, 25, 18, 11, 3]⟩,
 ⟨(some 86), some (85, true), .mv (.t 3), [31, 25, 18, 11, 3]⟩,
 ⟨(some 87), some (85, true), .bin .eql (.t 86) (.c (.str [120])), [31, 25, 18, 11, 3]⟩,
 ⟨(some 88), none, .pick (.t 85) (.t 87) (.c (.bool false)), [31, 25, 18, 11, 3]⟩,
 ⟨(some 89), none, .mv (.t 88), [31, 25, 18, 11, 3]⟩,
 ⟨(some 90), some (89, true), .mv (.t 6), [31, 25, 18, 11, 3]⟩,
 ⟨(some 91), some (89, true), .bin .eql (.t 90) (.c (.int .i64 5)), [31, 25, 18, 11, 3]⟩,
 ⟨(some 92), none, .pick (.t 89) (.t 91) (.c (.bool false)), [31, 25, 18, 11, 3]⟩,
 ⟨(some 93), none, .mv (.t 92), [31, 25, 18, 11, 3]⟩,
 ⟨(some 94), some (93, true), .mv (.t 8), [31, 25, 18, 11, 3]⟩,
 ⟨(some 95), some (93, true), .bin .eql (.t 94) (.c (.int .i64 9)), [31, 25, 18, 11, 3]⟩,
 ⟨(some 96), none, .pick (.t 93) (.t 95) (.c (.bool false)), [31, 25, 18, 11, 3]⟩,
 ⟨(some 97), none, .mv (.t 96), [31, 25, 18, 11, 3]⟩,
 ⟨(some 98), some (97, true), .mv (.t 10), [31, 25, 18, 11, 3]⟩,
 ⟨(some 99), some (97, true), .bin .eql (.t 98) (.c (.int .i64 10)), [31, 25, 18, 11, 3]⟩,
 ⟨(some 100), none, .pick (.t 97) (.t 99) (.c (.bool false)), [31, 25, 18, 11, 3]⟩,
 ⟨(some 101), none, .mv (.t 100), [31, 25, 18, 11, 3]⟩,
 ⟨(some 102), some (101, true), .mv (.t 12), [31, 25, 18, 11, 3]⟩,
 ⟨(some 103), none, .pick (.t 101) (.t 102) (.c (.bool false)), [31, 25, 18, 11, 3]⟩,
 ⟨(some 104), none, .mv (.t 103), [31, 25, 18, 11, 3]⟩,
 ⟨(some 105), some (104, true), .load true 4 (.t 11), [31, 25, 18, 11, 3, 2, 10, 17]⟩,
 ⟨(some 106), some (104, true), .mv (.t 2), [31, 25, 18, 11, 3]⟩,
 ⟨(some 107), some (104, true), .iaddr 4 (.t 106) (.c (.int .i64 0)), [31, 25, 18, 11, 3]⟩,
 ⟨(some 108), some (104, true), .load true 4 (.t 107), [31, 25, 18, 11, 3, 2, 10, 17]⟩,
 ⟨(some 109), some (104, true), .eqv false (some [2, 1, 2, 0]) (.t 105) (.t 108), [31, 25, 18, 11, 3]⟩,
 ⟨(some 110), none, .pick (.t 104) (.t 109) (.c (.bool false)), [31, 25, 18, 11, 3]⟩,
 ⟨(some 111), none, .mv (.t 110), [31, 25, 18, 11, 3]⟩,
 ⟨(some 112), some (111, true), .mv (.t 13), [31, 25, 18, 11, 3]⟩,
 ⟨(some 113), some (111, true), .mv (.t 2), [31, 25, 18, 11, 3]⟩,
 ⟨(some 114), some (111, true), .iaddr 4 (.t 113) (.c (.int .i64 1)), [31, 25, 18, 11, 3]⟩,
 ⟨(some 115), some (111, true), .load true 4 (.t 114), [31, 25, 18, 11, 3, 2, 10, 17, 59, 62]⟩,
 ⟨(some 116), some (111, true), .mv (.t 2), [31, 25, 18, 11, 3]⟩,
 ⟨(some 117), some (111, true), .iaddr 4 (.t 116) (.c (.int .i64 0)), [31, 25, 18, 11, 3]⟩,
 ⟨(some 118), some (111, true), .load true 4 (.t 117), [31, 25, 18, 11, 3, 2, 10, 17, 59, 62]⟩,
 ⟨(some 119), some (111, true), .mks 2 4 true [(.str []), (.int .i64 0), (.str []), (.bool false)] [(0, (.t 115)), (1, (.t 118))], [31, 25, 18, 11, 3]⟩,
 ⟨(some 120), some (111, true), .call 17 [(.t 112), (.t 119)], [31, 25, 18, 11, 3, 2, 10, 17, 59, 62, 69, 72]⟩,
 ⟨(some 121), none, .pick (.t 111) (.t 120) (.c (.bool false)), [74, 31, 25, 18, 11, 3]⟩,
 ⟨(some 122), none, .mv (.t 121), [74, 31, 25, 18, 11, 3]⟩,
 ⟨(some 123), some (122, true), .mv (.t 2), [74, 31, 25, 18, 11, 3]⟩,
 ⟨(some 124), some (122, true), .call 18 [(.t 123)], [74, 31, 25, 18, 11, 3, 2, 10, 17, 59, 62, 69, 72]⟩,
 ⟨(some 125), some (122, true), .mv (.t 2), [74, 31, 25, 18, 11, 3]⟩,
 ⟨(some 126), some (122, true), .iaddr 4 (.t 125) (.c (.int .i64 1)), [74, 31, 25, 18, 11, 3]⟩,
 ⟨(some 127), some (122, true), .load true 4 (.t 126), [74, 31, 25, 18, 11, 3, 2, 10, 17, 59, 62, 69, 72]⟩,
 ⟨(some 128), some (122, true), .mv (.t 2), [74, 31, 25, 18, 11, 3]⟩,
 ⟨(some 129), some (122, true), .iaddr 4 (.t 128) (.c (.int .i64 2)), [74, 31, 25, 18, 11, 3]⟩,
 ⟨(some 130), some (122, true), .load true 4 (.t 129), [74, 31, 25, 18, 11, 3, 2, 10, 17, 59, 62, 69, 72]⟩,
 ⟨(some 131), some (122, true), .mv (.t 2), [74, 31, 25, 18, 11, 3]⟩,
 ⟨(some 132), some (122, true), .iaddr 4 (.t 131) (.c (.int .i64 0)), [74, 31, 25, 18, 11, 3]⟩,
 ⟨(some 133), some (122, true), .load true 4 (.t 132), [74, 31, 25, 18, 11, 3, 2, 10, 17, 59, 62, 69, 72]⟩,
 ⟨(some 134), some (122, true), .mks 3 4 true [(.str []), (.int .i64 0), (.str []), (.bool false)] [(0, (.t 127)), (1, (.t 130)), (2, (.t 133))], [74, 31, 25, 18, 11, 3]⟩,
 ⟨(some 135), some (122, true), .call 17 [(.t 124), (.t 134)], [78, 74, 31, 25, 18, 11, 3, 2, 10, 17, 59, 62, 69, 72, 81, 84, 87]⟩,
 ⟨(some 136), none, .pick (.t 122) (.t 135) (.c (.bool false)), [89, 74, 31, 25, 18, 11, 3, 78]⟩,
 ⟨(some 0), none, .mv (.t 136), [89, 3, 11, 18, 25, 31, 74, 78]⟩] [0])
 (.ret))))))))))⟩
theorem c10 : cmpF Tryz.prog ⟨[(59, 4), (81, 4), (82, 4), (101, 4), (113, 4)], false, false⟩ Tryz.f10 K10 = some A10 := by kernel_rfl
/-- collator/collatorlaw02.pick -/
def K11 : List (List Nat) := [[0, 1], [0, 1, 6], [0, 1], [4]]
def A11 : AFunc := ⟨2, [.t 4], .seq (.reg [Oo 4 (.mv (.c (.int .i64 0)))] [0, 1])
 (.seq (.seq (.reg [Mo 5 0,
 Oo 6 (.bin .lss (.t 5) (.c (.int .i64 0)))] [0, 1, 6])
 (.cond (.t 6) (.reg [Mo 7 0,
 Oo 8 (.bin .add (.t 7) (.c (.int .i64 1))),
 Oo 9 (.un .neg (.t 8)),
 Mo 0 9] [0, 1])
 (.skip)))
 (.seq (.reg [Mo 10 0,
 Mo 11 1,
 Oo 12 (.bin .rem (.t 10) (.t 11)),
 Mo 4 12] [4])
 (.ret)))⟩
theorem c11 : cmpF Tryz.prog ⟨[(59, 4), (81, 4), (82, 4), (101, 4), (113, 4)], false, false⟩ Tryz.f11 K11 = some A11 := by kernel_rfl
/-- collator/collatorlaw02.Any -/
def K12 : List (List Nat) := [[0], [0, 3], [0, 3, 4], [0, 3, 4, 12], [0, 3, 4], [0, 3, 4], [2]]
def L12x0 : ACode := .seq (.seq (.reg [Mo 5 4,
 Mo 6 0,
 Oo 7 (.len false (.t 6)),
 Oo 8 (.bin .lss (.t 5) (.t 7)),
 Mo 9 8,
 ⟨(some 10), some (9, true), .mv (.t 4), []⟩,
 ⟨(some 11), some (9, true), .bin .lss (.t 10) (.c (.int .i64 14)), []⟩,
 Oo 12 (.pick (.t 9) (.t 11) (.c (.bool false)))] [0, 3, 4, 12])
 (.cond (.t 12) (.skip)
 (.exit 0)))
 (.seq (.blk 1 (.reg [Mo 15 3,
 Mo 16 0,
 Mo 17 4,
 Oo 18 (.iaddr 4 (.t 16) (.t 17)),
 Oo 19 (.load true 4 (.t 18)),
 Oo 20 (.call 30 [(.t 19)]),
 Oo 21 (.mks 1 4 true [(.str []), (.int .i64 0), (.str []), (.bool false)] [(0, (.t 20))]),
 Oo 22 (.app none 4 48 (.t 15) (.t 21)),
 Mo 3 22] [0, 3, 4]))
 (.reg [Mo 13 4,
 Oo 14 (.bin .add (.t 13) (.c (.int .i64 1))),
 Mo 4 14] [0, 3, 4]))
def A12 : AFunc := ⟨1, [.t 2], .seq (.reg [Oo 2 (.mv (.c (.sl 4 [] .nil)))] [0])
 (.seq (.reg [Oo 3 (.mv (.c (.sl 4 [] .nil)))] [0, 3])
 (.seq (.seq (.reg [Oo 4 (.mv (.c (.int .i64 0)))] [0, 3, 4])
 (.blk 0 (.loop L12x0)))
 (.seq (.reg [Mo 23 3,
 Mo 2 23] [2])
 (.ret))))⟩
theorem c12 : cmpF Tryz.prog ⟨[(59, 4), (81, 4), (82, 4), (101, 4), (113, 4)], false, false⟩ Tryz.f12 K12 = some A12 := by kernel_rfl
/-- collator/collatorlaw02.Tree -/
def K13 : List (List Nat) := [[0], [0, 3], [0, 3, 4], [0, 3, 4, 19], [0, 3, 4, 5], [0, 3, 4, 5], [0, 3, 4, 5, 6], [0, 3, 4, 5, 6, 7], [0, 3, 4, 5, 6, 7, 8], [0, 3, 4, 5, 6, 7, 8, 9], [0, 3, 4, 5, 6, 7, 8, 9, 37], [0, 3, 4, 5, 6, 7, 8, 9], [0, 3, 4, 5, 6, 7, 8, 9, 11], [0, 3, 4, 5, 6, 7, 8, 9, 53], [0, 3, 4, 5, 6, 7, 8, 9], [0, 3, 4, 5, 6, 7, 8, 9], [0, 3, 4, 7], [0, 3, 4, 7, 67], [0, 3, 4], [0, 3, 4], [2]]
def L13x0 : ACode := .seq (.seq (.reg [Mo 33 9,
 Oo 34 (.bin .add (.t 33) (.c (.int .i64 1))),
 Mo 35 6,
 Oo 36 (.len false (.t 35)),
 Oo 37 (.bin .lss (.t 34) (.t 36))] [0, 3, 4, 5, 6, 7, 8, 9, 37])
 (.cond (.t 37) (.skip)
 (.exit 2)))
 (.seq (.blk 3 (.seq (.reg [Mo 40 8,
 Mo 41 6,
 Mo 42 9,
 Oo 43 (.iaddr 1 (.t 41) (.t 42)),
 Oo 44 (.load false 1 (.t 43)),
 Oo 45 (.call 32 [(.t 40), (.t 44)]),
 Mo 8 45] [0, 3, 4, 5, 6, 7, 8, 9])
 (.seq (.reg [Mo 47 7,
 Mo 48 8,
 Oo 49 (.call 22 [(.t 47), (.t 48)]),
 Mo 46 49,
 Oo 50 (.ext (.t 46) 0),
 Oo 51 (.ext (.t 46) 1),
 Oo 10 (.alloc [(.str []), (.int .i64 0), (.str []), (.bool false)]),
 ⟨none, none, .store 4 (.t 10) (.t 50), []⟩,
 Mo 11 51] [0, 3, 4, 5, 6, 7, 8, 9, 11])
 (.seq (.reg [Mo 52 11,
 Oo 53 (.un .not (.t 52))] [0, 3, 4, 5, 6, 7, 8, 9, 53])
 (.cond (.t 53) (.reg [Mo 54 7,
 Mo 55 8,
 Oo 56 (.agg [(.str []), (.int .i64 0), (.str []), (.bool false)] [(0, 1, (.t 55)), (1, 1, (.c (.int .i64 1)))]),
 Oo 57 (.mks 1 4 true [(.str []), (.int .i64 0), (.str []), (.bool false)] [(0, (.t 56))]),
 Oo 58 (.app none 4 48 (.t 54) (.t 57)),
 Mo 7 58] [0, 3, 4, 5, 6, 7, 8, 9])
 (.skip))))))
 (.reg [Mo 38 9,
 Oo 39 (.bin .add (.t 38) (.c (.int .i64 1))),
 Mo 9 39] [0, 3, 4, 5, 6, 7, 8, 9]))
def L13x1 : ACode := .seq (.seq (.reg [Mo 12 4,
 Mo 13 0,
 Oo 14 (.len false (.t 13)),
 Oo 15 (.bin .lss (.t 12) (.t 14)),
 Mo 16 15,
 ⟨(some 17), some (16, true), .mv (.t 4), []⟩,
 ⟨(some 18), some (16, true), .bin .lss (.t 17) (.c (.int .i64 14)), []⟩,
 Oo 19 (.pick (.t 16) (.t 18) (.c (.bool false)))] [0, 3, 4, 19])
 (.cond (.t 19) (.skip)
 (.exit 0)))
 (.seq (.blk 1 (.seq (.reg [Mo 22 0,
 Mo 23 4,
 Oo 24 (.iaddr 4 (.t 22) (.t 23)),
 Oo 25 (.load true 4 (.t 24)),
 Oo 26 (.call 30 [(.t 25)]),
 Oo 5 (.alloc [(.str []), (.int .i64 0), (.str []), (.bool false)]),
 ⟨none, none, .store 4 (.t 5) (.t 26), []⟩] [0, 3, 4, 5])
 (.seq (.reg [Oo 27 (.faddr 3 (.t 5)),
 ⟨none, none, .store 1 (.t 27) (.c (.bool false)), []⟩] [0, 3, 4, 5])
 (.seq (.reg [Oo 28 (.faddr 0 (.t 5)),
 Oo 29 (.load false 1 (.t 28)),
 Oo 30 (.call 31 [(.t 29)]),
 Mo 6 30] [0, 3, 4, 5, 6])
 (.seq (.reg [Mo 31 3,
 Oo 32 (.app none 4 48 (.c (.sl 4 [] .nil)) (.t 31)),
 Mo 7 32] [0, 3, 4, 5, 6, 7])
 (.seq (.reg [Oo 8 (.mv (.c (.str [])))] [0, 3, 4, 5, 6, 7, 8])
 (.seq (.seq (.reg [Oo 9 (.mv (.c (.int .i64 0)))] [0, 3, 4, 5, 6, 7, 8, 9])
 (.blk 2 (.loop L13x0)))
 (.seq (.reg [Mo 59 7,
 Oo 60 (.load true 4 (.t 5)),
 Oo 61 (.mks 1 4 true [(.str []), (.int .i64 0), (.str []), (.bool false)] [(0, (.t 60))]),
 Oo 62 (.app none 4 48 (.t 59) (.t 61)),
 Mo 7 62] [0, 3, 4, 7])
 (.seq (.reg [Mo 63 7,
 Oo 64 (.call 14 []),
 Oo 65 (.call 16 [(.t 63), (.t 64)]),
 Oo 66 (.fld false 1 1 (.t 65)),
 Oo 67 (.bin .eql (.t 66) (.c (.int .i64 0)))] [0, 3, 4, 7, 67])
 (.cond (.t 67) (.reg [Mo 68 7,
 Mo 3 68] [0, 3, 4])
 (.skip)))))))))))
 (.reg [Mo 20 4,
 Oo 21 (.bin .add (.t 20) (.c (.int .i64 1))),
 Mo 4 21] [0, 3, 4]))
def A13 : AFunc := ⟨1, [.t 2], .seq (.reg [Oo 2 (.mv (.c (.sl 4 [] .nil)))] [0])
 (.seq (.reg [Oo 3 (.mv (.c (.sl 4 [] .nil)))] [0, 3])
 (.seq (.seq (.reg [Oo 4 (.mv (.c (.int .i64 0)))] [0, 3, 4])
 (.blk 0 (.loop L13x1)))
 (.seq (.reg [Mo 69 3,
 Mo 2 69] [2])
 (.ret))))⟩
theorem c13 : cmpF Tryz.prog ⟨[(59, 4), (81, 4), (82, 4), (101, 4), (113, 4)], false, false⟩ Tryz.f13 K13 = some A13 := by kernel_rfl
/-- collator/collatorlaw02.Wide -/
def K14 : List (List Nat) := [[0], [0]]
def A14 : AFunc := ⟨0, [.c 0 true 3], .seq (.reg [Oo 0 (.alloc [(.int .i64 0), (.int .i64 0), (.int .i64 0)])] [0])
 (.seq (.reg [Oo 1 (.agg [(.int .i64 0), (.int .i64 0), (.int .i64 0)] [(0, 1, (.c (.int .i64 16))), (1, 1, (.c (.int .i64 1000))), (2, 1, (.c (.int .i64 200)))]),
 ⟨none, none, .store 3 (.t 0) (.t 1), []⟩] [0])
 (.ret))⟩
theorem c14 : cmpF Tryz.prog ⟨[(59, 4), (81, 4), (82, 4), (101, 4), (113, 4)], false, false⟩ Tryz.f14 K14 = some A14 := by kernel_rfl
/-- collator/collatorref02.Check -/
def K16 : List (List Nat) := [[0, 3, 4], [0, 3, 4, 12], [4], [0, 3, 4, 5], [0, 3, 4, 5, 6], [0, 3, 4, 5, 6, 18], [0, 3, 4, 5, 6, 7], [0, 3, 4, 5, 6, 7, 46], [0, 3, 4, 5, 6], [0, 3, 4, 5, 6], [4]]
def L16x0 : ACode := .seq (.seq (.reg [Mo 15 6,
 Mo 16 0,
 Oo 17 (.len false (.t 16)),
 Oo 18 (.bin .lss (.t 15) (.t 17))] [0, 3, 4, 5, 6, 18])
 (.cond (.t 18) (.skip)
 (.exit 0)))
 (.seq (.blk 1 (.seq (.regD [Mo 21 0,
 Oo 22 (.load true 3 (.t 3)),
 Mo 23 0,
 Mo 24 6,
 Oo 25 (.iaddr 4 (.t 23) (.t 24)),
 Oo 26 (.faddr 0 (.t 25)),
 Oo 27 (.load false 1 (.t 26)),
 ⟨(some 28), none, .call 35 [(.t 21), (.t 22), (.t 27)], [1, 6]⟩,
 ⟨(some 7), none, .mv (.t 28), [7]⟩] [0, 3, 4, 5, 6, 7])
 (.seq (.regD [Mo 29 7,
 Oo 30 (.bin .neq (.t 29) (.c (.int .i64 0))),
 Mo 31 30,
 ⟨(some 32), some (31, true), .faddr 1 (.t 5), []⟩,
 ⟨(some 33), some (31, true), .load false 1 (.t 32), []⟩,
 ⟨(some 34), some (31, true), .bin .eql (.t 33) (.c (.int .i64 0)), []⟩,
 ⟨(some 35), some (31, true), .mv (.t 34), []⟩,
 ⟨(some 36), some (35, false), .mv (.t 0), []⟩,
 ⟨(some 37), some (35, false), .mv (.t 6), []⟩,
 ⟨(some 38), some (35, false), .iaddr 4 (.t 36) (.t 37), []⟩,
 ⟨(some 39), some (35, false), .faddr 0 (.t 38), []⟩,
 ⟨(some 40), some (35, false), .load false 1 (.t 39), [4]⟩,
 ⟨(some 41), some (35, false), .faddr 0 (.t 5), []⟩,
 ⟨(some 42), some (35, false), .load false 1 (.t 41), [4]⟩,
 ⟨(some 43), some (35, false), .call 27 [(.t 40), (.t 42)], [11, 13, 4]⟩,
 ⟨(some 44), some (35, false), .bin .lss (.t 43) (.c (.int .i64 0)), [14]⟩,
 ⟨(some 45), some (31, true), .pick (.t 35) (.c (.bool true)) (.t 44), [14]⟩,
 ⟨(some 46), none, .pick (.t 31) (.t 45) (.c (.bool false)), [14]⟩] [0, 3, 4, 5, 6, 7, 46])
 (.cond (.t 46) (.reg [Mo 47 0,
 Mo 48 6,
 Oo 49 (.iaddr 4 (.t 47) (.t 48)),
 Oo 50 (.faddr 0 (.t 49)),
 Oo 51 (.load false 1 (.t 50)),
 Mo 52 7,
 Oo 53 (.agg [(.str []), (.int .i64 0)] [(0, 1, (.t 51)), (1, 1, (.t 52))]),
 ⟨none, none, .store 2 (.t 5) (.t 53), []⟩] [0, 3, 4, 5, 6])
 (.skip)))))
 (.reg [Mo 19 6,
 Oo 20 (.bin .add (.t 19) (.c (.int .i64 1))),
 Mo 6 20] [0, 3, 4, 5, 6]))
def A16 : AFunc := ⟨2, [.c 4 true 2], .seq (.reg [Oo 3 (.box (.t 1)),
 Oo 4 (.alloc [(.str []), (.int .i64 0)])] [0, 3, 4])
 (.seq (.seq (.reg [Mo 8 0,
 Oo 9 (.len false (.t 8)),
 Oo 10 (.faddr 2 (.t 3)),
 Oo 11 (.load false 1 (.t 10)),
 Oo 12 (.bin .gtr (.t 9) (.t 11))] [0, 3, 4, 12])
 (.cond (.t 12) (.seq (.reg [Oo 13 (.agg [(.str []), (.int .i64 0)] [(1, 1, (.c (.int .i64 8)))]),
 ⟨none, none, .store 2 (.t 4) (.t 13), []⟩] [4])
 (.ret))
 (.skip)))
 (.seq (.reg [Oo 14 (.agg [(.str []), (.int .i64 0)] []),
 Oo 5 (.alloc [(.str []), (.int .i64 0)]),
 ⟨none, none, .store 2 (.t 5) (.t 14), []⟩] [0, 3, 4, 5])
 (.seq (.seq (.reg [Oo 6 (.mv (.c (.int .i64 0)))] [0, 3, 4, 5, 6])
 (.blk 0 (.loop L16x0)))
 (.seq (.reg [Oo 54 (.load true 2 (.t 5)),
 ⟨none, none, .store 2 (.t 4) (.t 54), []⟩] [4])
 (.ret)))))⟩
theorem c16 : cmpF Tryz.prog ⟨[(59, 4), (81, 4), (82, 4), (101, 4), (113, 4)], false, false⟩ Tryz.f16 K16 = some A16 := by kernel_rfl
/-- collator/collatorref02.Same -/
def K17 : List (List Nat) := [[0, 1], [0, 1, 10], [4], [0, 1, 5], [0, 1, 5, 14], [0, 1, 5, 25], [4], [0, 1, 5], [4]]
def L17x0 : ACode := .seq (.seq (.reg [Mo 11 5,
 Mo 12 0,
 Oo 13 (.len false (.t 12)),
 Oo 14 (.bin .lss (.t 11) (.t 13))] [0, 1, 5, 14])
 (.cond (.t 14) (.skip)
 (.exit 0)))
 (.seq (.blk 1 (.seq (.regD [Mo 17 0,
 Mo 18 5,
 Oo 19 (.iaddr 4 (.t 17) (.t 18)),
 Oo 20 (.load true 4 (.t 19)),
 Mo 21 1,
 Mo 22 5,
 Oo 23 (.iaddr 4 (.t 21) (.t 22)),
 Oo 24 (.load true 4 (.t 23)),
 Oo 25 (.eqv true (some [2, 1, 2, 0]) (.t 20) (.t 24))] [0, 1, 5, 25])
 (.cond (.t 25) (.seq (.reg [Oo 4 (.mv (.c (.bool false)))] [4])
 (.ret))
 (.skip))))
 (.reg [Mo 15 5,
 Oo 16 (.bin .add (.t 15) (.c (.int .i64 1))),
 Mo 5 16] [0, 1, 5]))
def A17 : AFunc := ⟨2, [.t 4], .seq (.reg [Oo 4 (.mv (.c (.bool false)))] [0, 1])
 (.seq (.seq (.reg [Mo 6 0,
 Oo 7 (.len false (.t 6)),
 Mo 8 1,
 Oo 9 (.len false (.t 8)),
 Oo 10 (.bin .neq (.t 7) (.t 9))] [0, 1, 10])
 (.cond (.t 10) (.seq (.reg [Oo 4 (.mv (.c (.bool false)))] [4])
 (.ret))
 (.skip)))
 (.seq (.seq (.reg [Oo 5 (.mv (.c (.int .i64 0)))] [0, 1, 5])
 (.blk 0 (.loop L17x0)))
 (.seq (.reg [Oo 4 (.mv (.c (.bool true)))] [4])
 (.ret))))⟩
theorem c17 : cmpF Tryz.prog ⟨[(59, 4), (81, 4), (82, 4), (101, 4), (113, 4)], false, false⟩ Tryz.f17 K17 = some A17 := by kernel_rfl
/-- collator/collatorref02.Sort -/
def K19 : List (List Nat) := [[0], [0, 3], [0, 3, 4], [0, 3, 4, 9], [0, 3, 4, 5], [0, 3, 4, 5, 30], [0, 3, 4, 5], [0, 3, 4], [0, 3, 4], [2]]
def L19x0 : ACode := .seq (.seq (.regD [Mo 14 5,
 Oo 15 (.bin .gtr (.t 14) (.c (.int .i64 0))),
 Mo 16 15,
 ⟨(some 17), some (16, true), .mv (.t 0), []⟩,
 ⟨(some 18), some (16, true), .mv (.t 4), []⟩,
 ⟨(some 19), some (16, true), .iaddr 4 (.t 17) (.t 18), []⟩,
 ⟨(some 20), some (16, true), .faddr 0 (.t 19), []⟩,
 ⟨(some 21), some (16, true), .load false 1 (.t 20), []⟩,
 ⟨(some 22), some (16, true), .mv (.t 3), []⟩,
 ⟨(some 23), some (16, true), .mv (.t 5), []⟩,
 ⟨(some 24), some (16, true), .bin .sub (.t 23) (.c (.int .i64 1)), []⟩,
 ⟨(some 25), some (16, true), .iaddr 4 (.t 22) (.t 24), []⟩,
 ⟨(some 26), some (16, true), .faddr 0 (.t 25), []⟩,
 ⟨(some 27), some (16, true), .load false 1 (.t 26), []⟩,
 ⟨(some 28), some (16, true), .call 27 [(.t 21), (.t 27)], [7, 13]⟩,
 ⟨(some 29), some (16, true), .bin .lss (.t 28) (.c (.int .i64 0)), [14]⟩,
 ⟨(some 30), none, .pick (.t 16) (.t 29) (.c (.bool false)), [14]⟩] [0, 3, 4, 5, 30])
 (.cond (.t 30) (.skip)
 (.exit 2)))
 (.blk 3 (.reg [Mo 31 5,
 Oo 32 (.bin .sub (.t 31) (.c (.int .i64 1))),
 Mo 5 32] [0, 3, 4, 5]))
def L19x1 : ACode := .seq (.seq (.reg [Mo 6 4,
 Mo 7 0,
 Oo 8 (.len false (.t 7)),
 Oo 9 (.bin .lss (.t 6) (.t 8))] [0, 3, 4, 9])
 (.cond (.t 9) (.skip)
 (.exit 0)))
 (.seq (.blk 1 (.seq (.reg [Mo 12 3,
 Oo 13 (.len false (.t 12)),
 Mo 5 13] [0, 3, 4, 5])
 (.seq (.blk 2 (.loop L19x0))
 (.regD [Mo 33 3,
 Mo 34 5,
 Oo 35 (.slice (some 4) (.t 33) none (some (.t 34)) none),
 Oo 36 (.app none 4 48 (.c (.sl 4 [] .nil)) (.t 35)),
 Mo 37 0,
 Mo 38 4,
 Oo 39 (.iaddr 4 (.t 37) (.t 38)),
 Oo 40 (.load true 4 (.t 39)),
 Oo 41 (.mks 1 4 true [(.str []), (.int .i64 0), (.str []), (.bool false)] [(0, (.t 40))]),
 ⟨(some 42), none, .app none 4 48 (.t 36) (.t 41), [3, 7]⟩,
 Mo 43 3,
 Mo 44 5,
 Oo 45 (.slice (some 4) (.t 43) (some (.t 44)) none none),
 ⟨(some 46), none, .app none 4 48 (.t 42) (.t 45), [9, 3, 7]⟩,
 Mo 3 46] [0, 3, 4]))))
 (.reg [Mo 10 4,
 Oo 11 (.bin .add (.t 10) (.c (.int .i64 1))),
 Mo 4 11] [0, 3, 4]))
def A19 : AFunc := ⟨1, [.t 2], .seq (.reg [Oo 2 (.mv (.c (.sl 4 [] .nil)))] [0])
 (.seq (.reg [Oo 3 (.mv (.c (.sl 4 [] .nil)))] [0, 3])
 (.seq (.seq (.reg [Oo 4 (.mv (.c (.int .i64 0)))] [0, 3, 4])
 (.blk 0 (.loop L19x1)))
 (.seq (.reg [Mo 47 3,
 Mo 2 47] [2])
 (.ret))))⟩
theorem c19 : cmpF Tryz.prog ⟨[(59, 4), (81, 4), (82, 4), (101, 4), (113, 4)], false, false⟩ Tryz.f19 K19 = some A19 := by kernel_rfl
/-- collator/collatorlaw01.Path -/
def K20 : List (List Nat) := [[0], [0, 3], [0, 3, 4], [0, 3, 4, 5], [0, 3, 4, 5, 14], [0, 3, 4, 5], [0, 3, 4, 5], [4, 28], [2], [2]]
def L20x0 : ACode := .seq (.seq (.reg [Mo 7 5,
 Mo 8 0,
 Oo 9 (.len false (.t 8)),
 Oo 10 (.bin .lss (.t 7) (.t 9)),
 Mo 11 10,
 ⟨(some 12), some (11, true), .mv (.t 5), []⟩,
 ⟨(some 13), some (11, true), .bin .lss (.t 12) (.c (.int .i64 8)), []⟩,
 Oo 14 (.pick (.t 11) (.t 13) (.c (.bool false)))] [0, 3, 4, 5, 14])
 (.cond (.t 14) (.skip)
 (.exit 0)))
 (.seq (.blk 1 (.reg [Mo 17 4,
 Mo 18 3,
 Mo 19 0,
 Mo 20 5,
 Oo 21 (.iaddr 1 (.t 19) (.t 20)),
 Oo 22 (.load false 1 (.t 21)),
 Oo 23 (.call 39 [(.t 22), (.c (.int .i64 8))]),
 Oo 24 (.iaddr 1 (.t 18) (.t 23)),
 Oo 25 (.load false 1 (.t 24)),
 Oo 26 (.call 32 [(.t 17), (.t 25)]),
 Mo 4 26] [0, 3, 4, 5]))
 (.reg [Mo 15 5,
 Oo 16 (.bin .add (.t 15) (.c (.int .i64 1))),
 Mo 5 16] [0, 3, 4, 5]))
def A20 : AFunc := ⟨1, [.t 2], .seq (.reg [Oo 2 (.mv (.c (.str [])))] [0])
 (.seq (.reg [Oo 6 (.mks 8 1 false [(.str [])] [(0, (.c (.str [97]))), (1, (.c (.str [98]))), (2, (.c (.str [97, 98]))), (3, (.c (.str [97, 33]))), (4, (.c (.str [97, 46, 98]))), (5, (.c (.str [46, 46, 46]))), (6, (.c (.str [90]))), (7, (.c (.str [255])))]),
 Mo 3 6] [0, 3])
 (.seq (.reg [Oo 4 (.mv (.c (.str [])))] [0, 3, 4])
 (.seq (.seq (.reg [Oo 5 (.mv (.c (.int .i64 0)))] [0, 3, 4, 5])
 (.blk 0 (.loop L20x0)))
 (.seq (.seq (.reg [Mo 27 4,
 Oo 28 (.bin .eql (.t 27) (.c (.str [])))] [4, 28])
 (.cond (.t 28) (.seq (.reg [Oo 2 (.mv (.c (.str [97])))] [2])
 (.ret))
 (.skip)))
 (.seq (.reg [Mo 29 4,
 Mo 2 29] [2])
 (.ret))))))⟩
theorem c20 : cmpF Tryz.prog ⟨[(59, 4), (81, 4), (82, 4), (101, 4), (113, 4)], false, false⟩ Tryz.f20 K20 = some A20 := by kernel_rfl
/-- collator/collatorref02.Find -/
def K22 : List (List Nat) := [[0, 1, 4], [0, 1, 4, 6], [0, 1, 4, 6, 10], [0, 1, 4, 6, 19], [4, 5], [0, 1, 4, 6], [4, 5]]
def L22x0 : ACode := .seq (.seq (.reg [Mo 7 6,
 Mo 8 0,
 Oo 9 (.len false (.t 8)),
 Oo 10 (.bin .lss (.t 7) (.t 9))] [0, 1, 4, 6, 10])
 (.cond (.t 10) (.skip)
 (.exit 0)))
 (.seq (.blk 1 (.seq (.reg [Mo 13 0,
 Mo 14 6,
 Oo 15 (.iaddr 4 (.t 13) (.t 14)),
 Oo 16 (.faddr 0 (.t 15)),
 Oo 17 (.load false 1 (.t 16)),
 Mo 18 1,
 Oo 19 (.bin .eql (.t 17) (.t 18))] [0, 1, 4, 6, 19])
 (.cond (.t 19) (.seq (.reg [Mo 20 0,
 Mo 21 6,
 Oo 22 (.iaddr 4 (.t 20) (.t 21)),
 Oo 23 (.load true 4 (.t 22)),
 ⟨none, none, .store 4 (.t 4) (.t 23), []⟩,
 Oo 5 (.mv (.c (.bool true)))] [4, 5])
 (.ret))
 (.skip))))
 (.reg [Mo 11 6,
 Oo 12 (.bin .add (.t 11) (.c (.int .i64 1))),
 Mo 6 12] [0, 1, 4, 6]))
def A22 : AFunc := ⟨2, [.c 4 true 4, .t 5], .seq (.reg [Oo 4 (.alloc [(.str []), (.int .i64 0), (.str []), (.bool false)]),
 Oo 5 (.mv (.c (.bool false)))] [0, 1, 4])
 (.seq (.seq (.reg [Oo 6 (.mv (.c (.int .i64 0)))] [0, 1, 4, 6])
 (.blk 0 (.loop L22x0)))
 (.seq (.reg [Oo 24 (.agg [(.str []), (.int .i64 0), (.str []), (.bool false)] []),
 ⟨none, none, .store 4 (.t 4) (.t 24), []⟩,
 Oo 5 (.mv (.c (.bool false)))] [4, 5])
 (.ret)))⟩
theorem c22 : cmpF Tryz.prog ⟨[(59, 4), (81, 4), (82, 4), (101, 4), (113, 4)], false, false⟩ Tryz.f22 K22 = some A22 := by kernel_rfl
/-- collator/collatorref02.Read -/
def K24 : List (List Nat) := [[0, 1], [6, 7], [6, 15], [4, 5], [6, 18], [4, 5], [6, 20], [4, 5], [4, 5]]
def A24 : AFunc := ⟨2, [.t 4, .t 5], .seq (.reg [Oo 4 (.mv (.c (.str []))),
 Oo 5 (.mv (.c (.int .i64 0)))] [0, 1])
 (.seq (.reg [Mo 9 0,
 Mo 10 1,
 Oo 11 (.call 22 [(.t 9), (.t 10)]),
 Mo 8 11,
 Oo 12 (.ext (.t 8) 0),
 Oo 13 (.ext (.t 8) 1),
 Oo 6 (.alloc [(.str []), (.int .i64 0), (.str []), (.bool false)]),
 ⟨none, none, .store 4 (.t 6) (.t 12), []⟩,
 Mo 7 13] [6, 7])
 (.seq (.seq (.reg [Mo 14 7,
 Oo 15 (.un .not (.t 14))] [6, 15])
 (.cond (.t 15) (.seq (.reg [Oo 4 (.mv (.c (.str []))),
 Oo 5 (.mv (.c (.int .i64 10)))] [4, 5])
 (.ret))
 (.skip)))
 (.seq (.seq (.reg [Oo 16 (.faddr 1 (.t 6)),
 Oo 17 (.load false 1 (.t 16)),
 Oo 18 (.bin .neq (.t 17) (.c (.int .i64 2)))] [6, 18])
 (.cond (.t 18) (.seq (.reg [Oo 4 (.mv (.c (.str []))),
 Oo 5 (.mv (.c (.int .i64 5)))] [4, 5])
 (.ret))
 (.skip)))
 (.seq (.seq (.reg [Oo 19 (.faddr 3 (.t 6)),
 Oo 20 (.load false 1 (.t 19))] [6, 20])
 (.cond (.t 20) (.seq (.reg [Oo 4 (.mv (.c (.str []))),
 Oo 5 (.mv (.c (.int .i64 9)))] [4, 5])
 (.ret))
 (.skip)))
 (.seq (.reg [Oo 21 (.faddr 2 (.t 6)),
 Oo 22 (.load false 1 (.t 21)),
 Mo 4 22,
 Oo 5 (.mv (.c (.int .i64 0)))] [4, 5])
 (.ret))))))⟩
theorem c24 : cmpF Tryz.prog ⟨[(59, 4), (81, 4), (82, 4), (101, 4), (113, 4)], false, false⟩ Tryz.f24 K24 = some A24 := by kernel_rfl
/-- collator/collatorref02.List -/
def K26 : List (List Nat) := [[0, 1], [0, 1, 5], [0, 1, 5, 6], [0, 1, 5, 6, 11], [0, 1, 5, 6, 7], [0, 1, 5, 6, 31], [0, 1, 5, 6], [0, 1, 5, 6], [4]]
def L26x0 : ACode := .seq (.seq (.reg [Mo 8 6,
 Mo 9 0,
 Oo 10 (.len false (.t 9)),
 Oo 11 (.bin .lss (.t 8) (.t 10))] [0, 1, 5, 6, 11])
 (.cond (.t 11) (.skip)
 (.exit 0)))
 (.seq (.blk 1 (.seq (.reg [Mo 14 0,
 Mo 15 6,
 Oo 16 (.iaddr 4 (.t 14) (.t 15)),
 Oo 17 (.faddr 0 (.t 16)),
 Oo 18 (.load false 1 (.t 17)),
 Oo 19 (.call 49 [(.t 18)]),
 Mo 7 19] [0, 1, 5, 6, 7])
 (.seq (.reg [Mo 20 7,
 Oo 21 (.bin .eql (.t 20) (.c (.int .i64 0))),
 Mo 22 21,
 ⟨(some 23), some (22, true), .mv (.t 0), []⟩,
 ⟨(some 24), some (22, true), .mv (.t 6), []⟩,
 ⟨(some 25), some (22, true), .iaddr 4 (.t 23) (.t 24), []⟩,
 ⟨(some 26), some (22, true), .faddr 0 (.t 25), []⟩,
 ⟨(some 27), some (22, true), .load false 1 (.t 26), []⟩,
 ⟨(some 28), some (22, true), .call 29 [(.t 27)], []⟩,
 ⟨(some 29), some (22, true), .mv (.t 1), []⟩,
 ⟨(some 30), some (22, true), .bin .eql (.t 28) (.t 29), []⟩,
 Oo 31 (.pick (.t 22) (.t 30) (.c (.bool false)))] [0, 1, 5, 6, 31])
 (.cond (.t 31) (.reg [Mo 32 5,
 Mo 33 0,
 Mo 34 6,
 Oo 35 (.iaddr 4 (.t 33) (.t 34)),
 Oo 36 (.load true 4 (.t 35)),
 Oo 37 (.mks 1 4 true [(.str []), (.int .i64 0), (.str []), (.bool false)] [(0, (.t 36))]),
 Oo 38 (.app none 4 48 (.t 32) (.t 37)),
 Mo 5 38] [0, 1, 5, 6])
 (.skip)))))
 (.reg [Mo 12 6,
 Oo 13 (.bin .add (.t 12) (.c (.int .i64 1))),
 Mo 6 13] [0, 1, 5, 6]))
def A26 : AFunc := ⟨2, [.t 4], .seq (.reg [Oo 4 (.mv (.c (.sl 4 [] .nil)))] [0, 1])
 (.seq (.reg [Oo 5 (.mv (.c (.sl 4 [] .nil)))] [0, 1, 5])
 (.seq (.seq (.reg [Oo 6 (.mv (.c (.int .i64 0)))] [0, 1, 5, 6])
 (.blk 0 (.loop L26x0)))
 (.seq (.reg [Mo 39 5,
 Oo 40 (.call 19 [(.t 39)]),
 Mo 4 40] [4])
 (.ret))))⟩
theorem c26 : cmpF Tryz.prog ⟨[(59, 4), (81, 4), (82, 4), (101, 4), (113, 4)], false, false⟩ Tryz.f26 K26 = some A26 := by kernel_rfl
/-- collator/collatorref01.Compare -/
def K27 : List (List Nat) := [[0, 1], [1, 5], [5, 6], [5, 6, 7], [5, 6, 7, 21], [5, 6, 7, 32], [4], [5, 6, 7, 41], [4], [5, 6, 7], [5, 6, 46], [4], [51], [4], [4]]
def L27x0 : ACode := .seq (.seq (.reg [Mo 12 7,
 Mo 13 5,
 Oo 14 (.len false (.t 13)),
 Oo 15 (.bin .lss (.t 12) (.t 14)),
 Mo 16 15,
 ⟨(some 17), some (16, true), .mv (.t 7), []⟩,
 ⟨(some 18), some (16, true), .mv (.t 6), []⟩,
 ⟨(some 19), some (16, true), .len false (.t 18), []⟩,
 ⟨(some 20), some (16, true), .bin .lss (.t 17) (.t 19), []⟩,
 Oo 21 (.pick (.t 16) (.t 20) (.c (.bool false)))] [5, 6, 7, 21])
 (.cond (.t 21) (.skip)
 (.exit 0)))
 (.seq (.blk 1 (.seq (.seq (.regD [Mo 24 5,
 Mo 25 7,
 Oo 26 (.iaddr 1 (.t 24) (.t 25)),
 Oo 27 (.load false 1 (.t 26)),
 Mo 28 6,
 Mo 29 7,
 Oo 30 (.iaddr 1 (.t 28) (.t 29)),
 Oo 31 (.load false 1 (.t 30)),
 Oo 32 (.bin .lss (.t 27) (.t 31))] [5, 6, 7, 32])
 (.cond (.t 32) (.seq (.reg [Oo 4 (.mv (.c (.int .i64 (-1))))] [4])
 (.ret))
 (.skip)))
 (.seq (.regD [Mo 33 5,
 Mo 34 7,
 Oo 35 (.iaddr 1 (.t 33) (.t 34)),
 Oo 36 (.load false 1 (.t 35)),
 Mo 37 6,
 Mo 38 7,
 Oo 39 (.iaddr 1 (.t 37) (.t 38)),
 Oo 40 (.load false 1 (.t 39)),
 Oo 41 (.bin .gtr (.t 36) (.t 40))] [5, 6, 7, 41])
 (.cond (.t 41) (.seq (.reg [Oo 4 (.mv (.c (.int .i64 1)))] [4])
 (.ret))
 (.skip)))))
 (.reg [Mo 22 7,
 Oo 23 (.bin .add (.t 22) (.c (.int .i64 1))),
 Mo 7 23] [5, 6, 7]))
def A27 : AFunc := ⟨2, [.t 4], .seq (.reg [Oo 4 (.mv (.c (.int .i64 0)))] [0, 1])
 (.seq (.reg [Mo 8 0,
 Oo 9 (.call 50 [(.t 8)]),
 Mo 5 9] [1, 5])
 (.seq (.reg [Mo 10 1,
 Oo 11 (.call 50 [(.t 10)]),
 Mo 6 11] [5, 6])
 (.seq (.seq (.reg [Oo 7 (.mv (.c (.int .i64 0)))] [5, 6, 7])
 (.blk 0 (.loop L27x0)))
 (.seq (.seq (.reg [Mo 42 5,
 Oo 43 (.len false (.t 42)),
 Mo 44 6,
 Oo 45 (.len false (.t 44)),
 Oo 46 (.bin .lss (.t 43) (.t 45))] [5, 6, 46])
 (.cond (.t 46) (.seq (.reg [Oo 4 (.mv (.c (.int .i64 (-1))))] [4])
 (.ret))
 (.skip)))
 (.seq (.seq (.reg [Mo 47 5,
 Oo 48 (.len false (.t 47)),
 Mo 49 6,
 Oo 50 (.len false (.t 49)),
 Oo 51 (.bin .gtr (.t 48) (.t 50))] [51])
 (.cond (.t 51) (.seq (.reg [Oo 4 (.mv (.c (.int .i64 1)))] [4])
 (.ret))
 (.skip)))
 (.seq (.reg [Oo 4 (.mv (.c (.int .i64 0)))] [4])
 (.ret)))))))⟩
theorem c27 : cmpF Tryz.prog ⟨[(59, 4), (81, 4), (82, 4), (101, 4), (113, 4)], false, false⟩ Tryz.f27 K27 = some A27 := by kernel_rfl
/-- collator/collatorlaw02.times -/
def K28 : List (List Nat) := [[0, 3], [0, 3, 5], [0, 3, 5, 6], [0, 3, 5, 6, 10], [0, 3, 5, 6, 18], [0, 3, 5, 6], [0, 3, 5, 6], [4]]
def L28x0 : ACode := .seq (.seq (.reg [Mo 7 6,
 Mo 8 0,
 Oo 9 (.len false (.t 8)),
 Oo 10 (.bin .lss (.t 7) (.t 9))] [0, 3, 5, 6, 10])
 (.cond (.t 10) (.skip)
 (.exit 0)))
 (.seq (.blk 1 (.seq (.regD [Mo 13 0,
 Mo 14 6,
 Oo 15 (.iaddr 4 (.t 13) (.t 14)),
 Oo 16 (.load true 4 (.t 15)),
 Oo 17 (.load true 4 (.t 3)),
 Oo 18 (.eqv false (some [2, 1, 2, 0]) (.t 16) (.t 17))] [0, 3, 5, 6, 18])
 (.cond (.t 18) (.reg [Mo 19 5,
 Oo 20 (.bin .add (.t 19) (.c (.int .i64 1))),
 Mo 5 20] [0, 3, 5, 6])
 (.skip))))
 (.reg [Mo 11 6,
 Oo 12 (.bin .add (.t 11) (.c (.int .i64 1))),
 Mo 6 12] [0, 3, 5, 6]))
def A28 : AFunc := ⟨2, [.t 4], .seq (.reg [Oo 3 (.box (.t 1)),
 Oo 4 (.mv (.c (.int .i64 0)))] [0, 3])
 (.seq (.reg [Oo 5 (.mv (.c (.int .i64 0)))] [0, 3, 5])
 (.seq (.seq (.reg [Oo 6 (.mv (.c (.int .i64 0)))] [0, 3, 5, 6])
 (.blk 0 (.loop L28x0)))
 (.seq (.reg [Mo 21 5,
 Mo 4 21] [4])
 (.ret))))⟩
theorem c28 : cmpF Tryz.prog ⟨[(59, 4), (81, 4), (82, 4), (101, 4), (113, 4)], false, false⟩ Tryz.f28 K28 = some A28 := by kernel_rfl
/-- collator/collatorref01.Dir -/
def K29 : List (List Nat) := [[0], [3], [3, 4], [3, 4, 5], [3, 4, 5, 12], [3, 4, 5], [3, 4, 5], [2]]
def L29x0 : ACode := .seq (.seq (.reg [Mo 8 5,
 Oo 9 (.bin .add (.t 8) (.c (.int .i64 1))),
 Mo 10 3,
 Oo 11 (.len false (.t 10)),
 Oo 12 (.bin .lss (.t 9) (.t 11))] [3, 4, 5, 12])
 (.cond (.t 12) (.skip)
 (.exit 0)))
 (.seq (.blk 1 (.reg [Mo 15 4,
 Mo 16 3,
 Mo 17 5,
 Oo 18 (.iaddr 1 (.t 16) (.t 17)),
 Oo 19 (.load false 1 (.t 18)),
 Oo 20 (.call 32 [(.t 15), (.t 19)]),
 Mo 4 20] [3, 4, 5]))
 (.reg [Mo 13 5,
 Oo 14 (.bin .add (.t 13) (.c (.int .i64 1))),
 Mo 5 14] [3, 4, 5]))
def A29 : AFunc := ⟨1, [.t 2], .seq (.reg [Oo 2 (.mv (.c (.str [])))] [0])
 (.seq (.reg [Mo 6 0,
 Oo 7 (.call 31 [(.t 6)]),
 Mo 3 7] [3])
 (.seq (.reg [Oo 4 (.mv (.c (.str [])))] [3, 4])
 (.seq (.seq (.reg [Oo 5 (.mv (.c (.int .i64 0)))] [3, 4, 5])
 (.blk 0 (.loop L29x0)))
 (.seq (.reg [Mo 21 4,
 Mo 2 21] [2])
 (.ret)))))⟩
theorem c29 : cmpF Tryz.prog ⟨[(59, 4), (81, 4), (82, 4), (101, 4), (113, 4)], false, false⟩ Tryz.f29 K29 = some A29 := by kernel_rfl
/-- collator/collatorlaw02.Item -/
def K30 : List (List Nat) := [[1, 2], [2, 3], [2, 3, 25], [2, 3], [2]]
def A30 : AFunc := ⟨1, [.c 2 true 4], .seq (.reg [Oo 1 (.box (.t 0)),
 Oo 2 (.alloc [(.str []), (.int .i64 0), (.str []), (.bool false)])] [1, 2])
 (.seq (.regD [Oo 4 (.faddr 0 (.t 1)),
 Oo 5 (.load false 1 (.t 4)),
 ⟨(some 6), none, .call 20 [(.t 5)], [1]⟩,
 Oo 7 (.faddr 1 (.t 1)),
 Oo 8 (.load false 1 (.t 7)),
 ⟨(some 9), none, .call 11 [(.t 8), (.c (.int .i64 3))], [4, 2, 1]⟩,
 ⟨(some 10), none, .bin .add (.c (.int .i64 1)) (.t 9), [5, 2]⟩,
 Oo 11 (.faddr 2 (.t 1)),
 Oo 12 (.load false 1 (.t 11)),
 Oo 13 (.faddr 2 (.t 1)),
 Oo 14 (.load false 1 (.t 13)),
 Oo 15 (.len true (.t 14)),
 Oo 16 (.min [(.t 15), (.c (.int .i64 60))]),
 Oo 17 (.slice none (.t 12) none (some (.t 16)) none),
 Oo 18 (.faddr 3 (.t 1)),
 Oo 19 (.load false 1 (.t 18)),
 ⟨(some 20), none, .call 11 [(.t 19), (.c (.int .i64 12))], [15, 5, 4, 2, 1]⟩,
 ⟨(some 21), none, .bin .eql (.t 20) (.c (.int .i64 0)), [16, 5, 2]⟩,
 ⟨(some 22), none, .agg [(.str []), (.int .i64 0), (.str []), (.bool false)] [(0, 1, (.t 6)), (1, 1, (.t 10)), (2, 1, (.t 17)), (3, 1, (.t 21))], [2, 5, 16]⟩,
 Oo 3 (.alloc [(.str []), (.int .i64 0), (.str []), (.bool false)]),
 ⟨none, none, .store 4 (.t 3) (.t 22), [19, 16, 1, 2, 4, 5, 8, 10, 15]⟩] [2, 3])
 (.seq (.seq (.reg [Oo 23 (.faddr 1 (.t 3)),
 Oo 24 (.load false 1 (.t 23)),
 Oo 25 (.bin .eql (.t 24) (.c (.int .i64 1)))] [2, 3, 25])
 (.cond (.t 25) (.reg [Oo 26 (.faddr 2 (.t 3)),
 ⟨none, none, .store 1 (.t 26) (.c (.str [])), []⟩] [2, 3])
 (.skip)))
 (.seq (.reg [Oo 27 (.load true 4 (.t 3)),
 ⟨none, none, .store 4 (.t 2) (.t 27), []⟩] [2])
 (.ret))))⟩
theorem c30 : cmpF Tryz.prog ⟨[(59, 4), (81, 4), (82, 4), (101, 4), (113, 4)], false, false⟩ Tryz.f30 K30 = some A30 := by kernel_rfl
/-- collator/collatorref01.Parts -/
def K31 : List (List Nat) := [[0], [0, 3], [0, 7], [2], [2]]
def A31 : AFunc := ⟨1, [.t 2], .seq (.reg [Oo 2 (.mv (.c (.sl 1 [] .nil)))] [0])
 (.seq (.reg [Mo 4 0,
 Oo 5 (.call 49 [(.t 4)]),
 Mo 3 5] [0, 3])
 (.seq (.seq (.reg [Mo 6 3,
 Oo 7 (.bin .neq (.t 6) (.c (.int .i64 0)))] [0, 7])
 (.cond (.t 7) (.seq (.reg [Oo 2 (.mv (.c (.sl 1 [] .nil)))] [2])
 (.ret))
 (.skip)))
 (.seq (.reg [Mo 8 0,
 Oo 9 (.call 50 [(.t 8)]),
 Mo 2 9] [2])
 (.ret))))⟩
theorem c31 : cmpF Tryz.prog ⟨[(59, 4), (81, 4), (82, 4), (101, 4), (113, 4)], false, false⟩ Tryz.f31 K31 = some A31 := by kernel_rfl
/-- collator/collatorref01.Join -/
def K32 : List (List Nat) := [[0, 1], [0, 1, 6], [4], [4]]
def A32 : AFunc := ⟨2, [.t 4], .seq (.reg [Oo 4 (.mv (.c (.str [])))] [0, 1])
 (.seq (.seq (.reg [Mo 5 0,
 Oo 6 (.bin .eql (.t 5) (.c (.str [])))] [0, 1, 6])
 (.cond (.t 6) (.seq (.reg [Mo 7 1,
 Mo 4 7] [4])
 (.ret))
 (.skip)))
 (.seq (.reg [Mo 8 0,
 Oo 9 (.bin .add (.t 8) (.c (.str [47]))),
 Mo 10 1,
 Oo 11 (.bin .add (.t 9) (.t 10)),
 Mo 4 11] [4])
 (.ret)))⟩
theorem c32 : cmpF Tryz.prog ⟨[(59, 4), (81, 4), (82, 4), (101, 4), (113, 4)], false, false⟩ Tryz.f32 K32 = some A32 := by kernel_rfl
/-- collator/collatorref02.fault -/
def K35 : List (List Nat) := [[0, 2, 4], [0, 2, 4, 7], [0, 2, 4, 7, 13], [6], [0, 2, 4, 8], [0, 2, 4, 21], [6], [0, 2, 4, 25], [6], [0, 2, 4, 30], [6], [0, 2, 4, 9], [0, 2, 4, 40], [6], [0, 2, 4, 45], [6], [50], [6], [6]]
def A35 : AFunc := ⟨3, [.t 6], .seq (.reg [Oo 4 (.box (.t 1)),
 Oo 6 (.mv (.c (.int .i64 0)))] [0, 2, 4])
 (.seq (.reg [Mo 10 2,
 Oo 11 (.call 49 [(.t 10)]),
 Mo 7 11] [0, 2, 4, 7])
 (.seq (.seq (.reg [Mo 12 7,
 Oo 13 (.bin .neq (.t 12) (.c (.int .i64 0)))] [0, 2, 4, 7, 13])
 (.cond (.t 13) (.seq (.reg [Mo 14 7,
 Mo 6 14] [6])
 (.ret))
 (.skip)))
 (.seq (.reg [Mo 15 2,
 Oo 16 (.call 31 [(.t 15)]),
 Oo 17 (.len false (.t 16)),
 Mo 8 17] [0, 2, 4, 8])
 (.seq (.seq (.reg [Mo 18 8,
 Oo 19 (.faddr 0 (.t 4)),
 Oo 20 (.load false 1 (.t 19)),
 Oo 21 (.bin .gtr (.t 18) (.t 20))] [0, 2, 4, 21])
 (.cond (.t 21) (.seq (.reg [Oo 6 (.mv (.c (.int .i64 3)))] [6])
 (.ret))
 (.skip)))
 (.seq (.seq (.reg [Mo 22 0,
 Mo 23 2,
 Oo 24 (.call 56 [(.t 22), (.t 23)]),
 Oo 25 (.bin .gtr (.t 24) (.c (.int .i64 1)))] [0, 2, 4, 25])
 (.cond (.t 25) (.seq (.reg [Oo 6 (.mv (.c (.int .i64 4)))] [6])
 (.ret))
 (.skip)))
 (.seq (.seq (.reg [Mo 26 0,
 Mo 27 2,
 Oo 28 (.faddr 1 (.t 4)),
 Oo 29 (.load false 1 (.t 28)),
 Oo 30 (.call 57 [(.t 26), (.t 27), (.t 29), (.c (.int .i64 5))])] [0, 2, 4, 30])
 (.cond (.t 30) (.seq (.reg [Oo 6 (.mv (.c (.int .i64 5)))] [6])
 (.ret))
 (.skip)))
 (.seq (.reg [Mo 31 2,
 Oo 32 (.call 29 [(.t 31)]),
 Mo 9 32] [0, 2, 4, 9])
 (.seq (.seq (.reg [Mo 33 9,
 Oo 34 (.bin .neq (.t 33) (.c (.str []))),
 Mo 35 34,
 ⟨(some 36), some (35, true), .mv (.t 0), []⟩,
 ⟨(some 37), some (35, true), .mv (.t 9), []⟩,
 ⟨(some 38), some (35, true), .call 58 [(.t 36), (.t 37)], []⟩,
 ⟨(some 39), some (35, true), .un .not (.t 38), []⟩,
 Oo 40 (.pick (.t 35) (.t 39) (.c (.bool false)))] [0, 2, 4, 40])
 (.cond (.t 40) (.seq (.reg [Oo 6 (.mv (.c (.int .i64 6)))] [6])
 (.ret))
 (.skip)))
 (.seq (.seq (.reg [Mo 41 0,
 Mo 42 2,
 Oo 43 (.faddr 1 (.t 4)),
 Oo 44 (.load false 1 (.t 43)),
 Oo 45 (.call 57 [(.t 41), (.t 42), (.t 44), (.c (.int .i64 7))])] [0, 2, 4, 45])
 (.cond (.t 45) (.seq (.reg [Oo 6 (.mv (.c (.int .i64 7)))] [6])
 (.ret))
 (.skip)))
 (.seq (.seq (.reg [Mo 46 0,
 Mo 47 2,
 Oo 48 (.faddr 1 (.t 4)),
 Oo 49 (.load false 1 (.t 48)),
 Oo 50 (.call 57 [(.t 46), (.t 47), (.t 49), (.c (.int .i64 9))])] [50])
 (.cond (.t 50) (.seq (.reg [Oo 6 (.mv (.c (.int .i64 9)))] [6])
 (.ret))
 (.skip)))
 (.seq (.reg [Oo 6 (.mv (.c (.int .i64 0)))] [6])
 (.ret))))))))))))⟩
theorem c35 : cmpF Tryz.prog ⟨[(59, 4), (81, 4), (82, 4), (101, 4), (113, 4)], false, false⟩ Tryz.f35 K35 = some A35 := by kernel_rfl
/-- collator/collatorlaw01.pick -/
def K39 : List (List Nat) := [[0, 1], [0, 1, 6], [0, 1], [4]]
def A39 : AFunc := ⟨2, [.t 4], .seq (.reg [Oo 4 (.mv (.c (.int .i64 0)))] [0, 1])
 (.seq (.seq (.reg [Mo 5 0,
 Oo 6 (.bin .lss (.t 5) (.c (.int .i64 0)))] [0, 1, 6])
 (.cond (.t 6) (.reg [Mo 7 0,
 Oo 8 (.bin .add (.t 7) (.c (.int .i64 1))),
 Oo 9 (.un .neg (.t 8)),
 Mo 0 9] [0, 1])
 (.skip)))
 (.seq (.reg [Mo 10 0,
 Mo 11 1,
 Oo 12 (.bin .rem (.t 10) (.t 11)),
 Mo 4 12] [4])
 (.ret)))⟩
theorem c39 : cmpF Tryz.prog ⟨[(59, 4), (81, 4), (82, 4), (101, 4), (113, 4)], false, false⟩ Tryz.f39 K39 = some A39 := by kernel_rfl
/-- collator/collatorref01.Check -/
def K49 : List (List Nat) := [[0], [3], [3, 4], [3, 4, 11], [3, 4, 5], [3, 4, 20], [2], [3, 4], [23], [2], [2]]
def L49x0 : ACode := .seq (.seq (.reg [Mo 8 4,
 Mo 9 3,
 Oo 10 (.len false (.t 9)),
 Oo 11 (.bin .lss (.t 8) (.t 10))] [3, 4, 11])
 (.cond (.t 11) (.skip)
 (.exit 0)))
 (.seq (.blk 1 (.seq (.reg [Mo 14 3,
 Mo 15 4,
 Oo 16 (.iaddr 1 (.t 14) (.t 15)),
 Oo 17 (.load false 1 (.t 16)),
 Oo 18 (.call 65 [(.t 17)]),
 Mo 5 18] [3, 4, 5])
 (.seq (.reg [Mo 19 5,
 Oo 20 (.un .not (.t 19))] [3, 4, 20])
 (.cond (.t 20) (.seq (.reg [Oo 2 (.mv (.c (.int .i64 2)))] [2])
 (.ret))
 (.skip)))))
 (.reg [Mo 12 4,
 Oo 13 (.bin .add (.t 12) (.c (.int .i64 1))),
 Mo 4 13] [3, 4]))
def A49 : AFunc := ⟨1, [.t 2], .seq (.reg [Oo 2 (.mv (.c (.int .i64 0)))] [0])
 (.seq (.reg [Mo 6 0,
 Oo 7 (.call 50 [(.t 6)]),
 Mo 3 7] [3])
 (.seq (.seq (.reg [Oo 4 (.mv (.c (.int .i64 0)))] [3, 4])
 (.blk 0 (.loop L49x0)))
 (.seq (.seq (.reg [Mo 21 3,
 Oo 22 (.len false (.t 21)),
 Oo 23 (.bin .gtr (.t 22) (.c (.int .i64 16)))] [23])
 (.cond (.t 23) (.seq (.reg [Oo 2 (.mv (.c (.int .i64 3)))] [2])
 (.ret))
 (.skip)))
 (.seq (.reg [Oo 2 (.mv (.c (.int .i64 0)))] [2])
 (.ret)))))⟩
theorem c49 : cmpF Tryz.prog ⟨[(59, 4), (81, 4), (82, 4), (101, 4), (113, 4)], false, false⟩ Tryz.f49 K49 = some A49 := by kernel_rfl
/-- collator/collatorref01.split -/
def K50 : List (List Nat) := [[0], [0, 3], [0, 3, 4], [0, 3, 4, 5], [0, 3, 4, 5, 9], [0, 3, 4, 5, 15], [0, 3, 5], [0, 3, 4, 5], [0, 3, 4, 5], [2]]
def L50x0 : ACode := .seq (.seq (.reg [Mo 6 5,
 Mo 7 0,
 Oo 8 (.len true (.t 7)),
 Oo 9 (.bin .lss (.t 6) (.t 8))] [0, 3, 4, 5, 9])
 (.cond (.t 9) (.skip)
 (.exit 0)))
 (.seq (.blk 1 (.seq (.reg [Mo 12 0,
 Mo 13 5,
 Oo 14 (.sidx (.t 12) (.t 13)),
 Oo 15 (.bin .eql (.t 14) (.c (.int .u8 47)))] [0, 3, 4, 5, 15])
 (.cond (.t 15) (.seq (.reg [Mo 16 3,
 Mo 17 0,
 Mo 18 4,
 Mo 19 5,
 Oo 20 (.slice none (.t 17) (some (.t 18)) (some (.t 19)) none),
 Oo 21 (.mks 1 1 false [(.str [])] [(0, (.t 20))]),
 Oo 22 (.app none 1 16 (.t 16) (.t 21)),
 Mo 3 22] [0, 3, 5])
 (.reg [Mo 23 5,
 Oo 24 (.bin .add (.t 23) (.c (.int .i64 1))),
 Mo 4 24] [0, 3, 4, 5]))
 (.skip))))
 (.reg [Mo 10 5,
 Oo 11 (.bin .add (.t 10) (.c (.int .i64 1))),
 Mo 5 11] [0, 3, 4, 5]))
def A50 : AFunc := ⟨1, [.t 2], .seq (.reg [Oo 2 (.mv (.c (.sl 1 [] .nil)))] [0])
 (.seq (.reg [Oo 3 (.mv (.c (.sl 1 [] .nil)))] [0, 3])
 (.seq (.reg [Oo 4 (.mv (.c (.int .i64 0)))] [0, 3, 4])
 (.seq (.seq (.reg [Oo 5 (.mv (.c (.int .i64 0)))] [0, 3, 4, 5])
 (.blk 0 (.loop L50x0)))
 (.seq (.reg [Mo 25 3,
 Mo 26 0,
 Mo 27 4,
 Oo 28 (.slice none (.t 26) (some (.t 27)) none none),
 Oo 29 (.mks 1 1 false [(.str [])] [(0, (.t 28))]),
 Oo 30 (.app none 1 16 (.t 25) (.t 29)),
 Mo 2 30] [2])
 (.ret)))))⟩
theorem c50 : cmpF Tryz.prog ⟨[(59, 4), (81, 4), (82, 4), (101, 4), (113, 4)], false, false⟩ Tryz.f50 K50 = some A50 := by kernel_rfl
/-- collator/collatorref02.count -/
def K56 : List (List Nat) := [[0, 1], [0, 1, 5], [0, 1, 5, 6], [0, 1, 5, 6, 10], [0, 1, 5, 6, 19], [0, 1, 5, 6], [0, 1, 5, 6], [4]]
def L56x0 : ACode := .seq (.seq (.reg [Mo 7 6,
 Mo 8 0,
 Oo 9 (.len false (.t 8)),
 Oo 10 (.bin .lss (.t 7) (.t 9))] [0, 1, 5, 6, 10])
 (.cond (.t 10) (.skip)
 (.exit 0)))
 (.seq (.blk 1 (.seq (.reg [Mo 13 0,
 Mo 14 6,
 Oo 15 (.iaddr 4 (.t 13) (.t 14)),
 Oo 16 (.faddr 0 (.t 15)),
 Oo 17 (.load false 1 (.t 16)),
 Mo 18 1,
 Oo 19 (.bin .eql (.t 17) (.t 18))] [0, 1, 5, 6, 19])
 (.cond (.t 19) (.reg [Mo 20 5,
 Oo 21 (.bin .add (.t 20) (.c (.int .i64 1))),
 Mo 5 21] [0, 1, 5, 6])
 (.skip))))
 (.reg [Mo 11 6,
 Oo 12 (.bin .add (.t 11) (.c (.int .i64 1))),
 Mo 6 12] [0, 1, 5, 6]))
def A56 : AFunc := ⟨2, [.t 4], .seq (.reg [Oo 4 (.mv (.c (.int .i64 0)))] [0, 1])
 (.seq (.reg [Oo 5 (.mv (.c (.int .i64 0)))] [0, 1, 5])
 (.seq (.seq (.reg [Oo 6 (.mv (.c (.int .i64 0)))] [0, 1, 5, 6])
 (.blk 0 (.loop L56x0)))
 (.seq (.reg [Mo 22 5,
 Mo 4 22] [4])
 (.ret))))⟩
theorem c56 : cmpF Tryz.prog ⟨[(59, 4), (81, 4), (82, 4), (101, 4), (113, 4)], false, false⟩ Tryz.f56 K56 = some A56 := by kernel_rfl
/-- collator/collatorref02.some -/
def K57 : List (List Nat) := [[0, 1, 2, 3], [0, 1, 2, 3, 9], [0, 1, 2, 3, 9, 14], [0, 1, 2, 3, 9, 10], [0, 1, 2, 3, 9, 10, 24], [0, 1, 2, 3, 9, 10, 46], [8], [0, 1, 2, 3, 9, 63], [8], [0, 1, 2, 3, 9], [8]]
def L57x0 : ACode := .seq (.seq (.reg [Mo 11 9,
 Mo 12 0,
 Oo 13 (.len false (.t 12)),
 Oo 14 (.bin .lss (.t 11) (.t 13))] [0, 1, 2, 3, 9, 14])
 (.cond (.t 14) (.skip)
 (.exit 0)))
 (.seq (.blk 1 (.seq (.reg [Mo 17 0,
 Mo 18 9,
 Oo 19 (.iaddr 4 (.t 17) (.t 18)),
 Oo 20 (.load true 4 (.t 19)),
 Oo 10 (.alloc [(.str []), (.int .i64 0), (.str []), (.bool false)]),
 ⟨none, none, .store 4 (.t 10) (.t 20), []⟩] [0, 1, 2, 3, 9, 10])
 (.seq (.seq (.reg [Oo 21 (.faddr 0 (.t 10)),
 Oo 22 (.load false 1 (.t 21)),
 Mo 23 1,
 Oo 24 (.bin .neq (.t 22) (.t 23))] [0, 1, 2, 3, 9, 10, 24])
 (.cond (.t 24) (.exit 1)
 (.skip)))
 (.seq (.seq (.reg [Mo 25 3,
 Oo 26 (.bin .eql (.t 25) (.c (.int .i64 5))),
 Mo 27 26,
 ⟨(some 28), some (27, true), .faddr 1 (.t 10), []⟩,
 ⟨(some 29), some (27, true), .load false 1 (.t 28), []⟩,
 ⟨(some 30), some (27, true), .bin .lss (.t 29) (.c (.int .i64 1)), []⟩,
 ⟨(some 31), some (27, true), .mv (.t 30), []⟩,
 ⟨(some 32), some (31, false), .faddr 1 (.t 10), []⟩,
 ⟨(some 33), some (31, false), .load false 1 (.t 32), []⟩,
 ⟨(some 34), some (31, false), .bin .gtr (.t 33) (.c (.int .i64 3)), []⟩,
 ⟨(some 35), some (27, true), .pick (.t 31) (.c (.bool true)) (.t 34), []⟩,
 ⟨(some 36), some (27, true), .mv (.t 35), []⟩,
 ⟨(some 37), some (36, false), .faddr 1 (.t 10), []⟩,
 ⟨(some 38), some (36, false), .load false 1 (.t 37), []⟩,
 ⟨(some 39), some (36, false), .bin .eql (.t 38) (.c (.int .i64 1)), []⟩,
 ⟨(some 40), some (36, false), .mv (.t 39), []⟩,
 ⟨(some 41), some (40, true), .faddr 2 (.t 10), []⟩,
 ⟨(some 42), some (40, true), .load false 1 (.t 41), []⟩,
 ⟨(some 43), some (40, true), .bin .neq (.t 42) (.c (.str [])), []⟩,
 ⟨(some 44), some (36, false), .pick (.t 40) (.t 43) (.c (.bool false)), []⟩,
 ⟨(some 45), some (27, true), .pick (.t 36) (.c (.bool true)) (.t 44), []⟩,
 Oo 46 (.pick (.t 27) (.t 45) (.c (.bool false)))] [0, 1, 2, 3, 9, 10, 46])
 (.cond (.t 46) (.seq (.reg [Oo 8 (.mv (.c (.bool true)))] [8])
 (.ret))
 (.skip)))
 (.seq (.reg [Mo 47 3,
 Oo 48 (.bin .eql (.t 47) (.c (.int .i64 7))),
 Mo 49 48,
 ⟨(some 50), some (49, true), .faddr 2 (.t 10), []⟩,
 ⟨(some 51), some (49, true), .load false 1 (.t 50), []⟩,
 ⟨(some 52), some (49, true), .len true (.t 51), []⟩,
 ⟨(some 53), some (49, true), .mv (.t 2), []⟩,
 ⟨(some 54), some (49, true), .bin .gtr (.t 52) (.t 53), []⟩,
 Oo 55 (.pick (.t 49) (.t 54) (.c (.bool false))),
 Mo 56 55,
 ⟨(some 57), some (56, false), .mv (.t 3), []⟩,
 ⟨(some 58), some (56, false), .bin .eql (.t 57) (.c (.int .i64 9)), []⟩,
 ⟨(some 59), some (56, false), .mv (.t 58), []⟩,
 ⟨(some 60), some (59, true), .faddr 3 (.t 10), []⟩,
 ⟨(some 61), some (59, true), .load false 1 (.t 60), []⟩,
 ⟨(some 62), some (56, false), .pick (.t 59) (.t 61) (.c (.bool false)), []⟩,
 Oo 63 (.pick (.t 56) (.c (.bool true)) (.t 62))] [0, 1, 2, 3, 9, 63])
 (.cond (.t 63) (.seq (.reg [Oo 8 (.mv (.c (.bool true)))] [8])
 (.ret))
 (.skip)))))))
 (.reg [Mo 15 9,
 Oo 16 (.bin .add (.t 15) (.c (.int .i64 1))),
 Mo 9 16] [0, 1, 2, 3, 9]))
def A57 : AFunc := ⟨4, [.t 8], .seq (.reg [Oo 8 (.mv (.c (.bool false)))] [0, 1, 2, 3])
 (.seq (.seq (.reg [Oo 9 (.mv (.c (.int .i64 0)))] [0, 1, 2, 3, 9])
 (.blk 0 (.loop L57x0)))
 (.seq (.reg [Oo 8 (.mv (.c (.bool false)))] [8])
 (.ret)))⟩
theorem c57 : cmpF Tryz.prog ⟨[(59, 4), (81, 4), (82, 4), (101, 4), (113, 4)], false, false⟩ Tryz.f57 K57 = some A57 := by kernel_rfl
/-- collator/collatorref02.dir -/
def K58 : List (List Nat) := [[0, 1], [0, 1, 5], [0, 1, 5, 9], [0, 1, 5, 26], [4], [0, 1, 5], [4]]
def L58x0 : ACode := .seq (.seq (.reg [Mo 6 5,
 Mo 7 0,
 Oo 8 (.len false (.t 7)),
 Oo 9 (.bin .lss (.t 6) (.t 8))] [0, 1, 5, 9])
 (.cond (.t 9) (.skip)
 (.exit 0)))
 (.seq (.blk 1 (.seq (.reg [Mo 12 0,
 Mo 13 5,
 Oo 14 (.iaddr 4 (.t 12) (.t 13)),
 Oo 15 (.faddr 0 (.t 14)),
 Oo 16 (.load false 1 (.t 15)),
 Mo 17 1,
 Oo 18 (.bin .eql (.t 16) (.t 17)),
 Mo 19 18,
 ⟨(some 20), some (19, true), .mv (.t 0), []⟩,
 ⟨(some 21), some (19, true), .mv (.t 5), []⟩,
 ⟨(some 22), some (19, true), .iaddr 4 (.t 20) (.t 21), []⟩,
 ⟨(some 23), some (19, true), .faddr 1 (.t 22), []⟩,
 ⟨(some 24), some (19, true), .load false 1 (.t 23), []⟩,
 ⟨(some 25), some (19, true), .bin .eql (.t 24) (.c (.int .i64 1)), []⟩,
 Oo 26 (.pick (.t 19) (.t 25) (.c (.bool false)))] [0, 1, 5, 26])
 (.cond (.t 26) (.seq (.reg [Oo 4 (.mv (.c (.bool true)))] [4])
 (.ret))
 (.skip))))
 (.reg [Mo 10 5,
 Oo 11 (.bin .add (.t 10) (.c (.int .i64 1))),
 Mo 5 11] [0, 1, 5]))
def A58 : AFunc := ⟨2, [.t 4], .seq (.reg [Oo 4 (.mv (.c (.bool false)))] [0, 1])
 (.seq (.seq (.reg [Oo 5 (.mv (.c (.int .i64 0)))] [0, 1, 5])
 (.blk 0 (.loop L58x0)))
 (.seq (.reg [Oo 4 (.mv (.c (.bool false)))] [4])
 (.ret)))⟩
theorem c58 : cmpF Tryz.prog ⟨[(59, 4), (81, 4), (82, 4), (101, 4), (113, 4)], false, false⟩ Tryz.f58 K58 = some A58 := by kernel_rfl
/-- collator/collatorref01.may -/
def K65 : List (List Nat) := [[0], [0, 18], [2], [0, 3], [0, 3, 22], [0, 3, 28], [2], [0, 3], [2]]
def L65x0 : ACode := .seq (.seq (.reg [Mo 19 3,
 Mo 20 0,
 Oo 21 (.len true (.t 20)),
 Oo 22 (.bin .lss (.t 19) (.t 21))] [0, 3, 22])
 (.cond (.t 22) (.skip)
 (.exit 0)))
 (.seq (.blk 1 (.seq (.reg [Mo 25 0,
 Mo 26 3,
 Oo 27 (.sidx (.t 25) (.t 26)),
 Oo 28 (.bin .eql (.t 27) (.c (.int .u8 0)))] [0, 3, 28])
 (.cond (.t 28) (.seq (.reg [Oo 2 (.mv (.c (.bool false)))] [2])
 (.ret))
 (.skip))))
 (.reg [Mo 23 3,
 Oo 24 (.bin .add (.t 23) (.c (.int .i64 1))),
 Mo 3 24] [0, 3]))
def A65 : AFunc := ⟨1, [.t 2], .seq (.reg [Oo 2 (.mv (.c (.bool false)))] [0])
 (.seq (.seq (.reg [Mo 4 0,
 Oo 5 (.bin .eql (.t 4) (.c (.str []))),
 Mo 6 5,
 ⟨(some 7), some (6, false), .mv (.t 0), []⟩,
 ⟨(some 8), some (6, false), .bin .eql (.t 7) (.c (.str [46])), []⟩,
 Oo 9 (.pick (.t 6) (.c (.bool true)) (.t 8)),
 Mo 10 9,
 ⟨(some 11), some (10, false), .mv (.t 0), []⟩,
 ⟨(some 12), some (10, false), .bin .eql (.t 11) (.c (.str [46, 46])), []⟩,
 Oo 13 (.pick (.t 10) (.c (.bool true)) (.t 12)),
 Mo 14 13,
 ⟨(some 15), some (14, false), .mv (.t 0), []⟩,
 ⟨(some 16), some (14, false), .len true (.t 15), []⟩,
 ⟨(some 17), some (14, false), .bin .gtr (.t 16) (.c (.int .i64 64)), []⟩,
 Oo 18 (.pick (.t 14) (.c (.bool true)) (.t 17))] [0, 18])
 (.cond (.t 18) (.seq (.reg [Oo 2 (.mv (.c (.bool false)))] [2])
 (.ret))
 (.skip)))
 (.seq (.seq (.reg [Oo 3 (.mv (.c (.int .i64 0)))] [0, 3])
 (.blk 0 (.loop L65x0)))
 (.seq (.reg [Oo 2 (.mv (.c (.bool true)))] [2])
 (.ret))))⟩
theorem c65 : cmpF Tryz.prog ⟨[(59, 4), (81, 4), (82, 4), (101, 4), (113, 4)], false, false⟩ Tryz.f65 K65 = some A65 := by kernel_rfl
end Go.Proofs.YtpkeiffclipjmaaGreatDoor.Rx
