/-
 Rx: the plain program (written by gen/tab.py): its functions, and that each is what the program's own is told as.
-/
import Derived.Test.YtdjgdipmjbkilaaGreatDoorRxK
import Derived.Test.YtdjgdipmjbkilaaGreatDoorProg
import Derived.KernelRfl
namespace Go.Proofs.YtdjgdipmjbkilaaGreatDoor.Rx
open Go
/-- collator/collatorlaw12.ReportTells -/
def K3 : List (List Nat) := [[0, 1, 2, 4, 5, 6, 7, 8, 12], [0, 1, 2, 4, 5, 6, 7, 8, 12, 19], [4, 5, 6, 7, 8, 12, 19, 20], [5, 6, 7, 8, 12, 19, 20, 21], [6, 7, 8, 19, 20, 64, 65, 66], [6, 7, 8, 19, 20, 64, 65, 66, 67], [6, 7, 8, 19, 20, 24, 64, 65, 66], [6, 7, 8, 19, 20, 24, 25, 26, 64, 65, 66], [6, 7, 8, 19, 20, 24, 25, 26, 27, 28, 64, 65, 66], [6, 7, 8, 19, 20, 64, 65, 66, 94], [18], [6, 7, 8, 19, 20, 64, 65, 66], [6, 7, 8, 19, 29], [6, 8, 19, 29, 31], [6, 8, 19, 29, 31, 32], [6, 8, 19, 29, 31, 32, 112], [6, 19, 29, 31, 32], [19, 145, 146, 147], [19, 145, 146, 147, 148], [19, 34, 145, 146, 147], [19, 34, 35, 36, 145, 146, 147], [19, 35, 36, 37, 38, 145, 146, 147], [19, 145, 146, 147, 169], [18], [19, 145, 146, 147], [18]]
def L3x0 : ACode := .seq (.reg [Oo 67 (.bin .lss (.t 66) (.t 65))] [6, 7, 8, 19, 20, 64, 65, 66, 67])
 (.seq (.cond (.t 67) (.skip)
 (.exit 0))
 (.seq (.blk 1 (.seq (.reg [Oo 68 (.iaddr 1 (.t 64) (.t 66)),
 Oo 69 (.load false 1 (.t 68)),
 Mo 24 69] [6, 7, 8, 19, 20, 24, 64, 65, 66])
 (.seq (.reg [Mo 71 24,
 Oo 72 (.call 12 [(.t 71)]),
 Mo 70 72,
 Oo 73 (.ext (.t 70) 0),
 Oo 74 (.ext (.t 70) 1),
 Mo 25 73,
 Mo 26 74] [6, 7, 8, 19, 20, 24, 25, 26, 64, 65, 66])
 (.seq (.reg [Mo 76 24,
 Oo 77 (.call 13 [(.t 76)]),
 Mo 75 77,
 Oo 78 (.ext (.t 75) 0),
 Oo 79 (.ext (.t 75) 1),
 Mo 27 78,
 Mo 28 79] [6, 7, 8, 19, 20, 24, 25, 26, 27, 28, 64, 65, 66])
 (.seq (.reg [Mo 80 25,
 Mo 81 27,
 Oo 82 (.bin .neq (.t 80) (.t 81)),
 Mo 83 82,
 ⟨(some 84), some (83, false), .mv (.t 26), []⟩,
 ⟨(some 85), some (83, false), .mv (.t 28), []⟩,
 ⟨(some 86), some (83, false), .bin .neq (.t 84) (.t 85), []⟩,
 Oo 87 (.pick (.t 83) (.c (.bool true)) (.t 86)),
 Mo 88 87,
 ⟨(some 89), some (88, false), .mv (.t 24), []⟩,
 ⟨(some 90), some (88, false), .call 14 [(.t 89)], []⟩,
 ⟨(some 91), some (88, false), .mv (.t 24), []⟩,
 ⟨(some 92), some (88, false), .call 15 [(.t 91)], []⟩,
 ⟨(some 93), some (88, false), .eqv true (some [1, 1, 1, 1, 1, 1]) (.t 90) (.t 92), []⟩,
 Oo 94 (.pick (.t 88) (.c (.bool true)) (.t 93))] [6, 7, 8, 19, 20, 64, 65, 66, 94])
 (.cond (.t 94) (.seq (.reg [Oo 18 (.mv (.c (.bool false)))] [18])
 (.ret))
 (.skip)))))))
 (.reg [Oo 95 (.bin .add (.t 66) (.c (.int .i64 1))),
 Mo 66 95] [6, 7, 8, 19, 20, 64, 65, 66])))
def L3x1 : ACode := .seq (.reg [Oo 148 (.bin .lss (.t 147) (.t 146))] [19, 145, 146, 147, 148])
 (.seq (.cond (.t 148) (.skip)
 (.exit 2))
 (.seq (.blk 3 (.seq (.reg [Oo 149 (.iaddr 1 (.t 145) (.t 147)),
 Oo 150 (.load false 1 (.t 149)),
 Mo 34 150] [19, 34, 145, 146, 147])
 (.seq (.reg [Mo 152 34,
 Oo 153 (.call 17 [(.t 152)]),
 Mo 151 153,
 Oo 154 (.ext (.t 151) 0),
 Oo 155 (.ext (.t 151) 1),
 Mo 35 154,
 Mo 36 155] [19, 34, 35, 36, 145, 146, 147])
 (.seq (.reg [Mo 157 34,
 Oo 158 (.call 18 [(.t 157)]),
 Mo 156 158,
 Oo 159 (.ext (.t 156) 0),
 Oo 160 (.ext (.t 156) 1),
 Mo 37 159,
 Mo 38 160] [19, 35, 36, 37, 38, 145, 146, 147])
 (.seq (.reg [Mo 161 36,
 Mo 162 38,
 Oo 163 (.bin .neq (.t 161) (.t 162)),
 Mo 164 163,
 ⟨(some 165), some (164, false), .mv (.t 35), []⟩,
 ⟨(some 166), some (164, false), .mv (.t 37), []⟩,
 ⟨(some 167), some (164, false), .call 19 [(.t 165), (.t 166)], []⟩,
 ⟨(some 168), some (164, false), .un .not (.t 167), []⟩,
 Oo 169 (.pick (.t 164) (.c (.bool true)) (.t 168))] [19, 145, 146, 147, 169])
 (.cond (.t 169) (.seq (.reg [Oo 18 (.mv (.c (.bool false)))] [18])
 (.ret))
 (.skip)))))))
 (.reg [Oo 170 (.bin .add (.t 147) (.c (.int .i64 1))),
 Mo 147 170] [19, 145, 146, 147])))
def A3 : AFunc := ⟨9, [.t 18], .seq (.reg [Oo 12 (.box (.t 3)),
 Oo 18 (.mv (.c (.bool false)))] [0, 1, 2, 4, 5, 6, 7, 8, 12])
 (.seq (.reg [Oo 39 (.call 8 []),
 Mo 19 39] [0, 1, 2, 4, 5, 6, 7, 8, 12, 19])
 (.seq (.reg [Mo 40 0,
 Mo 41 1,
 Mo 42 2,
 Oo 43 (.aaddr 3 1 (.t 12) (.c (.int .i64 0))),
 Oo 44 (.load false 1 (.t 43)),
 Oo 45 (.call 9 [(.t 40), (.t 41), (.t 42), (.t 44)]),
 Mo 20 45] [4, 5, 6, 7, 8, 12, 19, 20])
 (.seq (.reg [Mo 47 4,
 Oo 48 (.call 10 [(.t 47), (.c (.sl 1 [] .nil))]),
 Mo 46 48,
 Oo 49 (.ext (.t 46) 0),
 Oo 50 (.ext (.t 46) 1),
 Mo 21 49,
 Mo 22 50] [5, 6, 7, 8, 12, 19, 20, 21])
 (.seq (.seq (.regD [Mo 51 20,
 Mo 52 20,
 Oo 53 (.aaddr 3 1 (.t 12) (.c (.int .i64 1))),
 Oo 54 (.load false 1 (.t 53)),
 Oo 55 (.aaddr 3 1 (.t 12) (.c (.int .i64 2))),
 Oo 56 (.load false 1 (.t 55)),
 Mo 57 21,
 ⟨(some 58), none, .call 11 [(.t 52), (.t 54), (.t 56), (.t 57)], [3, 5]⟩,
 Mo 59 5,
 Mo 60 5,
 Oo 61 (.len false (.t 60)),
 Oo 62 (.min [(.t 61), (.c (.int .i64 4))]),
 Oo 63 (.slice (some 8) (.t 59) none (some (.t 62)) none),
 ⟨(some 64), none, .mks 3 1 false [(.sl 8 [] .nil)] [(0, (.t 51)), (1, (.t 58)), (2, (.t 63))], [7]⟩,
 ⟨(some 65), none, .len false (.t 64), [7]⟩,
 Oo 66 (.mv (.c (.int .i64 0)))] [6, 7, 8, 19, 20, 64, 65, 66])
 (.blk 0 (.loop L3x0)))
 (.seq (.reg [Mo 97 20,
 Oo 98 (.call 13 [(.t 97)]),
 Mo 96 98,
 Oo 99 (.ext (.t 96) 0),
 Oo 100 (.ext (.t 96) 1),
 Mo 29 99,
 Mo 30 100] [6, 7, 8, 19, 29])
 (.seq (.reg [Mo 101 7,
 Mo 102 29,
 Oo 103 (.len true (.t 102)),
 Oo 104 (.bin .add (.t 103) (.c (.int .i64 1))),
 Oo 105 (.call 16 [(.t 101), (.t 104)]),
 Mo 31 105] [6, 8, 19, 29, 31])
 (.seq (.reg [Mo 106 29,
 Mo 107 31,
 Oo 108 (.slice none (.t 106) none (some (.t 107)) none),
 Mo 32 108] [6, 8, 19, 29, 31, 32])
 (.seq (.seq (.reg [Mo 109 31,
 Mo 110 29,
 Oo 111 (.len true (.t 110)),
 Oo 112 (.bin .lss (.t 109) (.t 111))] [6, 8, 19, 29, 31, 32, 112])
 (.cond (.t 112) (.regD [Mo 113 29,
 Mo 114 31,
 Oo 115 (.slice none (.t 113) none (some (.t 114)) none),
 Mo 116 8,
 Oo 117 (.mks 1 1 false [(.int .u8 0)] [(0, (.t 116))]),
 Oo 118 (.conv .ofBytes (.t 117)),
 Oo 119 (.bin .add (.t 115) (.t 118)),
 Mo 120 29,
 Mo 121 31,
 Oo 122 (.bin .add (.t 121) (.c (.int .i64 1))),
 Oo 123 (.slice none (.t 120) (some (.t 122)) none none),
 Oo 124 (.bin .add (.t 119) (.t 123)),
 Mo 32 124] [6, 19, 29, 31, 32])
 (.skip)))
 (.seq (.seq (.regD [Mo 125 6,
 Mo 126 6,
 Oo 127 (.len true (.t 126)),
 Oo 128 (.min [(.t 127), (.c (.int .i64 200))]),
 Oo 129 (.slice none (.t 125) none (some (.t 128)) none),
 Mo 130 29,
 Mo 131 29,
 Mo 132 31,
 Oo 133 (.slice none (.t 131) none (some (.t 132)) none),
 Mo 134 32,
 Mo 135 29,
 Mo 136 6,
 Mo 137 6,
 Oo 138 (.len true (.t 137)),
 Oo 139 (.min [(.t 138), (.c (.int .i64 200))]),
 Oo 140 (.slice none (.t 136) none (some (.t 139)) none),
 Oo 141 (.bin .add (.t 135) (.t 140)),
 Mo 142 29,
 Mo 143 29,
 Oo 144 (.bin .add (.t 142) (.t 143)),
 Oo 145 (.mks 6 1 false [(.str [])] [(0, (.t 129)), (1, (.t 130)), (2, (.t 133)), (3, (.t 134)), (4, (.t 141)), (5, (.t 144))]),
 Oo 146 (.len false (.t 145)),
 Oo 147 (.mv (.c (.int .i64 0)))] [19, 145, 146, 147])
 (.blk 2 (.loop L3x1)))
 (.seq (.reg [Mo 171 19,
 Mo 18 171] [18])
 (.ret)))))))))))⟩
theorem c3 : cmpF Tryz.prog ⟨[(28, 2), (29, 2), (30, 3), (50, 2)], false, false⟩ Tryz.f3 K3 = some A3 := by kernel_rfl
/-- collator/collatorlaw12.ReportBack -/
def K4 : List (List Nat) := [[0, 1, 2, 3, 4], [0, 1, 2, 3, 4, 11], [0, 1, 2, 4, 11, 12], [11, 12, 13], [11, 12, 13, 14, 15], [11, 12, 13, 14, 15, 16, 17], [11, 12, 13, 14, 15, 16, 17, 18, 19], [10]]
def A4 : AFunc := ⟨5, [.t 10], .seq (.reg [Oo 10 (.mv (.c (.bool false)))] [0, 1, 2, 3, 4])
 (.seq (.reg [Oo 20 (.call 8 []),
 Mo 11 20] [0, 1, 2, 3, 4, 11])
 (.seq (.reg [Mo 21 0,
 Mo 22 1,
 Mo 23 2,
 Mo 24 3,
 Oo 25 (.call 9 [(.t 21), (.t 22), (.t 23), (.t 24)]),
 Mo 12 25] [0, 1, 2, 4, 11, 12])
 (.seq (.reg [Mo 26 0,
 Mo 27 1,
 Mo 28 2,
 Mo 29 4,
 Oo 30 (.call 9 [(.t 26), (.t 27), (.t 28), (.t 29)]),
 Mo 13 30] [11, 12, 13])
 (.seq (.reg [Mo 32 12,
 Oo 33 (.call 12 [(.t 32)]),
 Mo 31 33,
 Oo 34 (.ext (.t 31) 0),
 Oo 35 (.ext (.t 31) 1),
 Mo 14 34,
 Mo 15 35] [11, 12, 13, 14, 15])
 (.seq (.reg [Mo 37 13,
 Oo 38 (.call 12 [(.t 37)]),
 Mo 36 38,
 Oo 39 (.ext (.t 36) 0),
 Oo 40 (.ext (.t 36) 1),
 Mo 16 39,
 Mo 17 40] [11, 12, 13, 14, 15, 16, 17])
 (.seq (.reg [Mo 42 14,
 Oo 43 (.call 17 [(.t 42)]),
 Mo 41 43,
 Oo 44 (.ext (.t 41) 0),
 Oo 45 (.ext (.t 41) 1),
 Mo 18 44,
 Mo 19 45] [11, 12, 13, 14, 15, 16, 17, 18, 19])
 (.seq (.reg [Mo 46 11,
 Mo 47 46,
 ⟨(some 48), some (47, true), .mv (.t 15), []⟩,
 ⟨(some 49), some (47, true), .bin .eql (.t 48) (.c (.int .i64 0)), []⟩,
 Oo 50 (.pick (.t 47) (.t 49) (.c (.bool false))),
 Mo 51 50,
 ⟨(some 52), some (51, true), .mv (.t 17), []⟩,
 ⟨(some 53), some (51, true), .bin .eql (.t 52) (.c (.int .i64 0)), []⟩,
 Oo 54 (.pick (.t 51) (.t 53) (.c (.bool false))),
 Mo 55 54,
 ⟨(some 56), some (55, true), .mv (.t 19), []⟩,
 ⟨(some 57), some (55, true), .bin .eql (.t 56) (.c (.int .i64 0)), []⟩,
 Oo 58 (.pick (.t 55) (.t 57) (.c (.bool false))),
 Mo 59 58,
 ⟨(some 60), some (59, true), .mv (.t 18), []⟩,
 ⟨(some 61), some (59, true), .mv (.t 12), []⟩,
 ⟨(some 62), some (59, true), .call 19 [(.t 60), (.t 61)], []⟩,
 Oo 63 (.pick (.t 59) (.t 62) (.c (.bool false))),
 Mo 64 63,
 ⟨(some 65), some (64, true), .mv (.t 14), []⟩,
 ⟨(some 66), some (64, true), .mv (.t 16), []⟩,
 ⟨(some 67), some (64, true), .bin .eql (.t 65) (.t 66), []⟩,
 ⟨(some 68), some (64, true), .mv (.t 12), []⟩,
 ⟨(some 69), some (64, true), .mv (.t 13), []⟩,
 ⟨(some 70), some (64, true), .call 19 [(.t 68), (.t 69)], []⟩,
 ⟨(some 71), some (64, true), .eqv false none (.t 67) (.t 70), []⟩,
 Oo 72 (.pick (.t 64) (.t 71) (.c (.bool false))),
 Mo 10 72] [10])
 (.ret))))))))⟩
theorem c4 : cmpF Tryz.prog ⟨[(28, 2), (29, 2), (30, 3), (50, 2)], false, false⟩ Tryz.f4 K4 = some A4 := by kernel_rfl
/-- collator/collatorlaw12.ReportForms -/
def K5 : List (List Nat) := [[0, 1, 2, 3, 4, 5], [0, 1, 2, 3, 4, 5, 13], [3, 4, 5, 13, 14], [3, 4, 5, 13, 14, 33], [3, 5, 13, 14, 16], [3, 13, 14], [13, 56, 57, 58], [13, 56, 57, 58, 59], [13, 18, 56, 57, 58], [13, 18, 19, 20, 56, 57, 58], [13, 18, 19, 20, 56, 57, 58, 68], [13, 56, 57, 58, 75], [12], [13, 18, 21, 22, 56, 57, 58], [13, 56, 57, 58, 87], [12], [13, 56, 57, 58], [12]]
def L5x0 : ACode := .seq (.reg [Oo 59 (.bin .lss (.t 58) (.t 57))] [13, 56, 57, 58, 59])
 (.seq (.cond (.t 59) (.skip)
 (.exit 0))
 (.seq (.blk 1 (.seq (.reg [Oo 60 (.iaddr 1 (.t 56) (.t 58)),
 Oo 61 (.load false 1 (.t 60)),
 Mo 18 61] [13, 18, 56, 57, 58])
 (.seq (.reg [Mo 63 18,
 Oo 64 (.call 17 [(.t 63)]),
 Mo 62 64,
 Oo 65 (.ext (.t 62) 0),
 Oo 66 (.ext (.t 62) 1),
 Mo 19 65,
 Mo 20 66] [13, 18, 19, 20, 56, 57, 58])
 (.seq (.seq (.reg [Mo 67 20,
 Oo 68 (.bin .neq (.t 67) (.c (.int .i64 0)))] [13, 18, 19, 20, 56, 57, 58, 68])
 (.cond (.t 68) (.seq (.seq (.reg [Mo 69 20,
 Oo 70 (.bin .neq (.t 69) (.c (.int .i64 11))),
 Mo 71 70,
 ⟨(some 72), some (71, false), .mv (.t 19), []⟩,
 ⟨(some 73), some (71, false), .len false (.t 72), []⟩,
 ⟨(some 74), some (71, false), .bin .gtr (.t 73) (.c (.int .i64 0)), []⟩,
 Oo 75 (.pick (.t 71) (.c (.bool true)) (.t 74))] [13, 56, 57, 58, 75])
 (.cond (.t 75) (.seq (.reg [Oo 12 (.mv (.c (.bool false)))] [12])
 (.ret))
 (.skip)))
 (.exit 1))
 (.skip)))
 (.seq (.reg [Mo 77 19,
 Oo 78 (.call 12 [(.t 77)]),
 Mo 76 78,
 Oo 79 (.ext (.t 76) 0),
 Oo 80 (.ext (.t 76) 1),
 Mo 21 79,
 Mo 22 80] [13, 18, 21, 22, 56, 57, 58])
 (.seq (.reg [Mo 81 22,
 Oo 82 (.bin .neq (.t 81) (.c (.int .i64 0))),
 Mo 83 82,
 ⟨(some 84), some (83, false), .mv (.t 21), []⟩,
 ⟨(some 85), some (83, false), .mv (.t 18), []⟩,
 ⟨(some 86), some (83, false), .bin .neq (.t 84) (.t 85), []⟩,
 Oo 87 (.pick (.t 83) (.c (.bool true)) (.t 86))] [13, 56, 57, 58, 87])
 (.cond (.t 87) (.seq (.reg [Oo 12 (.mv (.c (.bool false)))] [12])
 (.ret))
 (.skip))))))))
 (.reg [Oo 88 (.bin .add (.t 58) (.c (.int .i64 1))),
 Mo 58 88] [13, 56, 57, 58])))
def A5 : AFunc := ⟨6, [.t 12], .seq (.reg [Oo 12 (.mv (.c (.bool false)))] [0, 1, 2, 3, 4, 5])
 (.seq (.reg [Oo 23 (.call 8 []),
 Mo 13 23] [0, 1, 2, 3, 4, 5, 13])
 (.seq (.reg [Mo 25 0,
 Mo 26 1,
 Mo 27 2,
 Oo 28 (.call 9 [(.t 25), (.t 26), (.t 27), (.c (.int .i64 50))]),
 Oo 29 (.call 13 [(.t 28)]),
 Mo 24 29,
 Oo 30 (.ext (.t 24) 0),
 Oo 31 (.ext (.t 24) 1),
 Mo 14 30,
 Mo 15 31] [3, 4, 5, 13, 14])
 (.seq (.seq (.reg [Mo 32 14,
 Oo 33 (.bin .neq (.t 32) (.c (.str [])))] [3, 4, 5, 13, 14, 33])
 (.cond (.t 33) (.seq (.reg [Mo 34 4,
 Mo 35 14,
 Oo 36 (.len true (.t 35)),
 Oo 37 (.call 16 [(.t 34), (.t 36)]),
 Mo 16 37] [3, 5, 13, 14, 16])
 (.regD [Mo 38 14,
 Mo 39 16,
 Oo 40 (.slice none (.t 38) none (some (.t 39)) none),
 Mo 41 5,
 Oo 42 (.mks 1 1 false [(.int .u8 0)] [(0, (.t 41))]),
 Oo 43 (.conv .ofBytes (.t 42)),
 Oo 44 (.bin .add (.t 40) (.t 43)),
 Mo 45 14,
 Mo 46 16,
 Oo 47 (.bin .add (.t 46) (.c (.int .i64 1))),
 Oo 48 (.slice none (.t 45) (some (.t 47)) none none),
 Oo 49 (.bin .add (.t 44) (.t 48)),
 Mo 14 49] [3, 13, 14]))
 (.skip)))
 (.seq (.seq (.reg [Mo 50 3,
 Mo 51 3,
 Oo 52 (.len true (.t 51)),
 Oo 53 (.min [(.t 52), (.c (.int .i64 200))]),
 Oo 54 (.slice none (.t 50) none (some (.t 53)) none),
 Mo 55 14,
 Oo 56 (.mks 2 1 false [(.str [])] [(0, (.t 54)), (1, (.t 55))]),
 Oo 57 (.len false (.t 56)),
 Oo 58 (.mv (.c (.int .i64 0)))] [13, 56, 57, 58])
 (.blk 0 (.loop L5x0)))
 (.seq (.reg [Mo 89 13,
 Mo 12 89] [12])
 (.ret))))))⟩
theorem c5 : cmpF Tryz.prog ⟨[(28, 2), (29, 2), (30, 3), (50, 2)], false, false⟩ Tryz.f5 K5 = some A5 := by kernel_rfl
/-- collator/collatorlaw12.ReportParts -/
def K6 : List (List Nat) := [[0, 1, 2, 3, 4], [0, 1, 2, 3, 4, 11], [4, 11, 12], [11, 12, 13], [11, 12, 13, 14, 15], [11, 12, 13, 14, 15, 16, 17], [11, 12, 13, 14, 15, 16, 17, 18, 19], [11, 12, 13, 14, 16, 80], [10], [11, 12, 13, 20, 21], [11, 12, 13, 20, 21, 22], [11, 12, 13, 20, 21, 22, 23], [11, 12, 13, 20, 21, 22, 23, 24], [11, 12, 13, 20, 21, 22, 23, 24, 25], [11, 12, 13, 20, 21, 22, 23, 24, 25, 26], [11, 12, 13, 20, 21, 22, 23, 24, 25, 26, 100], [11, 12, 13, 20, 21, 22, 23, 24, 25, 26, 113], [10], [11, 12, 13, 20, 21, 22, 23, 24, 25, 26], [11, 12, 13, 20, 21, 22, 23, 24, 25, 26], [10]]
def L6x0 : ACode := .seq (.seq (.reg [Mo 99 26,
 Oo 100 (.bin .lss (.t 99) (.c (.int .i64 6)))] [11, 12, 13, 20, 21, 22, 23, 24, 25, 26, 100])
 (.cond (.t 100) (.skip)
 (.exit 0)))
 (.seq (.blk 1 (.seq (.seq (.regD [Mo 103 26,
 Oo 104 (.aaddr 6 1 (.t 22) (.t 103)),
 Oo 105 (.load false 1 (.t 104)),
 Mo 106 26,
 Oo 107 (.aaddr 6 1 (.t 23) (.t 106)),
 Oo 108 (.load false 1 (.t 107)),
 Mo 109 26,
 Oo 110 (.aaddr 6 1 (.t 24) (.t 109)),
 Oo 111 (.load false 1 (.t 110)),
 Oo 112 (.bin .add (.t 108) (.t 111)),
 Oo 113 (.bin .neq (.t 105) (.t 112))] [11, 12, 13, 20, 21, 22, 23, 24, 25, 26, 113])
 (.cond (.t 113) (.seq (.reg [Oo 10 (.mv (.c (.bool false)))] [10])
 (.ret))
 (.skip)))
 (.reg [Mo 114 25,
 Mo 115 26,
 Oo 116 (.aaddr 6 1 (.t 22) (.t 115)),
 Oo 117 (.load false 1 (.t 116)),
 Oo 118 (.bin .add (.t 114) (.t 117)),
 Mo 25 118] [11, 12, 13, 20, 21, 22, 23, 24, 25, 26])))
 (.reg [Mo 101 26,
 Oo 102 (.bin .add (.t 101) (.c (.int .i64 1))),
 Mo 26 102] [11, 12, 13, 20, 21, 22, 23, 24, 25, 26]))
def A6 : AFunc := ⟨5, [.t 10], .seq (.reg [Oo 10 (.mv (.c (.bool false)))] [0, 1, 2, 3, 4])
 (.seq (.reg [Oo 27 (.call 8 []),
 Mo 11 27] [0, 1, 2, 3, 4, 11])
 (.seq (.reg [Mo 28 0,
 Mo 29 1,
 Mo 30 2,
 Mo 31 3,
 Oo 32 (.call 9 [(.t 28), (.t 29), (.t 30), (.t 31)]),
 Mo 12 32] [4, 11, 12])
 (.seq (.reg [Mo 33 4,
 Mo 34 12,
 Oo 35 (.len false (.t 34)),
 Oo 36 (.bin .add (.t 35) (.c (.int .i64 1))),
 Oo 37 (.call 16 [(.t 33), (.t 36)]),
 Mo 13 37] [11, 12, 13])
 (.seq (.reg [Mo 39 12,
 Oo 40 (.call 12 [(.t 39)]),
 Mo 38 40,
 Oo 41 (.ext (.t 38) 0),
 Oo 42 (.ext (.t 38) 1),
 Mo 14 41,
 Mo 15 42] [11, 12, 13, 14, 15])
 (.seq (.reg [Mo 44 12,
 Mo 45 13,
 Oo 46 (.slice (some 8) (.t 44) none (some (.t 45)) none),
 Oo 47 (.call 12 [(.t 46)]),
 Mo 43 47,
 Oo 48 (.ext (.t 43) 0),
 Oo 49 (.ext (.t 43) 1),
 Mo 16 48,
 Mo 17 49] [11, 12, 13, 14, 15, 16, 17])
 (.seq (.reg [Mo 51 12,
 Mo 52 13,
 Oo 53 (.slice (some 8) (.t 51) (some (.t 52)) none none),
 Oo 54 (.call 12 [(.t 53)]),
 Mo 50 54,
 Oo 55 (.ext (.t 50) 0),
 Oo 56 (.ext (.t 50) 1),
 Mo 18 55,
 Mo 19 56] [11, 12, 13, 14, 15, 16, 17, 18, 19])
 (.seq (.seq (.reg [Mo 57 15,
 Oo 58 (.bin .neq (.t 57) (.c (.int .i64 0))),
 Mo 59 58,
 ⟨(some 60), some (59, false), .mv (.t 17), []⟩,
 ⟨(some 61), some (59, false), .bin .neq (.t 60) (.c (.int .i64 0)), []⟩,
 Oo 62 (.pick (.t 59) (.c (.bool true)) (.t 61)),
 Mo 63 62,
 ⟨(some 64), some (63, false), .mv (.t 19), []⟩,
 ⟨(some 65), some (63, false), .bin .neq (.t 64) (.c (.int .i64 0)), []⟩,
 Oo 66 (.pick (.t 63) (.c (.bool true)) (.t 65)),
 Mo 67 66,
 ⟨(some 68), some (67, false), .mv (.t 16), []⟩,
 ⟨(some 69), some (67, false), .mv (.t 18), []⟩,
 ⟨(some 70), some (67, false), .bin .add (.t 68) (.t 69), []⟩,
 ⟨(some 71), some (67, false), .mv (.t 14), []⟩,
 ⟨(some 72), some (67, false), .bin .neq (.t 70) (.t 71), []⟩,
 Oo 73 (.pick (.t 67) (.c (.bool true)) (.t 72)),
 Mo 74 73,
 ⟨(some 75), some (74, false), .mv (.t 16), []⟩,
 ⟨(some 76), some (74, false), .len true (.t 75), []⟩,
 ⟨(some 77), some (74, false), .mv (.t 14), []⟩,
 ⟨(some 78), some (74, false), .len true (.t 77), []⟩,
 ⟨(some 79), some (74, false), .bin .gtr (.t 76) (.t 78), []⟩,
 Oo 80 (.pick (.t 74) (.c (.bool true)) (.t 79))] [11, 12, 13, 14, 16, 80])
 (.cond (.t 80) (.seq (.reg [Oo 10 (.mv (.c (.bool false)))] [10])
 (.ret))
 (.skip)))
 (.seq (.reg [Mo 82 14,
 Mo 83 16,
 Oo 84 (.len true (.t 83)),
 Oo 85 (.slice none (.t 82) none (some (.t 84)) none),
 Oo 86 (.call 17 [(.t 85)]),
 Mo 81 86,
 Oo 87 (.ext (.t 81) 0),
 Oo 88 (.ext (.t 81) 1),
 Mo 20 87,
 Mo 21 88] [11, 12, 13, 20, 21])
 (.seq (.reg [Mo 89 12,
 Oo 90 (.call 14 [(.t 89)]),
 Oo 22 (.alloc [(.int .i64 0), (.int .i64 0), (.int .i64 0), (.int .i64 0), (.int .i64 0), (.int .i64 0)]),
 ⟨none, none, .store 6 (.t 22) (.t 90), []⟩] [11, 12, 13, 20, 21, 22])
 (.seq (.reg [Mo 91 12,
 Mo 92 13,
 Oo 93 (.slice (some 8) (.t 91) none (some (.t 92)) none),
 Oo 94 (.call 14 [(.t 93)]),
 Oo 23 (.alloc [(.int .i64 0), (.int .i64 0), (.int .i64 0), (.int .i64 0), (.int .i64 0), (.int .i64 0)]),
 ⟨none, none, .store 6 (.t 23) (.t 94), []⟩] [11, 12, 13, 20, 21, 22, 23])
 (.seq (.reg [Mo 95 12,
 Mo 96 13,
 Oo 97 (.slice (some 8) (.t 95) (some (.t 96)) none none),
 Oo 98 (.call 14 [(.t 97)]),
 Oo 24 (.alloc [(.int .i64 0), (.int .i64 0), (.int .i64 0), (.int .i64 0), (.int .i64 0), (.int .i64 0)]),
 ⟨none, none, .store 6 (.t 24) (.t 98), []⟩] [11, 12, 13, 20, 21, 22, 23, 24])
 (.seq (.reg [Oo 25 (.mv (.c (.int .i64 0)))] [11, 12, 13, 20, 21, 22, 23, 24, 25])
 (.seq (.seq (.reg [Oo 26 (.mv (.c (.int .i64 0)))] [11, 12, 13, 20, 21, 22, 23, 24, 25, 26])
 (.blk 0 (.loop L6x0)))
 (.seq (.reg [Mo 119 11,
 Mo 120 119,
 ⟨(some 121), some (120, true), .mv (.t 21), []⟩,
 ⟨(some 122), some (120, true), .bin .eql (.t 121) (.c (.int .i64 0)), []⟩,
 Oo 123 (.pick (.t 120) (.t 122) (.c (.bool false))),
 Mo 124 123,
 ⟨(some 125), some (124, true), .mv (.t 20), []⟩,
 ⟨(some 126), some (124, true), .mv (.t 12), []⟩,
 ⟨(some 127), some (124, true), .mv (.t 13), []⟩,
 ⟨(some 128), some (124, true), .slice (some 8) (.t 126) none (some (.t 127)) none, []⟩,
 ⟨(some 129), some (124, true), .call 19 [(.t 125), (.t 128)], []⟩,
 Oo 130 (.pick (.t 124) (.t 129) (.c (.bool false))),
 Mo 131 130,
 ⟨(some 132), some (131, true), .mv (.t 25), []⟩,
 ⟨(some 133), some (131, true), .mv (.t 12), []⟩,
 ⟨(some 134), some (131, true), .len false (.t 133), []⟩,
 ⟨(some 135), some (131, true), .bin .eql (.t 132) (.t 134), []⟩,
 Oo 136 (.pick (.t 131) (.t 135) (.c (.bool false))),
 Mo 10 136] [10])
 (.ret)))))))))))))))⟩
theorem c6 : cmpF Tryz.prog ⟨[(28, 2), (29, 2), (30, 3), (50, 2)], false, false⟩ Tryz.f6 K6 = some A6 := by kernel_rfl
/-- collator/collatorlaw12.ReportCuts -/
def K7 : List (List Nat) := [[0, 1, 2, 3, 4], [0, 1, 2, 3, 4, 11], [4, 11, 12], [4, 11, 12, 13, 14], [4, 11, 12, 13, 34], [10], [11, 12, 13, 15], [11, 12, 13, 15, 16], [11, 12, 13, 15, 16, 17], [11, 12, 13, 15, 16, 17, 45], [11, 12, 13, 15, 16, 17, 18, 19], [11, 12, 13, 15, 16, 17, 18, 56], [10], [11, 12, 13, 15, 16, 17], [11, 12, 13, 15, 16, 17], [11, 16, 20, 21], [10]]
def L7x0 : ACode := .seq (.seq (.reg [Mo 42 17,
 Mo 43 12,
 Oo 44 (.len false (.t 43)),
 Oo 45 (.bin .leq (.t 42) (.t 44))] [11, 12, 13, 15, 16, 17, 45])
 (.cond (.t 45) (.skip)
 (.exit 0)))
 (.seq (.blk 1 (.seq (.reg [Mo 49 12,
 Mo 50 17,
 Oo 51 (.slice (some 8) (.t 49) none (some (.t 50)) none),
 Oo 52 (.call 12 [(.t 51)]),
 Mo 48 52,
 Oo 53 (.ext (.t 48) 0),
 Oo 54 (.ext (.t 48) 1),
 Mo 18 53,
 Mo 19 54] [11, 12, 13, 15, 16, 17, 18, 19])
 (.seq (.seq (.reg [Mo 55 19,
 Oo 56 (.bin .neq (.t 55) (.c (.int .i64 0)))] [11, 12, 13, 15, 16, 17, 18, 56])
 (.cond (.t 56) (.seq (.reg [Oo 10 (.mv (.c (.bool false)))] [10])
 (.ret))
 (.skip)))
 (.reg [Mo 57 16,
 Mo 58 57,
 ⟨(some 59), some (58, false), .mv (.t 18), []⟩,
 ⟨(some 60), some (58, false), .len true (.t 59), []⟩,
 ⟨(some 61), some (58, false), .mv (.t 15), []⟩,
 ⟨(some 62), some (58, false), .bin .eql (.t 60) (.t 61), []⟩,
 Oo 63 (.pick (.t 58) (.c (.bool true)) (.t 62)),
 Mo 16 63] [11, 12, 13, 15, 16, 17]))))
 (.reg [Mo 46 17,
 Oo 47 (.bin .add (.t 46) (.c (.int .i64 1))),
 Mo 17 47] [11, 12, 13, 15, 16, 17]))
def A7 : AFunc := ⟨5, [.t 10], .seq (.reg [Oo 10 (.mv (.c (.bool false)))] [0, 1, 2, 3, 4])
 (.seq (.reg [Oo 22 (.call 8 []),
 Mo 11 22] [0, 1, 2, 3, 4, 11])
 (.seq (.reg [Mo 23 0,
 Mo 24 1,
 Mo 25 2,
 Mo 26 3,
 Oo 27 (.call 9 [(.t 23), (.t 24), (.t 25), (.t 26)]),
 Mo 12 27] [4, 11, 12])
 (.seq (.reg [Mo 29 12,
 Oo 30 (.call 12 [(.t 29)]),
 Mo 28 30,
 Oo 31 (.ext (.t 28) 0),
 Oo 32 (.ext (.t 28) 1),
 Mo 13 31,
 Mo 14 32] [4, 11, 12, 13, 14])
 (.seq (.seq (.reg [Mo 33 14,
 Oo 34 (.bin .neq (.t 33) (.c (.int .i64 0)))] [4, 11, 12, 13, 34])
 (.cond (.t 34) (.seq (.reg [Oo 10 (.mv (.c (.bool false)))] [10])
 (.ret))
 (.skip)))
 (.seq (.reg [Mo 35 4,
 Mo 36 13,
 Oo 37 (.len true (.t 36)),
 Oo 38 (.bin .add (.t 37) (.c (.int .i64 1))),
 Oo 39 (.call 16 [(.t 35), (.t 38)]),
 Mo 15 39] [11, 12, 13, 15])
 (.seq (.reg [Mo 40 15,
 Oo 41 (.bin .eql (.t 40) (.c (.int .i64 0))),
 Mo 16 41] [11, 12, 13, 15, 16])
 (.seq (.seq (.reg [Oo 17 (.mv (.c (.int .i64 0)))] [11, 12, 13, 15, 16, 17])
 (.blk 0 (.loop L7x0)))
 (.seq (.reg [Mo 65 13,
 Mo 66 15,
 Oo 67 (.slice none (.t 65) none (some (.t 66)) none),
 Oo 68 (.call 17 [(.t 67)]),
 Mo 64 68,
 Oo 69 (.ext (.t 64) 0),
 Oo 70 (.ext (.t 64) 1),
 Mo 20 69,
 Mo 21 70] [11, 16, 20, 21])
 (.seq (.reg [Mo 71 11,
 Mo 72 71,
 ⟨(some 73), some (72, true), .mv (.t 21), []⟩,
 ⟨(some 74), some (72, true), .bin .eql (.t 73) (.c (.int .i64 0)), []⟩,
 ⟨(some 75), some (72, true), .mv (.t 16), []⟩,
 ⟨(some 76), some (72, true), .eqv false none (.t 74) (.t 75), []⟩,
 Oo 77 (.pick (.t 72) (.t 76) (.c (.bool false))),
 Mo 78 77,
 ⟨(some 79), some (78, true), .mv (.t 21), []⟩,
 ⟨(some 80), some (78, true), .bin .eql (.t 79) (.c (.int .i64 0)), []⟩,
 ⟨(some 81), some (78, true), .mv (.t 80), []⟩,
 ⟨(some 82), some (81, false), .mv (.t 21), []⟩,
 ⟨(some 83), some (81, false), .bin .eql (.t 82) (.c (.int .i64 11)), []⟩,
 ⟨(some 84), some (81, false), .mv (.t 83), []⟩,
 ⟨(some 85), some (84, true), .mv (.t 20), []⟩,
 ⟨(some 86), some (84, true), .len false (.t 85), []⟩,
 ⟨(some 87), some (84, true), .bin .eql (.t 86) (.c (.int .i64 0)), []⟩,
 ⟨(some 88), some (81, false), .pick (.t 84) (.t 87) (.c (.bool false)), []⟩,
 ⟨(some 89), some (78, true), .pick (.t 81) (.c (.bool true)) (.t 88), []⟩,
 Oo 90 (.pick (.t 78) (.t 89) (.c (.bool false))),
 Mo 10 90] [10])
 (.ret))))))))))⟩
theorem c7 : cmpF Tryz.prog ⟨[(28, 2), (29, 2), (30, 3), (50, 2)], false, false⟩ Tryz.f7 K7 = some A7 := by kernel_rfl
/-- collator/collatorlaw12.awake -/
def K8 : List (List Nat) := [[], [1], [1, 2, 3], [1, 2, 3, 4, 5], [1, 2, 3, 4, 5, 7], [1, 2, 3, 4, 5, 7, 9], [1, 2, 3, 4, 5, 7, 9, 10, 11], [0]]
def A8 : AFunc := ⟨0, [.t 0], .seq (.reg [Oo 0 (.mv (.c (.bool false)))] [])
 (.seq (.reg [Oo 12 (.agg [(.int .i64 0), (.str []), (.str []), (.int .i64 0), (.int .i64 0), (.str []), (.int .i64 0), (.sl 3 [] .nil)] [(0, 1, (.c (.int .i64 1))), (1, 1, (.c (.str [97]))), (4, 1, (.c (.int .i64 1)))]),
 Oo 13 (.mks 1 8 true [(.int .i64 0), (.str []), (.str []), (.int .i64 0), (.int .i64 0), (.str []), (.int .i64 0), (.sl 3 [] .nil)] [(0, (.t 12))]),
 Mo 1 13] [1])
 (.seq (.reg [Mo 15 1,
 Oo 16 (.call 12 [(.t 15)]),
 Mo 14 16,
 Oo 17 (.ext (.t 14) 0),
 Oo 18 (.ext (.t 14) 1),
 Mo 2 17,
 Mo 3 18] [1, 2, 3])
 (.seq (.reg [Oo 20 (.call 17 [(.c (.str [49, 59, 49, 58, 97, 48, 58, 48, 59, 49, 59, 48, 58, 48, 59, 48, 58]))]),
 Mo 19 20,
 Oo 21 (.ext (.t 19) 0),
 Oo 22 (.ext (.t 19) 1),
 Mo 4 21,
 Mo 5 22] [1, 2, 3, 4, 5])
 (.seq (.reg [Oo 24 (.agg [(.int .i64 0), (.str []), (.str []), (.int .i64 0), (.int .i64 0), (.str []), (.int .i64 0), (.sl 3 [] .nil)] []),
 Oo 25 (.mks 1 8 true [(.int .i64 0), (.str []), (.str []), (.int .i64 0), (.int .i64 0), (.str []), (.int .i64 0), (.sl 3 [] .nil)] [(0, (.t 24))]),
 Oo 26 (.call 12 [(.t 25)]),
 Mo 23 26,
 Oo 27 (.ext (.t 23) 0),
 Oo 28 (.ext (.t 23) 1),
 Mo 6 27,
 Mo 7 28] [1, 2, 3, 4, 5, 7])
 (.seq (.reg [Oo 30 (.call 17 [(.c (.str [49]))]),
 Mo 29 30,
 Oo 31 (.ext (.t 29) 0),
 Oo 32 (.ext (.t 29) 1),
 Mo 8 31,
 Mo 9 32] [1, 2, 3, 4, 5, 7, 9])
 (.seq (.reg [Oo 34 (.call 17 [(.c (.str []))]),
 Mo 33 34,
 Oo 35 (.ext (.t 33) 0),
 Oo 36 (.ext (.t 33) 1),
 Mo 10 35,
 Mo 11 36] [1, 2, 3, 4, 5, 7, 9, 10, 11])
 (.seq (.reg [Mo 37 3,
 Oo 38 (.bin .eql (.t 37) (.c (.int .i64 0))),
 Mo 39 38,
 ⟨(some 40), some (39, true), .mv (.t 2), []⟩,
 ⟨(some 41), some (39, true), .bin .eql (.t 40) (.c (.str [49, 59, 49, 58, 97, 48, 58, 48, 59, 49, 59, 48, 58, 48, 59, 48, 58])), []⟩,
 Oo 42 (.pick (.t 39) (.t 41) (.c (.bool false))),
 Mo 43 42,
 ⟨(some 44), some (43, true), .mv (.t 5), []⟩,
 ⟨(some 45), some (43, true), .bin .eql (.t 44) (.c (.int .i64 0)), []⟩,
 Oo 46 (.pick (.t 43) (.t 45) (.c (.bool false))),
 Mo 47 46,
 ⟨(some 48), some (47, true), .mv (.t 4), []⟩,
 ⟨(some 49), some (47, true), .mv (.t 1), []⟩,
 ⟨(some 50), some (47, true), .call 19 [(.t 48), (.t 49)], []⟩,
 Oo 51 (.pick (.t 47) (.t 50) (.c (.bool false))),
 Mo 52 51,
 ⟨(some 53), some (52, true), .mv (.t 7), []⟩,
 ⟨(some 54), some (52, true), .bin .eql (.t 53) (.c (.int .i64 1)), []⟩,
 Oo 55 (.pick (.t 52) (.t 54) (.c (.bool false))),
 Mo 56 55,
 ⟨(some 57), some (56, true), .mv (.t 9), []⟩,
 ⟨(some 58), some (56, true), .bin .eql (.t 57) (.c (.int .i64 11)), []⟩,
 Oo 59 (.pick (.t 56) (.t 58) (.c (.bool false))),
 Mo 60 59,
 ⟨(some 61), some (60, true), .mv (.t 11), []⟩,
 ⟨(some 62), some (60, true), .bin .eql (.t 61) (.c (.int .i64 0)), []⟩,
 Oo 63 (.pick (.t 60) (.t 62) (.c (.bool false))),
 Mo 64 63,
 ⟨(some 65), some (64, true), .mv (.t 10), []⟩,
 ⟨(some 66), some (64, true), .len false (.t 65), []⟩,
 ⟨(some 67), some (64, true), .bin .eql (.t 66) (.c (.int .i64 0)), []⟩,
 Oo 68 (.pick (.t 64) (.t 67) (.c (.bool false))),
 Mo 69 68,
 ⟨(some 70), some (69, true), .mv (.t 1), []⟩,
 ⟨(some 71), some (69, true), .call 14 [(.t 70)], []⟩,
 ⟨(some 72), some (69, true), .agg [(.int .i64 0), (.int .i64 0), (.int .i64 0), (.int .i64 0), (.int .i64 0), (.int .i64 0)] [(0, 1, (.c (.int .i64 0))), (1, 1, (.c (.int .i64 1)))], []⟩,
 ⟨(some 73), some (69, true), .eqv false (some [1, 1, 1, 1, 1, 1]) (.t 71) (.t 72), []⟩,
 Oo 74 (.pick (.t 69) (.t 73) (.c (.bool false))),
 Mo 0 74] [0])
 (.ret))))))))⟩
theorem c8 : cmpF Tryz.prog ⟨[(28, 2), (29, 2), (30, 3), (50, 2)], false, false⟩ Tryz.f8 K8 = some A8 := by kernel_rfl
/-- collator/collatorlaw12.Entries -/
def K9 : List (List Nat) := [[0, 1, 2, 3], [3, 9, 10], [11], [8]]
def A9 : AFunc := ⟨4, [.t 8], .seq (.reg [Oo 8 (.mv (.c (.sl 8 [] .nil)))] [0, 1, 2, 3])
 (.seq (.reg [Mo 14 0,
 Mo 15 1,
 Mo 16 2,
 Oo 17 (.call 20 [(.t 14), (.t 15), (.t 16)]),
 Mo 13 17,
 Oo 18 (.ext (.t 13) 0),
 Oo 19 (.ext (.t 13) 1),
 Mo 9 18,
 Mo 10 19] [3, 9, 10])
 (.seq (.reg [Mo 21 9,
 Mo 22 10,
 Oo 23 (.call 22 []),
 Mo 24 3,
 Oo 25 (.call 16 [(.t 24), (.c (.int .i64 102))]),
 Oo 26 (.call 21 [(.t 21), (.t 22), (.t 23), (.t 25)]),
 Mo 20 26,
 Oo 27 (.ext (.t 20) 0),
 Oo 28 (.ext (.t 20) 1),
 Oo 12 (.alloc [(.str []), (.int .i64 0)]),
 Mo 11 27,
 ⟨none, none, .store 2 (.t 12) (.t 28), []⟩] [11])
 (.seq (.reg [Mo 29 11,
 Mo 8 29] [8])
 (.ret))))⟩
theorem c9 : cmpF Tryz.prog ⟨[(28, 2), (29, 2), (30, 3), (50, 2)], false, false⟩ Tryz.f9 K9 = some A9 := by kernel_rfl
/-- collator/collatorlaw04.Script -/
def K10 : List (List Nat) := [[0, 1], [0, 1, 6], [0, 1, 6, 7], [0, 1, 6, 7, 8], [0, 1, 6, 7, 8, 17], [0, 1, 6, 7, 8, 9], [0, 1, 6, 7, 8, 9, 36], [0, 1, 6, 7, 8, 9], [0, 1, 6, 7, 8, 9, 73], [0, 1, 6, 7, 8, 9], [0, 1, 6, 7, 8, 9, 80], [0, 1, 6, 7, 8], [0, 1, 6, 7, 8], [4, 5]]
def L10x0 : ACode := .seq (.seq (.reg [Mo 10 8,
 Mo 11 0,
 Oo 12 (.len false (.t 11)),
 Oo 13 (.bin .lss (.t 10) (.t 12)),
 Mo 14 13,
 ⟨(some 15), some (14, true), .mv (.t 8), []⟩,
 ⟨(some 16), some (14, true), .bin .lss (.t 15) (.c (.int .i64 10)), []⟩,
 Oo 17 (.pick (.t 14) (.t 16) (.c (.bool false)))] [0, 1, 6, 7, 8, 17])
 (.cond (.t 17) (.skip)
 (.exit 0)))
 (.seq (.blk 1 (.seq (.regD [Mo 20 0,
 Mo 21 8,
 Oo 22 (.iaddr 1 (.t 20) (.t 21)),
 Oo 23 (.load false 1 (.t 22)),
 ⟨(some 24), none, .call 23 [(.t 23), (.c (.int .i64 3))], [3]⟩,
 ⟨(some 25), none, .bin .add (.c (.int .i64 1)) (.t 24), [4]⟩,
 Mo 26 0,
 Mo 27 8,
 Oo 28 (.iaddr 1 (.t 26) (.t 27)),
 Oo 29 (.load false 1 (.t 28)),
 Oo 30 (.bin .quo (.t 29) (.c (.int .i64 3))),
 ⟨(some 31), none, .call 23 [(.t 30), (.c (.int .i64 4))], [4, 9, 3]⟩,
 ⟨(some 32), none, .bin .add (.c (.int .i64 1)) (.t 31), [11, 4]⟩,
 ⟨(some 33), none, .agg [(.int .i64 0), (.int .i64 0), (.sl 1 [] .nil)] [(0, 1, (.t 25)), (1, 1, (.t 32))], [4, 11]⟩,
 Oo 9 (.alloc [(.int .i64 0), (.int .i64 0), (.sl 1 [] .nil)]),
 ⟨none, none, .store 3 (.t 9) (.t 33), [14, 11, 3, 4, 9]⟩] [0, 1, 6, 7, 8, 9])
 (.seq (.seq (.reg [Oo 34 (.faddr 0 (.t 9)),
 Oo 35 (.load false 1 (.t 34)),
 Oo 36 (.bin .eql (.t 35) (.c (.int .i64 3)))] [0, 1, 6, 7, 8, 9, 36])
 (.cond (.t 36) (.regD [Mo 37 0,
 Mo 38 8,
 Oo 39 (.slice (some 1) (.t 37) (some (.t 38)) none none),
 Oo 40 (.faddr 1 (.t 9)),
 Oo 41 (.load false 1 (.t 40)),
 ⟨(some 42), none, .call 24 [(.t 39), (.t 41)], [4]⟩,
 ⟨(some 43), none, .faddr 2 (.t 9), [5]⟩,
 ⟨none, none, .store 1 (.t 43) (.t 42), [5, 4]⟩] [0, 1, 6, 7, 8, 9])
 (.skip)))
 (.seq (.seq (.regD [Mo 44 6,
 Oo 45 (.len false (.t 44)),
 Oo 46 (.bin .gtr (.t 45) (.c (.int .i64 0))),
 Mo 47 46,
 ⟨(some 48), some (47, true), .mv (.t 6), []⟩,
 ⟨(some 49), some (47, true), .mv (.t 6), []⟩,
 ⟨(some 50), some (47, true), .len false (.t 49), []⟩,
 ⟨(some 51), some (47, true), .bin .sub (.t 50) (.c (.int .i64 1)), []⟩,
 ⟨(some 52), some (47, true), .iaddr 3 (.t 48) (.t 51), []⟩,
 ⟨(some 53), some (47, true), .faddr 0 (.t 52), []⟩,
 ⟨(some 54), some (47, true), .load false 1 (.t 53), []⟩,
 ⟨(some 55), some (47, true), .faddr 0 (.t 9), []⟩,
 ⟨(some 56), some (47, true), .load false 1 (.t 55), []⟩,
 ⟨(some 57), some (47, true), .bin .eql (.t 54) (.t 56), []⟩,
 ⟨(some 58), some (47, true), .mv (.t 57), []⟩,
 ⟨(some 59), some (58, false), .mv (.t 6), []⟩,
 ⟨(some 60), some (58, false), .mv (.t 6), []⟩,
 ⟨(some 61), some (58, false), .len false (.t 60), []⟩,
 ⟨(some 62), some (58, false), .bin .sub (.t 61) (.c (.int .i64 1)), []⟩,
 ⟨(some 63), some (58, false), .iaddr 3 (.t 59) (.t 62), []⟩,
 ⟨(some 64), some (58, false), .faddr 0 (.t 63), []⟩,
 ⟨(some 65), some (58, false), .load false 1 (.t 64), [10, 12]⟩,
 ⟨(some 66), some (58, false), .bin .eql (.t 65) (.c (.int .i64 3)), []⟩,
 ⟨(some 67), some (58, false), .mv (.t 66), []⟩,
 ⟨(some 68), some (67, true), .faddr 0 (.t 9), []⟩,
 ⟨(some 69), some (67, true), .load false 1 (.t 68), [21, 10, 12]⟩,
 ⟨(some 70), some (67, true), .bin .eql (.t 69) (.c (.int .i64 2)), []⟩,
 ⟨(some 71), some (58, false), .pick (.t 67) (.t 70) (.c (.bool false)), []⟩,
 ⟨(some 72), some (47, true), .pick (.t 58) (.c (.bool true)) (.t 71), []⟩,
 Oo 73 (.pick (.t 47) (.t 72) (.c (.bool false)))] [0, 1, 6, 7, 8, 9, 73])
 (.cond (.t 73) (.exit 1)
 (.skip)))
 (.seq (.reg [Mo 74 6,
 Oo 75 (.load true 3 (.t 9)),
 Oo 76 (.mks 1 3 true [(.int .i64 0), (.int .i64 0), (.sl 1 [] .nil)] [(0, (.t 75))]),
 Oo 77 (.app none 3 40 (.t 74) (.t 76)),
 Mo 6 77] [0, 1, 6, 7, 8, 9])
 (.seq (.reg [Oo 78 (.faddr 0 (.t 9)),
 Oo 79 (.load false 1 (.t 78)),
 Oo 80 (.bin .neq (.t 79) (.c (.int .i64 3)))] [0, 1, 6, 7, 8, 9, 80])
 (.cond (.t 80) (.reg [Mo 81 7,
 Oo 82 (.faddr 1 (.t 9)),
 Oo 83 (.load false 1 (.t 82)),
 Oo 84 (.bin .add (.t 81) (.t 83)),
 Mo 7 84] [0, 1, 6, 7, 8])
 (.skip))))))))
 (.reg [Mo 18 8,
 Oo 19 (.bin .add (.t 18) (.c (.int .i64 1))),
 Mo 8 19] [0, 1, 6, 7, 8]))
def A10 : AFunc := ⟨2, [.t 4, .t 5], .seq (.reg [Oo 4 (.mv (.c (.sl 3 [] .nil))),
 Oo 5 (.mv (.c (.sl 1 [] .nil)))] [0, 1])
 (.seq (.reg [Oo 6 (.mv (.c (.sl 3 [] .nil)))] [0, 1, 6])
 (.seq (.reg [Oo 7 (.mv (.c (.int .i64 0)))] [0, 1, 6, 7])
 (.seq (.seq (.reg [Oo 8 (.mv (.c (.int .i64 0)))] [0, 1, 6, 7, 8])
 (.blk 0 (.loop L10x0)))
 (.seq (.reg [Mo 85 6,
 Mo 86 1,
 Mo 87 7,
 Oo 88 (.call 24 [(.t 86), (.t 87)]),
 Mo 4 85,
 Mo 5 88] [4, 5])
 (.ret)))))⟩
theorem c10 : cmpF Tryz.prog ⟨[(28, 2), (29, 2), (30, 3), (50, 2)], false, false⟩ Tryz.f10 K10 = some A10 := by kernel_rfl
/-- collator/collatorlaw11.Turned -/
def K11 : List (List Nat) := [[0, 1, 2, 3], [1, 2, 3, 9], [1, 2, 3, 9, 15], [8], [1, 2, 3, 9, 10], [1, 3, 9, 10, 22], [1, 3, 9, 10, 22, 23], [9], [1, 3, 9, 10, 22, 31], [9], [1, 3, 9, 10, 22, 43], [9], [1, 3, 9, 10, 22, 49], [9], [1, 3, 9, 10, 22, 57], [9], [1, 3, 9, 10, 22, 65], [9], [1, 3, 9, 10, 22, 71], [9], [3, 9, 10, 22, 79], [9], [9, 10, 22, 86], [9], [9, 10, 97], [9], [8]]
def A11 : AFunc := ⟨4, [.t 8], .seq (.reg [Oo 8 (.mv (.c (.sl 8 [] .nil)))] [0, 1, 2, 3])
 (.seq (.reg [Mo 11 0,
 Oo 12 (.app (some true) 8 104 (.c (.sl 8 [] .nil)) (.t 11)),
 Mo 9 12] [1, 2, 3, 9])
 (.seq (.seq (.reg [Mo 13 9,
 Oo 14 (.len false (.t 13)),
 Oo 15 (.bin .eql (.t 14) (.c (.int .i64 0)))] [1, 2, 3, 9, 15])
 (.cond (.t 15) (.seq (.reg [Mo 16 9,
 Mo 8 16] [8])
 (.ret))
 (.skip)))
 (.seq (.reg [Mo 17 1,
 Mo 18 9,
 Oo 19 (.len false (.t 18)),
 Oo 20 (.call 25 [(.t 17), (.t 19)]),
 Mo 10 20] [1, 2, 3, 9, 10])
 (.seq (.seq (.reg [Mo 21 2,
 Oo 22 (.call 25 [(.t 21), (.c (.int .i64 12))])] [1, 3, 9, 10, 22])
 (.blk 0 (.seq (.reg [Oo 24 (.bin .eql (.t 22) (.c (.int .i64 0))),
 Mo 23 24] [1, 3, 9, 10, 22, 23])
 (.cond (.t 23) (.reg [Mo 25 9,
 Mo 26 10,
 Mo 27 1,
 Oo 28 (.call 25 [(.t 27), (.c (.int .i64 7))]),
 Oo 29 (.iaddr 8 (.t 25) (.t 26)),
 Oo 30 (.faddr 0 (.t 29)),
 ⟨none, none, .store 1 (.t 30) (.t 28), []⟩] [9])
 (.seq (.reg [Oo 32 (.bin .eql (.t 22) (.c (.int .i64 1))),
 Mo 31 32] [1, 3, 9, 10, 22, 31])
 (.cond (.t 31) (.reg [Mo 33 9,
 Mo 34 10,
 Mo 35 9,
 Mo 36 10,
 Oo 37 (.iaddr 8 (.t 35) (.t 36)),
 Oo 38 (.faddr 1 (.t 37)),
 Oo 39 (.load false 1 (.t 38)),
 Oo 40 (.bin .add (.t 39) (.c (.str [120]))),
 Oo 41 (.iaddr 8 (.t 33) (.t 34)),
 Oo 42 (.faddr 1 (.t 41)),
 ⟨none, none, .store 1 (.t 42) (.t 40), []⟩] [9])
 (.seq (.reg [Oo 44 (.bin .eql (.t 22) (.c (.int .i64 2))),
 Mo 43 44] [1, 3, 9, 10, 22, 43])
 (.cond (.t 43) (.reg [Mo 45 9,
 Mo 46 10,
 Oo 47 (.iaddr 8 (.t 45) (.t 46)),
 Oo 48 (.faddr 2 (.t 47)),
 ⟨none, none, .store 1 (.t 48) (.c (.str [97])), []⟩] [9])
 (.seq (.reg [Oo 50 (.bin .eql (.t 22) (.c (.int .i64 3))),
 Mo 49 50] [1, 3, 9, 10, 22, 49])
 (.cond (.t 49) (.reg [Mo 51 9,
 Mo 52 10,
 Mo 53 1,
 Oo 54 (.call 25 [(.t 53), (.c (.int .i64 4))]),
 Oo 55 (.iaddr 8 (.t 51) (.t 52)),
 Oo 56 (.faddr 3 (.t 55)),
 ⟨none, none, .store 1 (.t 56) (.t 54), []⟩] [9])
 (.seq (.reg [Oo 58 (.bin .eql (.t 22) (.c (.int .i64 4))),
 Mo 57 58] [1, 3, 9, 10, 22, 57])
 (.cond (.t 57) (.reg [Mo 59 9,
 Mo 60 10,
 Mo 61 1,
 Oo 62 (.call 25 [(.t 61), (.c (.int .i64 4))]),
 Oo 63 (.iaddr 8 (.t 59) (.t 60)),
 Oo 64 (.faddr 4 (.t 63)),
 ⟨none, none, .store 1 (.t 64) (.t 62), []⟩] [9])
 (.seq (.reg [Oo 66 (.bin .eql (.t 22) (.c (.int .i64 5))),
 Mo 65 66] [1, 3, 9, 10, 22, 65])
 (.cond (.t 65) (.reg [Mo 67 9,
 Mo 68 10,
 Oo 69 (.iaddr 8 (.t 67) (.t 68)),
 Oo 70 (.faddr 5 (.t 69)),
 ⟨none, none, .store 1 (.t 70) (.c (.str [113])), []⟩] [9])
 (.seq (.reg [Oo 72 (.bin .eql (.t 22) (.c (.int .i64 6))),
 Mo 71 72] [1, 3, 9, 10, 22, 71])
 (.cond (.t 71) (.reg [Mo 73 9,
 Mo 74 10,
 Mo 75 1,
 Oo 76 (.call 25 [(.t 75), (.c (.int .i64 102))]),
 Oo 77 (.iaddr 8 (.t 73) (.t 74)),
 Oo 78 (.faddr 6 (.t 77)),
 ⟨none, none, .store 1 (.t 78) (.t 76), []⟩] [9])
 (.seq (.reg [Oo 80 (.bin .eql (.t 22) (.c (.int .i64 7))),
 Mo 79 80] [3, 9, 10, 22, 79])
 (.cond (.t 79) (.reg [Mo 81 9,
 Mo 82 10,
 Mo 83 3,
 Oo 84 (.iaddr 8 (.t 81) (.t 82)),
 Oo 85 (.faddr 7 (.t 84)),
 ⟨none, none, .store 1 (.t 85) (.t 83), []⟩] [9])
 (.seq (.reg [Oo 87 (.bin .eql (.t 22) (.c (.int .i64 8))),
 Mo 86 87] [9, 10, 22, 86])
 (.cond (.t 86) (.regD [Mo 88 9,
 Mo 89 10,
 Mo 90 10,
 Oo 91 (.slice (some 8) (.t 88) none (some (.t 89)) (some (.t 90))),
 Mo 92 9,
 Mo 93 10,
 Oo 94 (.bin .add (.t 93) (.c (.int .i64 1))),
 Oo 95 (.slice (some 8) (.t 92) (some (.t 94)) none none),
 Oo 96 (.app (some true) 8 104 (.t 91) (.t 95)),
 Mo 9 96] [9])
 (.seq (.reg [Oo 98 (.bin .eql (.t 22) (.c (.int .i64 9))),
 Mo 97 98] [9, 10, 97])
 (.cond (.t 97) (.reg [Mo 99 9,
 Mo 100 9,
 Mo 101 10,
 Oo 102 (.iaddr 8 (.t 100) (.t 101)),
 Oo 103 (.load true 8 (.t 102)),
 Oo 104 (.mks 1 8 true [(.int .i64 0), (.str []), (.str []), (.int .i64 0), (.int .i64 0), (.str []), (.int .i64 0), (.sl 3 [] .nil)] [(0, (.t 103))]),
 Oo 105 (.app (some true) 8 104 (.t 99) (.t 104)),
 Mo 9 105] [9])
 (.skip)))))))))))))))))))))))
 (.seq (.reg [Mo 106 9,
 Mo 8 106] [8])
 (.ret))))))⟩
theorem c11 : cmpF Tryz.prog ⟨[(28, 2), (29, 2), (30, 3), (50, 2)], true, false⟩ Tryz.f11 K11 = some A11 := by kernel_rfl
/-- collator/report.Encode -/
def K12 : List (List Nat) := [[0], [0, 11], [2, 3], [0, 4], [4, 12, 13, 14], [4, 12, 13, 14, 15], [4, 6, 12, 13, 14], [4, 6, 7, 12, 13, 14], [4, 6, 7, 12, 13, 14], [4, 6, 7, 12, 13, 14], [4, 6, 7, 12, 13, 14], [4, 6, 7, 12, 13, 14], [4, 6, 7, 12, 13, 14], [4, 6, 7, 12, 13, 14], [4, 7, 12, 13, 14], [4, 12, 13, 14], [4, 12, 13, 14], [2, 3]]
def L12x0 : ACode := .seq (.reg [Oo 15 (.bin .lss (.t 14) (.t 13))] [4, 12, 13, 14, 15])
 (.seq (.cond (.t 15) (.skip)
 (.exit 0))
 (.seq (.blk 1 (.seq (.reg [Oo 16 (.iaddr 8 (.t 12) (.t 14)),
 Oo 17 (.load true 8 (.t 16)),
 Oo 6 (.alloc [(.int .i64 0), (.str []), (.str []), (.int .i64 0), (.int .i64 0), (.str []), (.int .i64 0), (.sl 3 [] .nil)]),
 ⟨none, none, .store 8 (.t 6) (.t 17), []⟩] [4, 6, 12, 13, 14])
 (.seq (.reg [Oo 19 (.faddr 7 (.t 6)),
 Oo 20 (.load false 1 (.t 19)),
 Oo 21 (.call 27 [(.t 20)]),
 Mo 18 21,
 Oo 22 (.ext (.t 18) 0),
 Oo 23 (.ext (.t 18) 1),
 Mo 7 22,
 Mo 8 23] [4, 6, 7, 12, 13, 14])
 (.seq (.reg [Oo 24 (.faddr 0 (.t 6)),
 Oo 25 (.load false 1 (.t 24)),
 Oo 26 (.wrs 28 (.t 4) [(.t 25)])] [4, 6, 7, 12, 13, 14])
 (.seq (.reg [Oo 27 (.faddr 1 (.t 6)),
 Oo 28 (.load false 1 (.t 27)),
 Oo 29 (.wrs 29 (.t 4) [(.t 28)])] [4, 6, 7, 12, 13, 14])
 (.seq (.reg [Oo 30 (.faddr 2 (.t 6)),
 Oo 31 (.load false 1 (.t 30)),
 Oo 32 (.wrs 29 (.t 4) [(.t 31)])] [4, 6, 7, 12, 13, 14])
 (.seq (.reg [Oo 33 (.faddr 3 (.t 6)),
 Oo 34 (.load false 1 (.t 33)),
 Oo 35 (.wrs 28 (.t 4) [(.t 34)])] [4, 6, 7, 12, 13, 14])
 (.seq (.reg [Oo 36 (.faddr 4 (.t 6)),
 Oo 37 (.load false 1 (.t 36)),
 Oo 38 (.wrs 28 (.t 4) [(.t 37)])] [4, 6, 7, 12, 13, 14])
 (.seq (.reg [Oo 39 (.faddr 5 (.t 6)),
 Oo 40 (.load false 1 (.t 39)),
 Oo 41 (.wrs 29 (.t 4) [(.t 40)])] [4, 6, 7, 12, 13, 14])
 (.seq (.reg [Oo 42 (.faddr 6 (.t 6)),
 Oo 43 (.load false 1 (.t 42)),
 Oo 44 (.wrs 28 (.t 4) [(.t 43)])] [4, 7, 12, 13, 14])
 (.reg [Mo 45 7,
 Oo 46 (.wrs 29 (.t 4) [(.t 45)])] [4, 12, 13, 14])))))))))))
 (.reg [Oo 47 (.bin .add (.t 14) (.c (.int .i64 1))),
 Mo 14 47] [4, 12, 13, 14])))
def A12 : AFunc := ⟨1, [.t 2, .t 3], .seq (.reg [Oo 2 (.mv (.c (.str []))),
 Oo 3 (.mv (.c (.int .i64 0)))] [0])
 (.seq (.seq (.reg [Mo 9 0,
 Oo 10 (.call 26 [(.t 9)]),
 Oo 11 (.un .not (.t 10))] [0, 11])
 (.cond (.t 11) (.seq (.reg [Oo 2 (.mv (.c (.str []))),
 Oo 3 (.mv (.c (.int .i64 1)))] [2, 3])
 (.ret))
 (.skip)))
 (.seq (.reg [Oo 4 (.alloc [(.bfresh 67 0 0), (.sl 1 [] .nil)])] [0, 4])
 (.seq (.seq (.reg [Mo 12 0,
 Oo 13 (.len false (.t 12)),
 Oo 14 (.mv (.c (.int .i64 0)))] [4, 12, 13, 14])
 (.blk 0 (.loop L12x0)))
 (.seq (.reg [Oo 48 (.faddr 0 (.t 4)),
 Oo 49 (.bstr 30 (.t 48)),
 Mo 2 49,
 Oo 3 (.mv (.c (.int .i64 0)))] [2, 3])
 (.ret)))))⟩
theorem c12 : cmpF Tryz.prog ⟨[(28, 2), (29, 2), (30, 3), (50, 2)], false, false⟩ Tryz.f12 K12 = some A12 := by kernel_rfl
/-- collator/collatorref12.Encode -/
def K13 : List (List Nat) := [[0], [0, 4], [0, 12], [2, 3], [0, 5], [0, 5, 6], [0, 5, 6, 16], [0, 5, 6, 7], [0, 5, 6], [0, 5, 6], [2, 3]]
def L13x0 : ACode := .seq (.seq (.reg [Mo 13 6,
 Mo 14 0,
 Oo 15 (.len false (.t 14)),
 Oo 16 (.bin .lss (.t 13) (.t 15))] [0, 5, 6, 16])
 (.cond (.t 16) (.skip)
 (.exit 0)))
 (.seq (.blk 1 (.seq (.reg [Mo 20 0,
 Mo 21 6,
 Oo 22 (.iaddr 8 (.t 20) (.t 21)),
 Oo 23 (.faddr 7 (.t 22)),
 Oo 24 (.load false 1 (.t 23)),
 Oo 25 (.call 32 [(.t 24)]),
 Mo 19 25,
 Oo 26 (.ext (.t 19) 0),
 Oo 27 (.ext (.t 19) 1),
 Mo 7 26,
 Mo 8 27] [0, 5, 6, 7])
 (.regD [Mo 28 5,
 Mo 29 0,
 Mo 30 6,
 Oo 31 (.iaddr 8 (.t 29) (.t 30)),
 Oo 32 (.faddr 0 (.t 31)),
 Oo 33 (.load false 1 (.t 32)),
 ⟨(some 34), none, .call 33 [(.t 33)], [5]⟩,
 ⟨(some 35), none, .bin .add (.t 28) (.t 34), [6]⟩,
 Mo 36 0,
 Mo 37 6,
 Oo 38 (.iaddr 8 (.t 36) (.t 37)),
 Oo 39 (.faddr 1 (.t 38)),
 Oo 40 (.load false 1 (.t 39)),
 ⟨(some 41), none, .call 34 [(.t 40)], [12, 6, 5]⟩,
 ⟨(some 42), none, .bin .add (.t 35) (.t 41), [13, 6]⟩,
 Mo 43 0,
 Mo 44 6,
 Oo 45 (.iaddr 8 (.t 43) (.t 44)),
 Oo 46 (.faddr 2 (.t 45)),
 Oo 47 (.load false 1 (.t 46)),
 ⟨(some 48), none, .call 34 [(.t 47)], [19, 13, 12, 6, 5]⟩,
 ⟨(some 49), none, .bin .add (.t 42) (.t 48), [20, 13, 6]⟩,
 Mo 50 0,
 Mo 51 6,
 Oo 52 (.iaddr 8 (.t 50) (.t 51)),
 Oo 53 (.faddr 3 (.t 52)),
 Oo 54 (.load false 1 (.t 53)),
 ⟨(some 55), none, .call 33 [(.t 54)], [26, 20, 19, 13, 12, 6, 5]⟩,
 ⟨(some 56), none, .bin .add (.t 49) (.t 55), [27, 20, 13, 6]⟩,
 Mo 57 0,
 Mo 58 6,
 Oo 59 (.iaddr 8 (.t 57) (.t 58)),
 Oo 60 (.faddr 4 (.t 59)),
 Oo 61 (.load false 1 (.t 60)),
 ⟨(some 62), none, .call 33 [(.t 61)], [33, 27, 26, 20, 19, 13, 12, 6, 5]⟩,
 ⟨(some 63), none, .bin .add (.t 56) (.t 62), [34, 27, 20, 13, 6]⟩,
 Mo 64 0,
 Mo 65 6,
 Oo 66 (.iaddr 8 (.t 64) (.t 65)),
 Oo 67 (.faddr 5 (.t 66)),
 Oo 68 (.load false 1 (.t 67)),
 ⟨(some 69), none, .call 34 [(.t 68)], [40, 34, 33, 27, 26, 20, 19, 13, 12, 6, 5]⟩,
 ⟨(some 70), none, .bin .add (.t 63) (.t 69), [41, 34, 27, 20, 13, 6]⟩,
 Mo 71 0,
 Mo 72 6,
 Oo 73 (.iaddr 8 (.t 71) (.t 72)),
 Oo 74 (.faddr 6 (.t 73)),
 Oo 75 (.load false 1 (.t 74)),
 ⟨(some 76), none, .call 33 [(.t 75)], [47, 41, 40, 34, 33, 27, 26, 20, 19, 13, 12, 6, 5]⟩,
 ⟨(some 77), none, .bin .add (.t 70) (.t 76), [48, 41, 34, 27, 20, 13, 6]⟩,
 Mo 78 7,
 ⟨(some 79), none, .call 34 [(.t 78)], [48, 47, 41, 40, 34, 33, 27, 26, 20, 19, 13, 12, 6, 5]⟩,
 ⟨(some 80), none, .bin .add (.t 77) (.t 79), [51, 48, 41, 34, 27, 20, 13, 6]⟩,
 ⟨(some 5), none, .mv (.t 80), [51, 6, 13, 20, 27, 34, 41, 48]⟩] [0, 5, 6])))
 (.reg [Mo 17 6,
 Oo 18 (.bin .add (.t 17) (.c (.int .i64 1))),
 Mo 6 18] [0, 5, 6]))
def A13 : AFunc := ⟨1, [.t 2, .t 3], .seq (.reg [Oo 2 (.mv (.c (.str []))),
 Oo 3 (.mv (.c (.int .i64 0)))] [0])
 (.seq (.reg [Mo 9 0,
 Oo 10 (.call 31 [(.t 9)]),
 Mo 4 10] [0, 4])
 (.seq (.seq (.reg [Mo 11 4,
 Oo 12 (.un .not (.t 11))] [0, 12])
 (.cond (.t 12) (.seq (.reg [Oo 2 (.mv (.c (.str []))),
 Oo 3 (.mv (.c (.int .i64 1)))] [2, 3])
 (.ret))
 (.skip)))
 (.seq (.reg [Oo 5 (.mv (.c (.str [])))] [0, 5])
 (.seq (.seq (.reg [Oo 6 (.mv (.c (.int .i64 0)))] [0, 5, 6])
 (.blk 0 (.loop L13x0)))
 (.seq (.reg [Mo 81 5,
 Mo 2 81,
 Oo 3 (.mv (.c (.int .i64 0)))] [2, 3])
 (.ret))))))⟩
theorem c13 : cmpF Tryz.prog ⟨[(28, 2), (29, 2), (30, 3), (50, 2)], false, false⟩ Tryz.f13 K13 = some A13 := by kernel_rfl
/-- collator/report.Counts -/
def K14 : List (List Nat) := [[0, 2], [2, 5, 6, 7], [2, 5, 6, 7, 8], [2, 4, 5, 6, 7], [2, 4, 5, 6, 7, 18], [2, 5, 6, 7], [2, 5, 6, 7], [2]]
def L14x0 : ACode := .seq (.reg [Oo 8 (.bin .lss (.t 7) (.t 6))] [2, 5, 6, 7, 8])
 (.seq (.cond (.t 8) (.skip)
 (.exit 0))
 (.seq (.blk 1 (.seq (.reg [Oo 9 (.iaddr 8 (.t 5) (.t 7)),
 Oo 10 (.load true 8 (.t 9)),
 Oo 4 (.alloc [(.int .i64 0), (.str []), (.str []), (.int .i64 0), (.int .i64 0), (.str []), (.int .i64 0), (.sl 3 [] .nil)]),
 ⟨none, none, .store 8 (.t 4) (.t 10), []⟩] [2, 4, 5, 6, 7])
 (.seq (.reg [Oo 11 (.faddr 0 (.t 4)),
 Oo 12 (.load false 1 (.t 11)),
 Oo 13 (.bin .geq (.t 12) (.c (.int .i64 0))),
 Mo 14 13,
 ⟨(some 15), some (14, true), .faddr 0 (.t 4), []⟩,
 ⟨(some 16), some (14, true), .load false 1 (.t 15), []⟩,
 ⟨(some 17), some (14, true), .bin .lss (.t 16) (.c (.int .i64 6)), []⟩,
 Oo 18 (.pick (.t 14) (.t 17) (.c (.bool false)))] [2, 4, 5, 6, 7, 18])
 (.cond (.t 18) (.reg [Oo 19 (.faddr 0 (.t 4)),
 Oo 20 (.load false 1 (.t 19)),
 Oo 21 (.aaddr 6 1 (.t 2) (.t 20)),
 Oo 22 (.load false 1 (.t 21)),
 Oo 23 (.bin .add (.t 22) (.c (.int .i64 1))),
 Oo 24 (.aaddr 6 1 (.t 2) (.t 20)),
 ⟨none, none, .store 1 (.t 24) (.t 23), []⟩] [2, 5, 6, 7])
 (.skip)))))
 (.reg [Oo 25 (.bin .add (.t 7) (.c (.int .i64 1))),
 Mo 7 25] [2, 5, 6, 7])))
def A14 : AFunc := ⟨1, [.c 2 true 6], .seq (.reg [Oo 2 (.alloc [(.int .i64 0), (.int .i64 0), (.int .i64 0), (.int .i64 0), (.int .i64 0), (.int .i64 0)])] [0, 2])
 (.seq (.seq (.reg [Mo 5 0,
 Oo 6 (.len false (.t 5)),
 Oo 7 (.mv (.c (.int .i64 0)))] [2, 5, 6, 7])
 (.blk 0 (.loop L14x0)))
 (.seq (.reg [Oo 26 (.load true 6 (.t 2)),
 ⟨none, none, .store 6 (.t 2) (.t 26), []⟩] [2])
 (.ret)))⟩
theorem c14 : cmpF Tryz.prog ⟨[(28, 2), (29, 2), (30, 3), (50, 2)], false, false⟩ Tryz.f14 K14 = some A14 := by kernel_rfl
/-- collator/collatorref12.Counts -/
def K15 : List (List Nat) := [[0, 2], [0, 2, 3], [0, 2, 3, 4], [0, 2, 3, 4, 9], [0, 2, 3, 4, 5], [0, 2, 3, 4, 5, 13], [0, 2, 3, 4, 5, 22], [0, 2, 3, 4, 5], [0, 2, 3, 4, 5], [0, 2, 3, 4], [2]]
def L15x0 : ACode := .seq (.seq (.reg [Mo 12 5,
 Oo 13 (.bin .lss (.t 12) (.c (.int .i64 6)))] [0, 2, 3, 4, 5, 13])
 (.cond (.t 13) (.skip)
 (.exit 2)))
 (.seq (.blk 3 (.seq (.reg [Mo 16 0,
 Mo 17 4,
 Oo 18 (.iaddr 8 (.t 16) (.t 17)),
 Oo 19 (.faddr 0 (.t 18)),
 Oo 20 (.load false 1 (.t 19)),
 Mo 21 5,
 Oo 22 (.bin .eql (.t 20) (.t 21))] [0, 2, 3, 4, 5, 22])
 (.cond (.t 22) (.reg [Mo 23 5,
 Oo 24 (.aaddr 6 1 (.t 3) (.t 23)),
 Oo 25 (.load false 1 (.t 24)),
 Oo 26 (.bin .add (.t 25) (.c (.int .i64 1))),
 Oo 27 (.aaddr 6 1 (.t 3) (.t 23)),
 ⟨none, none, .store 1 (.t 27) (.t 26), []⟩] [0, 2, 3, 4, 5])
 (.skip))))
 (.reg [Mo 14 5,
 Oo 15 (.bin .add (.t 14) (.c (.int .i64 1))),
 Mo 5 15] [0, 2, 3, 4, 5]))
def L15x1 : ACode := .seq (.seq (.reg [Mo 6 4,
 Mo 7 0,
 Oo 8 (.len false (.t 7)),
 Oo 9 (.bin .lss (.t 6) (.t 8))] [0, 2, 3, 4, 9])
 (.cond (.t 9) (.skip)
 (.exit 0)))
 (.seq (.blk 1 (.seq (.reg [Oo 5 (.mv (.c (.int .i64 0)))] [0, 2, 3, 4, 5])
 (.blk 2 (.loop L15x0))))
 (.reg [Mo 10 4,
 Oo 11 (.bin .add (.t 10) (.c (.int .i64 1))),
 Mo 4 11] [0, 2, 3, 4]))
def A15 : AFunc := ⟨1, [.c 2 true 6], .seq (.reg [Oo 2 (.alloc [(.int .i64 0), (.int .i64 0), (.int .i64 0), (.int .i64 0), (.int .i64 0), (.int .i64 0)])] [0, 2])
 (.seq (.reg [Oo 3 (.alloc [(.int .i64 0), (.int .i64 0), (.int .i64 0), (.int .i64 0), (.int .i64 0), (.int .i64 0)])] [0, 2, 3])
 (.seq (.seq (.reg [Oo 4 (.mv (.c (.int .i64 0)))] [0, 2, 3, 4])
 (.blk 0 (.loop L15x1)))
 (.seq (.reg [Oo 28 (.load true 6 (.t 3)),
 ⟨none, none, .store 6 (.t 2) (.t 28), []⟩] [2])
 (.ret))))⟩
theorem c15 : cmpF Tryz.prog ⟨[(28, 2), (29, 2), (30, 3), (50, 2)], false, false⟩ Tryz.f15 K15 = some A15 := by kernel_rfl
/-- collator/collatorlaw12.pick -/
def K16 : List (List Nat) := [[0, 1], [0, 1, 6], [0, 1], [4]]
def A16 : AFunc := ⟨2, [.t 4], .seq (.reg [Oo 4 (.mv (.c (.int .i64 0)))] [0, 1])
 (.seq (.seq (.reg [Mo 5 0,
 Oo 6 (.bin .lss (.t 5) (.c (.int .i64 0)))] [0, 1, 6])
 (.cond (.t 6) (.reg [Mo 7 0,
 Oo 8 (.bin .add (.t 7) (.c (.int .i64 1))),
 Oo 9 (.un .neg (.t 8)),
 Mo 0 9] [0, 1])
 (.skip)))
 (.seq (.reg [Mo 10 0,
 Mo 11 1,
 Oo 12 (.bin .rem (.t 10) (.t 11)),
 Mo 4 12] [4])
 (.ret)))⟩
theorem c16 : cmpF Tryz.prog ⟨[(28, 2), (29, 2), (30, 3), (50, 2)], false, false⟩ Tryz.f16 K16 = some A16 := by kernel_rfl
/-- collator/report.Decode -/
def K17 : List (List Nat) := [[0, 2, 3], [0, 2, 3], [2, 3, 4], [2, 3, 4, 12], [2, 3, 4], [2, 3], [2, 3]]
def L17x0 : ACode := .seq (.seq (.reg [Oo 9 (.faddr 0 (.t 4)),
 Oo 10 (.faddr 0 (.t 9)),
 Oo 11 (.load false 1 (.t 10)),
 Oo 12 (.bin .neq (.t 11) (.c (.str [])))] [2, 3, 4, 12])
 (.cond (.t 12) (.skip)
 (.exit 0)))
 (.blk 1 (.regD [Oo 13 (.load false 1 (.t 2)),
 Oo 14 (.call 36 [(.t 4)]),
 ⟨(some 15), none, .mks 1 8 true [(.int .i64 0), (.str []), (.str []), (.int .i64 0), (.int .i64 0), (.str []), (.int .i64 0), (.sl 3 [] .nil)] [(0, (.t 14))], [1]⟩,
 ⟨(some 16), none, .app none 8 104 (.t 13) (.t 15), [0, 1]⟩,
 ⟨none, none, .store 1 (.t 2) (.t 16), [3, 0, 1]⟩] [2, 3, 4]))
def A17 : AFunc := ⟨1, [.c 2 false 1, .c 3 false 1], .seq (.reg [Oo 2 (.alloc [(.sl 8 [] .nil)]),
 Oo 3 (.alloc [(.int .i64 0)])] [0, 2, 3])
 (.seq (.dfr 5 35 [(.t 2), (.t 3)])
 (.seq (.reg [Mo 6 0,
 Oo 7 (.agg [(.str [])] [(0, 1, (.t 6))]),
 Oo 8 (.agg [(.str [])] [(0, 1, (.t 7))]),
 Oo 4 (.alloc [(.str [])]),
 ⟨none, none, .store 1 (.t 4) (.t 8), []⟩] [2, 3, 4])
 (.seq (.blk 0 (.loop L17x0))
 (.seq (.reg [Oo 17 (.load false 1 (.t 2)),
 Oo 18 (.call 26 [(.t 17)]),
 Oo 19 (.call 37 [(.t 18)])] [2, 3])
 (.seq (.reg [Oo 20 (.load false 1 (.t 2)),
 ⟨none, none, .store 1 (.t 2) (.t 20), []⟩,
 ⟨none, none, .store 1 (.t 3) (.c (.int .i64 0)), []⟩] [2, 3])
 (.ret))))))⟩
theorem c17 : cmpF Tryz.prog ⟨[(28, 2), (29, 2), (30, 3), (50, 2)], false, false⟩ Tryz.f17 K17 = some A17 := by kernel_rfl
/-- collator/collatorref12.Decode -/
def K18 : List (List Nat) := [[0], [0, 4], [4, 5], [4, 5, 12], [4, 6, 7, 8], [4, 6, 7, 20], [2, 3], [4, 7], [4, 5], [4, 9], [4, 29], [2, 3], [2, 3]]
def L18x0 : ACode := .seq (.seq (.reg [Mo 11 5,
 Oo 12 (.bin .neq (.t 11) (.c (.str [])))] [4, 5, 12])
 (.cond (.t 12) (.skip)
 (.exit 0)))
 (.blk 1 (.seq (.reg [Mo 14 5,
 Oo 15 (.call 38 [(.t 14)]),
 Mo 13 15,
 Oo 16 (.ext (.t 13) 0),
 Oo 17 (.ext (.t 13) 1),
 Oo 18 (.ext (.t 13) 2),
 Oo 6 (.alloc [(.int .i64 0), (.str []), (.str []), (.int .i64 0), (.int .i64 0), (.str []), (.int .i64 0), (.sl 3 [] .nil)]),
 ⟨none, none, .store 8 (.t 6) (.t 16), []⟩,
 Mo 7 17,
 Mo 8 18] [4, 6, 7, 8])
 (.seq (.seq (.reg [Mo 19 8,
 Oo 20 (.un .not (.t 19))] [4, 6, 7, 20])
 (.cond (.t 20) (.seq (.reg [Oo 2 (.mv (.c (.sl 8 [] .nil))),
 Oo 3 (.mv (.c (.int .i64 11)))] [2, 3])
 (.ret))
 (.skip)))
 (.seq (.reg [Mo 21 4,
 Oo 22 (.load true 8 (.t 6)),
 Oo 23 (.mks 1 8 true [(.int .i64 0), (.str []), (.str []), (.int .i64 0), (.int .i64 0), (.str []), (.int .i64 0), (.sl 3 [] .nil)] [(0, (.t 22))]),
 Oo 24 (.app none 8 104 (.t 21) (.t 23)),
 Mo 4 24] [4, 7])
 (.reg [Mo 25 7,
 Mo 5 25] [4, 5])))))
def A18 : AFunc := ⟨1, [.t 2, .t 3], .seq (.reg [Oo 2 (.mv (.c (.sl 8 [] .nil))),
 Oo 3 (.mv (.c (.int .i64 0)))] [0])
 (.seq (.reg [Oo 4 (.mv (.c (.sl 8 [] .nil)))] [0, 4])
 (.seq (.seq (.reg [Mo 10 0,
 Mo 5 10] [4, 5])
 (.blk 0 (.loop L18x0)))
 (.seq (.reg [Mo 26 4,
 Oo 27 (.call 31 [(.t 26)]),
 Mo 9 27] [4, 9])
 (.seq (.seq (.reg [Mo 28 9,
 Oo 29 (.un .not (.t 28))] [4, 29])
 (.cond (.t 29) (.seq (.reg [Oo 2 (.mv (.c (.sl 8 [] .nil))),
 Oo 3 (.mv (.c (.int .i64 11)))] [2, 3])
 (.ret))
 (.skip)))
 (.seq (.reg [Mo 30 4,
 Mo 2 30,
 Oo 3 (.mv (.c (.int .i64 0)))] [2, 3])
 (.ret))))))⟩
theorem c18 : cmpF Tryz.prog ⟨[(28, 2), (29, 2), (30, 3), (50, 2)], false, false⟩ Tryz.f18 K18 = some A18 := by kernel_rfl
/-- collator/collatorref10.Same -/
def K19 : List (List Nat) := [[0, 1], [0, 1, 11], [4], [0, 1, 5], [0, 1, 5, 15], [0, 1, 5, 6], [0, 1, 5, 28], [4], [0, 1, 5], [4]]
def L19x0 : ACode := .seq (.seq (.reg [Mo 12 5,
 Mo 13 0,
 Oo 14 (.len false (.t 13)),
 Oo 15 (.bin .lss (.t 12) (.t 14))] [0, 1, 5, 15])
 (.cond (.t 15) (.skip)
 (.exit 0)))
 (.seq (.blk 1 (.seq (.regD [Mo 18 0,
 Mo 19 5,
 Oo 20 (.iaddr 8 (.t 18) (.t 19)),
 Oo 21 (.load true 8 (.t 20)),
 Mo 22 1,
 Mo 23 5,
 Oo 24 (.iaddr 8 (.t 22) (.t 23)),
 Oo 25 (.load true 8 (.t 24)),
 ⟨(some 26), none, .call 39 [(.t 21), (.t 25)], [3, 7]⟩,
 ⟨(some 6), none, .mv (.t 26), [8]⟩] [0, 1, 5, 6])
 (.seq (.reg [Mo 27 6,
 Oo 28 (.un .not (.t 27))] [0, 1, 5, 28])
 (.cond (.t 28) (.seq (.reg [Oo 4 (.mv (.c (.bool false)))] [4])
 (.ret))
 (.skip)))))
 (.reg [Mo 16 5,
 Oo 17 (.bin .add (.t 16) (.c (.int .i64 1))),
 Mo 5 17] [0, 1, 5]))
def A19 : AFunc := ⟨2, [.t 4], .seq (.reg [Oo 4 (.mv (.c (.bool false)))] [0, 1])
 (.seq (.seq (.reg [Mo 7 0,
 Oo 8 (.len false (.t 7)),
 Mo 9 1,
 Oo 10 (.len false (.t 9)),
 Oo 11 (.bin .neq (.t 8) (.t 10))] [0, 1, 11])
 (.cond (.t 11) (.seq (.reg [Oo 4 (.mv (.c (.bool false)))] [4])
 (.ret))
 (.skip)))
 (.seq (.seq (.reg [Oo 5 (.mv (.c (.int .i64 0)))] [0, 1, 5])
 (.blk 0 (.loop L19x0)))
 (.seq (.reg [Oo 4 (.mv (.c (.bool true)))] [4])
 (.ret))))⟩
theorem c19 : cmpF Tryz.prog ⟨[(28, 2), (29, 2), (30, 3), (50, 2)], false, false⟩ Tryz.f19 K19 = some A19 := by kernel_rfl
/-- collator/collatorlaw10.Two -/
def K20 : List (List Nat) := [[0, 1, 2], [0, 1, 2, 8], [0, 1, 2, 8, 9], [0, 1, 2, 8, 9, 10], [0, 1, 2, 8, 9, 10, 21], [0, 1, 2, 8, 9, 10, 35], [0, 1, 2, 8, 9, 10], [0, 1, 2, 8, 9, 10, 54], [0, 1, 2, 8, 9, 10, 11], [0, 1, 2, 8, 9, 10, 11], [0, 1, 2, 8, 9, 10], [0, 1, 2, 8, 9, 10], [6, 7]]
def L20x0 : ACode := .seq (.seq (.reg [Mo 14 10,
 Mo 15 0,
 Oo 16 (.len false (.t 15)),
 Oo 17 (.bin .lss (.t 14) (.t 16)),
 Mo 18 17,
 ⟨(some 19), some (18, true), .mv (.t 10), []⟩,
 ⟨(some 20), some (18, true), .bin .lss (.t 19) (.c (.int .i64 14)), []⟩,
 Oo 21 (.pick (.t 18) (.t 20) (.c (.bool false)))] [0, 1, 2, 8, 9, 10, 21])
 (.cond (.t 21) (.skip)
 (.exit 0)))
 (.seq (.blk 1 (.seq (.seq (.reg [Mo 24 10,
 Mo 25 2,
 Oo 26 (.len false (.t 25)),
 Oo 27 (.bin .geq (.t 24) (.t 26)),
 Mo 28 27,
 ⟨(some 29), some (28, false), .mv (.t 2), []⟩,
 ⟨(some 30), some (28, false), .mv (.t 10), []⟩,
 ⟨(some 31), some (28, false), .iaddr 1 (.t 29) (.t 30), []⟩,
 ⟨(some 32), some (28, false), .load false 1 (.t 31), []⟩,
 ⟨(some 33), some (28, false), .call 41 [(.t 32), (.c (.int .i64 3))], []⟩,
 ⟨(some 34), some (28, false), .bin .gtr (.t 33) (.c (.int .i64 0)), []⟩,
 Oo 35 (.pick (.t 28) (.c (.bool true)) (.t 34))] [0, 1, 2, 8, 9, 10, 35])
 (.cond (.t 35) (.reg [Mo 36 9,
 Mo 37 0,
 Mo 38 10,
 Oo 39 (.iaddr 4 (.t 37) (.t 38)),
 Oo 40 (.load true 4 (.t 39)),
 Oo 41 (.mks 1 4 true [(.sl 1 [] .nil), (.int .i64 0), (.str []), (.int .i64 0)] [(0, (.t 40))]),
 Oo 42 (.app none 4 56 (.t 36) (.t 41)),
 Mo 9 42] [0, 1, 2, 8, 9, 10])
 (.skip)))
 (.seq (.reg [Mo 43 10,
 Mo 44 2,
 Oo 45 (.len false (.t 44)),
 Oo 46 (.bin .lss (.t 43) (.t 45)),
 Mo 47 46,
 ⟨(some 48), some (47, true), .mv (.t 2), []⟩,
 ⟨(some 49), some (47, true), .mv (.t 10), []⟩,
 ⟨(some 50), some (47, true), .iaddr 1 (.t 48) (.t 49), []⟩,
 ⟨(some 51), some (47, true), .load false 1 (.t 50), []⟩,
 ⟨(some 52), some (47, true), .call 41 [(.t 51), (.c (.int .i64 9))], []⟩,
 ⟨(some 53), some (47, true), .bin .eql (.t 52) (.c (.int .i64 4)), []⟩,
 Oo 54 (.pick (.t 47) (.t 53) (.c (.bool false)))] [0, 1, 2, 8, 9, 10, 54])
 (.cond (.t 54) (.seq (.reg [Mo 55 0,
 Mo 56 10,
 Oo 57 (.iaddr 4 (.t 55) (.t 56)),
 Oo 58 (.load true 4 (.t 57)),
 Oo 11 (.alloc [(.sl 1 [] .nil), (.int .i64 0), (.str []), (.int .i64 0)]),
 ⟨none, none, .store 4 (.t 11) (.t 58), []⟩] [0, 1, 2, 8, 9, 10, 11])
 (.seq (.reg [Oo 59 (.faddr 2 (.t 11)),
 Oo 60 (.load false 1 (.t 59)),
 Oo 61 (.bin .add (.t 60) (.c (.str [110, 101, 119, 10]))),
 Oo 62 (.faddr 2 (.t 11)),
 ⟨none, none, .store 1 (.t 62) (.t 61), []⟩] [0, 1, 2, 8, 9, 10, 11])
 (.regD [Mo 63 9,
 Mo 64 9,
 Oo 65 (.len false (.t 64)),
 Oo 66 (.bin .sub (.t 65) (.c (.int .i64 1))),
 Mo 67 9,
 Oo 68 (.len false (.t 67)),
 Oo 69 (.bin .sub (.t 68) (.c (.int .i64 1))),
 Oo 70 (.slice (some 4) (.t 63) none (some (.t 66)) (some (.t 69))),
 Oo 71 (.load true 4 (.t 11)),
 Oo 72 (.mks 1 4 true [(.sl 1 [] .nil), (.int .i64 0), (.str []), (.int .i64 0)] [(0, (.t 71))]),
 ⟨(some 73), none, .app none 4 56 (.t 70) (.t 72), [8]⟩,
 Mo 9 73] [0, 1, 2, 8, 9, 10])))
 (.skip)))))
 (.reg [Mo 22 10,
 Oo 23 (.bin .add (.t 22) (.c (.int .i64 1))),
 Mo 10 23] [0, 1, 2, 8, 9, 10]))
def A20 : AFunc := ⟨3, [.t 6, .t 7], .seq (.reg [Oo 6 (.mv (.c (.sl 4 [] .nil))),
 Oo 7 (.mv (.c (.sl 4 [] .nil)))] [0, 1, 2])
 (.seq (.reg [Mo 12 0,
 Oo 13 (.call 40 [(.t 12)]),
 Mo 8 13] [0, 1, 2, 8])
 (.seq (.reg [Oo 9 (.mv (.c (.sl 4 [] .nil)))] [0, 1, 2, 8, 9])
 (.seq (.seq (.reg [Oo 10 (.mv (.c (.int .i64 0)))] [0, 1, 2, 8, 9, 10])
 (.blk 0 (.loop L20x0)))
 (.seq (.reg [Mo 74 8,
 Mo 75 9,
 Oo 76 (.app none 4 56 (.c (.sl 4 [] .nil)) (.t 75)),
 Mo 77 1,
 Oo 78 (.app none 4 56 (.t 76) (.t 77)),
 Oo 79 (.call 40 [(.t 78)]),
 Mo 6 74,
 Mo 7 79] [6, 7])
 (.ret)))))⟩
theorem c20 : cmpF Tryz.prog ⟨[(28, 2), (29, 2), (30, 3), (50, 2)], false, false⟩ Tryz.f20 K20 = some A20 := by kernel_rfl
/-- collator/collatorref10.Compare -/
def K21 : List (List Nat) := [[0, 1, 3, 6, 9], [0, 1, 3, 9, 10], [0, 1, 3, 9, 10, 23], [8, 9], [0, 1, 9, 11], [0, 1, 9, 11, 12], [0, 1, 9, 11, 12, 13], [0, 1, 9, 11, 12, 13, 14], [0, 1, 9, 11, 12, 13, 14, 43], [0, 1, 9, 11, 12, 13, 14, 15, 16], [0, 1, 9, 11, 12, 13, 14, 15, 58], [0, 1, 9, 11, 12, 13, 14], [0, 1, 9, 11, 12, 13, 14], [8, 9]]
def L21x0 : ACode := .seq (.seq (.reg [Mo 40 14,
 Mo 41 12,
 Oo 42 (.len false (.t 41)),
 Oo 43 (.bin .lss (.t 40) (.t 42))] [0, 1, 9, 11, 12, 13, 14, 43])
 (.cond (.t 43) (.skip)
 (.exit 0)))
 (.seq (.blk 1 (.seq (.reg [Mo 47 0,
 Mo 48 1,
 Mo 49 11,
 Mo 50 12,
 Mo 51 14,
 Oo 52 (.iaddr 4 (.t 50) (.t 51)),
 Oo 53 (.faddr 0 (.t 52)),
 Oo 54 (.load false 1 (.t 53)),
 Oo 55 (.call 46 [(.t 47), (.t 48), (.t 49), (.t 54)]),
 Mo 46 55,
 Oo 56 (.ext (.t 46) 0),
 Oo 57 (.ext (.t 46) 1),
 Oo 15 (.alloc [(.int .i64 0), (.str []), (.str []), (.int .i64 0), (.int .i64 0), (.str []), (.int .i64 0), (.sl 3 [] .nil)]),
 ⟨none, none, .store 8 (.t 15) (.t 56), []⟩,
 Mo 16 57] [0, 1, 9, 11, 12, 13, 14, 15, 16])
 (.seq (.reg [Mo 58 16] [0, 1, 9, 11, 12, 13, 14, 15, 58])
 (.cond (.t 58) (.reg [Mo 59 13,
 Oo 60 (.load true 8 (.t 15)),
 Oo 61 (.mks 1 8 true [(.int .i64 0), (.str []), (.str []), (.int .i64 0), (.int .i64 0), (.str []), (.int .i64 0), (.sl 3 [] .nil)] [(0, (.t 60))]),
 Oo 62 (.app none 8 104 (.t 59) (.t 61)),
 Mo 13 62] [0, 1, 9, 11, 12, 13, 14])
 (.skip)))))
 (.reg [Mo 44 14,
 Oo 45 (.bin .add (.t 44) (.c (.int .i64 1))),
 Mo 14 45] [0, 1, 9, 11, 12, 13, 14]))
def A21 : AFunc := ⟨4, [.t 8, .c 9 true 2], .seq (.reg [Oo 6 (.box (.t 2)),
 Oo 8 (.mv (.c (.sl 8 [] .nil))),
 Oo 9 (.alloc [(.str []), (.int .i64 0)])] [0, 1, 3, 6, 9])
 (.seq (.reg [Mo 17 0,
 Mo 18 1,
 Oo 19 (.load true 3 (.t 6)),
 Oo 20 (.call 42 [(.t 17), (.t 18), (.t 19)]),
 Oo 10 (.alloc [(.str []), (.int .i64 0)]),
 ⟨none, none, .store 2 (.t 10) (.t 20), []⟩] [0, 1, 3, 9, 10])
 (.seq (.seq (.reg [Oo 21 (.faddr 1 (.t 10)),
 Oo 22 (.load false 1 (.t 21)),
 Oo 23 (.bin .neq (.t 22) (.c (.int .i64 0)))] [0, 1, 3, 9, 10, 23])
 (.cond (.t 23) (.seq (.regD [Oo 24 (.load true 2 (.t 10)),
 Oo 8 (.mv (.c (.sl 8 [] .nil))),
 ⟨none, none, .store 2 (.t 9) (.t 24), [0]⟩] [8, 9])
 (.ret))
 (.skip)))
 (.seq (.reg [Mo 25 0,
 Mo 26 1,
 Oo 27 (.call 44 [(.t 25), (.t 26)]),
 Mo 28 1,
 Mo 29 0,
 Oo 30 (.call 44 [(.t 28), (.t 29)]),
 Mo 31 3,
 Oo 32 (.call 43 [(.t 27), (.t 30), (.t 31)]),
 Mo 11 32] [0, 1, 9, 11])
 (.seq (.reg [Mo 33 0,
 Oo 34 (.app none 4 48 (.c (.sl 4 [] .nil)) (.t 33)),
 Mo 35 1,
 Mo 36 0,
 Oo 37 (.call 44 [(.t 35), (.t 36)]),
 Oo 38 (.app none 4 48 (.t 34) (.t 37)),
 Oo 39 (.call 45 [(.t 38)]),
 Mo 12 39] [0, 1, 9, 11, 12])
 (.seq (.reg [Oo 13 (.mv (.c (.sl 8 [] .nil)))] [0, 1, 9, 11, 12, 13])
 (.seq (.seq (.reg [Oo 14 (.mv (.c (.int .i64 0)))] [0, 1, 9, 11, 12, 13, 14])
 (.blk 0 (.loop L21x0)))
 (.seq (.reg [Mo 63 13,
 Oo 64 (.agg [(.str []), (.int .i64 0)] []),
 Mo 8 63,
 ⟨none, none, .store 2 (.t 9) (.t 64), []⟩] [8, 9])
 (.ret))))))))⟩
theorem c21 : cmpF Tryz.prog ⟨[(28, 2), (29, 2), (30, 3), (50, 2)], false, false⟩ Tryz.f21 K21 = some A21 := by kernel_rfl
/-- collator/collatorlaw02.Wide -/
def K22 : List (List Nat) := [[0], [0]]
def A22 : AFunc := ⟨0, [.c 0 true 3], .seq (.reg [Oo 0 (.alloc [(.int .i64 0), (.int .i64 0), (.int .i64 0)])] [0])
 (.seq (.reg [Oo 1 (.agg [(.int .i64 0), (.int .i64 0), (.int .i64 0)] [(0, 1, (.c (.int .i64 16))), (1, 1, (.c (.int .i64 1000))), (2, 1, (.c (.int .i64 200)))]),
 ⟨none, none, .store 3 (.t 0) (.t 1), []⟩] [0])
 (.ret))⟩
theorem c22 : cmpF Tryz.prog ⟨[(28, 2), (29, 2), (30, 3), (50, 2)], false, false⟩ Tryz.f22 K22 = some A22 := by kernel_rfl
/-- collator/collatorlaw04.pick -/
def K23 : List (List Nat) := [[0, 1], [0, 1, 6], [0, 1], [4]]
def A23 : AFunc := ⟨2, [.t 4], .seq (.reg [Oo 4 (.mv (.c (.int .i64 0)))] [0, 1])
 (.seq (.seq (.reg [Mo 5 0,
 Oo 6 (.bin .lss (.t 5) (.c (.int .i64 0)))] [0, 1, 6])
 (.cond (.t 6) (.reg [Mo 7 0,
 Oo 8 (.bin .add (.t 7) (.c (.int .i64 1))),
 Oo 9 (.un .neg (.t 8)),
 Mo 0 9] [0, 1])
 (.skip)))
 (.seq (.reg [Mo 10 0,
 Mo 11 1,
 Oo 12 (.bin .rem (.t 10) (.t 11)),
 Mo 4 12] [4])
 (.ret)))⟩
theorem c23 : cmpF Tryz.prog ⟨[(28, 2), (29, 2), (30, 3), (50, 2)], false, false⟩ Tryz.f23 K23 = some A23 := by kernel_rfl
/-- collator/collatorlaw04.full -/
def K24 : List (List Nat) := [[0, 1], [0, 1, 5], [0, 1, 5, 6], [0, 1, 5, 6, 10], [0, 1, 5, 6, 7], [0, 1, 5, 6, 7, 17], [0, 1, 5, 6, 7], [0, 1, 5, 6], [0, 1, 5, 6], [4]]
def L24x0 : ACode := .seq (.seq (.reg [Mo 8 6,
 Mo 9 1,
 Oo 10 (.bin .lss (.t 8) (.t 9))] [0, 1, 5, 6, 10])
 (.cond (.t 10) (.skip)
 (.exit 0)))
 (.seq (.blk 1 (.seq (.reg [Mo 13 6,
 Mo 7 13] [0, 1, 5, 6, 7])
 (.seq (.seq (.reg [Mo 14 6,
 Mo 15 0,
 Oo 16 (.len false (.t 15)),
 Oo 17 (.bin .lss (.t 14) (.t 16))] [0, 1, 5, 6, 7, 17])
 (.cond (.t 17) (.reg [Mo 18 0,
 Mo 19 6,
 Oo 20 (.iaddr 1 (.t 18) (.t 19)),
 Oo 21 (.load false 1 (.t 20)),
 Mo 7 21] [0, 1, 5, 6, 7])
 (.skip)))
 (.reg [Mo 22 5,
 Oo 23 (.mks 5 1 false [(.str [])] [(0, (.c (.str [97, 10]))), (1, (.c (.str [98, 10]))), (2, (.c (.str [99, 10]))), (3, (.c (.str []))), (4, (.c (.str [120, 58, 121, 59])))]),
 Mo 24 7,
 Oo 25 (.call 23 [(.t 24), (.c (.int .i64 5))]),
 Oo 26 (.iaddr 1 (.t 23) (.t 25)),
 Oo 27 (.load false 1 (.t 26)),
 Oo 28 (.mks 1 1 false [(.str [])] [(0, (.t 27))]),
 Oo 29 (.app none 1 16 (.t 22) (.t 28)),
 Mo 5 29] [0, 1, 5, 6]))))
 (.reg [Mo 11 6,
 Oo 12 (.bin .add (.t 11) (.c (.int .i64 1))),
 Mo 6 12] [0, 1, 5, 6]))
def A24 : AFunc := ⟨2, [.t 4], .seq (.reg [Oo 4 (.mv (.c (.sl 1 [] .nil)))] [0, 1])
 (.seq (.reg [Oo 5 (.mv (.c (.sl 1 [] .nil)))] [0, 1, 5])
 (.seq (.seq (.reg [Oo 6 (.mv (.c (.int .i64 0)))] [0, 1, 5, 6])
 (.blk 0 (.loop L24x0)))
 (.seq (.reg [Mo 30 5,
 Mo 4 30] [4])
 (.ret))))⟩
theorem c24 : cmpF Tryz.prog ⟨[(28, 2), (29, 2), (30, 3), (50, 2)], false, false⟩ Tryz.f24 K24 = some A24 := by kernel_rfl
/-- collator/collatorlaw11.pick -/
def K25 : List (List Nat) := [[0, 1], [0, 1, 6], [0, 1], [4]]
def A25 : AFunc := ⟨2, [.t 4], .seq (.reg [Oo 4 (.mv (.c (.int .i64 0)))] [0, 1])
 (.seq (.seq (.reg [Mo 5 0,
 Oo 6 (.bin .lss (.t 5) (.c (.int .i64 0)))] [0, 1, 6])
 (.cond (.t 6) (.reg [Mo 7 0,
 Oo 8 (.bin .add (.t 7) (.c (.int .i64 1))),
 Oo 9 (.un .neg (.t 8)),
 Mo 0 9] [0, 1])
 (.skip)))
 (.seq (.reg [Mo 10 0,
 Mo 11 1,
 Oo 12 (.bin .rem (.t 10) (.t 11)),
 Mo 4 12] [4])
 (.ret)))⟩
theorem c25 : cmpF Tryz.prog ⟨[(28, 2), (29, 2), (30, 3), (50, 2)], false, false⟩ Tryz.f25 K25 = some A25 := by kernel_rfl
/-- collator/patch.Right -/
def K26 : List (List Nat) := [[0], [0, 3], [0, 3, 9, 10, 11], [0, 3, 9, 10, 11, 12], [0, 3, 4, 5, 9, 10, 11], [0, 3, 5, 9, 10, 11, 34], [2], [0, 3, 9, 10, 11], [0, 3, 9, 10, 11], [3, 39, 40, 41], [3, 39, 40, 41, 42], [3, 7, 39, 40, 41], [3, 7, 39, 40, 41, 47], [3, 7, 39, 40, 41, 51], [2], [3, 39, 40, 41], [3, 39, 40, 41], [2]]
def L26x0 : ACode := .seq (.reg [Oo 12 (.bin .lss (.t 11) (.t 10))] [0, 3, 9, 10, 11, 12])
 (.seq (.cond (.t 12) (.skip)
 (.exit 0))
 (.seq (.blk 1 (.seq (.reg [Mo 13 11,
 Oo 14 (.iaddr 8 (.t 9) (.t 11)),
 Oo 15 (.load true 8 (.t 14)),
 Oo 5 (.alloc [(.int .i64 0), (.str []), (.str []), (.int .i64 0), (.int .i64 0), (.str []), (.int .i64 0), (.sl 3 [] .nil)]),
 Mo 4 13,
 ⟨none, none, .store 8 (.t 5) (.t 15), []⟩] [0, 3, 4, 5, 9, 10, 11])
 (.seq (.seq (.regD [Oo 16 (.load true 8 (.t 5)),
 ⟨(some 17), none, .call 47 [(.t 16)], [0]⟩,
 ⟨(some 18), none, .un .not (.t 17), [1]⟩,
 ⟨(some 19), none, .mv (.t 18), [1]⟩,
 ⟨(some 20), some (19, false), .mv (.t 4), [1]⟩,
 ⟨(some 21), some (19, false), .bin .gtr (.t 20) (.c (.int .i64 0)), [1]⟩,
 ⟨(some 22), some (19, false), .mv (.t 21), [1]⟩,
 ⟨(some 23), some (22, true), .mv (.t 0), [1]⟩,
 ⟨(some 24), some (22, true), .mv (.t 4), [1]⟩,
 ⟨(some 25), some (22, true), .bin .sub (.t 24) (.c (.int .i64 1)), [1]⟩,
 ⟨(some 26), some (22, true), .iaddr 8 (.t 23) (.t 25), [1]⟩,
 ⟨(some 27), some (22, true), .faddr 1 (.t 26), [1]⟩,
 ⟨(some 28), some (22, true), .load false 1 (.t 27), [1, 0]⟩,
 ⟨(some 29), some (22, true), .faddr 1 (.t 5), [1]⟩,
 ⟨(some 30), some (22, true), .load false 1 (.t 29), [1, 0]⟩,
 ⟨(some 31), some (22, true), .call 48 [(.t 28), (.t 30)], [12, 14, 1, 0]⟩,
 ⟨(some 32), some (22, true), .bin .geq (.t 31) (.c (.int .i64 0)), [15, 1]⟩,
 ⟨(some 33), some (19, false), .pick (.t 22) (.t 32) (.c (.bool false)), [1, 15]⟩,
 ⟨(some 34), none, .pick (.t 19) (.c (.bool true)) (.t 33), [1, 15]⟩] [0, 3, 5, 9, 10, 11, 34])
 (.cond (.t 34) (.seq (.reg [Oo 2 (.mv (.c (.bool false)))] [2])
 (.ret))
 (.skip)))
 (.reg [Mo 35 3,
 Oo 36 (.faddr 1 (.t 5)),
 Oo 37 (.load false 1 (.t 36)),
 ⟨none, none, .mput (.t 35) (.t 37) (.c (.bool true)), []⟩] [0, 3, 9, 10, 11]))))
 (.reg [Oo 38 (.bin .add (.t 11) (.c (.int .i64 1))),
 Mo 11 38] [0, 3, 9, 10, 11])))
def L26x1 : ACode := .seq (.reg [Oo 42 (.bin .lss (.t 41) (.t 40))] [3, 39, 40, 41, 42])
 (.seq (.cond (.t 42) (.skip)
 (.exit 2))
 (.seq (.blk 3 (.seq (.reg [Oo 43 (.iaddr 8 (.t 39) (.t 41)),
 Oo 44 (.load true 8 (.t 43)),
 Oo 7 (.alloc [(.int .i64 0), (.str []), (.str []), (.int .i64 0), (.int .i64 0), (.str []), (.int .i64 0), (.sl 3 [] .nil)]),
 ⟨none, none, .store 8 (.t 7) (.t 44), []⟩] [3, 7, 39, 40, 41])
 (.seq (.seq (.reg [Oo 45 (.faddr 0 (.t 7)),
 Oo 46 (.load false 1 (.t 45)),
 Oo 47 (.bin .neq (.t 46) (.c (.int .i64 5)))] [3, 7, 39, 40, 41, 47])
 (.cond (.t 47) (.exit 3)
 (.skip)))
 (.seq (.seq (.reg [Mo 48 3,
 Oo 49 (.faddr 2 (.t 7)),
 Oo 50 (.load false 1 (.t 49)),
 Oo 51 (.mget (.t 48) (.t 50))] [3, 7, 39, 40, 41, 51])
 (.cond (.t 51) (.seq (.reg [Oo 2 (.mv (.c (.bool false)))] [2])
 (.ret))
 (.skip)))
 (.reg [Mo 52 3,
 Oo 53 (.faddr 2 (.t 7)),
 Oo 54 (.load false 1 (.t 53)),
 ⟨none, none, .mput (.t 52) (.t 54) (.c (.bool true)), []⟩] [3, 39, 40, 41])))))
 (.reg [Oo 55 (.bin .add (.t 41) (.c (.int .i64 1))),
 Mo 41 55] [3, 39, 40, 41])))
def A26 : AFunc := ⟨1, [.t 2], .seq (.reg [Oo 2 (.mv (.c (.bool false)))] [0])
 (.seq (.reg [Oo 8 (.mkmap),
 Mo 3 8] [0, 3])
 (.seq (.seq (.reg [Mo 9 0,
 Oo 10 (.len false (.t 9)),
 Oo 11 (.mv (.c (.int .i64 0)))] [0, 3, 9, 10, 11])
 (.blk 0 (.loop L26x0)))
 (.seq (.seq (.reg [Mo 39 0,
 Oo 40 (.len false (.t 39)),
 Oo 41 (.mv (.c (.int .i64 0)))] [3, 39, 40, 41])
 (.blk 2 (.loop L26x1)))
 (.seq (.reg [Oo 2 (.mv (.c (.bool true)))] [2])
 (.ret)))))⟩
theorem c26 : cmpF Tryz.prog ⟨[(28, 2), (29, 2), (30, 3), (50, 2)], false, false⟩ Tryz.f26 K26 = some A26 := by kernel_rfl
/-- collator/script.Encode -/
def K27 : List (List Nat) := [[0], [0, 11], [2, 3], [0, 4], [4, 12, 13, 14], [4, 12, 13, 14, 15], [4, 6, 12, 13, 14], [4, 6, 12, 13, 14], [4, 12, 13, 14, 31, 32, 33], [4, 12, 13, 14, 31, 32, 33, 34], [4, 8, 12, 13, 14, 31, 32, 33], [4, 12, 13, 14, 31, 32, 33], [4, 12, 13, 14, 31, 32, 33], [4, 12, 13, 14], [2, 3]]
def L27x0 : ACode := .seq (.reg [Oo 34 (.bin .lss (.t 33) (.t 32))] [4, 12, 13, 14, 31, 32, 33, 34])
 (.seq (.cond (.t 34) (.skip)
 (.exit 2))
 (.seq (.blk 3 (.seq (.reg [Oo 35 (.iaddr 1 (.t 31) (.t 33)),
 Oo 36 (.load false 1 (.t 35)),
 Mo 8 36] [4, 8, 12, 13, 14, 31, 32, 33])
 (.reg [Mo 37 8,
 Oo 38 (.len true (.t 37)),
 Oo 39 (.call 51 [(.t 38)]),
 Oo 40 (.bin .add (.t 39) (.c (.str [58]))),
 Mo 41 8,
 Oo 42 (.bin .add (.t 40) (.t 41)),
 Oo 43 (.wrs 50 (.t 4) [(.t 42)])] [4, 12, 13, 14, 31, 32, 33])))
 (.reg [Oo 44 (.bin .add (.t 33) (.c (.int .i64 1))),
 Mo 33 44] [4, 12, 13, 14, 31, 32, 33])))
def L27x1 : ACode := .seq (.reg [Oo 15 (.bin .lss (.t 14) (.t 13))] [4, 12, 13, 14, 15])
 (.seq (.cond (.t 15) (.skip)
 (.exit 0))
 (.seq (.blk 1 (.seq (.reg [Oo 16 (.iaddr 3 (.t 12) (.t 14)),
 Oo 17 (.load true 3 (.t 16)),
 Oo 6 (.alloc [(.int .i64 0), (.int .i64 0), (.sl 1 [] .nil)]),
 ⟨none, none, .store 3 (.t 6) (.t 17), []⟩] [4, 6, 12, 13, 14])
 (.seq (.regD [Oo 18 (.faddr 0 (.t 6)),
 Oo 19 (.load false 1 (.t 18)),
 Oo 20 (.faddr 0 (.t 6)),
 Oo 21 (.load false 1 (.t 20)),
 Oo 22 (.bin .add (.t 21) (.c (.int .i64 1))),
 Oo 23 (.slice none (.c (.str [63, 61, 45, 43])) (some (.t 19)) (some (.t 22)) none),
 Oo 24 (.faddr 1 (.t 6)),
 Oo 25 (.load false 1 (.t 24)),
 ⟨(some 26), none, .call 51 [(.t 25)], [7]⟩,
 ⟨(some 27), none, .bin .add (.t 23) (.t 26), [8]⟩,
 ⟨(some 28), none, .bin .add (.t 27) (.c (.str [59])), [8]⟩,
 ⟨(some 29), none, .wrs 50 (.t 4) [(.t 28)], [8, 1, 3, 7]⟩] [4, 6, 12, 13, 14])
 (.seq (.reg [Oo 30 (.faddr 2 (.t 6)),
 Oo 31 (.load false 1 (.t 30)),
 Oo 32 (.len false (.t 31)),
 Oo 33 (.mv (.c (.int .i64 0)))] [4, 12, 13, 14, 31, 32, 33])
 (.blk 2 (.loop L27x0))))))
 (.reg [Oo 45 (.bin .add (.t 14) (.c (.int .i64 1))),
 Mo 14 45] [4, 12, 13, 14])))
def A27 : AFunc := ⟨1, [.t 2, .t 3], .seq (.reg [Oo 2 (.mv (.c (.str []))),
 Oo 3 (.mv (.c (.int .i64 0)))] [0])
 (.seq (.seq (.reg [Mo 9 0,
 Oo 10 (.call 49 [(.t 9)]),
 Oo 11 (.un .not (.t 10))] [0, 11])
 (.cond (.t 11) (.seq (.reg [Oo 2 (.mv (.c (.str []))),
 Oo 3 (.mv (.c (.int .i64 1)))] [2, 3])
 (.ret))
 (.skip)))
 (.seq (.reg [Oo 4 (.alloc [(.bfresh 65 0 0), (.sl 1 [] .nil)])] [0, 4])
 (.seq (.seq (.reg [Mo 12 0,
 Oo 13 (.len false (.t 12)),
 Oo 14 (.mv (.c (.int .i64 0)))] [4, 12, 13, 14])
 (.blk 0 (.loop L27x1)))
 (.seq (.reg [Oo 46 (.bstr 30 (.t 4)),
 Mo 2 46,
 Oo 3 (.mv (.c (.int .i64 0)))] [2, 3])
 (.ret)))))⟩
theorem c27 : cmpF Tryz.prog ⟨[(28, 2), (29, 2), (30, 3), (50, 2)], false, false⟩ Tryz.f27 K27 = some A27 := by kernel_rfl
/-- collator/collatorref11.Right -/
def K31 : List (List Nat) := [[0], [0, 3], [0, 3, 9], [0, 3, 4], [0, 3, 37], [2], [0, 3, 5], [0, 3, 5, 41], [0, 3, 5, 88], [2], [0, 3, 5], [0, 3], [2]]
def L31x0 : ACode := .seq (.seq (.reg [Mo 38 5,
 Mo 39 0,
 Oo 40 (.len false (.t 39)),
 Oo 41 (.bin .lss (.t 38) (.t 40))] [0, 3, 5, 41])
 (.cond (.t 41) (.skip)
 (.exit 2)))
 (.seq (.blk 3 (.seq (.regD [Mo 44 0,
 Mo 45 3,
 Oo 46 (.iaddr 8 (.t 44) (.t 45)),
 Oo 47 (.faddr 0 (.t 46)),
 Oo 48 (.load false 1 (.t 47)),
 Oo 49 (.bin .eql (.t 48) (.c (.int .i64 5))),
 Mo 50 49,
 ⟨(some 51), some (50, true), .mv (.t 0), []⟩,
 ⟨(some 52), some (50, true), .mv (.t 5), []⟩,
 ⟨(some 53), some (50, true), .iaddr 8 (.t 51) (.t 52), []⟩,
 ⟨(some 54), some (50, true), .faddr 1 (.t 53), []⟩,
 ⟨(some 55), some (50, true), .load false 1 (.t 54), [4]⟩,
 ⟨(some 56), some (50, true), .mv (.t 0), []⟩,
 ⟨(some 57), some (50, true), .mv (.t 3), []⟩,
 ⟨(some 58), some (50, true), .iaddr 8 (.t 56) (.t 57), []⟩,
 ⟨(some 59), some (50, true), .faddr 2 (.t 58), []⟩,
 ⟨(some 60), some (50, true), .load false 1 (.t 59), [4]⟩,
 ⟨(some 61), some (50, true), .bin .eql (.t 55) (.t 60), []⟩,
 ⟨(some 62), some (50, true), .mv (.t 61), []⟩,
 ⟨(some 63), some (62, false), .mv (.t 5), []⟩,
 ⟨(some 64), some (62, false), .mv (.t 3), []⟩,
 ⟨(some 65), some (62, false), .bin .neq (.t 63) (.t 64), []⟩,
 ⟨(some 66), some (62, false), .mv (.t 65), []⟩,
 ⟨(some 67), some (66, true), .mv (.t 0), []⟩,
 ⟨(some 68), some (66, true), .mv (.t 5), []⟩,
 ⟨(some 69), some (66, true), .iaddr 8 (.t 67) (.t 68), []⟩,
 ⟨(some 70), some (66, true), .faddr 0 (.t 69), []⟩,
 ⟨(some 71), some (66, true), .load false 1 (.t 70), [11, 16, 4]⟩,
 ⟨(some 72), some (66, true), .bin .eql (.t 71) (.c (.int .i64 5)), []⟩,
 ⟨(some 73), some (62, false), .pick (.t 66) (.t 72) (.c (.bool false)), []⟩,
 ⟨(some 74), some (62, false), .mv (.t 73), []⟩,
 ⟨(some 75), some (74, true), .mv (.t 0), []⟩,
 ⟨(some 76), some (74, true), .mv (.t 5), []⟩,
 ⟨(some 77), some (74, true), .iaddr 8 (.t 75) (.t 76), []⟩,
 ⟨(some 78), some (74, true), .faddr 2 (.t 77), []⟩,
 ⟨(some 79), some (74, true), .load false 1 (.t 78), [11, 16, 4, 27]⟩,
 ⟨(some 80), some (74, true), .mv (.t 0), []⟩,
 ⟨(some 81), some (74, true), .mv (.t 3), []⟩,
 ⟨(some 82), some (74, true), .iaddr 8 (.t 80) (.t 81), []⟩,
 ⟨(some 83), some (74, true), .faddr 2 (.t 82), []⟩,
 ⟨(some 84), some (74, true), .load false 1 (.t 83), [11, 16, 4, 27]⟩,
 ⟨(some 85), some (74, true), .bin .eql (.t 79) (.t 84), []⟩,
 ⟨(some 86), some (62, false), .pick (.t 74) (.t 85) (.c (.bool false)), []⟩,
 ⟨(some 87), some (50, true), .pick (.t 62) (.c (.bool true)) (.t 86), []⟩,
 Oo 88 (.pick (.t 50) (.t 87) (.c (.bool false)))] [0, 3, 5, 88])
 (.cond (.t 88) (.seq (.reg [Oo 2 (.mv (.c (.bool false)))] [2])
 (.ret))
 (.skip))))
 (.reg [Mo 42 5,
 Oo 43 (.bin .add (.t 42) (.c (.int .i64 1))),
 Mo 5 43] [0, 3, 5]))
def L31x1 : ACode := .seq (.seq (.reg [Mo 6 3,
 Mo 7 0,
 Oo 8 (.len false (.t 7)),
 Oo 9 (.bin .lss (.t 6) (.t 8))] [0, 3, 9])
 (.cond (.t 9) (.skip)
 (.exit 0)))
 (.seq (.blk 1 (.seq (.reg [Mo 12 0,
 Mo 13 3,
 Oo 14 (.iaddr 8 (.t 12) (.t 13)),
 Oo 15 (.load true 8 (.t 14)),
 Oo 16 (.call 52 [(.t 15)]),
 Mo 4 16] [0, 3, 4])
 (.seq (.seq (.regD [Mo 17 4,
 Oo 18 (.un .not (.t 17)),
 Mo 19 18,
 ⟨(some 20), some (19, false), .mv (.t 3), []⟩,
 ⟨(some 21), some (19, false), .bin .gtr (.t 20) (.c (.int .i64 0)), []⟩,
 ⟨(some 22), some (19, false), .mv (.t 21), []⟩,
 ⟨(some 23), some (22, true), .mv (.t 0), []⟩,
 ⟨(some 24), some (22, true), .mv (.t 3), []⟩,
 ⟨(some 25), some (22, true), .bin .sub (.t 24) (.c (.int .i64 1)), []⟩,
 ⟨(some 26), some (22, true), .iaddr 8 (.t 23) (.t 25), []⟩,
 ⟨(some 27), some (22, true), .faddr 1 (.t 26), []⟩,
 ⟨(some 28), some (22, true), .load false 1 (.t 27), []⟩,
 ⟨(some 29), some (22, true), .mv (.t 0), []⟩,
 ⟨(some 30), some (22, true), .mv (.t 3), []⟩,
 ⟨(some 31), some (22, true), .iaddr 8 (.t 29) (.t 30), []⟩,
 ⟨(some 32), some (22, true), .faddr 1 (.t 31), []⟩,
 ⟨(some 33), some (22, true), .load false 1 (.t 32), []⟩,
 ⟨(some 34), some (22, true), .call 53 [(.t 28), (.t 33)], [11, 16]⟩,
 ⟨(some 35), some (22, true), .bin .geq (.t 34) (.c (.int .i64 0)), [17]⟩,
 ⟨(some 36), some (19, false), .pick (.t 22) (.t 35) (.c (.bool false)), [17]⟩,
 ⟨(some 37), none, .pick (.t 19) (.c (.bool true)) (.t 36), [17]⟩] [0, 3, 37])
 (.cond (.t 37) (.seq (.reg [Oo 2 (.mv (.c (.bool false)))] [2])
 (.ret))
 (.skip)))
 (.seq (.reg [Oo 5 (.mv (.c (.int .i64 0)))] [0, 3, 5])
 (.blk 2 (.loop L31x0))))))
 (.reg [Mo 10 3,
 Oo 11 (.bin .add (.t 10) (.c (.int .i64 1))),
 Mo 3 11] [0, 3]))
def A31 : AFunc := ⟨1, [.t 2], .seq (.reg [Oo 2 (.mv (.c (.bool false)))] [0])
 (.seq (.seq (.reg [Oo 3 (.mv (.c (.int .i64 0)))] [0, 3])
 (.blk 0 (.loop L31x1)))
 (.seq (.reg [Oo 2 (.mv (.c (.bool true)))] [2])
 (.ret)))⟩
theorem c31 : cmpF Tryz.prog ⟨[(28, 2), (29, 2), (30, 3), (50, 2)], false, false⟩ Tryz.f31 K31 = some A31 := by kernel_rfl
/-- collator/collatorref04.Encode -/
def K32 : List (List Nat) := [[0], [0, 4], [0, 11], [2, 3], [0, 5], [0, 5, 6], [0, 5, 6, 15], [0, 5, 6], [0, 5, 6, 7], [0, 5, 6, 7, 47], [0, 5, 6, 7], [0, 5, 6, 7], [0, 5, 6], [2, 3]]
def L32x0 : ACode := .seq (.seq (.reg [Mo 40 7,
 Mo 41 0,
 Mo 42 6,
 Oo 43 (.iaddr 3 (.t 41) (.t 42)),
 Oo 44 (.faddr 2 (.t 43)),
 Oo 45 (.load false 1 (.t 44)),
 Oo 46 (.len false (.t 45)),
 Oo 47 (.bin .lss (.t 40) (.t 46))] [0, 5, 6, 7, 47])
 (.cond (.t 47) (.skip)
 (.exit 2)))
 (.seq (.blk 3 (.regD [Mo 50 5,
 Mo 51 0,
 Mo 52 6,
 Oo 53 (.iaddr 3 (.t 51) (.t 52)),
 Oo 54 (.faddr 2 (.t 53)),
 Oo 55 (.load false 1 (.t 54)),
 Mo 56 7,
 Oo 57 (.iaddr 1 (.t 55) (.t 56)),
 ⟨(some 58), none, .load false 1 (.t 57), [5]⟩,
 Oo 59 (.len true (.t 58)),
 ⟨(some 60), none, .call 55 [(.t 59)], [8, 5]⟩,
 ⟨(some 61), none, .bin .add (.t 50) (.t 60), [10]⟩,
 ⟨(some 62), none, .bin .add (.t 61) (.c (.str [58])), [10]⟩,
 Mo 63 0,
 Mo 64 6,
 Oo 65 (.iaddr 3 (.t 63) (.t 64)),
 Oo 66 (.faddr 2 (.t 65)),
 Oo 67 (.load false 1 (.t 66)),
 Mo 68 7,
 Oo 69 (.iaddr 1 (.t 67) (.t 68)),
 ⟨(some 70), none, .load false 1 (.t 69), [17]⟩,
 ⟨(some 71), none, .bin .add (.t 62) (.t 70), [10]⟩,
 ⟨(some 5), none, .mv (.t 71), [10]⟩] [0, 5, 6, 7]))
 (.reg [Mo 48 7,
 Oo 49 (.bin .add (.t 48) (.c (.int .i64 1))),
 Mo 7 49] [0, 5, 6, 7]))
def L32x1 : ACode := .seq (.seq (.reg [Mo 12 6,
 Mo 13 0,
 Oo 14 (.len false (.t 13)),
 Oo 15 (.bin .lss (.t 12) (.t 14))] [0, 5, 6, 15])
 (.cond (.t 15) (.skip)
 (.exit 0)))
 (.seq (.blk 1 (.seq (.regD [Mo 18 5,
 Mo 19 0,
 Mo 20 6,
 Oo 21 (.iaddr 3 (.t 19) (.t 20)),
 Oo 22 (.faddr 0 (.t 21)),
 Oo 23 (.load false 1 (.t 22)),
 Oo 24 (.bin .sub (.t 23) (.c (.int .i64 1))),
 Mo 25 0,
 Mo 26 6,
 Oo 27 (.iaddr 3 (.t 25) (.t 26)),
 Oo 28 (.faddr 0 (.t 27)),
 Oo 29 (.load false 1 (.t 28)),
 Oo 30 (.slice none (.c (.str [61, 45, 43])) (some (.t 24)) (some (.t 29)) none),
 Oo 31 (.bin .add (.t 18) (.t 30)),
 Mo 32 0,
 Mo 33 6,
 Oo 34 (.iaddr 3 (.t 32) (.t 33)),
 Oo 35 (.faddr 1 (.t 34)),
 Oo 36 (.load false 1 (.t 35)),
 ⟨(some 37), none, .call 55 [(.t 36)], [18]⟩,
 ⟨(some 38), none, .bin .add (.t 31) (.t 37), [19]⟩,
 ⟨(some 39), none, .bin .add (.t 38) (.c (.str [59])), [19]⟩,
 ⟨(some 5), none, .mv (.t 39), [19]⟩] [0, 5, 6])
 (.seq (.reg [Oo 7 (.mv (.c (.int .i64 0)))] [0, 5, 6, 7])
 (.blk 2 (.loop L32x0)))))
 (.reg [Mo 16 6,
 Oo 17 (.bin .add (.t 16) (.c (.int .i64 1))),
 Mo 6 17] [0, 5, 6]))
def A32 : AFunc := ⟨1, [.t 2, .t 3], .seq (.reg [Oo 2 (.mv (.c (.str []))),
 Oo 3 (.mv (.c (.int .i64 0)))] [0])
 (.seq (.reg [Mo 8 0,
 Oo 9 (.call 54 [(.t 8)]),
 Mo 4 9] [0, 4])
 (.seq (.seq (.reg [Mo 10 4,
 Oo 11 (.un .not (.t 10))] [0, 11])
 (.cond (.t 11) (.seq (.reg [Oo 2 (.mv (.c (.str []))),
 Oo 3 (.mv (.c (.int .i64 1)))] [2, 3])
 (.ret))
 (.skip)))
 (.seq (.reg [Oo 5 (.mv (.c (.str [])))] [0, 5])
 (.seq (.seq (.reg [Oo 6 (.mv (.c (.int .i64 0)))] [0, 5, 6])
 (.blk 0 (.loop L32x1)))
 (.seq (.reg [Mo 72 5,
 Mo 2 72,
 Oo 3 (.mv (.c (.int .i64 0)))] [2, 3])
 (.ret))))))⟩
theorem c32 : cmpF Tryz.prog ⟨[(28, 2), (29, 2), (30, 3), (50, 2)], false, false⟩ Tryz.f32 K32 = some A32 := by kernel_rfl
/-- collator/collatorref12.number -/
def K33 : List (List Nat) := [[0], [2]]
def A33 : AFunc := ⟨1, [.t 2], .seq (.reg [Oo 2 (.mv (.c (.str [])))] [0])
 (.seq (.reg [Mo 3 0,
 Oo 4 (.call 55 [(.t 3)]),
 Oo 5 (.bin .add (.t 4) (.c (.str [59]))),
 Mo 2 5] [2])
 (.ret))⟩
theorem c33 : cmpF Tryz.prog ⟨[(28, 2), (29, 2), (30, 3), (50, 2)], false, false⟩ Tryz.f33 K33 = some A33 := by kernel_rfl
/-- collator/collatorref12.text -/
def K34 : List (List Nat) := [[0], [2]]
def A34 : AFunc := ⟨1, [.t 2], .seq (.reg [Oo 2 (.mv (.c (.str [])))] [0])
 (.seq (.reg [Mo 3 0,
 Oo 4 (.len true (.t 3)),
 Oo 5 (.call 55 [(.t 4)]),
 Oo 6 (.bin .add (.t 5) (.c (.str [58]))),
 Mo 7 0,
 Oo 8 (.bin .add (.t 6) (.t 7)),
 Mo 2 8] [2])
 (.ret))⟩
theorem c34 : cmpF Tryz.prog ⟨[(28, 2), (29, 2), (30, 3), (50, 2)], false, false⟩ Tryz.f34 K34 = some A34 := by kernel_rfl
/-- (*collator/report.reader).entry -/
def K36 : List (List Nat) := [[0, 2], [0, 2], [0, 2], [0, 2], [0, 2], [0, 2], [0, 2], [0, 2], [2, 3, 4], [2, 3], [2], [2]]
def A36 : AFunc := ⟨1, [.c 2 true 8], .seq (.reg [Oo 2 (.alloc [(.int .i64 0), (.str []), (.str []), (.int .i64 0), (.int .i64 0), (.str []), (.int .i64 0), (.sl 3 [] .nil)])] [0, 2])
 (.seq (.reg [Mo 5 0,
 Oo 6 (.nilc (.t 5)),
 Oo 7 (.faddr 0 (.t 6)),
 Oo 8 (.call 56 [(.t 7), (.c (.str [59]))]),
 Oo 9 (.faddr 0 (.t 2)),
 ⟨none, none, .store 1 (.t 9) (.t 8), []⟩] [0, 2])
 (.seq (.reg [Mo 10 0,
 Oo 11 (.call 57 [(.t 10)]),
 Oo 12 (.faddr 1 (.t 2)),
 ⟨none, none, .store 1 (.t 12) (.t 11), []⟩] [0, 2])
 (.seq (.reg [Mo 13 0,
 Oo 14 (.call 57 [(.t 13)]),
 Oo 15 (.faddr 2 (.t 2)),
 ⟨none, none, .store 1 (.t 15) (.t 14), []⟩] [0, 2])
 (.seq (.reg [Mo 16 0,
 Oo 17 (.nilc (.t 16)),
 Oo 18 (.faddr 0 (.t 17)),
 Oo 19 (.call 56 [(.t 18), (.c (.str [59]))]),
 Oo 20 (.faddr 3 (.t 2)),
 ⟨none, none, .store 1 (.t 20) (.t 19), []⟩] [0, 2])
 (.seq (.reg [Mo 21 0,
 Oo 22 (.nilc (.t 21)),
 Oo 23 (.faddr 0 (.t 22)),
 Oo 24 (.call 56 [(.t 23), (.c (.str [59]))]),
 Oo 25 (.faddr 4 (.t 2)),
 ⟨none, none, .store 1 (.t 25) (.t 24), []⟩] [0, 2])
 (.seq (.reg [Mo 26 0,
 Oo 27 (.call 57 [(.t 26)]),
 Oo 28 (.faddr 5 (.t 2)),
 ⟨none, none, .store 1 (.t 28) (.t 27), []⟩] [0, 2])
 (.seq (.reg [Mo 29 0,
 Oo 30 (.nilc (.t 29)),
 Oo 31 (.faddr 0 (.t 30)),
 Oo 32 (.call 56 [(.t 31), (.c (.str [59]))]),
 Oo 33 (.faddr 6 (.t 2)),
 ⟨none, none, .store 1 (.t 33) (.t 32), []⟩] [0, 2])
 (.seq (.reg [Mo 35 0,
 Oo 36 (.call 57 [(.t 35)]),
 Oo 37 (.call 58 [(.t 36)]),
 Mo 34 37,
 Oo 38 (.ext (.t 34) 0),
 Oo 39 (.ext (.t 34) 1),
 Mo 3 38,
 Mo 4 39] [2, 3, 4])
 (.seq (.reg [Mo 40 4,
 Oo 41 (.bin .eql (.t 40) (.c (.int .i64 0))),
 Oo 42 (.call 37 [(.t 41)])] [2, 3])
 (.seq (.reg [Mo 43 3,
 Oo 44 (.faddr 7 (.t 2)),
 ⟨none, none, .store 1 (.t 44) (.t 43), []⟩] [2])
 (.seq (.reg [Oo 45 (.load true 8 (.t 2)),
 ⟨none, none, .store 8 (.t 2) (.t 45), []⟩] [2])
 (.ret))))))))))))⟩
theorem c36 : cmpF Tryz.prog ⟨[(28, 2), (29, 2), (30, 3), (50, 2)], false, false⟩ Tryz.f36 K36 = some A36 := by kernel_rfl
/-- collator/collatorref12.entry -/
def K38 : List (List Nat) := [[0, 2], [2, 5, 6, 7], [2, 5, 7, 8, 9, 10], [2, 5, 7, 8, 10, 11, 12, 13], [2, 5, 7, 8, 10, 11, 13, 14, 15, 16], [2, 5, 7, 8, 10, 11, 13, 14, 16, 17, 18, 19], [2, 5, 7, 8, 10, 11, 13, 14, 16, 17, 19, 20, 21, 22], [2, 5, 7, 8, 10, 11, 13, 14, 16, 17, 19, 20, 22, 23, 24, 25], [2, 5, 7, 8, 10, 11, 13, 14, 16, 17, 19, 20, 22, 23, 25, 26, 27, 28], [2, 5, 7, 8, 10, 11, 13, 14, 16, 17, 19, 20, 22, 23, 25, 27, 28, 29, 30], [2, 5, 8, 11, 14, 17, 20, 23, 27, 29, 117], [2, 3, 4], [2, 3, 4]]
def A38 : AFunc := ⟨1, [.c 2 true 8, .t 3, .t 4], .seq (.reg [Oo 2 (.alloc [(.int .i64 0), (.str []), (.str []), (.int .i64 0), (.int .i64 0), (.str []), (.int .i64 0), (.sl 3 [] .nil)]),
 Oo 3 (.mv (.c (.str []))),
 Oo 4 (.mv (.c (.bool false)))] [0, 2])
 (.seq (.reg [Mo 32 0,
 Oo 33 (.call 59 [(.t 32), (.c (.int .u8 59))]),
 Mo 31 33,
 Oo 34 (.ext (.t 31) 0),
 Oo 35 (.ext (.t 31) 1),
 Oo 36 (.ext (.t 31) 2),
 Mo 5 34,
 Mo 6 35,
 Mo 7 36] [2, 5, 6, 7])
 (.seq (.reg [Mo 38 6,
 Oo 39 (.call 60 [(.t 38)]),
 Mo 37 39,
 Oo 40 (.ext (.t 37) 0),
 Oo 41 (.ext (.t 37) 1),
 Oo 42 (.ext (.t 37) 2),
 Mo 8 40,
 Mo 9 41,
 Mo 10 42] [2, 5, 7, 8, 9, 10])
 (.seq (.reg [Mo 44 9,
 Oo 45 (.call 60 [(.t 44)]),
 Mo 43 45,
 Oo 46 (.ext (.t 43) 0),
 Oo 47 (.ext (.t 43) 1),
 Oo 48 (.ext (.t 43) 2),
 Mo 11 46,
 Mo 12 47,
 Mo 13 48] [2, 5, 7, 8, 10, 11, 12, 13])
 (.seq (.reg [Mo 50 12,
 Oo 51 (.call 59 [(.t 50), (.c (.int .u8 59))]),
 Mo 49 51,
 Oo 52 (.ext (.t 49) 0),
 Oo 53 (.ext (.t 49) 1),
 Oo 54 (.ext (.t 49) 2),
 Mo 14 52,
 Mo 15 53,
 Mo 16 54] [2, 5, 7, 8, 10, 11, 13, 14, 15, 16])
 (.seq (.reg [Mo 56 15,
 Oo 57 (.call 59 [(.t 56), (.c (.int .u8 59))]),
 Mo 55 57,
 Oo 58 (.ext (.t 55) 0),
 Oo 59 (.ext (.t 55) 1),
 Oo 60 (.ext (.t 55) 2),
 Mo 17 58,
 Mo 18 59,
 Mo 19 60] [2, 5, 7, 8, 10, 11, 13, 14, 16, 17, 18, 19])
 (.seq (.reg [Mo 62 18,
 Oo 63 (.call 60 [(.t 62)]),
 Mo 61 63,
 Oo 64 (.ext (.t 61) 0),
 Oo 65 (.ext (.t 61) 1),
 Oo 66 (.ext (.t 61) 2),
 Mo 20 64,
 Mo 21 65,
 Mo 22 66] [2, 5, 7, 8, 10, 11, 13, 14, 16, 17, 19, 20, 21, 22])
 (.seq (.reg [Mo 68 21,
 Oo 69 (.call 59 [(.t 68), (.c (.int .u8 59))]),
 Mo 67 69,
 Oo 70 (.ext (.t 67) 0),
 Oo 71 (.ext (.t 67) 1),
 Oo 72 (.ext (.t 67) 2),
 Mo 23 70,
 Mo 24 71,
 Mo 25 72] [2, 5, 7, 8, 10, 11, 13, 14, 16, 17, 19, 20, 22, 23, 24, 25])
 (.seq (.reg [Mo 74 24,
 Oo 75 (.call 60 [(.t 74)]),
 Mo 73 75,
 Oo 76 (.ext (.t 73) 0),
 Oo 77 (.ext (.t 73) 1),
 Oo 78 (.ext (.t 73) 2),
 Mo 26 76,
 Mo 27 77,
 Mo 28 78] [2, 5, 7, 8, 10, 11, 13, 14, 16, 17, 19, 20, 22, 23, 25, 26, 27, 28])
 (.seq (.reg [Mo 80 26,
 Oo 81 (.call 61 [(.t 80)]),
 Mo 79 81,
 Oo 82 (.ext (.t 79) 0),
 Oo 83 (.ext (.t 79) 1),
 Mo 29 82,
 Mo 30 83] [2, 5, 7, 8, 10, 11, 13, 14, 16, 17, 19, 20, 22, 23, 25, 27, 28, 29, 30])
 (.seq (.seq (.reg [Mo 84 7,
 Oo 85 (.un .not (.t 84)),
 Mo 86 85,
 ⟨(some 87), some (86, false), .mv (.t 10), []⟩,
 ⟨(some 88), some (86, false), .un .not (.t 87), []⟩,
 Oo 89 (.pick (.t 86) (.c (.bool true)) (.t 88)),
 Mo 90 89,
 ⟨(some 91), some (90, false), .mv (.t 13), []⟩,
 ⟨(some 92), some (90, false), .un .not (.t 91), []⟩,
 Oo 93 (.pick (.t 90) (.c (.bool true)) (.t 92)),
 Mo 94 93,
 ⟨(some 95), some (94, false), .mv (.t 16), []⟩,
 ⟨(some 96), some (94, false), .un .not (.t 95), []⟩,
 Oo 97 (.pick (.t 94) (.c (.bool true)) (.t 96)),
 Mo 98 97,
 ⟨(some 99), some (98, false), .mv (.t 19), []⟩,
 ⟨(some 100), some (98, false), .un .not (.t 99), []⟩,
 Oo 101 (.pick (.t 98) (.c (.bool true)) (.t 100)),
 Mo 102 101,
 ⟨(some 103), some (102, false), .mv (.t 22), []⟩,
 ⟨(some 104), some (102, false), .un .not (.t 103), []⟩,
 Oo 105 (.pick (.t 102) (.c (.bool true)) (.t 104)),
 Mo 106 105,
 ⟨(some 107), some (106, false), .mv (.t 25), []⟩,
 ⟨(some 108), some (106, false), .un .not (.t 107), []⟩,
 Oo 109 (.pick (.t 106) (.c (.bool true)) (.t 108)),
 Mo 110 109,
 ⟨(some 111), some (110, false), .mv (.t 28), []⟩,
 ⟨(some 112), some (110, false), .un .not (.t 111), []⟩,
 Oo 113 (.pick (.t 110) (.c (.bool true)) (.t 112)),
 Mo 114 113,
 ⟨(some 115), some (114, false), .mv (.t 30), []⟩,
 ⟨(some 116), some (114, false), .bin .neq (.t 115) (.c (.int .i64 0)), []⟩,
 Oo 117 (.pick (.t 114) (.c (.bool true)) (.t 116))] [2, 5, 8, 11, 14, 17, 20, 23, 27, 29, 117])
 (.cond (.t 117) (.seq (.reg [Oo 118 (.agg [(.int .i64 0), (.str []), (.str []), (.int .i64 0), (.int .i64 0), (.str []), (.int .i64 0), (.sl 3 [] .nil)] []),
 ⟨none, none, .store 8 (.t 2) (.t 118), []⟩,
 Oo 3 (.mv (.c (.str []))),
 Oo 4 (.mv (.c (.bool false)))] [2, 3, 4])
 (.ret))
 (.skip)))
 (.seq (.reg [Mo 119 5,
 Mo 120 8,
 Mo 121 11,
 Mo 122 14,
 Mo 123 17,
 Mo 124 20,
 Mo 125 23,
 Mo 126 29,
 Oo 127 (.agg [(.int .i64 0), (.str []), (.str []), (.int .i64 0), (.int .i64 0), (.str []), (.int .i64 0), (.sl 3 [] .nil)] [(0, 1, (.t 119)), (1, 1, (.t 120)), (2, 1, (.t 121)), (3, 1, (.t 122)), (4, 1, (.t 123)), (5, 1, (.t 124)), (6, 1, (.t 125)), (7, 1, (.t 126))]),
 Mo 128 27,
 ⟨none, none, .store 8 (.t 2) (.t 127), []⟩,
 Mo 3 128,
 Oo 4 (.mv (.c (.bool true)))] [2, 3, 4])
 (.ret))))))))))))⟩
theorem c38 : cmpF Tryz.prog ⟨[(28, 2), (29, 2), (30, 3), (50, 2)], false, false⟩ Tryz.f38 K38 = some A38 := by kernel_rfl
/-- collator/collatorref10.SameEntry -/
def K39 : List (List Nat) := [[2, 3], [2, 3, 5], [4]]
def A39 : AFunc := ⟨2, [.t 4], .seq (.reg [Oo 2 (.box (.t 0)),
 Oo 3 (.box (.t 1)),
 Oo 4 (.mv (.c (.bool false)))] [2, 3])
 (.seq (.reg [Oo 6 (.faddr 7 (.t 2)),
 Oo 7 (.load false 1 (.t 6)),
 Oo 8 (.faddr 7 (.t 3)),
 Oo 9 (.load false 1 (.t 8)),
 Oo 10 (.call 62 [(.t 7), (.t 9)]),
 Mo 5 10] [2, 3, 5])
 (.seq (.reg [Mo 11 5,
 Mo 12 11,
 ⟨(some 13), some (12, true), .faddr 0 (.t 2), []⟩,
 ⟨(some 14), some (12, true), .load false 1 (.t 13), []⟩,
 ⟨(some 15), some (12, true), .faddr 0 (.t 3), []⟩,
 ⟨(some 16), some (12, true), .load false 1 (.t 15), []⟩,
 ⟨(some 17), some (12, true), .bin .eql (.t 14) (.t 16), []⟩,
 Oo 18 (.pick (.t 12) (.t 17) (.c (.bool false))),
 Mo 19 18,
 ⟨(some 20), some (19, true), .faddr 1 (.t 2), []⟩,
 ⟨(some 21), some (19, true), .load false 1 (.t 20), []⟩,
 ⟨(some 22), some (19, true), .faddr 1 (.t 3), []⟩,
 ⟨(some 23), some (19, true), .load false 1 (.t 22), []⟩,
 ⟨(some 24), some (19, true), .bin .eql (.t 21) (.t 23), []⟩,
 Oo 25 (.pick (.t 19) (.t 24) (.c (.bool false))),
 Mo 26 25,
 ⟨(some 27), some (26, true), .faddr 2 (.t 2), []⟩,
 ⟨(some 28), some (26, true), .load false 1 (.t 27), []⟩,
 ⟨(some 29), some (26, true), .faddr 2 (.t 3), []⟩,
 ⟨(some 30), some (26, true), .load false 1 (.t 29), []⟩,
 ⟨(some 31), some (26, true), .bin .eql (.t 28) (.t 30), []⟩,
 Oo 32 (.pick (.t 26) (.t 31) (.c (.bool false))),
 Mo 33 32,
 ⟨(some 34), some (33, true), .faddr 3 (.t 2), []⟩,
 ⟨(some 35), some (33, true), .load false 1 (.t 34), []⟩,
 ⟨(some 36), some (33, true), .faddr 3 (.t 3), []⟩,
 ⟨(some 37), some (33, true), .load false 1 (.t 36), []⟩,
 ⟨(some 38), some (33, true), .bin .eql (.t 35) (.t 37), []⟩,
 Oo 39 (.pick (.t 33) (.t 38) (.c (.bool false))),
 Mo 40 39,
 ⟨(some 41), some (40, true), .faddr 4 (.t 2), []⟩,
 ⟨(some 42), some (40, true), .load false 1 (.t 41), []⟩,
 ⟨(some 43), some (40, true), .faddr 4 (.t 3), []⟩,
 ⟨(some 44), some (40, true), .load false 1 (.t 43), []⟩,
 ⟨(some 45), some (40, true), .bin .eql (.t 42) (.t 44), []⟩,
 Oo 46 (.pick (.t 40) (.t 45) (.c (.bool false))),
 Mo 47 46,
 ⟨(some 48), some (47, true), .faddr 5 (.t 2), []⟩,
 ⟨(some 49), some (47, true), .load false 1 (.t 48), []⟩,
 ⟨(some 50), some (47, true), .faddr 5 (.t 3), []⟩,
 ⟨(some 51), some (47, true), .load false 1 (.t 50), []⟩,
 ⟨(some 52), some (47, true), .bin .eql (.t 49) (.t 51), []⟩,
 Oo 53 (.pick (.t 47) (.t 52) (.c (.bool false))),
 Mo 54 53,
 ⟨(some 55), some (54, true), .faddr 6 (.t 2), []⟩,
 ⟨(some 56), some (54, true), .load false 1 (.t 55), []⟩,
 ⟨(some 57), some (54, true), .faddr 6 (.t 3), []⟩,
 ⟨(some 58), some (54, true), .load false 1 (.t 57), []⟩,
 ⟨(some 59), some (54, true), .bin .eql (.t 56) (.t 58), []⟩,
 Oo 60 (.pick (.t 54) (.t 59) (.c (.bool false))),
 Mo 4 60] [4])
 (.ret)))⟩
theorem c39 : cmpF Tryz.prog ⟨[(28, 2), (29, 2), (30, 3), (50, 2)], false, false⟩ Tryz.f39 K39 = some A39 := by kernel_rfl
/-- collator/collatorlaw02.Tree -/
def K40 : List (List Nat) := [[0], [0, 3], [0, 3, 4], [0, 3, 4, 19], [0, 3, 4, 5], [0, 3, 4, 5], [0, 3, 4, 5, 6], [0, 3, 4, 5, 6, 7], [0, 3, 4, 5, 6, 7, 8], [0, 3, 4, 5, 6, 7, 8, 9], [0, 3, 4, 5, 6, 7, 8, 9, 37], [0, 3, 4, 5, 6, 7, 8, 9], [0, 3, 4, 5, 6, 7, 8, 9, 11], [0, 3, 4, 5, 6, 7, 8, 9, 53], [0, 3, 4, 5, 6, 7, 8, 9], [0, 3, 4, 5, 6, 7, 8, 9], [0, 3, 4, 7], [0, 3, 4, 7, 67], [0, 3, 4], [0, 3, 4], [2]]
def L40x0 : ACode := .seq (.seq (.reg [Mo 33 9,
 Oo 34 (.bin .add (.t 33) (.c (.int .i64 1))),
 Mo 35 6,
 Oo 36 (.len false (.t 35)),
 Oo 37 (.bin .lss (.t 34) (.t 36))] [0, 3, 4, 5, 6, 7, 8, 9, 37])
 (.cond (.t 37) (.skip)
 (.exit 2)))
 (.seq (.blk 3 (.seq (.reg [Mo 40 8,
 Mo 41 6,
 Mo 42 9,
 Oo 43 (.iaddr 1 (.t 41) (.t 42)),
 Oo 44 (.load false 1 (.t 43)),
 Oo 45 (.call 65 [(.t 40), (.t 44)]),
 Mo 8 45] [0, 3, 4, 5, 6, 7, 8, 9])
 (.seq (.reg [Mo 47 7,
 Mo 48 8,
 Oo 49 (.call 66 [(.t 47), (.t 48)]),
 Mo 46 49,
 Oo 50 (.ext (.t 46) 0),
 Oo 51 (.ext (.t 46) 1),
 Oo 10 (.alloc [(.str []), (.int .i64 0), (.str []), (.bool false)]),
 ⟨none, none, .store 4 (.t 10) (.t 50), []⟩,
 Mo 11 51] [0, 3, 4, 5, 6, 7, 8, 9, 11])
 (.seq (.reg [Mo 52 11,
 Oo 53 (.un .not (.t 52))] [0, 3, 4, 5, 6, 7, 8, 9, 53])
 (.cond (.t 53) (.reg [Mo 54 7,
 Mo 55 8,
 Oo 56 (.agg [(.str []), (.int .i64 0), (.str []), (.bool false)] [(0, 1, (.t 55)), (1, 1, (.c (.int .i64 1)))]),
 Oo 57 (.mks 1 4 true [(.str []), (.int .i64 0), (.str []), (.bool false)] [(0, (.t 56))]),
 Oo 58 (.app none 4 48 (.t 54) (.t 57)),
 Mo 7 58] [0, 3, 4, 5, 6, 7, 8, 9])
 (.skip))))))
 (.reg [Mo 38 9,
 Oo 39 (.bin .add (.t 38) (.c (.int .i64 1))),
 Mo 9 39] [0, 3, 4, 5, 6, 7, 8, 9]))
def L40x1 : ACode := .seq (.seq (.reg [Mo 12 4,
 Mo 13 0,
 Oo 14 (.len false (.t 13)),
 Oo 15 (.bin .lss (.t 12) (.t 14)),
 Mo 16 15,
 ⟨(some 17), some (16, true), .mv (.t 4), []⟩,
 ⟨(some 18), some (16, true), .bin .lss (.t 17) (.c (.int .i64 14)), []⟩,
 Oo 19 (.pick (.t 16) (.t 18) (.c (.bool false)))] [0, 3, 4, 19])
 (.cond (.t 19) (.skip)
 (.exit 0)))
 (.seq (.blk 1 (.seq (.reg [Mo 22 0,
 Mo 23 4,
 Oo 24 (.iaddr 4 (.t 22) (.t 23)),
 Oo 25 (.load true 4 (.t 24)),
 Oo 26 (.call 63 [(.t 25)]),
 Oo 5 (.alloc [(.str []), (.int .i64 0), (.str []), (.bool false)]),
 ⟨none, none, .store 4 (.t 5) (.t 26), []⟩] [0, 3, 4, 5])
 (.seq (.reg [Oo 27 (.faddr 3 (.t 5)),
 ⟨none, none, .store 1 (.t 27) (.c (.bool false)), []⟩] [0, 3, 4, 5])
 (.seq (.reg [Oo 28 (.faddr 0 (.t 5)),
 Oo 29 (.load false 1 (.t 28)),
 Oo 30 (.call 64 [(.t 29)]),
 Mo 6 30] [0, 3, 4, 5, 6])
 (.seq (.reg [Mo 31 3,
 Oo 32 (.app none 4 48 (.c (.sl 4 [] .nil)) (.t 31)),
 Mo 7 32] [0, 3, 4, 5, 6, 7])
 (.seq (.reg [Oo 8 (.mv (.c (.str [])))] [0, 3, 4, 5, 6, 7, 8])
 (.seq (.seq (.reg [Oo 9 (.mv (.c (.int .i64 0)))] [0, 3, 4, 5, 6, 7, 8, 9])
 (.blk 2 (.loop L40x0)))
 (.seq (.reg [Mo 59 7,
 Oo 60 (.load true 4 (.t 5)),
 Oo 61 (.mks 1 4 true [(.str []), (.int .i64 0), (.str []), (.bool false)] [(0, (.t 60))]),
 Oo 62 (.app none 4 48 (.t 59) (.t 61)),
 Mo 7 62] [0, 3, 4, 7])
 (.seq (.reg [Mo 63 7,
 Oo 64 (.call 22 []),
 Oo 65 (.call 67 [(.t 63), (.t 64)]),
 Oo 66 (.fld false 1 1 (.t 65)),
 Oo 67 (.bin .eql (.t 66) (.c (.int .i64 0)))] [0, 3, 4, 7, 67])
 (.cond (.t 67) (.reg [Mo 68 7,
 Mo 3 68] [0, 3, 4])
 (.skip)))))))))))
 (.reg [Mo 20 4,
 Oo 21 (.bin .add (.t 20) (.c (.int .i64 1))),
 Mo 4 21] [0, 3, 4]))
def A40 : AFunc := ⟨1, [.t 2], .seq (.reg [Oo 2 (.mv (.c (.sl 4 [] .nil)))] [0])
 (.seq (.reg [Oo 3 (.mv (.c (.sl 4 [] .nil)))] [0, 3])
 (.seq (.seq (.reg [Oo 4 (.mv (.c (.int .i64 0)))] [0, 3, 4])
 (.blk 0 (.loop L40x1)))
 (.seq (.reg [Mo 69 3,
 Mo 2 69] [2])
 (.ret))))⟩
theorem c40 : cmpF Tryz.prog ⟨[(28, 2), (29, 2), (30, 3), (50, 2)], false, false⟩ Tryz.f40 K40 = some A40 := by kernel_rfl
/-- collator/collatorlaw10.pick -/
def K41 : List (List Nat) := [[0, 1], [0, 1, 6], [0, 1], [4]]
def A41 : AFunc := ⟨2, [.t 4], .seq (.reg [Oo 4 (.mv (.c (.int .i64 0)))] [0, 1])
 (.seq (.seq (.reg [Mo 5 0,
 Oo 6 (.bin .lss (.t 5) (.c (.int .i64 0)))] [0, 1, 6])
 (.cond (.t 6) (.reg [Mo 7 0,
 Oo 8 (.bin .add (.t 7) (.c (.int .i64 1))),
 Oo 9 (.un .neg (.t 8)),
 Mo 0 9] [0, 1])
 (.skip)))
 (.seq (.reg [Mo 10 0,
 Mo 11 1,
 Oo 12 (.bin .rem (.t 10) (.t 11)),
 Mo 4 12] [4])
 (.ret)))⟩
theorem c41 : cmpF Tryz.prog ⟨[(28, 2), (29, 2), (30, 3), (50, 2)], false, false⟩ Tryz.f41 K41 = some A41 := by kernel_rfl
/-- collator/collatorref10.Fault -/
def K42 : List (List Nat) := [[0, 1, 5, 6], [1, 5, 6, 7], [6, 7, 8], [6, 7, 8, 17], [6], [6, 7, 8, 29], [6], [6]]
def A42 : AFunc := ⟨3, [.c 6 true 2], .seq (.reg [Oo 5 (.box (.t 2)),
 Oo 6 (.alloc [(.str []), (.int .i64 0)])] [0, 1, 5, 6])
 (.seq (.reg [Mo 9 0,
 Oo 10 (.load true 3 (.t 5)),
 Oo 11 (.call 67 [(.t 9), (.t 10)]),
 Oo 7 (.alloc [(.str []), (.int .i64 0)]),
 ⟨none, none, .store 2 (.t 7) (.t 11), []⟩] [1, 5, 6, 7])
 (.seq (.reg [Mo 12 1,
 Oo 13 (.load true 3 (.t 5)),
 Oo 14 (.call 67 [(.t 12), (.t 13)]),
 Oo 8 (.alloc [(.str []), (.int .i64 0)]),
 ⟨none, none, .store 2 (.t 8) (.t 14), []⟩] [6, 7, 8])
 (.seq (.seq (.reg [Oo 15 (.faddr 1 (.t 7)),
 Oo 16 (.load false 1 (.t 15)),
 Oo 17 (.bin .eql (.t 16) (.c (.int .i64 0)))] [6, 7, 8, 17])
 (.cond (.t 17) (.seq (.reg [Oo 18 (.load true 2 (.t 8)),
 ⟨none, none, .store 2 (.t 6) (.t 18), []⟩] [6])
 (.ret))
 (.skip)))
 (.seq (.seq (.reg [Oo 19 (.faddr 1 (.t 8)),
 Oo 20 (.load false 1 (.t 19)),
 Oo 21 (.bin .eql (.t 20) (.c (.int .i64 0))),
 Mo 22 21,
 ⟨(some 23), some (22, false), .faddr 0 (.t 7), []⟩,
 ⟨(some 24), some (22, false), .load false 1 (.t 23), []⟩,
 ⟨(some 25), some (22, false), .faddr 0 (.t 8), []⟩,
 ⟨(some 26), some (22, false), .load false 1 (.t 25), []⟩,
 ⟨(some 27), some (22, false), .call 53 [(.t 24), (.t 26)], []⟩,
 ⟨(some 28), some (22, false), .bin .leq (.t 27) (.c (.int .i64 0)), []⟩,
 Oo 29 (.pick (.t 22) (.c (.bool true)) (.t 28))] [6, 7, 8, 29])
 (.cond (.t 29) (.seq (.reg [Oo 30 (.load true 2 (.t 7)),
 ⟨none, none, .store 2 (.t 6) (.t 30), []⟩] [6])
 (.ret))
 (.skip)))
 (.seq (.reg [Oo 31 (.load true 2 (.t 8)),
 ⟨none, none, .store 2 (.t 6) (.t 31), []⟩] [6])
 (.ret))))))⟩
theorem c42 : cmpF Tryz.prog ⟨[(28, 2), (29, 2), (30, 3), (50, 2)], false, false⟩ Tryz.f42 K42 = some A42 := by kernel_rfl
/-- collator/collatorref08.Pairs -/
def K43 : List (List Nat) := [[0, 1, 2], [7], [7, 8], [7, 8, 9], [7, 8, 9, 10], [7, 8, 9, 10, 19], [7, 8, 9, 10, 11], [7, 8, 9, 10, 44], [7, 8, 9, 10], [7, 8, 9, 10], [7, 8, 9, 47], [6], [7, 8]]
def L43x0 : ACode := .seq (.seq (.reg [Mo 16 10,
 Mo 17 7,
 Oo 18 (.len false (.t 17)),
 Oo 19 (.bin .lss (.t 16) (.t 18))] [7, 8, 9, 10, 19])
 (.cond (.t 19) (.skip)
 (.exit 2)))
 (.seq (.blk 3 (.seq (.reg [Mo 22 8,
 Mo 23 7,
 Mo 24 10,
 Oo 25 (.iaddr 3 (.t 23) (.t 24)),
 Oo 26 (.load true 3 (.t 25)),
 Oo 27 (.call 69 [(.t 22), (.t 26)]),
 Mo 11 27] [7, 8, 9, 10, 11])
 (.seq (.regD [Mo 28 11,
 Oo 29 (.un .not (.t 28)),
 Mo 30 29,
 ⟨(some 31), some (30, true), .mv (.t 9), []⟩,
 ⟨(some 32), some (30, true), .bin .lss (.t 31) (.c (.int .i64 0)), []⟩,
 ⟨(some 33), some (30, true), .mv (.t 32), []⟩,
 ⟨(some 34), some (33, false), .mv (.t 7), []⟩,
 ⟨(some 35), some (33, false), .mv (.t 10), []⟩,
 ⟨(some 36), some (33, false), .iaddr 3 (.t 34) (.t 35), []⟩,
 ⟨(some 37), some (33, false), .load true 3 (.t 36), []⟩,
 ⟨(some 38), some (33, false), .mv (.t 7), []⟩,
 ⟨(some 39), some (33, false), .mv (.t 9), []⟩,
 ⟨(some 40), some (33, false), .iaddr 3 (.t 38) (.t 39), []⟩,
 ⟨(some 41), some (33, false), .load true 3 (.t 40), []⟩,
 ⟨(some 42), some (33, false), .call 70 [(.t 37), (.t 41)], [9, 13]⟩,
 ⟨(some 43), some (30, true), .pick (.t 33) (.c (.bool true)) (.t 42), [14]⟩,
 ⟨(some 44), none, .pick (.t 30) (.t 43) (.c (.bool false)), [14]⟩] [7, 8, 9, 10, 44])
 (.cond (.t 44) (.reg [Mo 45 10,
 Mo 9 45] [7, 8, 9, 10])
 (.skip)))))
 (.reg [Mo 20 10,
 Oo 21 (.bin .add (.t 20) (.c (.int .i64 1))),
 Mo 10 21] [7, 8, 9, 10]))
def L43x1 : ACode := .blk 1 (.seq (.reg [Oo 9 (.mv (.c (.int .i64 (-1))))] [7, 8, 9])
 (.seq (.seq (.reg [Oo 10 (.mv (.c (.int .i64 0)))] [7, 8, 9, 10])
 (.blk 2 (.loop L43x0)))
 (.seq (.seq (.reg [Mo 46 9,
 Oo 47 (.bin .lss (.t 46) (.c (.int .i64 0)))] [7, 8, 9, 47])
 (.cond (.t 47) (.seq (.reg [Mo 48 8,
 Oo 49 (.call 71 [(.t 48)]),
 Mo 6 49] [6])
 (.ret))
 (.skip)))
 (.reg [Mo 50 8,
 Mo 51 7,
 Mo 52 9,
 Oo 53 (.iaddr 3 (.t 51) (.t 52)),
 Oo 54 (.load true 3 (.t 53)),
 Oo 55 (.mks 1 3 true [(.str []), (.str []), (.int .i64 0)] [(0, (.t 54))]),
 Oo 56 (.app none 3 40 (.t 50) (.t 55)),
 Mo 8 56] [7, 8]))))
def A43 : AFunc := ⟨3, [.t 6], .seq (.reg [Oo 6 (.mv (.c (.sl 3 [] .nil)))] [0, 1, 2])
 (.seq (.reg [Mo 12 0,
 Mo 13 1,
 Mo 14 2,
 Oo 15 (.call 68 [(.t 12), (.t 13), (.t 14)]),
 Mo 7 15] [7])
 (.seq (.reg [Oo 8 (.mv (.c (.sl 3 [] .nil)))] [7, 8])
 (.blk 0 (.loop L43x1))))⟩
theorem c43 : cmpF Tryz.prog ⟨[(28, 2), (29, 2), (30, 3), (50, 2)], false, false⟩ Tryz.f43 K43 = some A43 := by kernel_rfl
/-- collator/collatorref10.alone -/
def K44 : List (List Nat) := [[0, 1], [0, 1, 5], [0, 1, 5, 6], [0, 1, 5, 6, 12], [0, 1, 5, 6, 8], [0, 1, 5, 6, 26], [0, 1, 5, 6], [0, 1, 5, 6], [4]]
def L44x0 : ACode := .seq (.seq (.reg [Mo 9 6,
 Mo 10 0,
 Oo 11 (.len false (.t 10)),
 Oo 12 (.bin .lss (.t 9) (.t 11))] [0, 1, 5, 6, 12])
 (.cond (.t 12) (.skip)
 (.exit 0)))
 (.seq (.blk 1 (.seq (.reg [Mo 16 1,
 Mo 17 0,
 Mo 18 6,
 Oo 19 (.iaddr 4 (.t 17) (.t 18)),
 Oo 20 (.faddr 0 (.t 19)),
 Oo 21 (.load false 1 (.t 20)),
 Oo 22 (.call 66 [(.t 16), (.t 21)]),
 Mo 15 22,
 Oo 23 (.ext (.t 15) 0),
 Oo 24 (.ext (.t 15) 1),
 Oo 7 (.alloc [(.str []), (.int .i64 0), (.str []), (.bool false)]),
 ⟨none, none, .store 4 (.t 7) (.t 23), []⟩,
 Mo 8 24] [0, 1, 5, 6, 8])
 (.seq (.reg [Mo 25 8,
 Oo 26 (.un .not (.t 25))] [0, 1, 5, 6, 26])
 (.cond (.t 26) (.reg [Mo 27 5,
 Mo 28 0,
 Mo 29 6,
 Oo 30 (.iaddr 4 (.t 28) (.t 29)),
 Oo 31 (.load true 4 (.t 30)),
 Oo 32 (.mks 1 4 true [(.str []), (.int .i64 0), (.str []), (.bool false)] [(0, (.t 31))]),
 Oo 33 (.app none 4 48 (.t 27) (.t 32)),
 Mo 5 33] [0, 1, 5, 6])
 (.skip)))))
 (.reg [Mo 13 6,
 Oo 14 (.bin .add (.t 13) (.c (.int .i64 1))),
 Mo 6 14] [0, 1, 5, 6]))
def A44 : AFunc := ⟨2, [.t 4], .seq (.reg [Oo 4 (.mv (.c (.sl 4 [] .nil)))] [0, 1])
 (.seq (.reg [Oo 5 (.mv (.c (.sl 4 [] .nil)))] [0, 1, 5])
 (.seq (.seq (.reg [Oo 6 (.mv (.c (.int .i64 0)))] [0, 1, 5, 6])
 (.blk 0 (.loop L44x0)))
 (.seq (.reg [Mo 34 5,
 Mo 4 34] [4])
 (.ret))))⟩
theorem c44 : cmpF Tryz.prog ⟨[(28, 2), (29, 2), (30, 3), (50, 2)], false, false⟩ Tryz.f44 K44 = some A44 := by kernel_rfl
/-- collator/collatorref02.Sort -/
def K45 : List (List Nat) := [[0], [0, 3], [0, 3, 4], [0, 3, 4, 9], [0, 3, 4, 5], [0, 3, 4, 5, 30], [0, 3, 4, 5], [0, 3, 4], [0, 3, 4], [2]]
def L45x0 : ACode := .seq (.seq (.regD [Mo 14 5,
 Oo 15 (.bin .gtr (.t 14) (.c (.int .i64 0))),
 Mo 16 15,
 ⟨(some 17), some (16, true), .mv (.t 0), []⟩,
 ⟨(some 18), some (16, true), .mv (.t 4), []⟩,
 ⟨(some 19), some (16, true), .iaddr 4 (.t 17) (.t 18), []⟩,
 ⟨(some 20), some (16, true), .faddr 0 (.t 19), []⟩,
 ⟨(some 21), some (16, true), .load false 1 (.t 20), []⟩,
 ⟨(some 22), some (16, true), .mv (.t 3), []⟩,
 ⟨(some 23), some (16, true), .mv (.t 5), []⟩,
 ⟨(some 24), some (16, true), .bin .sub (.t 23) (.c (.int .i64 1)), []⟩,
 ⟨(some 25), some (16, true), .iaddr 4 (.t 22) (.t 24), []⟩,
 ⟨(some 26), some (16, true), .faddr 0 (.t 25), []⟩,
 ⟨(some 27), some (16, true), .load false 1 (.t 26), []⟩,
 ⟨(some 28), some (16, true), .call 53 [(.t 21), (.t 27)], [7, 13]⟩,
 ⟨(some 29), some (16, true), .bin .lss (.t 28) (.c (.int .i64 0)), [14]⟩,
 ⟨(some 30), none, .pick (.t 16) (.t 29) (.c (.bool false)), [14]⟩] [0, 3, 4, 5, 30])
 (.cond (.t 30) (.skip)
 (.exit 2)))
 (.blk 3 (.reg [Mo 31 5,
 Oo 32 (.bin .sub (.t 31) (.c (.int .i64 1))),
 Mo 5 32] [0, 3, 4, 5]))
def L45x1 : ACode := .seq (.seq (.reg [Mo 6 4,
 Mo 7 0,
 Oo 8 (.len false (.t 7)),
 Oo 9 (.bin .lss (.t 6) (.t 8))] [0, 3, 4, 9])
 (.cond (.t 9) (.skip)
 (.exit 0)))
 (.seq (.blk 1 (.seq (.reg [Mo 12 3,
 Oo 13 (.len false (.t 12)),
 Mo 5 13] [0, 3, 4, 5])
 (.seq (.blk 2 (.loop L45x0))
 (.regD [Mo 33 3,
 Mo 34 5,
 Oo 35 (.slice (some 4) (.t 33) none (some (.t 34)) none),
 Oo 36 (.app none 4 48 (.c (.sl 4 [] .nil)) (.t 35)),
 Mo 37 0,
 Mo 38 4,
 Oo 39 (.iaddr 4 (.t 37) (.t 38)),
 Oo 40 (.load true 4 (.t 39)),
 Oo 41 (.mks 1 4 true [(.str []), (.int .i64 0), (.str []), (.bool false)] [(0, (.t 40))]),
 ⟨(some 42), none, .app none 4 48 (.t 36) (.t 41), [3, 7]⟩,
 Mo 43 3,
 Mo 44 5,
 Oo 45 (.slice (some 4) (.t 43) (some (.t 44)) none none),
 ⟨(some 46), none, .app none 4 48 (.t 42) (.t 45), [9, 3, 7]⟩,
 Mo 3 46] [0, 3, 4]))))
 (.reg [Mo 10 4,
 Oo 11 (.bin .add (.t 10) (.c (.int .i64 1))),
 Mo 4 11] [0, 3, 4]))
def A45 : AFunc := ⟨1, [.t 2], .seq (.reg [Oo 2 (.mv (.c (.sl 4 [] .nil)))] [0])
 (.seq (.reg [Oo 3 (.mv (.c (.sl 4 [] .nil)))] [0, 3])
 (.seq (.seq (.reg [Oo 4 (.mv (.c (.int .i64 0)))] [0, 3, 4])
 (.blk 0 (.loop L45x1)))
 (.seq (.reg [Mo 47 3,
 Mo 2 47] [2])
 (.ret))))⟩
theorem c45 : cmpF Tryz.prog ⟨[(28, 2), (29, 2), (30, 3), (50, 2)], false, false⟩ Tryz.f45 K45 = some A45 := by kernel_rfl
end Go.Proofs.YtdjgdipmjbkilaaGreatDoor.Rx
