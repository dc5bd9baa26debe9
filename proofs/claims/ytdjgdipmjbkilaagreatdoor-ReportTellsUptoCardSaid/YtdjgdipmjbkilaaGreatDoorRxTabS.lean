/-
 Rx: the plain program (written by gen/tab.py): its functions, and that each is what the program's own is told as.
-/
import Derived.Test.YtdjgdipmjbkilaaGreatDoorRxK
import Derived.Test.YtdjgdipmjbkilaaGreatDoorProg
import Derived.KernelRfl
namespace Go.Proofs.YtdjgdipmjbkilaaGreatDoor.Rx
open Go
/-- collator/collatorref10.row -/
def K46 : List (List Nat) := [[0, 1, 2, 3, 8], [0, 1, 2, 3, 8, 10, 11], [0, 2, 3, 8, 10, 11, 12, 13], [0, 2, 3, 8, 10, 11, 12, 13, 14], [0, 2, 3, 8, 10, 11, 12, 13, 14, 32], [0, 2, 3, 8, 10, 11, 12, 13, 14, 41], [2, 3, 8, 12, 14, 15], [8, 9], [0, 2, 3, 8, 10, 11, 12, 13, 14, 73], [8, 9], [0, 2, 3, 8, 10, 11, 12, 13, 14], [3, 8, 10, 12, 13, 76], [8, 9], [3, 8, 10, 12, 84], [8, 9], [3, 8, 10, 12, 105], [8, 9], [3, 8, 10, 12, 123], [8, 9], [8, 9]]
def L46x0 : ACode := .seq (.seq (.reg [Mo 29 14,
 Mo 30 2,
 Oo 31 (.len false (.t 30)),
 Oo 32 (.bin .lss (.t 29) (.t 31))] [0, 2, 3, 8, 10, 11, 12, 13, 14, 32])
 (.cond (.t 32) (.skip)
 (.exit 0)))
 (.seq (.blk 1 (.seq (.seq (.reg [Mo 35 2,
 Mo 36 14,
 Oo 37 (.iaddr 3 (.t 35) (.t 36)),
 Oo 38 (.faddr 1 (.t 37)),
 Oo 39 (.load false 1 (.t 38)),
 Mo 40 3,
 Oo 41 (.bin .eql (.t 39) (.t 40))] [0, 2, 3, 8, 10, 11, 12, 13, 14, 41])
 (.cond (.t 41) (.seq (.reg [Mo 43 0,
 Mo 44 2,
 Mo 45 14,
 Oo 46 (.iaddr 3 (.t 44) (.t 45)),
 Oo 47 (.faddr 0 (.t 46)),
 Oo 48 (.load false 1 (.t 47)),
 Oo 49 (.call 66 [(.t 43), (.t 48)]),
 Mo 42 49,
 Oo 50 (.ext (.t 42) 0),
 Oo 51 (.ext (.t 42) 1),
 Oo 15 (.alloc [(.str []), (.int .i64 0), (.str []), (.bool false)]),
 ⟨none, none, .store 4 (.t 15) (.t 50), []⟩,
 Mo 16 51] [2, 3, 8, 12, 14, 15])
 (.seq (.regD [Mo 52 3,
 Mo 53 2,
 Mo 54 14,
 Oo 55 (.iaddr 3 (.t 53) (.t 54)),
 Oo 56 (.faddr 0 (.t 55)),
 Oo 57 (.load false 1 (.t 56)),
 Mo 58 2,
 Mo 59 14,
 Oo 60 (.iaddr 3 (.t 58) (.t 59)),
 Oo 61 (.faddr 2 (.t 60)),
 Oo 62 (.load false 1 (.t 61)),
 Oo 63 (.load true 4 (.t 15)),
 Oo 64 (.load true 4 (.t 12)),
 ⟨(some 65), none, .call 72 [(.t 63), (.t 64)], [11, 12]⟩,
 ⟨(some 66), none, .agg [(.int .i64 0), (.str []), (.str []), (.int .i64 0), (.int .i64 0), (.str []), (.int .i64 0), (.sl 3 [] .nil)] [(0, 1, (.c (.int .i64 5))), (1, 1, (.t 52)), (2, 1, (.t 57)), (3, 1, (.c (.int .i64 2))), (4, 1, (.c (.int .i64 2))), (6, 1, (.t 62)), (7, 1, (.t 65))], [13]⟩,
 ⟨none, none, .store 8 (.t 8) (.t 66), [13, 5, 10, 11, 12]⟩,
 ⟨(some 9), none, .mv (.c (.bool true)), [13]⟩] [8, 9])
 (.ret)))
 (.skip)))
 (.seq (.reg [Mo 67 2,
 Mo 68 14,
 Oo 69 (.iaddr 3 (.t 67) (.t 68)),
 Oo 70 (.faddr 0 (.t 69)),
 Oo 71 (.load false 1 (.t 70)),
 Mo 72 3,
 Oo 73 (.bin .eql (.t 71) (.t 72))] [0, 2, 3, 8, 10, 11, 12, 13, 14, 73])
 (.cond (.t 73) (.seq (.reg [Oo 74 (.agg [(.int .i64 0), (.str []), (.str []), (.int .i64 0), (.int .i64 0), (.str []), (.int .i64 0), (.sl 3 [] .nil)] []),
 ⟨none, none, .store 8 (.t 8) (.t 74), []⟩,
 Oo 9 (.mv (.c (.bool false)))] [8, 9])
 (.ret))
 (.skip)))))
 (.reg [Mo 33 14,
 Oo 34 (.bin .add (.t 33) (.c (.int .i64 1))),
 Mo 14 34] [0, 2, 3, 8, 10, 11, 12, 13, 14]))
def A46 : AFunc := ⟨4, [.c 8 true 8, .t 9], .seq (.reg [Oo 8 (.alloc [(.int .i64 0), (.str []), (.str []), (.int .i64 0), (.int .i64 0), (.str []), (.int .i64 0), (.sl 3 [] .nil)]),
 Oo 9 (.mv (.c (.bool false)))] [0, 1, 2, 3, 8])
 (.seq (.reg [Mo 18 0,
 Mo 19 3,
 Oo 20 (.call 66 [(.t 18), (.t 19)]),
 Mo 17 20,
 Oo 21 (.ext (.t 17) 0),
 Oo 22 (.ext (.t 17) 1),
 Oo 10 (.alloc [(.str []), (.int .i64 0), (.str []), (.bool false)]),
 ⟨none, none, .store 4 (.t 10) (.t 21), []⟩,
 Mo 11 22] [0, 1, 2, 3, 8, 10, 11])
 (.seq (.reg [Mo 24 1,
 Mo 25 3,
 Oo 26 (.call 66 [(.t 24), (.t 25)]),
 Mo 23 26,
 Oo 27 (.ext (.t 23) 0),
 Oo 28 (.ext (.t 23) 1),
 Oo 12 (.alloc [(.str []), (.int .i64 0), (.str []), (.bool false)]),
 ⟨none, none, .store 4 (.t 12) (.t 27), []⟩,
 Mo 13 28] [0, 2, 3, 8, 10, 11, 12, 13])
 (.seq (.seq (.reg [Oo 14 (.mv (.c (.int .i64 0)))] [0, 2, 3, 8, 10, 11, 12, 13, 14])
 (.blk 0 (.loop L46x0)))
 (.seq (.seq (.reg [Mo 75 11,
 Oo 76 (.un .not (.t 75))] [3, 8, 10, 12, 13, 76])
 (.cond (.t 76) (.seq (.reg [Mo 77 3,
 Oo 78 (.faddr 1 (.t 12)),
 Oo 79 (.load false 1 (.t 78)),
 Oo 80 (.faddr 2 (.t 12)),
 Oo 81 (.load false 1 (.t 80)),
 Oo 82 (.agg [(.int .i64 0), (.str []), (.str []), (.int .i64 0), (.int .i64 0), (.str []), (.int .i64 0), (.sl 3 [] .nil)] [(0, 1, (.c (.int .i64 1))), (1, 1, (.t 77)), (4, 1, (.t 79)), (5, 1, (.t 81))]),
 ⟨none, none, .store 8 (.t 8) (.t 82), []⟩,
 Oo 9 (.mv (.c (.bool true)))] [8, 9])
 (.ret))
 (.skip)))
 (.seq (.seq (.reg [Mo 83 13,
 Oo 84 (.un .not (.t 83))] [3, 8, 10, 12, 84])
 (.cond (.t 84) (.seq (.reg [Mo 85 3,
 Oo 86 (.faddr 1 (.t 10)),
 Oo 87 (.load false 1 (.t 86)),
 Oo 88 (.agg [(.int .i64 0), (.str []), (.str []), (.int .i64 0), (.int .i64 0), (.str []), (.int .i64 0), (.sl 3 [] .nil)] [(0, 1, (.c (.int .i64 2))), (1, 1, (.t 85)), (3, 1, (.t 87))]),
 ⟨none, none, .store 8 (.t 8) (.t 88), []⟩,
 Oo 9 (.mv (.c (.bool true)))] [8, 9])
 (.ret))
 (.skip)))
 (.seq (.seq (.reg [Oo 89 (.faddr 1 (.t 10)),
 Oo 90 (.load false 1 (.t 89)),
 Oo 91 (.faddr 1 (.t 12)),
 Oo 92 (.load false 1 (.t 91)),
 Oo 93 (.bin .neq (.t 90) (.t 92)),
 Mo 94 93,
 ⟨(some 95), some (94, false), .faddr 1 (.t 12), []⟩,
 ⟨(some 96), some (94, false), .load false 1 (.t 95), []⟩,
 ⟨(some 97), some (94, false), .bin .eql (.t 96) (.c (.int .i64 3)), []⟩,
 ⟨(some 98), some (94, false), .mv (.t 97), []⟩,
 ⟨(some 99), some (98, true), .faddr 2 (.t 10), []⟩,
 ⟨(some 100), some (98, true), .load false 1 (.t 99), []⟩,
 ⟨(some 101), some (98, true), .faddr 2 (.t 12), []⟩,
 ⟨(some 102), some (98, true), .load false 1 (.t 101), []⟩,
 ⟨(some 103), some (98, true), .bin .neq (.t 100) (.t 102), []⟩,
 ⟨(some 104), some (94, false), .pick (.t 98) (.t 103) (.c (.bool false)), []⟩,
 Oo 105 (.pick (.t 94) (.c (.bool true)) (.t 104))] [3, 8, 10, 12, 105])
 (.cond (.t 105) (.seq (.reg [Mo 106 3,
 Oo 107 (.faddr 1 (.t 10)),
 Oo 108 (.load false 1 (.t 107)),
 Oo 109 (.faddr 1 (.t 12)),
 Oo 110 (.load false 1 (.t 109)),
 Oo 111 (.faddr 2 (.t 12)),
 Oo 112 (.load false 1 (.t 111)),
 Oo 113 (.agg [(.int .i64 0), (.str []), (.str []), (.int .i64 0), (.int .i64 0), (.str []), (.int .i64 0), (.sl 3 [] .nil)] [(0, 1, (.c (.int .i64 4))), (1, 1, (.t 106)), (3, 1, (.t 108)), (4, 1, (.t 110)), (5, 1, (.t 112))]),
 ⟨none, none, .store 8 (.t 8) (.t 113), []⟩,
 Oo 9 (.mv (.c (.bool true)))] [8, 9])
 (.ret))
 (.skip)))
 (.seq (.seq (.reg [Oo 114 (.faddr 1 (.t 12)),
 Oo 115 (.load false 1 (.t 114)),
 Oo 116 (.bin .eql (.t 115) (.c (.int .i64 2))),
 Mo 117 116,
 ⟨(some 118), some (117, true), .faddr 2 (.t 10), []⟩,
 ⟨(some 119), some (117, true), .load false 1 (.t 118), []⟩,
 ⟨(some 120), some (117, true), .faddr 2 (.t 12), []⟩,
 ⟨(some 121), some (117, true), .load false 1 (.t 120), []⟩,
 ⟨(some 122), some (117, true), .bin .neq (.t 119) (.t 121), []⟩,
 Oo 123 (.pick (.t 117) (.t 122) (.c (.bool false)))] [3, 8, 10, 12, 123])
 (.cond (.t 123) (.seq (.regD [Mo 124 3,
 Oo 125 (.faddr 1 (.t 10)),
 Oo 126 (.load false 1 (.t 125)),
 Oo 127 (.faddr 1 (.t 12)),
 Oo 128 (.load false 1 (.t 127)),
 Oo 129 (.load true 4 (.t 10)),
 Oo 130 (.load true 4 (.t 12)),
 ⟨(some 131), none, .call 72 [(.t 129), (.t 130)], [5, 6]⟩,
 ⟨(some 132), none, .agg [(.int .i64 0), (.str []), (.str []), (.int .i64 0), (.int .i64 0), (.str []), (.int .i64 0), (.sl 3 [] .nil)] [(0, 1, (.c (.int .i64 3))), (1, 1, (.t 124)), (3, 1, (.t 126)), (4, 1, (.t 128)), (7, 1, (.t 131))], [7]⟩,
 ⟨none, none, .store 8 (.t 8) (.t 132), [7, 2, 4, 5, 6]⟩,
 ⟨(some 9), none, .mv (.c (.bool true)), [7]⟩] [8, 9])
 (.ret))
 (.skip)))
 (.seq (.reg [Oo 133 (.agg [(.int .i64 0), (.str []), (.str []), (.int .i64 0), (.int .i64 0), (.str []), (.int .i64 0), (.sl 3 [] .nil)] []),
 ⟨none, none, .store 8 (.t 8) (.t 133), []⟩,
 Oo 9 (.mv (.c (.bool false)))] [8, 9])
 (.ret)))))))))⟩
theorem c46 : cmpF Tryz.prog ⟨[(28, 2), (29, 2), (30, 3), (50, 2)], false, false⟩ Tryz.f46 K46 = some A46 := by kernel_rfl
/-- collator/patch.may -/
def K47 : List (List Nat) := [[1], [1, 3], [1, 3, 13], [1, 3, 13, 14], [1, 3, 13, 16], [1, 3, 13, 18], [1, 3, 13, 20], [1, 3, 22], [2], [2], [2], [1, 3], [2], [2]]
def A47 : AFunc := ⟨1, [.t 2], .seq (.reg [Oo 1 (.box (.t 0)),
 Oo 2 (.mv (.c (.bool false)))] [1])
 (.seq (.reg [Oo 4 (.faddr 2 (.t 1)),
 Oo 5 (.load false 1 (.t 4)),
 Oo 6 (.bin .eql (.t 5) (.c (.str []))),
 Mo 7 6,
 ⟨(some 8), some (7, true), .faddr 6 (.t 1), []⟩,
 ⟨(some 9), some (7, true), .load false 1 (.t 8), []⟩,
 ⟨(some 10), some (7, true), .bin .eql (.t 9) (.c (.int .i64 0)), []⟩,
 Oo 11 (.pick (.t 7) (.t 10) (.c (.bool false))),
 Mo 3 11] [1, 3])
 (.seq (.seq (.reg [Oo 12 (.faddr 0 (.t 1)),
 Oo 13 (.load false 1 (.t 12))] [1, 3, 13])
 (.blk 0 (.seq (.blk 5 (.seq (.blk 4 (.seq (.blk 3 (.seq (.blk 2 (.seq (.blk 1 (.seq (.seq (.seq (.reg [Oo 15 (.bin .eql (.t 13) (.c (.int .i64 1))),
 Mo 14 15] [1, 3, 13, 14])
 (.cond (.t 14) (.exit 1)
 (.skip)))
 (.seq (.seq (.reg [Oo 17 (.bin .eql (.t 13) (.c (.int .i64 2))),
 Mo 16 17] [1, 3, 13, 16])
 (.cond (.t 16) (.exit 2)
 (.skip)))
 (.seq (.seq (.reg [Oo 19 (.bin .eql (.t 13) (.c (.int .i64 4))),
 Mo 18 19] [1, 3, 13, 18])
 (.cond (.t 18) (.exit 3)
 (.skip)))
 (.seq (.seq (.reg [Oo 21 (.bin .eql (.t 13) (.c (.int .i64 5))),
 Mo 20 21] [1, 3, 13, 20])
 (.cond (.t 20) (.exit 4)
 (.skip)))
 (.seq (.reg [Oo 23 (.bin .eql (.t 13) (.c (.int .i64 3))),
 Mo 22 23] [1, 3, 22])
 (.cond (.t 22) (.exit 5)
 (.skip)))))))
 (.exit 0)))
 (.seq (.seq (.reg [Mo 24 3,
 Mo 25 24,
 ⟨(some 26), some (25, true), .faddr 4 (.t 1), []⟩,
 ⟨(some 27), some (25, true), .load false 1 (.t 26), []⟩,
 ⟨(some 28), some (25, true), .call 73 [(.t 27)], []⟩,
 Oo 29 (.pick (.t 25) (.t 28) (.c (.bool false))),
 Mo 30 29,
 ⟨(some 31), some (30, true), .faddr 3 (.t 1), []⟩,
 ⟨(some 32), some (30, true), .load false 1 (.t 31), []⟩,
 ⟨(some 33), some (30, true), .bin .eql (.t 32) (.c (.int .i64 0)), []⟩,
 Oo 34 (.pick (.t 30) (.t 33) (.c (.bool false))),
 Mo 35 34,
 ⟨(some 36), some (35, true), .faddr 7 (.t 1), []⟩,
 ⟨(some 37), some (35, true), .load false 1 (.t 36), []⟩,
 ⟨(some 38), some (35, true), .len false (.t 37), []⟩,
 ⟨(some 39), some (35, true), .bin .eql (.t 38) (.c (.int .i64 0)), []⟩,
 Oo 40 (.pick (.t 35) (.t 39) (.c (.bool false))),
 Mo 2 40] [2])
 (.ret))
 (.exit 0))))
 (.seq (.seq (.reg [Mo 41 3,
 Mo 42 41,
 ⟨(some 43), some (42, true), .faddr 3 (.t 1), []⟩,
 ⟨(some 44), some (42, true), .load false 1 (.t 43), []⟩,
 ⟨(some 45), some (42, true), .call 73 [(.t 44)], []⟩,
 Oo 46 (.pick (.t 42) (.t 45) (.c (.bool false))),
 Mo 47 46,
 ⟨(some 48), some (47, true), .faddr 4 (.t 1), []⟩,
 ⟨(some 49), some (47, true), .load false 1 (.t 48), []⟩,
 ⟨(some 50), some (47, true), .bin .eql (.t 49) (.c (.int .i64 0)), []⟩,
 Oo 51 (.pick (.t 47) (.t 50) (.c (.bool false))),
 Mo 52 51,
 ⟨(some 53), some (52, true), .faddr 5 (.t 1), []⟩,
 ⟨(some 54), some (52, true), .load false 1 (.t 53), []⟩,
 ⟨(some 55), some (52, true), .bin .eql (.t 54) (.c (.str [])), []⟩,
 Oo 56 (.pick (.t 52) (.t 55) (.c (.bool false))),
 Mo 57 56,
 ⟨(some 58), some (57, true), .faddr 7 (.t 1), []⟩,
 ⟨(some 59), some (57, true), .load false 1 (.t 58), []⟩,
 ⟨(some 60), some (57, true), .len false (.t 59), []⟩,
 ⟨(some 61), some (57, true), .bin .eql (.t 60) (.c (.int .i64 0)), []⟩,
 Oo 62 (.pick (.t 57) (.t 61) (.c (.bool false))),
 Mo 2 62] [2])
 (.ret))
 (.exit 0))))
 (.seq (.seq (.reg [Mo 63 3,
 Mo 64 63,
 ⟨(some 65), some (64, true), .faddr 3 (.t 1), []⟩,
 ⟨(some 66), some (64, true), .load false 1 (.t 65), []⟩,
 ⟨(some 67), some (64, true), .call 73 [(.t 66)], []⟩,
 Oo 68 (.pick (.t 64) (.t 67) (.c (.bool false))),
 Mo 69 68,
 ⟨(some 70), some (69, true), .faddr 4 (.t 1), []⟩,
 ⟨(some 71), some (69, true), .load false 1 (.t 70), []⟩,
 ⟨(some 72), some (69, true), .call 73 [(.t 71)], []⟩,
 Oo 73 (.pick (.t 69) (.t 72) (.c (.bool false))),
 Mo 74 73,
 ⟨(some 75), some (74, true), .faddr 7 (.t 1), []⟩,
 ⟨(some 76), some (74, true), .load false 1 (.t 75), []⟩,
 ⟨(some 77), some (74, true), .len false (.t 76), []⟩,
 ⟨(some 78), some (74, true), .bin .eql (.t 77) (.c (.int .i64 0)), []⟩,
 Oo 79 (.pick (.t 74) (.t 78) (.c (.bool false))),
 Mo 2 79] [2])
 (.ret))
 (.exit 0))))
 (.reg [Oo 80 (.faddr 6 (.t 1)),
 Oo 81 (.load false 1 (.t 80)),
 Oo 82 (.bin .geq (.t 81) (.c (.int .i64 1))),
 Mo 83 82,
 ⟨(some 84), some (83, true), .faddr 6 (.t 1), []⟩,
 ⟨(some 85), some (83, true), .load false 1 (.t 84), []⟩,
 ⟨(some 86), some (83, true), .bin .leq (.t 85) (.c (.int .i64 100)), []⟩,
 Oo 87 (.pick (.t 83) (.t 86) (.c (.bool false))),
 Mo 3 87] [1, 3])))
 (.seq (.seq (.reg [Mo 88 3,
 Mo 89 88,
 ⟨(some 90), some (89, true), .faddr 3 (.t 1), []⟩,
 ⟨(some 91), some (89, true), .load false 1 (.t 90), []⟩,
 ⟨(some 92), some (89, true), .bin .eql (.t 91) (.c (.int .i64 2)), []⟩,
 Oo 93 (.pick (.t 89) (.t 92) (.c (.bool false))),
 Mo 94 93,
 ⟨(some 95), some (94, true), .faddr 4 (.t 1), []⟩,
 ⟨(some 96), some (94, true), .load false 1 (.t 95), []⟩,
 ⟨(some 97), some (94, true), .bin .eql (.t 96) (.c (.int .i64 2)), []⟩,
 Oo 98 (.pick (.t 94) (.t 97) (.c (.bool false))),
 Mo 99 98,
 ⟨(some 100), some (99, true), .faddr 5 (.t 1), []⟩,
 ⟨(some 101), some (99, true), .load false 1 (.t 100), []⟩,
 ⟨(some 102), some (99, true), .bin .eql (.t 101) (.c (.str [])), []⟩,
 Oo 103 (.pick (.t 99) (.t 102) (.c (.bool false))),
 Mo 104 103,
 ⟨(some 105), some (104, true), .faddr 7 (.t 1), []⟩,
 ⟨(some 106), some (104, true), .load false 1 (.t 105), []⟩,
 ⟨(some 107), some (104, true), .call 49 [(.t 106)], []⟩,
 Oo 108 (.pick (.t 104) (.t 107) (.c (.bool false))),
 Mo 2 108] [2])
 (.ret))
 (.exit 0)))))
 (.seq (.reg [Oo 2 (.mv (.c (.bool false)))] [2])
 (.ret))))⟩
theorem c47 : cmpF Tryz.prog ⟨[(28, 2), (29, 2), (30, 3), (50, 2)], false, false⟩ Tryz.f47 K47 = some A47 := by kernel_rfl
/-- collator/paths.Compare -/
def K48 : List (List Nat) := [[0, 1], [0, 1, 11, 12], [0, 1, 11, 12, 13], [0, 1, 5, 11, 12], [0, 1, 6, 11, 12], [0, 1, 6, 11, 12, 23], [4], [0, 1, 11, 12], [4]]
def L48x0 : ACode := .seq (.reg [Oo 13 (.bin .lss (.t 12) (.t 11))] [0, 1, 11, 12, 13])
 (.seq (.cond (.t 13) (.skip)
 (.exit 0))
 (.seq (.blk 1 (.seq (.reg [Mo 14 12,
 Mo 5 14] [0, 1, 5, 11, 12])
 (.seq (.reg [Mo 15 0,
 Mo 16 5,
 Oo 17 (.call 75 [(.t 15), (.t 16)]),
 Mo 18 1,
 Mo 19 5,
 Oo 20 (.call 75 [(.t 18), (.t 19)]),
 Oo 21 (.call 74 [(.t 17), (.t 20)]),
 Mo 6 21] [0, 1, 6, 11, 12])
 (.seq (.reg [Mo 22 6,
 Oo 23 (.bin .neq (.t 22) (.c (.int .i64 0)))] [0, 1, 6, 11, 12, 23])
 (.cond (.t 23) (.seq (.reg [Mo 24 6,
 Mo 4 24] [4])
 (.ret))
 (.skip))))))
 (.reg [Oo 25 (.bin .add (.t 12) (.c (.int .i64 1))),
 Mo 12 25] [0, 1, 11, 12])))
def A48 : AFunc := ⟨2, [.t 4], .seq (.reg [Oo 4 (.mv (.c (.int .i64 0)))] [0, 1])
 (.seq (.seq (.reg [Mo 7 0,
 Oo 8 (.len true (.t 7)),
 Mo 9 1,
 Oo 10 (.len true (.t 9)),
 Oo 11 (.max [(.t 8), (.t 10)]),
 Oo 12 (.mv (.c (.int .i64 0)))] [0, 1, 11, 12])
 (.blk 0 (.loop L48x0)))
 (.seq (.reg [Oo 4 (.mv (.c (.int .i64 0)))] [4])
 (.ret)))⟩
theorem c48 : cmpF Tryz.prog ⟨[(28, 2), (29, 2), (30, 3), (50, 2)], false, false⟩ Tryz.f48 K48 = some A48 := by kernel_rfl
/-- collator/script.Right -/
def K49 : List (List Nat) := [[0], [0, 3], [3, 6, 7, 8], [3, 6, 7, 8, 9], [3, 5, 6, 7, 8], [5, 6, 7, 8, 29], [2], [3, 6, 7, 8], [3, 6, 7, 8], [2]]
def L49x0 : ACode := .seq (.reg [Oo 9 (.bin .lss (.t 8) (.t 7))] [3, 6, 7, 8, 9])
 (.seq (.cond (.t 9) (.skip)
 (.exit 0))
 (.seq (.blk 1 (.seq (.reg [Oo 10 (.iaddr 3 (.t 6) (.t 8)),
 Oo 11 (.load true 3 (.t 10)),
 Oo 5 (.alloc [(.int .i64 0), (.int .i64 0), (.sl 1 [] .nil)]),
 ⟨none, none, .store 3 (.t 5) (.t 11), []⟩] [3, 5, 6, 7, 8])
 (.seq (.seq (.reg [Oo 12 (.load true 3 (.t 5)),
 Oo 13 (.call 76 [(.t 12)]),
 Oo 14 (.un .not (.t 13)),
 Mo 15 14,
 ⟨(some 16), some (15, false), .faddr 0 (.t 5), []⟩,
 ⟨(some 17), some (15, false), .load false 1 (.t 16), []⟩,
 ⟨(some 18), some (15, false), .mv (.t 3), []⟩,
 ⟨(some 19), some (15, false), .bin .eql (.t 17) (.t 18), []⟩,
 Oo 20 (.pick (.t 15) (.c (.bool true)) (.t 19)),
 Mo 21 20,
 ⟨(some 22), some (21, false), .mv (.t 3), []⟩,
 ⟨(some 23), some (21, false), .bin .eql (.t 22) (.c (.int .i64 3)), []⟩,
 ⟨(some 24), some (21, false), .mv (.t 23), []⟩,
 ⟨(some 25), some (24, true), .faddr 0 (.t 5), []⟩,
 ⟨(some 26), some (24, true), .load false 1 (.t 25), []⟩,
 ⟨(some 27), some (24, true), .bin .eql (.t 26) (.c (.int .i64 2)), []⟩,
 ⟨(some 28), some (21, false), .pick (.t 24) (.t 27) (.c (.bool false)), []⟩,
 Oo 29 (.pick (.t 21) (.c (.bool true)) (.t 28))] [5, 6, 7, 8, 29])
 (.cond (.t 29) (.seq (.reg [Oo 2 (.mv (.c (.bool false)))] [2])
 (.ret))
 (.skip)))
 (.reg [Oo 30 (.faddr 0 (.t 5)),
 Oo 31 (.load false 1 (.t 30)),
 Mo 3 31] [3, 6, 7, 8]))))
 (.reg [Oo 32 (.bin .add (.t 8) (.c (.int .i64 1))),
 Mo 8 32] [3, 6, 7, 8])))
def A49 : AFunc := ⟨1, [.t 2], .seq (.reg [Oo 2 (.mv (.c (.bool false)))] [0])
 (.seq (.reg [Oo 3 (.mv (.c (.int .i64 0)))] [0, 3])
 (.seq (.seq (.reg [Mo 6 0,
 Oo 7 (.len false (.t 6)),
 Oo 8 (.mv (.c (.int .i64 0)))] [3, 6, 7, 8])
 (.blk 0 (.loop L49x0)))
 (.seq (.reg [Oo 2 (.mv (.c (.bool true)))] [2])
 (.ret))))⟩
theorem c49 : cmpF Tryz.prog ⟨[(28, 2), (29, 2), (30, 3), (50, 2)], false, false⟩ Tryz.f49 K49 = some A49 := by kernel_rfl
/-- collator/collatorref11.may -/
def K52 : List (List Nat) := [[1], [1, 3], [1, 3, 4], [1, 3, 4, 5], [1, 3, 4, 5, 22], [1, 3, 4, 5, 22, 23], [2], [1, 3, 4, 5, 22, 39], [2], [1, 3, 4, 5, 22, 60], [2], [1, 4, 5, 22, 76], [2], [1, 5, 97], [2], [2]]
def A52 : AFunc := ⟨1, [.t 2], .seq (.reg [Oo 1 (.box (.t 0)),
 Oo 2 (.mv (.c (.bool false)))] [1])
 (.seq (.reg [Oo 6 (.faddr 7 (.t 1)),
 Oo 7 (.load false 1 (.t 6)),
 Oo 8 (.len false (.t 7)),
 Oo 9 (.bin .eql (.t 8) (.c (.int .i64 0))),
 Mo 3 9] [1, 3])
 (.seq (.reg [Oo 10 (.faddr 2 (.t 1)),
 Oo 11 (.load false 1 (.t 10)),
 Oo 12 (.bin .eql (.t 11) (.c (.str []))),
 Mo 13 12,
 ⟨(some 14), some (13, true), .faddr 6 (.t 1), []⟩,
 ⟨(some 15), some (13, true), .load false 1 (.t 14), []⟩,
 ⟨(some 16), some (13, true), .bin .eql (.t 15) (.c (.int .i64 0)), []⟩,
 Oo 17 (.pick (.t 13) (.t 16) (.c (.bool false))),
 Mo 4 17] [1, 3, 4])
 (.seq (.reg [Oo 18 (.faddr 7 (.t 1)),
 Oo 19 (.load false 1 (.t 18)),
 Oo 20 (.call 54 [(.t 19)]),
 Mo 5 20] [1, 3, 4, 5])
 (.seq (.seq (.reg [Oo 21 (.faddr 0 (.t 1)),
 Oo 22 (.load false 1 (.t 21))] [1, 3, 4, 5, 22])
 (.blk 0 (.seq (.reg [Oo 24 (.bin .eql (.t 22) (.c (.int .i64 1))),
 Mo 23 24] [1, 3, 4, 5, 22, 23])
 (.cond (.t 23) (.seq (.reg [Mo 25 4,
 Mo 26 25,
 ⟨(some 27), some (26, true), .mv (.t 3), []⟩,
 Oo 28 (.pick (.t 26) (.t 27) (.c (.bool false))),
 Mo 29 28,
 ⟨(some 30), some (29, true), .faddr 4 (.t 1), []⟩,
 ⟨(some 31), some (29, true), .load false 1 (.t 30), []⟩,
 ⟨(some 32), some (29, true), .call 79 [(.t 31)], []⟩,
 Oo 33 (.pick (.t 29) (.t 32) (.c (.bool false))),
 Mo 34 33,
 ⟨(some 35), some (34, true), .faddr 3 (.t 1), []⟩,
 ⟨(some 36), some (34, true), .load false 1 (.t 35), []⟩,
 ⟨(some 37), some (34, true), .bin .eql (.t 36) (.c (.int .i64 0)), []⟩,
 Oo 38 (.pick (.t 34) (.t 37) (.c (.bool false))),
 Mo 2 38] [2])
 (.ret))
 (.seq (.reg [Oo 40 (.bin .eql (.t 22) (.c (.int .i64 2))),
 Mo 39 40] [1, 3, 4, 5, 22, 39])
 (.cond (.t 39) (.seq (.reg [Mo 41 4,
 Mo 42 41,
 ⟨(some 43), some (42, true), .mv (.t 3), []⟩,
 Oo 44 (.pick (.t 42) (.t 43) (.c (.bool false))),
 Mo 45 44,
 ⟨(some 46), some (45, true), .faddr 3 (.t 1), []⟩,
 ⟨(some 47), some (45, true), .load false 1 (.t 46), []⟩,
 ⟨(some 48), some (45, true), .call 79 [(.t 47)], []⟩,
 Oo 49 (.pick (.t 45) (.t 48) (.c (.bool false))),
 Mo 50 49,
 ⟨(some 51), some (50, true), .faddr 4 (.t 1), []⟩,
 ⟨(some 52), some (50, true), .load false 1 (.t 51), []⟩,
 ⟨(some 53), some (50, true), .bin .eql (.t 52) (.c (.int .i64 0)), []⟩,
 Oo 54 (.pick (.t 50) (.t 53) (.c (.bool false))),
 Mo 55 54,
 ⟨(some 56), some (55, true), .faddr 5 (.t 1), []⟩,
 ⟨(some 57), some (55, true), .load false 1 (.t 56), []⟩,
 ⟨(some 58), some (55, true), .bin .eql (.t 57) (.c (.str [])), []⟩,
 Oo 59 (.pick (.t 55) (.t 58) (.c (.bool false))),
 Mo 2 59] [2])
 (.ret))
 (.seq (.reg [Oo 61 (.bin .eql (.t 22) (.c (.int .i64 4))),
 Mo 60 61] [1, 3, 4, 5, 22, 60])
 (.cond (.t 60) (.seq (.reg [Mo 62 4,
 Mo 63 62,
 ⟨(some 64), some (63, true), .mv (.t 3), []⟩,
 Oo 65 (.pick (.t 63) (.t 64) (.c (.bool false))),
 Mo 66 65,
 ⟨(some 67), some (66, true), .faddr 3 (.t 1), []⟩,
 ⟨(some 68), some (66, true), .load false 1 (.t 67), []⟩,
 ⟨(some 69), some (66, true), .call 79 [(.t 68)], []⟩,
 Oo 70 (.pick (.t 66) (.t 69) (.c (.bool false))),
 Mo 71 70,
 ⟨(some 72), some (71, true), .faddr 4 (.t 1), []⟩,
 ⟨(some 73), some (71, true), .load false 1 (.t 72), []⟩,
 ⟨(some 74), some (71, true), .call 79 [(.t 73)], []⟩,
 Oo 75 (.pick (.t 71) (.t 74) (.c (.bool false))),
 Mo 2 75] [2])
 (.ret))
 (.seq (.reg [Oo 77 (.bin .eql (.t 22) (.c (.int .i64 3))),
 Mo 76 77] [1, 4, 5, 22, 76])
 (.cond (.t 76) (.seq (.reg [Mo 78 4,
 Mo 79 78,
 ⟨(some 80), some (79, true), .mv (.t 5), []⟩,
 Oo 81 (.pick (.t 79) (.t 80) (.c (.bool false))),
 Mo 82 81,
 ⟨(some 83), some (82, true), .faddr 3 (.t 1), []⟩,
 ⟨(some 84), some (82, true), .load false 1 (.t 83), []⟩,
 ⟨(some 85), some (82, true), .bin .eql (.t 84) (.c (.int .i64 2)), []⟩,
 Oo 86 (.pick (.t 82) (.t 85) (.c (.bool false))),
 Mo 87 86,
 ⟨(some 88), some (87, true), .faddr 4 (.t 1), []⟩,
 ⟨(some 89), some (87, true), .load false 1 (.t 88), []⟩,
 ⟨(some 90), some (87, true), .bin .eql (.t 89) (.c (.int .i64 2)), []⟩,
 Oo 91 (.pick (.t 87) (.t 90) (.c (.bool false))),
 Mo 92 91,
 ⟨(some 93), some (92, true), .faddr 5 (.t 1), []⟩,
 ⟨(some 94), some (92, true), .load false 1 (.t 93), []⟩,
 ⟨(some 95), some (92, true), .bin .eql (.t 94) (.c (.str [])), []⟩,
 Oo 96 (.pick (.t 92) (.t 95) (.c (.bool false))),
 Mo 2 96] [2])
 (.ret))
 (.seq (.reg [Oo 98 (.bin .eql (.t 22) (.c (.int .i64 5))),
 Mo 97 98] [1, 5, 97])
 (.cond (.t 97) (.seq (.reg [Mo 99 5,
 Mo 100 99,
 ⟨(some 101), some (100, true), .faddr 6 (.t 1), []⟩,
 ⟨(some 102), some (100, true), .load false 1 (.t 101), []⟩,
 ⟨(some 103), some (100, true), .bin .geq (.t 102) (.c (.int .i64 1)), []⟩,
 Oo 104 (.pick (.t 100) (.t 103) (.c (.bool false))),
 Mo 105 104,
 ⟨(some 106), some (105, true), .faddr 6 (.t 1), []⟩,
 ⟨(some 107), some (105, true), .load false 1 (.t 106), []⟩,
 ⟨(some 108), some (105, true), .bin .leq (.t 107) (.c (.int .i64 100)), []⟩,
 Oo 109 (.pick (.t 105) (.t 108) (.c (.bool false))),
 Mo 110 109,
 ⟨(some 111), some (110, true), .faddr 3 (.t 1), []⟩,
 ⟨(some 112), some (110, true), .load false 1 (.t 111), []⟩,
 ⟨(some 113), some (110, true), .bin .eql (.t 112) (.c (.int .i64 2)), []⟩,
 Oo 114 (.pick (.t 110) (.t 113) (.c (.bool false))),
 Mo 115 114,
 ⟨(some 116), some (115, true), .faddr 4 (.t 1), []⟩,
 ⟨(some 117), some (115, true), .load false 1 (.t 116), []⟩,
 ⟨(some 118), some (115, true), .bin .eql (.t 117) (.c (.int .i64 2)), []⟩,
 Oo 119 (.pick (.t 115) (.t 118) (.c (.bool false))),
 Mo 120 119,
 ⟨(some 121), some (120, true), .faddr 5 (.t 1), []⟩,
 ⟨(some 122), some (120, true), .load false 1 (.t 121), []⟩,
 ⟨(some 123), some (120, true), .bin .eql (.t 122) (.c (.str [])), []⟩,
 Oo 124 (.pick (.t 120) (.t 123) (.c (.bool false))),
 Mo 2 124] [2])
 (.ret))
 (.skip)))))))))))))
 (.seq (.reg [Oo 2 (.mv (.c (.bool false)))] [2])
 (.ret))))))⟩
theorem c52 : cmpF Tryz.prog ⟨[(28, 2), (29, 2), (30, 3), (50, 2)], false, false⟩ Tryz.f52 K52 = some A52 := by kernel_rfl
/-- collator/collatorref01.Compare -/
def K53 : List (List Nat) := [[0, 1], [1, 5], [5, 6], [5, 6, 7], [5, 6, 7, 21], [5, 6, 7, 32], [4], [5, 6, 7, 41], [4], [5, 6, 7], [5, 6, 46], [4], [51], [4], [4]]
def L53x0 : ACode := .seq (.seq (.reg [Mo 12 7,
 Mo 13 5,
 Oo 14 (.len false (.t 13)),
 Oo 15 (.bin .lss (.t 12) (.t 14)),
 Mo 16 15,
 ⟨(some 17), some (16, true), .mv (.t 7), []⟩,
 ⟨(some 18), some (16, true), .mv (.t 6), []⟩,
 ⟨(some 19), some (16, true), .len false (.t 18), []⟩,
 ⟨(some 20), some (16, true), .bin .lss (.t 17) (.t 19), []⟩,
 Oo 21 (.pick (.t 16) (.t 20) (.c (.bool false)))] [5, 6, 7, 21])
 (.cond (.t 21) (.skip)
 (.exit 0)))
 (.seq (.blk 1 (.seq (.seq (.regD [Mo 24 5,
 Mo 25 7,
 Oo 26 (.iaddr 1 (.t 24) (.t 25)),
 Oo 27 (.load false 1 (.t 26)),
 Mo 28 6,
 Mo 29 7,
 Oo 30 (.iaddr 1 (.t 28) (.t 29)),
 Oo 31 (.load false 1 (.t 30)),
 Oo 32 (.bin .lss (.t 27) (.t 31))] [5, 6, 7, 32])
 (.cond (.t 32) (.seq (.reg [Oo 4 (.mv (.c (.int .i64 (-1))))] [4])
 (.ret))
 (.skip)))
 (.seq (.regD [Mo 33 5,
 Mo 34 7,
 Oo 35 (.iaddr 1 (.t 33) (.t 34)),
 Oo 36 (.load false 1 (.t 35)),
 Mo 37 6,
 Mo 38 7,
 Oo 39 (.iaddr 1 (.t 37) (.t 38)),
 Oo 40 (.load false 1 (.t 39)),
 Oo 41 (.bin .gtr (.t 36) (.t 40))] [5, 6, 7, 41])
 (.cond (.t 41) (.seq (.reg [Oo 4 (.mv (.c (.int .i64 1)))] [4])
 (.ret))
 (.skip)))))
 (.reg [Mo 22 7,
 Oo 23 (.bin .add (.t 22) (.c (.int .i64 1))),
 Mo 7 23] [5, 6, 7]))
def A53 : AFunc := ⟨2, [.t 4], .seq (.reg [Oo 4 (.mv (.c (.int .i64 0)))] [0, 1])
 (.seq (.reg [Mo 8 0,
 Oo 9 (.call 80 [(.t 8)]),
 Mo 5 9] [1, 5])
 (.seq (.reg [Mo 10 1,
 Oo 11 (.call 80 [(.t 10)]),
 Mo 6 11] [5, 6])
 (.seq (.seq (.reg [Oo 7 (.mv (.c (.int .i64 0)))] [5, 6, 7])
 (.blk 0 (.loop L53x0)))
 (.seq (.seq (.reg [Mo 42 5,
 Oo 43 (.len false (.t 42)),
 Mo 44 6,
 Oo 45 (.len false (.t 44)),
 Oo 46 (.bin .lss (.t 43) (.t 45))] [5, 6, 46])
 (.cond (.t 46) (.seq (.reg [Oo 4 (.mv (.c (.int .i64 (-1))))] [4])
 (.ret))
 (.skip)))
 (.seq (.seq (.reg [Mo 47 5,
 Oo 48 (.len false (.t 47)),
 Mo 49 6,
 Oo 50 (.len false (.t 49)),
 Oo 51 (.bin .gtr (.t 48) (.t 50))] [51])
 (.cond (.t 51) (.seq (.reg [Oo 4 (.mv (.c (.int .i64 1)))] [4])
 (.ret))
 (.skip)))
 (.seq (.reg [Oo 4 (.mv (.c (.int .i64 0)))] [4])
 (.ret)))))))⟩
theorem c53 : cmpF Tryz.prog ⟨[(28, 2), (29, 2), (30, 3), (50, 2)], false, false⟩ Tryz.f53 K53 = some A53 := by kernel_rfl
/-- collator/collatorref04.Right -/
def K54 : List (List Nat) := [[0], [0, 3], [0, 3, 8], [0, 3, 4], [0, 3, 52], [2], [0, 3], [2]]
def L54x0 : ACode := .seq (.seq (.reg [Mo 5 3,
 Mo 6 0,
 Oo 7 (.len false (.t 6)),
 Oo 8 (.bin .lss (.t 5) (.t 7))] [0, 3, 8])
 (.cond (.t 8) (.skip)
 (.exit 0)))
 (.seq (.blk 1 (.seq (.reg [Mo 11 0,
 Mo 12 3,
 Oo 13 (.iaddr 3 (.t 11) (.t 12)),
 Oo 14 (.load true 3 (.t 13)),
 Oo 15 (.call 81 [(.t 14)]),
 Mo 4 15] [0, 3, 4])
 (.seq (.regD [Mo 16 4,
 Oo 17 (.un .not (.t 16)),
 Mo 18 17,
 ⟨(some 19), some (18, false), .mv (.t 3), []⟩,
 ⟨(some 20), some (18, false), .bin .gtr (.t 19) (.c (.int .i64 0)), []⟩,
 ⟨(some 21), some (18, false), .mv (.t 20), []⟩,
 ⟨(some 22), some (21, true), .mv (.t 0), []⟩,
 ⟨(some 23), some (21, true), .mv (.t 3), []⟩,
 ⟨(some 24), some (21, true), .bin .sub (.t 23) (.c (.int .i64 1)), []⟩,
 ⟨(some 25), some (21, true), .iaddr 3 (.t 22) (.t 24), []⟩,
 ⟨(some 26), some (21, true), .faddr 0 (.t 25), []⟩,
 ⟨(some 27), some (21, true), .load false 1 (.t 26), []⟩,
 ⟨(some 28), some (21, true), .mv (.t 0), []⟩,
 ⟨(some 29), some (21, true), .mv (.t 3), []⟩,
 ⟨(some 30), some (21, true), .iaddr 3 (.t 28) (.t 29), []⟩,
 ⟨(some 31), some (21, true), .faddr 0 (.t 30), []⟩,
 ⟨(some 32), some (21, true), .load false 1 (.t 31), []⟩,
 ⟨(some 33), some (21, true), .bin .eql (.t 27) (.t 32), []⟩,
 ⟨(some 34), some (21, true), .mv (.t 33), []⟩,
 ⟨(some 35), some (34, false), .mv (.t 0), []⟩,
 ⟨(some 36), some (34, false), .mv (.t 3), []⟩,
 ⟨(some 37), some (34, false), .bin .sub (.t 36) (.c (.int .i64 1)), []⟩,
 ⟨(some 38), some (34, false), .iaddr 3 (.t 35) (.t 37), []⟩,
 ⟨(some 39), some (34, false), .faddr 0 (.t 38), []⟩,
 ⟨(some 40), some (34, false), .load false 1 (.t 39), [11, 16]⟩,
 ⟨(some 41), some (34, false), .bin .eql (.t 40) (.c (.int .i64 3)), []⟩,
 ⟨(some 42), some (34, false), .mv (.t 41), []⟩,
 ⟨(some 43), some (42, true), .mv (.t 0), []⟩,
 ⟨(some 44), some (42, true), .mv (.t 3), []⟩,
 ⟨(some 45), some (42, true), .iaddr 3 (.t 43) (.t 44), []⟩,
 ⟨(some 46), some (42, true), .faddr 0 (.t 45), []⟩,
 ⟨(some 47), some (42, true), .load false 1 (.t 46), [24, 11, 16]⟩,
 ⟨(some 48), some (42, true), .bin .eql (.t 47) (.c (.int .i64 2)), []⟩,
 ⟨(some 49), some (34, false), .pick (.t 42) (.t 48) (.c (.bool false)), []⟩,
 ⟨(some 50), some (21, true), .pick (.t 34) (.c (.bool true)) (.t 49), []⟩,
 ⟨(some 51), some (18, false), .pick (.t 21) (.t 50) (.c (.bool false)), []⟩,
 Oo 52 (.pick (.t 18) (.c (.bool true)) (.t 51))] [0, 3, 52])
 (.cond (.t 52) (.seq (.reg [Oo 2 (.mv (.c (.bool false)))] [2])
 (.ret))
 (.skip)))))
 (.reg [Mo 9 3,
 Oo 10 (.bin .add (.t 9) (.c (.int .i64 1))),
 Mo 3 10] [0, 3]))
def A54 : AFunc := ⟨1, [.t 2], .seq (.reg [Oo 2 (.mv (.c (.bool false)))] [0])
 (.seq (.seq (.reg [Oo 3 (.mv (.c (.int .i64 0)))] [0, 3])
 (.blk 0 (.loop L54x0)))
 (.seq (.reg [Oo 2 (.mv (.c (.bool true)))] [2])
 (.ret)))⟩
theorem c54 : cmpF Tryz.prog ⟨[(28, 2), (29, 2), (30, 3), (50, 2)], false, false⟩ Tryz.f54 K54 = some A54 := by kernel_rfl
/-- collator/collatorref04.Digits -/
def K55 : List (List Nat) := [[0], [0, 4], [2], [2]]
def A55 : AFunc := ⟨1, [.t 2], .seq (.reg [Oo 2 (.mv (.c (.str [])))] [0])
 (.seq (.seq (.reg [Mo 3 0,
 Oo 4 (.bin .lss (.t 3) (.c (.int .i64 10)))] [0, 4])
 (.cond (.t 4) (.seq (.reg [Mo 5 0,
 Mo 6 0,
 Oo 7 (.bin .add (.t 6) (.c (.int .i64 1))),
 Oo 8 (.slice none (.c (.str [48, 49, 50, 51, 52, 53, 54, 55, 56, 57])) (some (.t 5)) (some (.t 7)) none),
 Mo 2 8] [2])
 (.ret))
 (.skip)))
 (.seq (.reg [Mo 9 0,
 Oo 10 (.bin .quo (.t 9) (.c (.int .i64 10))),
 Oo 11 (.call 55 [(.t 10)]),
 Mo 12 0,
 Oo 13 (.bin .rem (.t 12) (.c (.int .i64 10))),
 Oo 14 (.call 55 [(.t 13)]),
 Oo 15 (.bin .add (.t 11) (.t 14)),
 Mo 2 15] [2])
 (.ret)))⟩
theorem c55 : cmpF Tryz.prog ⟨[(28, 2), (29, 2), (30, 3), (50, 2)], false, false⟩ Tryz.f55 K55 = some A55 := by kernel_rfl
/-- (*collator/report.left).upTo -/
def K56 : List (List Nat) := [[0, 1], [0, 5, 6, 7], [0, 5, 6, 7, 8, 9], [0, 6, 8], [8], [4]]
def A56 : AFunc := ⟨2, [.t 4], .seq (.reg [Oo 4 (.mv (.c (.int .i64 0)))] [0, 1])
 (.seq (.reg [Mo 11 0,
 Oo 12 (.nilc (.t 11)),
 Oo 13 (.faddr 0 (.t 12)),
 Oo 14 (.load false 1 (.t 13)),
 Mo 15 1,
 Oo 16 (.call 82 [(.t 14), (.t 15)]),
 Mo 10 16,
 Oo 17 (.ext (.t 10) 0),
 Oo 18 (.ext (.t 10) 1),
 Oo 19 (.ext (.t 10) 2),
 Mo 5 17,
 Mo 6 18,
 Mo 7 19] [0, 5, 6, 7])
 (.seq (.reg [Mo 21 5,
 Oo 22 (.call 83 [(.t 21)]),
 Mo 20 22,
 Oo 23 (.ext (.t 20) 0),
 Oo 24 (.ext (.t 20) 1),
 Mo 8 23,
 Mo 9 24] [0, 5, 6, 7, 8, 9])
 (.seq (.reg [Mo 25 7,
 Mo 26 25,
 ⟨(some 27), some (26, true), .mv (.t 9), []⟩,
 ⟨(some 28), some (26, true), .isn false (.t 27), []⟩,
 Oo 29 (.pick (.t 26) (.t 28) (.c (.bool false))),
 Mo 30 29,
 ⟨(some 31), some (30, true), .mv (.t 8), []⟩,
 ⟨(some 32), some (30, true), .bin .geq (.t 31) (.c (.int .i64 0)), []⟩,
 Oo 33 (.pick (.t 30) (.t 32) (.c (.bool false))),
 Mo 34 33,
 ⟨(some 35), some (34, true), .mv (.t 8), []⟩,
 ⟨(some 36), some (34, true), .call 51 [(.t 35)], []⟩,
 ⟨(some 37), some (34, true), .mv (.t 5), []⟩,
 ⟨(some 38), some (34, true), .bin .eql (.t 36) (.t 37), []⟩,
 Oo 39 (.pick (.t 34) (.t 38) (.c (.bool false))),
 Oo 40 (.call 37 [(.t 39)])] [0, 6, 8])
 (.seq (.reg [Mo 41 0,
 Mo 42 6,
 Oo 43 (.nilc (.t 41)),
 Oo 44 (.faddr 0 (.t 43)),
 ⟨none, none, .store 1 (.t 44) (.t 42), []⟩] [8])
 (.seq (.reg [Mo 45 8,
 Mo 4 45] [4])
 (.ret))))))⟩
theorem c56 : cmpF Tryz.prog ⟨[(28, 2), (29, 2), (30, 3), (50, 2)], false, false⟩ Tryz.f56 K56 = some A56 := by kernel_rfl
/-- (*collator/report.reader).text -/
def K57 : List (List Nat) := [[0], [0, 3], [0, 3], [0, 3, 4], [4], [2]]
def A57 : AFunc := ⟨1, [.t 2], .seq (.reg [Oo 2 (.mv (.c (.str [])))] [0])
 (.seq (.reg [Mo 5 0,
 Oo 6 (.nilc (.t 5)),
 Oo 7 (.faddr 0 (.t 6)),
 Oo 8 (.call 56 [(.t 7), (.c (.str [58]))]),
 Mo 3 8] [0, 3])
 (.seq (.reg [Mo 9 3,
 Mo 10 0,
 Oo 11 (.nilc (.t 10)),
 Oo 12 (.faddr 0 (.t 11)),
 Oo 13 (.faddr 0 (.t 12)),
 Oo 14 (.load false 1 (.t 13)),
 Oo 15 (.len true (.t 14)),
 Oo 16 (.bin .leq (.t 9) (.t 15)),
 Oo 17 (.call 37 [(.t 16)])] [0, 3])
 (.seq (.reg [Mo 18 0,
 Oo 19 (.nilc (.t 18)),
 Oo 20 (.faddr 0 (.t 19)),
 Oo 21 (.faddr 0 (.t 20)),
 Oo 22 (.load false 1 (.t 21)),
 Mo 23 3,
 Oo 24 (.slice none (.t 22) none (some (.t 23)) none),
 Mo 4 24] [0, 3, 4])
 (.seq (.reg [Mo 25 0,
 Mo 26 0,
 Oo 27 (.nilc (.t 26)),
 Oo 28 (.faddr 0 (.t 27)),
 Oo 29 (.faddr 0 (.t 28)),
 Oo 30 (.load false 1 (.t 29)),
 Mo 31 3,
 Oo 32 (.slice none (.t 30) (some (.t 31)) none none),
 Oo 33 (.nilc (.t 25)),
 Oo 34 (.faddr 0 (.t 33)),
 Oo 35 (.faddr 0 (.t 34)),
 ⟨none, none, .store 1 (.t 35) (.t 32), []⟩] [4])
 (.seq (.reg [Mo 36 4,
 Mo 2 36] [2])
 (.ret))))))⟩
theorem c57 : cmpF Tryz.prog ⟨[(28, 2), (29, 2), (30, 3), (50, 2)], false, false⟩ Tryz.f57 K57 = some A57 := by kernel_rfl
/-- collator/script.Decode -/
def K58 : List (List Nat) := [[1, 2, 3], [1, 2, 3], [1, 2, 3, 4], [1, 2, 3, 4, 12], [1, 2, 3, 4, 5], [1, 2, 3, 4, 5], [1, 2, 3, 4, 5], [1, 2, 3, 4, 5, 6], [1, 2, 3, 4, 5, 6], [1, 2, 3, 4, 5, 6, 7], [1, 2, 3, 4, 5, 6, 7, 36], [1, 2, 3, 4, 5, 6, 7, 8], [1, 2, 3, 4, 5, 6, 7, 8], [1, 2, 3, 4, 5, 6, 7], [1, 2, 3, 4, 5, 6, 7], [1, 2, 3, 4], [2, 3], [2, 3]]
def L58x0 : ACode := .seq (.seq (.reg [Mo 29 5,
 Oo 30 (.bin .eql (.t 29) (.c (.int .i64 3))),
 Mo 31 30,
 ⟨(some 32), some (31, true), .mv (.t 7), []⟩,
 ⟨(some 33), some (31, true), .faddr 1 (.t 6), []⟩,
 ⟨(some 34), some (31, true), .load false 1 (.t 33), []⟩,
 ⟨(some 35), some (31, true), .bin .lss (.t 32) (.t 34), []⟩,
 Oo 36 (.pick (.t 31) (.t 35) (.c (.bool false)))] [1, 2, 3, 4, 5, 6, 7, 36])
 (.cond (.t 36) (.skip)
 (.exit 2)))
 (.seq (.blk 3 (.seq (.reg [Mo 39 4,
 Oo 40 (.callv (.t 39) [(.c (.str [58]))]),
 Mo 8 40] [1, 2, 3, 4, 5, 6, 7, 8])
 (.seq (.reg [Mo 41 8,
 Oo 42 (.load false 1 (.t 1)),
 Oo 43 (.len true (.t 42)),
 Oo 44 (.bin .leq (.t 41) (.t 43)),
 Oo 45 (.call 87 [(.t 44)])] [1, 2, 3, 4, 5, 6, 7, 8])
 (.regD [Oo 46 (.faddr 2 (.t 6)),
 Oo 47 (.load false 1 (.t 46)),
 Oo 48 (.load false 1 (.t 1)),
 Mo 49 8,
 Oo 50 (.slice none (.t 48) none (some (.t 49)) none),
 Oo 51 (.mks 1 1 false [(.str [])] [(0, (.t 50))]),
 ⟨(some 52), none, .app none 1 16 (.t 47) (.t 51), [1, 2]⟩,
 Oo 53 (.load false 1 (.t 1)),
 Mo 54 8,
 Oo 55 (.slice none (.t 53) (some (.t 54)) none none),
 Oo 56 (.faddr 2 (.t 6)),
 ⟨none, none, .store 1 (.t 56) (.t 52), [6, 1, 2]⟩,
 ⟨none, none, .store 1 (.t 1) (.t 55), [11, 1, 2, 6, 7]⟩] [1, 2, 3, 4, 5, 6, 7]))))
 (.reg [Mo 37 7,
 Oo 38 (.bin .add (.t 37) (.c (.int .i64 1))),
 Mo 7 38] [1, 2, 3, 4, 5, 6, 7]))
def L58x1 : ACode := .seq (.seq (.reg [Oo 11 (.load false 1 (.t 1)),
 Oo 12 (.bin .neq (.t 11) (.c (.str [])))] [1, 2, 3, 4, 12])
 (.cond (.t 12) (.skip)
 (.exit 0)))
 (.blk 1 (.seq (.reg [Oo 13 (.load false 1 (.t 1)),
 Oo 14 (.sidx (.t 13) (.c (.int .i64 0))),
 Oo 15 (.call 88 [(.c (.str [63, 61, 45, 43])), (.t 14)]),
 Mo 5 15] [1, 2, 3, 4, 5])
 (.seq (.reg [Mo 16 5,
 Oo 17 (.bin .gtr (.t 16) (.c (.int .i64 0))),
 Oo 18 (.call 87 [(.t 17)])] [1, 2, 3, 4, 5])
 (.seq (.reg [Oo 19 (.load false 1 (.t 1)),
 Oo 20 (.slice none (.t 19) (some (.c (.int .i64 1))) none none),
 ⟨none, none, .store 1 (.t 1) (.t 20), []⟩] [1, 2, 3, 4, 5])
 (.seq (.reg [Mo 21 5,
 Mo 22 4,
 Oo 23 (.callv (.t 22) [(.c (.str [59]))]),
 Oo 24 (.agg [(.int .i64 0), (.int .i64 0), (.sl 1 [] .nil)] [(0, 1, (.t 21)), (1, 1, (.t 23))]),
 Oo 6 (.alloc [(.int .i64 0), (.int .i64 0), (.sl 1 [] .nil)]),
 ⟨none, none, .store 3 (.t 6) (.t 24), []⟩] [1, 2, 3, 4, 5, 6])
 (.seq (.reg [Oo 25 (.faddr 1 (.t 6)),
 Oo 26 (.load false 1 (.t 25)),
 Oo 27 (.bin .leq (.t 26) (.c (.int .i64 1048576))),
 Oo 28 (.call 87 [(.t 27)])] [1, 2, 3, 4, 5, 6])
 (.seq (.seq (.reg [Oo 7 (.mv (.c (.int .i64 0)))] [1, 2, 3, 4, 5, 6, 7])
 (.blk 2 (.loop L58x0)))
 (.reg [Oo 57 (.load false 1 (.t 2)),
 Oo 58 (.load true 3 (.t 6)),
 Oo 59 (.mks 1 3 true [(.int .i64 0), (.int .i64 0), (.sl 1 [] .nil)] [(0, (.t 58))]),
 Oo 60 (.app none 3 40 (.t 57) (.t 59)),
 ⟨none, none, .store 1 (.t 2) (.t 60), []⟩] [1, 2, 3, 4]))))))))
def A58 : AFunc := ⟨1, [.c 2 false 1, .c 3 false 1], .seq (.reg [Oo 1 (.box (.t 0)),
 Oo 2 (.alloc [(.sl 3 [] .nil)]),
 Oo 3 (.alloc [(.int .i64 0)])] [1, 2, 3])
 (.seq (.dfr 9 84 [(.t 2), (.t 3)])
 (.seq (.reg [Oo 10 (.mkf 85 [(.t 1)]),
 Mo 4 10] [1, 2, 3, 4])
 (.seq (.blk 0 (.loop L58x1))
 (.seq (.reg [Oo 61 (.load false 1 (.t 2)),
 Oo 62 (.call 49 [(.t 61)]),
 Oo 63 (.call 87 [(.t 62)])] [2, 3])
 (.seq (.reg [Oo 64 (.load false 1 (.t 2)),
 ⟨none, none, .store 1 (.t 2) (.t 64), []⟩,
 ⟨none, none, .store 1 (.t 3) (.c (.int .i64 0)), []⟩] [2, 3])
 (.ret))))))⟩
theorem c58 : cmpF Tryz.prog ⟨[(28, 2), (29, 2), (30, 3), (50, 2)], false, false⟩ Tryz.f58 K58 = some A58 := by kernel_rfl
/-- collator/collatorref04.Number -/
def K59 : List (List Nat) := [[0, 1], [0, 1, 7], [0, 1, 7, 8], [0, 1, 7, 8, 16], [0, 1, 7, 8, 23], [4, 5, 6], [0, 1, 7, 8, 49], [4, 5, 6], [0, 1, 7, 8], [0, 1, 7, 8], [4, 5, 6]]
def L59x0 : ACode := .seq (.seq (.reg [Mo 9 8,
 Mo 10 0,
 Oo 11 (.len true (.t 10)),
 Oo 12 (.bin .lss (.t 9) (.t 11)),
 Mo 13 12,
 ⟨(some 14), some (13, true), .mv (.t 8), []⟩,
 ⟨(some 15), some (13, true), .bin .lss (.t 14) (.c (.int .i64 10)), []⟩,
 Oo 16 (.pick (.t 13) (.t 15) (.c (.bool false)))] [0, 1, 7, 8, 16])
 (.cond (.t 16) (.skip)
 (.exit 0)))
 (.seq (.blk 1 (.seq (.seq (.reg [Mo 19 0,
 Mo 20 8,
 Oo 21 (.sidx (.t 19) (.t 20)),
 Mo 22 1,
 Oo 23 (.bin .eql (.t 21) (.t 22))] [0, 1, 7, 8, 23])
 (.cond (.t 23) (.seq (.regD [Mo 24 7,
 Mo 25 0,
 Mo 26 8,
 Oo 27 (.bin .add (.t 26) (.c (.int .i64 1))),
 Oo 28 (.slice none (.t 25) (some (.t 27)) none none),
 Mo 29 8,
 Oo 30 (.bin .gtr (.t 29) (.c (.int .i64 0))),
 Mo 31 30,
 ⟨(some 32), some (31, true), .mv (.t 8), []⟩,
 ⟨(some 33), some (31, true), .bin .eql (.t 32) (.c (.int .i64 1)), []⟩,
 ⟨(some 34), some (31, true), .mv (.t 33), []⟩,
 ⟨(some 35), some (34, false), .mv (.t 0), []⟩,
 ⟨(some 36), some (34, false), .sidx (.t 35) (.c (.int .i64 0)), []⟩,
 ⟨(some 37), some (34, false), .bin .neq (.t 36) (.c (.int .u8 48)), []⟩,
 ⟨(some 38), some (31, true), .pick (.t 34) (.c (.bool true)) (.t 37), []⟩,
 Oo 39 (.pick (.t 31) (.t 38) (.c (.bool false))),
 Mo 4 24,
 Mo 5 28,
 Mo 6 39] [4, 5, 6])
 (.ret))
 (.skip)))
 (.seq (.seq (.reg [Mo 40 0,
 Mo 41 8,
 Oo 42 (.sidx (.t 40) (.t 41)),
 Oo 43 (.bin .lss (.t 42) (.c (.int .u8 48))),
 Mo 44 43,
 ⟨(some 45), some (44, false), .mv (.t 0), []⟩,
 ⟨(some 46), some (44, false), .mv (.t 8), []⟩,
 ⟨(some 47), some (44, false), .sidx (.t 45) (.t 46), []⟩,
 ⟨(some 48), some (44, false), .bin .gtr (.t 47) (.c (.int .u8 57)), []⟩,
 Oo 49 (.pick (.t 44) (.c (.bool true)) (.t 48))] [0, 1, 7, 8, 49])
 (.cond (.t 49) (.seq (.reg [Oo 4 (.mv (.c (.int .i64 0))),
 Oo 5 (.mv (.c (.str []))),
 Oo 6 (.mv (.c (.bool false)))] [4, 5, 6])
 (.ret))
 (.skip)))
 (.reg [Mo 50 7,
 Oo 51 (.bin .mul (.c (.int .i64 10)) (.t 50)),
 Mo 52 0,
 Mo 53 8,
 Oo 54 (.sidx (.t 52) (.t 53)),
 Oo 55 (.bin .sub (.t 54) (.c (.int .u8 48))),
 Oo 56 (.conv (.toInt .i64) (.t 55)),
 Oo 57 (.bin .add (.t 51) (.t 56)),
 Mo 7 57] [0, 1, 7, 8]))))
 (.reg [Mo 17 8,
 Oo 18 (.bin .add (.t 17) (.c (.int .i64 1))),
 Mo 8 18] [0, 1, 7, 8]))
def A59 : AFunc := ⟨2, [.t 4, .t 5, .t 6], .seq (.reg [Oo 4 (.mv (.c (.int .i64 0))),
 Oo 5 (.mv (.c (.str []))),
 Oo 6 (.mv (.c (.bool false)))] [0, 1])
 (.seq (.reg [Oo 7 (.mv (.c (.int .i64 0)))] [0, 1, 7])
 (.seq (.seq (.reg [Oo 8 (.mv (.c (.int .i64 0)))] [0, 1, 7, 8])
 (.blk 0 (.loop L59x0)))
 (.seq (.reg [Oo 4 (.mv (.c (.int .i64 0))),
 Oo 5 (.mv (.c (.str []))),
 Oo 6 (.mv (.c (.bool false)))] [4, 5, 6])
 (.ret))))⟩
theorem c59 : cmpF Tryz.prog ⟨[(28, 2), (29, 2), (30, 3), (50, 2)], false, false⟩ Tryz.f59 K59 = some A59 := by kernel_rfl
/-- collator/collatorref12.take -/
def K60 : List (List Nat) := [[0], [5, 6, 7], [5, 6, 21], [2, 3, 4], [2, 3, 4]]
def A60 : AFunc := ⟨1, [.t 2, .t 3, .t 4], .seq (.reg [Oo 2 (.mv (.c (.str []))),
 Oo 3 (.mv (.c (.str []))),
 Oo 4 (.mv (.c (.bool false)))] [0])
 (.seq (.reg [Mo 9 0,
 Oo 10 (.call 59 [(.t 9), (.c (.int .u8 58))]),
 Mo 8 10,
 Oo 11 (.ext (.t 8) 0),
 Oo 12 (.ext (.t 8) 1),
 Oo 13 (.ext (.t 8) 2),
 Mo 5 11,
 Mo 6 12,
 Mo 7 13] [5, 6, 7])
 (.seq (.seq (.reg [Mo 14 7,
 Oo 15 (.un .not (.t 14)),
 Mo 16 15,
 ⟨(some 17), some (16, false), .mv (.t 5), []⟩,
 ⟨(some 18), some (16, false), .mv (.t 6), []⟩,
 ⟨(some 19), some (16, false), .len true (.t 18), []⟩,
 ⟨(some 20), some (16, false), .bin .gtr (.t 17) (.t 19), []⟩,
 Oo 21 (.pick (.t 16) (.c (.bool true)) (.t 20))] [5, 6, 21])
 (.cond (.t 21) (.seq (.reg [Oo 2 (.mv (.c (.str []))),
 Oo 3 (.mv (.c (.str []))),
 Oo 4 (.mv (.c (.bool false)))] [2, 3, 4])
 (.ret))
 (.skip)))
 (.seq (.regD [Mo 22 6,
 Mo 23 5,
 Oo 24 (.slice none (.t 22) none (some (.t 23)) none),
 Mo 25 6,
 Mo 26 5,
 Oo 27 (.slice none (.t 25) (some (.t 26)) none none),
 Mo 2 24,
 Mo 3 27,
 Oo 4 (.mv (.c (.bool true)))] [2, 3, 4])
 (.ret))))⟩
theorem c60 : cmpF Tryz.prog ⟨[(28, 2), (29, 2), (30, 3), (50, 2)], false, false⟩ Tryz.f60 K60 = some A60 := by kernel_rfl
/-- collator/collatorref04.Decode -/
def K61 : List (List Nat) := [[0], [0, 4], [4, 5], [4, 5, 12], [4, 6, 7, 8], [4, 6, 7, 20], [2, 3], [4, 7], [4, 5], [4, 9], [4, 29], [2, 3], [2, 3]]
def L61x0 : ACode := .seq (.seq (.reg [Mo 11 5,
 Oo 12 (.bin .neq (.t 11) (.c (.str [])))] [4, 5, 12])
 (.cond (.t 12) (.skip)
 (.exit 0)))
 (.blk 1 (.seq (.reg [Mo 14 5,
 Oo 15 (.call 89 [(.t 14)]),
 Mo 13 15,
 Oo 16 (.ext (.t 13) 0),
 Oo 17 (.ext (.t 13) 1),
 Oo 18 (.ext (.t 13) 2),
 Oo 6 (.alloc [(.int .i64 0), (.int .i64 0), (.sl 1 [] .nil)]),
 ⟨none, none, .store 3 (.t 6) (.t 16), []⟩,
 Mo 7 17,
 Mo 8 18] [4, 6, 7, 8])
 (.seq (.seq (.reg [Mo 19 8,
 Oo 20 (.un .not (.t 19))] [4, 6, 7, 20])
 (.cond (.t 20) (.seq (.reg [Oo 2 (.mv (.c (.sl 3 [] .nil))),
 Oo 3 (.mv (.c (.int .i64 11)))] [2, 3])
 (.ret))
 (.skip)))
 (.seq (.reg [Mo 21 4,
 Oo 22 (.load true 3 (.t 6)),
 Oo 23 (.mks 1 3 true [(.int .i64 0), (.int .i64 0), (.sl 1 [] .nil)] [(0, (.t 22))]),
 Oo 24 (.app none 3 40 (.t 21) (.t 23)),
 Mo 4 24] [4, 7])
 (.reg [Mo 25 7,
 Mo 5 25] [4, 5])))))
def A61 : AFunc := ⟨1, [.t 2, .t 3], .seq (.reg [Oo 2 (.mv (.c (.sl 3 [] .nil))),
 Oo 3 (.mv (.c (.int .i64 0)))] [0])
 (.seq (.reg [Oo 4 (.mv (.c (.sl 3 [] .nil)))] [0, 4])
 (.seq (.seq (.reg [Mo 10 0,
 Mo 5 10] [4, 5])
 (.blk 0 (.loop L61x0)))
 (.seq (.reg [Mo 26 4,
 Oo 27 (.call 54 [(.t 26)]),
 Mo 9 27] [4, 9])
 (.seq (.seq (.reg [Mo 28 9,
 Oo 29 (.un .not (.t 28))] [4, 29])
 (.cond (.t 29) (.seq (.reg [Oo 2 (.mv (.c (.sl 3 [] .nil))),
 Oo 3 (.mv (.c (.int .i64 11)))] [2, 3])
 (.ret))
 (.skip)))
 (.seq (.reg [Mo 30 4,
 Mo 2 30,
 Oo 3 (.mv (.c (.int .i64 0)))] [2, 3])
 (.ret))))))⟩
theorem c61 : cmpF Tryz.prog ⟨[(28, 2), (29, 2), (30, 3), (50, 2)], false, false⟩ Tryz.f61 K61 = some A61 := by kernel_rfl
/-- collator/collatorref04.Same -/
def K62 : List (List Nat) := [[0, 1], [0, 1, 11], [4], [0, 1, 5], [0, 1, 5, 15], [0, 1, 5, 56], [4], [0, 1, 5, 6], [0, 1, 5, 6, 64], [0, 1, 5, 6, 83], [4], [0, 1, 5, 6], [0, 1, 5], [4]]
def L62x0 : ACode := .seq (.seq (.reg [Mo 57 6,
 Mo 58 0,
 Mo 59 5,
 Oo 60 (.iaddr 3 (.t 58) (.t 59)),
 Oo 61 (.faddr 2 (.t 60)),
 Oo 62 (.load false 1 (.t 61)),
 Oo 63 (.len false (.t 62)),
 Oo 64 (.bin .lss (.t 57) (.t 63))] [0, 1, 5, 6, 64])
 (.cond (.t 64) (.skip)
 (.exit 2)))
 (.seq (.blk 3 (.seq (.regD [Mo 67 0,
 Mo 68 5,
 Oo 69 (.iaddr 3 (.t 67) (.t 68)),
 Oo 70 (.faddr 2 (.t 69)),
 Oo 71 (.load false 1 (.t 70)),
 Mo 72 6,
 Oo 73 (.iaddr 1 (.t 71) (.t 72)),
 ⟨(some 74), none, .load false 1 (.t 73), [4]⟩,
 Mo 75 1,
 Mo 76 5,
 Oo 77 (.iaddr 3 (.t 75) (.t 76)),
 Oo 78 (.faddr 2 (.t 77)),
 Oo 79 (.load false 1 (.t 78)),
 Mo 80 6,
 Oo 81 (.iaddr 1 (.t 79) (.t 80)),
 ⟨(some 82), none, .load false 1 (.t 81), [12]⟩,
 Oo 83 (.bin .neq (.t 74) (.t 82))] [0, 1, 5, 6, 83])
 (.cond (.t 83) (.seq (.reg [Oo 4 (.mv (.c (.bool false)))] [4])
 (.ret))
 (.skip))))
 (.reg [Mo 65 6,
 Oo 66 (.bin .add (.t 65) (.c (.int .i64 1))),
 Mo 6 66] [0, 1, 5, 6]))
def L62x1 : ACode := .seq (.seq (.reg [Mo 12 5,
 Mo 13 0,
 Oo 14 (.len false (.t 13)),
 Oo 15 (.bin .lss (.t 12) (.t 14))] [0, 1, 5, 15])
 (.cond (.t 15) (.skip)
 (.exit 0)))
 (.seq (.blk 1 (.seq (.seq (.regD [Mo 18 0,
 Mo 19 5,
 Oo 20 (.iaddr 3 (.t 18) (.t 19)),
 Oo 21 (.faddr 0 (.t 20)),
 Oo 22 (.load false 1 (.t 21)),
 Mo 23 1,
 Mo 24 5,
 Oo 25 (.iaddr 3 (.t 23) (.t 24)),
 Oo 26 (.faddr 0 (.t 25)),
 Oo 27 (.load false 1 (.t 26)),
 Oo 28 (.bin .neq (.t 22) (.t 27)),
 Mo 29 28,
 ⟨(some 30), some (29, false), .mv (.t 0), []⟩,
 ⟨(some 31), some (29, false), .mv (.t 5), []⟩,
 ⟨(some 32), some (29, false), .iaddr 3 (.t 30) (.t 31), []⟩,
 ⟨(some 33), some (29, false), .faddr 1 (.t 32), []⟩,
 ⟨(some 34), some (29, false), .load false 1 (.t 33), [4, 9]⟩,
 ⟨(some 35), some (29, false), .mv (.t 1), []⟩,
 ⟨(some 36), some (29, false), .mv (.t 5), []⟩,
 ⟨(some 37), some (29, false), .iaddr 3 (.t 35) (.t 36), []⟩,
 ⟨(some 38), some (29, false), .faddr 1 (.t 37), []⟩,
 ⟨(some 39), some (29, false), .load false 1 (.t 38), [4, 9]⟩,
 ⟨(some 40), some (29, false), .bin .neq (.t 34) (.t 39), []⟩,
 Oo 41 (.pick (.t 29) (.c (.bool true)) (.t 40)),
 Mo 42 41,
 ⟨(some 43), some (42, false), .mv (.t 0), []⟩,
 ⟨(some 44), some (42, false), .mv (.t 5), []⟩,
 ⟨(some 45), some (42, false), .iaddr 3 (.t 43) (.t 44), []⟩,
 ⟨(some 46), some (42, false), .faddr 2 (.t 45), []⟩,
 ⟨(some 47), some (42, false), .load false 1 (.t 46), [4, 9, 16, 21]⟩,
 ⟨(some 48), some (42, false), .len false (.t 47), []⟩,
 ⟨(some 49), some (42, false), .mv (.t 1), []⟩,
 ⟨(some 50), some (42, false), .mv (.t 5), []⟩,
 ⟨(some 51), some (42, false), .iaddr 3 (.t 49) (.t 50), []⟩,
 ⟨(some 52), some (42, false), .faddr 2 (.t 51), []⟩,
 ⟨(some 53), some (42, false), .load false 1 (.t 52), [4, 9, 16, 21]⟩,
 ⟨(some 54), some (42, false), .len false (.t 53), []⟩,
 ⟨(some 55), some (42, false), .bin .neq (.t 48) (.t 54), []⟩,
 Oo 56 (.pick (.t 42) (.c (.bool true)) (.t 55))] [0, 1, 5, 56])
 (.cond (.t 56) (.seq (.reg [Oo 4 (.mv (.c (.bool false)))] [4])
 (.ret))
 (.skip)))
 (.seq (.reg [Oo 6 (.mv (.c (.int .i64 0)))] [0, 1, 5, 6])
 (.blk 2 (.loop L62x0)))))
 (.reg [Mo 16 5,
 Oo 17 (.bin .add (.t 16) (.c (.int .i64 1))),
 Mo 5 17] [0, 1, 5]))
def A62 : AFunc := ⟨2, [.t 4], .seq (.reg [Oo 4 (.mv (.c (.bool false)))] [0, 1])
 (.seq (.seq (.reg [Mo 7 0,
 Oo 8 (.len false (.t 7)),
 Mo 9 1,
 Oo 10 (.len false (.t 9)),
 Oo 11 (.bin .neq (.t 8) (.t 10))] [0, 1, 11])
 (.cond (.t 11) (.seq (.reg [Oo 4 (.mv (.c (.bool false)))] [4])
 (.ret))
 (.skip)))
 (.seq (.seq (.reg [Oo 5 (.mv (.c (.int .i64 0)))] [0, 1, 5])
 (.blk 0 (.loop L62x1)))
 (.seq (.reg [Oo 4 (.mv (.c (.bool true)))] [4])
 (.ret))))⟩
theorem c62 : cmpF Tryz.prog ⟨[(28, 2), (29, 2), (30, 3), (50, 2)], false, false⟩ Tryz.f62 K62 = some A62 := by kernel_rfl
/-- collator/collatorlaw02.Item -/
def K63 : List (List Nat) := [[1, 2], [2, 3], [2, 3, 25], [2, 3], [2]]
def A63 : AFunc := ⟨1, [.c 2 true 4], .seq (.reg [Oo 1 (.box (.t 0)),
 Oo 2 (.alloc [(.str []), (.int .i64 0), (.str []), (.bool false)])] [1, 2])
 (.seq (.regD [Oo 4 (.faddr 0 (.t 1)),
 Oo 5 (.load false 1 (.t 4)),
 ⟨(some 6), none, .call 90 [(.t 5)], [1]⟩,
 Oo 7 (.faddr 1 (.t 1)),
 Oo 8 (.load false 1 (.t 7)),
 ⟨(some 9), none, .call 91 [(.t 8), (.c (.int .i64 3))], [4, 2, 1]⟩,
 ⟨(some 10), none, .bin .add (.c (.int .i64 1)) (.t 9), [5, 2]⟩,
 Oo 11 (.faddr 2 (.t 1)),
 Oo 12 (.load false 1 (.t 11)),
 Oo 13 (.faddr 2 (.t 1)),
 Oo 14 (.load false 1 (.t 13)),
 Oo 15 (.len true (.t 14)),
 Oo 16 (.min [(.t 15), (.c (.int .i64 60))]),
 Oo 17 (.slice none (.t 12) none (some (.t 16)) none),
 Oo 18 (.faddr 3 (.t 1)),
 Oo 19 (.load false 1 (.t 18)),
 ⟨(some 20), none, .call 91 [(.t 19), (.c (.int .i64 12))], [15, 5, 4, 2, 1]⟩,
 ⟨(some 21), none, .bin .eql (.t 20) (.c (.int .i64 0)), [16, 5, 2]⟩,
 ⟨(some 22), none, .agg [(.str []), (.int .i64 0), (.str []), (.bool false)] [(0, 1, (.t 6)), (1, 1, (.t 10)), (2, 1, (.t 17)), (3, 1, (.t 21))], [2, 5, 16]⟩,
 Oo 3 (.alloc [(.str []), (.int .i64 0), (.str []), (.bool false)]),
 ⟨none, none, .store 4 (.t 3) (.t 22), [19, 16, 1, 2, 4, 5, 8, 10, 15]⟩] [2, 3])
 (.seq (.seq (.reg [Oo 23 (.faddr 1 (.t 3)),
 Oo 24 (.load false 1 (.t 23)),
 Oo 25 (.bin .eql (.t 24) (.c (.int .i64 1)))] [2, 3, 25])
 (.cond (.t 25) (.reg [Oo 26 (.faddr 2 (.t 3)),
 ⟨none, none, .store 1 (.t 26) (.c (.str [])), []⟩] [2, 3])
 (.skip)))
 (.seq (.reg [Oo 27 (.load true 4 (.t 3)),
 ⟨none, none, .store 4 (.t 2) (.t 27), []⟩] [2])
 (.ret))))⟩
theorem c63 : cmpF Tryz.prog ⟨[(28, 2), (29, 2), (30, 3), (50, 2)], false, false⟩ Tryz.f63 K63 = some A63 := by kernel_rfl
/-- collator/collatorref01.Parts -/
def K64 : List (List Nat) := [[0], [0, 3], [0, 7], [2], [2]]
def A64 : AFunc := ⟨1, [.t 2], .seq (.reg [Oo 2 (.mv (.c (.sl 1 [] .nil)))] [0])
 (.seq (.reg [Mo 4 0,
 Oo 5 (.call 92 [(.t 4)]),
 Mo 3 5] [0, 3])
 (.seq (.seq (.reg [Mo 6 3,
 Oo 7 (.bin .neq (.t 6) (.c (.int .i64 0)))] [0, 7])
 (.cond (.t 7) (.seq (.reg [Oo 2 (.mv (.c (.sl 1 [] .nil)))] [2])
 (.ret))
 (.skip)))
 (.seq (.reg [Mo 8 0,
 Oo 9 (.call 80 [(.t 8)]),
 Mo 2 9] [2])
 (.ret))))⟩
theorem c64 : cmpF Tryz.prog ⟨[(28, 2), (29, 2), (30, 3), (50, 2)], false, false⟩ Tryz.f64 K64 = some A64 := by kernel_rfl
/-- collator/collatorref01.Join -/
def K65 : List (List Nat) := [[0, 1], [0, 1, 6], [4], [4]]
def A65 : AFunc := ⟨2, [.t 4], .seq (.reg [Oo 4 (.mv (.c (.str [])))] [0, 1])
 (.seq (.seq (.reg [Mo 5 0,
 Oo 6 (.bin .eql (.t 5) (.c (.str [])))] [0, 1, 6])
 (.cond (.t 6) (.seq (.reg [Mo 7 1,
 Mo 4 7] [4])
 (.ret))
 (.skip)))
 (.seq (.reg [Mo 8 0,
 Oo 9 (.bin .add (.t 8) (.c (.str [47]))),
 Mo 10 1,
 Oo 11 (.bin .add (.t 9) (.t 10)),
 Mo 4 11] [4])
 (.ret)))⟩
theorem c65 : cmpF Tryz.prog ⟨[(28, 2), (29, 2), (30, 3), (50, 2)], false, false⟩ Tryz.f65 K65 = some A65 := by kernel_rfl
/-- collator/collatorref02.Find -/
def K66 : List (List Nat) := [[0, 1, 4], [0, 1, 4, 6], [0, 1, 4, 6, 10], [0, 1, 4, 6, 19], [4, 5], [0, 1, 4, 6], [4, 5]]
def L66x0 : ACode := .seq (.seq (.reg [Mo 7 6,
 Mo 8 0,
 Oo 9 (.len false (.t 8)),
 Oo 10 (.bin .lss (.t 7) (.t 9))] [0, 1, 4, 6, 10])
 (.cond (.t 10) (.skip)
 (.exit 0)))
 (.seq (.blk 1 (.seq (.reg [Mo 13 0,
 Mo 14 6,
 Oo 15 (.iaddr 4 (.t 13) (.t 14)),
 Oo 16 (.faddr 0 (.t 15)),
 Oo 17 (.load false 1 (.t 16)),
 Mo 18 1,
 Oo 19 (.bin .eql (.t 17) (.t 18))] [0, 1, 4, 6, 19])
 (.cond (.t 19) (.seq (.reg [Mo 20 0,
 Mo 21 6,
 Oo 22 (.iaddr 4 (.t 20) (.t 21)),
 Oo 23 (.load true 4 (.t 22)),
 ⟨none, none, .store 4 (.t 4) (.t 23), []⟩,
 Oo 5 (.mv (.c (.bool true)))] [4, 5])
 (.ret))
 (.skip))))
 (.reg [Mo 11 6,
 Oo 12 (.bin .add (.t 11) (.c (.int .i64 1))),
 Mo 6 12] [0, 1, 4, 6]))
def A66 : AFunc := ⟨2, [.c 4 true 4, .t 5], .seq (.reg [Oo 4 (.alloc [(.str []), (.int .i64 0), (.str []), (.bool false)]),
 Oo 5 (.mv (.c (.bool false)))] [0, 1, 4])
 (.seq (.seq (.reg [Oo 6 (.mv (.c (.int .i64 0)))] [0, 1, 4, 6])
 (.blk 0 (.loop L66x0)))
 (.seq (.reg [Oo 24 (.agg [(.str []), (.int .i64 0), (.str []), (.bool false)] []),
 ⟨none, none, .store 4 (.t 4) (.t 24), []⟩,
 Oo 5 (.mv (.c (.bool false)))] [4, 5])
 (.ret)))⟩
theorem c66 : cmpF Tryz.prog ⟨[(28, 2), (29, 2), (30, 3), (50, 2)], false, false⟩ Tryz.f66 K66 = some A66 := by kernel_rfl
/-- collator/collatorref02.Check -/
def K67 : List (List Nat) := [[0, 3, 4], [0, 3, 4, 12], [4], [0, 3, 4, 5], [0, 3, 4, 5, 6], [0, 3, 4, 5, 6, 18], [0, 3, 4, 5, 6, 7], [0, 3, 4, 5, 6, 7, 46], [0, 3, 4, 5, 6], [0, 3, 4, 5, 6], [4]]
def L67x0 : ACode := .seq (.seq (.reg [Mo 15 6,
 Mo 16 0,
 Oo 17 (.len false (.t 16)),
 Oo 18 (.bin .lss (.t 15) (.t 17))] [0, 3, 4, 5, 6, 18])
 (.cond (.t 18) (.skip)
 (.exit 0)))
 (.seq (.blk 1 (.seq (.regD [Mo 21 0,
 Oo 22 (.load true 3 (.t 3)),
 Mo 23 0,
 Mo 24 6,
 Oo 25 (.iaddr 4 (.t 23) (.t 24)),
 Oo 26 (.faddr 0 (.t 25)),
 Oo 27 (.load false 1 (.t 26)),
 ⟨(some 28), none, .call 93 [(.t 21), (.t 22), (.t 27)], [1, 6]⟩,
 ⟨(some 7), none, .mv (.t 28), [7]⟩] [0, 3, 4, 5, 6, 7])
 (.seq (.regD [Mo 29 7,
 Oo 30 (.bin .neq (.t 29) (.c (.int .i64 0))),
 Mo 31 30,
 ⟨(some 32), some (31, true), .faddr 1 (.t 5), []⟩,
 ⟨(some 33), some (31, true), .load false 1 (.t 32), []⟩,
 ⟨(some 34), some (31, true), .bin .eql (.t 33) (.c (.int .i64 0)), []⟩,
 ⟨(some 35), some (31, true), .mv (.t 34), []⟩,
 ⟨(some 36), some (35, false), .mv (.t 0), []⟩,
 ⟨(some 37), some (35, false), .mv (.t 6), []⟩,
 ⟨(some 38), some (35, false), .iaddr 4 (.t 36) (.t 37), []⟩,
 ⟨(some 39), some (35, false), .faddr 0 (.t 38), []⟩,
 ⟨(some 40), some (35, false), .load false 1 (.t 39), [4]⟩,
 ⟨(some 41), some (35, false), .faddr 0 (.t 5), []⟩,
 ⟨(some 42), some (35, false), .load false 1 (.t 41), [4]⟩,
 ⟨(some 43), some (35, false), .call 53 [(.t 40), (.t 42)], [11, 13, 4]⟩,
 ⟨(some 44), some (35, false), .bin .lss (.t 43) (.c (.int .i64 0)), [14]⟩,
 ⟨(some 45), some (31, true), .pick (.t 35) (.c (.bool true)) (.t 44), [14]⟩,
 ⟨(some 46), none, .pick (.t 31) (.t 45) (.c (.bool false)), [14]⟩] [0, 3, 4, 5, 6, 7, 46])
 (.cond (.t 46) (.reg [Mo 47 0,
 Mo 48 6,
 Oo 49 (.iaddr 4 (.t 47) (.t 48)),
 Oo 50 (.faddr 0 (.t 49)),
 Oo 51 (.load false 1 (.t 50)),
 Mo 52 7,
 Oo 53 (.agg [(.str []), (.int .i64 0)] [(0, 1, (.t 51)), (1, 1, (.t 52))]),
 ⟨none, none, .store 2 (.t 5) (.t 53), []⟩] [0, 3, 4, 5, 6])
 (.skip)))))
 (.reg [Mo 19 6,
 Oo 20 (.bin .add (.t 19) (.c (.int .i64 1))),
 Mo 6 20] [0, 3, 4, 5, 6]))
def A67 : AFunc := ⟨2, [.c 4 true 2], .seq (.reg [Oo 3 (.box (.t 1)),
 Oo 4 (.alloc [(.str []), (.int .i64 0)])] [0, 3, 4])
 (.seq (.seq (.reg [Mo 8 0,
 Oo 9 (.len false (.t 8)),
 Oo 10 (.faddr 2 (.t 3)),
 Oo 11 (.load false 1 (.t 10)),
 Oo 12 (.bin .gtr (.t 9) (.t 11))] [0, 3, 4, 12])
 (.cond (.t 12) (.seq (.reg [Oo 13 (.agg [(.str []), (.int .i64 0)] [(1, 1, (.c (.int .i64 8)))]),
 ⟨none, none, .store 2 (.t 4) (.t 13), []⟩] [4])
 (.ret))
 (.skip)))
 (.seq (.reg [Oo 14 (.agg [(.str []), (.int .i64 0)] []),
 Oo 5 (.alloc [(.str []), (.int .i64 0)]),
 ⟨none, none, .store 2 (.t 5) (.t 14), []⟩] [0, 3, 4, 5])
 (.seq (.seq (.reg [Oo 6 (.mv (.c (.int .i64 0)))] [0, 3, 4, 5, 6])
 (.blk 0 (.loop L67x0)))
 (.seq (.reg [Oo 54 (.load true 2 (.t 5)),
 ⟨none, none, .store 2 (.t 4) (.t 54), []⟩] [4])
 (.ret)))))⟩
theorem c67 : cmpF Tryz.prog ⟨[(28, 2), (29, 2), (30, 3), (50, 2)], false, false⟩ Tryz.f67 K67 = some A67 := by kernel_rfl
/-- collator/collatorref08.Candidates -/
def K68 : List (List Nat) := [[0, 1, 2], [1, 2, 7], [2, 7, 8], [2, 7, 8, 9], [2, 7, 8, 9, 10], [2, 7, 8, 9, 10, 20], [2, 7, 8, 9, 10, 11], [2, 7, 8, 9, 10, 11, 26], [2, 7, 8, 9, 10, 11, 12], [2, 7, 8, 9, 10, 11, 12, 48], [2, 7, 8, 9, 10, 11], [2, 7, 8, 9, 10, 11], [2, 7, 8, 9, 10], [6]]
def L68x0 : ACode := .seq (.seq (.reg [Mo 23 11,
 Mo 24 8,
 Oo 25 (.len false (.t 24)),
 Oo 26 (.bin .lss (.t 23) (.t 25))] [2, 7, 8, 9, 10, 11, 26])
 (.cond (.t 26) (.skip)
 (.exit 2)))
 (.seq (.blk 3 (.seq (.regD [Mo 29 7,
 Mo 30 10,
 Oo 31 (.iaddr 4 (.t 29) (.t 30)),
 Oo 32 (.faddr 2 (.t 31)),
 Oo 33 (.load false 1 (.t 32)),
 ⟨(some 34), none, .call 96 [(.t 33)], [4]⟩,
 Mo 35 8,
 Mo 36 11,
 Oo 37 (.iaddr 4 (.t 35) (.t 36)),
 Oo 38 (.faddr 2 (.t 37)),
 Oo 39 (.load false 1 (.t 38)),
 ⟨(some 40), none, .call 96 [(.t 39)], [10, 5, 4]⟩,
 ⟨(some 41), none, .call 95 [(.t 34), (.t 40)], [5, 11, 4, 10]⟩,
 ⟨(some 12), none, .mv (.t 41), [12, 5, 11]⟩] [2, 7, 8, 9, 10, 11, 12])
 (.seq (.reg [Mo 42 12,
 Oo 43 (.bin .geq (.t 42) (.c (.int .i64 1))),
 Mo 44 43,
 ⟨(some 45), some (44, true), .mv (.t 12), []⟩,
 ⟨(some 46), some (44, true), .mv (.t 2), []⟩,
 ⟨(some 47), some (44, true), .bin .geq (.t 45) (.t 46), []⟩,
 Oo 48 (.pick (.t 44) (.t 47) (.c (.bool false)))] [2, 7, 8, 9, 10, 11, 12, 48])
 (.cond (.t 48) (.regD [Mo 49 9,
 Mo 50 7,
 Mo 51 10,
 Oo 52 (.iaddr 4 (.t 50) (.t 51)),
 Oo 53 (.faddr 0 (.t 52)),
 Oo 54 (.load false 1 (.t 53)),
 Mo 55 8,
 Mo 56 11,
 Oo 57 (.iaddr 4 (.t 55) (.t 56)),
 Oo 58 (.faddr 0 (.t 57)),
 Oo 59 (.load false 1 (.t 58)),
 Mo 60 12,
 Oo 61 (.agg [(.str []), (.str []), (.int .i64 0)] [(0, 1, (.t 54)), (1, 1, (.t 59)), (2, 1, (.t 60))]),
 Oo 62 (.mks 1 3 true [(.str []), (.str []), (.int .i64 0)] [(0, (.t 61))]),
 ⟨(some 63), none, .app none 3 40 (.t 49) (.t 62), [5, 10]⟩,
 Mo 9 63] [2, 7, 8, 9, 10, 11])
 (.skip)))))
 (.reg [Mo 27 11,
 Oo 28 (.bin .add (.t 27) (.c (.int .i64 1))),
 Mo 11 28] [2, 7, 8, 9, 10, 11]))
def L68x1 : ACode := .seq (.seq (.reg [Mo 17 10,
 Mo 18 7,
 Oo 19 (.len false (.t 18)),
 Oo 20 (.bin .lss (.t 17) (.t 19))] [2, 7, 8, 9, 10, 20])
 (.cond (.t 20) (.skip)
 (.exit 0)))
 (.seq (.blk 1 (.seq (.reg [Oo 11 (.mv (.c (.int .i64 0)))] [2, 7, 8, 9, 10, 11])
 (.blk 2 (.loop L68x0))))
 (.reg [Mo 21 10,
 Oo 22 (.bin .add (.t 21) (.c (.int .i64 1))),
 Mo 10 22] [2, 7, 8, 9, 10]))
def A68 : AFunc := ⟨3, [.t 6], .seq (.reg [Oo 6 (.mv (.c (.sl 3 [] .nil)))] [0, 1, 2])
 (.seq (.reg [Mo 13 0,
 Oo 14 (.call 94 [(.t 13)]),
 Mo 7 14] [1, 2, 7])
 (.seq (.reg [Mo 15 1,
 Oo 16 (.call 94 [(.t 15)]),
 Mo 8 16] [2, 7, 8])
 (.seq (.reg [Oo 9 (.mv (.c (.sl 3 [] .nil)))] [2, 7, 8, 9])
 (.seq (.seq (.reg [Oo 10 (.mv (.c (.int .i64 0)))] [2, 7, 8, 9, 10])
 (.blk 0 (.loop L68x1)))
 (.seq (.reg [Mo 64 9,
 Mo 6 64] [6])
 (.ret))))))⟩
theorem c68 : cmpF Tryz.prog ⟨[(28, 2), (29, 2), (30, 3), (50, 2)], false, false⟩ Tryz.f68 K68 = some A68 := by kernel_rfl
/-- collator/collatorref08.touches -/
def K69 : List (List Nat) := [[0, 3], [0, 3, 5], [0, 3, 5, 9], [0, 3, 5, 29], [4], [0, 3, 5], [4]]
def L69x0 : ACode := .seq (.seq (.reg [Mo 6 5,
 Mo 7 0,
 Oo 8 (.len false (.t 7)),
 Oo 9 (.bin .lss (.t 6) (.t 8))] [0, 3, 5, 9])
 (.cond (.t 9) (.skip)
 (.exit 0)))
 (.seq (.blk 1 (.seq (.regD [Mo 12 0,
 Mo 13 5,
 Oo 14 (.iaddr 3 (.t 12) (.t 13)),
 Oo 15 (.faddr 0 (.t 14)),
 Oo 16 (.load false 1 (.t 15)),
 Oo 17 (.faddr 0 (.t 3)),
 Oo 18 (.load false 1 (.t 17)),
 Oo 19 (.bin .eql (.t 16) (.t 18)),
 Mo 20 19,
 ⟨(some 21), some (20, false), .mv (.t 0), []⟩,
 ⟨(some 22), some (20, false), .mv (.t 5), []⟩,
 ⟨(some 23), some (20, false), .iaddr 3 (.t 21) (.t 22), []⟩,
 ⟨(some 24), some (20, false), .faddr 1 (.t 23), []⟩,
 ⟨(some 25), some (20, false), .load false 1 (.t 24), [4, 6]⟩,
 ⟨(some 26), some (20, false), .faddr 1 (.t 3), []⟩,
 ⟨(some 27), some (20, false), .load false 1 (.t 26), [4, 6]⟩,
 ⟨(some 28), some (20, false), .bin .eql (.t 25) (.t 27), []⟩,
 Oo 29 (.pick (.t 20) (.c (.bool true)) (.t 28))] [0, 3, 5, 29])
 (.cond (.t 29) (.seq (.reg [Oo 4 (.mv (.c (.bool true)))] [4])
 (.ret))
 (.skip))))
 (.reg [Mo 10 5,
 Oo 11 (.bin .add (.t 10) (.c (.int .i64 1))),
 Mo 5 11] [0, 3, 5]))
def A69 : AFunc := ⟨2, [.t 4], .seq (.reg [Oo 3 (.box (.t 1)),
 Oo 4 (.mv (.c (.bool false)))] [0, 3])
 (.seq (.seq (.reg [Oo 5 (.mv (.c (.int .i64 0)))] [0, 3, 5])
 (.blk 0 (.loop L69x0)))
 (.seq (.reg [Oo 4 (.mv (.c (.bool false)))] [4])
 (.ret)))⟩
theorem c69 : cmpF Tryz.prog ⟨[(28, 2), (29, 2), (30, 3), (50, 2)], false, false⟩ Tryz.f69 K69 = some A69 := by kernel_rfl
/-- collator/collatorref08.Better -/
def K70 : List (List Nat) := [[2, 3], [2, 3, 9], [4], [2, 3, 19], [4], [4]]
def A70 : AFunc := ⟨2, [.t 4], .seq (.reg [Oo 2 (.box (.t 0)),
 Oo 3 (.box (.t 1)),
 Oo 4 (.mv (.c (.bool false)))] [2, 3])
 (.seq (.seq (.reg [Oo 5 (.faddr 2 (.t 2)),
 Oo 6 (.load false 1 (.t 5)),
 Oo 7 (.faddr 2 (.t 3)),
 Oo 8 (.load false 1 (.t 7)),
 Oo 9 (.bin .neq (.t 6) (.t 8))] [2, 3, 9])
 (.cond (.t 9) (.seq (.reg [Oo 10 (.faddr 2 (.t 2)),
 Oo 11 (.load false 1 (.t 10)),
 Oo 12 (.faddr 2 (.t 3)),
 Oo 13 (.load false 1 (.t 12)),
 Oo 14 (.bin .gtr (.t 11) (.t 13)),
 Mo 4 14] [4])
 (.ret))
 (.skip)))
 (.seq (.seq (.reg [Oo 15 (.faddr 0 (.t 2)),
 Oo 16 (.load false 1 (.t 15)),
 Oo 17 (.faddr 0 (.t 3)),
 Oo 18 (.load false 1 (.t 17)),
 Oo 19 (.bin .neq (.t 16) (.t 18))] [2, 3, 19])
 (.cond (.t 19) (.seq (.reg [Oo 20 (.faddr 0 (.t 2)),
 Oo 21 (.load false 1 (.t 20)),
 Oo 22 (.faddr 0 (.t 3)),
 Oo 23 (.load false 1 (.t 22)),
 Oo 24 (.call 53 [(.t 21), (.t 23)]),
 Oo 25 (.bin .lss (.t 24) (.c (.int .i64 0))),
 Mo 4 25] [4])
 (.ret))
 (.skip)))
 (.seq (.reg [Oo 26 (.faddr 1 (.t 2)),
 Oo 27 (.load false 1 (.t 26)),
 Oo 28 (.faddr 1 (.t 3)),
 Oo 29 (.load false 1 (.t 28)),
 Oo 30 (.call 53 [(.t 27), (.t 29)]),
 Oo 31 (.bin .lss (.t 30) (.c (.int .i64 0))),
 Mo 4 31] [4])
 (.ret))))⟩
theorem c70 : cmpF Tryz.prog ⟨[(28, 2), (29, 2), (30, 3), (50, 2)], false, false⟩ Tryz.f70 K70 = some A70 := by kernel_rfl
/-- collator/collatorref08.sorted -/
def K71 : List (List Nat) := [[0], [0, 3], [0, 3, 4], [0, 3, 4, 9], [0, 3, 4, 5], [0, 3, 4, 5, 30], [0, 3, 4, 5], [0, 3, 4], [0, 3, 4], [2]]
def L71x0 : ACode := .seq (.seq (.regD [Mo 14 5,
 Oo 15 (.bin .gtr (.t 14) (.c (.int .i64 0))),
 Mo 16 15,
 ⟨(some 17), some (16, true), .mv (.t 0), []⟩,
 ⟨(some 18), some (16, true), .mv (.t 4), []⟩,
 ⟨(some 19), some (16, true), .iaddr 3 (.t 17) (.t 18), []⟩,
 ⟨(some 20), some (16, true), .faddr 1 (.t 19), []⟩,
 ⟨(some 21), some (16, true), .load false 1 (.t 20), []⟩,
 ⟨(some 22), some (16, true), .mv (.t 3), []⟩,
 ⟨(some 23), some (16, true), .mv (.t 5), []⟩,
 ⟨(some 24), some (16, true), .bin .sub (.t 23) (.c (.int .i64 1)), []⟩,
 ⟨(some 25), some (16, true), .iaddr 3 (.t 22) (.t 24), []⟩,
 ⟨(some 26), some (16, true), .faddr 1 (.t 25), []⟩,
 ⟨(some 27), some (16, true), .load false 1 (.t 26), []⟩,
 ⟨(some 28), some (16, true), .call 53 [(.t 21), (.t 27)], [7, 13]⟩,
 ⟨(some 29), some (16, true), .bin .lss (.t 28) (.c (.int .i64 0)), [14]⟩,
 ⟨(some 30), none, .pick (.t 16) (.t 29) (.c (.bool false)), [14]⟩] [0, 3, 4, 5, 30])
 (.cond (.t 30) (.skip)
 (.exit 2)))
 (.blk 3 (.reg [Mo 31 5,
 Oo 32 (.bin .sub (.t 31) (.c (.int .i64 1))),
 Mo 5 32] [0, 3, 4, 5]))
def L71x1 : ACode := .seq (.seq (.reg [Mo 6 4,
 Mo 7 0,
 Oo 8 (.len false (.t 7)),
 Oo 9 (.bin .lss (.t 6) (.t 8))] [0, 3, 4, 9])
 (.cond (.t 9) (.skip)
 (.exit 0)))
 (.seq (.blk 1 (.seq (.reg [Mo 12 3,
 Oo 13 (.len false (.t 12)),
 Mo 5 13] [0, 3, 4, 5])
 (.seq (.blk 2 (.loop L71x0))
 (.regD [Mo 33 3,
 Mo 34 5,
 Oo 35 (.slice (some 3) (.t 33) none (some (.t 34)) none),
 Oo 36 (.app none 3 40 (.c (.sl 3 [] .nil)) (.t 35)),
 Mo 37 0,
 Mo 38 4,
 Oo 39 (.iaddr 3 (.t 37) (.t 38)),
 Oo 40 (.load true 3 (.t 39)),
 Oo 41 (.mks 1 3 true [(.str []), (.str []), (.int .i64 0)] [(0, (.t 40))]),
 ⟨(some 42), none, .app none 3 40 (.t 36) (.t 41), [3, 7]⟩,
 Mo 43 3,
 Mo 44 5,
 Oo 45 (.slice (some 3) (.t 43) (some (.t 44)) none none),
 ⟨(some 46), none, .app none 3 40 (.t 42) (.t 45), [9, 3, 7]⟩,
 Mo 3 46] [0, 3, 4]))))
 (.reg [Mo 10 4,
 Oo 11 (.bin .add (.t 10) (.c (.int .i64 1))),
 Mo 4 11] [0, 3, 4]))
def A71 : AFunc := ⟨1, [.t 2], .seq (.reg [Oo 2 (.mv (.c (.sl 3 [] .nil)))] [0])
 (.seq (.reg [Oo 3 (.mv (.c (.sl 3 [] .nil)))] [0, 3])
 (.seq (.seq (.reg [Oo 4 (.mv (.c (.int .i64 0)))] [0, 3, 4])
 (.blk 0 (.loop L71x1)))
 (.seq (.reg [Mo 47 3,
 Mo 2 47] [2])
 (.ret))))⟩
theorem c71 : cmpF Tryz.prog ⟨[(28, 2), (29, 2), (30, 3), (50, 2)], false, false⟩ Tryz.f71 K71 = some A71 := by kernel_rfl
/-- collator/collatorref10.Script -/
def K72 : List (List Nat) := [[2, 3], [4]]
def A72 : AFunc := ⟨2, [.t 4], .seq (.reg [Oo 2 (.box (.t 0)),
 Oo 3 (.box (.t 1)),
 Oo 4 (.mv (.c (.sl 3 [] .nil)))] [2, 3])
 (.seq (.regD [Oo 5 (.faddr 2 (.t 2)),
 Oo 6 (.load false 1 (.t 5)),
 ⟨(some 7), none, .call 96 [(.t 6)], [1]⟩,
 Oo 8 (.faddr 2 (.t 3)),
 Oo 9 (.load false 1 (.t 8)),
 ⟨(some 10), none, .call 96 [(.t 9)], [4, 2, 1]⟩,
 ⟨(some 11), none, .call 97 [(.t 7), (.t 10)], [2, 5, 1, 4]⟩,
 ⟨(some 4), none, .mv (.t 11), [6, 2, 5]⟩] [4])
 (.ret))⟩
theorem c72 : cmpF Tryz.prog ⟨[(28, 2), (29, 2), (30, 3), (50, 2)], false, false⟩ Tryz.f72 K72 = some A72 := by kernel_rfl
/-- collator/patch.kind -/
def K73 : List (List Nat) := [[0], [2]]
def A73 : AFunc := ⟨1, [.t 2], .seq (.reg [Oo 2 (.mv (.c (.bool false)))] [0])
 (.seq (.reg [Mo 3 0,
 Oo 4 (.bin .geq (.t 3) (.c (.int .i64 1))),
 Mo 5 4,
 ⟨(some 6), some (5, true), .mv (.t 0), []⟩,
 ⟨(some 7), some (5, true), .bin .leq (.t 6) (.c (.int .i64 3)), []⟩,
 Oo 8 (.pick (.t 5) (.t 7) (.c (.bool false))),
 Mo 2 8] [2])
 (.ret))⟩
theorem c73 : cmpF Tryz.prog ⟨[(28, 2), (29, 2), (30, 3), (50, 2)], false, false⟩ Tryz.f73 K73 = some A73 := by kernel_rfl
/-- cmp.Compare[int] -/
def K74 : List (List Nat) := [[0, 1], [0, 1, 5], [0, 1, 5, 6], [0, 1, 6, 11], [12], [4], [4], [0, 1, 13], [4], [0, 1, 16], [4], [19], [4], [4]]
def A74 : AFunc := ⟨2, [.t 4], .seq (.reg [Oo 4 (.mv (.c (.int .i64 0)))] [0, 1])
 (.seq (.reg [Mo 7 0,
 Oo 8 (.call 98 [(.t 7)]),
 Mo 5 8] [0, 1, 5])
 (.seq (.reg [Mo 9 1,
 Oo 10 (.call 98 [(.t 9)]),
 Mo 6 10] [0, 1, 5, 6])
 (.seq (.seq (.reg [Mo 11 5] [0, 1, 6, 11])
 (.cond (.t 11) (.seq (.seq (.reg [Mo 12 6] [12])
 (.cond (.t 12) (.seq (.reg [Oo 4 (.mv (.c (.int .i64 0)))] [4])
 (.ret))
 (.skip)))
 (.seq (.reg [Oo 4 (.mv (.c (.int .i64 (-1))))] [4])
 (.ret)))
 (.skip)))
 (.seq (.seq (.reg [Mo 13 6] [0, 1, 13])
 (.cond (.t 13) (.seq (.reg [Oo 4 (.mv (.c (.int .i64 1)))] [4])
 (.ret))
 (.skip)))
 (.seq (.seq (.reg [Mo 14 0,
 Mo 15 1,
 Oo 16 (.bin .lss (.t 14) (.t 15))] [0, 1, 16])
 (.cond (.t 16) (.seq (.reg [Oo 4 (.mv (.c (.int .i64 (-1))))] [4])
 (.ret))
 (.skip)))
 (.seq (.seq (.reg [Mo 17 0,
 Mo 18 1,
 Oo 19 (.bin .gtr (.t 17) (.t 18))] [19])
 (.cond (.t 19) (.seq (.reg [Oo 4 (.mv (.c (.int .i64 1)))] [4])
 (.ret))
 (.skip)))
 (.seq (.reg [Oo 4 (.mv (.c (.int .i64 0)))] [4])
 (.ret))))))))⟩
theorem c74 : cmpF Tryz.prog ⟨[(28, 2), (29, 2), (30, 3), (50, 2)], false, false⟩ Tryz.f74 K74 = some A74 := by kernel_rfl
/-- collator/paths.rank -/
def K75 : List (List Nat) := [[0, 1], [0, 1, 5], [4], [0, 1, 10], [4], [4]]
def A75 : AFunc := ⟨2, [.t 4], .seq (.reg [Oo 4 (.mv (.c (.int .i64 0)))] [0, 1])
 (.seq (.blk 0 (.seq (.reg [Mo 6 1,
 Mo 7 0,
 Oo 8 (.len true (.t 7)),
 Oo 9 (.bin .geq (.t 6) (.t 8)),
 Mo 5 9] [0, 1, 5])
 (.cond (.t 5) (.seq (.reg [Oo 4 (.mv (.c (.int .i64 0)))] [4])
 (.ret))
 (.seq (.regD [Mo 11 0,
 Mo 12 1,
 Oo 13 (.sidx (.t 11) (.t 12)),
 Oo 14 (.sidx (.c (.str [47])) (.c (.int .i64 0))),
 Oo 15 (.bin .eql (.t 13) (.t 14)),
 Mo 10 15] [0, 1, 10])
 (.cond (.t 10) (.seq (.reg [Oo 4 (.mv (.c (.int .i64 1)))] [4])
 (.ret))
 (.skip))))))
 (.seq (.reg [Mo 16 0,
 Mo 17 1,
 Oo 18 (.sidx (.t 16) (.t 17)),
 Oo 19 (.conv (.toInt .i64) (.t 18)),
 Oo 20 (.bin .add (.c (.int .i64 2)) (.t 19)),
 Mo 4 20] [4])
 (.ret)))⟩
theorem c75 : cmpF Tryz.prog ⟨[(28, 2), (29, 2), (30, 3), (50, 2)], false, false⟩ Tryz.f75 K75 = some A75 := by kernel_rfl
/-- collator/script.may -/
def K76 : List (List Nat) := [[1], [1, 10], [2], [1, 12], [1, 12, 13], [1, 12, 13], [2], [1, 20], [2], [2]]
def A76 : AFunc := ⟨1, [.t 2], .seq (.reg [Oo 1 (.box (.t 0)),
 Oo 2 (.mv (.c (.bool false)))] [1])
 (.seq (.seq (.reg [Oo 3 (.faddr 1 (.t 1)),
 Oo 4 (.load false 1 (.t 3)),
 Oo 5 (.bin .lss (.t 4) (.c (.int .i64 1))),
 Mo 6 5,
 ⟨(some 7), some (6, false), .faddr 1 (.t 1), []⟩,
 ⟨(some 8), some (6, false), .load false 1 (.t 7), []⟩,
 ⟨(some 9), some (6, false), .bin .gtr (.t 8) (.c (.int .i64 1048576)), []⟩,
 Oo 10 (.pick (.t 6) (.c (.bool true)) (.t 9))] [1, 10])
 (.cond (.t 10) (.seq (.reg [Oo 2 (.mv (.c (.bool false)))] [2])
 (.ret))
 (.skip)))
 (.seq (.seq (.reg [Oo 11 (.faddr 0 (.t 1)),
 Oo 12 (.load false 1 (.t 11))] [1, 12])
 (.blk 0 (.seq (.seq (.reg [Oo 14 (.bin .eql (.t 12) (.c (.int .i64 1))),
 Mo 13 14] [1, 12, 13])
 (.cond (.t 13) (.skip)
 (.reg [Oo 15 (.bin .eql (.t 12) (.c (.int .i64 2))),
 Mo 13 15] [1, 12, 13])))
 (.cond (.t 13) (.seq (.reg [Oo 16 (.faddr 2 (.t 1)),
 Oo 17 (.load false 1 (.t 16)),
 Oo 18 (.len false (.t 17)),
 Oo 19 (.bin .eql (.t 18) (.c (.int .i64 0))),
 Mo 2 19] [2])
 (.ret))
 (.seq (.reg [Oo 21 (.bin .eql (.t 12) (.c (.int .i64 3))),
 Mo 20 21] [1, 20])
 (.cond (.t 20) (.seq (.reg [Oo 22 (.faddr 2 (.t 1)),
 Oo 23 (.load false 1 (.t 22)),
 Oo 24 (.len false (.t 23)),
 Oo 25 (.faddr 1 (.t 1)),
 Oo 26 (.load false 1 (.t 25)),
 Oo 27 (.bin .eql (.t 24) (.t 26)),
 Mo 2 27] [2])
 (.ret))
 (.skip)))))))
 (.seq (.reg [Oo 2 (.mv (.c (.bool false)))] [2])
 (.ret))))⟩
theorem c76 : cmpF Tryz.prog ⟨[(28, 2), (29, 2), (30, 3), (50, 2)], false, false⟩ Tryz.f76 K76 = some A76 := by kernel_rfl
/-- collator/collatorref11.kind -/
def K79 : List (List Nat) := [[0], [2]]
def A79 : AFunc := ⟨1, [.t 2], .seq (.reg [Oo 2 (.mv (.c (.bool false)))] [0])
 (.seq (.reg [Mo 3 0,
 Oo 4 (.bin .geq (.t 3) (.c (.int .i64 1))),
 Mo 5 4,
 ⟨(some 6), some (5, true), .mv (.t 0), []⟩,
 ⟨(some 7), some (5, true), .bin .leq (.t 6) (.c (.int .i64 3)), []⟩,
 Oo 8 (.pick (.t 5) (.t 7) (.c (.bool false))),
 Mo 2 8] [2])
 (.ret))⟩
theorem c79 : cmpF Tryz.prog ⟨[(28, 2), (29, 2), (30, 3), (50, 2)], false, false⟩ Tryz.f79 K79 = some A79 := by kernel_rfl
/-- collator/collatorref01.split -/
def K80 : List (List Nat) := [[0], [0, 3], [0, 3, 4], [0, 3, 4, 5], [0, 3, 4, 5, 9], [0, 3, 4, 5, 15], [0, 3, 5], [0, 3, 4, 5], [0, 3, 4, 5], [2]]
def L80x0 : ACode := .seq (.seq (.reg [Mo 6 5,
 Mo 7 0,
 Oo 8 (.len true (.t 7)),
 Oo 9 (.bin .lss (.t 6) (.t 8))] [0, 3, 4, 5, 9])
 (.cond (.t 9) (.skip)
 (.exit 0)))
 (.seq (.blk 1 (.seq (.reg [Mo 12 0,
 Mo 13 5,
 Oo 14 (.sidx (.t 12) (.t 13)),
 Oo 15 (.bin .eql (.t 14) (.c (.int .u8 47)))] [0, 3, 4, 5, 15])
 (.cond (.t 15) (.seq (.reg [Mo 16 3,
 Mo 17 0,
 Mo 18 4,
 Mo 19 5,
 Oo 20 (.slice none (.t 17) (some (.t 18)) (some (.t 19)) none),
 Oo 21 (.mks 1 1 false [(.str [])] [(0, (.t 20))]),
 Oo 22 (.app none 1 16 (.t 16) (.t 21)),
 Mo 3 22] [0, 3, 5])
 (.reg [Mo 23 5,
 Oo 24 (.bin .add (.t 23) (.c (.int .i64 1))),
 Mo 4 24] [0, 3, 4, 5]))
 (.skip))))
 (.reg [Mo 10 5,
 Oo 11 (.bin .add (.t 10) (.c (.int .i64 1))),
 Mo 5 11] [0, 3, 4, 5]))
def A80 : AFunc := ⟨1, [.t 2], .seq (.reg [Oo 2 (.mv (.c (.sl 1 [] .nil)))] [0])
 (.seq (.reg [Oo 3 (.mv (.c (.sl 1 [] .nil)))] [0, 3])
 (.seq (.reg [Oo 4 (.mv (.c (.int .i64 0)))] [0, 3, 4])
 (.seq (.seq (.reg [Oo 5 (.mv (.c (.int .i64 0)))] [0, 3, 4, 5])
 (.blk 0 (.loop L80x0)))
 (.seq (.reg [Mo 25 3,
 Mo 26 0,
 Mo 27 4,
 Oo 28 (.slice none (.t 26) (some (.t 27)) none none),
 Oo 29 (.mks 1 1 false [(.str [])] [(0, (.t 28))]),
 Oo 30 (.app none 1 16 (.t 25) (.t 29)),
 Mo 2 30] [2])
 (.ret)))))⟩
theorem c80 : cmpF Tryz.prog ⟨[(28, 2), (29, 2), (30, 3), (50, 2)], false, false⟩ Tryz.f80 K80 = some A80 := by kernel_rfl
/-- collator/collatorref04.may -/
def K81 : List (List Nat) := [[1], [1, 20], [2], [1, 23], [2], [2]]
def A81 : AFunc := ⟨1, [.t 2], .seq (.reg [Oo 1 (.box (.t 0)),
 Oo 2 (.mv (.c (.bool false)))] [1])
 (.seq (.seq (.reg [Oo 3 (.faddr 0 (.t 1)),
 Oo 4 (.load false 1 (.t 3)),
 Oo 5 (.bin .lss (.t 4) (.c (.int .i64 1))),
 Mo 6 5,
 ⟨(some 7), some (6, false), .faddr 0 (.t 1), []⟩,
 ⟨(some 8), some (6, false), .load false 1 (.t 7), []⟩,
 ⟨(some 9), some (6, false), .bin .gtr (.t 8) (.c (.int .i64 3)), []⟩,
 Oo 10 (.pick (.t 6) (.c (.bool true)) (.t 9)),
 Mo 11 10,
 ⟨(some 12), some (11, false), .faddr 1 (.t 1), []⟩,
 ⟨(some 13), some (11, false), .load false 1 (.t 12), []⟩,
 ⟨(some 14), some (11, false), .bin .lss (.t 13) (.c (.int .i64 1)), []⟩,
 Oo 15 (.pick (.t 11) (.c (.bool true)) (.t 14)),
 Mo 16 15,
 ⟨(some 17), some (16, false), .faddr 1 (.t 1), []⟩,
 ⟨(some 18), some (16, false), .load false 1 (.t 17), []⟩,
 ⟨(some 19), some (16, false), .bin .gtr (.t 18) (.c (.int .i64 1048576)), []⟩,
 Oo 20 (.pick (.t 16) (.c (.bool true)) (.t 19))] [1, 20])
 (.cond (.t 20) (.seq (.reg [Oo 2 (.mv (.c (.bool false)))] [2])
 (.ret))
 (.skip)))
 (.seq (.seq (.reg [Oo 21 (.faddr 0 (.t 1)),
 Oo 22 (.load false 1 (.t 21)),
 Oo 23 (.bin .eql (.t 22) (.c (.int .i64 3)))] [1, 23])
 (.cond (.t 23) (.seq (.reg [Oo 24 (.faddr 2 (.t 1)),
 Oo 25 (.load false 1 (.t 24)),
 Oo 26 (.len false (.t 25)),
 Oo 27 (.faddr 1 (.t 1)),
 Oo 28 (.load false 1 (.t 27)),
 Oo 29 (.bin .eql (.t 26) (.t 28)),
 Mo 2 29] [2])
 (.ret))
 (.skip)))
 (.seq (.reg [Oo 30 (.faddr 2 (.t 1)),
 Oo 31 (.load false 1 (.t 30)),
 Oo 32 (.len false (.t 31)),
 Oo 33 (.bin .eql (.t 32) (.c (.int .i64 0))),
 Mo 2 33] [2])
 (.ret))))⟩
theorem c81 : cmpF Tryz.prog ⟨[(28, 2), (29, 2), (30, 3), (50, 2)], false, false⟩ Tryz.f81 K81 = some A81 := by kernel_rfl
/-- strings.Cut -/
def K82 : List (List Nat) := [[0, 1], [4, 5, 6]]
def A82 : AFunc := ⟨2, [.t 4, .t 5, .t 6], .seq (.reg [Oo 4 (.mv (.c (.str []))),
 Oo 5 (.mv (.c (.str []))),
 Oo 6 (.mv (.c (.bool false)))] [0, 1])
 (.seq (.reg [Mo 7 0,
 Mo 8 1,
 Oo 9 (.call 101 [(.t 7), (.t 8)]),
 Oo 10 (.ext (.t 9) 0),
 Oo 11 (.ext (.t 9) 1),
 Oo 12 (.ext (.t 9) 2),
 Mo 4 10,
 Mo 5 11,
 Mo 6 12] [4, 5, 6])
 (.ret))⟩
theorem c82 : cmpF Tryz.prog ⟨[(28, 2), (29, 2), (30, 3), (50, 2)], false, false⟩ Tryz.f82 K82 = some A82 := by kernel_rfl
/-- collator/script.Decode$2 -/
def K85 : List (List Nat) := [[0, 1], [1, 4], [1, 4], [1, 4, 5, 6], [1, 4, 5], [5], [3]]
def A85 : AFunc := ⟨2, [.t 3], .seq (.reg [Oo 3 (.mv (.c (.int .i64 0)))] [0, 1])
 (.seq (.reg [Oo 7 (.load false 1 (.t 1)),
 Mo 8 0,
 Oo 9 (.call 86 [(.t 7), (.t 8)]),
 Mo 4 9] [1, 4])
 (.seq (.reg [Mo 10 4,
 Oo 11 (.bin .gtr (.t 10) (.c (.int .i64 0))),
 Oo 12 (.call 87 [(.t 11)])] [1, 4])
 (.seq (.reg [Oo 14 (.load false 1 (.t 1)),
 Mo 15 4,
 Oo 16 (.slice none (.t 14) none (some (.t 15)) none),
 Oo 17 (.call 83 [(.t 16)]),
 Mo 13 17,
 Oo 18 (.ext (.t 13) 0),
 Oo 19 (.ext (.t 13) 1),
 Mo 5 18,
 Mo 6 19] [1, 4, 5, 6])
 (.seq (.regD [Mo 20 6,
 Oo 21 (.isn false (.t 20)),
 Mo 22 21,
 ⟨(some 23), some (22, true), .mv (.t 5), []⟩,
 ⟨(some 24), some (22, true), .bin .geq (.t 23) (.c (.int .i64 0)), []⟩,
 Oo 25 (.pick (.t 22) (.t 24) (.c (.bool false))),
 Mo 26 25,
 ⟨(some 27), some (26, true), .mv (.t 5), []⟩,
 ⟨(some 28), some (26, true), .call 51 [(.t 27)], []⟩,
 ⟨(some 29), some (26, true), .load false 1 (.t 1), []⟩,
 ⟨(some 30), some (26, true), .mv (.t 4), []⟩,
 ⟨(some 31), some (26, true), .slice none (.t 29) none (some (.t 30)) none, []⟩,
 ⟨(some 32), some (26, true), .bin .eql (.t 28) (.t 31), [8]⟩,
 ⟨(some 33), none, .pick (.t 26) (.t 32) (.c (.bool false)), [8]⟩,
 ⟨(some 34), none, .call 87 [(.t 33)], [8, 9]⟩] [1, 4, 5])
 (.seq (.reg [Oo 35 (.load false 1 (.t 1)),
 Mo 36 4,
 Oo 37 (.bin .add (.t 36) (.c (.int .i64 1))),
 Oo 38 (.slice none (.t 35) (some (.t 37)) none none),
 ⟨none, none, .store 1 (.t 1) (.t 38), []⟩] [5])
 (.seq (.reg [Mo 39 5,
 Mo 3 39] [3])
 (.ret)))))))⟩
theorem c85 : cmpF Tryz.prog ⟨[(28, 2), (29, 2), (30, 3), (50, 2)], false, false⟩ Tryz.f85 K85 = some A85 := by kernel_rfl
/-- collator/collatorref04.edit -/
def K89 : List (List Nat) := [[0, 2], [0, 2, 5], [0, 2, 5, 6], [0, 2, 5, 6, 16], [0, 2, 5, 6, 23], [0, 2, 5, 6], [0, 2, 5, 6], [2, 5, 7, 8, 9], [2, 5, 7, 8, 42], [2, 3, 4], [2, 5, 7, 8, 10], [2, 5, 7, 8, 10, 11], [2, 5, 7, 8, 10, 11, 53], [2, 5, 7, 10, 11, 12, 13, 14], [2, 5, 7, 10, 11, 12, 13, 69], [2, 3, 4], [2, 5, 7, 10, 11, 12, 13], [2, 5, 7, 8, 10, 11], [2, 5, 7, 8, 10, 11], [2, 3, 4]]
def L89x0 : ACode := .seq (.seq (.reg [Mo 15 6,
 Oo 16 (.bin .lss (.t 15) (.c (.int .i64 3)))] [0, 2, 5, 6, 16])
 (.cond (.t 16) (.skip)
 (.exit 0)))
 (.seq (.blk 1 (.seq (.regD [Mo 19 6,
 Oo 20 (.sidx (.c (.str [61, 45, 43])) (.t 19)),
 Mo 21 0,
 Oo 22 (.sidx (.t 21) (.c (.int .i64 0))),
 Oo 23 (.bin .eql (.t 20) (.t 22))] [0, 2, 5, 6, 23])
 (.cond (.t 23) (.reg [Mo 24 6,
 Oo 25 (.bin .add (.t 24) (.c (.int .i64 1))),
 Mo 5 25] [0, 2, 5, 6])
 (.skip))))
 (.reg [Mo 17 6,
 Oo 18 (.bin .add (.t 17) (.c (.int .i64 1))),
 Mo 6 18] [0, 2, 5, 6]))
def L89x1 : ACode := .seq (.seq (.reg [Mo 47 5,
 Oo 48 (.bin .eql (.t 47) (.c (.int .i64 3))),
 Mo 49 48,
 ⟨(some 50), some (49, true), .mv (.t 11), []⟩,
 ⟨(some 51), some (49, true), .mv (.t 7), []⟩,
 ⟨(some 52), some (49, true), .bin .lss (.t 50) (.t 51), []⟩,
 Oo 53 (.pick (.t 49) (.t 52) (.c (.bool false)))] [2, 5, 7, 8, 10, 11, 53])
 (.cond (.t 53) (.skip)
 (.exit 2)))
 (.seq (.blk 3 (.seq (.reg [Mo 57 8,
 Oo 58 (.call 59 [(.t 57), (.c (.int .u8 58))]),
 Mo 56 58,
 Oo 59 (.ext (.t 56) 0),
 Oo 60 (.ext (.t 56) 1),
 Oo 61 (.ext (.t 56) 2),
 Mo 12 59,
 Mo 13 60,
 Mo 14 61] [2, 5, 7, 10, 11, 12, 13, 14])
 (.seq (.seq (.reg [Mo 62 14,
 Oo 63 (.un .not (.t 62)),
 Mo 64 63,
 ⟨(some 65), some (64, false), .mv (.t 12), []⟩,
 ⟨(some 66), some (64, false), .mv (.t 13), []⟩,
 ⟨(some 67), some (64, false), .len true (.t 66), []⟩,
 ⟨(some 68), some (64, false), .bin .gtr (.t 65) (.t 67), []⟩,
 Oo 69 (.pick (.t 64) (.c (.bool true)) (.t 68))] [2, 5, 7, 10, 11, 12, 13, 69])
 (.cond (.t 69) (.seq (.reg [Oo 70 (.agg [(.int .i64 0), (.int .i64 0), (.sl 1 [] .nil)] []),
 ⟨none, none, .store 3 (.t 2) (.t 70), []⟩,
 Oo 3 (.mv (.c (.str []))),
 Oo 4 (.mv (.c (.bool false)))] [2, 3, 4])
 (.ret))
 (.skip)))
 (.seq (.regD [Oo 71 (.faddr 2 (.t 10)),
 Oo 72 (.load false 1 (.t 71)),
 Mo 73 13,
 Mo 74 12,
 Oo 75 (.slice none (.t 73) none (some (.t 74)) none),
 Oo 76 (.mks 1 1 false [(.str [])] [(0, (.t 75))]),
 ⟨(some 77), none, .app none 1 16 (.t 72) (.t 76), [1]⟩,
 Oo 78 (.faddr 2 (.t 10)),
 ⟨none, none, .store 1 (.t 78) (.t 77), [6, 1]⟩] [2, 5, 7, 10, 11, 12, 13])
 (.reg [Mo 79 13,
 Mo 80 12,
 Oo 81 (.slice none (.t 79) (some (.t 80)) none none),
 Mo 8 81] [2, 5, 7, 8, 10, 11])))))
 (.reg [Mo 54 11,
 Oo 55 (.bin .add (.t 54) (.c (.int .i64 1))),
 Mo 11 55] [2, 5, 7, 8, 10, 11]))
def A89 : AFunc := ⟨1, [.c 2 true 3, .t 3, .t 4], .seq (.reg [Oo 2 (.alloc [(.int .i64 0), (.int .i64 0), (.sl 1 [] .nil)]),
 Oo 3 (.mv (.c (.str []))),
 Oo 4 (.mv (.c (.bool false)))] [0, 2])
 (.seq (.reg [Oo 5 (.mv (.c (.int .i64 0)))] [0, 2, 5])
 (.seq (.seq (.reg [Oo 6 (.mv (.c (.int .i64 0)))] [0, 2, 5, 6])
 (.blk 0 (.loop L89x0)))
 (.seq (.reg [Mo 27 0,
 Oo 28 (.slice none (.t 27) (some (.c (.int .i64 1))) none none),
 Oo 29 (.call 59 [(.t 28), (.c (.int .u8 59))]),
 Mo 26 29,
 Oo 30 (.ext (.t 26) 0),
 Oo 31 (.ext (.t 26) 1),
 Oo 32 (.ext (.t 26) 2),
 Mo 7 30,
 Mo 8 31,
 Mo 9 32] [2, 5, 7, 8, 9])
 (.seq (.seq (.reg [Mo 33 5,
 Oo 34 (.bin .eql (.t 33) (.c (.int .i64 0))),
 Mo 35 34,
 ⟨(some 36), some (35, false), .mv (.t 9), []⟩,
 ⟨(some 37), some (35, false), .un .not (.t 36), []⟩,
 Oo 38 (.pick (.t 35) (.c (.bool true)) (.t 37)),
 Mo 39 38,
 ⟨(some 40), some (39, false), .mv (.t 7), []⟩,
 ⟨(some 41), some (39, false), .bin .gtr (.t 40) (.c (.int .i64 1048576)), []⟩,
 Oo 42 (.pick (.t 39) (.c (.bool true)) (.t 41))] [2, 5, 7, 8, 42])
 (.cond (.t 42) (.seq (.reg [Oo 43 (.agg [(.int .i64 0), (.int .i64 0), (.sl 1 [] .nil)] []),
 ⟨none, none, .store 3 (.t 2) (.t 43), []⟩,
 Oo 3 (.mv (.c (.str []))),
 Oo 4 (.mv (.c (.bool false)))] [2, 3, 4])
 (.ret))
 (.skip)))
 (.seq (.reg [Mo 44 5,
 Mo 45 7,
 Oo 46 (.agg [(.int .i64 0), (.int .i64 0), (.sl 1 [] .nil)] [(0, 1, (.t 44)), (1, 1, (.t 45))]),
 Oo 10 (.alloc [(.int .i64 0), (.int .i64 0), (.sl 1 [] .nil)]),
 ⟨none, none, .store 3 (.t 10) (.t 46), []⟩] [2, 5, 7, 8, 10])
 (.seq (.seq (.reg [Oo 11 (.mv (.c (.int .i64 0)))] [2, 5, 7, 8, 10, 11])
 (.blk 2 (.loop L89x1)))
 (.seq (.reg [Oo 82 (.load true 3 (.t 10)),
 Mo 83 8,
 ⟨none, none, .store 3 (.t 2) (.t 82), []⟩,
 Mo 3 83,
 Oo 4 (.mv (.c (.bool true)))] [2, 3, 4])
 (.ret))))))))⟩
theorem c89 : cmpF Tryz.prog ⟨[(28, 2), (29, 2), (30, 3), (50, 2)], false, false⟩ Tryz.f89 K89 = some A89 := by kernel_rfl
/-- collator/collatorlaw01.Path -/
def K90 : List (List Nat) := [[0], [0, 3], [0, 3, 4], [0, 3, 4, 5], [0, 3, 4, 5, 14], [0, 3, 4, 5], [0, 3, 4, 5], [4, 28], [2], [2]]
def L90x0 : ACode := .seq (.seq (.reg [Mo 7 5,
 Mo 8 0,
 Oo 9 (.len false (.t 8)),
 Oo 10 (.bin .lss (.t 7) (.t 9)),
 Mo 11 10,
 ⟨(some 12), some (11, true), .mv (.t 5), []⟩,
 ⟨(some 13), some (11, true), .bin .lss (.t 12) (.c (.int .i64 8)), []⟩,
 Oo 14 (.pick (.t 11) (.t 13) (.c (.bool false)))] [0, 3, 4, 5, 14])
 (.cond (.t 14) (.skip)
 (.exit 0)))
 (.seq (.blk 1 (.reg [Mo 17 4,
 Mo 18 3,
 Mo 19 0,
 Mo 20 5,
 Oo 21 (.iaddr 1 (.t 19) (.t 20)),
 Oo 22 (.load false 1 (.t 21)),
 Oo 23 (.call 106 [(.t 22), (.c (.int .i64 8))]),
 Oo 24 (.iaddr 1 (.t 18) (.t 23)),
 Oo 25 (.load false 1 (.t 24)),
 Oo 26 (.call 65 [(.t 17), (.t 25)]),
 Mo 4 26] [0, 3, 4, 5]))
 (.reg [Mo 15 5,
 Oo 16 (.bin .add (.t 15) (.c (.int .i64 1))),
 Mo 5 16] [0, 3, 4, 5]))
def A90 : AFunc := ⟨1, [.t 2], .seq (.reg [Oo 2 (.mv (.c (.str [])))] [0])
 (.seq (.reg [Oo 6 (.mks 8 1 false [(.str [])] [(0, (.c (.str [97]))), (1, (.c (.str [98]))), (2, (.c (.str [97, 98]))), (3, (.c (.str [97, 33]))), (4, (.c (.str [97, 46, 98]))), (5, (.c (.str [46, 46, 46]))), (6, (.c (.str [90]))), (7, (.c (.str [255])))]),
 Mo 3 6] [0, 3])
 (.seq (.reg [Oo 4 (.mv (.c (.str [])))] [0, 3, 4])
 (.seq (.seq (.reg [Oo 5 (.mv (.c (.int .i64 0)))] [0, 3, 4, 5])
 (.blk 0 (.loop L90x0)))
 (.seq (.seq (.reg [Mo 27 4,
 Oo 28 (.bin .eql (.t 27) (.c (.str [])))] [4, 28])
 (.cond (.t 28) (.seq (.reg [Oo 2 (.mv (.c (.str [97])))] [2])
 (.ret))
 (.skip)))
 (.seq (.reg [Mo 29 4,
 Mo 2 29] [2])
 (.ret))))))⟩
theorem c90 : cmpF Tryz.prog ⟨[(28, 2), (29, 2), (30, 3), (50, 2)], false, false⟩ Tryz.f90 K90 = some A90 := by kernel_rfl
/-- collator/collatorlaw02.pick -/
def K91 : List (List Nat) := [[0, 1], [0, 1, 6], [0, 1], [4]]
def A91 : AFunc := ⟨2, [.t 4], .seq (.reg [Oo 4 (.mv (.c (.int .i64 0)))] [0, 1])
 (.seq (.seq (.reg [Mo 5 0,
 Oo 6 (.bin .lss (.t 5) (.c (.int .i64 0)))] [0, 1, 6])
 (.cond (.t 6) (.reg [Mo 7 0,
 Oo 8 (.bin .add (.t 7) (.c (.int .i64 1))),
 Oo 9 (.un .neg (.t 8)),
 Mo 0 9] [0, 1])
 (.skip)))
 (.seq (.reg [Mo 10 0,
 Mo 11 1,
 Oo 12 (.bin .rem (.t 10) (.t 11)),
 Mo 4 12] [4])
 (.ret)))⟩
theorem c91 : cmpF Tryz.prog ⟨[(28, 2), (29, 2), (30, 3), (50, 2)], false, false⟩ Tryz.f91 K91 = some A91 := by kernel_rfl
/-- collator/collatorref01.Check -/
def K92 : List (List Nat) := [[0], [3], [3, 4], [3, 4, 11], [3, 4, 5], [3, 4, 20], [2], [3, 4], [23], [2], [2]]
def L92x0 : ACode := .seq (.seq (.reg [Mo 8 4,
 Mo 9 3,
 Oo 10 (.len false (.t 9)),
 Oo 11 (.bin .lss (.t 8) (.t 10))] [3, 4, 11])
 (.cond (.t 11) (.skip)
 (.exit 0)))
 (.seq (.blk 1 (.seq (.reg [Mo 14 3,
 Mo 15 4,
 Oo 16 (.iaddr 1 (.t 14) (.t 15)),
 Oo 17 (.load false 1 (.t 16)),
 Oo 18 (.call 107 [(.t 17)]),
 Mo 5 18] [3, 4, 5])
 (.seq (.reg [Mo 19 5,
 Oo 20 (.un .not (.t 19))] [3, 4, 20])
 (.cond (.t 20) (.seq (.reg [Oo 2 (.mv (.c (.int .i64 2)))] [2])
 (.ret))
 (.skip)))))
 (.reg [Mo 12 4,
 Oo 13 (.bin .add (.t 12) (.c (.int .i64 1))),
 Mo 4 13] [3, 4]))
def A92 : AFunc := ⟨1, [.t 2], .seq (.reg [Oo 2 (.mv (.c (.int .i64 0)))] [0])
 (.seq (.reg [Mo 6 0,
 Oo 7 (.call 80 [(.t 6)]),
 Mo 3 7] [3])
 (.seq (.seq (.reg [Oo 4 (.mv (.c (.int .i64 0)))] [3, 4])
 (.blk 0 (.loop L92x0)))
 (.seq (.seq (.reg [Mo 21 3,
 Oo 22 (.len false (.t 21)),
 Oo 23 (.bin .gtr (.t 22) (.c (.int .i64 16)))] [23])
 (.cond (.t 23) (.seq (.reg [Oo 2 (.mv (.c (.int .i64 3)))] [2])
 (.ret))
 (.skip)))
 (.seq (.reg [Oo 2 (.mv (.c (.int .i64 0)))] [2])
 (.ret)))))⟩
theorem c92 : cmpF Tryz.prog ⟨[(28, 2), (29, 2), (30, 3), (50, 2)], false, false⟩ Tryz.f92 K92 = some A92 := by kernel_rfl
/-- collator/collatorref02.fault -/
def K93 : List (List Nat) := [[0, 2, 4], [0, 2, 4, 7], [0, 2, 4, 7, 13], [6], [0, 2, 4, 8], [0, 2, 4, 21], [6], [0, 2, 4, 25], [6], [0, 2, 4, 30], [6], [0, 2, 4, 9], [0, 2, 4, 40], [6], [0, 2, 4, 45], [6], [50], [6], [6]]
def A93 : AFunc := ⟨3, [.t 6], .seq (.reg [Oo 4 (.box (.t 1)),
 Oo 6 (.mv (.c (.int .i64 0)))] [0, 2, 4])
 (.seq (.reg [Mo 10 2,
 Oo 11 (.call 92 [(.t 10)]),
 Mo 7 11] [0, 2, 4, 7])
 (.seq (.seq (.reg [Mo 12 7,
 Oo 13 (.bin .neq (.t 12) (.c (.int .i64 0)))] [0, 2, 4, 7, 13])
 (.cond (.t 13) (.seq (.reg [Mo 14 7,
 Mo 6 14] [6])
 (.ret))
 (.skip)))
 (.seq (.reg [Mo 15 2,
 Oo 16 (.call 64 [(.t 15)]),
 Oo 17 (.len false (.t 16)),
 Mo 8 17] [0, 2, 4, 8])
 (.seq (.seq (.reg [Mo 18 8,
 Oo 19 (.faddr 0 (.t 4)),
 Oo 20 (.load false 1 (.t 19)),
 Oo 21 (.bin .gtr (.t 18) (.t 20))] [0, 2, 4, 21])
 (.cond (.t 21) (.seq (.reg [Oo 6 (.mv (.c (.int .i64 3)))] [6])
 (.ret))
 (.skip)))
 (.seq (.seq (.reg [Mo 22 0,
 Mo 23 2,
 Oo 24 (.call 108 [(.t 22), (.t 23)]),
 Oo 25 (.bin .gtr (.t 24) (.c (.int .i64 1)))] [0, 2, 4, 25])
 (.cond (.t 25) (.seq (.reg [Oo 6 (.mv (.c (.int .i64 4)))] [6])
 (.ret))
 (.skip)))
 (.seq (.seq (.reg [Mo 26 0,
 Mo 27 2,
 Oo 28 (.faddr 1 (.t 4)),
 Oo 29 (.load false 1 (.t 28)),
 Oo 30 (.call 109 [(.t 26), (.t 27), (.t 29), (.c (.int .i64 5))])] [0, 2, 4, 30])
 (.cond (.t 30) (.seq (.reg [Oo 6 (.mv (.c (.int .i64 5)))] [6])
 (.ret))
 (.skip)))
 (.seq (.reg [Mo 31 2,
 Oo 32 (.call 110 [(.t 31)]),
 Mo 9 32] [0, 2, 4, 9])
 (.seq (.seq (.reg [Mo 33 9,
 Oo 34 (.bin .neq (.t 33) (.c (.str []))),
 Mo 35 34,
 ⟨(some 36), some (35, true), .mv (.t 0), []⟩,
 ⟨(some 37), some (35, true), .mv (.t 9), []⟩,
 ⟨(some 38), some (35, true), .call 111 [(.t 36), (.t 37)], []⟩,
 ⟨(some 39), some (35, true), .un .not (.t 38), []⟩,
 Oo 40 (.pick (.t 35) (.t 39) (.c (.bool false)))] [0, 2, 4, 40])
 (.cond (.t 40) (.seq (.reg [Oo 6 (.mv (.c (.int .i64 6)))] [6])
 (.ret))
 (.skip)))
 (.seq (.seq (.reg [Mo 41 0,
 Mo 42 2,
 Oo 43 (.faddr 1 (.t 4)),
 Oo 44 (.load false 1 (.t 43)),
 Oo 45 (.call 109 [(.t 41), (.t 42), (.t 44), (.c (.int .i64 7))])] [0, 2, 4, 45])
 (.cond (.t 45) (.seq (.reg [Oo 6 (.mv (.c (.int .i64 7)))] [6])
 (.ret))
 (.skip)))
 (.seq (.seq (.reg [Mo 46 0,
 Mo 47 2,
 Oo 48 (.faddr 1 (.t 4)),
 Oo 49 (.load false 1 (.t 48)),
 Oo 50 (.call 109 [(.t 46), (.t 47), (.t 49), (.c (.int .i64 9))])] [50])
 (.cond (.t 50) (.seq (.reg [Oo 6 (.mv (.c (.int .i64 9)))] [6])
 (.ret))
 (.skip)))
 (.seq (.reg [Oo 6 (.mv (.c (.int .i64 0)))] [6])
 (.ret))))))))))))⟩
theorem c93 : cmpF Tryz.prog ⟨[(28, 2), (29, 2), (30, 3), (50, 2)], false, false⟩ Tryz.f93 K93 = some A93 := by kernel_rfl
/-- collator/collatorref08.files -/
def K94 : List (List Nat) := [[0], [0, 3], [0, 3, 4], [0, 3, 4, 10], [0, 3, 4, 6], [0, 3, 4, 32], [0, 3, 4], [0, 3, 4], [2]]
def L94x0 : ACode := .seq (.seq (.reg [Mo 7 4,
 Mo 8 0,
 Oo 9 (.len false (.t 8)),
 Oo 10 (.bin .lss (.t 7) (.t 9))] [0, 3, 4, 10])
 (.cond (.t 10) (.skip)
 (.exit 0)))
 (.seq (.blk 1 (.seq (.reg [Mo 14 3,
 Mo 15 0,
 Mo 16 4,
 Oo 17 (.iaddr 4 (.t 15) (.t 16)),
 Oo 18 (.faddr 0 (.t 17)),
 Oo 19 (.load false 1 (.t 18)),
 Oo 20 (.call 66 [(.t 14), (.t 19)]),
 Mo 13 20,
 Oo 21 (.ext (.t 13) 0),
 Oo 22 (.ext (.t 13) 1),
 Oo 5 (.alloc [(.str []), (.int .i64 0), (.str []), (.bool false)]),
 ⟨none, none, .store 4 (.t 5) (.t 21), []⟩,
 Mo 6 22] [0, 3, 4, 6])
 (.seq (.reg [Mo 23 0,
 Mo 24 4,
 Oo 25 (.iaddr 4 (.t 23) (.t 24)),
 Oo 26 (.faddr 1 (.t 25)),
 Oo 27 (.load false 1 (.t 26)),
 Oo 28 (.bin .eql (.t 27) (.c (.int .i64 2))),
 Mo 29 28,
 ⟨(some 30), some (29, true), .mv (.t 6), []⟩,
 ⟨(some 31), some (29, true), .un .not (.t 30), []⟩,
 Oo 32 (.pick (.t 29) (.t 31) (.c (.bool false)))] [0, 3, 4, 32])
 (.cond (.t 32) (.reg [Mo 33 3,
 Mo 34 0,
 Mo 35 4,
 Oo 36 (.iaddr 4 (.t 34) (.t 35)),
 Oo 37 (.load true 4 (.t 36)),
 Oo 38 (.mks 1 4 true [(.str []), (.int .i64 0), (.str []), (.bool false)] [(0, (.t 37))]),
 Oo 39 (.app none 4 48 (.t 33) (.t 38)),
 Mo 3 39] [0, 3, 4])
 (.skip)))))
 (.reg [Mo 11 4,
 Oo 12 (.bin .add (.t 11) (.c (.int .i64 1))),
 Mo 4 12] [0, 3, 4]))
def A94 : AFunc := ⟨1, [.t 2], .seq (.reg [Oo 2 (.mv (.c (.sl 4 [] .nil)))] [0])
 (.seq (.reg [Oo 3 (.mv (.c (.sl 4 [] .nil)))] [0, 3])
 (.seq (.seq (.reg [Oo 4 (.mv (.c (.int .i64 0)))] [0, 3, 4])
 (.blk 0 (.loop L94x0)))
 (.seq (.reg [Mo 40 3,
 Mo 2 40] [2])
 (.ret))))⟩
theorem c94 : cmpF Tryz.prog ⟨[(28, 2), (29, 2), (30, 3), (50, 2)], false, false⟩ Tryz.f94 K94 = some A94 := by kernel_rfl
/-- collator/collatorref07.Score -/
def K95 : List (List Nat) := [[0, 1], [0, 1, 12], [4], [4]]
def A95 : AFunc := ⟨2, [.t 4], .seq (.reg [Oo 4 (.mv (.c (.int .i64 0)))] [0, 1])
 (.seq (.seq (.reg [Mo 5 0,
 Oo 6 (.len false (.t 5)),
 Oo 7 (.bin .eql (.t 6) (.c (.int .i64 0))),
 Mo 8 7,
 ⟨(some 9), some (8, true), .mv (.t 1), []⟩,
 ⟨(some 10), some (8, true), .len false (.t 9), []⟩,
 ⟨(some 11), some (8, true), .bin .eql (.t 10) (.c (.int .i64 0)), []⟩,
 Oo 12 (.pick (.t 8) (.t 11) (.c (.bool false)))] [0, 1, 12])
 (.cond (.t 12) (.seq (.reg [Oo 4 (.mv (.c (.int .i64 100)))] [4])
 (.ret))
 (.skip)))
 (.seq (.reg [Mo 13 0,
 Mo 14 1,
 Oo 15 (.call 112 [(.t 13), (.t 14)]),
 Oo 16 (.bin .mul (.c (.int .i64 200)) (.t 15)),
 Mo 17 0,
 Oo 18 (.len false (.t 17)),
 Mo 19 1,
 Oo 20 (.len false (.t 19)),
 Oo 21 (.bin .add (.t 18) (.t 20)),
 Oo 22 (.bin .quo (.t 16) (.t 21)),
 Mo 4 22] [4])
 (.ret)))⟩
theorem c95 : cmpF Tryz.prog ⟨[(28, 2), (29, 2), (30, 3), (50, 2)], false, false⟩ Tryz.f95 K95 = some A95 := by kernel_rfl
/-- collator/collatorref03.Split -/
def K96 : List (List Nat) := [[0], [0, 3], [0, 3, 4], [0, 3, 4, 5], [0, 3, 4, 5, 9], [0, 3, 4, 5, 15], [0, 3, 5], [0, 3, 4, 5], [0, 3, 4, 5], [0, 3, 4, 29], [3], [2]]
def L96x0 : ACode := .seq (.seq (.reg [Mo 6 5,
 Mo 7 0,
 Oo 8 (.len true (.t 7)),
 Oo 9 (.bin .lss (.t 6) (.t 8))] [0, 3, 4, 5, 9])
 (.cond (.t 9) (.skip)
 (.exit 0)))
 (.seq (.blk 1 (.seq (.reg [Mo 12 0,
 Mo 13 5,
 Oo 14 (.sidx (.t 12) (.t 13)),
 Oo 15 (.bin .eql (.t 14) (.c (.int .u8 10)))] [0, 3, 4, 5, 15])
 (.cond (.t 15) (.seq (.reg [Mo 16 3,
 Mo 17 0,
 Mo 18 4,
 Mo 19 5,
 Oo 20 (.bin .add (.t 19) (.c (.int .i64 1))),
 Oo 21 (.slice none (.t 17) (some (.t 18)) (some (.t 20)) none),
 Oo 22 (.mks 1 1 false [(.str [])] [(0, (.t 21))]),
 Oo 23 (.app none 1 16 (.t 16) (.t 22)),
 Mo 3 23] [0, 3, 5])
 (.reg [Mo 24 5,
 Oo 25 (.bin .add (.t 24) (.c (.int .i64 1))),
 Mo 4 25] [0, 3, 4, 5]))
 (.skip))))
 (.reg [Mo 10 5,
 Oo 11 (.bin .add (.t 10) (.c (.int .i64 1))),
 Mo 5 11] [0, 3, 4, 5]))
def A96 : AFunc := ⟨1, [.t 2], .seq (.reg [Oo 2 (.mv (.c (.sl 1 [] .nil)))] [0])
 (.seq (.reg [Oo 3 (.mv (.c (.sl 1 [] .nil)))] [0, 3])
 (.seq (.reg [Oo 4 (.mv (.c (.int .i64 0)))] [0, 3, 4])
 (.seq (.seq (.reg [Oo 5 (.mv (.c (.int .i64 0)))] [0, 3, 4, 5])
 (.blk 0 (.loop L96x0)))
 (.seq (.seq (.reg [Mo 26 4,
 Mo 27 0,
 Oo 28 (.len true (.t 27)),
 Oo 29 (.bin .lss (.t 26) (.t 28))] [0, 3, 4, 29])
 (.cond (.t 29) (.reg [Mo 30 3,
 Mo 31 0,
 Mo 32 4,
 Oo 33 (.slice none (.t 31) (some (.t 32)) none none),
 Oo 34 (.mks 1 1 false [(.str [])] [(0, (.t 33))]),
 Oo 35 (.app none 1 16 (.t 30) (.t 34)),
 Mo 3 35] [3])
 (.skip)))
 (.seq (.reg [Mo 36 3,
 Mo 2 36] [2])
 (.ret))))))⟩
theorem c96 : cmpF Tryz.prog ⟨[(28, 2), (29, 2), (30, 3), (50, 2)], false, false⟩ Tryz.f96 K96 = some A96 := by kernel_rfl
/-- collator/collatorref05.Diff -/
def K97 : List (List Nat) := [[0, 1], [0, 1, 5], [0, 1, 5, 6], [0, 1, 5, 6, 7], [0, 1, 5, 6, 7, 8], [0, 1, 5, 6, 7, 8, 21], [0, 1, 5, 6, 7, 8, 42], [0, 1, 5, 6, 7, 8], [0, 1, 5, 6, 7, 8], [0, 1, 5, 6, 7, 8], [0, 1, 5, 6, 7, 8, 77], [0, 1, 5, 6, 7, 8], [0, 1, 5, 6, 7, 8], [0, 1, 5, 6, 7, 8], [0, 1, 5, 6, 7, 8], [4]]
def L97x0 : ACode := .seq (.seq (.reg [Mo 12 7,
 Mo 13 0,
 Oo 14 (.len false (.t 13)),
 Oo 15 (.bin .lss (.t 12) (.t 14)),
 Mo 16 15,
 ⟨(some 17), some (16, false), .mv (.t 8), []⟩,
 ⟨(some 18), some (16, false), .mv (.t 1), []⟩,
 ⟨(some 19), some (16, false), .len false (.t 18), []⟩,
 ⟨(some 20), some (16, false), .bin .lss (.t 17) (.t 19), []⟩,
 Oo 21 (.pick (.t 16) (.c (.bool true)) (.t 20))] [0, 1, 5, 6, 7, 8, 21])
 (.cond (.t 21) (.skip)
 (.exit 0)))
 (.blk 1 (.seq (.regD [Mo 22 7,
 Mo 23 0,
 Oo 24 (.len false (.t 23)),
 Oo 25 (.bin .lss (.t 22) (.t 24)),
 Mo 26 25,
 ⟨(some 27), some (26, true), .mv (.t 8), []⟩,
 ⟨(some 28), some (26, true), .mv (.t 1), []⟩,
 ⟨(some 29), some (26, true), .len false (.t 28), []⟩,
 ⟨(some 30), some (26, true), .bin .lss (.t 27) (.t 29), []⟩,
 Oo 31 (.pick (.t 26) (.t 30) (.c (.bool false))),
 Mo 32 31,
 ⟨(some 33), some (32, true), .mv (.t 0), []⟩,
 ⟨(some 34), some (32, true), .mv (.t 7), []⟩,
 ⟨(some 35), some (32, true), .iaddr 1 (.t 33) (.t 34), []⟩,
 ⟨(some 36), some (32, true), .load false 1 (.t 35), []⟩,
 ⟨(some 37), some (32, true), .mv (.t 1), []⟩,
 ⟨(some 38), some (32, true), .mv (.t 8), []⟩,
 ⟨(some 39), some (32, true), .iaddr 1 (.t 37) (.t 38), []⟩,
 ⟨(some 40), some (32, true), .load false 1 (.t 39), []⟩,
 ⟨(some 41), some (32, true), .bin .eql (.t 36) (.t 40), []⟩,
 Oo 42 (.pick (.t 32) (.t 41) (.c (.bool false)))] [0, 1, 5, 6, 7, 8, 42])
 (.cond (.t 42) (.seq (.reg [Mo 43 6,
 Oo 44 (.call 114 [(.t 43), (.c (.int .i64 1)), (.c (.sl 1 [] .nil))]),
 Mo 6 44] [0, 1, 5, 6, 7, 8])
 (.seq (.reg [Mo 45 7,
 Oo 46 (.bin .add (.t 45) (.c (.int .i64 1))),
 Mo 7 46] [0, 1, 5, 6, 7, 8])
 (.reg [Mo 47 8,
 Oo 48 (.bin .add (.t 47) (.c (.int .i64 1))),
 Mo 8 48] [0, 1, 5, 6, 7, 8])))
 (.seq (.regD [Mo 49 7,
 Mo 50 0,
 Oo 51 (.len false (.t 50)),
 Oo 52 (.bin .lss (.t 49) (.t 51)),
 Mo 53 52,
 ⟨(some 54), some (53, true), .mv (.t 8), []⟩,
 ⟨(some 55), some (53, true), .mv (.t 1), []⟩,
 ⟨(some 56), some (53, true), .len false (.t 55), []⟩,
 ⟨(some 57), some (53, true), .bin .eql (.t 54) (.t 56), []⟩,
 ⟨(some 58), some (53, true), .mv (.t 57), []⟩,
 ⟨(some 59), some (58, false), .mv (.t 5), []⟩,
 ⟨(some 60), some (58, false), .mv (.t 7), []⟩,
 ⟨(some 61), some (58, false), .bin .add (.t 60) (.c (.int .i64 1)), []⟩,
 ⟨(some 62), some (58, false), .iaddr 1 (.t 59) (.t 61), []⟩,
 ⟨(some 63), some (58, false), .load false 1 (.t 62), []⟩,
 ⟨(some 64), some (58, false), .mv (.t 8), []⟩,
 ⟨(some 65), some (58, false), .iaddr 1 (.t 63) (.t 64), []⟩,
 ⟨(some 66), some (58, false), .load false 1 (.t 65), [14]⟩,
 ⟨(some 67), some (58, false), .mv (.t 5), []⟩,
 ⟨(some 68), some (58, false), .mv (.t 7), []⟩,
 ⟨(some 69), some (58, false), .iaddr 1 (.t 67) (.t 68), []⟩,
 ⟨(some 70), some (58, false), .load false 1 (.t 69), []⟩,
 ⟨(some 71), some (58, false), .mv (.t 8), []⟩,
 ⟨(some 72), some (58, false), .bin .add (.t 71) (.c (.int .i64 1)), []⟩,
 ⟨(some 73), some (58, false), .iaddr 1 (.t 70) (.t 72), []⟩,
 ⟨(some 74), some (58, false), .load false 1 (.t 73), [21]⟩,
 ⟨(some 75), some (58, false), .bin .geq (.t 66) (.t 74), []⟩,
 ⟨(some 76), some (53, true), .pick (.t 58) (.c (.bool true)) (.t 75), []⟩,
 Oo 77 (.pick (.t 53) (.t 76) (.c (.bool false)))] [0, 1, 5, 6, 7, 8, 77])
 (.cond (.t 77) (.seq (.reg [Mo 78 6,
 Oo 79 (.call 114 [(.t 78), (.c (.int .i64 2)), (.c (.sl 1 [] .nil))]),
 Mo 6 79] [0, 1, 5, 6, 7, 8])
 (.reg [Mo 80 7,
 Oo 81 (.bin .add (.t 80) (.c (.int .i64 1))),
 Mo 7 81] [0, 1, 5, 6, 7, 8]))
 (.seq (.reg [Mo 82 6,
 Mo 83 1,
 Mo 84 8,
 Oo 85 (.iaddr 1 (.t 83) (.t 84)),
 Oo 86 (.load false 1 (.t 85)),
 Oo 87 (.mks 1 1 false [(.str [])] [(0, (.t 86))]),
 Oo 88 (.call 114 [(.t 82), (.c (.int .i64 3)), (.t 87)]),
 Mo 6 88] [0, 1, 5, 6, 7, 8])
 (.reg [Mo 89 8,
 Oo 90 (.bin .add (.t 89) (.c (.int .i64 1))),
 Mo 8 90] [0, 1, 5, 6, 7, 8])))))))
def A97 : AFunc := ⟨2, [.t 4], .seq (.reg [Oo 4 (.mv (.c (.sl 3 [] .nil)))] [0, 1])
 (.seq (.reg [Mo 9 0,
 Mo 10 1,
 Oo 11 (.call 113 [(.t 9), (.t 10)]),
 Mo 5 11] [0, 1, 5])
 (.seq (.reg [Oo 6 (.mv (.c (.sl 3 [] .nil)))] [0, 1, 5, 6])
 (.seq (.reg [Oo 7 (.mv (.c (.int .i64 0)))] [0, 1, 5, 6, 7])
 (.seq (.reg [Oo 8 (.mv (.c (.int .i64 0)))] [0, 1, 5, 6, 7, 8])
 (.seq (.blk 0 (.loop L97x0))
 (.seq (.reg [Mo 91 6,
 Mo 4 91] [4])
 (.ret)))))))⟩
theorem c97 : cmpF Tryz.prog ⟨[(28, 2), (29, 2), (30, 3), (50, 2)], false, false⟩ Tryz.f97 K97 = some A97 := by kernel_rfl
/-- cmp.isNaN[int] -/
def K98 : List (List Nat) := [[0], [2]]
def A98 : AFunc := ⟨1, [.t 2], .seq (.reg [Oo 2 (.mv (.c (.bool false)))] [0])
 (.seq (.reg [Mo 3 0,
 Mo 4 0,
 Oo 5 (.bin .neq (.t 3) (.t 4)),
 Mo 2 5] [2])
 (.ret))⟩
theorem c98 : cmpF Tryz.prog ⟨[(28, 2), (29, 2), (30, 3), (50, 2)], false, false⟩ Tryz.f98 K98 = some A98 := by kernel_rfl
/-- internal/stringslite.Cut -/
def K101 : List (List Nat) := [[0, 1], [0, 1, 7], [0, 1, 7, 12], [4, 5, 6], [4, 5, 6]]
def A101 : AFunc := ⟨2, [.t 4, .t 5, .t 6], .seq (.reg [Oo 4 (.mv (.c (.str []))),
 Oo 5 (.mv (.c (.str []))),
 Oo 6 (.mv (.c (.bool false)))] [0, 1])
 (.seq (.seq (.reg [Mo 8 0,
 Mo 9 1,
 Oo 10 (.call 104 [(.t 8), (.t 9)]),
 Mo 7 10] [0, 1, 7])
 (.seq (.reg [Mo 11 7,
 Oo 12 (.bin .geq (.t 11) (.c (.int .i64 0)))] [0, 1, 7, 12])
 (.cond (.t 12) (.seq (.regD [Mo 13 0,
 Mo 14 7,
 Oo 15 (.slice none (.t 13) none (some (.t 14)) none),
 Mo 16 0,
 Mo 17 7,
 Mo 18 1,
 Oo 19 (.len true (.t 18)),
 Oo 20 (.bin .add (.t 17) (.t 19)),
 Oo 21 (.slice none (.t 16) (some (.t 20)) none none),
 Mo 4 15,
 Mo 5 21,
 Oo 6 (.mv (.c (.bool true)))] [4, 5, 6])
 (.ret))
 (.skip))))
 (.seq (.reg [Mo 22 0,
 Mo 4 22,
 Oo 5 (.mv (.c (.str []))),
 Oo 6 (.mv (.c (.bool false)))] [4, 5, 6])
 (.ret)))⟩
theorem c101 : cmpF Tryz.prog ⟨[(28, 2), (29, 2), (30, 3), (50, 2)], false, false⟩ Tryz.f101 K101 = some A101 := by kernel_rfl
/-- collator/collatorlaw01.pick -/
def K106 : List (List Nat) := [[0, 1], [0, 1, 6], [0, 1], [4]]
def A106 : AFunc := ⟨2, [.t 4], .seq (.reg [Oo 4 (.mv (.c (.int .i64 0)))] [0, 1])
 (.seq (.seq (.reg [Mo 5 0,
 Oo 6 (.bin .lss (.t 5) (.c (.int .i64 0)))] [0, 1, 6])
 (.cond (.t 6) (.reg [Mo 7 0,
 Oo 8 (.bin .add (.t 7) (.c (.int .i64 1))),
 Oo 9 (.un .neg (.t 8)),
 Mo 0 9] [0, 1])
 (.skip)))
 (.seq (.reg [Mo 10 0,
 Mo 11 1,
 Oo 12 (.bin .rem (.t 10) (.t 11)),
 Mo 4 12] [4])
 (.ret)))⟩
theorem c106 : cmpF Tryz.prog ⟨[(28, 2), (29, 2), (30, 3), (50, 2)], false, false⟩ Tryz.f106 K106 = some A106 := by kernel_rfl
/-- collator/collatorref01.may -/
def K107 : List (List Nat) := [[0], [0, 18], [2], [0, 3], [0, 3, 22], [0, 3, 28], [2], [0, 3], [2]]
def L107x0 : ACode := .seq (.seq (.reg [Mo 19 3,
 Mo 20 0,
 Oo 21 (.len true (.t 20)),
 Oo 22 (.bin .lss (.t 19) (.t 21))] [0, 3, 22])
 (.cond (.t 22) (.skip)
 (.exit 0)))
 (.seq (.blk 1 (.seq (.reg [Mo 25 0,
 Mo 26 3,
 Oo 27 (.sidx (.t 25) (.t 26)),
 Oo 28 (.bin .eql (.t 27) (.c (.int .u8 0)))] [0, 3, 28])
 (.cond (.t 28) (.seq (.reg [Oo 2 (.mv (.c (.bool false)))] [2])
 (.ret))
 (.skip))))
 (.reg [Mo 23 3,
 Oo 24 (.bin .add (.t 23) (.c (.int .i64 1))),
 Mo 3 24] [0, 3]))
def A107 : AFunc := ⟨1, [.t 2], .seq (.reg [Oo 2 (.mv (.c (.bool false)))] [0])
 (.seq (.seq (.reg [Mo 4 0,
 Oo 5 (.bin .eql (.t 4) (.c (.str []))),
 Mo 6 5,
 ⟨(some 7), some (6, false), .mv (.t 0), []⟩,
 ⟨(some 8), some (6, false), .bin .eql (.t 7) (.c (.str [46])), []⟩,
 Oo 9 (.pick (.t 6) (.c (.bool true)) (.t 8)),
 Mo 10 9,
 ⟨(some 11), some (10, false), .mv (.t 0), []⟩,
 ⟨(some 12), some (10, false), .bin .eql (.t 11) (.c (.str [46, 46])), []⟩,
 Oo 13 (.pick (.t 10) (.c (.bool true)) (.t 12)),
 Mo 14 13,
 ⟨(some 15), some (14, false), .mv (.t 0), []⟩,
 ⟨(some 16), some (14, false), .len true (.t 15), []⟩,
 ⟨(some 17), some (14, false), .bin .gtr (.t 16) (.c (.int .i64 64)), []⟩,
 Oo 18 (.pick (.t 14) (.c (.bool true)) (.t 17))] [0, 18])
 (.cond (.t 18) (.seq (.reg [Oo 2 (.mv (.c (.bool false)))] [2])
 (.ret))
 (.skip)))
 (.seq (.seq (.reg [Oo 3 (.mv (.c (.int .i64 0)))] [0, 3])
 (.blk 0 (.loop L107x0)))
 (.seq (.reg [Oo 2 (.mv (.c (.bool true)))] [2])
 (.ret))))⟩
theorem c107 : cmpF Tryz.prog ⟨[(28, 2), (29, 2), (30, 3), (50, 2)], false, false⟩ Tryz.f107 K107 = some A107 := by kernel_rfl
/-- collator/collatorref02.count -/
def K108 : List (List Nat) := [[0, 1], [0, 1, 5], [0, 1, 5, 6], [0, 1, 5, 6, 10], [0, 1, 5, 6, 19], [0, 1, 5, 6], [0, 1, 5, 6], [4]]
def L108x0 : ACode := .seq (.seq (.reg [Mo 7 6,
 Mo 8 0,
 Oo 9 (.len false (.t 8)),
 Oo 10 (.bin .lss (.t 7) (.t 9))] [0, 1, 5, 6, 10])
 (.cond (.t 10) (.skip)
 (.exit 0)))
 (.seq (.blk 1 (.seq (.reg [Mo 13 0,
 Mo 14 6,
 Oo 15 (.iaddr 4 (.t 13) (.t 14)),
 Oo 16 (.faddr 0 (.t 15)),
 Oo 17 (.load false 1 (.t 16)),
 Mo 18 1,
 Oo 19 (.bin .eql (.t 17) (.t 18))] [0, 1, 5, 6, 19])
 (.cond (.t 19) (.reg [Mo 20 5,
 Oo 21 (.bin .add (.t 20) (.c (.int .i64 1))),
 Mo 5 21] [0, 1, 5, 6])
 (.skip))))
 (.reg [Mo 11 6,
 Oo 12 (.bin .add (.t 11) (.c (.int .i64 1))),
 Mo 6 12] [0, 1, 5, 6]))
def A108 : AFunc := ⟨2, [.t 4], .seq (.reg [Oo 4 (.mv (.c (.int .i64 0)))] [0, 1])
 (.seq (.reg [Oo 5 (.mv (.c (.int .i64 0)))] [0, 1, 5])
 (.seq (.seq (.reg [Oo 6 (.mv (.c (.int .i64 0)))] [0, 1, 5, 6])
 (.blk 0 (.loop L108x0)))
 (.seq (.reg [Mo 22 5,
 Mo 4 22] [4])
 (.ret))))⟩
theorem c108 : cmpF Tryz.prog ⟨[(28, 2), (29, 2), (30, 3), (50, 2)], false, false⟩ Tryz.f108 K108 = some A108 := by kernel_rfl
/-- collator/collatorref02.some -/
def K109 : List (List Nat) := [[0, 1, 2, 3], [0, 1, 2, 3, 9], [0, 1, 2, 3, 9, 14], [0, 1, 2, 3, 9, 10], [0, 1, 2, 3, 9, 10, 24], [0, 1, 2, 3, 9, 10, 46], [8], [0, 1, 2, 3, 9, 63], [8], [0, 1, 2, 3, 9], [8]]
def L109x0 : ACode := .seq (.seq (.reg [Mo 11 9,
 Mo 12 0,
 Oo 13 (.len false (.t 12)),
 Oo 14 (.bin .lss (.t 11) (.t 13))] [0, 1, 2, 3, 9, 14])
 (.cond (.t 14) (.skip)
 (.exit 0)))
 (.seq (.blk 1 (.seq (.reg [Mo 17 0,
 Mo 18 9,
 Oo 19 (.iaddr 4 (.t 17) (.t 18)),
 Oo 20 (.load true 4 (.t 19)),
 Oo 10 (.alloc [(.str []), (.int .i64 0), (.str []), (.bool false)]),
 ⟨none, none, .store 4 (.t 10) (.t 20), []⟩] [0, 1, 2, 3, 9, 10])
 (.seq (.seq (.reg [Oo 21 (.faddr 0 (.t 10)),
 Oo 22 (.load false 1 (.t 21)),
 Mo 23 1,
 Oo 24 (.bin .neq (.t 22) (.t 23))] [0, 1, 2, 3, 9, 10, 24])
 (.cond (.t 24) (.exit 1)
 (.skip)))
 (.seq (.seq (.reg [Mo 25 3,
 Oo 26 (.bin .eql (.t 25) (.c (.int .i64 5))),
 Mo 27 26,
 ⟨(some 28), some (27, true), .faddr 1 (.t 10), []⟩,
 ⟨(some 29), some (27, true), .load false 1 (.t 28), []⟩,
 ⟨(some 30), some (27, true), .bin .lss (.t 29) (.c (.int .i64 1)), []⟩,
 ⟨(some 31), some (27, true), .mv (.t 30), []⟩,
 ⟨(some 32), some (31, false), .faddr 1 (.t 10), []⟩,
 ⟨(some 33), some (31, false), .load false 1 (.t 32), []⟩,
 ⟨(some 34), some (31, false), .bin .gtr (.t 33) (.c (.int .i64 3)), []⟩,
 ⟨(some 35), some (27, true), .pick (.t 31) (.c (.bool true)) (.t 34), []⟩,
 ⟨(some 36), some (27, true), .mv (.t 35), []⟩,
 ⟨(some 37), some (36, false), .faddr 1 (.t 10), []⟩,
 ⟨(some 38), some (36, false), .load false 1 (.t 37), []⟩,
 ⟨(some 39), some (36, false), .bin .eql (.t 38) (.c (.int .i64 1)), []⟩,
 ⟨(some 40), some (36, false), .mv (.t 39), []⟩,
 ⟨(some 41), some (40, true), .faddr 2 (.t 10), []⟩,
 ⟨(some 42), some (40, true), .load false 1 (.t 41), []⟩,
 ⟨(some 43), some (40, true), .bin .neq (.t 42) (.c (.str [])), []⟩,
 ⟨(some 44), some (36, false), .pick (.t 40) (.t 43) (.c (.bool false)), []⟩,
 ⟨(some 45), some (27, true), .pick (.t 36) (.c (.bool true)) (.t 44), []⟩,
 Oo 46 (.pick (.t 27) (.t 45) (.c (.bool false)))] [0, 1, 2, 3, 9, 10, 46])
 (.cond (.t 46) (.seq (.reg [Oo 8 (.mv (.c (.bool true)))] [8])
 (.ret))
 (.skip)))
 (.seq (.reg [Mo 47 3,
 Oo 48 (.bin .eql (.t 47) (.c (.int .i64 7))),
 Mo 49 48,
 ⟨(some 50), some (49, true), .faddr 2 (.t 10), []⟩,
 ⟨(some 51), some (49, true), .load false 1 (.t 50), []⟩,
 ⟨(some 52), some (49, true), .len true (.t 51), []⟩,
 ⟨(some 53), some (49, true), .mv (.t 2), []⟩,
 ⟨(some 54), some (49, true), .bin .gtr (.t 52) (.t 53), []⟩,
 Oo 55 (.pick (.t 49) (.t 54) (.c (.bool false))),
 Mo 56 55,
 ⟨(some 57), some (56, false), .mv (.t 3), []⟩,
 ⟨(some 58), some (56, false), .bin .eql (.t 57) (.c (.int .i64 9)), []⟩,
 ⟨(some 59), some (56, false), .mv (.t 58), []⟩,
 ⟨(some 60), some (59, true), .faddr 3 (.t 10), []⟩,
 ⟨(some 61), some (59, true), .load false 1 (.t 60), []⟩,
 ⟨(some 62), some (56, false), .pick (.t 59) (.t 61) (.c (.bool false)), []⟩,
 Oo 63 (.pick (.t 56) (.c (.bool true)) (.t 62))] [0, 1, 2, 3, 9, 63])
 (.cond (.t 63) (.seq (.reg [Oo 8 (.mv (.c (.bool true)))] [8])
 (.ret))
 (.skip)))))))
 (.reg [Mo 15 9,
 Oo 16 (.bin .add (.t 15) (.c (.int .i64 1))),
 Mo 9 16] [0, 1, 2, 3, 9]))
def A109 : AFunc := ⟨4, [.t 8], .seq (.reg [Oo 8 (.mv (.c (.bool false)))] [0, 1, 2, 3])
 (.seq (.seq (.reg [Oo 9 (.mv (.c (.int .i64 0)))] [0, 1, 2, 3, 9])
 (.blk 0 (.loop L109x0)))
 (.seq (.reg [Oo 8 (.mv (.c (.bool false)))] [8])
 (.ret)))⟩
theorem c109 : cmpF Tryz.prog ⟨[(28, 2), (29, 2), (30, 3), (50, 2)], false, false⟩ Tryz.f109 K109 = some A109 := by kernel_rfl
/-- collator/collatorref01.Dir -/
def K110 : List (List Nat) := [[0], [3], [3, 4], [3, 4, 5], [3, 4, 5, 12], [3, 4, 5], [3, 4, 5], [2]]
def L110x0 : ACode := .seq (.seq (.reg [Mo 8 5,
 Oo 9 (.bin .add (.t 8) (.c (.int .i64 1))),
 Mo 10 3,
 Oo 11 (.len false (.t 10)),
 Oo 12 (.bin .lss (.t 9) (.t 11))] [3, 4, 5, 12])
 (.cond (.t 12) (.skip)
 (.exit 0)))
 (.seq (.blk 1 (.reg [Mo 15 4,
 Mo 16 3,
 Mo 17 5,
 Oo 18 (.iaddr 1 (.t 16) (.t 17)),
 Oo 19 (.load false 1 (.t 18)),
 Oo 20 (.call 65 [(.t 15), (.t 19)]),
 Mo 4 20] [3, 4, 5]))
 (.reg [Mo 13 5,
 Oo 14 (.bin .add (.t 13) (.c (.int .i64 1))),
 Mo 5 14] [3, 4, 5]))
def A110 : AFunc := ⟨1, [.t 2], .seq (.reg [Oo 2 (.mv (.c (.str [])))] [0])
 (.seq (.reg [Mo 6 0,
 Oo 7 (.call 64 [(.t 6)]),
 Mo 3 7] [3])
 (.seq (.reg [Oo 4 (.mv (.c (.str [])))] [3, 4])
 (.seq (.seq (.reg [Oo 5 (.mv (.c (.int .i64 0)))] [3, 4, 5])
 (.blk 0 (.loop L110x0)))
 (.seq (.reg [Mo 21 4,
 Mo 2 21] [2])
 (.ret)))))⟩
theorem c110 : cmpF Tryz.prog ⟨[(28, 2), (29, 2), (30, 3), (50, 2)], false, false⟩ Tryz.f110 K110 = some A110 := by kernel_rfl
/-- collator/collatorref02.dir -/
def K111 : List (List Nat) := [[0, 1], [0, 1, 5], [0, 1, 5, 9], [0, 1, 5, 26], [4], [0, 1, 5], [4]]
def L111x0 : ACode := .seq (.seq (.reg [Mo 6 5,
 Mo 7 0,
 Oo 8 (.len false (.t 7)),
 Oo 9 (.bin .lss (.t 6) (.t 8))] [0, 1, 5, 9])
 (.cond (.t 9) (.skip)
 (.exit 0)))
 (.seq (.blk 1 (.seq (.reg [Mo 12 0,
 Mo 13 5,
 Oo 14 (.iaddr 4 (.t 12) (.t 13)),
 Oo 15 (.faddr 0 (.t 14)),
 Oo 16 (.load false 1 (.t 15)),
 Mo 17 1,
 Oo 18 (.bin .eql (.t 16) (.t 17)),
 Mo 19 18,
 ⟨(some 20), some (19, true), .mv (.t 0), []⟩,
 ⟨(some 21), some (19, true), .mv (.t 5), []⟩,
 ⟨(some 22), some (19, true), .iaddr 4 (.t 20) (.t 21), []⟩,
 ⟨(some 23), some (19, true), .faddr 1 (.t 22), []⟩,
 ⟨(some 24), some (19, true), .load false 1 (.t 23), []⟩,
 ⟨(some 25), some (19, true), .bin .eql (.t 24) (.c (.int .i64 1)), []⟩,
 Oo 26 (.pick (.t 19) (.t 25) (.c (.bool false)))] [0, 1, 5, 26])
 (.cond (.t 26) (.seq (.reg [Oo 4 (.mv (.c (.bool true)))] [4])
 (.ret))
 (.skip))))
 (.reg [Mo 10 5,
 Oo 11 (.bin .add (.t 10) (.c (.int .i64 1))),
 Mo 5 11] [0, 1, 5]))
def A111 : AFunc := ⟨2, [.t 4], .seq (.reg [Oo 4 (.mv (.c (.bool false)))] [0, 1])
 (.seq (.seq (.reg [Oo 5 (.mv (.c (.int .i64 0)))] [0, 1, 5])
 (.blk 0 (.loop L111x0)))
 (.seq (.reg [Oo 4 (.mv (.c (.bool false)))] [4])
 (.ret)))⟩
theorem c111 : cmpF Tryz.prog ⟨[(28, 2), (29, 2), (30, 3), (50, 2)], false, false⟩ Tryz.f111 K111 = some A111 := by kernel_rfl
/-- collator/collatorref07.Common -/
def K112 : List (List Nat) := [[0, 1], [0, 1, 5], [0, 1, 5, 6], [0, 1, 5, 6, 11], [0, 1, 5, 6, 7], [0, 1, 5, 6, 29], [0, 1, 5, 6], [0, 1, 5, 6], [4]]
def L112x0 : ACode := .seq (.seq (.reg [Mo 8 6,
 Mo 9 0,
 Oo 10 (.len false (.t 9)),
 Oo 11 (.bin .lss (.t 8) (.t 10))] [0, 1, 5, 6, 11])
 (.cond (.t 11) (.skip)
 (.exit 0)))
 (.seq (.blk 1 (.seq (.regD [Mo 14 0,
 Mo 15 6,
 Oo 16 (.slice (some 1) (.t 14) none (some (.t 15)) none),
 Mo 17 0,
 Mo 18 6,
 Oo 19 (.iaddr 1 (.t 17) (.t 18)),
 Oo 20 (.load false 1 (.t 19)),
 ⟨(some 21), none, .call 128 [(.t 16), (.t 20)], [6]⟩,
 ⟨(some 7), none, .mv (.t 21), [7]⟩] [0, 1, 5, 6, 7])
 (.seq (.reg [Mo 22 7,
 Mo 23 1,
 Mo 24 0,
 Mo 25 6,
 Oo 26 (.iaddr 1 (.t 24) (.t 25)),
 Oo 27 (.load false 1 (.t 26)),
 Oo 28 (.call 128 [(.t 23), (.t 27)]),
 Oo 29 (.bin .lss (.t 22) (.t 28))] [0, 1, 5, 6, 29])
 (.cond (.t 29) (.reg [Mo 30 5,
 Oo 31 (.bin .add (.t 30) (.c (.int .i64 1))),
 Mo 5 31] [0, 1, 5, 6])
 (.skip)))))
 (.reg [Mo 12 6,
 Oo 13 (.bin .add (.t 12) (.c (.int .i64 1))),
 Mo 6 13] [0, 1, 5, 6]))
def A112 : AFunc := ⟨2, [.t 4], .seq (.reg [Oo 4 (.mv (.c (.int .i64 0)))] [0, 1])
 (.seq (.reg [Oo 5 (.mv (.c (.int .i64 0)))] [0, 1, 5])
 (.seq (.seq (.reg [Oo 6 (.mv (.c (.int .i64 0)))] [0, 1, 5, 6])
 (.blk 0 (.loop L112x0)))
 (.seq (.reg [Mo 32 5,
 Mo 4 32] [4])
 (.ret))))⟩
theorem c112 : cmpF Tryz.prog ⟨[(28, 2), (29, 2), (30, 3), (50, 2)], false, false⟩ Tryz.f112 K112 = some A112 := by kernel_rfl
/-- collator/collatorref05.table -/
def K113 : List (List Nat) := [[0, 1], [0, 1, 5], [0, 1, 5, 6], [0, 1, 5, 6, 15], [0, 1, 5, 6], [0, 1, 5, 6, 7], [0, 1, 5, 6, 7, 35], [0, 1, 5, 6, 7, 46], [0, 1, 5, 6, 7], [0, 1, 5, 6, 7], [0, 1, 5, 6, 7], [0, 1, 5, 6], [4]]
def L113x0 : ACode := .seq (.seq (.reg [Mo 28 7,
 Oo 29 (.bin .geq (.t 28) (.c (.int .i64 0))),
 Mo 30 29,
 ⟨(some 31), some (30, true), .mv (.t 6), []⟩,
 ⟨(some 32), some (30, true), .mv (.t 0), []⟩,
 ⟨(some 33), some (30, true), .len false (.t 32), []⟩,
 ⟨(some 34), some (30, true), .bin .lss (.t 31) (.t 33), []⟩,
 Oo 35 (.pick (.t 30) (.t 34) (.c (.bool false)))] [0, 1, 5, 6, 7, 35])
 (.cond (.t 35) (.skip)
 (.exit 2)))
 (.seq (.blk 3 (.seq (.regD [Mo 38 0,
 Mo 39 6,
 Oo 40 (.iaddr 1 (.t 38) (.t 39)),
 Oo 41 (.load false 1 (.t 40)),
 Mo 42 1,
 Mo 43 7,
 Oo 44 (.iaddr 1 (.t 42) (.t 43)),
 Oo 45 (.load false 1 (.t 44)),
 Oo 46 (.bin .eql (.t 41) (.t 45))] [0, 1, 5, 6, 7, 46])
 (.cond (.t 46) (.regD [Mo 47 5,
 Mo 48 6,
 Oo 49 (.iaddr 1 (.t 47) (.t 48)),
 Oo 50 (.load false 1 (.t 49)),
 Mo 51 7,
 Mo 52 5,
 Mo 53 6,
 Oo 54 (.bin .add (.t 53) (.c (.int .i64 1))),
 Oo 55 (.iaddr 1 (.t 52) (.t 54)),
 Oo 56 (.load false 1 (.t 55)),
 Mo 57 7,
 Oo 58 (.bin .add (.t 57) (.c (.int .i64 1))),
 Oo 59 (.iaddr 1 (.t 56) (.t 58)),
 ⟨(some 60), none, .load false 1 (.t 59), [9]⟩,
 Oo 61 (.bin .add (.c (.int .i64 1)) (.t 60)),
 Oo 62 (.iaddr 1 (.t 50) (.t 51)),
 ⟨none, none, .store 1 (.t 62) (.t 61), [3, 9, 13]⟩] [0, 1, 5, 6, 7])
 (.regD [Mo 63 5,
 Mo 64 6,
 Oo 65 (.iaddr 1 (.t 63) (.t 64)),
 Oo 66 (.load false 1 (.t 65)),
 Mo 67 7,
 Mo 68 5,
 Mo 69 6,
 Oo 70 (.bin .add (.t 69) (.c (.int .i64 1))),
 Oo 71 (.iaddr 1 (.t 68) (.t 70)),
 Oo 72 (.load false 1 (.t 71)),
 Mo 73 7,
 Oo 74 (.iaddr 1 (.t 72) (.t 73)),
 ⟨(some 75), none, .load false 1 (.t 74), [9]⟩,
 Mo 76 5,
 Mo 77 6,
 Oo 78 (.iaddr 1 (.t 76) (.t 77)),
 Oo 79 (.load false 1 (.t 78)),
 Mo 80 7,
 Oo 81 (.bin .add (.t 80) (.c (.int .i64 1))),
 Oo 82 (.iaddr 1 (.t 79) (.t 81)),
 ⟨(some 83), none, .load false 1 (.t 82), [16]⟩,
 Oo 84 (.max [(.t 75), (.t 83)]),
 Oo 85 (.iaddr 1 (.t 66) (.t 67)),
 ⟨none, none, .store 1 (.t 85) (.t 84), [3, 9, 12, 16, 20]⟩] [0, 1, 5, 6, 7]))))
 (.reg [Mo 36 7,
 Oo 37 (.bin .sub (.t 36) (.c (.int .i64 1))),
 Mo 7 37] [0, 1, 5, 6, 7]))
def L113x1 : ACode := .seq (.seq (.reg [Mo 14 6,
 Oo 15 (.bin .geq (.t 14) (.c (.int .i64 0)))] [0, 1, 5, 6, 15])
 (.cond (.t 15) (.skip)
 (.exit 0)))
 (.seq (.blk 1 (.seq (.reg [Mo 18 5,
 Mo 19 6,
 Mo 20 1,
 Oo 21 (.len false (.t 20)),
 Oo 22 (.bin .add (.t 21) (.c (.int .i64 1))),
 Oo 23 (.mkown 1 8 false [(.int .i64 0)] (.t 22) (.t 22)),
 Oo 24 (.iaddr 1 (.t 18) (.t 19)),
 ⟨none, none, .store 1 (.t 24) (.t 23), []⟩] [0, 1, 5, 6])
 (.seq (.reg [Mo 25 1,
 Oo 26 (.len false (.t 25)),
 Oo 27 (.bin .sub (.t 26) (.c (.int .i64 1))),
 Mo 7 27] [0, 1, 5, 6, 7])
 (.blk 2 (.loop L113x0)))))
 (.reg [Mo 16 6,
 Oo 17 (.bin .sub (.t 16) (.c (.int .i64 1))),
 Mo 6 17] [0, 1, 5, 6]))
def A113 : AFunc := ⟨2, [.g 4], .seq (.reg [Oo 4 (.mv (.c (.sl 1 [] .nil)))] [0, 1])
 (.seq (.reg [Mo 8 0,
 Oo 9 (.len false (.t 8)),
 Oo 10 (.bin .add (.t 9) (.c (.int .i64 1))),
 Oo 11 (.mkown 1 24 false [(.sl 1 [] .nil)] (.t 10) (.t 10)),
 Mo 5 11] [0, 1, 5])
 (.seq (.seq (.reg [Mo 12 0,
 Oo 13 (.len false (.t 12)),
 Mo 6 13] [0, 1, 5, 6])
 (.blk 0 (.loop L113x1)))
 (.seq (.reg [Mo 86 5,
 Mo 4 86] [4])
 (.ret))))⟩
theorem c113 : cmpF Tryz.prog ⟨[(28, 2), (29, 2), (30, 3), (50, 2)], true, true⟩ Tryz.f113 K113 = some A113 := by kernel_rfl
/-- collator/collatorref05.with -/
def K114 : List (List Nat) := [[0, 1, 2], [0, 1, 2, 7], [0, 1, 2, 7, 22], [0, 7, 8], [6], [6]]
def A114 : AFunc := ⟨3, [.t 6], .seq (.reg [Oo 6 (.mv (.c (.sl 3 [] .nil)))] [0, 1, 2])
 (.seq (.reg [Mo 9 0,
 Oo 10 (.len false (.t 9)),
 Mo 7 10] [0, 1, 2, 7])
 (.seq (.seq (.reg [Mo 11 7,
 Oo 12 (.bin .gtr (.t 11) (.c (.int .i64 0))),
 Mo 13 12,
 ⟨(some 14), some (13, true), .mv (.t 0), []⟩,
 ⟨(some 15), some (13, true), .mv (.t 7), []⟩,
 ⟨(some 16), some (13, true), .bin .sub (.t 15) (.c (.int .i64 1)), []⟩,
 ⟨(some 17), some (13, true), .iaddr 3 (.t 14) (.t 16), []⟩,
 ⟨(some 18), some (13, true), .faddr 0 (.t 17), []⟩,
 ⟨(some 19), some (13, true), .load false 1 (.t 18), []⟩,
 ⟨(some 20), some (13, true), .mv (.t 1), []⟩,
 ⟨(some 21), some (13, true), .bin .eql (.t 19) (.t 20), []⟩,
 Oo 22 (.pick (.t 13) (.t 21) (.c (.bool false)))] [0, 1, 2, 7, 22])
 (.cond (.t 22) (.seq (.regD [Mo 23 1,
 Mo 24 0,
 Mo 25 7,
 Oo 26 (.bin .sub (.t 25) (.c (.int .i64 1))),
 Oo 27 (.iaddr 3 (.t 24) (.t 26)),
 Oo 28 (.faddr 1 (.t 27)),
 Oo 29 (.load false 1 (.t 28)),
 Oo 30 (.bin .add (.t 29) (.c (.int .i64 1))),
 Mo 31 0,
 Mo 32 7,
 Oo 33 (.bin .sub (.t 32) (.c (.int .i64 1))),
 Oo 34 (.iaddr 3 (.t 31) (.t 33)),
 Oo 35 (.faddr 2 (.t 34)),
 Oo 36 (.load false 1 (.t 35)),
 ⟨(some 37), none, .app none 1 16 (.c (.sl 1 [] .nil)) (.t 36), [13]⟩,
 Mo 38 2,
 ⟨(some 39), none, .app none 1 16 (.t 37) (.t 38), [14, 13]⟩,
 Oo 40 (.agg [(.int .i64 0), (.int .i64 0), (.sl 1 [] .nil)] [(0, 1, (.t 23)), (1, 1, (.t 30)), (2, 1, (.t 39))]),
 Oo 8 (.alloc [(.int .i64 0), (.int .i64 0), (.sl 1 [] .nil)]),
 ⟨none, none, .store 3 (.t 8) (.t 40), [18, 16, 6, 13, 14]⟩] [0, 7, 8])
 (.seq (.regD [Mo 41 0,
 Mo 42 7,
 Oo 43 (.bin .sub (.t 42) (.c (.int .i64 1))),
 Oo 44 (.slice (some 3) (.t 41) none (some (.t 43)) none),
 Oo 45 (.app none 3 40 (.c (.sl 3 [] .nil)) (.t 44)),
 Oo 46 (.load true 3 (.t 8)),
 Oo 47 (.mks 1 3 true [(.int .i64 0), (.int .i64 0), (.sl 1 [] .nil)] [(0, (.t 46))]),
 ⟨(some 48), none, .app none 3 40 (.t 45) (.t 47), [4, 5]⟩,
 Mo 6 48] [6])
 (.ret)))
 (.skip)))
 (.seq (.reg [Mo 49 0,
 Oo 50 (.app none 3 40 (.c (.sl 3 [] .nil)) (.t 49)),
 Mo 51 1,
 Mo 52 2,
 Oo 53 (.agg [(.int .i64 0), (.int .i64 0), (.sl 1 [] .nil)] [(0, 1, (.t 51)), (1, 1, (.c (.int .i64 1))), (2, 1, (.t 52))]),
 Oo 54 (.mks 1 3 true [(.int .i64 0), (.int .i64 0), (.sl 1 [] .nil)] [(0, (.t 53))]),
 Oo 55 (.app none 3 40 (.t 50) (.t 54)),
 Mo 6 55] [6])
 (.ret))))⟩
theorem c114 : cmpF Tryz.prog ⟨[(28, 2), (29, 2), (30, 3), (50, 2)], false, false⟩ Tryz.f114 K114 = some A114 := by kernel_rfl
/-- collator/collatorref07.count -/
def K128 : List (List Nat) := [[0, 1], [0, 1, 5], [0, 1, 5, 6], [0, 1, 5, 6, 10], [0, 1, 5, 6, 18], [0, 1, 5, 6], [0, 1, 5, 6], [4]]
def L128x0 : ACode := .seq (.seq (.reg [Mo 7 6,
 Mo 8 0,
 Oo 9 (.len false (.t 8)),
 Oo 10 (.bin .lss (.t 7) (.t 9))] [0, 1, 5, 6, 10])
 (.cond (.t 10) (.skip)
 (.exit 0)))
 (.seq (.blk 1 (.seq (.reg [Mo 13 0,
 Mo 14 6,
 Oo 15 (.iaddr 1 (.t 13) (.t 14)),
 Oo 16 (.load false 1 (.t 15)),
 Mo 17 1,
 Oo 18 (.bin .eql (.t 16) (.t 17))] [0, 1, 5, 6, 18])
 (.cond (.t 18) (.reg [Mo 19 5,
 Oo 20 (.bin .add (.t 19) (.c (.int .i64 1))),
 Mo 5 20] [0, 1, 5, 6])
 (.skip))))
 (.reg [Mo 11 6,
 Oo 12 (.bin .add (.t 11) (.c (.int .i64 1))),
 Mo 6 12] [0, 1, 5, 6]))
def A128 : AFunc := ⟨2, [.t 4], .seq (.reg [Oo 4 (.mv (.c (.int .i64 0)))] [0, 1])
 (.seq (.reg [Oo 5 (.mv (.c (.int .i64 0)))] [0, 1, 5])
 (.seq (.seq (.reg [Oo 6 (.mv (.c (.int .i64 0)))] [0, 1, 5, 6])
 (.blk 0 (.loop L128x0)))
 (.seq (.reg [Mo 21 5,
 Mo 4 21] [4])
 (.ret))))⟩
theorem c128 : cmpF Tryz.prog ⟨[(28, 2), (29, 2), (30, 3), (50, 2)], false, false⟩ Tryz.f128 K128 = some A128 := by kernel_rfl
end Go.Proofs.YtdjgdipmjbkilaaGreatDoor.Rx
