/-
 Rx: the plain program (written by gen/tab.py): its functions, and that each is what the program's own is told as.
-/
import Derived.Test.YtdjgdipmjbkilaaGreatDoorRxK
import Derived.Test.YtdjgdipmjbkilaaGreatDoorProg
import Derived.KernelRfl
namespace Go.Proofs.YtdjgdipmjbkilaaGreatDoor.Rx
open Go
/-- collator/collatorlaw12.ReportTells -/
def K3 : List (List Nat) := [[0, 1, 2, 4, 5, 6, 7, 8, 12], [0, 1, 2, 4, 5, 6, 7, 8, 12, 19], [4, 5, 6, 7, 8, 12, 19, 20], [5, 6, 7, 8, 12, 19, 20, 21], [6, 7, 8, 19, 20, 64, 65, 66], [6, 7, 8, 19, 20, 64, 65, 66, 67], [6, 7, 8, 19, 20, 24, 64, 65, 66], [6, 7, 8, 19, 20, 24, 25, 26, 64, 65, 66], [6, 7, 8, 19, 20, 24, 25, 26, 27, 28, 64, 65, 66], [6, 7, 8, 19, 20, 64, 65, 66, 94], [18], [6, 7, 8, 19, 20, 64, 65, 66], [6, 7, 8, 19, 29], [6, 8, 19, 29, 31], [6, 8, 19, 29, 31, 32], [6, 8, 19, 29, 31, 32, 112], [6, 19, 29, 31, 32], [19, 145, 146, 147], [19, 145, 146, 147, 148], [19, 34, 145, 146, 147], [19, 34, 35, 36, 145, 146, 147], [19, 35, 36, 37, 38, 145, 146, 147], [19, 145, 146, 147, 169], [18], [19, 145, 146, 147], [18]]
def L3x0 : ACode := .seq (.reg [⟨(some 67), none, .bin .lss (.t 66) (.t 65), []⟩] [6, 7, 8, 19, 20, 64, 65, 66, 67])
 (.seq (.cond (.t 67) (.skip)
 (.exit 0))
 (.seq (.blk 1 (.seq (.reg [⟨(some 68), none, .iaddr 1 (.t 64) (.t 66), []⟩,
 ⟨(some 69), none, .load false 1 (.t 68), []⟩,
 ⟨(some 24), none, .mv (.t 69), []⟩] [6, 7, 8, 19, 20, 24, 64, 65, 66])
 (.seq (.reg [⟨(some 71), none, .mv (.t 24), []⟩,
 ⟨(some 72), none, .call 12 [(.t 71)], []⟩,
 ⟨(some 70), none, .mv (.t 72), []⟩,
 ⟨(some 73), none, .ext (.t 70) 0, []⟩,
 ⟨(some 74), none, .ext (.t 70) 1, []⟩,
 ⟨(some 25), none, .mv (.t 73), []⟩,
 ⟨(some 26), none, .mv (.t 74), []⟩] [6, 7, 8, 19, 20, 24, 25, 26, 64, 65, 66])
 (.seq (.reg [⟨(some 76), none, .mv (.t 24), []⟩,
 ⟨(some 77), none, .call 13 [(.t 76)], []⟩,
 ⟨(some 75), none, .mv (.t 77), []⟩,
 ⟨(some 78), none, .ext (.t 75) 0, []⟩,
 ⟨(some 79), none, .ext (.t 75) 1, []⟩,
 ⟨(some 27), none, .mv (.t 78), []⟩,
 ⟨(some 28), none, .mv (.t 79), []⟩] [6, 7, 8, 19, 20, 24, 25, 26, 27, 28, 64, 65, 66])
 (.seq (.reg [⟨(some 80), none, .mv (.t 25), []⟩,
 ⟨(some 81), none, .mv (.t 27), []⟩,
 ⟨(some 82), none, .bin .neq (.t 80) (.t 81), []⟩,
 ⟨(some 83), none, .mv (.t 82), []⟩,
 ⟨(some 84), some (83, false), .mv (.t 26), []⟩,
 ⟨(some 85), some (83, false), .mv (.t 28), []⟩,
 ⟨(some 86), some (83, false), .bin .neq (.t 84) (.t 85), []⟩,
 ⟨(some 87), none, .pick (.t 83) (.c (.bool true)) (.t 86), []⟩,
 ⟨(some 88), none, .mv (.t 87), []⟩,
 ⟨(some 89), some (88, false), .mv (.t 24), []⟩,
 ⟨(some 90), some (88, false), .call 14 [(.t 89)], []⟩,
 ⟨(some 91), some (88, false), .mv (.t 24), []⟩,
 ⟨(some 92), some (88, false), .call 15 [(.t 91)], []⟩,
 ⟨(some 93), some (88, false), .eqv true (some [1, 1, 1, 1, 1, 1]) (.t 90) (.t 92), []⟩,
 ⟨(some 94), none, .pick (.t 88) (.c (.bool true)) (.t 93), []⟩] [6, 7, 8, 19, 20, 64, 65, 66, 94])
 (.cond (.t 94) (.seq (.reg [⟨(some 18), none, .mv (.c (.bool false)), []⟩] [18])
 (.ret))
 (.skip)))))))
 (.reg [⟨(some 95), none, .bin .add (.t 66) (.c (.int .i64 1)), []⟩,
 ⟨(some 66), none, .mv (.t 95), []⟩] [6, 7, 8, 19, 20, 64, 65, 66])))
def L3x1 : ACode := .seq (.reg [⟨(some 148), none, .bin .lss (.t 147) (.t 146), []⟩] [19, 145, 146, 147, 148])
 (.seq (.cond (.t 148) (.skip)
 (.exit 2))
 (.seq (.blk 3 (.seq (.reg [⟨(some 149), none, .iaddr 1 (.t 145) (.t 147), []⟩,
 ⟨(some 150), none, .load false 1 (.t 149), []⟩,
 ⟨(some 34), none, .mv (.t 150), []⟩] [19, 34, 145, 146, 147])
 (.seq (.reg [⟨(some 152), none, .mv (.t 34), []⟩,
 ⟨(some 153), none, .call 17 [(.t 152)], []⟩,
 ⟨(some 151), none, .mv (.t 153), []⟩,
 ⟨(some 154), none, .ext (.t 151) 0, []⟩,
 ⟨(some 155), none, .ext (.t 151) 1, []⟩,
 ⟨(some 35), none, .mv (.t 154), []⟩,
 ⟨(some 36), none, .mv (.t 155), []⟩] [19, 34, 35, 36, 145, 146, 147])
 (.seq (.reg [⟨(some 157), none, .mv (.t 34), []⟩,
 ⟨(some 158), none, .call 18 [(.t 157)], []⟩,
 ⟨(some 156), none, .mv (.t 158), []⟩,
 ⟨(some 159), none, .ext (.t 156) 0, []⟩,
 ⟨(some 160), none, .ext (.t 156) 1, []⟩,
 ⟨(some 37), none, .mv (.t 159), []⟩,
 ⟨(some 38), none, .mv (.t 160), []⟩] [19, 35, 36, 37, 38, 145, 146, 147])
 (.seq (.reg [⟨(some 161), none, .mv (.t 36), []⟩,
 ⟨(some 162), none, .mv (.t 38), []⟩,
 ⟨(some 163), none, .bin .neq (.t 161) (.t 162), []⟩,
 ⟨(some 164), none, .mv (.t 163), []⟩,
 ⟨(some 165), some (164, false), .mv (.t 35), []⟩,
 ⟨(some 166), some (164, false), .mv (.t 37), []⟩,
 ⟨(some 167), some (164, false), .call 19 [(.t 165), (.t 166)], []⟩,
 ⟨(some 168), some (164, false), .un .not (.t 167), []⟩,
 ⟨(some 169), none, .pick (.t 164) (.c (.bool true)) (.t 168), []⟩] [19, 145, 146, 147, 169])
 (.cond (.t 169) (.seq (.reg [⟨(some 18), none, .mv (.c (.bool false)), []⟩] [18])
 (.ret))
 (.skip)))))))
 (.reg [⟨(some 170), none, .bin .add (.t 147) (.c (.int .i64 1)), []⟩,
 ⟨(some 147), none, .mv (.t 170), []⟩] [19, 145, 146, 147])))
def A3 : AFunc := ⟨9, [.t 18], .seq (.reg [⟨(some 12), none, .box (.t 3), []⟩,
 ⟨(some 18), none, .mv (.c (.bool false)), []⟩] [0, 1, 2, 4, 5, 6, 7, 8, 12])
 (.seq (.reg [⟨(some 39), none, .call 8 [], []⟩,
 ⟨(some 19), none, .mv (.t 39), []⟩] [0, 1, 2, 4, 5, 6, 7, 8, 12, 19])
 (.seq (.reg [⟨(some 40), none, .mv (.t 0), []⟩,
 ⟨(some 41), none, .mv (.t 1), []⟩,
 ⟨(some 42), none, .mv (.t 2), []⟩,
 ⟨(some 43), none, .aaddr 3 1 (.t 12) (.c (.int .i64 0)), []⟩,
 ⟨(some 44), none, .load false 1 (.t 43), []⟩,
 ⟨(some 45), none, .call 9 [(.t 40), (.t 41), (.t 42), (.t 44)], []⟩,
 ⟨(some 20), none, .mv (.t 45), []⟩] [4, 5, 6, 7, 8, 12, 19, 20])
 (.seq (.reg [⟨(some 47), none, .mv (.t 4), []⟩,
 ⟨(some 48), none, .call 10 [(.t 47), (.c (.sl 1 [] .nil))], []⟩,
 ⟨(some 46), none, .mv (.t 48), []⟩,
 ⟨(some 49), none, .ext (.t 46) 0, []⟩,
 ⟨(some 50), none, .ext (.t 46) 1, []⟩,
 ⟨(some 21), none, .mv (.t 49), []⟩,
 ⟨(some 22), none, .mv (.t 50), []⟩] [5, 6, 7, 8, 12, 19, 20, 21])
 (.seq (.seq (.regD [⟨(some 51), none, .mv (.t 20), []⟩,
 ⟨(some 52), none, .mv (.t 20), []⟩,
 ⟨(some 53), none, .aaddr 3 1 (.t 12) (.c (.int .i64 1)), []⟩,
 ⟨(some 54), none, .load false 1 (.t 53), []⟩,
 ⟨(some 55), none, .aaddr 3 1 (.t 12) (.c (.int .i64 2)), []⟩,
 ⟨(some 56), none, .load false 1 (.t 55), []⟩,
 ⟨(some 57), none, .mv (.t 21), []⟩,
 ⟨(some 58), none, .call 11 [(.t 52), (.t 54), (.t 56), (.t 57)], [3, 5]⟩,
 ⟨(some 59), none, .mv (.t 5), []⟩,
 ⟨(some 60), none, .mv (.t 5), []⟩,
 ⟨(some 61), none, .len false (.t 60), []⟩,
 ⟨(some 62), none, .min [(.t 61), (.c (.int .i64 4))], []⟩,
 ⟨(some 63), none, .slice (some 8) (.t 59) none (some (.t 62)) none, []⟩,
 ⟨(some 64), none, .mks 3 1 false [(.sl 8 [] .nil)] [(0, (.t 51)), (1, (.t 58)), (2, (.t 63))], [7]⟩,
 ⟨(some 65), none, .len false (.t 64), [7]⟩,
 ⟨(some 66), none, .mv (.c (.int .i64 0)), []⟩] [6, 7, 8, 19, 20, 64, 65, 66])
 (.blk 0 (.loop L3x0)))
 (.seq (.reg [⟨(some 97), none, .mv (.t 20), []⟩,
 ⟨(some 98), none, .call 13 [(.t 97)], []⟩,
 ⟨(some 96), none, .mv (.t 98), []⟩,
 ⟨(some 99), none, .ext (.t 96) 0, []⟩,
 ⟨(some 100), none, .ext (.t 96) 1, []⟩,
 ⟨(some 29), none, .mv (.t 99), []⟩,
 ⟨(some 30), none, .mv (.t 100), []⟩] [6, 7, 8, 19, 29])
 (.seq (.reg [⟨(some 101), none, .mv (.t 7), []⟩,
 ⟨(some 102), none, .mv (.t 29), []⟩,
 ⟨(some 103), none, .len true (.t 102), []⟩,
 ⟨(some 104), none, .bin .add (.t 103) (.c (.int .i64 1)), []⟩,
 ⟨(some 105), none, .call 16 [(.t 101), (.t 104)], []⟩,
 ⟨(some 31), none, .mv (.t 105), []⟩] [6, 8, 19, 29, 31])
 (.seq (.reg [⟨(some 106), none, .mv (.t 29), []⟩,
 ⟨(some 107), none, .mv (.t 31), []⟩,
 ⟨(some 108), none, .slice none (.t 106) none (some (.t 107)) none, []⟩,
 ⟨(some 32), none, .mv (.t 108), []⟩] [6, 8, 19, 29, 31, 32])
 (.seq (.seq (.reg [⟨(some 109), none, .mv (.t 31), []⟩,
 ⟨(some 110), none, .mv (.t 29), []⟩,
 ⟨(some 111), none, .len true (.t 110), []⟩,
 ⟨(some 112), none, .bin .lss (.t 109) (.t 111), []⟩] [6, 8, 19, 29, 31, 32, 112])
 (.cond (.t 112) (.regD [⟨(some 113), none, .mv (.t 29), []⟩,
 ⟨(some 114), none, .mv (.t 31), []⟩,
 ⟨(some 115), none, .slice none (.t 113) none (some (.t 114)) none, []⟩,
 ⟨(some 116), none, .mv (.t 8), []⟩,
 ⟨(some 117), none, .mks 1 1 false [(.int .u8 0)] [(0, (.t 116))], []⟩,
 ⟨(some 118), none, .conv .ofBytes (.t 117), []⟩,
 ⟨(some 119), none, .bin .add (.t 115) (.t 118), []⟩,
 ⟨(some 120), none, .mv (.t 29), []⟩,
 ⟨(some 121), none, .mv (.t 31), []⟩,
 ⟨(some 122), none, .bin .add (.t 121) (.c (.int .i64 1)), []⟩,
 ⟨(some 123), none, .slice none (.t 120) (some (.t 122)) none none, []⟩,
 ⟨(some 124), none, .bin .add (.t 119) (.t 123), []⟩,
 ⟨(some 32), none, .mv (.t 124), []⟩] [6, 19, 29, 31, 32])
 (.skip)))
 (.seq (.seq (.regD [⟨(some 125), none, .mv (.t 6), []⟩,
 ⟨(some 126), none, .mv (.t 6), []⟩,
 ⟨(some 127), none, .len true (.t 126), []⟩,
 ⟨(some 128), none, .min [(.t 127), (.c (.int .i64 200))], []⟩,
 ⟨(some 129), none, .slice none (.t 125) none (some (.t 128)) none, []⟩,
 ⟨(some 130), none, .mv (.t 29), []⟩,
 ⟨(some 131), none, .mv (.t 29), []⟩,
 ⟨(some 132), none, .mv (.t 31), []⟩,
 ⟨(some 133), none, .slice none (.t 131) none (some (.t 132)) none, []⟩,
 ⟨(some 134), none, .mv (.t 32), []⟩,
 ⟨(some 135), none, .mv (.t 29), []⟩,
 ⟨(some 136), none, .mv (.t 6), []⟩,
 ⟨(some 137), none, .mv (.t 6), []⟩,
 ⟨(some 138), none, .len true (.t 137), []⟩,
 ⟨(some 139), none, .min [(.t 138), (.c (.int .i64 200))], []⟩,
 ⟨(some 140), none, .slice none (.t 136) none (some (.t 139)) none, []⟩,
 ⟨(some 141), none, .bin .add (.t 135) (.t 140), []⟩,
 ⟨(some 142), none, .mv (.t 29), []⟩,
 ⟨(some 143), none, .mv (.t 29), []⟩,
 ⟨(some 144), none, .bin .add (.t 142) (.t 143), []⟩,
 ⟨(some 145), none, .mks 6 1 false [(.str [])] [(0, (.t 129)), (1, (.t 130)), (2, (.t 133)), (3, (.t 134)), (4, (.t 141)), (5, (.t 144))], []⟩,
 ⟨(some 146), none, .len false (.t 145), []⟩,
 ⟨(some 147), none, .mv (.c (.int .i64 0)), []⟩] [19, 145, 146, 147])
 (.blk 2 (.loop L3x1)))
 (.seq (.reg [⟨(some 171), none, .mv (.t 19), []⟩,
 ⟨(some 18), none, .mv (.t 171), []⟩] [18])
 (.ret)))))))))))⟩
theorem c3 : cmpF Tryz.prog ⟨[(28, 2), (29, 2), (30, 3), (50, 2)], false, false⟩ Tryz.f3 K3 = some A3 := by kernel_rfl
/-- collator/collatorlaw12.ReportBack -/
def K4 : List (List Nat) := [[0, 1, 2, 3, 4], [0, 1, 2, 3, 4, 11], [0, 1, 2, 4, 11, 12], [11, 12, 13], [11, 12, 13, 14, 15], [11, 12, 13, 14, 15, 16, 17], [11, 12, 13, 14, 15, 16, 17, 18, 19], [10]]
def A4 : AFunc := ⟨5, [.t 10], .seq (.reg [⟨(some 10), none, .mv (.c (.bool false)), []⟩] [0, 1, 2, 3, 4])
 (.seq (.reg [⟨(some 20), none, .call 8 [], []⟩,
 ⟨(some 11), none, .mv (.t 20), []⟩] [0, 1, 2, 3, 4, 11])
 (.seq (.reg [⟨(some 21), none, .mv (.t 0), []⟩,
 ⟨(some 22), none, .mv (.t 1), []⟩,
 ⟨(some 23), none, .mv (.t 2), []⟩,
 ⟨(some 24), none, .mv (.t 3), []⟩,
 ⟨(some 25), none, .call 9 [(.t 21), (.t 22), (.t 23), (.t 24)], []⟩,
 ⟨(some 12), none, .mv (.t 25), []⟩] [0, 1, 2, 4, 11, 12])
 (.seq (.reg [⟨(some 26), none, .mv (.t 0), []⟩,
 ⟨(some 27), none, .mv (.t 1), []⟩,
 ⟨(some 28), none, .mv (.t 2), []⟩,
 ⟨(some 29), none, .mv (.t 4), []⟩,
 ⟨(some 30), none, .call 9 [(.t 26), (.t 27), (.t 28), (.t 29)], []⟩,
 ⟨(some 13), none, .mv (.t 30), []⟩] [11, 12, 13])
 (.seq (.reg [⟨(some 32), none, .mv (.t 12), []⟩,
 ⟨(some 33), none, .call 12 [(.t 32)], []⟩,
 ⟨(some 31), none, .mv (.t 33), []⟩,
 ⟨(some 34), none, .ext (.t 31) 0, []⟩,
 ⟨(some 35), none, .ext (.t 31) 1, []⟩,
 ⟨(some 14), none, .mv (.t 34), []⟩,
 ⟨(some 15), none, .mv (.t 35), []⟩] [11, 12, 13, 14, 15])
 (.seq (.reg [⟨(some 37), none, .mv (.t 13), []⟩,
 ⟨(some 38), none, .call 12 [(.t 37)], []⟩,
 ⟨(some 36), none, .mv (.t 38), []⟩,
 ⟨(some 39), none, .ext (.t 36) 0, []⟩,
 ⟨(some 40), none, .ext (.t 36) 1, []⟩,
 ⟨(some 16), none, .mv (.t 39), []⟩,
 ⟨(some 17), none, .mv (.t 40), []⟩] [11, 12, 13, 14, 15, 16, 17])
 (.seq (.reg [⟨(some 42), none, .mv (.t 14), []⟩,
 ⟨(some 43), none, .call 17 [(.t 42)], []⟩,
 ⟨(some 41), none, .mv (.t 43), []⟩,
 ⟨(some 44), none, .ext (.t 41) 0, []⟩,
 ⟨(some 45), none, .ext (.t 41) 1, []⟩,
 ⟨(some 18), none, .mv (.t 44), []⟩,
 ⟨(some 19), none, .mv (.t 45), []⟩] [11, 12, 13, 14, 15, 16, 17, 18, 19])
 (.seq (.reg [⟨(some 46), none, .mv (.t 11), []⟩,
 ⟨(some 47), none, .mv (.t 46), []⟩,
 ⟨(some 48), some (47, true), .mv (.t 15), []⟩,
 ⟨(some 49), some (47, true), .bin .eql (.t 48) (.c (.int .i64 0)), []⟩,
 ⟨(some 50), none, .pick (.t 47) (.t 49) (.c (.bool false)), []⟩,
 ⟨(some 51), none, .mv (.t 50), []⟩,
 ⟨(some 52), some (51, true), .mv (.t 17), []⟩,
 ⟨(some 53), some (51, true), .bin .eql (.t 52) (.c (.int .i64 0)), []⟩,
 ⟨(some 54), none, .pick (.t 51) (.t 53) (.c (.bool false)), []⟩,
 ⟨(some 55), none, .mv (.t 54), []⟩,
 ⟨(some 56), some (55, true), .mv (.t 19), []⟩,
 ⟨(some 57), some (55, true), .bin .eql (.t 56) (.c (.int .i64 0)), []⟩,
 ⟨(some 58), none, .pick (.t 55) (.t 57) (.c (.bool false)), []⟩,
 ⟨(some 59), none, .mv (.t 58), []⟩,
 ⟨(some 60), some (59, true), .mv (.t 18), []⟩,
 ⟨(some 61), some (59, true), .mv (.t 12), []⟩,
 ⟨(some 62), some (59, true), .call 19 [(.t 60), (.t 61)], []⟩,
 ⟨(some 63), none, .pick (.t 59) (.t 62) (.c (.bool false)), []⟩,
 ⟨(some 64), none, .mv (.t 63), []⟩,
 ⟨(some 65), some (64, true), .mv (.t 14), []⟩,
 ⟨(some 66), some (64, true), .mv (.t 16), []⟩,
 ⟨(some 67), some (64, true), .bin .eql (.t 65) (.t 66), []⟩,
 ⟨(some 68), some (64, true), .mv (.t 12), []⟩,
 ⟨(some 69), some (64, true), .mv (.t 13), []⟩,
 ⟨(some 70), some (64, true), .call 19 [(.t 68), (.t 69)], []⟩,
 ⟨(some 71), some (64, true), .eqv false none (.t 67) (.t 70), []⟩,
 ⟨(some 72), none, .pick (.t 64) (.t 71) (.c (.bool false)), []⟩,
 ⟨(some 10), none, .mv (.t 72), []⟩] [10])
 (.ret))))))))⟩
theorem c4 : cmpF Tryz.prog ⟨[(28, 2), (29, 2), (30, 3), (50, 2)], false, false⟩ Tryz.f4 K4 = some A4 := by kernel_rfl
/-- collator/collatorlaw12.ReportForms -/
def K5 : List (List Nat) := [[0, 1, 2, 3, 4, 5], [0, 1, 2, 3, 4, 5, 13], [3, 4, 5, 13, 14], [3, 4, 5, 13, 14, 33], [3, 5, 13, 14, 16], [3, 13, 14], [13, 56, 57, 58], [13, 56, 57, 58, 59], [13, 18, 56, 57, 58], [13, 18, 19, 20, 56, 57, 58], [13, 18, 19, 20, 56, 57, 58, 68], [13, 56, 57, 58, 75], [12], [13, 18, 21, 22, 56, 57, 58], [13, 56, 57, 58, 87], [12], [13, 56, 57, 58], [12]]
def L5x0 : ACode := .seq (.reg [⟨(some 59), none, .bin .lss (.t 58) (.t 57), []⟩] [13, 56, 57, 58, 59])
 (.seq (.cond (.t 59) (.skip)
 (.exit 0))
 (.seq (.blk 1 (.seq (.reg [⟨(some 60), none, .iaddr 1 (.t 56) (.t 58), []⟩,
 ⟨(some 61), none, .load false 1 (.t 60), []⟩,
 ⟨(some 18), none, .mv (.t 61), []⟩] [13, 18, 56, 57, 58])
 (.seq (.reg [⟨(some 63), none, .mv (.t 18), []⟩,
 ⟨(some 64), none, .call 17 [(.t 63)], []⟩,
 ⟨(some 62), none, .mv (.t 64), []⟩,
 ⟨(some 65), none, .ext (.t 62) 0, []⟩,
 ⟨(some 66), none, .ext (.t 62) 1, []⟩,
 ⟨(some 19), none, .mv (.t 65), []⟩,
 ⟨(some 20), none, .mv (.t 66), []⟩] [13, 18, 19, 20, 56, 57, 58])
 (.seq (.seq (.reg [⟨(some 67), none, .mv (.t 20), []⟩,
 ⟨(some 68), none, .bin .neq (.t 67) (.c (.int .i64 0)), []⟩] [13, 18, 19, 20, 56, 57, 58, 68])
 (.cond (.t 68) (.seq (.seq (.reg [⟨(some 69), none, .mv (.t 20), []⟩,
 ⟨(some 70), none, .bin .neq (.t 69) (.c (.int .i64 11)), []⟩,
 ⟨(some 71), none, .mv (.t 70), []⟩,
 ⟨(some 72), some (71, false), .mv (.t 19), []⟩,
 ⟨(some 73), some (71, false), .len false (.t 72), []⟩,
 ⟨(some 74), some (71, false), .bin .gtr (.t 73) (.c (.int .i64 0)), []⟩,
 ⟨(some 75), none, .pick (.t 71) (.c (.bool true)) (.t 74), []⟩] [13, 56, 57, 58, 75])
 (.cond (.t 75) (.seq (.reg [⟨(some 12), none, .mv (.c (.bool false)), []⟩] [12])
 (.ret))
 (.skip)))
 (.exit 1))
 (.skip)))
 (.seq (.reg [⟨(some 77), none, .mv (.t 19), []⟩,
 ⟨(some 78), none, .call 12 [(.t 77)], []⟩,
 ⟨(some 76), none, .mv (.t 78), []⟩,
 ⟨(some 79), none, .ext (.t 76) 0, []⟩,
 ⟨(some 80), none, .ext (.t 76) 1, []⟩,
 ⟨(some 21), none, .mv (.t 79), []⟩,
 ⟨(some 22), none, .mv (.t 80), []⟩] [13, 18, 21, 22, 56, 57, 58])
 (.seq (.reg [⟨(some 81), none, .mv (.t 22), []⟩,
 ⟨(some 82), none, .bin .neq (.t 81) (.c (.int .i64 0)), []⟩,
 ⟨(some 83), none, .mv (.t 82), []⟩,
 ⟨(some 84), some (83, false), .mv (.t 21), []⟩,
 ⟨(some 85), some (83, false), .mv (.t 18), []⟩,
 ⟨(some 86), some (83, false), .bin .neq (.t 84) (.t 85), []⟩,
 ⟨(some 87), none, .pick (.t 83) (.c (.bool true)) (.t 86), []⟩] [13, 56, 57, 58, 87])
 (.cond (.t 87) (.seq (.reg [⟨(some 12), none, .mv (.c (.bool false)), []⟩] [12])
 (.ret))
 (.skip))))))))
 (.reg [⟨(some 88), none, .bin .add (.t 58) (.c (.int .i64 1)), []⟩,
 ⟨(some 58), none, .mv (.t 88), []⟩] [13, 56, 57, 58])))
def A5 : AFunc := ⟨6, [.t 12], .seq (.reg [⟨(some 12), none, .mv (.c (.bool false)), []⟩] [0, 1, 2, 3, 4, 5])
 (.seq (.reg [⟨(some 23), none, .call 8 [], []⟩,
 ⟨(some 13), none, .mv (.t 23), []⟩] [0, 1, 2, 3, 4, 5, 13])
 (.seq (.reg [⟨(some 25), none, .mv (.t 0), []⟩,
 ⟨(some 26), none, .mv (.t 1), []⟩,
 ⟨(some 27), none, .mv (.t 2), []⟩,
 ⟨(some 28), none, .call 9 [(.t 25), (.t 26), (.t 27), (.c (.int .i64 50))], []⟩,
 ⟨(some 29), none, .call 13 [(.t 28)], []⟩,
 ⟨(some 24), none, .mv (.t 29), []⟩,
 ⟨(some 30), none, .ext (.t 24) 0, []⟩,
 ⟨(some 31), none, .ext (.t 24) 1, []⟩,
 ⟨(some 14), none, .mv (.t 30), []⟩,
 ⟨(some 15), none, .mv (.t 31), []⟩] [3, 4, 5, 13, 14])
 (.seq (.seq (.reg [⟨(some 32), none, .mv (.t 14), []⟩,
 ⟨(some 33), none, .bin .neq (.t 32) (.c (.str [])), []⟩] [3, 4, 5, 13, 14, 33])
 (.cond (.t 33) (.seq (.reg [⟨(some 34), none, .mv (.t 4), []⟩,
 ⟨(some 35), none, .mv (.t 14), []⟩,
 ⟨(some 36), none, .len true (.t 35), []⟩,
 ⟨(some 37), none, .call 16 [(.t 34), (.t 36)], []⟩,
 ⟨(some 16), none, .mv (.t 37), []⟩] [3, 5, 13, 14, 16])
 (.regD [⟨(some 38), none, .mv (.t 14), []⟩,
 ⟨(some 39), none, .mv (.t 16), []⟩,
 ⟨(some 40), none, .slice none (.t 38) none (some (.t 39)) none, []⟩,
 ⟨(some 41), none, .mv (.t 5), []⟩,
 ⟨(some 42), none, .mks 1 1 false [(.int .u8 0)] [(0, (.t 41))], []⟩,
 ⟨(some 43), none, .conv .ofBytes (.t 42), []⟩,
 ⟨(some 44), none, .bin .add (.t 40) (.t 43), []⟩,
 ⟨(some 45), none, .mv (.t 14), []⟩,
 ⟨(some 46), none, .mv (.t 16), []⟩,
 ⟨(some 47), none, .bin .add (.t 46) (.c (.int .i64 1)), []⟩,
 ⟨(some 48), none, .slice none (.t 45) (some (.t 47)) none none, []⟩,
 ⟨(some 49), none, .bin .add (.t 44) (.t 48), []⟩,
 ⟨(some 14), none, .mv (.t 49), []⟩] [3, 13, 14]))
 (.skip)))
 (.seq (.seq (.reg [⟨(some 50), none, .mv (.t 3), []⟩,
 ⟨(some 51), none, .mv (.t 3), []⟩,
 ⟨(some 52), none, .len true (.t 51), []⟩,
 ⟨(some 53), none, .min [(.t 52), (.c (.int .i64 200))], []⟩,
 ⟨(some 54), none, .slice none (.t 50) none (some (.t 53)) none, []⟩,
 ⟨(some 55), none, .mv (.t 14), []⟩,
 ⟨(some 56), none, .mks 2 1 false [(.str [])] [(0, (.t 54)), (1, (.t 55))], []⟩,
 ⟨(some 57), none, .len false (.t 56), []⟩,
 ⟨(some 58), none, .mv (.c (.int .i64 0)), []⟩] [13, 56, 57, 58])
 (.blk 0 (.loop L5x0)))
 (.seq (.reg [⟨(some 89), none, .mv (.t 13), []⟩,
 ⟨(some 12), none, .mv (.t 89), []⟩] [12])
 (.ret))))))⟩
theorem c5 : cmpF Tryz.prog ⟨[(28, 2), (29, 2), (30, 3), (50, 2)], false, false⟩ Tryz.f5 K5 = some A5 := by kernel_rfl
/-- collator/collatorlaw12.ReportParts -/
def K6 : List (List Nat) := [[0, 1, 2, 3, 4], [0, 1, 2, 3, 4, 11], [4, 11, 12], [11, 12, 13], [11, 12, 13, 14, 15], [11, 12, 13, 14, 15, 16, 17], [11, 12, 13, 14, 15, 16, 17, 18, 19], [11, 12, 13, 14, 16, 80], [10], [11, 12, 13, 20, 21], [11, 12, 13, 20, 21, 22], [11, 12, 13, 20, 21, 22, 23], [11, 12, 13, 20, 21, 22, 23, 24], [11, 12, 13, 20, 21, 22, 23, 24, 25], [11, 12, 13, 20, 21, 22, 23, 24, 25, 26], [11, 12, 13, 20, 21, 22, 23, 24, 25, 26, 100], [11, 12, 13, 20, 21, 22, 23, 24, 25, 26, 113], [10], [11, 12, 13, 20, 21, 22, 23, 24, 25, 26], [11, 12, 13, 20, 21, 22, 23, 24, 25, 26], [10]]
def L6x0 : ACode := .seq (.seq (.reg [⟨(some 99), none, .mv (.t 26), []⟩,
 ⟨(some 100), none, .bin .lss (.t 99) (.c (.int .i64 6)), []⟩] [11, 12, 13, 20, 21, 22, 23, 24, 25, 26, 100])
 (.cond (.t 100) (.skip)
 (.exit 0)))
 (.seq (.blk 1 (.seq (.seq (.regD [⟨(some 103), none, .mv (.t 26), []⟩,
 ⟨(some 104), none, .aaddr 6 1 (.t 22) (.t 103), []⟩,
 ⟨(some 105), none, .load false 1 (.t 104), []⟩,
 ⟨(some 106), none, .mv (.t 26), []⟩,
 ⟨(some 107), none, .aaddr 6 1 (.t 23) (.t 106), []⟩,
 ⟨(some 108), none, .load false 1 (.t 107), []⟩,
 ⟨(some 109), none, .mv (.t 26), []⟩,
 ⟨(some 110), none, .aaddr 6 1 (.t 24) (.t 109), []⟩,
 ⟨(some 111), none, .load false 1 (.t 110), []⟩,
 ⟨(some 112), none, .bin .add (.t 108) (.t 111), []⟩,
 ⟨(some 113), none, .bin .neq (.t 105) (.t 112), []⟩] [11, 12, 13, 20, 21, 22, 23, 24, 25, 26, 113])
 (.cond (.t 113) (.seq (.reg [⟨(some 10), none, .mv (.c (.bool false)), []⟩] [10])
 (.ret))
 (.skip)))
 (.reg [⟨(some 114), none, .mv (.t 25), []⟩,
 ⟨(some 115), none, .mv (.t 26), []⟩,
 ⟨(some 116), none, .aaddr 6 1 (.t 22) (.t 115), []⟩,
 ⟨(some 117), none, .load false 1 (.t 116), []⟩,
 ⟨(some 118), none, .bin .add (.t 114) (.t 117), []⟩,
 ⟨(some 25), none, .mv (.t 118), []⟩] [11, 12, 13, 20, 21, 22, 23, 24, 25, 26])))
 (.reg [⟨(some 101), none, .mv (.t 26), []⟩,
 ⟨(some 102), none, .bin .add (.t 101) (.c (.int .i64 1)), []⟩,
 ⟨(some 26), none, .mv (.t 102), []⟩] [11, 12, 13, 20, 21, 22, 23, 24, 25, 26]))
def A6 : AFunc := ⟨5, [.t 10], .seq (.reg [⟨(some 10), none, .mv (.c (.bool false)), []⟩] [0, 1, 2, 3, 4])
 (.seq (.reg [⟨(some 27), none, .call 8 [], []⟩,
 ⟨(some 11), none, .mv (.t 27), []⟩] [0, 1, 2, 3, 4, 11])
 (.seq (.reg [⟨(some 28), none, .mv (.t 0), []⟩,
 ⟨(some 29), none, .mv (.t 1), []⟩,
 ⟨(some 30), none, .mv (.t 2), []⟩,
 ⟨(some 31), none, .mv (.t 3), []⟩,
 ⟨(some 32), none, .call 9 [(.t 28), (.t 29), (.t 30), (.t 31)], []⟩,
 ⟨(some 12), none, .mv (.t 32), []⟩] [4, 11, 12])
 (.seq (.reg [⟨(some 33), none, .mv (.t 4), []⟩,
 ⟨(some 34), none, .mv (.t 12), []⟩,
 ⟨(some 35), none, .len false (.t 34), []⟩,
 ⟨(some 36), none, .bin .add (.t 35) (.c (.int .i64 1)), []⟩,
 ⟨(some 37), none, .call 16 [(.t 33), (.t 36)], []⟩,
 ⟨(some 13), none, .mv (.t 37), []⟩] [11, 12, 13])
 (.seq (.reg [⟨(some 39), none, .mv (.t 12), []⟩,
 ⟨(some 40), none, .call 12 [(.t 39)], []⟩,
 ⟨(some 38), none, .mv (.t 40), []⟩,
 ⟨(some 41), none, .ext (.t 38) 0, []⟩,
 ⟨(some 42), none, .ext (.t 38) 1, []⟩,
 ⟨(some 14), none, .mv (.t 41), []⟩,
 ⟨(some 15), none, .mv (.t 42), []⟩] [11, 12, 13, 14, 15])
 (.seq (.reg [⟨(some 44), none, .mv (.t 12), []⟩,
 ⟨(some 45), none, .mv (.t 13), []⟩,
 ⟨(some 46), none, .slice (some 8) (.t 44) none (some (.t 45)) none, []⟩,
 ⟨(some 47), none, .call 12 [(.t 46)], []⟩,
 ⟨(some 43), none, .mv (.t 47), []⟩,
 ⟨(some 48), none, .ext (.t 43) 0, []⟩,
 ⟨(some 49), none, .ext (.t 43) 1, []⟩,
 ⟨(some 16), none, .mv (.t 48), []⟩,
 ⟨(some 17), none, .mv (.t 49), []⟩] [11, 12, 13, 14, 15, 16, 17])
 (.seq (.reg [⟨(some 51), none, .mv (.t 12), []⟩,
 ⟨(some 52), none, .mv (.t 13), []⟩,
 ⟨(some 53), none, .slice (some 8) (.t 51) (some (.t 52)) none none, []⟩,
 ⟨(some 54), none, .call 12 [(.t 53)], []⟩,
 ⟨(some 50), none, .mv (.t 54), []⟩,
 ⟨(some 55), none, .ext (.t 50) 0, []⟩,
 ⟨(some 56), none, .ext (.t 50) 1, []⟩,
 ⟨(some 18), none, .mv (.t 55), []⟩,
 ⟨(some 19), none, .mv (.t 56), []⟩] [11, 12, 13, 14, 15, 16, 17, 18, 19])
 (.seq (.seq (.reg [⟨(some 57), none, .mv (.t 15), []⟩,
 ⟨(some 58), none, .bin .neq (.t 57) (.c (.int .i64 0)), []⟩,
 ⟨(some 59), none, .mv (.t 58), []⟩,
 ⟨(some 60), some (59, false), .mv (.t 17), []⟩,
 ⟨(some 61), some (59, false), .bin .neq (.t 60) (.c (.int .i64 0)), []⟩,
 ⟨(some 62), none, .pick (.t 59) (.c (.bool true)) (.t 61), []⟩,
 ⟨(some 63), none, .mv (.t 62), []⟩,
 ⟨(some 64), some (63, false), .mv (.t 19), []⟩,
 ⟨(some 65), some (63, false), .bin .neq (.t 64) (.c (.int .i64 0)), []⟩,
 ⟨(some 66), none, .pick (.t 63) (.c (.bool true)) (.t 65), []⟩,
 ⟨(some 67), none, .mv (.t 66), []⟩,
 ⟨(some 68), some (67, false), .mv (.t 16), []⟩,
 ⟨(some 69), some (67, false), .mv (.t 18), []⟩,
 ⟨(some 70), some (67, false), .bin .add (.t 68) (.t 69), []⟩,
 ⟨(some 71), some (67, false), .mv (.t 14), []⟩,
 ⟨(some 72), some (67, false), .bin .neq (.t 70) (.t 71), []⟩,
 ⟨(some 73), none, .pick (.t 67) (.c (.bool true)) (.t 72), []⟩,
 ⟨(some 74), none, .mv (.t 73), []⟩,
 ⟨(some 75), some (74, false), .mv (.t 16), []⟩,
 ⟨(some 76), some (74, false), .len true (.t 75), []⟩,
 ⟨(some 77), some (74, false), .mv (.t 14), []⟩,
 ⟨(some 78), some (74, false), .len true (.t 77), []⟩,
 ⟨(some 79), some (74, false), .bin .gtr (.t 76) (.t 78), []⟩,
 ⟨(some 80), none, .pick (.t 74) (.c (.bool true)) (.t 79), []⟩] [11, 12, 13, 14, 16, 80])
 (.cond (.t 80) (.seq (.reg [⟨(some 10), none, .mv (.c (.bool false)), []⟩] [10])
 (.ret))
 (.skip)))
 (.seq (.reg [⟨(some 82), none, .mv (.t 14), []⟩,
 ⟨(some 83), none, .mv (.t 16), []⟩,
 ⟨(some 84), none, .len true (.t 83), []⟩,
 ⟨(some 85), none, .slice none (.t 82) none (some (.t 84)) none, []⟩,
 ⟨(some 86), none, .call 17 [(.t 85)], []⟩,
 ⟨(some 81), none, .mv (.t 86), []⟩,
 ⟨(some 87), none, .ext (.t 81) 0, []⟩,
 ⟨(some 88), none, .ext (.t 81) 1, []⟩,
 ⟨(some 20), none, .mv (.t 87), []⟩,
 ⟨(some 21), none, .mv (.t 88), []⟩] [11, 12, 13, 20, 21])
 (.seq (.reg [⟨(some 89), none, .mv (.t 12), []⟩,
 ⟨(some 90), none, .call 14 [(.t 89)], []⟩,
 ⟨(some 22), none, .alloc [(.int .i64 0), (.int .i64 0), (.int .i64 0), (.int .i64 0), (.int .i64 0), (.int .i64 0)], []⟩,
 ⟨none, none, .store 6 (.t 22) (.t 90), []⟩] [11, 12, 13, 20, 21, 22])
 (.seq (.reg [⟨(some 91), none, .mv (.t 12), []⟩,
 ⟨(some 92), none, .mv (.t 13), []⟩,
 ⟨(some 93), none, .slice (some 8) (.t 91) none (some (.t 92)) none, []⟩,
 ⟨(some 94), none, .call 14 [(.t 93)], []⟩,
 ⟨(some 23), none, .alloc [(.int .i64 0), (.int .i64 0), (.int .i64 0), (.int .i64 0), (.int .i64 0), (.int .i64 0)], []⟩,
 ⟨none, none, .store 6 (.t 23) (.t 94), []⟩] [11, 12, 13, 20, 21, 22, 23])
 (.seq (.reg [⟨(some 95), none, .mv (.t 12), []⟩,
 ⟨(some 96), none, .mv (.t 13), []⟩,
 ⟨(some 97), none, .slice (some 8) (.t 95) (some (.t 96)) none none, []⟩,
 ⟨(some 98), none, .call 14 [(.t 97)], []⟩,
 ⟨(some 24), none, .alloc [(.int .i64 0), (.int .i64 0), (.int .i64 0), (.int .i64 0), (.int .i64 0), (.int .i64 0)], []⟩,
 ⟨none, none, .store 6 (.t 24) (.t 98), []⟩] [11, 12, 13, 20, 21, 22, 23, 24])
 (.seq (.reg [⟨(some 25), none, .mv (.c (.int .i64 0)), []⟩] [11, 12, 13, 20, 21, 22, 23, 24, 25])
 (.seq (.seq (.reg [⟨(some 26), none, .mv (.c (.int .i64 0)), []⟩] [11, 12, 13, 20, 21, 22, 23, 24, 25, 26])
 (.blk 0 (.loop L6x0)))
 (.seq (.reg [⟨(some 119), none, .mv (.t 11), []⟩,
 ⟨(some 120), none, .mv (.t 119), []⟩,
 ⟨(some 121), some (120, true), .mv (.t 21), []⟩,
 ⟨(some 122), some (120, true), .bin .eql (.t 121) (.c (.int .i64 0)), []⟩,
 ⟨(some 123), none, .pick (.t 120) (.t 122) (.c (.bool false)), []⟩,
 ⟨(some 124), none, .mv (.t 123), []⟩,
 ⟨(some 125), some (124, true), .mv (.t 20), []⟩,
 ⟨(some 126), some (124, true), .mv (.t 12), []⟩,
 ⟨(some 127), some (124, true), .mv (.t 13), []⟩,
 ⟨(some 128), some (124, true), .slice (some 8) (.t 126) none (some (.t 127)) none, []⟩,
 ⟨(some 129), some (124, true), .call 19 [(.t 125), (.t 128)], []⟩,
 ⟨(some 130), none, .pick (.t 124) (.t 129) (.c (.bool false)), []⟩,
 ⟨(some 131), none, .mv (.t 130), []⟩,
 ⟨(some 132), some (131, true), .mv (.t 25), []⟩,
 ⟨(some 133), some (131, true), .mv (.t 12), []⟩,
 ⟨(some 134), some (131, true), .len false (.t 133), []⟩,
 ⟨(some 135), some (131, true), .bin .eql (.t 132) (.t 134), []⟩,
 ⟨(some 136), none, .pick (.t 131) (.t 135) (.c (.bool false)), []⟩,
 ⟨(some 10), none, .mv (.t 136), []⟩] [10])
 (.ret)))))))))))))))⟩
theorem c6 : cmpF Tryz.prog ⟨[(28, 2), (29, 2), (30, 3), (50, 2)], false, false⟩ Tryz.f6 K6 = some A6 := by kernel_rfl
/-- collator/collatorlaw12.ReportCuts -/
def K7 : List (List Nat) := [[0, 1, 2, 3, 4], [0, 1, 2, 3, 4, 11], [4, 11, 12], [4, 11, 12, 13, 14], [4, 11, 12, 13, 34], [10], [11, 12, 13, 15], [11, 12, 13, 15, 16], [11, 12, 13, 15, 16, 17], [11, 12, 13, 15, 16, 17, 45], [11, 12, 13, 15, 16, 17, 18, 19], [11, 12, 13, 15, 16, 17, 18, 56], [10], [11, 12, 13, 15, 16, 17], [11, 12, 13, 15, 16, 17], [11, 16, 20, 21], [10]]
def L7x0 : ACode := .seq (.seq (.reg [⟨(some 42), none, .mv (.t 17), []⟩,
 ⟨(some 43), none, .mv (.t 12), []⟩,
 ⟨(some 44), none, .len false (.t 43), []⟩,
 ⟨(some 45), none, .bin .leq (.t 42) (.t 44), []⟩] [11, 12, 13, 15, 16, 17, 45])
 (.cond (.t 45) (.skip)
 (.exit 0)))
 (.seq (.blk 1 (.seq (.reg [⟨(some 49), none, .mv (.t 12), []⟩,
 ⟨(some 50), none, .mv (.t 17), []⟩,
 ⟨(some 51), none, .slice (some 8) (.t 49) none (some (.t 50)) none, []⟩,
 ⟨(some 52), none, .call 12 [(.t 51)], []⟩,
 ⟨(some 48), none, .mv (.t 52), []⟩,
 ⟨(some 53), none, .ext (.t 48) 0, []⟩,
 ⟨(some 54), none, .ext (.t 48) 1, []⟩,
 ⟨(some 18), none, .mv (.t 53), []⟩,
 ⟨(some 19), none, .mv (.t 54), []⟩] [11, 12, 13, 15, 16, 17, 18, 19])
 (.seq (.seq (.reg [⟨(some 55), none, .mv (.t 19), []⟩,
 ⟨(some 56), none, .bin .neq (.t 55) (.c (.int .i64 0)), []⟩] [11, 12, 13, 15, 16, 17, 18, 56])
 (.cond (.t 56) (.seq (.reg [⟨(some 10), none, .mv (.c (.bool false)), []⟩] [10])
 (.ret))
 (.skip)))
 (.reg [⟨(some 57), none, .mv (.t 16), []⟩,
 ⟨(some 58), none, .mv (.t 57), []⟩,
 ⟨(some 59), some (58, false), .mv (.t 18), []⟩,
 ⟨(some 60), some (58, false), .len true (.t 59), []⟩,
 ⟨(some 61), some (58, false), .mv (.t 15), []⟩,
 ⟨(some 62), some (58, false), .bin .eql (.t 60) (.t 61), []⟩,
 ⟨(some 63), none, .pick (.t 58) (.c (.bool true)) (.t 62), []⟩,
 ⟨(some 16), none, .mv (.t 63), []⟩] [11, 12, 13, 15, 16, 17]))))
 (.reg [⟨(some 46), none, .mv (.t 17), []⟩,
 ⟨(some 47), none, .bin .add (.t 46) (.c (.int .i64 1)), []⟩,
 ⟨(some 17), none, .mv (.t 47), []⟩] [11, 12, 13, 15, 16, 17]))
def A7 : AFunc := ⟨5, [.t 10], .seq (.reg [⟨(some 10), none, .mv (.c (.bool false)), []⟩] [0, 1, 2, 3, 4])
 (.seq (.reg [⟨(some 22), none, .call 8 [], []⟩,
 ⟨(some 11), none, .mv (.t 22), []⟩] [0, 1, 2, 3, 4, 11])
 (.seq (.reg [⟨(some 23), none, .mv (.t 0), []⟩,
 ⟨(some 24), none, .mv (.t 1), []⟩,
 ⟨(some 25), none, .mv (.t 2), []⟩,
 ⟨(some 26), none, .mv (.t 3), []⟩,
 ⟨(some 27), none, .call 9 [(.t 23), (.t 24), (.t 25), (.t 26)], []⟩,
 ⟨(some 12), none, .mv (.t 27), []⟩] [4, 11, 12])
 (.seq (.reg [⟨(some 29), none, .mv (.t 12), []⟩,
 ⟨(some 30), none, .call 12 [(.t 29)], []⟩,
 ⟨(some 28), none, .mv (.t 30), []⟩,
 ⟨(some 31), none, .ext (.t 28) 0, []⟩,
 ⟨(some 32), none, .ext (.t 28) 1, []⟩,
 ⟨(some 13), none, .mv (.t 31), []⟩,
 ⟨(some 14), none, .mv (.t 32), []⟩] [4, 11, 12, 13, 14])
 (.seq (.seq (.reg [⟨(some 33), none, .mv (.t 14), []⟩,
 ⟨(some 34), none, .bin .neq (.t 33) (.c (.int .i64 0)), []⟩] [4, 11, 12, 13, 34])
 (.cond (.t 34) (.seq (.reg [⟨(some 10), none, .mv (.c (.bool false)), []⟩] [10])
 (.ret))
 (.skip)))
 (.seq (.reg [⟨(some 35), none, .mv (.t 4), []⟩,
 ⟨(some 36), none, .mv (.t 13), []⟩,
 ⟨(some 37), none, .len true (.t 36), []⟩,
 ⟨(some 38), none, .bin .add (.t 37) (.c (.int .i64 1)), []⟩,
 ⟨(some 39), none, .call 16 [(.t 35), (.t 38)], []⟩,
 ⟨(some 15), none, .mv (.t 39), []⟩] [11, 12, 13, 15])
 (.seq (.reg [⟨(some 40), none, .mv (.t 15), []⟩,
 ⟨(some 41), none, .bin .eql (.t 40) (.c (.int .i64 0)), []⟩,
 ⟨(some 16), none, .mv (.t 41), []⟩] [11, 12, 13, 15, 16])
 (.seq (.seq (.reg [⟨(some 17), none, .mv (.c (.int .i64 0)), []⟩] [11, 12, 13, 15, 16, 17])
 (.blk 0 (.loop L7x0)))
 (.seq (.reg [⟨(some 65), none, .mv (.t 13), []⟩,
 ⟨(some 66), none, .mv (.t 15), []⟩,
 ⟨(some 67), none, .slice none (.t 65) none (some (.t 66)) none, []⟩,
 ⟨(some 68), none, .call 17 [(.t 67)], []⟩,
 ⟨(some 64), none, .mv (.t 68), []⟩,
 ⟨(some 69), none, .ext (.t 64) 0, []⟩,
 ⟨(some 70), none, .ext (.t 64) 1, []⟩,
 ⟨(some 20), none, .mv (.t 69), []⟩,
 ⟨(some 21), none, .mv (.t 70), []⟩] [11, 16, 20, 21])
 (.seq (.reg [⟨(some 71), none, .mv (.t 11), []⟩,
 ⟨(some 72), none, .mv (.t 71), []⟩,
 ⟨(some 73), some (72, true), .mv (.t 21), []⟩,
 ⟨(some 74), some (72, true), .bin .eql (.t 73) (.c (.int .i64 0)), []⟩,
 ⟨(some 75), some (72, true), .mv (.t 16), []⟩,
 ⟨(some 76), some (72, true), .eqv false none (.t 74) (.t 75), []⟩,
 ⟨(some 77), none, .pick (.t 72) (.t 76) (.c (.bool false)), []⟩,
 ⟨(some 78), none, .mv (.t 77), []⟩,
 ⟨(some 79), some (78, true), .mv (.t 21), []⟩,
 ⟨(some 80), some (78, true), .bin .eql (.t 79) (.c (.int .i64 0)), []⟩,
 ⟨(some 81), some (78, true), .mv (.t 80), []⟩,
 ⟨(some 82), some (81, false), .mv (.t 21), []⟩,
 ⟨(some 83), some (81, false), .bin .eql (.t 82) (.c (.int .i64 11)), []⟩,
 ⟨(some 84), some (81, false), .mv (.t 83), []⟩,
 ⟨(some 85), some (84, true), .mv (.t 20), []⟩,
 ⟨(some 86), some (84, true), .len false (.t 85), []⟩,
 ⟨(some 87), some (84, true), .bin .eql (.t 86) (.c (.int .i64 0)), []⟩,
 ⟨(some 88), some (81, false), .pick (.t 84) (.t 87) (.c (.bool false)), []⟩,
 ⟨(some 89), some (78, true), .pick (.t 81) (.c (.bool true)) (.t 88), []⟩,
 ⟨(some 90), none, .pick (.t 78) (.t 89) (.c (.bool false)), []⟩,
 ⟨(some 10), none, .mv (.t 90), []⟩] [10])
 (.ret))))))))))⟩
theorem c7 : cmpF Tryz.prog ⟨[(28, 2), (29, 2), (30, 3), (50, 2)], false, false⟩ Tryz.f7 K7 = some A7 := by kernel_rfl
/-- collator/collatorlaw12.awake -/
def K8 : List (List Nat) := [[], [1], [1, 2, 3], [1, 2, 3, 4, 5], [1, 2, 3, 4, 5, 7], [1, 2, 3, 4, 5, 7, 9], [1, 2, 3, 4, 5, 7, 9, 10, 11], [0]]
def A8 : AFunc := ⟨0, [.t 0], .seq (.reg [⟨(some 0), none, .mv (.c (.bool false)), []⟩] [])
 (.seq (.reg [⟨(some 12), none, .agg [(.int .i64 0), (.str []), (.str []), (.int .i64 0), (.int .i64 0), (.str []), (.int .i64 0), (.sl 3 [] .nil)] [(0, 1, (.c (.int .i64 1))), (1, 1, (.c (.str [97]))), (4, 1, (.c (.int .i64 1)))], []⟩,
 ⟨(some 13), none, .mks 1 8 true [(.int .i64 0), (.str []), (.str []), (.int .i64 0), (.int .i64 0), (.str []), (.int .i64 0), (.sl 3 [] .nil)] [(0, (.t 12))], []⟩,
 ⟨(some 1), none, .mv (.t 13), []⟩] [1])
 (.seq (.reg [⟨(some 15), none, .mv (.t 1), []⟩,
 ⟨(some 16), none, .call 12 [(.t 15)], []⟩,
 ⟨(some 14), none, .mv (.t 16), []⟩,
 ⟨(some 17), none, .ext (.t 14) 0, []⟩,
 ⟨(some 18), none, .ext (.t 14) 1, []⟩,
 ⟨(some 2), none, .mv (.t 17), []⟩,
 ⟨(some 3), none, .mv (.t 18), []⟩] [1, 2, 3])
 (.seq (.reg [⟨(some 20), none, .call 17 [(.c (.str [49, 59, 49, 58, 97, 48, 58, 48, 59, 49, 59, 48, 58, 48, 59, 48, 58]))], []⟩,
 ⟨(some 19), none, .mv (.t 20), []⟩,
 ⟨(some 21), none, .ext (.t 19) 0, []⟩,
 ⟨(some 22), none, .ext (.t 19) 1, []⟩,
 ⟨(some 4), none, .mv (.t 21), []⟩,
 ⟨(some 5), none, .mv (.t 22), []⟩] [1, 2, 3, 4, 5])
 (.seq (.reg [⟨(some 24), none, .agg [(.int .i64 0), (.str []), (.str []), (.int .i64 0), (.int .i64 0), (.str []), (.int .i64 0), (.sl 3 [] .nil)] [], []⟩,
 ⟨(some 25), none, .mks 1 8 true [(.int .i64 0), (.str []), (.str []), (.int .i64 0), (.int .i64 0), (.str []), (.int .i64 0), (.sl 3 [] .nil)] [(0, (.t 24))], []⟩,
 ⟨(some 26), none, .call 12 [(.t 25)], []⟩,
 ⟨(some 23), none, .mv (.t 26), []⟩,
 ⟨(some 27), none, .ext (.t 23) 0, []⟩,
 ⟨(some 28), none, .ext (.t 23) 1, []⟩,
 ⟨(some 6), none, .mv (.t 27), []⟩,
 ⟨(some 7), none, .mv (.t 28), []⟩] [1, 2, 3, 4, 5, 7])
 (.seq (.reg [⟨(some 30), none, .call 17 [(.c (.str [49]))], []⟩,
 ⟨(some 29), none, .mv (.t 30), []⟩,
 ⟨(some 31), none, .ext (.t 29) 0, []⟩,
 ⟨(some 32), none, .ext (.t 29) 1, []⟩,
 ⟨(some 8), none, .mv (.t 31), []⟩,
 ⟨(some 9), none, .mv (.t 32), []⟩] [1, 2, 3, 4, 5, 7, 9])
 (.seq (.reg [⟨(some 34), none, .call 17 [(.c (.str []))], []⟩,
 ⟨(some 33), none, .mv (.t 34), []⟩,
 ⟨(some 35), none, .ext (.t 33) 0, []⟩,
 ⟨(some 36), none, .ext (.t 33) 1, []⟩,
 ⟨(some 10), none, .mv (.t 35), []⟩,
 ⟨(some 11), none, .mv (.t 36), []⟩] [1, 2, 3, 4, 5, 7, 9, 10, 11])
 (.seq (.reg [⟨(some 37), none, .mv (.t 3), []⟩,
 ⟨(some 38), none, .bin .eql (.t 37) (.c (.int .i64 0)), []⟩,
 ⟨(some 39), none, .mv (.t 38), []⟩,
 ⟨(some 40), some (39, true), .mv (.t 2), []⟩,
 ⟨(some 41), some (39, true), .bin .eql (.t 40) (.c (.str [49, 59, 49, 58, 97, 48, 58, 48, 59, 49, 59, 48, 58, 48, 59, 48, 58])), []⟩,
 ⟨(some 42), none, .pick (.t 39) (.t 41) (.c (.bool false)), []⟩,
 ⟨(some 43), none, .mv (.t 42), []⟩,
 ⟨(some 44), some (43, true), .mv (.t 5), []⟩,
 ⟨(some 45), some (43, true), .bin .eql (.t 44) (.c (.int .i64 0)), []⟩,
 ⟨(some 46), none, .pick (.t 43) (.t 45) (.c (.bool false)), []⟩,
 ⟨(some 47), none, .mv (.t 46), []⟩,
 ⟨(some 48), some (47, true), .mv (.t 4), []⟩,
 ⟨(some 49), some (47, true), .mv (.t 1), []⟩,
 ⟨(some 50), some (47, true), .call 19 [(.t 48), (.t 49)], []⟩,
 ⟨(some 51), none, .pick (.t 47) (.t 50) (.c (.bool false)), []⟩,
 ⟨(some 52), none, .mv (.t 51), []⟩,
 ⟨(some 53), some (52, true), .mv (.t 7), []⟩,
 ⟨(some 54), some (52, true), .bin .eql (.t 53) (.c (.int .i64 1)), []⟩,
 ⟨(some 55), none, .pick (.t 52) (.t 54) (.c (.bool false)), []⟩,
 ⟨(some 56), none, .mv (.t 55), []⟩,
 ⟨(some 57), some (56, true), .mv (.t 9), []⟩,
 ⟨(some 58), some (56, true), .bin .eql (.t 57) (.c (.int .i64 11)), []⟩,
 ⟨(some 59), none, .pick (.t 56) (.t 58) (.c (.bool false)), []⟩,
 ⟨(some 60), none, .mv (.t 59), []⟩,
 ⟨(some 61), some (60, true), .mv (.t 11), []⟩,
 ⟨(some 62), some (60, true), .bin .eql (.t 61) (.c (.int .i64 0)), []⟩,
 ⟨(some 63), none, .pick (.t 60) (.t 62) (.c (.bool false)), []⟩,
 ⟨(some 64), none, .mv (.t 63), []⟩,
 ⟨(some 65), some (64, true), .mv (.t 10), []⟩,
 ⟨(some 66), some (64, true), .len false (.t 65), []⟩,
 ⟨(some 67), some (64, true), .bin .eql (.t 66) (.c (.int .i64 0)), []⟩,
 ⟨(some 68), none, .pick (.t 64) (.t 67) (.c (.bool false)), []⟩,
 ⟨(some 69), none, .mv (.t 68), []⟩,
 ⟨(some 70), some (69, true), .mv (.t 1), []⟩,
 ⟨(some 71), some (69, true), .call 14 [(.t 70)], []⟩,
 ⟨(some 72), some (69, true), .agg [(.int .i64 0), (.int .i64 0), (.int .i64 0), (.int .i64 0), (.int .i64 0), (.int .i64 0)] [(0, 1, (.c (.int .i64 0))), (1, 1, (.c (.int .i64 1)))], []⟩,
 ⟨(some 73), some (69, true), .eqv false (some [1, 1, 1, 1, 1, 1]) (.t 71) (.t 72), []⟩,
 ⟨(some 74), none, .pick (.t 69) (.t 73) (.c (.bool false)), []⟩,
 ⟨(some 0), none, .mv (.t 74), []⟩] [0])
 (.ret))))))))⟩
theorem c8 : cmpF Tryz.prog ⟨[(28, 2), (29, 2), (30, 3), (50, 2)], false, false⟩ Tryz.f8 K8 = some A8 := by kernel_rfl
/-- collator/collatorlaw12.Entries -/
def K9 : List (List Nat) := [[0, 1, 2, 3], [3, 9, 10], [11], [8]]
def A9 : AFunc := ⟨4, [.t 8], .seq (.reg [⟨(some 8), none, .mv (.c (.sl 8 [] .nil)), []⟩] [0, 1, 2, 3])
 (.seq (.reg [⟨(some 14), none, .mv (.t 0), []⟩,
 ⟨(some 15), none, .mv (.t 1), []⟩,
 ⟨(some 16), none, .mv (.t 2), []⟩,
 ⟨(some 17), none, .call 20 [(.t 14), (.t 15), (.t 16)], []⟩,
 ⟨(some 13), none, .mv (.t 17), []⟩,
 ⟨(some 18), none, .ext (.t 13) 0, []⟩,
 ⟨(some 19), none, .ext (.t 13) 1, []⟩,
 ⟨(some 9), none, .mv (.t 18), []⟩,
 ⟨(some 10), none, .mv (.t 19), []⟩] [3, 9, 10])
 (.seq (.reg [⟨(some 21), none, .mv (.t 9), []⟩,
 ⟨(some 22), none, .mv (.t 10), []⟩,
 ⟨(some 23), none, .call 22 [], []⟩,
 ⟨(some 24), none, .mv (.t 3), []⟩,
 ⟨(some 25), none, .call 16 [(.t 24), (.c (.int .i64 102))], []⟩,
 ⟨(some 26), none, .call 21 [(.t 21), (.t 22), (.t 23), (.t 25)], []⟩,
 ⟨(some 20), none, .mv (.t 26), []⟩,
 ⟨(some 27), none, .ext (.t 20) 0, []⟩,
 ⟨(some 28), none, .ext (.t 20) 1, []⟩,
 ⟨(some 12), none, .alloc [(.str []), (.int .i64 0)], []⟩,
 ⟨(some 11), none, .mv (.t 27), []⟩,
 ⟨none, none, .store 2 (.t 12) (.t 28), []⟩] [11])
 (.seq (.reg [⟨(some 29), none, .mv (.t 11), []⟩,
 ⟨(some 8), none, .mv (.t 29), []⟩] [8])
 (.ret))))⟩
theorem c9 : cmpF Tryz.prog ⟨[(28, 2), (29, 2), (30, 3), (50, 2)], false, false⟩ Tryz.f9 K9 = some A9 := by kernel_rfl
/-- collator/collatorlaw04.Script -/
def K10 : List (List Nat) := [[0, 1], [0, 1, 6], [0, 1, 6, 7], [0, 1, 6, 7, 8], [0, 1, 6, 7, 8, 17], [0, 1, 6, 7, 8, 9], [0, 1, 6, 7, 8, 9, 36], [0, 1, 6, 7, 8, 9], [0, 1, 6, 7, 8, 9, 73], [0, 1, 6, 7, 8, 9], [0, 1, 6, 7, 8, 9, 80], [0, 1, 6, 7, 8], [0, 1, 6, 7, 8], [4, 5]]
def L10x0 : ACode := .seq (.seq (.reg [⟨(some 10), none, .mv (.t 8), []⟩,
 ⟨(some 11), none, .mv (.t 0), []⟩,
 ⟨(some 12), none, .len false (.t 11), []⟩,
 ⟨(some 13), none, .bin .lss (.t 10) (.t 12), []⟩,
 ⟨(some 14), none, .mv (.t 13), []⟩,
 ⟨(some 15), some (14, true), .mv (.t 8), []⟩,
 ⟨(some 16), some (14, true), .bin .lss (.t 15) (.c (.int .i64 10)), []⟩,
 ⟨(some 17), none, .pick (.t 14) (.t 16) (.c (.bool false)), []⟩] [0, 1, 6, 7, 8, 17])
 (.cond (.t 17) (.skip)
 (.exit 0)))
 (.seq (.blk 1 (.seq (.regD [⟨(some 20), none, .mv (.t 0), []⟩,
 ⟨(some 21), none, .mv (.t 8), []⟩,
 ⟨(some 22), none, .iaddr 1 (.t 20) (.t 21), []⟩,
 ⟨(some 23), none, .load false 1 (.t 22), []⟩,
 ⟨(some 24), none, .call 23 [(.t 23), (.c (.int .i64 3))], [3]⟩,
 ⟨(some 25), none, .bin .add (.c (.int .i64 1)) (.t 24), [4]⟩,
 ⟨(some 26), none, .mv (.t 0), []⟩,
 ⟨(some 27), none, .mv (.t 8), []⟩,
 ⟨(some 28), none, .iaddr 1 (.t 26) (.t 27), []⟩,
 ⟨(some 29), none, .load false 1 (.t 28), []⟩,
 ⟨(some 30), none, .bin .quo (.t 29) (.c (.int .i64 3)), []⟩,
 ⟨(some 31), none, .call 23 [(.t 30), (.c (.int .i64 4))], [4, 9, 3]⟩,
 ⟨(some 32), none, .bin .add (.c (.int .i64 1)) (.t 31), [11, 4]⟩,
 ⟨(some 33), none, .agg [(.int .i64 0), (.int .i64 0), (.sl 1 [] .nil)] [(0, 1, (.t 25)), (1, 1, (.t 32))], [4, 11]⟩,
 ⟨(some 9), none, .alloc [(.int .i64 0), (.int .i64 0), (.sl 1 [] .nil)], []⟩,
 ⟨none, none, .store 3 (.t 9) (.t 33), [14, 11, 3, 4, 9]⟩] [0, 1, 6, 7, 8, 9])
 (.seq (.seq (.reg [⟨(some 34), none, .faddr 0 (.t 9), []⟩,
 ⟨(some 35), none, .load false 1 (.t 34), []⟩,
 ⟨(some 36), none, .bin .eql (.t 35) (.c (.int .i64 3)), []⟩] [0, 1, 6, 7, 8, 9, 36])
 (.cond (.t 36) (.regD [⟨(some 37), none, .mv (.t 0), []⟩,
 ⟨(some 38), none, .mv (.t 8), []⟩,
 ⟨(some 39), none, .slice (some 1) (.t 37) (some (.t 38)) none none, []⟩,
 ⟨(some 40), none, .faddr 1 (.t 9), []⟩,
 ⟨(some 41), none, .load false 1 (.t 40), []⟩,
 ⟨(some 42), none, .call 24 [(.t 39), (.t 41)], [4]⟩,
 ⟨(some 43), none, .faddr 2 (.t 9), [5]⟩,
 ⟨none, none, .store 1 (.t 43) (.t 42), [5, 4]⟩] [0, 1, 6, 7, 8, 9])
 (.skip)))
 (.seq (.seq (.regD [⟨(some 44), none, .mv (.t 6), []⟩,
 ⟨(some 45), none, .len false (.t 44), []⟩,
 ⟨(some 46), none, .bin .gtr (.t 45) (.c (.int .i64 0)), []⟩,
 ⟨(some 47), none, .mv (.t 46), []⟩,
 ⟨(some 48), some (47, true), .mv (.t 6), []⟩,
 ⟨(some 49), some (47, true), .mv (.t 6), []⟩,
 ⟨(some 50), some (47, true), .len false (.t 49), []⟩,
 ⟨(some 51), some (47, true), .bin .sub (.t 50) (.c (.int .i64 1)), []⟩,
 ⟨(some 52), some (47, true), .iaddr 3 (.t 48) (.t 51), []⟩,
 ⟨(some 53), some (47, true), .faddr 0 (.t 52), []⟩,
 ⟨(some 54), some (47, true), .load false 1 (.t 53), []⟩,
 ⟨(some 55), some (47, true), .faddr 0 (.t 9), []⟩,
 ⟨(some 56), some (47, true), .load false 1 (.t 55), []⟩,
 ⟨(some 57), some (47, true), .bin .eql (.t 54) (.t 56), []⟩,
 ⟨(some 58), some (47, true), .mv (.t 57), []⟩,
 ⟨(some 59), some (58, false), .mv (.t 6), []⟩,
 ⟨(some 60), some (58, false), .mv (.t 6), []⟩,
 ⟨(some 61), some (58, false), .len false (.t 60), []⟩,
 ⟨(some 62), some (58, false), .bin .sub (.t 61) (.c (.int .i64 1)), []⟩,
 ⟨(some 63), some (58, false), .iaddr 3 (.t 59) (.t 62), []⟩,
 ⟨(some 64), some (58, false), .faddr 0 (.t 63), []⟩,
 ⟨(some 65), some (58, false), .load false 1 (.t 64), [10, 12]⟩,
 ⟨(some 66), some (58, false), .bin .eql (.t 65) (.c (.int .i64 3)), []⟩,
 ⟨(some 67), some (58, false), .mv (.t 66), []⟩,
 ⟨(some 68), some (67, true), .faddr 0 (.t 9), []⟩,
 ⟨(some 69), some (67, true), .load false 1 (.t 68), [21, 10, 12]⟩,
 ⟨(some 70), some (67, true), .bin .eql (.t 69) (.c (.int .i64 2)), []⟩,
 ⟨(some 71), some (58, false), .pick (.t 67) (.t 70) (.c (.bool false)), []⟩,
 ⟨(some 72), some (47, true), .pick (.t 58) (.c (.bool true)) (.t 71), []⟩,
 ⟨(some 73), none, .pick (.t 47) (.t 72) (.c (.bool false)), []⟩] [0, 1, 6, 7, 8, 9, 73])
 (.cond (.t 73) (.exit 1)
 (.skip)))
 (.seq (.reg [⟨(some 74), none, .mv (.t 6), []⟩,
 ⟨(some 75), none, .load true 3 (.t 9), []⟩,
 ⟨(some 76), none, .mks 1 3 true [(.int .i64 0), (.int .i64 0), (.sl 1 [] .nil)] [(0, (.t 75))], []⟩,
 ⟨(some 77), none, .app none 3 40 (.t 74) (.t 76), []⟩,
 ⟨(some 6), none, .mv (.t 77), []⟩] [0, 1, 6, 7, 8, 9])
 (.seq (.reg [⟨(some 78), none, .faddr 0 (.t 9), []⟩,
 ⟨(some 79), none, .load false 1 (.t 78), []⟩,
 ⟨(some 80), none, .bin .neq (.t 79) (.c (.int .i64 3)), []⟩] [0, 1, 6, 7, 8, 9, 80])
 (.cond (.t 80) (.reg [⟨(some 81), none, .mv (.t 7), []⟩,
 ⟨(some 82), none, .faddr 1 (.t 9), []⟩,
 ⟨(some 83), none, .load false 1 (.t 82), []⟩,
 ⟨(some 84), none, .bin .add (.t 81) (.t 83), []⟩,
 ⟨(some 7), none, .mv (.t 84), []⟩] [0, 1, 6, 7, 8])
 (.skip))))))))
 (.reg [⟨(some 18), none, .mv (.t 8), []⟩,
 ⟨(some 19), none, .bin .add (.t 18) (.c (.int .i64 1)), []⟩,
 ⟨(some 8), none, .mv (.t 19), []⟩] [0, 1, 6, 7, 8]))
def A10 : AFunc := ⟨2, [.t 4, .t 5], .seq (.reg [⟨(some 4), none, .mv (.c (.sl 3 [] .nil)), []⟩,
 ⟨(some 5), none, .mv (.c (.sl 1 [] .nil)), []⟩] [0, 1])
 (.seq (.reg [⟨(some 6), none, .mv (.c (.sl 3 [] .nil)), []⟩] [0, 1, 6])
 (.seq (.reg [⟨(some 7), none, .mv (.c (.int .i64 0)), []⟩] [0, 1, 6, 7])
 (.seq (.seq (.reg [⟨(some 8), none, .mv (.c (.int .i64 0)), []⟩] [0, 1, 6, 7, 8])
 (.blk 0 (.loop L10x0)))
 (.seq (.reg [⟨(some 85), none, .mv (.t 6), []⟩,
 ⟨(some 86), none, .mv (.t 1), []⟩,
 ⟨(some 87), none, .mv (.t 7), []⟩,
 ⟨(some 88), none, .call 24 [(.t 86), (.t 87)], []⟩,
 ⟨(some 4), none, .mv (.t 85), []⟩,
 ⟨(some 5), none, .mv (.t 88), []⟩] [4, 5])
 (.ret)))))⟩
theorem c10 : cmpF Tryz.prog ⟨[(28, 2), (29, 2), (30, 3), (50, 2)], false, false⟩ Tryz.f10 K10 = some A10 := by kernel_rfl
/-- collator/collatorlaw11.Turned -/
def K11 : List (List Nat) := [[0, 1, 2, 3], [1, 2, 3, 9], [1, 2, 3, 9, 15], [8], [1, 2, 3, 9, 10], [1, 3, 9, 10, 22], [1, 3, 9, 10, 22, 23], [9], [1, 3, 9, 10, 22, 31], [9], [1, 3, 9, 10, 22, 43], [9], [1, 3, 9, 10, 22, 49], [9], [1, 3, 9, 10, 22, 57], [9], [1, 3, 9, 10, 22, 65], [9], [1, 3, 9, 10, 22, 71], [9], [3, 9, 10, 22, 79], [9], [9, 10, 22, 86], [9], [9, 10, 97], [9], [8]]
def A11 : AFunc := ⟨4, [.t 8], .seq (.reg [⟨(some 8), none, .mv (.c (.sl 8 [] .nil)), []⟩] [0, 1, 2, 3])
 (.seq (.reg [⟨(some 11), none, .mv (.t 0), []⟩,
 ⟨(some 12), none, .app (some true) 8 104 (.c (.sl 8 [] .nil)) (.t 11), []⟩,
 ⟨(some 9), none, .mv (.t 12), []⟩] [1, 2, 3, 9])
 (.seq (.seq (.reg [⟨(some 13), none, .mv (.t 9), []⟩,
 ⟨(some 14), none, .len false (.t 13), []⟩,
 ⟨(some 15), none, .bin .eql (.t 14) (.c (.int .i64 0)), []⟩] [1, 2, 3, 9, 15])
 (.cond (.t 15) (.seq (.reg [⟨(some 16), none, .mv (.t 9), []⟩,
 ⟨(some 8), none, .mv (.t 16), []⟩] [8])
 (.ret))
 (.skip)))
 (.seq (.reg [⟨(some 17), none, .mv (.t 1), []⟩,
 ⟨(some 18), none, .mv (.t 9), []⟩,
 ⟨(some 19), none, .len false (.t 18), []⟩,
 ⟨(some 20), none, .call 25 [(.t 17), (.t 19)], []⟩,
 ⟨(some 10), none, .mv (.t 20), []⟩] [1, 2, 3, 9, 10])
 (.seq (.seq (.reg [⟨(some 21), none, .mv (.t 2), []⟩,
 ⟨(some 22), none, .call 25 [(.t 21), (.c (.int .i64 12))], []⟩] [1, 3, 9, 10, 22])
 (.blk 0 (.seq (.reg [⟨(some 24), none, .bin .eql (.t 22) (.c (.int .i64 0)), []⟩,
 ⟨(some 23), none, .mv (.t 24), []⟩] [1, 3, 9, 10, 22, 23])
 (.cond (.t 23) (.reg [⟨(some 25), none, .mv (.t 9), []⟩,
 ⟨(some 26), none, .mv (.t 10), []⟩,
 ⟨(some 27), none, .mv (.t 1), []⟩,
 ⟨(some 28), none, .call 25 [(.t 27), (.c (.int .i64 7))], []⟩,
 ⟨(some 29), none, .iaddr 8 (.t 25) (.t 26), []⟩,
 ⟨(some 30), none, .faddr 0 (.t 29), []⟩,
 ⟨none, none, .store 1 (.t 30) (.t 28), []⟩] [9])
 (.seq (.reg [⟨(some 32), none, .bin .eql (.t 22) (.c (.int .i64 1)), []⟩,
 ⟨(some 31), none, .mv (.t 32), []⟩] [1, 3, 9, 10, 22, 31])
 (.cond (.t 31) (.reg [⟨(some 33), none, .mv (.t 9), []⟩,
 ⟨(some 34), none, .mv (.t 10), []⟩,
 ⟨(some 35), none, .mv (.t 9), []⟩,
 ⟨(some 36), none, .mv (.t 10), []⟩,
 ⟨(some 37), none, .iaddr 8 (.t 35) (.t 36), []⟩,
 ⟨(some 38), none, .faddr 1 (.t 37), []⟩,
 ⟨(some 39), none, .load false 1 (.t 38), []⟩,
 ⟨(some 40), none, .bin .add (.t 39) (.c (.str [120])), []⟩,
 ⟨(some 41), none, .iaddr 8 (.t 33) (.t 34), []⟩,
 ⟨(some 42), none, .faddr 1 (.t 41), []⟩,
 ⟨none, none, .store 1 (.t 42) (.t 40), []⟩] [9])
 (.seq (.reg [⟨(some 44), none, .bin .eql (.t 22) (.c (.int .i64 2)), []⟩,
 ⟨(some 43), none, .mv (.t 44), []⟩] [1, 3, 9, 10, 22, 43])
 (.cond (.t 43) (.reg [⟨(some 45), none, .mv (.t 9), []⟩,
 ⟨(some 46), none, .mv (.t 10), []⟩,
 ⟨(some 47), none, .iaddr 8 (.t 45) (.t 46), []⟩,
 ⟨(some 48), none, .faddr 2 (.t 47), []⟩,
 ⟨none, none, .store 1 (.t 48) (.c (.str [97])), []⟩] [9])
 (.seq (.reg [⟨(some 50), none, .bin .eql (.t 22) (.c (.int .i64 3)), []⟩,
 ⟨(some 49), none, .mv (.t 50), []⟩] [1, 3, 9, 10, 22, 49])
 (.cond (.t 49) (.reg [⟨(some 51), none, .mv (.t 9), []⟩,
 ⟨(some 52), none, .mv (.t 10), []⟩,
 ⟨(some 53), none, .mv (.t 1), []⟩,
 ⟨(some 54), none, .call 25 [(.t 53), (.c (.int .i64 4))], []⟩,
 ⟨(some 55), none, .iaddr 8 (.t 51) (.t 52), []⟩,
 ⟨(some 56), none, .faddr 3 (.t 55), []⟩,
 ⟨none, none, .store 1 (.t 56) (.t 54), []⟩] [9])
 (.seq (.reg [⟨(some 58), none, .bin .eql (.t 22) (.c (.int .i64 4)), []⟩,
 ⟨(some 57), none, .mv (.t 58), []⟩] [1, 3, 9, 10, 22, 57])
 (.cond (.t 57) (.reg [⟨(some 59), none, .mv (.t 9), []⟩,
 ⟨(some 60), none, .mv (.t 10), []⟩,
 ⟨(some 61), none, .mv (.t 1), []⟩,
 ⟨(some 62), none, .call 25 [(.t 61), (.c (.int .i64 4))], []⟩,
 ⟨(some 63), none, .iaddr 8 (.t 59) (.t 60), []⟩,
 ⟨(some 64), none, .faddr 4 (.t 63), []⟩,
 ⟨none, none, .store 1 (.t 64) (.t 62), []⟩] [9])
 (.seq (.reg [⟨(some 66), none, .bin .eql (.t 22) (.c (.int .i64 5)), []⟩,
 ⟨(some 65), none, .mv (.t 66), []⟩] [1, 3, 9, 10, 22, 65])
 (.cond (.t 65) (.reg [⟨(some 67), none, .mv (.t 9), []⟩,
 ⟨(some 68), none, .mv (.t 10), []⟩,
 ⟨(some 69), none, .iaddr 8 (.t 67) (.t 68), []⟩,
 ⟨(some 70), none, .faddr 5 (.t 69), []⟩,
 ⟨none, none, .store 1 (.t 70) (.c (.str [113])), []⟩] [9])
 (.seq (.reg [⟨(some 72), none, .bin .eql (.t 22) (.c (.int .i64 6)), []⟩,
 ⟨(some 71), none, .mv (.t 72), []⟩] [1, 3, 9, 10, 22, 71])
 (.cond (.t 71) (.reg [⟨(some 73), none, .mv (.t 9), []⟩,
 ⟨(some 74), none, .mv (.t 10), []⟩,
 ⟨(some 75), none, .mv (.t 1), []⟩,
 ⟨(some 76), none, .call 25 [(.t 75), (.c (.int .i64 102))], []⟩,
 ⟨(some 77), none, .iaddr 8 (.t 73) (.t 74), []⟩,
 ⟨(some 78), none, .faddr 6 (.t 77), []⟩,
 ⟨none, none, .store 1 (.t 78) (.t 76), []⟩] [9])
 (.seq (.reg [⟨(some 80), none, .bin .eql (.t 22) (.c (.int .i64 7)), []⟩,
 ⟨(some 79), none, .mv (.t 80), []⟩] [3, 9, 10, 22, 79])
 (.cond (.t 79) (.reg [⟨(some 81), none, .mv (.t 9), []⟩,
 ⟨(some 82), none, .mv (.t 10), []⟩,
 ⟨(some 83), none, .mv (.t 3), []⟩,
 ⟨(some 84), none, .iaddr 8 (.t 81) (.t 82), []⟩,
 ⟨(some 85), none, .faddr 7 (.t 84), []⟩,
 ⟨none, none, .store 1 (.t 85) (.t 83), []⟩] [9])
 (.seq (.reg [⟨(some 87), none, .bin .eql (.t 22) (.c (.int .i64 8)), []⟩,
 ⟨(some 86), none, .mv (.t 87), []⟩] [9, 10, 22, 86])
 (.cond (.t 86) (.regD [⟨(some 88), none, .mv (.t 9), []⟩,
 ⟨(some 89), none, .mv (.t 10), []⟩,
 ⟨(some 90), none, .mv (.t 10), []⟩,
 ⟨(some 91), none, .slice (some 8) (.t 88) none (some (.t 89)) (some (.t 90)), []⟩,
 ⟨(some 92), none, .mv (.t 9), []⟩,
 ⟨(some 93), none, .mv (.t 10), []⟩,
 ⟨(some 94), none, .bin .add (.t 93) (.c (.int .i64 1)), []⟩,
 ⟨(some 95), none, .slice (some 8) (.t 92) (some (.t 94)) none none, []⟩,
 ⟨(some 96), none, .app (some true) 8 104 (.t 91) (.t 95), []⟩,
 ⟨(some 9), none, .mv (.t 96), []⟩] [9])
 (.seq (.reg [⟨(some 98), none, .bin .eql (.t 22) (.c (.int .i64 9)), []⟩,
 ⟨(some 97), none, .mv (.t 98), []⟩] [9, 10, 97])
 (.cond (.t 97) (.reg [⟨(some 99), none, .mv (.t 9), []⟩,
 ⟨(some 100), none, .mv (.t 9), []⟩,
 ⟨(some 101), none, .mv (.t 10), []⟩,
 ⟨(some 102), none, .iaddr 8 (.t 100) (.t 101), []⟩,
 ⟨(some 103), none, .load true 8 (.t 102), []⟩,
 ⟨(some 104), none, .mks 1 8 true [(.int .i64 0), (.str []), (.str []), (.int .i64 0), (.int .i64 0), (.str []), (.int .i64 0), (.sl 3 [] .nil)] [(0, (.t 103))], []⟩,
 ⟨(some 105), none, .app (some true) 8 104 (.t 99) (.t 104), []⟩,
 ⟨(some 9), none, .mv (.t 105), []⟩] [9])
 (.skip)))))))))))))))))))))))
 (.seq (.reg [⟨(some 106), none, .mv (.t 9), []⟩,
 ⟨(some 8), none, .mv (.t 106), []⟩] [8])
 (.ret))))))⟩
theorem c11 : cmpF Tryz.prog ⟨[(28, 2), (29, 2), (30, 3), (50, 2)], true, false⟩ Tryz.f11 K11 = some A11 := by kernel_rfl
/-- collator/report.Encode -/
def K12 : List (List Nat) := [[0], [0, 11], [2, 3], [0, 4], [4, 12, 13, 14], [4, 12, 13, 14, 15], [4, 6, 12, 13, 14], [4, 6, 7, 12, 13, 14], [4, 6, 7, 12, 13, 14], [4, 6, 7, 12, 13, 14], [4, 6, 7, 12, 13, 14], [4, 6, 7, 12, 13, 14], [4, 6, 7, 12, 13, 14], [4, 6, 7, 12, 13, 14], [4, 7, 12, 13, 14], [4, 12, 13, 14], [4, 12, 13, 14], [2, 3]]
def L12x0 : ACode := .seq (.reg [⟨(some 15), none, .bin .lss (.t 14) (.t 13), []⟩] [4, 12, 13, 14, 15])
 (.seq (.cond (.t 15) (.skip)
 (.exit 0))
 (.seq (.blk 1 (.seq (.reg [⟨(some 16), none, .iaddr 8 (.t 12) (.t 14), []⟩,
 ⟨(some 17), none, .load true 8 (.t 16), []⟩,
 ⟨(some 6), none, .alloc [(.int .i64 0), (.str []), (.str []), (.int .i64 0), (.int .i64 0), (.str []), (.int .i64 0), (.sl 3 [] .nil)], []⟩,
 ⟨none, none, .store 8 (.t 6) (.t 17), []⟩] [4, 6, 12, 13, 14])
 (.seq (.reg [⟨(some 19), none, .faddr 7 (.t 6), []⟩,
 ⟨(some 20), none, .load false 1 (.t 19), []⟩,
 ⟨(some 21), none, .call 27 [(.t 20)], []⟩,
 ⟨(some 18), none, .mv (.t 21), []⟩,
 ⟨(some 22), none, .ext (.t 18) 0, []⟩,
 ⟨(some 23), none, .ext (.t 18) 1, []⟩,
 ⟨(some 7), none, .mv (.t 22), []⟩,
 ⟨(some 8), none, .mv (.t 23), []⟩] [4, 6, 7, 12, 13, 14])
 (.seq (.reg [⟨(some 24), none, .faddr 0 (.t 6), []⟩,
 ⟨(some 25), none, .load false 1 (.t 24), []⟩,
 ⟨(some 26), none, .wrs 28 (.t 4) [(.t 25)], []⟩] [4, 6, 7, 12, 13, 14])
 (.seq (.reg [⟨(some 27), none, .faddr 1 (.t 6), []⟩,
 ⟨(some 28), none, .load false 1 (.t 27), []⟩,
 ⟨(some 29), none, .wrs 29 (.t 4) [(.t 28)], []⟩] [4, 6, 7, 12, 13, 14])
 (.seq (.reg [⟨(some 30), none, .faddr 2 (.t 6), []⟩,
 ⟨(some 31), none, .load false 1 (.t 30), []⟩,
 ⟨(some 32), none, .wrs 29 (.t 4) [(.t 31)], []⟩] [4, 6, 7, 12, 13, 14])
 (.seq (.reg [⟨(some 33), none, .faddr 3 (.t 6), []⟩,
 ⟨(some 34), none, .load false 1 (.t 33), []⟩,
 ⟨(some 35), none, .wrs 28 (.t 4) [(.t 34)], []⟩] [4, 6, 7, 12, 13, 14])
 (.seq (.reg [⟨(some 36), none, .faddr 4 (.t 6), []⟩,
 ⟨(some 37), none, .load false 1 (.t 36), []⟩,
 ⟨(some 38), none, .wrs 28 (.t 4) [(.t 37)], []⟩] [4, 6, 7, 12, 13, 14])
 (.seq (.reg [⟨(some 39), none, .faddr 5 (.t 6), []⟩,
 ⟨(some 40), none, .load false 1 (.t 39), []⟩,
 ⟨(some 41), none, .wrs 29 (.t 4) [(.t 40)], []⟩] [4, 6, 7, 12, 13, 14])
 (.seq (.reg [⟨(some 42), none, .faddr 6 (.t 6), []⟩,
 ⟨(some 43), none, .load false 1 (.t 42), []⟩,
 ⟨(some 44), none, .wrs 28 (.t 4) [(.t 43)], []⟩] [4, 7, 12, 13, 14])
 (.reg [⟨(some 45), none, .mv (.t 7), []⟩,
 ⟨(some 46), none, .wrs 29 (.t 4) [(.t 45)], []⟩] [4, 12, 13, 14])))))))))))
 (.reg [⟨(some 47), none, .bin .add (.t 14) (.c (.int .i64 1)), []⟩,
 ⟨(some 14), none, .mv (.t 47), []⟩] [4, 12, 13, 14])))
def A12 : AFunc := ⟨1, [.t 2, .t 3], .seq (.reg [⟨(some 2), none, .mv (.c (.str [])), []⟩,
 ⟨(some 3), none, .mv (.c (.int .i64 0)), []⟩] [0])
 (.seq (.seq (.reg [⟨(some 9), none, .mv (.t 0), []⟩,
 ⟨(some 10), none, .call 26 [(.t 9)], []⟩,
 ⟨(some 11), none, .un .not (.t 10), []⟩] [0, 11])
 (.cond (.t 11) (.seq (.reg [⟨(some 2), none, .mv (.c (.str [])), []⟩,
 ⟨(some 3), none, .mv (.c (.int .i64 1)), []⟩] [2, 3])
 (.ret))
 (.skip)))
 (.seq (.reg [⟨(some 4), none, .alloc [(.bfresh 67 0 0), (.sl 1 [] .nil)], []⟩] [0, 4])
 (.seq (.seq (.reg [⟨(some 12), none, .mv (.t 0), []⟩,
 ⟨(some 13), none, .len false (.t 12), []⟩,
 ⟨(some 14), none, .mv (.c (.int .i64 0)), []⟩] [4, 12, 13, 14])
 (.blk 0 (.loop L12x0)))
 (.seq (.reg [⟨(some 48), none, .faddr 0 (.t 4), []⟩,
 ⟨(some 49), none, .bstr 30 (.t 48), []⟩,
 ⟨(some 2), none, .mv (.t 49), []⟩,
 ⟨(some 3), none, .mv (.c (.int .i64 0)), []⟩] [2, 3])
 (.ret)))))⟩
theorem c12 : cmpF Tryz.prog ⟨[(28, 2), (29, 2), (30, 3), (50, 2)], false, false⟩ Tryz.f12 K12 = some A12 := by kernel_rfl
/-- collator/collatorref12.Encode -/
def K13 : List (List Nat) := [[0], [0, 4], [0, 12], [2, 3], [0, 5], [0, 5, 6], [0, 5, 6, 16], [0, 5, 6, 7], [0, 5, 6], [0, 5, 6], [2, 3]]
def L13x0 : ACode := .seq (.seq (.reg [⟨(some 13), none, .mv (.t 6), []⟩,
 ⟨(some 14), none, .mv (.t 0), []⟩,
 ⟨(some 15), none, .len false (.t 14), []⟩,
 ⟨(some 16), none, .bin .lss (.t 13) (.t 15), []⟩] [0, 5, 6, 16])
 (.cond (.t 16) (.skip)
 (.exit 0)))
 (.seq (.blk 1 (.seq (.reg [⟨(some 20), none, .mv (.t 0), []⟩,
 ⟨(some 21), none, .mv (.t 6), []⟩,
 ⟨(some 22), none, .iaddr 8 (.t 20) (.t 21), []⟩,
 ⟨(some 23), none, .faddr 7 (.t 22), []⟩,
 ⟨(some 24), none, .load false 1 (.t 23), []⟩,
 ⟨(some 25), none, .call 32 [(.t 24)], []⟩,
 ⟨(some 19), none, .mv (.t 25), []⟩,
 ⟨(some 26), none, .ext (.t 19) 0, []⟩,
 ⟨(some 27), none, .ext (.t 19) 1, []⟩,
 ⟨(some 7), none, .mv (.t 26), []⟩,
 ⟨(some 8), none, .mv (.t 27), []⟩] [0, 5, 6, 7])
 (.regD [⟨(some 28), none, .mv (.t 5), []⟩,
 ⟨(some 29), none, .mv (.t 0), []⟩,
 ⟨(some 30), none, .mv (.t 6), []⟩,
 ⟨(some 31), none, .iaddr 8 (.t 29) (.t 30), []⟩,
 ⟨(some 32), none, .faddr 0 (.t 31), []⟩,
 ⟨(some 33), none, .load false 1 (.t 32), []⟩,
 ⟨(some 34), none, .call 33 [(.t 33)], [5]⟩,
 ⟨(some 35), none, .bin .add (.t 28) (.t 34), [6]⟩,
 ⟨(some 36), none, .mv (.t 0), []⟩,
 ⟨(some 37), none, .mv (.t 6), []⟩,
 ⟨(some 38), none, .iaddr 8 (.t 36) (.t 37), []⟩,
 ⟨(some 39), none, .faddr 1 (.t 38), []⟩,
 ⟨(some 40), none, .load false 1 (.t 39), []⟩,
 ⟨(some 41), none, .call 34 [(.t 40)], [12, 6, 5]⟩,
 ⟨(some 42), none, .bin .add (.t 35) (.t 41), [13, 6]⟩,
 ⟨(some 43), none, .mv (.t 0), []⟩,
 ⟨(some 44), none, .mv (.t 6), []⟩,
 ⟨(some 45), none, .iaddr 8 (.t 43) (.t 44), []⟩,
 ⟨(some 46), none, .faddr 2 (.t 45), []⟩,
 ⟨(some 47), none, .load false 1 (.t 46), []⟩,
 ⟨(some 48), none, .call 34 [(.t 47)], [19, 13, 12, 6, 5]⟩,
 ⟨(some 49), none, .bin .add (.t 42) (.t 48), [20, 13, 6]⟩,
 ⟨(some 50), none, .mv (.t 0), []⟩,
 ⟨(some 51), none, .mv (.t 6), []⟩,
 ⟨(some 52), none, .iaddr 8 (.t 50) (.t 51), []⟩,
 ⟨(some 53), none, .faddr 3 (.t 52), []⟩,
 ⟨(some 54), none, .load false 1 (.t 53), []⟩,
 ⟨(some 55), none, .call 33 [(.t 54)], [26, 20, 19, 13, 12, 6, 5]⟩,
 ⟨(some 56), none, .bin .add (.t 49) (.t 55), [27, 20, 13, 6]⟩,
 ⟨(some 57), none, .mv (.t 0), []⟩,
 ⟨(some 58), none, .mv (.t 6), []⟩,
 ⟨(some 59), none, .iaddr 8 (.t 57) (.t 58), []⟩,
 ⟨(some 60), none, .faddr 4 (.t 59), []⟩,
 ⟨(some 61), none, .load false 1 (.t 60), []⟩,
 ⟨(some 62), none, .call 33 [(.t 61)], [33, 27, 26, 20, 19, 13, 12, 6, 5]⟩,
 ⟨(some 63), none, .bin .add (.t 56) (.t 62), [34, 27, 20, 13, 6]⟩,
 ⟨(some 64), none, .mv (.t 0), []⟩,
 ⟨(some 65), none, .mv (.t 6), []⟩,
 ⟨(some 66), none, .iaddr 8 (.t 64) (.t 65), []⟩,
 ⟨(some 67), none, .faddr 5 (.t 66), []⟩,
 ⟨(some 68), none, .load false 1 (.t 67), []⟩,
 ⟨(some 69), none, .call 34 [(.t 68)], [40, 34, 33, 27, 26, 20, 19, 13, 12, 6, 5]⟩,
 ⟨(some 70), none, .bin .add (.t 63) (.t 69), [41, 34, 27, 20, 13, 6]⟩,
 ⟨(some 71), none, .mv (.t 0), []⟩,
 ⟨(some 72), none, .mv (.t 6), []⟩,
 ⟨(some 73), none, .iaddr 8 (.t 71) (.t 72), []⟩,
 ⟨(some 74), none, .faddr 6 (.t 73), []⟩,
 ⟨(some 75), none, .load false 1 (.t 74), []⟩,
 ⟨(some 76), none, .call 33 [(.t 75)], [47, 41, 40, 34, 33, 27, 26, 20, 19, 13, 12, 6, 5]⟩,
 ⟨(some 77), none, .bin .add (.t 70) (.t 76), [48, 41, 34, 27, 20, 13, 6]⟩,
 ⟨(some 78), none, .mv (.t 7), []⟩,
 ⟨(some 79), none, .call 34 [(.t 78)], [48, 47, 41, 40, 34, 33, 27, 26, 20, 19, 13, 12, 6, 5]⟩,
 ⟨(some 80), none, .bin .add (.t 77) (.t 79), [51, 48, 41, 34, 27, 20, 13, 6]⟩,
 ⟨(some 5), none, .mv (.t 80), [51, 6, 13, 20, 27, 34, 41, 48]⟩] [0, 5, 6])))
 (.reg [⟨(some 17), none, .mv (.t 6), []⟩,
 ⟨(some 18), none, .bin .add (.t 17) (.c (.int .i64 1)), []⟩,
 ⟨(some 6), none, .mv (.t 18), []⟩] [0, 5, 6]))
def A13 : AFunc := ⟨1, [.t 2, .t 3], .seq (.reg [⟨(some 2), none, .mv (.c (.str [])), []⟩,
 ⟨(some 3), none, .mv (.c (.int .i64 0)), []⟩] [0])
 (.seq (.reg [⟨(some 9), none, .mv (.t 0), []⟩,
 ⟨(some 10), none, .call 31 [(.t 9)], []⟩,
 ⟨(some 4), none, .mv (.t 10), []⟩] [0, 4])
 (.seq (.seq (.reg [⟨(some 11), none, .mv (.t 4), []⟩,
 ⟨(some 12), none, .un .not (.t 11), []⟩] [0, 12])
 (.cond (.t 12) (.seq (.reg [⟨(some 2), none, .mv (.c (.str [])), []⟩,
 ⟨(some 3), none, .mv (.c (.int .i64 1)), []⟩] [2, 3])
 (.ret))
 (.skip)))
 (.seq (.reg [⟨(some 5), none, .mv (.c (.str [])), []⟩] [0, 5])
 (.seq (.seq (.reg [⟨(some 6), none, .mv (.c (.int .i64 0)), []⟩] [0, 5, 6])
 (.blk 0 (.loop L13x0)))
 (.seq (.reg [⟨(some 81), none, .mv (.t 5), []⟩,
 ⟨(some 2), none, .mv (.t 81), []⟩,
 ⟨(some 3), none, .mv (.c (.int .i64 0)), []⟩] [2, 3])
 (.ret))))))⟩
theorem c13 : cmpF Tryz.prog ⟨[(28, 2), (29, 2), (30, 3), (50, 2)], false, false⟩ Tryz.f13 K13 = some A13 := by kernel_rfl
/-- collator/report.Counts -/
def K14 : List (List Nat) := [[0, 2], [2, 5, 6, 7], [2, 5, 6, 7, 8], [2, 4, 5, 6, 7], [2, 4, 5, 6, 7, 18], [2, 5, 6, 7], [2, 5, 6, 7], [2]]
def L14x0 : ACode := .seq (.reg [⟨(some 8), none, .bin .lss (.t 7) (.t 6), []⟩] [2, 5, 6, 7, 8])
 (.seq (.cond (.t 8) (.skip)
 (.exit 0))
 (.seq (.blk 1 (.seq (.reg [⟨(some 9), none, .iaddr 8 (.t 5) (.t 7), []⟩,
 ⟨(some 10), none, .load true 8 (.t 9), []⟩,
 ⟨(some 4), none, .alloc [(.int .i64 0), (.str []), (.str []), (.int .i64 0), (.int .i64 0), (.str []), (.int .i64 0), (.sl 3 [] .nil)], []⟩,
 ⟨none, none, .store 8 (.t 4) (.t 10), []⟩] [2, 4, 5, 6, 7])
 (.seq (.reg [⟨(some 11), none, .faddr 0 (.t 4), []⟩,
 ⟨(some 12), none, .load false 1 (.t 11), []⟩,
 ⟨(some 13), none, .bin .geq (.t 12) (.c (.int .i64 0)), []⟩,
 ⟨(some 14), none, .mv (.t 13), []⟩,
 ⟨(some 15), some (14, true), .faddr 0 (.t 4), []⟩,
 ⟨(some 16), some (14, true), .load false 1 (.t 15), []⟩,
 ⟨(some 17), some (14, true), .bin .lss (.t 16) (.c (.int .i64 6)), []⟩,
 ⟨(some 18), none, .pick (.t 14) (.t 17) (.c (.bool false)), []⟩] [2, 4, 5, 6, 7, 18])
 (.cond (.t 18) (.reg [⟨(some 19), none, .faddr 0 (.t 4), []⟩,
 ⟨(some 20), none, .load false 1 (.t 19), []⟩,
 ⟨(some 21), none, .aaddr 6 1 (.t 2) (.t 20), []⟩,
 ⟨(some 22), none, .load false 1 (.t 21), []⟩,
 ⟨(some 23), none, .bin .add (.t 22) (.c (.int .i64 1)), []⟩,
 ⟨(some 24), none, .aaddr 6 1 (.t 2) (.t 20), []⟩,
 ⟨none, none, .store 1 (.t 24) (.t 23), []⟩] [2, 5, 6, 7])
 (.skip)))))
 (.reg [⟨(some 25), none, .bin .add (.t 7) (.c (.int .i64 1)), []⟩,
 ⟨(some 7), none, .mv (.t 25), []⟩] [2, 5, 6, 7])))
def A14 : AFunc := ⟨1, [.c 2 true 6], .seq (.reg [⟨(some 2), none, .alloc [(.int .i64 0), (.int .i64 0), (.int .i64 0), (.int .i64 0), (.int .i64 0), (.int .i64 0)], []⟩] [0, 2])
 (.seq (.seq (.reg [⟨(some 5), none, .mv (.t 0), []⟩,
 ⟨(some 6), none, .len false (.t 5), []⟩,
 ⟨(some 7), none, .mv (.c (.int .i64 0)), []⟩] [2, 5, 6, 7])
 (.blk 0 (.loop L14x0)))
 (.seq (.reg [⟨(some 26), none, .load true 6 (.t 2), []⟩,
 ⟨none, none, .store 6 (.t 2) (.t 26), []⟩] [2])
 (.ret)))⟩
theorem c14 : cmpF Tryz.prog ⟨[(28, 2), (29, 2), (30, 3), (50, 2)], false, false⟩ Tryz.f14 K14 = some A14 := by kernel_rfl
/-- collator/collatorref12.Counts -/
def K15 : List (List Nat) := [[0, 2], [0, 2, 3], [0, 2, 3, 4], [0, 2, 3, 4, 9], [0, 2, 3, 4, 5], [0, 2, 3, 4, 5, 13], [0, 2, 3, 4, 5, 22], [0, 2, 3, 4, 5], [0, 2, 3, 4, 5], [0, 2, 3, 4], [2]]
def L15x0 : ACode := .seq (.seq (.reg [⟨(some 12), none, .mv (.t 5), []⟩,
 ⟨(some 13), none, .bin .lss (.t 12) (.c (.int .i64 6)), []⟩] [0, 2, 3, 4, 5, 13])
 (.cond (.t 13) (.skip)
 (.exit 2)))
 (.seq (.blk 3 (.seq (.reg [⟨(some 16), none, .mv (.t 0), []⟩,
 ⟨(some 17), none, .mv (.t 4), []⟩,
 ⟨(some 18), none, .iaddr 8 (.t 16) (.t 17), []⟩,
 ⟨(some 19), none, .faddr 0 (.t 18), []⟩,
 ⟨(some 20), none, .load false 1 (.t 19), []⟩,
 ⟨(some 21), none, .mv (.t 5), []⟩,
 ⟨(some 22), none, .bin .eql (.t 20) (.t 21), []⟩] [0, 2, 3, 4, 5, 22])
 (.cond (.t 22) (.reg [⟨(some 23), none, .mv (.t 5), []⟩,
 ⟨(some 24), none, .aaddr 6 1 (.t 3) (.t 23), []⟩,
 ⟨(some 25), none, .load false 1 (.t 24), []⟩,
 ⟨(some 26), none, .bin .add (.t 25) (.c (.int .i64 1)), []⟩,
 ⟨(some 27), none, .aaddr 6 1 (.t 3) (.t 23), []⟩,
 ⟨none, none, .store 1 (.t 27) (.t 26), []⟩] [0, 2, 3, 4, 5])
 (.skip))))
 (.reg [⟨(some 14), none, .mv (.t 5), []⟩,
 ⟨(some 15), none, .bin .add (.t 14) (.c (.int .i64 1)), []⟩,
 ⟨(some 5), none, .mv (.t 15), []⟩] [0, 2, 3, 4, 5]))
def L15x1 : ACode := .seq (.seq (.reg [⟨(some 6), none, .mv (.t 4), []⟩,
 ⟨(some 7), none, .mv (.t 0), []⟩,
 ⟨(some 8), none, .len false (.t 7), []⟩,
 ⟨(some 9), none, .bin .lss (.t 6) (.t 8), []⟩] [0, 2, 3, 4, 9])
 (.cond (.t 9) (.skip)
 (.exit 0)))
 (.seq (.blk 1 (.seq (.reg [⟨(some 5), none, .mv (.c (.int .i64 0)), []⟩] [0, 2, 3, 4, 5])
 (.blk 2 (.loop L15x0))))
 (.reg [⟨(some 10), none, .mv (.t 4), []⟩,
 ⟨(some 11), none, .bin .add (.t 10) (.c (.int .i64 1)), []⟩,
 ⟨(some 4), none, .mv (.t 11), []⟩] [0, 2, 3, 4]))
def A15 : AFunc := ⟨1, [.c 2 true 6], .seq (.reg [⟨(some 2), none, .alloc [(.int .i64 0), (.int .i64 0), (.int .i64 0), (.int .i64 0), (.int .i64 0), (.int .i64 0)], []⟩] [0, 2])
 (.seq (.reg [⟨(some 3), none, .alloc [(.int .i64 0), (.int .i64 0), (.int .i64 0), (.int .i64 0), (.int .i64 0), (.int .i64 0)], []⟩] [0, 2, 3])
 (.seq (.seq (.reg [⟨(some 4), none, .mv (.c (.int .i64 0)), []⟩] [0, 2, 3, 4])
 (.blk 0 (.loop L15x1)))
 (.seq (.reg [⟨(some 28), none, .load true 6 (.t 3), []⟩,
 ⟨none, none, .store 6 (.t 2) (.t 28), []⟩] [2])
 (.ret))))⟩
theorem c15 : cmpF Tryz.prog ⟨[(28, 2), (29, 2), (30, 3), (50, 2)], false, false⟩ Tryz.f15 K15 = some A15 := by kernel_rfl
/-- collator/collatorlaw12.pick -/
def K16 : List (List Nat) := [[0, 1], [0, 1, 6], [0, 1], [4]]
def A16 : AFunc := ⟨2, [.t 4], .seq (.reg [⟨(some 4), none, .mv (.c (.int .i64 0)), []⟩] [0, 1])
 (.seq (.seq (.reg [⟨(some 5), none, .mv (.t 0), []⟩,
 ⟨(some 6), none, .bin .lss (.t 5) (.c (.int .i64 0)), []⟩] [0, 1, 6])
 (.cond (.t 6) (.reg [⟨(some 7), none, .mv (.t 0), []⟩,
 ⟨(some 8), none, .bin .add (.t 7) (.c (.int .i64 1)), []⟩,
 ⟨(some 9), none, .un .neg (.t 8), []⟩,
 ⟨(some 0), none, .mv (.t 9), []⟩] [0, 1])
 (.skip)))
 (.seq (.reg [⟨(some 10), none, .mv (.t 0), []⟩,
 ⟨(some 11), none, .mv (.t 1), []⟩,
 ⟨(some 12), none, .bin .rem (.t 10) (.t 11), []⟩,
 ⟨(some 4), none, .mv (.t 12), []⟩] [4])
 (.ret)))⟩
theorem c16 : cmpF Tryz.prog ⟨[(28, 2), (29, 2), (30, 3), (50, 2)], false, false⟩ Tryz.f16 K16 = some A16 := by kernel_rfl
/-- collator/report.Decode -/
def K17 : List (List Nat) := [[0, 2, 3], [0, 2, 3], [2, 3, 4], [2, 3, 4, 12], [2, 3, 4], [2, 3], [2, 3]]
def L17x0 : ACode := .seq (.seq (.reg [⟨(some 9), none, .faddr 0 (.t 4), []⟩,
 ⟨(some 10), none, .faddr 0 (.t 9), []⟩,
 ⟨(some 11), none, .load false 1 (.t 10), []⟩,
 ⟨(some 12), none, .bin .neq (.t 11) (.c (.str [])), []⟩] [2, 3, 4, 12])
 (.cond (.t 12) (.skip)
 (.exit 0)))
 (.blk 1 (.regD [⟨(some 13), none, .load false 1 (.t 2), []⟩,
 ⟨(some 14), none, .call 36 [(.t 4)], []⟩,
 ⟨(some 15), none, .mks 1 8 true [(.int .i64 0), (.str []), (.str []), (.int .i64 0), (.int .i64 0), (.str []), (.int .i64 0), (.sl 3 [] .nil)] [(0, (.t 14))], [1]⟩,
 ⟨(some 16), none, .app none 8 104 (.t 13) (.t 15), [0, 1]⟩,
 ⟨none, none, .store 1 (.t 2) (.t 16), [3, 0, 1]⟩] [2, 3, 4]))
def A17 : AFunc := ⟨1, [.c 2 false 1, .c 3 false 1], .seq (.reg [⟨(some 2), none, .alloc [(.sl 8 [] .nil)], []⟩,
 ⟨(some 3), none, .alloc [(.int .i64 0)], []⟩] [0, 2, 3])
 (.seq (.dfr 5 35 [(.t 2), (.t 3)])
 (.seq (.reg [⟨(some 6), none, .mv (.t 0), []⟩,
 ⟨(some 7), none, .agg [(.str [])] [(0, 1, (.t 6))], []⟩,
 ⟨(some 8), none, .agg [(.str [])] [(0, 1, (.t 7))], []⟩,
 ⟨(some 4), none, .alloc [(.str [])], []⟩,
 ⟨none, none, .store 1 (.t 4) (.t 8), []⟩] [2, 3, 4])
 (.seq (.blk 0 (.loop L17x0))
 (.seq (.reg [⟨(some 17), none, .load false 1 (.t 2), []⟩,
 ⟨(some 18), none, .call 26 [(.t 17)], []⟩,
 ⟨(some 19), none, .call 37 [(.t 18)], []⟩] [2, 3])
 (.seq (.reg [⟨(some 20), none, .load false 1 (.t 2), []⟩,
 ⟨none, none, .store 1 (.t 2) (.t 20), []⟩,
 ⟨none, none, .store 1 (.t 3) (.c (.int .i64 0)), []⟩] [2, 3])
 (.ret))))))⟩
theorem c17 : cmpF Tryz.prog ⟨[(28, 2), (29, 2), (30, 3), (50, 2)], false, false⟩ Tryz.f17 K17 = some A17 := by kernel_rfl
/-- collator/collatorref12.Decode -/
def K18 : List (List Nat) := [[0], [0, 4], [4, 5], [4, 5, 12], [4, 6, 7, 8], [4, 6, 7, 20], [2, 3], [4, 7], [4, 5], [4, 9], [4, 29], [2, 3], [2, 3]]
def L18x0 : ACode := .seq (.seq (.reg [⟨(some 11), none, .mv (.t 5), []⟩,
 ⟨(some 12), none, .bin .neq (.t 11) (.c (.str [])), []⟩] [4, 5, 12])
 (.cond (.t 12) (.skip)
 (.exit 0)))
 (.blk 1 (.seq (.reg [⟨(some 14), none, .mv (.t 5), []⟩,
 ⟨(some 15), none, .call 38 [(.t 14)], []⟩,
 ⟨(some 13), none, .mv (.t 15), []⟩,
 ⟨(some 16), none, .ext (.t 13) 0, []⟩,
 ⟨(some 17), none, .ext (.t 13) 1, []⟩,
 ⟨(some 18), none, .ext (.t 13) 2, []⟩,
 ⟨(some 6), none, .alloc [(.int .i64 0), (.str []), (.str []), (.int .i64 0), (.int .i64 0), (.str []), (.int .i64 0), (.sl 3 [] .nil)], []⟩,
 ⟨none, none, .store 8 (.t 6) (.t 16), []⟩,
 ⟨(some 7), none, .mv (.t 17), []⟩,
 ⟨(some 8), none, .mv (.t 18), []⟩] [4, 6, 7, 8])
 (.seq (.seq (.reg [⟨(some 19), none, .mv (.t 8), []⟩,
 ⟨(some 20), none, .un .not (.t 19), []⟩] [4, 6, 7, 20])
 (.cond (.t 20) (.seq (.reg [⟨(some 2), none, .mv (.c (.sl 8 [] .nil)), []⟩,
 ⟨(some 3), none, .mv (.c (.int .i64 11)), []⟩] [2, 3])
 (.ret))
 (.skip)))
 (.seq (.reg [⟨(some 21), none, .mv (.t 4), []⟩,
 ⟨(some 22), none, .load true 8 (.t 6), []⟩,
 ⟨(some 23), none, .mks 1 8 true [(.int .i64 0), (.str []), (.str []), (.int .i64 0), (.int .i64 0), (.str []), (.int .i64 0), (.sl 3 [] .nil)] [(0, (.t 22))], []⟩,
 ⟨(some 24), none, .app none 8 104 (.t 21) (.t 23), []⟩,
 ⟨(some 4), none, .mv (.t 24), []⟩] [4, 7])
 (.reg [⟨(some 25), none, .mv (.t 7), []⟩,
 ⟨(some 5), none, .mv (.t 25), []⟩] [4, 5])))))
def A18 : AFunc := ⟨1, [.t 2, .t 3], .seq (.reg [⟨(some 2), none, .mv (.c (.sl 8 [] .nil)), []⟩,
 ⟨(some 3), none, .mv (.c (.int .i64 0)), []⟩] [0])
 (.seq (.reg [⟨(some 4), none, .mv (.c (.sl 8 [] .nil)), []⟩] [0, 4])
 (.seq (.seq (.reg [⟨(some 10), none, .mv (.t 0), []⟩,
 ⟨(some 5), none, .mv (.t 10), []⟩] [4, 5])
 (.blk 0 (.loop L18x0)))
 (.seq (.reg [⟨(some 26), none, .mv (.t 4), []⟩,
 ⟨(some 27), none, .call 31 [(.t 26)], []⟩,
 ⟨(some 9), none, .mv (.t 27), []⟩] [4, 9])
 (.seq (.seq (.reg [⟨(some 28), none, .mv (.t 9), []⟩,
 ⟨(some 29), none, .un .not (.t 28), []⟩] [4, 29])
 (.cond (.t 29) (.seq (.reg [⟨(some 2), none, .mv (.c (.sl 8 [] .nil)), []⟩,
 ⟨(some 3), none, .mv (.c (.int .i64 11)), []⟩] [2, 3])
 (.ret))
 (.skip)))
 (.seq (.reg [⟨(some 30), none, .mv (.t 4), []⟩,
 ⟨(some 2), none, .mv (.t 30), []⟩,
 ⟨(some 3), none, .mv (.c (.int .i64 0)), []⟩] [2, 3])
 (.ret))))))⟩
theorem c18 : cmpF Tryz.prog ⟨[(28, 2), (29, 2), (30, 3), (50, 2)], false, false⟩ Tryz.f18 K18 = some A18 := by kernel_rfl
/-- collator/collatorref10.Same -/
def K19 : List (List Nat) := [[0, 1], [0, 1, 11], [4], [0, 1, 5], [0, 1, 5, 15], [0, 1, 5, 6], [0, 1, 5, 28], [4], [0, 1, 5], [4]]
def L19x0 : ACode := .seq (.seq (.reg [⟨(some 12), none, .mv (.t 5), []⟩,
 ⟨(some 13), none, .mv (.t 0), []⟩,
 ⟨(some 14), none, .len false (.t 13), []⟩,
 ⟨(some 15), none, .bin .lss (.t 12) (.t 14), []⟩] [0, 1, 5, 15])
 (.cond (.t 15) (.skip)
 (.exit 0)))
 (.seq (.blk 1 (.seq (.regD [⟨(some 18), none, .mv (.t 0), []⟩,
 ⟨(some 19), none, .mv (.t 5), []⟩,
 ⟨(some 20), none, .iaddr 8 (.t 18) (.t 19), []⟩,
 ⟨(some 21), none, .load true 8 (.t 20), []⟩,
 ⟨(some 22), none, .mv (.t 1), []⟩,
 ⟨(some 23), none, .mv (.t 5), []⟩,
 ⟨(some 24), none, .iaddr 8 (.t 22) (.t 23), []⟩,
 ⟨(some 25), none, .load true 8 (.t 24), []⟩,
 ⟨(some 26), none, .call 39 [(.t 21), (.t 25)], [3, 7]⟩,
 ⟨(some 6), none, .mv (.t 26), [8]⟩] [0, 1, 5, 6])
 (.seq (.reg [⟨(some 27), none, .mv (.t 6), []⟩,
 ⟨(some 28), none, .un .not (.t 27), []⟩] [0, 1, 5, 28])
 (.cond (.t 28) (.seq (.reg [⟨(some 4), none, .mv (.c (.bool false)), []⟩] [4])
 (.ret))
 (.skip)))))
 (.reg [⟨(some 16), none, .mv (.t 5), []⟩,
 ⟨(some 17), none, .bin .add (.t 16) (.c (.int .i64 1)), []⟩,
 ⟨(some 5), none, .mv (.t 17), []⟩] [0, 1, 5]))
def A19 : AFunc := ⟨2, [.t 4], .seq (.reg [⟨(some 4), none, .mv (.c (.bool false)), []⟩] [0, 1])
 (.seq (.seq (.reg [⟨(some 7), none, .mv (.t 0), []⟩,
 ⟨(some 8), none, .len false (.t 7), []⟩,
 ⟨(some 9), none, .mv (.t 1), []⟩,
 ⟨(some 10), none, .len false (.t 9), []⟩,
 ⟨(some 11), none, .bin .neq (.t 8) (.t 10), []⟩] [0, 1, 11])
 (.cond (.t 11) (.seq (.reg [⟨(some 4), none, .mv (.c (.bool false)), []⟩] [4])
 (.ret))
 (.skip)))
 (.seq (.seq (.reg [⟨(some 5), none, .mv (.c (.int .i64 0)), []⟩] [0, 1, 5])
 (.blk 0 (.loop L19x0)))
 (.seq (.reg [⟨(some 4), none, .mv (.c (.bool true)), []⟩] [4])
 (.ret))))⟩
theorem c19 : cmpF Tryz.prog ⟨[(28, 2), (29, 2), (30, 3), (50, 2)], false, false⟩ Tryz.f19 K19 = some A19 := by kernel_rfl
/-- collator/collatorlaw10.Two -/
def K20 : List (List Nat) := [[0, 1, 2], [0, 1, 2, 8], [0, 1, 2, 8, 9], [0, 1, 2, 8, 9, 10], [0, 1, 2, 8, 9, 10, 21], [0, 1, 2, 8, 9, 10, 35], [0, 1, 2, 8, 9, 10], [0, 1, 2, 8, 9, 10, 54], [0, 1, 2, 8, 9, 10, 11], [0, 1, 2, 8, 9, 10, 11], [0, 1, 2, 8, 9, 10], [0, 1, 2, 8, 9, 10], [6, 7]]
def L20x0 : ACode := .seq (.seq (.reg [⟨(some 14), none, .mv (.t 10), []⟩,
 ⟨(some 15), none, .mv (.t 0), []⟩,
 ⟨(some 16), none, .len false (.t 15), []⟩,
 ⟨(some 17), none, .bin .lss (.t 14) (.t 16), []⟩,
 ⟨(some 18), none, .mv (.t 17), []⟩,
 ⟨(some 19), some (18, true), .mv (.t 10), []⟩,
 ⟨(some 20), some (18, true), .bin .lss (.t 19) (.c (.int .i64 14)), []⟩,
 ⟨(some 21), none, .pick (.t 18) (.t 20) (.c (.bool false)), []⟩] [0, 1, 2, 8, 9, 10, 21])
 (.cond (.t 21) (.skip)
 (.exit 0)))
 (.seq (.blk 1 (.seq (.seq (.reg [⟨(some 24), none, .mv (.t 10), []⟩,
 ⟨(some 25), none, .mv (.t 2), []⟩,
 ⟨(some 26), none, .len false (.t 25), []⟩,
 ⟨(some 27), none, .bin .geq (.t 24) (.t 26), []⟩,
 ⟨(some 28), none, .mv (.t 27), []⟩,
 ⟨(some 29), some (28, false), .mv (.t 2), []⟩,
 ⟨(some 30), some (28, false), .mv (.t 10), []⟩,
 ⟨(some 31), some (28, false), .iaddr 1 (.t 29) (.t 30), []⟩,
 ⟨(some 32), some (28, false), .load false 1 (.t 31), []⟩,
 ⟨(some 33), some (28, false), .call 41 [(.t 32), (.c (.int .i64 3))], []⟩,
 ⟨(some 34), some (28, false), .bin .gtr (.t 33) (.c (.int .i64 0)), []⟩,
 ⟨(some 35), none, .pick (.t 28) (.c (.bool true)) (.t 34), []⟩] [0, 1, 2, 8, 9, 10, 35])
 (.cond (.t 35) (.reg [⟨(some 36), none, .mv (.t 9), []⟩,
 ⟨(some 37), none, .mv (.t 0), []⟩,
 ⟨(some 38), none, .mv (.t 10), []⟩,
 ⟨(some 39), none, .iaddr 4 (.t 37) (.t 38), []⟩,
 ⟨(some 40), none, .load true 4 (.t 39), []⟩,
 ⟨(some 41), none, .mks 1 4 true [(.sl 1 [] .nil), (.int .i64 0), (.str []), (.int .i64 0)] [(0, (.t 40))], []⟩,
 ⟨(some 42), none, .app none 4 56 (.t 36) (.t 41), []⟩,
 ⟨(some 9), none, .mv (.t 42), []⟩] [0, 1, 2, 8, 9, 10])
 (.skip)))
 (.seq (.reg [⟨(some 43), none, .mv (.t 10), []⟩,
 ⟨(some 44), none, .mv (.t 2), []⟩,
 ⟨(some 45), none, .len false (.t 44), []⟩,
 ⟨(some 46), none, .bin .lss (.t 43) (.t 45), []⟩,
 ⟨(some 47), none, .mv (.t 46), []⟩,
 ⟨(some 48), some (47, true), .mv (.t 2), []⟩,
 ⟨(some 49), some (47, true), .mv (.t 10), []⟩,
 ⟨(some 50), some (47, true), .iaddr 1 (.t 48) (.t 49), []⟩,
 ⟨(some 51), some (47, true), .load false 1 (.t 50), []⟩,
 ⟨(some 52), some (47, true), .call 41 [(.t 51), (.c (.int .i64 9))], []⟩,
 ⟨(some 53), some (47, true), .bin .eql (.t 52) (.c (.int .i64 4)), []⟩,
 ⟨(some 54), none, .pick (.t 47) (.t 53) (.c (.bool false)), []⟩] [0, 1, 2, 8, 9, 10, 54])
 (.cond (.t 54) (.seq (.reg [⟨(some 55), none, .mv (.t 0), []⟩,
 ⟨(some 56), none, .mv (.t 10), []⟩,
 ⟨(some 57), none, .iaddr 4 (.t 55) (.t 56), []⟩,
 ⟨(some 58), none, .load true 4 (.t 57), []⟩,
 ⟨(some 11), none, .alloc [(.sl 1 [] .nil), (.int .i64 0), (.str []), (.int .i64 0)], []⟩,
 ⟨none, none, .store 4 (.t 11) (.t 58), []⟩] [0, 1, 2, 8, 9, 10, 11])
 (.seq (.reg [⟨(some 59), none, .faddr 2 (.t 11), []⟩,
 ⟨(some 60), none, .load false 1 (.t 59), []⟩,
 ⟨(some 61), none, .bin .add (.t 60) (.c (.str [110, 101, 119, 10])), []⟩,
 ⟨(some 62), none, .faddr 2 (.t 11), []⟩,
 ⟨none, none, .store 1 (.t 62) (.t 61), []⟩] [0, 1, 2, 8, 9, 10, 11])
 (.regD [⟨(some 63), none, .mv (.t 9), []⟩,
 ⟨(some 64), none, .mv (.t 9), []⟩,
 ⟨(some 65), none, .len false (.t 64), []⟩,
 ⟨(some 66), none, .bin .sub (.t 65) (.c (.int .i64 1)), []⟩,
 ⟨(some 67), none, .mv (.t 9), []⟩,
 ⟨(some 68), none, .len false (.t 67), []⟩,
 ⟨(some 69), none, .bin .sub (.t 68) (.c (.int .i64 1)), []⟩,
 ⟨(some 70), none, .slice (some 4) (.t 63) none (some (.t 66)) (some (.t 69)), []⟩,
 ⟨(some 71), none, .load true 4 (.t 11), []⟩,
 ⟨(some 72), none, .mks 1 4 true [(.sl 1 [] .nil), (.int .i64 0), (.str []), (.int .i64 0)] [(0, (.t 71))], []⟩,
 ⟨(some 73), none, .app none 4 56 (.t 70) (.t 72), [8]⟩,
 ⟨(some 9), none, .mv (.t 73), []⟩] [0, 1, 2, 8, 9, 10])))
 (.skip)))))
 (.reg [⟨(some 22), none, .mv (.t 10), []⟩,
 ⟨(some 23), none, .bin .add (.t 22) (.c (.int .i64 1)), []⟩,
 ⟨(some 10), none, .mv (.t 23), []⟩] [0, 1, 2, 8, 9, 10]))
def A20 : AFunc := ⟨3, [.t 6, .t 7], .seq (.reg [⟨(some 6), none, .mv (.c (.sl 4 [] .nil)), []⟩,
 ⟨(some 7), none, .mv (.c (.sl 4 [] .nil)), []⟩] [0, 1, 2])
 (.seq (.reg [⟨(some 12), none, .mv (.t 0), []⟩,
 ⟨(some 13), none, .call 40 [(.t 12)], []⟩,
 ⟨(some 8), none, .mv (.t 13), []⟩] [0, 1, 2, 8])
 (.seq (.reg [⟨(some 9), none, .mv (.c (.sl 4 [] .nil)), []⟩] [0, 1, 2, 8, 9])
 (.seq (.seq (.reg [⟨(some 10), none, .mv (.c (.int .i64 0)), []⟩] [0, 1, 2, 8, 9, 10])
 (.blk 0 (.loop L20x0)))
 (.seq (.reg [⟨(some 74), none, .mv (.t 8), []⟩,
 ⟨(some 75), none, .mv (.t 9), []⟩,
 ⟨(some 76), none, .app none 4 56 (.c (.sl 4 [] .nil)) (.t 75), []⟩,
 ⟨(some 77), none, .mv (.t 1), []⟩,
 ⟨(some 78), none, .app none 4 56 (.t 76) (.t 77), []⟩,
 ⟨(some 79), none, .call 40 [(.t 78)], []⟩,
 ⟨(some 6), none, .mv (.t 74), []⟩,
 ⟨(some 7), none, .mv (.t 79), []⟩] [6, 7])
 (.ret)))))⟩
theorem c20 : cmpF Tryz.prog ⟨[(28, 2), (29, 2), (30, 3), (50, 2)], false, false⟩ Tryz.f20 K20 = some A20 := by kernel_rfl
/-- collator/collatorref10.Compare -/
def K21 : List (List Nat) := [[0, 1, 3, 6, 9], [0, 1, 3, 9, 10], [0, 1, 3, 9, 10, 23], [8, 9], [0, 1, 9, 11], [0, 1, 9, 11, 12], [0, 1, 9, 11, 12, 13], [0, 1, 9, 11, 12, 13, 14], [0, 1, 9, 11, 12, 13, 14, 43], [0, 1, 9, 11, 12, 13, 14, 15, 16], [0, 1, 9, 11, 12, 13, 14, 15, 58], [0, 1, 9, 11, 12, 13, 14], [0, 1, 9, 11, 12, 13, 14], [8, 9]]
def L21x0 : ACode := .seq (.seq (.reg [⟨(some 40), none, .mv (.t 14), []⟩,
 ⟨(some 41), none, .mv (.t 12), []⟩,
 ⟨(some 42), none, .len false (.t 41), []⟩,
 ⟨(some 43), none, .bin .lss (.t 40) (.t 42), []⟩] [0, 1, 9, 11, 12, 13, 14, 43])
 (.cond (.t 43) (.skip)
 (.exit 0)))
 (.seq (.blk 1 (.seq (.reg [⟨(some 47), none, .mv (.t 0), []⟩,
 ⟨(some 48), none, .mv (.t 1), []⟩,
 ⟨(some 49), none, .mv (.t 11), []⟩,
 ⟨(some 50), none, .mv (.t 12), []⟩,
 ⟨(some 51), none, .mv (.t 14), []⟩,
 ⟨(some 52), none, .iaddr 4 (.t 50) (.t 51), []⟩,
 ⟨(some 53), none, .faddr 0 (.t 52), []⟩,
 ⟨(some 54), none, .load false 1 (.t 53), []⟩,
 ⟨(some 55), none, .call 46 [(.t 47), (.t 48), (.t 49), (.t 54)], []⟩,
 ⟨(some 46), none, .mv (.t 55), []⟩,
 ⟨(some 56), none, .ext (.t 46) 0, []⟩,
 ⟨(some 57), none, .ext (.t 46) 1, []⟩,
 ⟨(some 15), none, .alloc [(.int .i64 0), (.str []), (.str []), (.int .i64 0), (.int .i64 0), (.str []), (.int .i64 0), (.sl 3 [] .nil)], []⟩,
 ⟨none, none, .store 8 (.t 15) (.t 56), []⟩,
 ⟨(some 16), none, .mv (.t 57), []⟩] [0, 1, 9, 11, 12, 13, 14, 15, 16])
 (.seq (.reg [⟨(some 58), none, .mv (.t 16), []⟩] [0, 1, 9, 11, 12, 13, 14, 15, 58])
 (.cond (.t 58) (.reg [⟨(some 59), none, .mv (.t 13), []⟩,
 ⟨(some 60), none, .load true 8 (.t 15), []⟩,
 ⟨(some 61), none, .mks 1 8 true [(.int .i64 0), (.str []), (.str []), (.int .i64 0), (.int .i64 0), (.str []), (.int .i64 0), (.sl 3 [] .nil)] [(0, (.t 60))], []⟩,
 ⟨(some 62), none, .app none 8 104 (.t 59) (.t 61), []⟩,
 ⟨(some 13), none, .mv (.t 62), []⟩] [0, 1, 9, 11, 12, 13, 14])
 (.skip)))))
 (.reg [⟨(some 44), none, .mv (.t 14), []⟩,
 ⟨(some 45), none, .bin .add (.t 44) (.c (.int .i64 1)), []⟩,
 ⟨(some 14), none, .mv (.t 45), []⟩] [0, 1, 9, 11, 12, 13, 14]))
def A21 : AFunc := ⟨4, [.t 8, .c 9 true 2], .seq (.reg [⟨(some 6), none, .box (.t 2), []⟩,
 ⟨(some 8), none, .mv (.c (.sl 8 [] .nil)), []⟩,
 ⟨(some 9), none, .alloc [(.str []), (.int .i64 0)], []⟩] [0, 1, 3, 6, 9])
 (.seq (.reg [⟨(some 17), none, .mv (.t 0), []⟩,
 ⟨(some 18), none, .mv (.t 1), []⟩,
 ⟨(some 19), none, .load true 3 (.t 6), []⟩,
 ⟨(some 20), none, .call 42 [(.t 17), (.t 18), (.t 19)], []⟩,
 ⟨(some 10), none, .alloc [(.str []), (.int .i64 0)], []⟩,
 ⟨none, none, .store 2 (.t 10) (.t 20), []⟩] [0, 1, 3, 9, 10])
 (.seq (.seq (.reg [⟨(some 21), none, .faddr 1 (.t 10), []⟩,
 ⟨(some 22), none, .load false 1 (.t 21), []⟩,
 ⟨(some 23), none, .bin .neq (.t 22) (.c (.int .i64 0)), []⟩] [0, 1, 3, 9, 10, 23])
 (.cond (.t 23) (.seq (.regD [⟨(some 24), none, .load true 2 (.t 10), []⟩,
 ⟨(some 8), none, .mv (.c (.sl 8 [] .nil)), []⟩,
 ⟨none, none, .store 2 (.t 9) (.t 24), [0]⟩] [8, 9])
 (.ret))
 (.skip)))
 (.seq (.reg [⟨(some 25), none, .mv (.t 0), []⟩,
 ⟨(some 26), none, .mv (.t 1), []⟩,
 ⟨(some 27), none, .call 44 [(.t 25), (.t 26)], []⟩,
 ⟨(some 28), none, .mv (.t 1), []⟩,
 ⟨(some 29), none, .mv (.t 0), []⟩,
 ⟨(some 30), none, .call 44 [(.t 28), (.t 29)], []⟩,
 ⟨(some 31), none, .mv (.t 3), []⟩,
 ⟨(some 32), none, .call 43 [(.t 27), (.t 30), (.t 31)], []⟩,
 ⟨(some 11), none, .mv (.t 32), []⟩] [0, 1, 9, 11])
 (.seq (.reg [⟨(some 33), none, .mv (.t 0), []⟩,
 ⟨(some 34), none, .app none 4 48 (.c (.sl 4 [] .nil)) (.t 33), []⟩,
 ⟨(some 35), none, .mv (.t 1), []⟩,
 ⟨(some 36), none, .mv (.t 0), []⟩,
 ⟨(some 37), none, .call 44 [(.t 35), (.t 36)], []⟩,
 ⟨(some 38), none, .app none 4 48 (.t 34) (.t 37), []⟩,
 ⟨(some 39), none, .call 45 [(.t 38)], []⟩,
 ⟨(some 12), none, .mv (.t 39), []⟩] [0, 1, 9, 11, 12])
 (.seq (.reg [⟨(some 13), none, .mv (.c (.sl 8 [] .nil)), []⟩] [0, 1, 9, 11, 12, 13])
 (.seq (.seq (.reg [⟨(some 14), none, .mv (.c (.int .i64 0)), []⟩] [0, 1, 9, 11, 12, 13, 14])
 (.blk 0 (.loop L21x0)))
 (.seq (.reg [⟨(some 63), none, .mv (.t 13), []⟩,
 ⟨(some 64), none, .agg [(.str []), (.int .i64 0)] [], []⟩,
 ⟨(some 8), none, .mv (.t 63), []⟩,
 ⟨none, none, .store 2 (.t 9) (.t 64), []⟩] [8, 9])
 (.ret))))))))⟩
theorem c21 : cmpF Tryz.prog ⟨[(28, 2), (29, 2), (30, 3), (50, 2)], false, false⟩ Tryz.f21 K21 = some A21 := by kernel_rfl
/-- collator/collatorlaw02.Wide -/
def K22 : List (List Nat) := [[0], [0]]
def A22 : AFunc := ⟨0, [.c 0 true 3], .seq (.reg [⟨(some 0), none, .alloc [(.int .i64 0), (.int .i64 0), (.int .i64 0)], []⟩] [0])
 (.seq (.reg [⟨(some 1), none, .agg [(.int .i64 0), (.int .i64 0), (.int .i64 0)] [(0, 1, (.c (.int .i64 16))), (1, 1, (.c (.int .i64 1000))), (2, 1, (.c (.int .i64 200)))], []⟩,
 ⟨none, none, .store 3 (.t 0) (.t 1), []⟩] [0])
 (.ret))⟩
theorem c22 : cmpF Tryz.prog ⟨[(28, 2), (29, 2), (30, 3), (50, 2)], false, false⟩ Tryz.f22 K22 = some A22 := by kernel_rfl
/-- collator/collatorlaw04.pick -/
def K23 : List (List Nat) := [[0, 1], [0, 1, 6], [0, 1], [4]]
def A23 : AFunc := ⟨2, [.t 4], .seq (.reg [⟨(some 4), none, .mv (.c (.int .i64 0)), []⟩] [0, 1])
 (.seq (.seq (.reg [⟨(some 5), none, .mv (.t 0), []⟩,
 ⟨(some 6), none, .bin .lss (.t 5) (.c (.int .i64 0)), []⟩] [0, 1, 6])
 (.cond (.t 6) (.reg [⟨(some 7), none, .mv (.t 0), []⟩,
 ⟨(some 8), none, .bin .add (.t 7) (.c (.int .i64 1)), []⟩,
 ⟨(some 9), none, .un .neg (.t 8), []⟩,
 ⟨(some 0), none, .mv (.t 9), []⟩] [0, 1])
 (.skip)))
 (.seq (.reg [⟨(some 10), none, .mv (.t 0), []⟩,
 ⟨(some 11), none, .mv (.t 1), []⟩,
 ⟨(some 12), none, .bin .rem (.t 10) (.t 11), []⟩,
 ⟨(some 4), none, .mv (.t 12), []⟩] [4])
 (.ret)))⟩
theorem c23 : cmpF Tryz.prog ⟨[(28, 2), (29, 2), (30, 3), (50, 2)], false, false⟩ Tryz.f23 K23 = some A23 := by kernel_rfl
/-- collator/collatorlaw04.full -/
def K24 : List (List Nat) := [[0, 1], [0, 1, 5], [0, 1, 5, 6], [0, 1, 5, 6, 10], [0, 1, 5, 6, 7], [0, 1, 5, 6, 7, 17], [0, 1, 5, 6, 7], [0, 1, 5, 6], [0, 1, 5, 6], [4]]
def L24x0 : ACode := .seq (.seq (.reg [⟨(some 8), none, .mv (.t 6), []⟩,
 ⟨(some 9), none, .mv (.t 1), []⟩,
 ⟨(some 10), none, .bin .lss (.t 8) (.t 9), []⟩] [0, 1, 5, 6, 10])
 (.cond (.t 10) (.skip)
 (.exit 0)))
 (.seq (.blk 1 (.seq (.reg [⟨(some 13), none, .mv (.t 6), []⟩,
 ⟨(some 7), none, .mv (.t 13), []⟩] [0, 1, 5, 6, 7])
 (.seq (.seq (.reg [⟨(some 14), none, .mv (.t 6), []⟩,
 ⟨(some 15), none, .mv (.t 0), []⟩,
 ⟨(some 16), none, .len false (.t 15), []⟩,
 ⟨(some 17), none, .bin .lss (.t 14) (.t 16), []⟩] [0, 1, 5, 6, 7, 17])
 (.cond (.t 17) (.reg [⟨(some 18), none, .mv (.t 0), []⟩,
 ⟨(some 19), none, .mv (.t 6), []⟩,
 ⟨(some 20), none, .iaddr 1 (.t 18) (.t 19), []⟩,
 ⟨(some 21), none, .load false 1 (.t 20), []⟩,
 ⟨(some 7), none, .mv (.t 21), []⟩] [0, 1, 5, 6, 7])
 (.skip)))
 (.reg [⟨(some 22), none, .mv (.t 5), []⟩,
 ⟨(some 23), none, .mks 5 1 false [(.str [])] [(0, (.c (.str [97, 10]))), (1, (.c (.str [98, 10]))), (2, (.c (.str [99, 10]))), (3, (.c (.str []))), (4, (.c (.str [120, 58, 121, 59])))], []⟩,
 ⟨(some 24), none, .mv (.t 7), []⟩,
 ⟨(some 25), none, .call 23 [(.t 24), (.c (.int .i64 5))], []⟩,
 ⟨(some 26), none, .iaddr 1 (.t 23) (.t 25), []⟩,
 ⟨(some 27), none, .load false 1 (.t 26), []⟩,
 ⟨(some 28), none, .mks 1 1 false [(.str [])] [(0, (.t 27))], []⟩,
 ⟨(some 29), none, .app none 1 16 (.t 22) (.t 28), []⟩,
 ⟨(some 5), none, .mv (.t 29), []⟩] [0, 1, 5, 6]))))
 (.reg [⟨(some 11), none, .mv (.t 6), []⟩,
 ⟨(some 12), none, .bin .add (.t 11) (.c (.int .i64 1)), []⟩,
 ⟨(some 6), none, .mv (.t 12), []⟩] [0, 1, 5, 6]))
def A24 : AFunc := ⟨2, [.t 4], .seq (.reg [⟨(some 4), none, .mv (.c (.sl 1 [] .nil)), []⟩] [0, 1])
 (.seq (.reg [⟨(some 5), none, .mv (.c (.sl 1 [] .nil)), []⟩] [0, 1, 5])
 (.seq (.seq (.reg [⟨(some 6), none, .mv (.c (.int .i64 0)), []⟩] [0, 1, 5, 6])
 (.blk 0 (.loop L24x0)))
 (.seq (.reg [⟨(some 30), none, .mv (.t 5), []⟩,
 ⟨(some 4), none, .mv (.t 30), []⟩] [4])
 (.ret))))⟩
theorem c24 : cmpF Tryz.prog ⟨[(28, 2), (29, 2), (30, 3), (50, 2)], false, false⟩ Tryz.f24 K24 = some A24 := by kernel_rfl
/-- collator/collatorlaw11.pick -/
def K25 : List (List Nat) := [[0, 1], [0, 1, 6], [0, 1], [4]]
def A25 : AFunc := ⟨2, [.t 4], .seq (.reg [⟨(some 4), none, .mv (.c (.int .i64 0)), []⟩] [0, 1])
 (.seq (.seq (.reg [⟨(some 5), none, .mv (.t 0), []⟩,
 ⟨(some 6), none, .bin .lss (.t 5) (.c (.int .i64 0)), []⟩] [0, 1, 6])
 (.cond (.t 6) (.reg [⟨(some 7), none, .mv (.t 0), []⟩,
 ⟨(some 8), none, .bin .add (.t 7) (.c (.int .i64 1)), []⟩,
 ⟨(some 9), none, .un .neg (.t 8), []⟩,
 ⟨(some 0), none, .mv (.t 9), []⟩] [0, 1])
 (.skip)))
 (.seq (.reg [⟨(some 10), none, .mv (.t 0), []⟩,
 ⟨(some 11), none, .mv (.t 1), []⟩,
 ⟨(some 12), none, .bin .rem (.t 10) (.t 11), []⟩,
 ⟨(some 4), none, .mv (.t 12), []⟩] [4])
 (.ret)))⟩
theorem c25 : cmpF Tryz.prog ⟨[(28, 2), (29, 2), (30, 3), (50, 2)], false, false⟩ Tryz.f25 K25 = some A25 := by kernel_rfl
/-- collator/patch.Right -/
def K26 : List (List Nat) := [[0], [0, 3], [0, 3, 9, 10, 11], [0, 3, 9, 10, 11, 12], [0, 3, 4, 5, 9, 10, 11], [0, 3, 5, 9, 10, 11, 34], [2], [0, 3, 9, 10, 11], [0, 3, 9, 10, 11], [3, 39, 40, 41], [3, 39, 40, 41, 42], [3, 7, 39, 40, 41], [3, 7, 39, 40, 41, 47], [3, 7, 39, 40, 41, 51], [2], [3, 39, 40, 41], [3, 39, 40, 41], [2]]
def L26x0 : ACode := .seq (.reg [⟨(some 12), none, .bin .lss (.t 11) (.t 10), []⟩] [0, 3, 9, 10, 11, 12])
 (.seq (.cond (.t 12) (.skip)
 (.exit 0))
 (.seq (.blk 1 (.seq (.reg [⟨(some 13), none, .mv (.t 11), []⟩,
 ⟨(some 14), none, .iaddr 8 (.t 9) (.t 11), []⟩,
 ⟨(some 15), none, .load true 8 (.t 14), []⟩,
 ⟨(some 5), none, .alloc [(.int .i64 0), (.str []), (.str []), (.int .i64 0), (.int .i64 0), (.str []), (.int .i64 0), (.sl 3 [] .nil)], []⟩,
 ⟨(some 4), none, .mv (.t 13), []⟩,
 ⟨none, none, .store 8 (.t 5) (.t 15), []⟩] [0, 3, 4, 5, 9, 10, 11])
 (.seq (.seq (.regD [⟨(some 16), none, .load true 8 (.t 5), []⟩,
 ⟨(some 17), none, .call 47 [(.t 16)], [0]⟩,
 ⟨(some 18), none, .un .not (.t 17), [1]⟩,
 ⟨(some 19), none, .mv (.t 18), [1]⟩,
 ⟨(some 20), some (19, false), .mv (.t 4), [1]⟩,
 ⟨(some 21), some (19, false), .bin .gtr (.t 20) (.c (.int .i64 0)), [1]⟩,
 ⟨(some 22), some (19, false), .mv (.t 21), [1]⟩,
 ⟨(some 23), some (22, true), .mv (.t 0), [1]⟩,
 ⟨(some 24), some (22, true), .mv (.t 4), [1]⟩,
 ⟨(some 25), some (22, true), .bin .sub (.t 24) (.c (.int .i64 1)), [1]⟩,
 ⟨(some 26), some (22, true), .iaddr 8 (.t 23) (.t 25), [1]⟩,
 ⟨(some 27), some (22, true), .faddr 1 (.t 26), [1]⟩,
 ⟨(some 28), some (22, true), .load false 1 (.t 27), [1, 0]⟩,
 ⟨(some 29), some (22, true), .faddr 1 (.t 5), [1]⟩,
 ⟨(some 30), some (22, true), .load false 1 (.t 29), [1, 0]⟩,
 ⟨(some 31), some (22, true), .call 48 [(.t 28), (.t 30)], [12, 14, 1, 0]⟩,
 ⟨(some 32), some (22, true), .bin .geq (.t 31) (.c (.int .i64 0)), [15, 1]⟩,
 ⟨(some 33), some (19, false), .pick (.t 22) (.t 32) (.c (.bool false)), [1, 15]⟩,
 ⟨(some 34), none, .pick (.t 19) (.c (.bool true)) (.t 33), [1, 15]⟩] [0, 3, 5, 9, 10, 11, 34])
 (.cond (.t 34) (.seq (.reg [⟨(some 2), none, .mv (.c (.bool false)), []⟩] [2])
 (.ret))
 (.skip)))
 (.reg [⟨(some 35), none, .mv (.t 3), []⟩,
 ⟨(some 36), none, .faddr 1 (.t 5), []⟩,
 ⟨(some 37), none, .load false 1 (.t 36), []⟩,
 ⟨none, none, .mput (.t 35) (.t 37) (.c (.bool true)), []⟩] [0, 3, 9, 10, 11]))))
 (.reg [⟨(some 38), none, .bin .add (.t 11) (.c (.int .i64 1)), []⟩,
 ⟨(some 11), none, .mv (.t 38), []⟩] [0, 3, 9, 10, 11])))
def L26x1 : ACode := .seq (.reg [⟨(some 42), none, .bin .lss (.t 41) (.t 40), []⟩] [3, 39, 40, 41, 42])
 (.seq (.cond (.t 42) (.skip)
 (.exit 2))
 (.seq (.blk 3 (.seq (.reg [⟨(some 43), none, .iaddr 8 (.t 39) (.t 41), []⟩,
 ⟨(some 44), none, .load true 8 (.t 43), []⟩,
 ⟨(some 7), none, .alloc [(.int .i64 0), (.str []), (.str []), (.int .i64 0), (.int .i64 0), (.str []), (.int .i64 0), (.sl 3 [] .nil)], []⟩,
 ⟨none, none, .store 8 (.t 7) (.t 44), []⟩] [3, 7, 39, 40, 41])
 (.seq (.seq (.reg [⟨(some 45), none, .faddr 0 (.t 7), []⟩,
 ⟨(some 46), none, .load false 1 (.t 45), []⟩,
 ⟨(some 47), none, .bin .neq (.t 46) (.c (.int .i64 5)), []⟩] [3, 7, 39, 40, 41, 47])
 (.cond (.t 47) (.exit 3)
 (.skip)))
 (.seq (.seq (.reg [⟨(some 48), none, .mv (.t 3), []⟩,
 ⟨(some 49), none, .faddr 2 (.t 7), []⟩,
 ⟨(some 50), none, .load false 1 (.t 49), []⟩,
 ⟨(some 51), none, .mget (.t 48) (.t 50), []⟩] [3, 7, 39, 40, 41, 51])
 (.cond (.t 51) (.seq (.reg [⟨(some 2), none, .mv (.c (.bool false)), []⟩] [2])
 (.ret))
 (.skip)))
 (.reg [⟨(some 52), none, .mv (.t 3), []⟩,
 ⟨(some 53), none, .faddr 2 (.t 7), []⟩,
 ⟨(some 54), none, .load false 1 (.t 53), []⟩,
 ⟨none, none, .mput (.t 52) (.t 54) (.c (.bool true)), []⟩] [3, 39, 40, 41])))))
 (.reg [⟨(some 55), none, .bin .add (.t 41) (.c (.int .i64 1)), []⟩,
 ⟨(some 41), none, .mv (.t 55), []⟩] [3, 39, 40, 41])))
def A26 : AFunc := ⟨1, [.t 2], .seq (.reg [⟨(some 2), none, .mv (.c (.bool false)), []⟩] [0])
 (.seq (.reg [⟨(some 8), none, .mkmap, []⟩,
 ⟨(some 3), none, .mv (.t 8), []⟩] [0, 3])
 (.seq (.seq (.reg [⟨(some 9), none, .mv (.t 0), []⟩,
 ⟨(some 10), none, .len false (.t 9), []⟩,
 ⟨(some 11), none, .mv (.c (.int .i64 0)), []⟩] [0, 3, 9, 10, 11])
 (.blk 0 (.loop L26x0)))
 (.seq (.seq (.reg [⟨(some 39), none, .mv (.t 0), []⟩,
 ⟨(some 40), none, .len false (.t 39), []⟩,
 ⟨(some 41), none, .mv (.c (.int .i64 0)), []⟩] [3, 39, 40, 41])
 (.blk 2 (.loop L26x1)))
 (.seq (.reg [⟨(some 2), none, .mv (.c (.bool true)), []⟩] [2])
 (.ret)))))⟩
theorem c26 : cmpF Tryz.prog ⟨[(28, 2), (29, 2), (30, 3), (50, 2)], false, false⟩ Tryz.f26 K26 = some A26 := by kernel_rfl
/-- collator/script.Encode -/
def K27 : List (List Nat) := [[0], [0, 11], [2, 3], [0, 4], [4, 12, 13, 14], [4, 12, 13, 14, 15], [4, 6, 12, 13, 14], [4, 6, 12, 13, 14], [4, 12, 13, 14, 31, 32, 33], [4, 12, 13, 14, 31, 32, 33, 34], [4, 8, 12, 13, 14, 31, 32, 33], [4, 12, 13, 14, 31, 32, 33], [4, 12, 13, 14, 31, 32, 33], [4, 12, 13, 14], [2, 3]]
def L27x0 : ACode := .seq (.reg [⟨(some 34), none, .bin .lss (.t 33) (.t 32), []⟩] [4, 12, 13, 14, 31, 32, 33, 34])
 (.seq (.cond (.t 34) (.skip)
 (.exit 2))
 (.seq (.blk 3 (.seq (.reg [⟨(some 35), none, .iaddr 1 (.t 31) (.t 33), []⟩,
 ⟨(some 36), none, .load false 1 (.t 35), []⟩,
 ⟨(some 8), none, .mv (.t 36), []⟩] [4, 8, 12, 13, 14, 31, 32, 33])
 (.reg [⟨(some 37), none, .mv (.t 8), []⟩,
 ⟨(some 38), none, .len true (.t 37), []⟩,
 ⟨(some 39), none, .call 51 [(.t 38)], []⟩,
 ⟨(some 40), none, .bin .add (.t 39) (.c (.str [58])), []⟩,
 ⟨(some 41), none, .mv (.t 8), []⟩,
 ⟨(some 42), none, .bin .add (.t 40) (.t 41), []⟩,
 ⟨(some 43), none, .wrs 50 (.t 4) [(.t 42)], []⟩] [4, 12, 13, 14, 31, 32, 33])))
 (.reg [⟨(some 44), none, .bin .add (.t 33) (.c (.int .i64 1)), []⟩,
 ⟨(some 33), none, .mv (.t 44), []⟩] [4, 12, 13, 14, 31, 32, 33])))
def L27x1 : ACode := .seq (.reg [⟨(some 15), none, .bin .lss (.t 14) (.t 13), []⟩] [4, 12, 13, 14, 15])
 (.seq (.cond (.t 15) (.skip)
 (.exit 0))
 (.seq (.blk 1 (.seq (.reg [⟨(some 16), none, .iaddr 3 (.t 12) (.t 14), []⟩,
 ⟨(some 17), none, .load true 3 (.t 16), []⟩,
 ⟨(some 6), none, .alloc [(.int .i64 0), (.int .i64 0), (.sl 1 [] .nil)], []⟩,
 ⟨none, none, .store 3 (.t 6) (.t 17), []⟩] [4, 6, 12, 13, 14])
 (.seq (.regD [⟨(some 18), none, .faddr 0 (.t 6), []⟩,
 ⟨(some 19), none, .load false 1 (.t 18), []⟩,
 ⟨(some 20), none, .faddr 0 (.t 6), []⟩,
 ⟨(some 21), none, .load false 1 (.t 20), []⟩,
 ⟨(some 22), none, .bin .add (.t 21) (.c (.int .i64 1)), []⟩,
 ⟨(some 23), none, .slice none (.c (.str [63, 61, 45, 43])) (some (.t 19)) (some (.t 22)) none, []⟩,
 ⟨(some 24), none, .faddr 1 (.t 6), []⟩,
 ⟨(some 25), none, .load false 1 (.t 24), []⟩,
 ⟨(some 26), none, .call 51 [(.t 25)], [7]⟩,
 ⟨(some 27), none, .bin .add (.t 23) (.t 26), [8]⟩,
 ⟨(some 28), none, .bin .add (.t 27) (.c (.str [59])), [8]⟩,
 ⟨(some 29), none, .wrs 50 (.t 4) [(.t 28)], [8, 1, 3, 7]⟩] [4, 6, 12, 13, 14])
 (.seq (.reg [⟨(some 30), none, .faddr 2 (.t 6), []⟩,
 ⟨(some 31), none, .load false 1 (.t 30), []⟩,
 ⟨(some 32), none, .len false (.t 31), []⟩,
 ⟨(some 33), none, .mv (.c (.int .i64 0)), []⟩] [4, 12, 13, 14, 31, 32, 33])
 (.blk 2 (.loop L27x0))))))
 (.reg [⟨(some 45), none, .bin .add (.t 14) (.c (.int .i64 1)), []⟩,
 ⟨(some 14), none, .mv (.t 45), []⟩] [4, 12, 13, 14])))
def A27 : AFunc := ⟨1, [.t 2, .t 3], .seq (.reg [⟨(some 2), none, .mv (.c (.str [])), []⟩,
 ⟨(some 3), none, .mv (.c (.int .i64 0)), []⟩] [0])
 (.seq (.seq (.reg [⟨(some 9), none, .mv (.t 0), []⟩,
 ⟨(some 10), none, .call 49 [(.t 9)], []⟩,
 ⟨(some 11), none, .un .not (.t 10), []⟩] [0, 11])
 (.cond (.t 11) (.seq (.reg [⟨(some 2), none, .mv (.c (.str [])), []⟩,
 ⟨(some 3), none, .mv (.c (.int .i64 1)), []⟩] [2, 3])
 (.ret))
 (.skip)))
 (.seq (.reg [⟨(some 4), none, .alloc [(.bfresh 65 0 0), (.sl 1 [] .nil)], []⟩] [0, 4])
 (.seq (.seq (.reg [⟨(some 12), none, .mv (.t 0), []⟩,
 ⟨(some 13), none, .len false (.t 12), []⟩,
 ⟨(some 14), none, .mv (.c (.int .i64 0)), []⟩] [4, 12, 13, 14])
 (.blk 0 (.loop L27x1)))
 (.seq (.reg [⟨(some 46), none, .bstr 30 (.t 4), []⟩,
 ⟨(some 2), none, .mv (.t 46), []⟩,
 ⟨(some 3), none, .mv (.c (.int .i64 0)), []⟩] [2, 3])
 (.ret)))))⟩
theorem c27 : cmpF Tryz.prog ⟨[(28, 2), (29, 2), (30, 3), (50, 2)], false, false⟩ Tryz.f27 K27 = some A27 := by kernel_rfl
/-- collator/collatorref11.Right -/
def K31 : List (List Nat) := [[0], [0, 3], [0, 3, 9], [0, 3, 4], [0, 3, 37], [2], [0, 3, 5], [0, 3, 5, 41], [0, 3, 5, 88], [2], [0, 3, 5], [0, 3], [2]]
def L31x0 : ACode := .seq (.seq (.reg [⟨(some 38), none, .mv (.t 5), []⟩,
 ⟨(some 39), none, .mv (.t 0), []⟩,
 ⟨(some 40), none, .len false (.t 39), []⟩,
 ⟨(some 41), none, .bin .lss (.t 38) (.t 40), []⟩] [0, 3, 5, 41])
 (.cond (.t 41) (.skip)
 (.exit 2)))
 (.seq (.blk 3 (.seq (.regD [⟨(some 44), none, .mv (.t 0), []⟩,
 ⟨(some 45), none, .mv (.t 3), []⟩,
 ⟨(some 46), none, .iaddr 8 (.t 44) (.t 45), []⟩,
 ⟨(some 47), none, .faddr 0 (.t 46), []⟩,
 ⟨(some 48), none, .load false 1 (.t 47), []⟩,
 ⟨(some 49), none, .bin .eql (.t 48) (.c (.int .i64 5)), []⟩,
 ⟨(some 50), none, .mv (.t 49), []⟩,
 ⟨(some 51), some (50, true), .mv (.t 0), []⟩,
 ⟨(some 52), some (50, true), .mv (.t 5), []⟩,
 ⟨(some 53), some (50, true), .iaddr 8 (.t 51) (.t 52), []⟩,
 ⟨(some 54), some (50, true), .faddr 1 (.t 53), []⟩,
 ⟨(some 55), some (50, true), .load false 1 (.t 54), [4]⟩,
 ⟨(some 56), some (50, true), .mv (.t 0), []⟩,
 ⟨(some 57), some (50, true), .mv (.t 3), []⟩,
 ⟨(some 58), some (50, true), .iaddr 8 (.t 56) (.t 57), []⟩,
 ⟨(some 59), some (50, true), .faddr 2 (.t 58), []⟩,
 ⟨(some 60), some (50, true), .load false 1 (.t 59), [4]⟩,
 ⟨(some 61), some (50, true), .bin .eql (.t 55) (.t 60), []⟩,
 ⟨(some 62), some (50, true), .mv (.t 61), []⟩,
 ⟨(some 63), some (62, false), .mv (.t 5), []⟩,
 ⟨(some 64), some (62, false), .mv (.t 3), []⟩,
 ⟨(some 65), some (62, false), .bin .neq (.t 63) (.t 64), []⟩,
 ⟨(some 66), some (62, false), .mv (.t 65), []⟩,
 ⟨(some 67), some (66, true), .mv (.t 0), []⟩,
 ⟨(some 68), some (66, true), .mv (.t 5), []⟩,
 ⟨(some 69), some (66, true), .iaddr 8 (.t 67) (.t 68), []⟩,
 ⟨(some 70), some (66, true), .faddr 0 (.t 69), []⟩,
 ⟨(some 71), some (66, true), .load false 1 (.t 70), [11, 16, 4]⟩,
 ⟨(some 72), some (66, true), .bin .eql (.t 71) (.c (.int .i64 5)), []⟩,
 ⟨(some 73), some (62, false), .pick (.t 66) (.t 72) (.c (.bool false)), []⟩,
 ⟨(some 74), some (62, false), .mv (.t 73), []⟩,
 ⟨(some 75), some (74, true), .mv (.t 0), []⟩,
 ⟨(some 76), some (74, true), .mv (.t 5), []⟩,
 ⟨(some 77), some (74, true), .iaddr 8 (.t 75) (.t 76), []⟩,
 ⟨(some 78), some (74, true), .faddr 2 (.t 77), []⟩,
 ⟨(some 79), some (74, true), .load false 1 (.t 78), [11, 16, 4, 27]⟩,
 ⟨(some 80), some (74, true), .mv (.t 0), []⟩,
 ⟨(some 81), some (74, true), .mv (.t 3), []⟩,
 ⟨(some 82), some (74, true), .iaddr 8 (.t 80) (.t 81), []⟩,
 ⟨(some 83), some (74, true), .faddr 2 (.t 82), []⟩,
 ⟨(some 84), some (74, true), .load false 1 (.t 83), [11, 16, 4, 27]⟩,
 ⟨(some 85), some (74, true), .bin .eql (.t 79) (.t 84), []⟩,
 ⟨(some 86), some (62, false), .pick (.t 74) (.t 85) (.c (.bool false)), []⟩,
 ⟨(some 87), some (50, true), .pick (.t 62) (.c (.bool true)) (.t 86), []⟩,
 ⟨(some 88), none, .pick (.t 50) (.t 87) (.c (.bool false)), []⟩] [0, 3, 5, 88])
 (.cond (.t 88) (.seq (.reg [⟨(some 2), none, .mv (.c (.bool false)), []⟩] [2])
 (.ret))
 (.skip))))
 (.reg [⟨(some 42), none, .mv (.t 5), []⟩,
 ⟨(some 43), none, .bin .add (.t 42) (.c (.int .i64 1)), []⟩,
 ⟨(some 5), none, .mv (.t 43), []⟩] [0, 3, 5]))
def L31x1 : ACode := .seq (.seq (.reg [⟨(some 6), none, .mv (.t 3), []⟩,
 ⟨(some 7), none, .mv (.t 0), []⟩,
 ⟨(some 8), none, .len false (.t 7), []⟩,
 ⟨(some 9), none, .bin .lss (.t 6) (.t 8), []⟩] [0, 3, 9])
 (.cond (.t 9) (.skip)
 (.exit 0)))
 (.seq (.blk 1 (.seq (.reg [⟨(some 12), none, .mv (.t 0), []⟩,
 ⟨(some 13), none, .mv (.t 3), []⟩,
 ⟨(some 14), none, .iaddr 8 (.t 12) (.t 13), []⟩,
 ⟨(some 15), none, .load true 8 (.t 14), []⟩,
 ⟨(some 16), none, .call 52 [(.t 15)], []⟩,
 ⟨(some 4), none, .mv (.t 16), []⟩] [0, 3, 4])
 (.seq (.seq (.regD [⟨(some 17), none, .mv (.t 4), []⟩,
 ⟨(some 18), none, .un .not (.t 17), []⟩,
 ⟨(some 19), none, .mv (.t 18), []⟩,
 ⟨(some 20), some (19, false), .mv (.t 3), []⟩,
 ⟨(some 21), some (19, false), .bin .gtr (.t 20) (.c (.int .i64 0)), []⟩,
 ⟨(some 22), some (19, false), .mv (.t 21), []⟩,
 ⟨(some 23), some (22, true), .mv (.t 0), []⟩,
 ⟨(some 24), some (22, true), .mv (.t 3), []⟩,
 ⟨(some 25), some (22, true), .bin .sub (.t 24) (.c (.int .i64 1)), []⟩,
 ⟨(some 26), some (22, true), .iaddr 8 (.t 23) (.t 25), []⟩,
 ⟨(some 27), some (22, true), .faddr 1 (.t 26), []⟩,
 ⟨(some 28), some (22, true), .load false 1 (.t 27), []⟩,
 ⟨(some 29), some (22, true), .mv (.t 0), []⟩,
 ⟨(some 30), some (22, true), .mv (.t 3), []⟩,
 ⟨(some 31), some (22, true), .iaddr 8 (.t 29) (.t 30), []⟩,
 ⟨(some 32), some (22, true), .faddr 1 (.t 31), []⟩,
 ⟨(some 33), some (22, true), .load false 1 (.t 32), []⟩,
 ⟨(some 34), some (22, true), .call 53 [(.t 28), (.t 33)], [11, 16]⟩,
 ⟨(some 35), some (22, true), .bin .geq (.t 34) (.c (.int .i64 0)), [17]⟩,
 ⟨(some 36), some (19, false), .pick (.t 22) (.t 35) (.c (.bool false)), [17]⟩,
 ⟨(some 37), none, .pick (.t 19) (.c (.bool true)) (.t 36), [17]⟩] [0, 3, 37])
 (.cond (.t 37) (.seq (.reg [⟨(some 2), none, .mv (.c (.bool false)), []⟩] [2])
 (.ret))
 (.skip)))
 (.seq (.reg [⟨(some 5), none, .mv (.c (.int .i64 0)), []⟩] [0, 3, 5])
 (.blk 2 (.loop L31x0))))))
 (.reg [⟨(some 10), none, .mv (.t 3), []⟩,
 ⟨(some 11), none, .bin .add (.t 10) (.c (.int .i64 1)), []⟩,
 ⟨(some 3), none, .mv (.t 11), []⟩] [0, 3]))
def A31 : AFunc := ⟨1, [.t 2], .seq (.reg [⟨(some 2), none, .mv (.c (.bool false)), []⟩] [0])
 (.seq (.seq (.reg [⟨(some 3), none, .mv (.c (.int .i64 0)), []⟩] [0, 3])
 (.blk 0 (.loop L31x1)))
 (.seq (.reg [⟨(some 2), none, .mv (.c (.bool true)), []⟩] [2])
 (.ret)))⟩
theorem c31 : cmpF Tryz.prog ⟨[(28, 2), (29, 2), (30, 3), (50, 2)], false, false⟩ Tryz.f31 K31 = some A31 := by kernel_rfl
/-- collator/collatorref04.Encode -/
def K32 : List (List Nat) := [[0], [0, 4], [0, 11], [2, 3], [0, 5], [0, 5, 6], [0, 5, 6, 15], [0, 5, 6], [0, 5, 6, 7], [0, 5, 6, 7, 47], [0, 5, 6, 7], [0, 5, 6, 7], [0, 5, 6], [2, 3]]
def L32x0 : ACode := .seq (.seq (.reg [⟨(some 40), none, .mv (.t 7), []⟩,
 ⟨(some 41), none, .mv (.t 0), []⟩,
 ⟨(some 42), none, .mv (.t 6), []⟩,
 ⟨(some 43), none, .iaddr 3 (.t 41) (.t 42), []⟩,
 ⟨(some 44), none, .faddr 2 (.t 43), []⟩,
 ⟨(some 45), none, .load false 1 (.t 44), []⟩,
 ⟨(some 46), none, .len false (.t 45), []⟩,
 ⟨(some 47), none, .bin .lss (.t 40) (.t 46), []⟩] [0, 5, 6, 7, 47])
 (.cond (.t 47) (.skip)
 (.exit 2)))
 (.seq (.blk 3 (.regD [⟨(some 50), none, .mv (.t 5), []⟩,
 ⟨(some 51), none, .mv (.t 0), []⟩,
 ⟨(some 52), none, .mv (.t 6), []⟩,
 ⟨(some 53), none, .iaddr 3 (.t 51) (.t 52), []⟩,
 ⟨(some 54), none, .faddr 2 (.t 53), []⟩,
 ⟨(some 55), none, .load false 1 (.t 54), []⟩,
 ⟨(some 56), none, .mv (.t 7), []⟩,
 ⟨(some 57), none, .iaddr 1 (.t 55) (.t 56), []⟩,
 ⟨(some 58), none, .load false 1 (.t 57), [5]⟩,
 ⟨(some 59), none, .len true (.t 58), []⟩,
 ⟨(some 60), none, .call 55 [(.t 59)], [8, 5]⟩,
 ⟨(some 61), none, .bin .add (.t 50) (.t 60), [10]⟩,
 ⟨(some 62), none, .bin .add (.t 61) (.c (.str [58])), [10]⟩,
 ⟨(some 63), none, .mv (.t 0), []⟩,
 ⟨(some 64), none, .mv (.t 6), []⟩,
 ⟨(some 65), none, .iaddr 3 (.t 63) (.t 64), []⟩,
 ⟨(some 66), none, .faddr 2 (.t 65), []⟩,
 ⟨(some 67), none, .load false 1 (.t 66), []⟩,
 ⟨(some 68), none, .mv (.t 7), []⟩,
 ⟨(some 69), none, .iaddr 1 (.t 67) (.t 68), []⟩,
 ⟨(some 70), none, .load false 1 (.t 69), [17]⟩,
 ⟨(some 71), none, .bin .add (.t 62) (.t 70), [10]⟩,
 ⟨(some 5), none, .mv (.t 71), [10]⟩] [0, 5, 6, 7]))
 (.reg [⟨(some 48), none, .mv (.t 7), []⟩,
 ⟨(some 49), none, .bin .add (.t 48) (.c (.int .i64 1)), []⟩,
 ⟨(some 7), none, .mv (.t 49), []⟩] [0, 5, 6, 7]))
def L32x1 : ACode := .seq (.seq (.reg [⟨(some 12), none, .mv (.t 6), []⟩,
 ⟨(some 13), none, .mv (.t 0), []⟩,
 ⟨(some 14), none, .len false (.t 13), []⟩,
 ⟨(some 15), none, .bin .lss (.t 12) (.t 14), []⟩] [0, 5, 6, 15])
 (.cond (.t 15) (.skip)
 (.exit 0)))
 (.seq (.blk 1 (.seq (.regD [⟨(some 18), none, .mv (.t 5), []⟩,
 ⟨(some 19), none, .mv (.t 0), []⟩,
 ⟨(some 20), none, .mv (.t 6), []⟩,
 ⟨(some 21), none, .iaddr 3 (.t 19) (.t 20), []⟩,
 ⟨(some 22), none, .faddr 0 (.t 21), []⟩,
 ⟨(some 23), none, .load false 1 (.t 22), []⟩,
 ⟨(some 24), none, .bin .sub (.t 23) (.c (.int .i64 1)), []⟩,
 ⟨(some 25), none, .mv (.t 0), []⟩,
 ⟨(some 26), none, .mv (.t 6), []⟩,
 ⟨(some 27), none, .iaddr 3 (.t 25) (.t 26), []⟩,
 ⟨(some 28), none, .faddr 0 (.t 27), []⟩,
 ⟨(some 29), none, .load false 1 (.t 28), []⟩,
 ⟨(some 30), none, .slice none (.c (.str [61, 45, 43])) (some (.t 24)) (some (.t 29)) none, []⟩,
 ⟨(some 31), none, .bin .add (.t 18) (.t 30), []⟩,
 ⟨(some 32), none, .mv (.t 0), []⟩,
 ⟨(some 33), none, .mv (.t 6), []⟩,
 ⟨(some 34), none, .iaddr 3 (.t 32) (.t 33), []⟩,
 ⟨(some 35), none, .faddr 1 (.t 34), []⟩,
 ⟨(some 36), none, .load false 1 (.t 35), []⟩,
 ⟨(some 37), none, .call 55 [(.t 36)], [18]⟩,
 ⟨(some 38), none, .bin .add (.t 31) (.t 37), [19]⟩,
 ⟨(some 39), none, .bin .add (.t 38) (.c (.str [59])), [19]⟩,
 ⟨(some 5), none, .mv (.t 39), [19]⟩] [0, 5, 6])
 (.seq (.reg [⟨(some 7), none, .mv (.c (.int .i64 0)), []⟩] [0, 5, 6, 7])
 (.blk 2 (.loop L32x0)))))
 (.reg [⟨(some 16), none, .mv (.t 6), []⟩,
 ⟨(some 17), none, .bin .add (.t 16) (.c (.int .i64 1)), []⟩,
 ⟨(some 6), none, .mv (.t 17), []⟩] [0, 5, 6]))
def A32 : AFunc := ⟨1, [.t 2, .t 3], .seq (.reg [⟨(some 2), none, .mv (.c (.str [])), []⟩,
 ⟨(some 3), none, .mv (.c (.int .i64 0)), []⟩] [0])
 (.seq (.reg [⟨(some 8), none, .mv (.t 0), []⟩,
 ⟨(some 9), none, .call 54 [(.t 8)], []⟩,
 ⟨(some 4), none, .mv (.t 9), []⟩] [0, 4])
 (.seq (.seq (.reg [⟨(some 10), none, .mv (.t 4), []⟩,
 ⟨(some 11), none, .un .not (.t 10), []⟩] [0, 11])
 (.cond (.t 11) (.seq (.reg [⟨(some 2), none, .mv (.c (.str [])), []⟩,
 ⟨(some 3), none, .mv (.c (.int .i64 1)), []⟩] [2, 3])
 (.ret))
 (.skip)))
 (.seq (.reg [⟨(some 5), none, .mv (.c (.str [])), []⟩] [0, 5])
 (.seq (.seq (.reg [⟨(some 6), none, .mv (.c (.int .i64 0)), []⟩] [0, 5, 6])
 (.blk 0 (.loop L32x1)))
 (.seq (.reg [⟨(some 72), none, .mv (.t 5), []⟩,
 ⟨(some 2), none, .mv (.t 72), []⟩,
 ⟨(some 3), none, .mv (.c (.int .i64 0)), []⟩] [2, 3])
 (.ret))))))⟩
theorem c32 : cmpF Tryz.prog ⟨[(28, 2), (29, 2), (30, 3), (50, 2)], false, false⟩ Tryz.f32 K32 = some A32 := by kernel_rfl
/-- collator/collatorref12.number -/
def K33 : List (List Nat) := [[0], [2]]
def A33 : AFunc := ⟨1, [.t 2], .seq (.reg [⟨(some 2), none, .mv (.c (.str [])), []⟩] [0])
 (.seq (.reg [⟨(some 3), none, .mv (.t 0), []⟩,
 ⟨(some 4), none, .call 55 [(.t 3)], []⟩,
 ⟨(some 5), none, .bin .add (.t 4) (.c (.str [59])), []⟩,
 ⟨(some 2), none, .mv (.t 5), []⟩] [2])
 (.ret))⟩
theorem c33 : cmpF Tryz.prog ⟨[(28, 2), (29, 2), (30, 3), (50, 2)], false, false⟩ Tryz.f33 K33 = some A33 := by kernel_rfl
/-- collator/collatorref12.text -/
def K34 : List (List Nat) := [[0], [2]]
def A34 : AFunc := ⟨1, [.t 2], .seq (.reg [⟨(some 2), none, .mv (.c (.str [])), []⟩] [0])
 (.seq (.reg [⟨(some 3), none, .mv (.t 0), []⟩,
 ⟨(some 4), none, .len true (.t 3), []⟩,
 ⟨(some 5), none, .call 55 [(.t 4)], []⟩,
 ⟨(some 6), none, .bin .add (.t 5) (.c (.str [58])), []⟩,
 ⟨(some 7), none, .mv (.t 0), []⟩,
 ⟨(some 8), none, .bin .add (.t 6) (.t 7), []⟩,
 ⟨(some 2), none, .mv (.t 8), []⟩] [2])
 (.ret))⟩
theorem c34 : cmpF Tryz.prog ⟨[(28, 2), (29, 2), (30, 3), (50, 2)], false, false⟩ Tryz.f34 K34 = some A34 := by kernel_rfl
/-- (*collator/report.reader).entry -/
def K36 : List (List Nat) := [[0, 2], [0, 2], [0, 2], [0, 2], [0, 2], [0, 2], [0, 2], [0, 2], [2, 3, 4], [2, 3], [2], [2]]
def A36 : AFunc := ⟨1, [.c 2 true 8], .seq (.reg [⟨(some 2), none, .alloc [(.int .i64 0), (.str []), (.str []), (.int .i64 0), (.int .i64 0), (.str []), (.int .i64 0), (.sl 3 [] .nil)], []⟩] [0, 2])
 (.seq (.reg [⟨(some 5), none, .mv (.t 0), []⟩,
 ⟨(some 6), none, .nilc (.t 5), []⟩,
 ⟨(some 7), none, .faddr 0 (.t 6), []⟩,
 ⟨(some 8), none, .call 56 [(.t 7), (.c (.str [59]))], []⟩,
 ⟨(some 9), none, .faddr 0 (.t 2), []⟩,
 ⟨none, none, .store 1 (.t 9) (.t 8), []⟩] [0, 2])
 (.seq (.reg [⟨(some 10), none, .mv (.t 0), []⟩,
 ⟨(some 11), none, .call 57 [(.t 10)], []⟩,
 ⟨(some 12), none, .faddr 1 (.t 2), []⟩,
 ⟨none, none, .store 1 (.t 12) (.t 11), []⟩] [0, 2])
 (.seq (.reg [⟨(some 13), none, .mv (.t 0), []⟩,
 ⟨(some 14), none, .call 57 [(.t 13)], []⟩,
 ⟨(some 15), none, .faddr 2 (.t 2), []⟩,
 ⟨none, none, .store 1 (.t 15) (.t 14), []⟩] [0, 2])
 (.seq (.reg [⟨(some 16), none, .mv (.t 0), []⟩,
 ⟨(some 17), none, .nilc (.t 16), []⟩,
 ⟨(some 18), none, .faddr 0 (.t 17), []⟩,
 ⟨(some 19), none, .call 56 [(.t 18), (.c (.str [59]))], []⟩,
 ⟨(some 20), none, .faddr 3 (.t 2), []⟩,
 ⟨none, none, .store 1 (.t 20) (.t 19), []⟩] [0, 2])
 (.seq (.reg [⟨(some 21), none, .mv (.t 0), []⟩,
 ⟨(some 22), none, .nilc (.t 21), []⟩,
 ⟨(some 23), none, .faddr 0 (.t 22), []⟩,
 ⟨(some 24), none, .call 56 [(.t 23), (.c (.str [59]))], []⟩,
 ⟨(some 25), none, .faddr 4 (.t 2), []⟩,
 ⟨none, none, .store 1 (.t 25) (.t 24), []⟩] [0, 2])
 (.seq (.reg [⟨(some 26), none, .mv (.t 0), []⟩,
 ⟨(some 27), none, .call 57 [(.t 26)], []⟩,
 ⟨(some 28), none, .faddr 5 (.t 2), []⟩,
 ⟨none, none, .store 1 (.t 28) (.t 27), []⟩] [0, 2])
 (.seq (.reg [⟨(some 29), none, .mv (.t 0), []⟩,
 ⟨(some 30), none, .nilc (.t 29), []⟩,
 ⟨(some 31), none, .faddr 0 (.t 30), []⟩,
 ⟨(some 32), none, .call 56 [(.t 31), (.c (.str [59]))], []⟩,
 ⟨(some 33), none, .faddr 6 (.t 2), []⟩,
 ⟨none, none, .store 1 (.t 33) (.t 32), []⟩] [0, 2])
 (.seq (.reg [⟨(some 35), none, .mv (.t 0), []⟩,
 ⟨(some 36), none, .call 57 [(.t 35)], []⟩,
 ⟨(some 37), none, .call 58 [(.t 36)], []⟩,
 ⟨(some 34), none, .mv (.t 37), []⟩,
 ⟨(some 38), none, .ext (.t 34) 0, []⟩,
 ⟨(some 39), none, .ext (.t 34) 1, []⟩,
 ⟨(some 3), none, .mv (.t 38), []⟩,
 ⟨(some 4), none, .mv (.t 39), []⟩] [2, 3, 4])
 (.seq (.reg [⟨(some 40), none, .mv (.t 4), []⟩,
 ⟨(some 41), none, .bin .eql (.t 40) (.c (.int .i64 0)), []⟩,
 ⟨(some 42), none, .call 37 [(.t 41)], []⟩] [2, 3])
 (.seq (.reg [⟨(some 43), none, .mv (.t 3), []⟩,
 ⟨(some 44), none, .faddr 7 (.t 2), []⟩,
 ⟨none, none, .store 1 (.t 44) (.t 43), []⟩] [2])
 (.seq (.reg [⟨(some 45), none, .load true 8 (.t 2), []⟩,
 ⟨none, none, .store 8 (.t 2) (.t 45), []⟩] [2])
 (.ret))))))))))))⟩
theorem c36 : cmpF Tryz.prog ⟨[(28, 2), (29, 2), (30, 3), (50, 2)], false, false⟩ Tryz.f36 K36 = some A36 := by kernel_rfl
/-- collator/collatorref12.entry -/
def K38 : List (List Nat) := [[0, 2], [2, 5, 6, 7], [2, 5, 7, 8, 9, 10], [2, 5, 7, 8, 10, 11, 12, 13], [2, 5, 7, 8, 10, 11, 13, 14, 15, 16], [2, 5, 7, 8, 10, 11, 13, 14, 16, 17, 18, 19], [2, 5, 7, 8, 10, 11, 13, 14, 16, 17, 19, 20, 21, 22], [2, 5, 7, 8, 10, 11, 13, 14, 16, 17, 19, 20, 22, 23, 24, 25], [2, 5, 7, 8, 10, 11, 13, 14, 16, 17, 19, 20, 22, 23, 25, 26, 27, 28], [2, 5, 7, 8, 10, 11, 13, 14, 16, 17, 19, 20, 22, 23, 25, 27, 28, 29, 30], [2, 5, 8, 11, 14, 17, 20, 23, 27, 29, 117], [2, 3, 4], [2, 3, 4]]
def A38 : AFunc := ⟨1, [.c 2 true 8, .t 3, .t 4], .seq (.reg [⟨(some 2), none, .alloc [(.int .i64 0), (.str []), (.str []), (.int .i64 0), (.int .i64 0), (.str []), (.int .i64 0), (.sl 3 [] .nil)], []⟩,
 ⟨(some 3), none, .mv (.c (.str [])), []⟩,
 ⟨(some 4), none, .mv (.c (.bool false)), []⟩] [0, 2])
 (.seq (.reg [⟨(some 32), none, .mv (.t 0), []⟩,
 ⟨(some 33), none, .call 59 [(.t 32), (.c (.int .u8 59))], []⟩,
 ⟨(some 31), none, .mv (.t 33), []⟩,
 ⟨(some 34), none, .ext (.t 31) 0, []⟩,
 ⟨(some 35), none, .ext (.t 31) 1, []⟩,
 ⟨(some 36), none, .ext (.t 31) 2, []⟩,
 ⟨(some 5), none, .mv (.t 34), []⟩,
 ⟨(some 6), none, .mv (.t 35), []⟩,
 ⟨(some 7), none, .mv (.t 36), []⟩] [2, 5, 6, 7])
 (.seq (.reg [⟨(some 38), none, .mv (.t 6), []⟩,
 ⟨(some 39), none, .call 60 [(.t 38)], []⟩,
 ⟨(some 37), none, .mv (.t 39), []⟩,
 ⟨(some 40), none, .ext (.t 37) 0, []⟩,
 ⟨(some 41), none, .ext (.t 37) 1, []⟩,
 ⟨(some 42), none, .ext (.t 37) 2, []⟩,
 ⟨(some 8), none, .mv (.t 40), []⟩,
 ⟨(some 9), none, .mv (.t 41), []⟩,
 ⟨(some 10), none, .mv (.t 42), []⟩] [2, 5, 7, 8, 9, 10])
 (.seq (.reg [⟨(some 44), none, .mv (.t 9), []⟩,
 ⟨(some 45), none, .call 60 [(.t 44)], []⟩,
 ⟨(some 43), none, .mv (.t 45), []⟩,
 ⟨(some 46), none, .ext (.t 43) 0, []⟩,
 ⟨(some 47), none, .ext (.t 43) 1, []⟩,
 ⟨(some 48), none, .ext (.t 43) 2, []⟩,
 ⟨(some 11), none, .mv (.t 46), []⟩,
 ⟨(some 12), none, .mv (.t 47), []⟩,
 ⟨(some 13), none, .mv (.t 48), []⟩] [2, 5, 7, 8, 10, 11, 12, 13])
 (.seq (.reg [⟨(some 50), none, .mv (.t 12), []⟩,
 ⟨(some 51), none, .call 59 [(.t 50), (.c (.int .u8 59))], []⟩,
 ⟨(some 49), none, .mv (.t 51), []⟩,
 ⟨(some 52), none, .ext (.t 49) 0, []⟩,
 ⟨(some 53), none, .ext (.t 49) 1, []⟩,
 ⟨(some 54), none, .ext (.t 49) 2, []⟩,
 ⟨(some 14), none, .mv (.t 52), []⟩,
 ⟨(some 15), none, .mv (.t 53), []⟩,
 ⟨(some 16), none, .mv (.t 54), []⟩] [2, 5, 7, 8, 10, 11, 13, 14, 15, 16])
 (.seq (.reg [⟨(some 56), none, .mv (.t 15), []⟩,
 ⟨(some 57), none, .call 59 [(.t 56), (.c (.int .u8 59))], []⟩,
 ⟨(some 55), none, .mv (.t 57), []⟩,
 ⟨(some 58), none, .ext (.t 55) 0, []⟩,
 ⟨(some 59), none, .ext (.t 55) 1, []⟩,
 ⟨(some 60), none, .ext (.t 55) 2, []⟩,
 ⟨(some 17), none, .mv (.t 58), []⟩,
 ⟨(some 18), none, .mv (.t 59), []⟩,
 ⟨(some 19), none, .mv (.t 60), []⟩] [2, 5, 7, 8, 10, 11, 13, 14, 16, 17, 18, 19])
 (.seq (.reg [⟨(some 62), none, .mv (.t 18), []⟩,
 ⟨(some 63), none, .call 60 [(.t 62)], []⟩,
 ⟨(some 61), none, .mv (.t 63), []⟩,
 ⟨(some 64), none, .ext (.t 61) 0, []⟩,
 ⟨(some 65), none, .ext (.t 61) 1, []⟩,
 ⟨(some 66), none, .ext (.t 61) 2, []⟩,
 ⟨(some 20), none, .mv (.t 64), []⟩,
 ⟨(some 21), none, .mv (.t 65), []⟩,
 ⟨(some 22), none, .mv (.t 66), []⟩] [2, 5, 7, 8, 10, 11, 13, 14, 16, 17, 19, 20, 21, 22])
 (.seq (.reg [⟨(some 68), none, .mv (.t 21), []⟩,
 ⟨(some 69), none, .call 59 [(.t 68), (.c (.int .u8 59))], []⟩,
 ⟨(some 67), none, .mv (.t 69), []⟩,
 ⟨(some 70), none, .ext (.t 67) 0, []⟩,
 ⟨(some 71), none, .ext (.t 67) 1, []⟩,
 ⟨(some 72), none, .ext (.t 67) 2, []⟩,
 ⟨(some 23), none, .mv (.t 70), []⟩,
 ⟨(some 24), none, .mv (.t 71), []⟩,
 ⟨(some 25), none, .mv (.t 72), []⟩] [2, 5, 7, 8, 10, 11, 13, 14, 16, 17, 19, 20, 22, 23, 24, 25])
 (.seq (.reg [⟨(some 74), none, .mv (.t 24), []⟩,
 ⟨(some 75), none, .call 60 [(.t 74)], []⟩,
 ⟨(some 73), none, .mv (.t 75), []⟩,
 ⟨(some 76), none, .ext (.t 73) 0, []⟩,
 ⟨(some 77), none, .ext (.t 73) 1, []⟩,
 ⟨(some 78), none, .ext (.t 73) 2, []⟩,
 ⟨(some 26), none, .mv (.t 76), []⟩,
 ⟨(some 27), none, .mv (.t 77), []⟩,
 ⟨(some 28), none, .mv (.t 78), []⟩] [2, 5, 7, 8, 10, 11, 13, 14, 16, 17, 19, 20, 22, 23, 25, 26, 27, 28])
 (.seq (.reg [⟨(some 80), none, .mv (.t 26), []⟩,
 ⟨(some 81), none, .call 61 [(.t 80)], []⟩,
 ⟨(some 79), none, .mv (.t 81), []⟩,
 ⟨(some 82), none, .ext (.t 79) 0, []⟩,
 ⟨(some 83), none, .ext (.t 79) 1, []⟩,
 ⟨(some 29), none, .mv (.t 82), []⟩,
 ⟨(some 30), none, .mv (.t 83), []⟩] [2, 5, 7, 8, 10, 11, 13, 14, 16, 17, 19, 20, 22, 23, 25, 27, 28, 29, 30])
 (.seq (.seq (.reg [⟨(some 84), none, .mv (.t 7), []⟩,
 ⟨(some 85), none, .un .not (.t 84), []⟩,
 ⟨(some 86), none, .mv (.t 85), []⟩,
 ⟨(some 87), some (86, false), .mv (.t 10), []⟩,
 ⟨(some 88), some (86, false), .un .not (.t 87), []⟩,
 ⟨(some 89), none, .pick (.t 86) (.c (.bool true)) (.t 88), []⟩,
 ⟨(some 90), none, .mv (.t 89), []⟩,
 ⟨(some 91), some (90, false), .mv (.t 13), []⟩,
 ⟨(some 92), some (90, false), .un .not (.t 91), []⟩,
 ⟨(some 93), none, .pick (.t 90) (.c (.bool true)) (.t 92), []⟩,
 ⟨(some 94), none, .mv (.t 93), []⟩,
 ⟨(some 95), some (94, false), .mv (.t 16), []⟩,
 ⟨(some 96), some (94, false), .un .not (.t 95), []⟩,
 ⟨(some 97), none, .pick (.t 94) (.c (.bool true)) (.t 96), []⟩,
 ⟨(some 98), none, .mv (.t 97), []⟩,
 ⟨(some 99), some (98, false), .mv (.t 19), []⟩,
 ⟨(some 100), some (98, false), .un .not (.t 99), []⟩,
 ⟨(some 101), none, .pick (.t 98) (.c (.bool true)) (.t 100), []⟩,
 ⟨(some 102), none, .mv (.t 101), []⟩,
 ⟨(some 103), some (102, false), .mv (.t 22), []⟩,
 ⟨(some 104), some (102, false), .un .not (.t 103), []⟩,
 ⟨(some 105), none, .pick (.t 102) (.c (.bool true)) (.t 104), []⟩,
 ⟨(some 106), none, .mv (.t 105), []⟩,
 ⟨(some 107), some (106, false), .mv (.t 25), []⟩,
 ⟨(some 108), some (106, false), .un .not (.t 107), []⟩,
 ⟨(some 109), none, .pick (.t 106) (.c (.bool true)) (.t 108), []⟩,
 ⟨(some 110), none, .mv (.t 109), []⟩,
 ⟨(some 111), some (110, false), .mv (.t 28), []⟩,
 ⟨(some 112), some (110, false), .un .not (.t 111), []⟩,
 ⟨(some 113), none, .pick (.t 110) (.c (.bool true)) (.t 112), []⟩,
 ⟨(some 114), none, .mv (.t 113), []⟩,
 ⟨(some 115), some (114, false), .mv (.t 30), []⟩,
 ⟨(some 116), some (114, false), .bin .neq (.t 115) (.c (.int .i64 0)), []⟩,
 ⟨(some 117), none, .pick (.t 114) (.c (.bool true)) (.t 116), []⟩] [2, 5, 8, 11, 14, 17, 20, 23, 27, 29, 117])
 (.cond (.t 117) (.seq (.reg [⟨(some 118), none, .agg [(.int .i64 0), (.str []), (.str []), (.int .i64 0), (.int .i64 0), (.str []), (.int .i64 0), (.sl 3 [] .nil)] [], []⟩,
 ⟨none, none, .store 8 (.t 2) (.t 118), []⟩,
 ⟨(some 3), none, .mv (.c (.str [])), []⟩,
 ⟨(some 4), none, .mv (.c (.bool false)), []⟩] [2, 3, 4])
 (.ret))
 (.skip)))
 (.seq (.reg [⟨(some 119), none, .mv (.t 5), []⟩,
 ⟨(some 120), none, .mv (.t 8), []⟩,
 ⟨(some 121), none, .mv (.t 11), []⟩,
 ⟨(some 122), none, .mv (.t 14), []⟩,
 ⟨(some 123), none, .mv (.t 17), []⟩,
 ⟨(some 124), none, .mv (.t 20), []⟩,
 ⟨(some 125), none, .mv (.t 23), []⟩,
 ⟨(some 126), none, .mv (.t 29), []⟩,
 ⟨(some 127), none, .agg [(.int .i64 0), (.str []), (.str []), (.int .i64 0), (.int .i64 0), (.str []), (.int .i64 0), (.sl 3 [] .nil)] [(0, 1, (.t 119)), (1, 1, (.t 120)), (2, 1, (.t 121)), (3, 1, (.t 122)), (4, 1, (.t 123)), (5, 1, (.t 124)), (6, 1, (.t 125)), (7, 1, (.t 126))], []⟩,
 ⟨(some 128), none, .mv (.t 27), []⟩,
 ⟨none, none, .store 8 (.t 2) (.t 127), []⟩,
 ⟨(some 3), none, .mv (.t 128), []⟩,
 ⟨(some 4), none, .mv (.c (.bool true)), []⟩] [2, 3, 4])
 (.ret))))))))))))⟩
theorem c38 : cmpF Tryz.prog ⟨[(28, 2), (29, 2), (30, 3), (50, 2)], false, false⟩ Tryz.f38 K38 = some A38 := by kernel_rfl
/-- collator/collatorref10.SameEntry -/
def K39 : List (List Nat) := [[2, 3], [2, 3, 5], [4]]
def A39 : AFunc := ⟨2, [.t 4], .seq (.reg [⟨(some 2), none, .box (.t 0), []⟩,
 ⟨(some 3), none, .box (.t 1), []⟩,
 ⟨(some 4), none, .mv (.c (.bool false)), []⟩] [2, 3])
 (.seq (.reg [⟨(some 6), none, .faddr 7 (.t 2), []⟩,
 ⟨(some 7), none, .load false 1 (.t 6), []⟩,
 ⟨(some 8), none, .faddr 7 (.t 3), []⟩,
 ⟨(some 9), none, .load false 1 (.t 8), []⟩,
 ⟨(some 10), none, .call 62 [(.t 7), (.t 9)], []⟩,
 ⟨(some 5), none, .mv (.t 10), []⟩] [2, 3, 5])
 (.seq (.reg [⟨(some 11), none, .mv (.t 5), []⟩,
 ⟨(some 12), none, .mv (.t 11), []⟩,
 ⟨(some 13), some (12, true), .faddr 0 (.t 2), []⟩,
 ⟨(some 14), some (12, true), .load false 1 (.t 13), []⟩,
 ⟨(some 15), some (12, true), .faddr 0 (.t 3), []⟩,
 ⟨(some 16), some (12, true), .load false 1 (.t 15), []⟩,
 ⟨(some 17), some (12, true), .bin .eql (.t 14) (.t 16), []⟩,
 ⟨(some 18), none, .pick (.t 12) (.t 17) (.c (.bool false)), []⟩,
 ⟨(some 19), none, .mv (.t 18), []⟩,
 ⟨(some 20), some (19, true), .faddr 1 (.t 2), []⟩,
 ⟨(some 21), some (19, true), .load false 1 (.t 20), []⟩,
 ⟨(some 22), some (19, true), .faddr 1 (.t 3), []⟩,
 ⟨(some 23), some (19, true), .load false 1 (.t 22), []⟩,
 ⟨(some 24), some (19, true), .bin .eql (.t 21) (.t 23), []⟩,
 ⟨(some 25), none, .pick (.t 19) (.t 24) (.c (.bool false)), []⟩,
 ⟨(some 26), none, .mv (.t 25), []⟩,
 ⟨(some 27), some (26, true), .faddr 2 (.t 2), []⟩,
 ⟨(some 28), some (26, true), .load false 1 (.t 27), []⟩,
 ⟨(some 29), some (26, true), .faddr 2 (.t 3), []⟩,
 ⟨(some 30), some (26, true), .load false 1 (.t 29), []⟩,
 ⟨(some 31), some (26, true), .bin .eql (.t 28) (.t 30), []⟩,
 ⟨(some 32), none, .pick (.t 26) (.t 31) (.c (.bool false)), []⟩,
 ⟨(some 33), none, .mv (.t 32), []⟩,
 ⟨(some 34), some (33, true), .faddr 3 (.t 2), []⟩,
 ⟨(some 35), some (33, true), .load false 1 (.t 34), []⟩,
 ⟨(some 36), some (33, true), .faddr 3 (.t 3), []⟩,
 ⟨(some 37), some (33, true), .load false 1 (.t 36), []⟩,
 ⟨(some 38), some (33, true), .bin .eql (.t 35) (.t 37), []⟩,
 ⟨(some 39), none, .pick (.t 33) (.t 38) (.c (.bool false)), []⟩,
 ⟨(some 40), none, .mv (.t 39), []⟩,
 ⟨(some 41), some (40, true), .faddr 4 (.t 2), []⟩,
 ⟨(some 42), some (40, true), .load false 1 (.t 41), []⟩,
 ⟨(some 43), some (40, true), .faddr 4 (.t 3), []⟩,
 ⟨(some 44), some (40, true), .load false 1 (.t 43), []⟩,
 ⟨(some 45), some (40, true), .bin .eql (.t 42) (.t 44), []⟩,
 ⟨(some 46), none, .pick (.t 40) (.t 45) (.c (.bool false)), []⟩,
 ⟨(some 47), none, .mv (.t 46), []⟩,
 ⟨(some 48), some (47, true), .faddr 5 (.t 2), []⟩,
 ⟨(some 49), some (47, true), .load false 1 (.t 48), []⟩,
 ⟨(some 50), some (47, true), .faddr 5 (.t 3), []⟩,
 ⟨(some 51), some (47, true), .load false 1 (.t 50), []⟩,
 ⟨(some 52), some (47, true), .bin .eql (.t 49) (.t 51), []⟩,
 ⟨(some 53), none, .pick (.t 47) (.t 52) (.c (.bool false)), []⟩,
 ⟨(some 54), none, .mv (.t 53), []⟩,
 ⟨(some 55), some (54, true), .faddr 6 (.t 2), []⟩,
 ⟨(some 56), some (54, true), .load false 1 (.t 55), []⟩,
 ⟨(some 57), some (54, true), .faddr 6 (.t 3), []⟩,
 ⟨(some 58), some (54, true), .load false 1 (.t 57), []⟩,
 ⟨(some 59), some (54, true), .bin .eql (.t 56) (.t 58), []⟩,
 ⟨(some 60), none, .pick (.t 54) (.t 59) (.c (.bool false)), []⟩,
 ⟨(some 4), none, .mv (.t 60), []⟩] [4])
 (.ret)))⟩
theorem c39 : cmpF Tryz.prog ⟨[(28, 2), (29, 2), (30, 3), (50, 2)], false, false⟩ Tryz.f39 K39 = some A39 := by kernel_rfl
/-- collator/collatorlaw02.Tree -/
def K40 : List (List Nat) := [[0], [0, 3], [0, 3, 4], [0, 3, 4, 19], [0, 3, 4, 5], [0, 3, 4, 5], [0, 3, 4, 5, 6], [0, 3, 4, 5, 6, 7], [0, 3, 4, 5, 6, 7, 8], [0, 3, 4, 5, 6, 7, 8, 9], [0, 3, 4, 5, 6, 7, 8, 9, 37], [0, 3, 4, 5, 6, 7, 8, 9], [0, 3, 4, 5, 6, 7, 8, 9, 11], [0, 3, 4, 5, 6, 7, 8, 9, 53], [0, 3, 4, 5, 6, 7, 8, 9], [0, 3, 4, 5, 6, 7, 8, 9], [0, 3, 4, 7], [0, 3, 4, 7, 67], [0, 3, 4], [0, 3, 4], [2]]
def L40x0 : ACode := .seq (.seq (.reg [⟨(some 33), none, .mv (.t 9), []⟩,
 ⟨(some 34), none, .bin .add (.t 33) (.c (.int .i64 1)), []⟩,
 ⟨(some 35), none, .mv (.t 6), []⟩,
 ⟨(some 36), none, .len false (.t 35), []⟩,
 ⟨(some 37), none, .bin .lss (.t 34) (.t 36), []⟩] [0, 3, 4, 5, 6, 7, 8, 9, 37])
 (.cond (.t 37) (.skip)
 (.exit 2)))
 (.seq (.blk 3 (.seq (.reg [⟨(some 40), none, .mv (.t 8), []⟩,
 ⟨(some 41), none, .mv (.t 6), []⟩,
 ⟨(some 42), none, .mv (.t 9), []⟩,
 ⟨(some 43), none, .iaddr 1 (.t 41) (.t 42), []⟩,
 ⟨(some 44), none, .load false 1 (.t 43), []⟩,
 ⟨(some 45), none, .call 65 [(.t 40), (.t 44)], []⟩,
 ⟨(some 8), none, .mv (.t 45), []⟩] [0, 3, 4, 5, 6, 7, 8, 9])
 (.seq (.reg [⟨(some 47), none, .mv (.t 7), []⟩,
 ⟨(some 48), none, .mv (.t 8), []⟩,
 ⟨(some 49), none, .call 66 [(.t 47), (.t 48)], []⟩,
 ⟨(some 46), none, .mv (.t 49), []⟩,
 ⟨(some 50), none, .ext (.t 46) 0, []⟩,
 ⟨(some 51), none, .ext (.t 46) 1, []⟩,
 ⟨(some 10), none, .alloc [(.str []), (.int .i64 0), (.str []), (.bool false)], []⟩,
 ⟨none, none, .store 4 (.t 10) (.t 50), []⟩,
 ⟨(some 11), none, .mv (.t 51), []⟩] [0, 3, 4, 5, 6, 7, 8, 9, 11])
 (.seq (.reg [⟨(some 52), none, .mv (.t 11), []⟩,
 ⟨(some 53), none, .un .not (.t 52), []⟩] [0, 3, 4, 5, 6, 7, 8, 9, 53])
 (.cond (.t 53) (.reg [⟨(some 54), none, .mv (.t 7), []⟩,
 ⟨(some 55), none, .mv (.t 8), []⟩,
 ⟨(some 56), none, .agg [(.str []), (.int .i64 0), (.str []), (.bool false)] [(0, 1, (.t 55)), (1, 1, (.c (.int .i64 1)))], []⟩,
 ⟨(some 57), none, .mks 1 4 true [(.str []), (.int .i64 0), (.str []), (.bool false)] [(0, (.t 56))], []⟩,
 ⟨(some 58), none, .app none 4 48 (.t 54) (.t 57), []⟩,
 ⟨(some 7), none, .mv (.t 58), []⟩] [0, 3, 4, 5, 6, 7, 8, 9])
 (.skip))))))
 (.reg [⟨(some 38), none, .mv (.t 9), []⟩,
 ⟨(some 39), none, .bin .add (.t 38) (.c (.int .i64 1)), []⟩,
 ⟨(some 9), none, .mv (.t 39), []⟩] [0, 3, 4, 5, 6, 7, 8, 9]))
def L40x1 : ACode := .seq (.seq (.reg [⟨(some 12), none, .mv (.t 4), []⟩,
 ⟨(some 13), none, .mv (.t 0), []⟩,
 ⟨(some 14), none, .len false (.t 13), []⟩,
 ⟨(some 15), none, .bin .lss (.t 12) (.t 14), []⟩,
 ⟨(some 16), none, .mv (.t 15), []⟩,
 ⟨(some 17), some (16, true), .mv (.t 4), []⟩,
 ⟨(some 18), some (16, true), .bin .lss (.t 17) (.c (.int .i64 14)), []⟩,
 ⟨(some 19), none, .pick (.t 16) (.t 18) (.c (.bool false)), []⟩] [0, 3, 4, 19])
 (.cond (.t 19) (.skip)
 (.exit 0)))
 (.seq (.blk 1 (.seq (.reg [⟨(some 22), none, .mv (.t 0), []⟩,
 ⟨(some 23), none, .mv (.t 4), []⟩,
 ⟨(some 24), none, .iaddr 4 (.t 22) (.t 23), []⟩,
 ⟨(some 25), none, .load true 4 (.t 24), []⟩,
 ⟨(some 26), none, .call 63 [(.t 25)], []⟩,
 ⟨(some 5), none, .alloc [(.str []), (.int .i64 0), (.str []), (.bool false)], []⟩,
 ⟨none, none, .store 4 (.t 5) (.t 26), []⟩] [0, 3, 4, 5])
 (.seq (.reg [⟨(some 27), none, .faddr 3 (.t 5), []⟩,
 ⟨none, none, .store 1 (.t 27) (.c (.bool false)), []⟩] [0, 3, 4, 5])
 (.seq (.reg [⟨(some 28), none, .faddr 0 (.t 5), []⟩,
 ⟨(some 29), none, .load false 1 (.t 28), []⟩,
 ⟨(some 30), none, .call 64 [(.t 29)], []⟩,
 ⟨(some 6), none, .mv (.t 30), []⟩] [0, 3, 4, 5, 6])
 (.seq (.reg [⟨(some 31), none, .mv (.t 3), []⟩,
 ⟨(some 32), none, .app none 4 48 (.c (.sl 4 [] .nil)) (.t 31), []⟩,
 ⟨(some 7), none, .mv (.t 32), []⟩] [0, 3, 4, 5, 6, 7])
 (.seq (.reg [⟨(some 8), none, .mv (.c (.str [])), []⟩] [0, 3, 4, 5, 6, 7, 8])
 (.seq (.seq (.reg [⟨(some 9), none, .mv (.c (.int .i64 0)), []⟩] [0, 3, 4, 5, 6, 7, 8, 9])
 (.blk 2 (.loop L40x0)))
 (.seq (.reg [⟨(some 59), none, .mv (.t 7), []⟩,
 ⟨(some 60), none, .load true 4 (.t 5), []⟩,
 ⟨(some 61), none, .mks 1 4 true [(.str []), (.int .i64 0), (.str []), (.bool false)] [(0, (.t 60))], []⟩,
 ⟨(some 62), none, .app none 4 48 (.t 59) (.t 61), []⟩,
 ⟨(some 7), none, .mv (.t 62), []⟩] [0, 3, 4, 7])
 (.seq (.reg [⟨(some 63), none, .mv (.t 7), []⟩,
 ⟨(some 64), none, .call 22 [], []⟩,
 ⟨(some 65), none, .call 67 [(.t 63), (.t 64)], []⟩,
 ⟨(some 66), none, .fld false 1 1 (.t 65), []⟩,
 ⟨(some 67), none, .bin .eql (.t 66) (.c (.int .i64 0)), []⟩] [0, 3, 4, 7, 67])
 (.cond (.t 67) (.reg [⟨(some 68), none, .mv (.t 7), []⟩,
 ⟨(some 3), none, .mv (.t 68), []⟩] [0, 3, 4])
 (.skip)))))))))))
 (.reg [⟨(some 20), none, .mv (.t 4), []⟩,
 ⟨(some 21), none, .bin .add (.t 20) (.c (.int .i64 1)), []⟩,
 ⟨(some 4), none, .mv (.t 21), []⟩] [0, 3, 4]))
def A40 : AFunc := ⟨1, [.t 2], .seq (.reg [⟨(some 2), none, .mv (.c (.sl 4 [] .nil)), []⟩] [0])
 (.seq (.reg [⟨(some 3), none, .mv (.c (.sl 4 [] .nil)), []⟩] [0, 3])
 (.seq (.seq (.reg [⟨(some 4), none, .mv (.c (.int .i64 0)), []⟩] [0, 3, 4])
 (.blk 0 (.loop L40x1)))
 (.seq (.reg [⟨(some 69), none, .mv (.t 3), []⟩,
 ⟨(some 2), none, .mv (.t 69), []⟩] [2])
 (.ret))))⟩
theorem c40 : cmpF Tryz.prog ⟨[(28, 2), (29, 2), (30, 3), (50, 2)], false, false⟩ Tryz.f40 K40 = some A40 := by kernel_rfl
/-- collator/collatorlaw10.pick -/
def K41 : List (List Nat) := [[0, 1], [0, 1, 6], [0, 1], [4]]
def A41 : AFunc := ⟨2, [.t 4], .seq (.reg [⟨(some 4), none, .mv (.c (.int .i64 0)), []⟩] [0, 1])
 (.seq (.seq (.reg [⟨(some 5), none, .mv (.t 0), []⟩,
 ⟨(some 6), none, .bin .lss (.t 5) (.c (.int .i64 0)), []⟩] [0, 1, 6])
 (.cond (.t 6) (.reg [⟨(some 7), none, .mv (.t 0), []⟩,
 ⟨(some 8), none, .bin .add (.t 7) (.c (.int .i64 1)), []⟩,
 ⟨(some 9), none, .un .neg (.t 8), []⟩,
 ⟨(some 0), none, .mv (.t 9), []⟩] [0, 1])
 (.skip)))
 (.seq (.reg [⟨(some 10), none, .mv (.t 0), []⟩,
 ⟨(some 11), none, .mv (.t 1), []⟩,
 ⟨(some 12), none, .bin .rem (.t 10) (.t 11), []⟩,
 ⟨(some 4), none, .mv (.t 12), []⟩] [4])
 (.ret)))⟩
theorem c41 : cmpF Tryz.prog ⟨[(28, 2), (29, 2), (30, 3), (50, 2)], false, false⟩ Tryz.f41 K41 = some A41 := by kernel_rfl
/-- collator/collatorref10.Fault -/
def K42 : List (List Nat) := [[0, 1, 5, 6], [1, 5, 6, 7], [6, 7, 8], [6, 7, 8, 17], [6], [6, 7, 8, 29], [6], [6]]
def A42 : AFunc := ⟨3, [.c 6 true 2], .seq (.reg [⟨(some 5), none, .box (.t 2), []⟩,
 ⟨(some 6), none, .alloc [(.str []), (.int .i64 0)], []⟩] [0, 1, 5, 6])
 (.seq (.reg [⟨(some 9), none, .mv (.t 0), []⟩,
 ⟨(some 10), none, .load true 3 (.t 5), []⟩,
 ⟨(some 11), none, .call 67 [(.t 9), (.t 10)], []⟩,
 ⟨(some 7), none, .alloc [(.str []), (.int .i64 0)], []⟩,
 ⟨none, none, .store 2 (.t 7) (.t 11), []⟩] [1, 5, 6, 7])
 (.seq (.reg [⟨(some 12), none, .mv (.t 1), []⟩,
 ⟨(some 13), none, .load true 3 (.t 5), []⟩,
 ⟨(some 14), none, .call 67 [(.t 12), (.t 13)], []⟩,
 ⟨(some 8), none, .alloc [(.str []), (.int .i64 0)], []⟩,
 ⟨none, none, .store 2 (.t 8) (.t 14), []⟩] [6, 7, 8])
 (.seq (.seq (.reg [⟨(some 15), none, .faddr 1 (.t 7), []⟩,
 ⟨(some 16), none, .load false 1 (.t 15), []⟩,
 ⟨(some 17), none, .bin .eql (.t 16) (.c (.int .i64 0)), []⟩] [6, 7, 8, 17])
 (.cond (.t 17) (.seq (.reg [⟨(some 18), none, .load true 2 (.t 8), []⟩,
 ⟨none, none, .store 2 (.t 6) (.t 18), []⟩] [6])
 (.ret))
 (.skip)))
 (.seq (.seq (.reg [⟨(some 19), none, .faddr 1 (.t 8), []⟩,
 ⟨(some 20), none, .load false 1 (.t 19), []⟩,
 ⟨(some 21), none, .bin .eql (.t 20) (.c (.int .i64 0)), []⟩,
 ⟨(some 22), none, .mv (.t 21), []⟩,
 ⟨(some 23), some (22, false), .faddr 0 (.t 7), []⟩,
 ⟨(some 24), some (22, false), .load false 1 (.t 23), []⟩,
 ⟨(some 25), some (22, false), .faddr 0 (.t 8), []⟩,
 ⟨(some 26), some (22, false), .load false 1 (.t 25), []⟩,
 ⟨(some 27), some (22, false), .call 53 [(.t 24), (.t 26)], []⟩,
 ⟨(some 28), some (22, false), .bin .leq (.t 27) (.c (.int .i64 0)), []⟩,
 ⟨(some 29), none, .pick (.t 22) (.c (.bool true)) (.t 28), []⟩] [6, 7, 8, 29])
 (.cond (.t 29) (.seq (.reg [⟨(some 30), none, .load true 2 (.t 7), []⟩,
 ⟨none, none, .store 2 (.t 6) (.t 30), []⟩] [6])
 (.ret))
 (.skip)))
 (.seq (.reg [⟨(some 31), none, .load true 2 (.t 8), []⟩,
 ⟨none, none, .store 2 (.t 6) (.t 31), []⟩] [6])
 (.ret))))))⟩
theorem c42 : cmpF Tryz.prog ⟨[(28, 2), (29, 2), (30, 3), (50, 2)], false, false⟩ Tryz.f42 K42 = some A42 := by kernel_rfl
/-- collator/collatorref08.Pairs -/
def K43 : List (List Nat) := [[0, 1, 2], [7], [7, 8], [7, 8, 9], [7, 8, 9, 10], [7, 8, 9, 10, 19], [7, 8, 9, 10, 11], [7, 8, 9, 10, 44], [7, 8, 9, 10], [7, 8, 9, 10], [7, 8, 9, 47], [6], [7, 8]]
def L43x0 : ACode := .seq (.seq (.reg [⟨(some 16), none, .mv (.t 10), []⟩,
 ⟨(some 17), none, .mv (.t 7), []⟩,
 ⟨(some 18), none, .len false (.t 17), []⟩,
 ⟨(some 19), none, .bin .lss (.t 16) (.t 18), []⟩] [7, 8, 9, 10, 19])
 (.cond (.t 19) (.skip)
 (.exit 2)))
 (.seq (.blk 3 (.seq (.reg [⟨(some 22), none, .mv (.t 8), []⟩,
 ⟨(some 23), none, .mv (.t 7), []⟩,
 ⟨(some 24), none, .mv (.t 10), []⟩,
 ⟨(some 25), none, .iaddr 3 (.t 23) (.t 24), []⟩,
 ⟨(some 26), none, .load true 3 (.t 25), []⟩,
 ⟨(some 27), none, .call 69 [(.t 22), (.t 26)], []⟩,
 ⟨(some 11), none, .mv (.t 27), []⟩] [7, 8, 9, 10, 11])
 (.seq (.regD [⟨(some 28), none, .mv (.t 11), []⟩,
 ⟨(some 29), none, .un .not (.t 28), []⟩,
 ⟨(some 30), none, .mv (.t 29), []⟩,
 ⟨(some 31), some (30, true), .mv (.t 9), []⟩,
 ⟨(some 32), some (30, true), .bin .lss (.t 31) (.c (.int .i64 0)), []⟩,
 ⟨(some 33), some (30, true), .mv (.t 32), []⟩,
 ⟨(some 34), some (33, false), .mv (.t 7), []⟩,
 ⟨(some 35), some (33, false), .mv (.t 10), []⟩,
 ⟨(some 36), some (33, false), .iaddr 3 (.t 34) (.t 35), []⟩,
 ⟨(some 37), some (33, false), .load true 3 (.t 36), []⟩,
 ⟨(some 38), some (33, false), .mv (.t 7), []⟩,
 ⟨(some 39), some (33, false), .mv (.t 9), []⟩,
 ⟨(some 40), some (33, false), .iaddr 3 (.t 38) (.t 39), []⟩,
 ⟨(some 41), some (33, false), .load true 3 (.t 40), []⟩,
 ⟨(some 42), some (33, false), .call 70 [(.t 37), (.t 41)], [9, 13]⟩,
 ⟨(some 43), some (30, true), .pick (.t 33) (.c (.bool true)) (.t 42), [14]⟩,
 ⟨(some 44), none, .pick (.t 30) (.t 43) (.c (.bool false)), [14]⟩] [7, 8, 9, 10, 44])
 (.cond (.t 44) (.reg [⟨(some 45), none, .mv (.t 10), []⟩,
 ⟨(some 9), none, .mv (.t 45), []⟩] [7, 8, 9, 10])
 (.skip)))))
 (.reg [⟨(some 20), none, .mv (.t 10), []⟩,
 ⟨(some 21), none, .bin .add (.t 20) (.c (.int .i64 1)), []⟩,
 ⟨(some 10), none, .mv (.t 21), []⟩] [7, 8, 9, 10]))
def L43x1 : ACode := .blk 1 (.seq (.reg [⟨(some 9), none, .mv (.c (.int .i64 (-1))), []⟩] [7, 8, 9])
 (.seq (.seq (.reg [⟨(some 10), none, .mv (.c (.int .i64 0)), []⟩] [7, 8, 9, 10])
 (.blk 2 (.loop L43x0)))
 (.seq (.seq (.reg [⟨(some 46), none, .mv (.t 9), []⟩,
 ⟨(some 47), none, .bin .lss (.t 46) (.c (.int .i64 0)), []⟩] [7, 8, 9, 47])
 (.cond (.t 47) (.seq (.reg [⟨(some 48), none, .mv (.t 8), []⟩,
 ⟨(some 49), none, .call 71 [(.t 48)], []⟩,
 ⟨(some 6), none, .mv (.t 49), []⟩] [6])
 (.ret))
 (.skip)))
 (.reg [⟨(some 50), none, .mv (.t 8), []⟩,
 ⟨(some 51), none, .mv (.t 7), []⟩,
 ⟨(some 52), none, .mv (.t 9), []⟩,
 ⟨(some 53), none, .iaddr 3 (.t 51) (.t 52), []⟩,
 ⟨(some 54), none, .load true 3 (.t 53), []⟩,
 ⟨(some 55), none, .mks 1 3 true [(.str []), (.str []), (.int .i64 0)] [(0, (.t 54))], []⟩,
 ⟨(some 56), none, .app none 3 40 (.t 50) (.t 55), []⟩,
 ⟨(some 8), none, .mv (.t 56), []⟩] [7, 8]))))
def A43 : AFunc := ⟨3, [.t 6], .seq (.reg [⟨(some 6), none, .mv (.c (.sl 3 [] .nil)), []⟩] [0, 1, 2])
 (.seq (.reg [⟨(some 12), none, .mv (.t 0), []⟩,
 ⟨(some 13), none, .mv (.t 1), []⟩,
 ⟨(some 14), none, .mv (.t 2), []⟩,
 ⟨(some 15), none, .call 68 [(.t 12), (.t 13), (.t 14)], []⟩,
 ⟨(some 7), none, .mv (.t 15), []⟩] [7])
 (.seq (.reg [⟨(some 8), none, .mv (.c (.sl 3 [] .nil)), []⟩] [7, 8])
 (.blk 0 (.loop L43x1))))⟩
theorem c43 : cmpF Tryz.prog ⟨[(28, 2), (29, 2), (30, 3), (50, 2)], false, false⟩ Tryz.f43 K43 = some A43 := by kernel_rfl
/-- collator/collatorref10.alone -/
def K44 : List (List Nat) := [[0, 1], [0, 1, 5], [0, 1, 5, 6], [0, 1, 5, 6, 12], [0, 1, 5, 6, 8], [0, 1, 5, 6, 26], [0, 1, 5, 6], [0, 1, 5, 6], [4]]
def L44x0 : ACode := .seq (.seq (.reg [⟨(some 9), none, .mv (.t 6), []⟩,
 ⟨(some 10), none, .mv (.t 0), []⟩,
 ⟨(some 11), none, .len false (.t 10), []⟩,
 ⟨(some 12), none, .bin .lss (.t 9) (.t 11), []⟩] [0, 1, 5, 6, 12])
 (.cond (.t 12) (.skip)
 (.exit 0)))
 (.seq (.blk 1 (.seq (.reg [⟨(some 16), none, .mv (.t 1), []⟩,
 ⟨(some 17), none, .mv (.t 0), []⟩,
 ⟨(some 18), none, .mv (.t 6), []⟩,
 ⟨(some 19), none, .iaddr 4 (.t 17) (.t 18), []⟩,
 ⟨(some 20), none, .faddr 0 (.t 19), []⟩,
 ⟨(some 21), none, .load false 1 (.t 20), []⟩,
 ⟨(some 22), none, .call 66 [(.t 16), (.t 21)], []⟩,
 ⟨(some 15), none, .mv (.t 22), []⟩,
 ⟨(some 23), none, .ext (.t 15) 0, []⟩,
 ⟨(some 24), none, .ext (.t 15) 1, []⟩,
 ⟨(some 7), none, .alloc [(.str []), (.int .i64 0), (.str []), (.bool false)], []⟩,
 ⟨none, none, .store 4 (.t 7) (.t 23), []⟩,
 ⟨(some 8), none, .mv (.t 24), []⟩] [0, 1, 5, 6, 8])
 (.seq (.reg [⟨(some 25), none, .mv (.t 8), []⟩,
 ⟨(some 26), none, .un .not (.t 25), []⟩] [0, 1, 5, 6, 26])
 (.cond (.t 26) (.reg [⟨(some 27), none, .mv (.t 5), []⟩,
 ⟨(some 28), none, .mv (.t 0), []⟩,
 ⟨(some 29), none, .mv (.t 6), []⟩,
 ⟨(some 30), none, .iaddr 4 (.t 28) (.t 29), []⟩,
 ⟨(some 31), none, .load true 4 (.t 30), []⟩,
 ⟨(some 32), none, .mks 1 4 true [(.str []), (.int .i64 0), (.str []), (.bool false)] [(0, (.t 31))], []⟩,
 ⟨(some 33), none, .app none 4 48 (.t 27) (.t 32), []⟩,
 ⟨(some 5), none, .mv (.t 33), []⟩] [0, 1, 5, 6])
 (.skip)))))
 (.reg [⟨(some 13), none, .mv (.t 6), []⟩,
 ⟨(some 14), none, .bin .add (.t 13) (.c (.int .i64 1)), []⟩,
 ⟨(some 6), none, .mv (.t 14), []⟩] [0, 1, 5, 6]))
def A44 : AFunc := ⟨2, [.t 4], .seq (.reg [⟨(some 4), none, .mv (.c (.sl 4 [] .nil)), []⟩] [0, 1])
 (.seq (.reg [⟨(some 5), none, .mv (.c (.sl 4 [] .nil)), []⟩] [0, 1, 5])
 (.seq (.seq (.reg [⟨(some 6), none, .mv (.c (.int .i64 0)), []⟩] [0, 1, 5, 6])
 (.blk 0 (.loop L44x0)))
 (.seq (.reg [⟨(some 34), none, .mv (.t 5), []⟩,
 ⟨(some 4), none, .mv (.t 34), []⟩] [4])
 (.ret))))⟩
theorem c44 : cmpF Tryz.prog ⟨[(28, 2), (29, 2), (30, 3), (50, 2)], false, false⟩ Tryz.f44 K44 = some A44 := by kernel_rfl
/-- collator/collatorref02.Sort -/
def K45 : List (List Nat) := [[0], [0, 3], [0, 3, 4], [0, 3, 4, 9], [0, 3, 4, 5], [0, 3, 4, 5, 30], [0, 3, 4, 5], [0, 3, 4], [0, 3, 4], [2]]
def L45x0 : ACode := .seq (.seq (.regD [⟨(some 14), none, .mv (.t 5), []⟩,
 ⟨(some 15), none, .bin .gtr (.t 14) (.c (.int .i64 0)), []⟩,
 ⟨(some 16), none, .mv (.t 15), []⟩,
 ⟨(some 17), some (16, true), .mv (.t 0), []⟩,
 ⟨(some 18), some (16, true), .mv (.t 4), []⟩,
 ⟨(some 19), some (16, true), .iaddr 4 (.t 17) (.t 18), []⟩,
 ⟨(some 20), some (16, true), .faddr 0 (.t 19), []⟩,
 ⟨(some 21), some (16, true), .load false 1 (.t 20), []⟩,
 ⟨(some 22), some (16, true), .mv (.t 3), []⟩,
 ⟨(some 23), some (16, true), .mv (.t 5), []⟩,
 ⟨(some 24), some (16, true), .bin .sub (.t 23) (.c (.int .i64 1)), []⟩,
 ⟨(some 25), some (16, true), .iaddr 4 (.t 22) (.t 24), []⟩,
 ⟨(some 26), some (16, true), .faddr 0 (.t 25), []⟩,
 ⟨(some 27), some (16, true), .load false 1 (.t 26), []⟩,
 ⟨(some 28), some (16, true), .call 53 [(.t 21), (.t 27)], [7, 13]⟩,
 ⟨(some 29), some (16, true), .bin .lss (.t 28) (.c (.int .i64 0)), [14]⟩,
 ⟨(some 30), none, .pick (.t 16) (.t 29) (.c (.bool false)), [14]⟩] [0, 3, 4, 5, 30])
 (.cond (.t 30) (.skip)
 (.exit 2)))
 (.blk 3 (.reg [⟨(some 31), none, .mv (.t 5), []⟩,
 ⟨(some 32), none, .bin .sub (.t 31) (.c (.int .i64 1)), []⟩,
 ⟨(some 5), none, .mv (.t 32), []⟩] [0, 3, 4, 5]))
def L45x1 : ACode := .seq (.seq (.reg [⟨(some 6), none, .mv (.t 4), []⟩,
 ⟨(some 7), none, .mv (.t 0), []⟩,
 ⟨(some 8), none, .len false (.t 7), []⟩,
 ⟨(some 9), none, .bin .lss (.t 6) (.t 8), []⟩] [0, 3, 4, 9])
 (.cond (.t 9) (.skip)
 (.exit 0)))
 (.seq (.blk 1 (.seq (.reg [⟨(some 12), none, .mv (.t 3), []⟩,
 ⟨(some 13), none, .len false (.t 12), []⟩,
 ⟨(some 5), none, .mv (.t 13), []⟩] [0, 3, 4, 5])
 (.seq (.blk 2 (.loop L45x0))
 (.regD [⟨(some 33), none, .mv (.t 3), []⟩,
 ⟨(some 34), none, .mv (.t 5), []⟩,
 ⟨(some 35), none, .slice (some 4) (.t 33) none (some (.t 34)) none, []⟩,
 ⟨(some 36), none, .app none 4 48 (.c (.sl 4 [] .nil)) (.t 35), []⟩,
 ⟨(some 37), none, .mv (.t 0), []⟩,
 ⟨(some 38), none, .mv (.t 4), []⟩,
 ⟨(some 39), none, .iaddr 4 (.t 37) (.t 38), []⟩,
 ⟨(some 40), none, .load true 4 (.t 39), []⟩,
 ⟨(some 41), none, .mks 1 4 true [(.str []), (.int .i64 0), (.str []), (.bool false)] [(0, (.t 40))], []⟩,
 ⟨(some 42), none, .app none 4 48 (.t 36) (.t 41), [3, 7]⟩,
 ⟨(some 43), none, .mv (.t 3), []⟩,
 ⟨(some 44), none, .mv (.t 5), []⟩,
 ⟨(some 45), none, .slice (some 4) (.t 43) (some (.t 44)) none none, []⟩,
 ⟨(some 46), none, .app none 4 48 (.t 42) (.t 45), [9, 3, 7]⟩,
 ⟨(some 3), none, .mv (.t 46), []⟩] [0, 3, 4]))))
 (.reg [⟨(some 10), none, .mv (.t 4), []⟩,
 ⟨(some 11), none, .bin .add (.t 10) (.c (.int .i64 1)), []⟩,
 ⟨(some 4), none, .mv (.t 11), []⟩] [0, 3, 4]))
def A45 : AFunc := ⟨1, [.t 2], .seq (.reg [⟨(some 2), none, .mv (.c (.sl 4 [] .nil)), []⟩] [0])
 (.seq (.reg [⟨(some 3), none, .mv (.c (.sl 4 [] .nil)), []⟩] [0, 3])
 (.seq (.seq (.reg [⟨(some 4), none, .mv (.c (.int .i64 0)), []⟩] [0, 3, 4])
 (.blk 0 (.loop L45x1)))
 (.seq (.reg [⟨(some 47), none, .mv (.t 3), []⟩,
 ⟨(some 2), none, .mv (.t 47), []⟩] [2])
 (.ret))))⟩
theorem c45 : cmpF Tryz.prog ⟨[(28, 2), (29, 2), (30, 3), (50, 2)], false, false⟩ Tryz.f45 K45 = some A45 := by kernel_rfl
end Go.Proofs.YtdjgdipmjbkilaaGreatDoor.Rx
