/-
  Rx: the plain program (written by gen/tab.py): its functions, and that each is what the program's own is told as.
-/
import Derived.Test.YtpkeiffclipjmaaGreatDoorRxK
import Derived.Test.YtpkeiffclipjmaaGreatDoorProg
import Derived.KernelRfl
namespace Go.Proofs.YtpkeiffclipjmaaGreatDoor.Rx
open Go
/-- collator/paths.Check -/
def K47 : List (List Nat) := [[0], [3], [3, 8, 9, 10], [3, 8, 9, 10, 11], [3, 5, 8, 9, 10], [3, 8, 9, 10, 15], [2], [3, 8, 9, 10], [19], [2], [2]]
def L47x0 : ACode := .seq (.reg [Oo 11 (.bin .lss (.t 10) (.t 9))] [3, 8, 9, 10, 11])
 (.seq (.cond (.t 11) (.skip)
 (.exit 0))
 (.seq (.blk 1 (.seq (.reg [Oo 12 (.iaddr 1 (.t 8) (.t 10)),
 Oo 13 (.load false 1 (.t 12)),
 Mo 5 13] [3, 5, 8, 9, 10])
 (.seq (.reg [Mo 14 5,
 Oo 15 (.call 63 [(.t 14)])] [3, 8, 9, 10, 15])
 (.cond (.t 15) (.seq (.reg [Oo 2 (.mv (.c (.int .i64 2)))] [2])
 (.ret))
 (.skip)))))
 (.reg [Oo 16 (.bin .add (.t 10) (.c (.int .i64 1))),
 Mo 10 16] [3, 8, 9, 10])))
def A47 : AFunc := ⟨1, [.t 2], .seq (.reg [Oo 2 (.mv (.c (.int .i64 0)))] [0])
 (.seq (.reg [Mo 6 0,
 Oo 7 (.call 62 [(.t 6), (.c (.str [47]))]),
 Mo 3 7] [3])
 (.seq (.seq (.reg [Mo 8 3,
 Oo 9 (.len false (.t 8)),
 Oo 10 (.mv (.c (.int .i64 0)))] [3, 8, 9, 10])
 (.blk 0 (.loop L47x0)))
 (.seq (.seq (.reg [Mo 17 3,
 Oo 18 (.len false (.t 17)),
 Oo 19 (.bin .gtr (.t 18) (.c (.int .i64 16)))] [19])
 (.cond (.t 19) (.seq (.reg [Oo 2 (.mv (.c (.int .i64 3)))] [2])
 (.ret))
 (.skip)))
 (.seq (.reg [Oo 2 (.mv (.c (.int .i64 0)))] [2])
 (.ret)))))⟩
theorem c47 : cmpF Tryz.prog ⟨[(59, 4), (81, 4), (82, 4), (101, 4), (113, 4)], false, false⟩ Tryz.f47 K47 = some A47 := by kernel_rfl
/-- collator/paths.Dir -/
def K48 : List (List Nat) := [[0], [0, 3, 4], [0, 3, 15], [2], [2]]
def A48 : AFunc := ⟨1, [.t 2], .seq (.reg [Oo 2 (.mv (.c (.str [])))] [0])
 (.seq (.reg [Mo 6 0,
 Oo 7 (.call 64 [(.t 6)]),
 Mo 5 7,
 Oo 8 (.ext (.t 5) 0),
 Oo 9 (.ext (.t 5) 1),
 Mo 3 8,
 Mo 4 9] [0, 3, 4])
 (.seq (.seq (.reg [Mo 10 4,
 Oo 11 (.un .not (.t 10)),
 Mo 12 11,
 ⟨(some 13), some (12, false), .mv (.t 3), []⟩,
 ⟨(some 14), some (12, false), .bin .lss (.t 13) (.c (.int .i64 0)), []⟩,
 Oo 15 (.pick (.t 12) (.c (.bool true)) (.t 14))] [0, 3, 15])
 (.cond (.t 15) (.seq (.reg [Oo 2 (.mv (.c (.str [])))] [2])
 (.ret))
 (.skip)))
 (.seq (.reg [Mo 16 0,
 Mo 17 3,
 Oo 18 (.slice none (.t 16) none (some (.t 17)) none),
 Mo 2 18] [2])
 (.ret))))⟩
theorem c48 : cmpF Tryz.prog ⟨[(59, 4), (81, 4), (82, 4), (101, 4), (113, 4)], false, false⟩ Tryz.f48 K48 = some A48 := by kernel_rfl
/-- collator/paths.Compare -/
def K53 : List (List Nat) := [[0, 1], [0, 1, 11, 12], [0, 1, 11, 12, 13], [0, 1, 5, 11, 12], [0, 1, 6, 11, 12], [0, 1, 6, 11, 12, 23], [4], [0, 1, 11, 12], [4]]
def L53x0 : ACode := .seq (.reg [Oo 13 (.bin .lss (.t 12) (.t 11))] [0, 1, 11, 12, 13])
 (.seq (.cond (.t 13) (.skip)
 (.exit 0))
 (.seq (.blk 1 (.seq (.reg [Mo 14 12,
 Mo 5 14] [0, 1, 5, 11, 12])
 (.seq (.reg [Mo 15 0,
 Mo 16 5,
 Oo 17 (.call 73 [(.t 15), (.t 16)]),
 Mo 18 1,
 Mo 19 5,
 Oo 20 (.call 73 [(.t 18), (.t 19)]),
 Oo 21 (.call 72 [(.t 17), (.t 20)]),
 Mo 6 21] [0, 1, 6, 11, 12])
 (.seq (.reg [Mo 22 6,
 Oo 23 (.bin .neq (.t 22) (.c (.int .i64 0)))] [0, 1, 6, 11, 12, 23])
 (.cond (.t 23) (.seq (.reg [Mo 24 6,
 Mo 4 24] [4])
 (.ret))
 (.skip))))))
 (.reg [Oo 25 (.bin .add (.t 12) (.c (.int .i64 1))),
 Mo 12 25] [0, 1, 11, 12])))
def A53 : AFunc := ⟨2, [.t 4], .seq (.reg [Oo 4 (.mv (.c (.int .i64 0)))] [0, 1])
 (.seq (.seq (.reg [Mo 7 0,
 Oo 8 (.len true (.t 7)),
 Mo 9 1,
 Oo 10 (.len true (.t 9)),
 Oo 11 (.max [(.t 8), (.t 10)]),
 Oo 12 (.mv (.c (.int .i64 0)))] [0, 1, 11, 12])
 (.blk 0 (.loop L53x0)))
 (.seq (.reg [Oo 4 (.mv (.c (.int .i64 0)))] [4])
 (.ret)))⟩
theorem c53 : cmpF Tryz.prog ⟨[(59, 4), (81, 4), (82, 4), (101, 4), (113, 4)], false, false⟩ Tryz.f53 K53 = some A53 := by kernel_rfl
/-- collator/paths.odd -/
def K63 : List (List Nat) := [[0], [0, 3], [0, 3, 4], [0, 3, 6], [0, 8], [2], [2]]
def A63 : AFunc := ⟨1, [.t 2], .seq (.reg [Oo 2 (.mv (.c (.bool false)))] [0])
 (.seq (.seq (.reg [Mo 3 0] [0, 3])
 (.blk 0 (.seq (.blk 3 (.blk 2 (.blk 1 (.seq (.seq (.seq (.reg [Oo 5 (.bin .eql (.t 3) (.c (.str []))),
 Mo 4 5] [0, 3, 4])
 (.cond (.t 4) (.exit 1)
 (.skip)))
 (.seq (.seq (.reg [Oo 7 (.bin .eql (.t 3) (.c (.str [46]))),
 Mo 6 7] [0, 3, 6])
 (.cond (.t 6) (.exit 2)
 (.skip)))
 (.seq (.reg [Oo 9 (.bin .eql (.t 3) (.c (.str [46, 46]))),
 Mo 8 9] [0, 8])
 (.cond (.t 8) (.exit 3)
 (.skip)))))
 (.exit 0)))))
 (.seq (.seq (.reg [Oo 2 (.mv (.c (.bool true)))] [2])
 (.ret))
 (.exit 0)))))
 (.seq (.reg [Mo 10 0,
 Oo 11 (.len true (.t 10)),
 Oo 12 (.bin .gtr (.t 11) (.c (.int .i64 64))),
 Mo 13 12,
 ⟨(some 14), some (13, false), .mv (.t 0), []⟩,
 ⟨(some 15), some (13, false), .call 84 [(.t 14), (.c (.int .u8 0))], []⟩,
 ⟨(some 16), some (13, false), .bin .geq (.t 15) (.c (.int .i64 0)), []⟩,
 Oo 17 (.pick (.t 13) (.c (.bool true)) (.t 16)),
 Mo 2 17] [2])
 (.ret)))⟩
theorem c63 : cmpF Tryz.prog ⟨[(59, 4), (81, 4), (82, 4), (101, 4), (113, 4)], false, false⟩ Tryz.f63 K63 = some A63 := by kernel_rfl
/-- collator/paths.cut -/
def K64 : List (List Nat) := [[0], [2, 3]]
def A64 : AFunc := ⟨1, [.t 2, .t 3], .seq (.reg [Oo 2 (.mv (.c (.int .i64 0))),
 Oo 3 (.mv (.c (.bool false)))] [0])
 (.seq (.reg [Mo 4 0,
 Oo 5 (.call 85 [(.t 4), (.c (.str [47]))]),
 Mo 6 0,
 Oo 7 (.call 47 [(.t 6)]),
 Oo 8 (.bin .eql (.t 7) (.c (.int .i64 0))),
 Mo 2 5,
 Mo 3 8] [2, 3])
 (.ret))⟩
theorem c64 : cmpF Tryz.prog ⟨[(59, 4), (81, 4), (82, 4), (101, 4), (113, 4)], false, false⟩ Tryz.f64 K64 = some A64 := by kernel_rfl
/-- cmp.Compare[int] -/
def K72 : List (List Nat) := [[0, 1], [0, 1, 5], [0, 1, 5, 6], [0, 1, 6, 11], [12], [4], [4], [0, 1, 13], [4], [0, 1, 16], [4], [19], [4], [4]]
def A72 : AFunc := ⟨2, [.t 4], .seq (.reg [Oo 4 (.mv (.c (.int .i64 0)))] [0, 1])
 (.seq (.reg [Mo 7 0,
 Oo 8 (.call 98 [(.t 7)]),
 Mo 5 8] [0, 1, 5])
 (.seq (.reg [Mo 9 1,
 Oo 10 (.call 98 [(.t 9)]),
 Mo 6 10] [0, 1, 5, 6])
 (.seq (.seq (.reg [Mo 11 5] [0, 1, 6, 11])
 (.cond (.t 11) (.seq (.seq (.reg [Mo 12 6] [12])
 (.cond (.t 12) (.seq (.reg [Oo 4 (.mv (.c (.int .i64 0)))] [4])
 (.ret))
 (.skip)))
 (.seq (.reg [Oo 4 (.mv (.c (.int .i64 (-1))))] [4])
 (.ret)))
 (.skip)))
 (.seq (.seq (.reg [Mo 13 6] [0, 1, 13])
 (.cond (.t 13) (.seq (.reg [Oo 4 (.mv (.c (.int .i64 1)))] [4])
 (.ret))
 (.skip)))
 (.seq (.seq (.reg [Mo 14 0,
 Mo 15 1,
 Oo 16 (.bin .lss (.t 14) (.t 15))] [0, 1, 16])
 (.cond (.t 16) (.seq (.reg [Oo 4 (.mv (.c (.int .i64 (-1))))] [4])
 (.ret))
 (.skip)))
 (.seq (.seq (.reg [Mo 17 0,
 Mo 18 1,
 Oo 19 (.bin .gtr (.t 17) (.t 18))] [19])
 (.cond (.t 19) (.seq (.reg [Oo 4 (.mv (.c (.int .i64 1)))] [4])
 (.ret))
 (.skip)))
 (.seq (.reg [Oo 4 (.mv (.c (.int .i64 0)))] [4])
 (.ret))))))))⟩
theorem c72 : cmpF Tryz.prog ⟨[(59, 4), (81, 4), (82, 4), (101, 4), (113, 4)], false, false⟩ Tryz.f72 K72 = some A72 := by kernel_rfl
/-- collator/paths.rank -/
def K73 : List (List Nat) := [[0, 1], [0, 1, 5], [4], [0, 1, 10], [4], [4]]
def A73 : AFunc := ⟨2, [.t 4], .seq (.reg [Oo 4 (.mv (.c (.int .i64 0)))] [0, 1])
 (.seq (.blk 0 (.seq (.reg [Mo 6 1,
 Mo 7 0,
 Oo 8 (.len true (.t 7)),
 Oo 9 (.bin .geq (.t 6) (.t 8)),
 Mo 5 9] [0, 1, 5])
 (.cond (.t 5) (.seq (.reg [Oo 4 (.mv (.c (.int .i64 0)))] [4])
 (.ret))
 (.seq (.regD [Mo 11 0,
 Mo 12 1,
 Oo 13 (.sidx (.t 11) (.t 12)),
 Oo 14 (.sidx (.c (.str [47])) (.c (.int .i64 0))),
 Oo 15 (.bin .eql (.t 13) (.t 14)),
 Mo 10 15] [0, 1, 10])
 (.cond (.t 10) (.seq (.reg [Oo 4 (.mv (.c (.int .i64 1)))] [4])
 (.ret))
 (.skip))))))
 (.seq (.reg [Mo 16 0,
 Mo 17 1,
 Oo 18 (.sidx (.t 16) (.t 17)),
 Oo 19 (.conv (.toInt .i64) (.t 18)),
 Oo 20 (.bin .add (.c (.int .i64 2)) (.t 19)),
 Mo 4 20] [4])
 (.ret)))⟩
theorem c73 : cmpF Tryz.prog ⟨[(59, 4), (81, 4), (82, 4), (101, 4), (113, 4)], false, false⟩ Tryz.f73 K73 = some A73 := by kernel_rfl
/-- cmp.isNaN[int] -/
def K98 : List (List Nat) := [[0], [2]]
def A98 : AFunc := ⟨1, [.t 2], .seq (.reg [Oo 2 (.mv (.c (.bool false)))] [0])
 (.seq (.reg [Mo 3 0,
 Mo 4 0,
 Oo 5 (.bin .neq (.t 3) (.t 4)),
 Mo 2 5] [2])
 (.ret))⟩
theorem c98 : cmpF Tryz.prog ⟨[(59, 4), (81, 4), (82, 4), (101, 4), (113, 4)], false, false⟩ Tryz.f98 K98 = some A98 := by kernel_rfl
/-- collator/paths.Parts -/
def K99 : List (List Nat) := [[0], [0, 5], [2], [2]]
def A99 : AFunc := ⟨1, [.t 2], .seq (.reg [Oo 2 (.mv (.c (.sl 1 [] .nil)))] [0])
 (.seq (.seq (.reg [Mo 3 0,
 Oo 4 (.call 47 [(.t 3)]),
 Oo 5 (.bin .neq (.t 4) (.c (.int .i64 0)))] [0, 5])
 (.cond (.t 5) (.seq (.reg [Oo 2 (.mv (.c (.sl 1 [] .nil)))] [2])
 (.ret))
 (.skip)))
 (.seq (.reg [Mo 6 0,
 Oo 7 (.call 62 [(.t 6), (.c (.str [47]))]),
 Mo 2 7] [2])
 (.ret)))⟩
theorem c99 : cmpF Tryz.prog ⟨[(59, 4), (81, 4), (82, 4), (101, 4), (113, 4)], false, false⟩ Tryz.f99 K99 = some A99 := by kernel_rfl
/-- (collator/trees.order).compare -/
def K37 : List (List Nat) := [[4, 5], [6]]
def A37 : AFunc := ⟨3, [.t 6], .seq (.reg [Oo 3 (.box (.t 0)),
 Oo 4 (.box (.t 1)),
 Oo 5 (.box (.t 2)),
 Oo 6 (.mv (.c (.int .i64 0)))] [4, 5])
 (.seq (.reg [Oo 7 (.faddr 0 (.t 4)),
 Oo 8 (.load false 1 (.t 7)),
 Oo 9 (.faddr 0 (.t 5)),
 Oo 10 (.load false 1 (.t 9)),
 Oo 11 (.call 53 [(.t 8), (.t 10)]),
 Mo 6 11] [6])
 (.ret))⟩
theorem c37 : cmpF Tryz.prog ⟨[(59, 4), (81, 4), (82, 4), (101, 4), (113, 4)], false, false⟩ Tryz.f37 K37 = some A37 := by kernel_rfl
/-- slices.SortStableFunc[[]collator/api.Item,collator/api.Item] -/
def K38 : List (List Nat) := [[]]
def A38 : AFunc := ⟨2, [], .reg [Mo 4 0,
 Mo 5 0,
 Oo 6 (.len false (.t 5)),
 Mo 7 1,
 Oo 8 (.callr 59 [(.t 4), (.t 6), (.t 7)])] []⟩
theorem c38 : cmpF Tryz.prog ⟨[(59, 4), (81, 4), (82, 4), (101, 4), (113, 4)], false, false⟩ Tryz.f38 K38 = some A38 := by kernel_rfl
/-- slices.stableCmpFunc[collator/api.Item] -/
def K59 : List (List Nat) := [[0, 1, 2, 6], [0, 1, 2, 6, 7, 8], [0, 1, 2, 6, 7, 8, 13], [0, 1, 2, 6, 8], [0, 1, 2, 6, 7, 8], [0, 1, 2, 6, 7, 8], [0, 1, 2, 6], [0, 1, 2, 6, 30], [0, 1, 2, 6, 7, 8], [0, 1, 2, 6, 7, 8, 35], [0, 1, 2, 6, 8], [0, 1, 2, 6, 7, 8], [0, 1, 2, 6, 7, 8], [0, 1, 2, 6, 7, 9], [0, 1, 2, 6, 7, 9, 54], [0, 1, 2, 6], [0, 1, 2, 6]]
def L59x0 : ACode := .seq (.seq (.reg [Mo 11 8,
 Mo 12 1,
 Oo 13 (.bin .leq (.t 11) (.t 12))] [0, 1, 2, 6, 7, 8, 13])
 (.cond (.t 13) (.skip)
 (.exit 0)))
 (.blk 1 (.seq (.reg [Mo 14 0,
 Mo 15 7,
 Mo 16 8,
 Mo 17 2,
 Oo 18 (.callr 81 [(.t 14), (.t 15), (.t 16), (.t 17)])] [0, 1, 2, 6, 8])
 (.seq (.reg [Mo 19 8,
 Mo 7 19] [0, 1, 2, 6, 7, 8])
 (.reg [Mo 20 8,
 Mo 21 6,
 Oo 22 (.bin .add (.t 20) (.t 21)),
 Mo 8 22] [0, 1, 2, 6, 7, 8]))))
def L59x1 : ACode := .seq (.seq (.reg [Mo 33 8,
 Mo 34 1,
 Oo 35 (.bin .leq (.t 33) (.t 34))] [0, 1, 2, 6, 7, 8, 35])
 (.cond (.t 35) (.skip)
 (.exit 4)))
 (.blk 5 (.seq (.reg [Mo 36 0,
 Mo 37 7,
 Mo 38 7,
 Mo 39 6,
 Oo 40 (.bin .add (.t 38) (.t 39)),
 Mo 41 8,
 Mo 42 2,
 Oo 43 (.callr 82 [(.t 36), (.t 37), (.t 40), (.t 41), (.t 42)])] [0, 1, 2, 6, 8])
 (.seq (.reg [Mo 44 8,
 Mo 7 44] [0, 1, 2, 6, 7, 8])
 (.reg [Mo 45 8,
 Mo 46 6,
 Oo 47 (.bin .mul (.c (.int .i64 2)) (.t 46)),
 Oo 48 (.bin .add (.t 45) (.t 47)),
 Mo 8 48] [0, 1, 2, 6, 7, 8]))))
def L59x2 : ACode := .seq (.seq (.reg [Mo 28 6,
 Mo 29 1,
 Oo 30 (.bin .lss (.t 28) (.t 29))] [0, 1, 2, 6, 30])
 (.cond (.t 30) (.skip)
 (.exit 2)))
 (.blk 3 (.seq (.reg [Mo 31 6,
 Oo 32 (.bin .mul (.c (.int .i64 2)) (.t 31)),
 Oo 7 (.mv (.c (.int .i64 0))),
 Mo 8 32] [0, 1, 2, 6, 7, 8])
 (.seq (.blk 4 (.loop L59x1))
 (.seq (.seq (.reg [Mo 49 7,
 Mo 50 6,
 Oo 51 (.bin .add (.t 49) (.t 50)),
 Mo 9 51] [0, 1, 2, 6, 7, 9])
 (.seq (.reg [Mo 52 9,
 Mo 53 1,
 Oo 54 (.bin .lss (.t 52) (.t 53))] [0, 1, 2, 6, 7, 9, 54])
 (.cond (.t 54) (.reg [Mo 55 0,
 Mo 56 7,
 Mo 57 9,
 Mo 58 1,
 Mo 59 2,
 Oo 60 (.callr 82 [(.t 55), (.t 56), (.t 57), (.t 58), (.t 59)])] [0, 1, 2, 6])
 (.skip))))
 (.reg [Mo 61 6,
 Oo 62 (.bin .mul (.t 61) (.c (.int .i64 2))),
 Mo 6 62] [0, 1, 2, 6])))))
def A59 : AFunc := ⟨3, [], .seq (.reg [Oo 6 (.mv (.c (.int .i64 20)))] [0, 1, 2, 6])
 (.seq (.reg [Mo 10 6,
 Oo 7 (.mv (.c (.int .i64 0))),
 Mo 8 10] [0, 1, 2, 6, 7, 8])
 (.seq (.blk 0 (.loop L59x0))
 (.seq (.reg [Mo 23 0,
 Mo 24 7,
 Mo 25 1,
 Mo 26 2,
 Oo 27 (.callr 81 [(.t 23), (.t 24), (.t 25), (.t 26)])] [0, 1, 2, 6])
 (.blk 2 (.loop L59x2)))))⟩
theorem c59 : cmpF Tryz.prog ⟨[(59, 4), (81, 4), (82, 4), (101, 4), (113, 4)], false, false⟩ Tryz.f59 K59 = some A59 := by kernel_rfl
/-- slices.insertionSortCmpFunc[collator/api.Item] -/
def K81 : List (List Nat) := [[0, 1, 2, 3, 8], [0, 1, 2, 3, 8, 14], [0, 1, 2, 3, 8, 9], [0, 1, 2, 3, 8, 9, 34], [0, 1, 2, 3, 8, 9], [0, 1, 2, 3, 8, 9], [0, 1, 2, 3, 8]]
def L81x0 : ACode := .seq (.seq (.regD [Mo 18 9,
 Mo 19 1,
 Oo 20 (.bin .gtr (.t 18) (.t 19)),
 Mo 21 20,
 ⟨(some 22), some (21, true), .mv (.t 3), []⟩,
 ⟨(some 23), some (21, true), .mv (.t 0), []⟩,
 ⟨(some 24), some (21, true), .mv (.t 9), []⟩,
 ⟨(some 25), some (21, true), .iaddr 4 (.t 23) (.t 24), []⟩,
 ⟨(some 26), some (21, true), .load true 4 (.t 25), []⟩,
 ⟨(some 27), some (21, true), .mv (.t 0), []⟩,
 ⟨(some 28), some (21, true), .mv (.t 9), []⟩,
 ⟨(some 29), some (21, true), .bin .sub (.t 28) (.c (.int .i64 1)), []⟩,
 ⟨(some 30), some (21, true), .iaddr 4 (.t 27) (.t 29), []⟩,
 ⟨(some 31), some (21, true), .load true 4 (.t 30), []⟩,
 ⟨(some 32), some (21, true), .callv (.t 22) [(.t 26), (.t 31)], [8, 13]⟩,
 ⟨(some 33), some (21, true), .bin .lss (.t 32) (.c (.int .i64 0)), [14]⟩,
 ⟨(some 34), none, .pick (.t 21) (.t 33) (.c (.bool false)), [14]⟩] [0, 1, 2, 3, 8, 9, 34])
 (.cond (.t 34) (.skip)
 (.exit 2)))
 (.seq (.blk 3 (.regD [Mo 37 0,
 Mo 38 9,
 Mo 39 0,
 Mo 40 9,
 Oo 41 (.bin .sub (.t 40) (.c (.int .i64 1))),
 Mo 42 0,
 Mo 43 9,
 Oo 44 (.bin .sub (.t 43) (.c (.int .i64 1))),
 Oo 45 (.iaddr 4 (.t 42) (.t 44)),
 Oo 46 (.load true 4 (.t 45)),
 Mo 47 0,
 Mo 48 9,
 Oo 49 (.iaddr 4 (.t 47) (.t 48)),
 Oo 50 (.load true 4 (.t 49)),
 Oo 51 (.iaddr 4 (.t 37) (.t 38)),
 ⟨none, none, .store 4 (.t 51) (.t 46), [9, 13]⟩,
 Oo 52 (.iaddr 4 (.t 39) (.t 41)),
 ⟨none, none, .store 4 (.t 52) (.t 50), [13, 15, 9]⟩] [0, 1, 2, 3, 8, 9]))
 (.reg [Mo 35 9,
 Oo 36 (.bin .sub (.t 35) (.c (.int .i64 1))),
 Mo 9 36] [0, 1, 2, 3, 8, 9]))
def L81x1 : ACode := .seq (.seq (.reg [Mo 12 8,
 Mo 13 2,
 Oo 14 (.bin .lss (.t 12) (.t 13))] [0, 1, 2, 3, 8, 14])
 (.cond (.t 14) (.skip)
 (.exit 0)))
 (.seq (.blk 1 (.seq (.reg [Mo 17 8,
 Mo 9 17] [0, 1, 2, 3, 8, 9])
 (.blk 2 (.loop L81x0))))
 (.reg [Mo 15 8,
 Oo 16 (.bin .add (.t 15) (.c (.int .i64 1))),
 Mo 8 16] [0, 1, 2, 3, 8]))
def A81 : AFunc := ⟨4, [], .seq (.reg [Mo 10 1,
 Oo 11 (.bin .add (.t 10) (.c (.int .i64 1))),
 Mo 8 11] [0, 1, 2, 3, 8])
 (.blk 0 (.loop L81x1))⟩
theorem c81 : cmpF Tryz.prog ⟨[(59, 4), (81, 4), (82, 4), (101, 4), (113, 4)], false, false⟩ Tryz.f81 K81 = some A81 := by kernel_rfl
/-- slices.symMergeCmpFunc[collator/api.Item] -/
def K82 : List (List Nat) := [[0, 1, 2, 3, 4, 28], [0, 1, 3, 4, 10], [0, 1, 4, 10, 11], [0, 1, 4, 10, 11, 33], [0, 1, 4, 10, 11, 12], [0, 1, 4, 10, 11, 12, 50], [0, 1, 4, 10, 11], [0, 1, 4, 10, 11], [0, 10, 13], [0, 10, 13, 58], [0, 10, 13], [0, 10, 13], [0, 1, 2, 3, 4, 80], [0, 2, 4, 14], [0, 2, 4, 14, 15], [0, 2, 4, 14, 15, 85], [0, 2, 4, 14, 15, 16], [0, 2, 4, 14, 15, 16, 103], [0, 2, 4, 14, 15], [0, 2, 4, 14, 15], [0, 14, 17], [0, 14, 17, 110], [0, 14, 17], [0, 14, 17], [0, 1, 2, 3, 4, 18], [0, 1, 2, 3, 4, 18, 19], [0, 1, 2, 3, 4, 18, 19], [0, 1, 2, 3, 4, 18, 19, 140], [0, 1, 2, 3, 4, 18, 19, 20], [0, 1, 2, 3, 4, 18, 19, 20, 21], [0, 1, 2, 3, 4, 18, 19, 20], [0, 1, 2, 3, 4, 18, 19, 20, 21], [0, 1, 2, 3, 4, 18, 19, 20, 21, 22], [0, 1, 2, 3, 4, 18, 19, 20, 21, 22, 151], [0, 1, 2, 3, 4, 18, 19, 20, 21, 22, 23], [0, 1, 2, 3, 4, 18, 19, 20, 21, 22, 23, 171], [0, 1, 2, 3, 4, 18, 19, 20, 21, 22], [0, 1, 2, 3, 4, 18, 19, 20, 21, 22], [0, 1, 2, 3, 4, 18, 20, 24], [0, 1, 2, 3, 4, 18, 20, 24, 185], [0, 1, 3, 4, 18, 20, 24], [0, 1, 3, 4, 18, 20, 24, 199], [0, 3, 4, 18, 24], [0, 3, 4, 18, 24, 213], []]
def L82x0 : ACode := .seq (.seq (.reg [Mo 31 10,
 Mo 32 11,
 Oo 33 (.bin .lss (.t 31) (.t 32))] [0, 1, 4, 10, 11, 33])
 (.cond (.t 33) (.skip)
 (.exit 0)))
 (.blk 1 (.seq (.reg [Mo 34 10,
 Mo 35 11,
 Oo 36 (.bin .add (.t 34) (.t 35)),
 Oo 37 (.conv (.toInt .u64) (.t 36)),
 Oo 38 (.half (.t 37)),
 Oo 39 (.conv (.toInt .i64) (.t 38)),
 Mo 12 39] [0, 1, 4, 10, 11, 12])
 (.seq (.regD [Mo 40 4,
 Mo 41 0,
 Mo 42 12,
 Oo 43 (.iaddr 4 (.t 41) (.t 42)),
 Oo 44 (.load true 4 (.t 43)),
 Mo 45 0,
 Mo 46 1,
 Oo 47 (.iaddr 4 (.t 45) (.t 46)),
 Oo 48 (.load true 4 (.t 47)),
 ⟨(some 49), none, .callv (.t 40) [(.t 44), (.t 48)], [4, 8]⟩,
 ⟨(some 50), none, .bin .lss (.t 49) (.c (.int .i64 0)), [9]⟩] [0, 1, 4, 10, 11, 12, 50])
 (.cond (.t 50) (.reg [Mo 51 12,
 Oo 52 (.bin .add (.t 51) (.c (.int .i64 1))),
 Mo 10 52] [0, 1, 4, 10, 11])
 (.reg [Mo 53 12,
 Mo 11 53] [0, 1, 4, 10, 11])))))
def L82x1 : ACode := .seq (.seq (.reg [Mo 55 13,
 Mo 56 10,
 Oo 57 (.bin .sub (.t 56) (.c (.int .i64 1))),
 Oo 58 (.bin .lss (.t 55) (.t 57))] [0, 10, 13, 58])
 (.cond (.t 58) (.skip)
 (.exit 2)))
 (.seq (.blk 3 (.regD [Mo 61 0,
 Mo 62 13,
 Mo 63 0,
 Mo 64 13,
 Oo 65 (.bin .add (.t 64) (.c (.int .i64 1))),
 Mo 66 0,
 Mo 67 13,
 Oo 68 (.bin .add (.t 67) (.c (.int .i64 1))),
 Oo 69 (.iaddr 4 (.t 66) (.t 68)),
 Oo 70 (.load true 4 (.t 69)),
 Mo 71 0,
 Mo 72 13,
 Oo 73 (.iaddr 4 (.t 71) (.t 72)),
 Oo 74 (.load true 4 (.t 73)),
 Oo 75 (.iaddr 4 (.t 61) (.t 62)),
 ⟨none, none, .store 4 (.t 75) (.t 70), [9, 13]⟩,
 Oo 76 (.iaddr 4 (.t 63) (.t 65)),
 ⟨none, none, .store 4 (.t 76) (.t 74), [13, 15, 9]⟩] [0, 10, 13]))
 (.reg [Mo 59 13,
 Oo 60 (.bin .add (.t 59) (.c (.int .i64 1))),
 Mo 13 60] [0, 10, 13]))
def L82x2 : ACode := .seq (.seq (.reg [Mo 83 14,
 Mo 84 15,
 Oo 85 (.bin .lss (.t 83) (.t 84))] [0, 2, 4, 14, 15, 85])
 (.cond (.t 85) (.skip)
 (.exit 4)))
 (.blk 5 (.seq (.reg [Mo 86 14,
 Mo 87 15,
 Oo 88 (.bin .add (.t 86) (.t 87)),
 Oo 89 (.conv (.toInt .u64) (.t 88)),
 Oo 90 (.half (.t 89)),
 Oo 91 (.conv (.toInt .i64) (.t 90)),
 Mo 16 91] [0, 2, 4, 14, 15, 16])
 (.seq (.regD [Mo 92 4,
 Mo 93 0,
 Mo 94 2,
 Oo 95 (.iaddr 4 (.t 93) (.t 94)),
 Oo 96 (.load true 4 (.t 95)),
 Mo 97 0,
 Mo 98 16,
 Oo 99 (.iaddr 4 (.t 97) (.t 98)),
 Oo 100 (.load true 4 (.t 99)),
 ⟨(some 101), none, .callv (.t 92) [(.t 96), (.t 100)], [4, 8]⟩,
 ⟨(some 102), none, .bin .lss (.t 101) (.c (.int .i64 0)), [9]⟩,
 ⟨(some 103), none, .un .not (.t 102), [9]⟩] [0, 2, 4, 14, 15, 16, 103])
 (.cond (.t 103) (.reg [Mo 104 16,
 Oo 105 (.bin .add (.t 104) (.c (.int .i64 1))),
 Mo 14 105] [0, 2, 4, 14, 15])
 (.reg [Mo 106 16,
 Mo 15 106] [0, 2, 4, 14, 15])))))
def L82x3 : ACode := .seq (.seq (.reg [Mo 108 17,
 Mo 109 14,
 Oo 110 (.bin .gtr (.t 108) (.t 109))] [0, 14, 17, 110])
 (.cond (.t 110) (.skip)
 (.exit 6)))
 (.seq (.blk 7 (.regD [Mo 113 0,
 Mo 114 17,
 Mo 115 0,
 Mo 116 17,
 Oo 117 (.bin .sub (.t 116) (.c (.int .i64 1))),
 Mo 118 0,
 Mo 119 17,
 Oo 120 (.bin .sub (.t 119) (.c (.int .i64 1))),
 Oo 121 (.iaddr 4 (.t 118) (.t 120)),
 Oo 122 (.load true 4 (.t 121)),
 Mo 123 0,
 Mo 124 17,
 Oo 125 (.iaddr 4 (.t 123) (.t 124)),
 Oo 126 (.load true 4 (.t 125)),
 Oo 127 (.iaddr 4 (.t 113) (.t 114)),
 ⟨none, none, .store 4 (.t 127) (.t 122), [9, 13]⟩,
 Oo 128 (.iaddr 4 (.t 115) (.t 117)),
 ⟨none, none, .store 4 (.t 128) (.t 126), [13, 15, 9]⟩] [0, 14, 17]))
 (.reg [Mo 111 17,
 Oo 112 (.bin .sub (.t 111) (.c (.int .i64 1))),
 Mo 17 112] [0, 14, 17]))
def L82x4 : ACode := .seq (.seq (.reg [Mo 149 20,
 Mo 150 21,
 Oo 151 (.bin .lss (.t 149) (.t 150))] [0, 1, 2, 3, 4, 18, 19, 20, 21, 22, 151])
 (.cond (.t 151) (.skip)
 (.exit 8)))
 (.blk 9 (.seq (.reg [Mo 152 20,
 Mo 153 21,
 Oo 154 (.bin .add (.t 152) (.t 153)),
 Oo 155 (.conv (.toInt .u64) (.t 154)),
 Oo 156 (.half (.t 155)),
 Oo 157 (.conv (.toInt .i64) (.t 156)),
 Mo 23 157] [0, 1, 2, 3, 4, 18, 19, 20, 21, 22, 23])
 (.seq (.regD [Mo 158 4,
 Mo 159 0,
 Mo 160 22,
 Mo 161 23,
 Oo 162 (.bin .sub (.t 160) (.t 161)),
 Oo 163 (.iaddr 4 (.t 159) (.t 162)),
 Oo 164 (.load true 4 (.t 163)),
 Mo 165 0,
 Mo 166 23,
 Oo 167 (.iaddr 4 (.t 165) (.t 166)),
 Oo 168 (.load true 4 (.t 167)),
 ⟨(some 169), none, .callv (.t 158) [(.t 164), (.t 168)], [6, 10]⟩,
 ⟨(some 170), none, .bin .lss (.t 169) (.c (.int .i64 0)), [11]⟩,
 ⟨(some 171), none, .un .not (.t 170), [11]⟩] [0, 1, 2, 3, 4, 18, 19, 20, 21, 22, 23, 171])
 (.cond (.t 171) (.reg [Mo 172 23,
 Oo 173 (.bin .add (.t 172) (.c (.int .i64 1))),
 Mo 20 173] [0, 1, 2, 3, 4, 18, 19, 20, 21, 22])
 (.reg [Mo 174 23,
 Mo 21 174] [0, 1, 2, 3, 4, 18, 19, 20, 21, 22])))))
def A82 : AFunc := ⟨5, [], .seq (.seq (.reg [Mo 25 2,
 Mo 26 1,
 Oo 27 (.bin .sub (.t 25) (.t 26)),
 Oo 28 (.bin .eql (.t 27) (.c (.int .i64 1)))] [0, 1, 2, 3, 4, 28])
 (.cond (.t 28) (.seq (.reg [Mo 29 2,
 Mo 10 29] [0, 1, 3, 4, 10])
 (.seq (.reg [Mo 30 3,
 Mo 11 30] [0, 1, 4, 10, 11])
 (.seq (.blk 0 (.loop L82x0))
 (.seq (.seq (.reg [Mo 54 1,
 Mo 13 54] [0, 10, 13])
 (.blk 2 (.loop L82x1)))
 (.ret)))))
 (.skip)))
 (.seq (.seq (.reg [Mo 77 3,
 Mo 78 2,
 Oo 79 (.bin .sub (.t 77) (.t 78)),
 Oo 80 (.bin .eql (.t 79) (.c (.int .i64 1)))] [0, 1, 2, 3, 4, 80])
 (.cond (.t 80) (.seq (.reg [Mo 81 1,
 Mo 14 81] [0, 2, 4, 14])
 (.seq (.reg [Mo 82 2,
 Mo 15 82] [0, 2, 4, 14, 15])
 (.seq (.blk 4 (.loop L82x2))
 (.seq (.seq (.reg [Mo 107 2,
 Mo 17 107] [0, 14, 17])
 (.blk 6 (.loop L82x3)))
 (.ret)))))
 (.skip)))
 (.seq (.reg [Mo 129 1,
 Mo 130 3,
 Oo 131 (.bin .add (.t 129) (.t 130)),
 Oo 132 (.conv (.toInt .u64) (.t 131)),
 Oo 133 (.half (.t 132)),
 Oo 134 (.conv (.toInt .i64) (.t 133)),
 Mo 18 134] [0, 1, 2, 3, 4, 18])
 (.seq (.reg [Mo 135 18,
 Mo 136 2,
 Oo 137 (.bin .add (.t 135) (.t 136)),
 Mo 19 137] [0, 1, 2, 3, 4, 18, 19])
 (.seq (.reg [Oo 20 (.mv (.c (.int .i64 0))),
 Oo 21 (.mv (.c (.int .i64 0)))] [0, 1, 2, 3, 4, 18, 19])
 (.seq (.seq (.reg [Mo 138 2,
 Mo 139 18,
 Oo 140 (.bin .gtr (.t 138) (.t 139))] [0, 1, 2, 3, 4, 18, 19, 140])
 (.cond (.t 140) (.seq (.reg [Mo 141 19,
 Mo 142 3,
 Oo 143 (.bin .sub (.t 141) (.t 142)),
 Mo 20 143] [0, 1, 2, 3, 4, 18, 19, 20])
 (.reg [Mo 144 18,
 Mo 21 144] [0, 1, 2, 3, 4, 18, 19, 20, 21]))
 (.seq (.reg [Mo 145 1,
 Mo 20 145] [0, 1, 2, 3, 4, 18, 19, 20])
 (.reg [Mo 146 2,
 Mo 21 146] [0, 1, 2, 3, 4, 18, 19, 20, 21]))))
 (.seq (.reg [Mo 147 19,
 Oo 148 (.bin .sub (.t 147) (.c (.int .i64 1))),
 Mo 22 148] [0, 1, 2, 3, 4, 18, 19, 20, 21, 22])
 (.seq (.blk 8 (.loop L82x4))
 (.seq (.reg [Mo 175 19,
 Mo 176 20,
 Oo 177 (.bin .sub (.t 175) (.t 176)),
 Mo 24 177] [0, 1, 2, 3, 4, 18, 20, 24])
 (.seq (.seq (.reg [Mo 178 20,
 Mo 179 2,
 Oo 180 (.bin .lss (.t 178) (.t 179)),
 Mo 181 180,
 ⟨(some 182), some (181, true), .mv (.t 2), []⟩,
 ⟨(some 183), some (181, true), .mv (.t 24), []⟩,
 ⟨(some 184), some (181, true), .bin .lss (.t 182) (.t 183), []⟩,
 Oo 185 (.pick (.t 181) (.t 184) (.c (.bool false)))] [0, 1, 2, 3, 4, 18, 20, 24, 185])
 (.cond (.t 185) (.reg [Mo 186 0,
 Mo 187 20,
 Mo 188 2,
 Mo 189 24,
 Mo 190 4,
 Oo 191 (.callr 101 [(.t 186), (.t 187), (.t 188), (.t 189), (.t 190)])] [0, 1, 3, 4, 18, 20, 24])
 (.skip)))
 (.seq (.seq (.reg [Mo 192 1,
 Mo 193 20,
 Oo 194 (.bin .lss (.t 192) (.t 193)),
 Mo 195 194,
 ⟨(some 196), some (195, true), .mv (.t 20), []⟩,
 ⟨(some 197), some (195, true), .mv (.t 18), []⟩,
 ⟨(some 198), some (195, true), .bin .lss (.t 196) (.t 197), []⟩,
 Oo 199 (.pick (.t 195) (.t 198) (.c (.bool false)))] [0, 1, 3, 4, 18, 20, 24, 199])
 (.cond (.t 199) (.reg [Mo 200 0,
 Mo 201 1,
 Mo 202 20,
 Mo 203 18,
 Mo 204 4,
 Oo 205 (.callr 82 [(.t 200), (.t 201), (.t 202), (.t 203), (.t 204)])] [0, 3, 4, 18, 24])
 (.skip)))
 (.seq (.reg [Mo 206 18,
 Mo 207 24,
 Oo 208 (.bin .lss (.t 206) (.t 207)),
 Mo 209 208,
 ⟨(some 210), some (209, true), .mv (.t 24), []⟩,
 ⟨(some 211), some (209, true), .mv (.t 3), []⟩,
 ⟨(some 212), some (209, true), .bin .lss (.t 210) (.t 211), []⟩,
 Oo 213 (.pick (.t 209) (.t 212) (.c (.bool false)))] [0, 3, 4, 18, 24, 213])
 (.cond (.t 213) (.reg [Mo 214 0,
 Mo 215 18,
 Mo 216 24,
 Mo 217 3,
 Mo 218 4,
 Oo 219 (.callr 82 [(.t 214), (.t 215), (.t 216), (.t 217), (.t 218)])] [])
 (.skip)))))))))))))⟩
theorem c82 : cmpF Tryz.prog ⟨[(59, 4), (81, 4), (82, 4), (101, 4), (113, 4)], false, false⟩ Tryz.f82 K82 = some A82 := by kernel_rfl
/-- slices.rotateCmpFunc[collator/api.Item] -/
def K101 : List (List Nat) := [[0, 2, 3, 4, 10], [0, 2, 4, 10, 11], [0, 2, 4, 10, 11, 20], [0, 2, 4, 10, 11, 23], [0, 2, 4, 10, 11], [0, 2, 4, 10, 11], [0, 2, 4, 10, 11], [0, 2, 4, 10, 11], []]
def L101x0 : ACode := .seq (.seq (.reg [Mo 18 10,
 Mo 19 11,
 Oo 20 (.bin .neq (.t 18) (.t 19))] [0, 2, 4, 10, 11, 20])
 (.cond (.t 20) (.skip)
 (.exit 0)))
 (.blk 1 (.seq (.reg [Mo 21 10,
 Mo 22 11,
 Oo 23 (.bin .gtr (.t 21) (.t 22))] [0, 2, 4, 10, 11, 23])
 (.cond (.t 23) (.seq (.reg [Mo 24 0,
 Mo 25 2,
 Mo 26 10,
 Oo 27 (.bin .sub (.t 25) (.t 26)),
 Mo 28 2,
 Mo 29 11,
 Mo 30 4,
 Oo 31 (.callr 113 [(.t 24), (.t 27), (.t 28), (.t 29), (.t 30)])] [0, 2, 4, 10, 11])
 (.reg [Mo 32 10,
 Mo 33 11,
 Oo 34 (.bin .sub (.t 32) (.t 33)),
 Mo 10 34] [0, 2, 4, 10, 11]))
 (.seq (.reg [Mo 35 0,
 Mo 36 2,
 Mo 37 10,
 Oo 38 (.bin .sub (.t 36) (.t 37)),
 Mo 39 2,
 Mo 40 11,
 Oo 41 (.bin .add (.t 39) (.t 40)),
 Mo 42 10,
 Oo 43 (.bin .sub (.t 41) (.t 42)),
 Mo 44 10,
 Mo 45 4,
 Oo 46 (.callr 113 [(.t 35), (.t 38), (.t 43), (.t 44), (.t 45)])] [0, 2, 4, 10, 11])
 (.reg [Mo 47 11,
 Mo 48 10,
 Oo 49 (.bin .sub (.t 47) (.t 48)),
 Mo 11 49] [0, 2, 4, 10, 11])))))
def A101 : AFunc := ⟨5, [], .seq (.reg [Mo 12 2,
 Mo 13 1,
 Oo 14 (.bin .sub (.t 12) (.t 13)),
 Mo 10 14] [0, 2, 3, 4, 10])
 (.seq (.reg [Mo 15 3,
 Mo 16 2,
 Oo 17 (.bin .sub (.t 15) (.t 16)),
 Mo 11 17] [0, 2, 4, 10, 11])
 (.seq (.blk 0 (.loop L101x0))
 (.reg [Mo 50 0,
 Mo 51 2,
 Mo 52 10,
 Oo 53 (.bin .sub (.t 51) (.t 52)),
 Mo 54 2,
 Mo 55 10,
 Mo 56 4,
 Oo 57 (.callr 113 [(.t 50), (.t 53), (.t 54), (.t 55), (.t 56)])] [])))⟩
theorem c101 : cmpF Tryz.prog ⟨[(59, 4), (81, 4), (82, 4), (101, 4), (113, 4)], false, false⟩ Tryz.f101 K101 = some A101 := by kernel_rfl
/-- slices.swapRangeCmpFunc[collator/api.Item] -/
def K113 : List (List Nat) := [[0, 1, 2, 3, 10], [0, 1, 2, 3, 10, 13], [0, 1, 2, 3, 10], [0, 1, 2, 3, 10]]
def L113x0 : ACode := .seq (.seq (.reg [Mo 11 10,
 Mo 12 3,
 Oo 13 (.bin .lss (.t 11) (.t 12))] [0, 1, 2, 3, 10, 13])
 (.cond (.t 13) (.skip)
 (.exit 0)))
 (.seq (.blk 1 (.regD [Mo 16 0,
 Mo 17 1,
 Mo 18 10,
 Oo 19 (.bin .add (.t 17) (.t 18)),
 Mo 20 0,
 Mo 21 2,
 Mo 22 10,
 Oo 23 (.bin .add (.t 21) (.t 22)),
 Mo 24 0,
 Mo 25 2,
 Mo 26 10,
 Oo 27 (.bin .add (.t 25) (.t 26)),
 Oo 28 (.iaddr 4 (.t 24) (.t 27)),
 Oo 29 (.load true 4 (.t 28)),
 Mo 30 0,
 Mo 31 1,
 Mo 32 10,
 Oo 33 (.bin .add (.t 31) (.t 32)),
 Oo 34 (.iaddr 4 (.t 30) (.t 33)),
 Oo 35 (.load true 4 (.t 34)),
 Oo 36 (.iaddr 4 (.t 16) (.t 19)),
 ⟨none, none, .store 4 (.t 36) (.t 29), [13, 19]⟩,
 Oo 37 (.iaddr 4 (.t 20) (.t 23)),
 ⟨none, none, .store 4 (.t 37) (.t 35), [19, 21, 13]⟩] [0, 1, 2, 3, 10]))
 (.reg [Mo 14 10,
 Oo 15 (.bin .add (.t 14) (.c (.int .i64 1))),
 Mo 10 15] [0, 1, 2, 3, 10]))
def A113 : AFunc := ⟨5, [], .seq (.reg [Oo 10 (.mv (.c (.int .i64 0)))] [0, 1, 2, 3, 10])
 (.blk 0 (.loop L113x0))⟩
theorem c113 : cmpF Tryz.prog ⟨[(59, 4), (81, 4), (82, 4), (101, 4), (113, 4)], false, false⟩ Tryz.f113 K113 = some A113 := by kernel_rfl
/-- collator/trees.Find$1 -/
def K41 : List (List Nat) := [[1, 2], [3]]
def A41 : AFunc := ⟨2, [.t 3], .seq (.reg [Oo 2 (.box (.t 0)),
 Oo 3 (.mv (.c (.bool false)))] [1, 2])
 (.seq (.reg [Oo 4 (.faddr 0 (.t 2)),
 Oo 5 (.load false 1 (.t 4)),
 Oo 6 (.load false 1 (.t 1)),
 Oo 7 (.bin .eql (.t 5) (.t 6)),
 Mo 3 7] [3])
 (.ret))⟩
theorem c41 : cmpF Tryz.prog ⟨[(59, 4), (81, 4), (82, 4), (101, 4), (113, 4)], false, false⟩ Tryz.f41 K41 = some A41 := by kernel_rfl
/-- collator/trees.List$1 -/
def K46 : List (List Nat) := [[1, 2], [3]]
def A46 : AFunc := ⟨2, [.t 3], .seq (.reg [Oo 2 (.box (.t 0)),
 Oo 3 (.mv (.c (.bool false)))] [1, 2])
 (.seq (.regD [Oo 4 (.faddr 0 (.t 2)),
 Oo 5 (.load false 1 (.t 4)),
 ⟨(some 6), none, .call 47 [(.t 5)], [1]⟩,
 ⟨(some 7), none, .bin .neq (.t 6) (.c (.int .i64 0)), [2]⟩,
 ⟨(some 8), none, .mv (.t 7), [2]⟩,
 ⟨(some 9), some (8, false), .faddr 0 (.t 2), [2]⟩,
 ⟨(some 10), some (8, false), .load false 1 (.t 9), [2, 1]⟩,
 ⟨(some 11), some (8, false), .call 48 [(.t 10)], [6, 2, 1]⟩,
 ⟨(some 12), some (8, false), .load false 1 (.t 1), [2, 1]⟩,
 ⟨(some 13), some (8, false), .bin .neq (.t 11) (.t 12), [7, 2]⟩,
 ⟨(some 14), none, .pick (.t 8) (.c (.bool true)) (.t 13), [2, 7]⟩,
 ⟨(some 3), none, .mv (.t 14), [7, 2]⟩] [3])
 (.ret))⟩
theorem c46 : cmpF Tryz.prog ⟨[(59, 4), (81, 4), (82, 4), (101, 4), (113, 4)], false, false⟩ Tryz.f46 K46 = some A46 := by kernel_rfl
/-- collator/trees.kind -/
def K77 : List (List Nat) := [[1], [1, 4], [1, 4, 5], [2], [4, 10], [10], [2], [2]]
def A77 : AFunc := ⟨1, [.t 2], .seq (.reg [Oo 1 (.box (.t 0)),
 Oo 2 (.mv (.c (.bool false)))] [1])
 (.seq (.seq (.reg [Oo 3 (.faddr 1 (.t 1)),
 Oo 4 (.load false 1 (.t 3))] [1, 4])
 (.blk 0 (.seq (.reg [Oo 6 (.bin .eql (.t 4) (.c (.int .i64 1))),
 Mo 5 6] [1, 4, 5])
 (.cond (.t 5) (.seq (.reg [Oo 7 (.faddr 2 (.t 1)),
 Oo 8 (.load false 1 (.t 7)),
 Oo 9 (.bin .neq (.t 8) (.c (.str []))),
 Mo 2 9] [2])
 (.ret))
 (.seq (.seq (.reg [Oo 11 (.bin .eql (.t 4) (.c (.int .i64 2))),
 Mo 10 11] [4, 10])
 (.cond (.t 10) (.skip)
 (.reg [Oo 12 (.bin .eql (.t 4) (.c (.int .i64 3))),
 Mo 10 12] [10])))
 (.cond (.t 10) (.seq (.reg [Oo 2 (.mv (.c (.bool false)))] [2])
 (.ret))
 (.skip)))))))
 (.seq (.reg [Oo 2 (.mv (.c (.bool true)))] [2])
 (.ret)))⟩
theorem c77 : cmpF Tryz.prog ⟨[(59, 4), (81, 4), (82, 4), (101, 4), (113, 4)], false, false⟩ Tryz.f77 K77 = some A77 := by kernel_rfl
/-- (collator/trees.tree).fault$2 -/
def K79 : List (List Nat) := [[1, 2], [3]]
def A79 : AFunc := ⟨2, [.t 3], .seq (.reg [Oo 2 (.box (.t 0)),
 Oo 3 (.mv (.c (.bool false)))] [1, 2])
 (.seq (.reg [Oo 4 (.faddr 2 (.t 2)),
 Oo 5 (.load false 1 (.t 4)),
 Oo 6 (.len true (.t 5)),
 Oo 7 (.faddr 1 (.t 1)),
 Oo 8 (.faddr 1 (.t 7)),
 Oo 9 (.load false 1 (.t 8)),
 Oo 10 (.bin .gtr (.t 6) (.t 9)),
 Mo 3 10] [3])
 (.ret))⟩
theorem c79 : cmpF Tryz.prog ⟨[(59, 4), (81, 4), (82, 4), (101, 4), (113, 4)], false, false⟩ Tryz.f79 K79 = some A79 := by kernel_rfl
/-- (collator/trees.tree).fault$3 -/
def K80 : List (List Nat) := [[1], [2]]
def A80 : AFunc := ⟨1, [.t 2], .seq (.reg [Oo 1 (.box (.t 0)),
 Oo 2 (.mv (.c (.bool false)))] [1])
 (.seq (.reg [Oo 3 (.faddr 3 (.t 1)),
 Oo 4 (.load false 1 (.t 3)),
 Mo 2 4] [2])
 (.ret))⟩
theorem c80 : cmpF Tryz.prog ⟨[(59, 4), (81, 4), (82, 4), (101, 4), (113, 4)], false, false⟩ Tryz.f80 K80 = some A80 := by kernel_rfl
/-- (collator/trees.tree).dir$1 -/
def K100 : List (List Nat) := [[1], [2]]
def A100 : AFunc := ⟨1, [.t 2], .seq (.reg [Oo 1 (.box (.t 0)),
 Oo 2 (.mv (.c (.bool false)))] [1])
 (.seq (.reg [Oo 3 (.faddr 1 (.t 1)),
 Oo 4 (.load false 1 (.t 3)),
 Oo 5 (.bin .eql (.t 4) (.c (.int .i64 1))),
 Mo 2 5] [2])
 (.ret))⟩
theorem c100 : cmpF Tryz.prog ⟨[(59, 4), (81, 4), (82, 4), (101, 4), (113, 4)], false, false⟩ Tryz.f100 K100 = some A100 := by kernel_rfl
end Go.Proofs.YtpkeiffclipjmaaGreatDoor.Rx
