/-
  Rx, the plain programs: collatorlaw11.Turned: as one whose row is its own, and, where an entry is left out, as one whose row is any.
-/
import Derived.Test.YtdjgdipmjbkilaaGreatDoorRxTabR
import Derived.Test.YtdjgdipmjbkilaaGreatDoorRxTabS
import Derived.Test.YtdjgdipmjbkilaaGreatDoorRxF6
namespace Go.Proofs.YtdjgdipmjbkilaaGreatDoor.Rx
open Go Go.RowKit

def A11b : AFunc := ⟨4, [.t 8], .seq (.reg [Oo 8 (.mv (.c (.sl 8 [] .nil)))] [0, 1, 2, 3])
 (.seq (.reg [Mo 11 0,
 Oo 12 (.app none 8 104 (.c (.sl 8 [] .nil)) (.t 11)),
 Mo 9 12] [1, 2, 3, 9])
 (.seq (.seq (.reg [Mo 13 9,
 Oo 14 (.len false (.t 13)),
 Oo 15 (.bin .eql (.t 14) (.c (.int .i64 0)))] [1, 2, 3, 9, 15])
 (.cond (.t 15) (.seq (.reg [Mo 16 9,
 Mo 8 16] [8])
 (.ret))
 (.skip)))
 (.seq (.reg [Mo 17 1,
 Mo 18 9,
 Oo 19 (.len false (.t 18)),
 Oo 20 (.call 25 [(.t 17), (.t 19)]),
 Mo 10 20] [1, 2, 3, 9, 10])
 (.seq (.seq (.reg [Mo 21 2,
 Oo 22 (.call 25 [(.t 21), (.c (.int .i64 12))])] [1, 3, 9, 10, 22])
 (.blk 0 (.seq (.reg [Oo 24 (.bin .eql (.t 22) (.c (.int .i64 0))),
 Mo 23 24] [1, 3, 9, 10, 22, 23])
 (.cond (.t 23) (.reg [Mo 25 9,
 Mo 26 10,
 Mo 27 1,
 Oo 28 (.call 25 [(.t 27), (.c (.int .i64 7))]),
 Oo 29 (.iaddr 8 (.t 25) (.t 26)),
 Oo 30 (.faddr 0 (.t 29)),
 ⟨none, none, .store 1 (.t 30) (.t 28), []⟩] [9])
 (.seq (.reg [Oo 32 (.bin .eql (.t 22) (.c (.int .i64 1))),
 Mo 31 32] [1, 3, 9, 10, 22, 31])
 (.cond (.t 31) (.reg [Mo 33 9,
 Mo 34 10,
 Mo 35 9,
 Mo 36 10,
 Oo 37 (.iaddr 8 (.t 35) (.t 36)),
 Oo 38 (.faddr 1 (.t 37)),
 Oo 39 (.load false 1 (.t 38)),
 Oo 40 (.bin .add (.t 39) (.c (.str [120]))),
 Oo 41 (.iaddr 8 (.t 33) (.t 34)),
 Oo 42 (.faddr 1 (.t 41)),
 ⟨none, none, .store 1 (.t 42) (.t 40), []⟩] [9])
 (.seq (.reg [Oo 44 (.bin .eql (.t 22) (.c (.int .i64 2))),
 Mo 43 44] [1, 3, 9, 10, 22, 43])
 (.cond (.t 43) (.reg [Mo 45 9,
 Mo 46 10,
 Oo 47 (.iaddr 8 (.t 45) (.t 46)),
 Oo 48 (.faddr 2 (.t 47)),
 ⟨none, none, .store 1 (.t 48) (.c (.str [97])), []⟩] [9])
 (.seq (.reg [Oo 50 (.bin .eql (.t 22) (.c (.int .i64 3))),
 Mo 49 50] [1, 3, 9, 10, 22, 49])
 (.cond (.t 49) (.reg [Mo 51 9,
 Mo 52 10,
 Mo 53 1,
 Oo 54 (.call 25 [(.t 53), (.c (.int .i64 4))]),
 Oo 55 (.iaddr 8 (.t 51) (.t 52)),
 Oo 56 (.faddr 3 (.t 55)),
 ⟨none, none, .store 1 (.t 56) (.t 54), []⟩] [9])
 (.seq (.reg [Oo 58 (.bin .eql (.t 22) (.c (.int .i64 4))),
 Mo 57 58] [1, 3, 9, 10, 22, 57])
 (.cond (.t 57) (.reg [Mo 59 9,
 Mo 60 10,
 Mo 61 1,
 Oo 62 (.call 25 [(.t 61), (.c (.int .i64 4))]),
 Oo 63 (.iaddr 8 (.t 59) (.t 60)),
 Oo 64 (.faddr 4 (.t 63)),
 ⟨none, none, .store 1 (.t 64) (.t 62), []⟩] [9])
 (.seq (.reg [Oo 66 (.bin .eql (.t 22) (.c (.int .i64 5))),
 Mo 65 66] [1, 3, 9, 10, 22, 65])
 (.cond (.t 65) (.reg [Mo 67 9,
 Mo 68 10,
 Oo 69 (.iaddr 8 (.t 67) (.t 68)),
 Oo 70 (.faddr 5 (.t 69)),
 ⟨none, none, .store 1 (.t 70) (.c (.str [113])), []⟩] [9])
 (.seq (.reg [Oo 72 (.bin .eql (.t 22) (.c (.int .i64 6))),
 Mo 71 72] [1, 3, 9, 10, 22, 71])
 (.cond (.t 71) (.reg [Mo 73 9,
 Mo 74 10,
 Mo 75 1,
 Oo 76 (.call 25 [(.t 75), (.c (.int .i64 102))]),
 Oo 77 (.iaddr 8 (.t 73) (.t 74)),
 Oo 78 (.faddr 6 (.t 77)),
 ⟨none, none, .store 1 (.t 78) (.t 76), []⟩] [9])
 (.seq (.reg [Oo 80 (.bin .eql (.t 22) (.c (.int .i64 7))),
 Mo 79 80] [3, 9, 10, 22, 79])
 (.cond (.t 79) (.reg [Mo 81 9,
 Mo 82 10,
 Mo 83 3,
 Oo 84 (.iaddr 8 (.t 81) (.t 82)),
 Oo 85 (.faddr 7 (.t 84)),
 ⟨none, none, .store 1 (.t 85) (.t 83), []⟩] [9])
 (.seq (.reg [Oo 87 (.bin .eql (.t 22) (.c (.int .i64 8))),
 Mo 86 87] [9, 10, 22, 86])
 (.cond (.t 86) (.regD [Mo 88 9,
 Mo 89 10,
 Mo 90 10,
 Oo 91 (.slice (some 8) (.t 88) none (some (.t 89)) (some (.t 90))),
 Mo 92 9,
 Mo 93 10,
 Oo 94 (.bin .add (.t 93) (.c (.int .i64 1))),
 Oo 95 (.slice (some 8) (.t 92) (some (.t 94)) none none),
 Oo 96 (.app none 8 104 (.t 91) (.t 95)),
 Mo 9 96] [9])
 (.seq (.reg [Oo 98 (.bin .eql (.t 22) (.c (.int .i64 9))),
 Mo 97 98] [9, 10, 97])
 (.cond (.t 97) (.reg [Mo 99 9,
 Mo 100 9,
 Mo 101 10,
 Oo 102 (.iaddr 8 (.t 100) (.t 101)),
 Oo 103 (.load true 8 (.t 102)),
 Oo 104 (.mks 1 8 true [(.int .i64 0), (.str []), (.str []), (.int .i64 0), (.int .i64 0), (.str []), (.int .i64 0), (.sl 3 [] .nil)] [(0, (.t 103))]),
 Oo 105 (.app none 8 104 (.t 99) (.t 104)),
 Mo 9 105] [9])
 (.skip)))))))))))))))))))))))
 (.seq (.reg [Mo 106 9,
 Mo 8 106] [8])
 (.ret))))))⟩
theorem c11b : cmpF Tryz.prog ⟨[(28, 2), (29, 2), (30, 3), (50, 2)], false, false⟩ Tryz.f11 K11 = some A11b := by kernel_rfl
theorem getT_mem {α : Type} : ∀ {l : List (Nat × α)} {i : Nat} {a : α}, get l i = some a → (i, a) ∈ l
  | [], i, a, h => by simp [get] at h
  | (k, v) :: l, i, a, h => by
    simp only [get] at h
    split at h
    · rename_i e
      simp only [Option.some.injEq] at h
      subst e h
      simp
    · exact List.mem_cons_of_mem _ (getT_mem h)
def T1 : Sys := ⟨get [], get [(11, A11), (25, A25)]⟩
def T2 : Sys := ⟨get [], get [(11, A11b), (25, A25)]⟩
theorem tblT1 : ∀ p ∈ [(11, A11), (25, A25)], ∃ K fn ks, Tryz.prog.funcs[p.1]? = some fn ∧ cmpF Tryz.prog K fn ks = some p.2 := by
  refine List.forall_mem_cons.2 ⟨⟨_, _, K11, Tryz.func11, c11⟩, ?_⟩
  refine List.forall_mem_cons.2 ⟨⟨_, _, K25, Tryz.func25, c25⟩, ?_⟩
  exact fun _ h => absurd h List.not_mem_nil
theorem tblT2 : ∀ p ∈ [(11, A11b), (25, A25)], ∃ K fn ks, Tryz.prog.funcs[p.1]? = some fn ∧ cmpF Tryz.prog K fn ks = some p.2 := by
  refine List.forall_mem_cons.2 ⟨⟨_, _, K11, Tryz.func11, c11b⟩, ?_⟩
  refine List.forall_mem_cons.2 ⟨⟨_, _, K25, Tryz.func25, c25⟩, ?_⟩
  exact fun _ h => absurd h List.not_mem_nil
set_option maxRecDepth 100000 in
theorem fitsT1 : Fits (C4 odR) T1 := {
  mix := by kernel_rfl
  fine := fine4
  ext := fun _ _ h => by simp [T1, get] at h
  tbl := fun _ _ h => tblT1 _ (getT_mem h) }
set_option maxRecDepth 100000 in
theorem fitsT2 : Fits (C4 odR) T2 := {
  mix := by kernel_rfl
  fine := fine4
  ext := fun _ _ h => by simp [T2, get] at h
  tbl := fun _ _ h => tblT2 _ (getT_mem h) }
/-- collatorlaw11.Turned. -/
noncomputable def turnedX (args : List AV) : Option AV := match Den T1 11 args with
  | some r => some r
  | none => Den T2 11 args
theorem turned_says (args : List AV) (r : AV) (h : turnedX args = some r) : Says (C4 odR) 11 args r := by
  unfold turnedX at h
  split at h
  · rename_i r' hd
    simp only [Option.some.injEq] at h
    subst h
    exact fitsT1.den hd
  · exact fitsT2.den h
end Go.Proofs.YtdjgdipmjbkilaaGreatDoor.Rx
