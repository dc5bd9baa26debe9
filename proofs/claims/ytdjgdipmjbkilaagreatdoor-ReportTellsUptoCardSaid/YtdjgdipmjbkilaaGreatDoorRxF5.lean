/-
  Rx, functions that are told by hand, 5: strings.Builder's String.
-/
import Derived.Test.YtdjgdipmjbkilaaGreatDoorRxF4
import Derived.Shelf.RegionOpenPlain
namespace Go.Proofs.YtdjgdipmjbkilaaGreatDoor.Rx
open Go Go.RowKit

section
variable {b : Nat} {w : World}
theorem mixed : Tryz.prog.follows .mixedOrders = true := by kernel_rfl
theorem us_none (W : World) (q : Option Addr) : (Builtin.unsafeString_ #[106, 3] 9 #[.pointer q, .int .i64 0]).run Tryz.prog W = .ok (.string .empty) W := Lib.run_unsafeString_none W _ _ _ q
set_option maxHeartbeats 1000000 in
set_option maxRecDepth 100000 in
theorem str_nil (c0 : w.cell? ⟨b, 1, none⟩ = some (.slice none 0 0)) :
    Calls Tryz.prog 30 #[.pointer (some ⟨b, 0, none⟩)] w fun e w' => e = .returned (.string ⟨#[]⟩) ∧ Below w.heap.size w w' := by
  have hUS := us_none
  have c1 : w.drew.cell? ⟨b, 1, none⟩ = some (.slice none 0 0) := c0
  have hSD : (Builtin.unsafeSliceData_ #[40] 106 #[.slice none 0 0]).run Tryz.prog w.drew = .ok (.pointer none) w.drew := rfl
  have mixed := mixed
  go_enter Tryz.func30, Tryz.ntmps30
  go_wp2
  go_region_o
  all_goals (go_wp2; go_ret; exact ⟨rfl, Below.drew (Below.refl _ w)⟩)
set_option maxHeartbeats 1000000 in
set_option maxRecDepth 100000 in
theorem str_noroom {g : Nat} {cur : Array Value} {T : TypeId} (hlt : b < w.heap.size) (c0 : w.cell? ⟨b, 1, none⟩ = some (.slice (some ⟨g, 0, none⟩) 0 0)) (hg : w.heap[g]? = some (.cells cur T (0, 0))) :
    Calls Tryz.prog 30 #[.pointer (some ⟨b, 0, none⟩)] w fun e w' => e = .returned (.string ⟨#[]⟩) ∧ Below w.heap.size w w' := by
  have hUS := us_none
  have c1 : w.drew.cell? ⟨b, 1, none⟩ = some (.slice (some ⟨g, 0, none⟩) 0 0) := c0
  have hp : Tryz.prog.underlying 106 = some (.pointer 5) := by kernel_rfl
  have hSD : (Builtin.unsafeSliceData_ #[40] 106 #[.slice (some ⟨g, 0, none⟩) 0 0]).run Tryz.prog w.drew = .ok (.pointer (some ⟨w.drew.heap.size, 0, none⟩)) (w.drew.alloc (.view ⟨g, 0, none⟩ 5)) :=
    Lib.run_unsafeSliceData_zero w.drew _ _ 5 hp ⟨g, 0, none⟩ 0 (T, cur.size) (by have hg' : w.drew.heap[g]? = some (.cells cur T (0, 0)) := hg; simp [World.shape?, hg'])
  have c2 : (w.drew.alloc (.view ⟨g, 0, none⟩ 5)).cell? ⟨b, 1, none⟩ = some (.slice (some ⟨g, 0, none⟩) 0 0) := by
    rw [← c1]
    exact cell_of_block (Lib.alloc_old w.drew _ b hlt) 1
  have c3 : (w.alloc (.view ⟨g, 0, none⟩ 5)).drew.cell? ⟨b, 1, none⟩ = some (.slice (some ⟨g, 0, none⟩) 0 0) := c2
  have mixed := mixed
  go_enter Tryz.func30, Tryz.ntmps30
  go_wp2
  go_region_o
  all_goals (go_wp2; go_ret; exact ⟨rfl, (Below.drew (Below.refl _ w)).alloc (Nat.le_refl _) _⟩)
set_option maxHeartbeats 1000000 in
set_option maxRecDepth 100000 in
theorem str_room {g cap : Nat} (hc0 : cap ≠ 0) (c0 : w.cell? ⟨b, 1, none⟩ = some (.slice (some ⟨g, 0, none⟩) 0 cap)) :
    Calls Tryz.prog 30 #[.pointer (some ⟨b, 0, none⟩)] w fun e w' => e = .returned (.string ⟨#[]⟩) ∧ Below w.heap.size w w' := by
  have hUS := us_none
  have c1 : w.drew.cell? ⟨b, 1, none⟩ = some (.slice (some ⟨g, 0, none⟩) 0 cap) := c0
  have hSD : (Builtin.unsafeSliceData_ #[40] 106 #[.slice (some ⟨g, 0, none⟩) 0 cap]).run Tryz.prog w.drew = .ok (.pointer (some ⟨g, 0, none⟩)) w.drew :=
    Lib.run_unsafeSliceData_row _ _ _ _ _ _ hc0
  clear hc0
  have mixed := mixed
  go_enter Tryz.func30, Tryz.ntmps30
  go_wp2
  go_region_o
  all_goals (go_wp2; go_ret; exact ⟨rfl, Below.drew (Below.refl _ w)⟩)
set_option maxHeartbeats 1000000 in
set_option maxRecDepth 100000 in
theorem str_some {g cap : Nat} {l : List UInt8} {cur : Array Value} (h0 : l ≠ []) (c0 : w.cell? ⟨b, 1, none⟩ = some (.slice (some ⟨g, 0, none⟩) l.length cap)) (hg : w.heap[g]? = some (.cells cur byteT (0, 0))) (hcs : cur.size = cap) (hnc : l.length ≤ cap) (h63 : l.length ≤ 9223372036854775807)
    (ht : cur.toList.take l.length = l.map fun c => Value.int .u8 c.toNat) :
    Calls Tryz.prog 30 #[.pointer (some ⟨b, 0, none⟩)] w fun e w' => e = .returned (.string ⟨l.toArray⟩) ∧ w' = w.drew.freeze ⟨g, 0, none⟩ l.length := by
  have hl0 : l.length ≠ 0 := by simpa using h0
  have c1 : w.drew.cell? ⟨b, 1, none⟩ = some (.slice (some ⟨g, 0, none⟩) l.length cap) := c0
  have hSD : (Builtin.unsafeSliceData_ #[40] 106 #[.slice (some ⟨g, 0, none⟩) l.length cap]).run Tryz.prog w.drew = .ok (.pointer (some ⟨g, 0, none⟩)) w.drew :=
    Lib.run_unsafeSliceData_row _ _ _ _ _ _ (by omega)
  have hp : Tryz.prog.underlying 106 = some (.pointer 5) := by kernel_rfl
  have hcell : Tryz.prog.cellsOf 5 = 1 := by kernel_rfl
  have hUS : (Builtin.unsafeString_ #[106, 3] 9 #[.pointer (some ⟨g, 0, none⟩), .int .i64 l.length]).run Tryz.prog w.drew = .ok (.string ⟨l.toArray⟩) (w.drew.freeze ⟨g, 0, none⟩ l.length) := by
    refine Lib.run_unsafeString_row w.drew 106 3 9 5 hp hcell g cur.size (by have hg' : w.drew.heap[g]? = some (.cells cur byteT (0, 0)) := hg; simp [World.shape?, hg', byteT]) l h0 (by omega) h63 ?_
    intro j x hx
    have e1 : w.drew.cell? ((⟨g, 0, none⟩ : Addr).add j) = cur[j]? := by
      rw [Addr.add_mid, Nat.zero_add]
      exact cell_of_row w.drew g j cur byteT (0, 0) hg
    have hjl : j < l.length := (List.getElem?_eq_some_iff.1 hx).1
    have e2 := congrArg (·[j]?) ht
    simp only [List.getElem?_take, hjl, if_true, List.getElem?_map, hx, Option.map_some] at e2
    rw [e1, ← e2]
    simp
  have mixed := mixed
  go_enter Tryz.func30, Tryz.ntmps30
  go_wp2
  go_region_o
  all_goals (go_wp2; go_ret; exact ⟨rfl, rfl⟩)
theorem belX_freeze (w : World) (g n : Nat) : BelX (fun k => k = g) w (w.drew.freeze ⟨g, 0, none⟩ n) := by
  unfold World.freeze
  split
  · exact BelX.of (Below.drew (Below.refl _ w))
  · refine ⟨rfl, rfl, rfl, by simp, fun k hk hx => ?_, fun b' T e => ?_⟩
    · simp only [Array.getElem?_modify]
      rw [if_neg (fun e => hx e.symm)]
      rfl
    · unfold tyAt at e ⊢
      simp only [Array.getElem?_modify, heap_drew]
      split at e
      · rename_i h1
        by_cases hg : g = b'
        · rw [if_pos hg, h1]
          exact e
        · rw [if_neg hg, h1]
          exact e
      · simp at e
end
variable {od : Value → Prop}
def strF : List AV → Option AV
  | [] => some (.wr 65 [])
  | _ => none
theorem str_says (G : World → Prop) (B : Nat) (args : List AV) (r : AV) (h : strF args = some r) : Says (Cxo od G B) 30 args r := by
  have hen : Enters (Cxo od G B).P 30 := ⟨_, Tryz.func30, by kernel_rfl, by kernel_rfl⟩
  unfold strF at h
  split at h
  · simp only [Option.some.injEq] at h
    subst h
    refine ⟨rfl, fun Tb => ⟨hen, fun w pr b n a0 buf T t l hW hlen => ?_⟩⟩
    obtain ⟨c0, c1, _, _, _⟩ := hW.cells.cells
    rcases hW.hbuf with ⟨rfl, rfl, rfl⟩ | ⟨t', n', cap, cur, rfl, hne, rfl, rfl, hnc, hg, hcs, hct⟩
    · refine (str_nil c1).mono ?_
      rintro e w' ⟨rfl, hB⟩
      exact ⟨pr, rfl, aft_of (BelX.of hB) hW.hpr⟩
    · by_cases h0 : l = []
      · subst h0
        by_cases hc : cap = 0
        · subst hc
          refine (str_noroom (heap_lt hW.cells.choose_spec.1) c1 hg).mono ?_
          rintro e w' ⟨rfl, hB⟩
          exact ⟨pr, rfl, aft_of (BelX.of hB) hW.hpr⟩
        · refine (str_room hc c1).mono ?_
          rintro e w' ⟨rfl, hB⟩
          exact ⟨pr, rfl, aft_of (BelX.of hB) hW.hpr⟩
      · refine (str_some h0 c1 hg hcs hnc (by omega) hct).mono ?_
        rintro e w' ⟨rfl, rfl⟩
        exact ⟨pr, rfl, aft_of ((belX_freeze w t' l.length).mono fun k hk => by rw [hk]) hW.hpr⟩
  · simp at h
end Go.Proofs.YtdjgdipmjbkilaaGreatDoor.Rx
