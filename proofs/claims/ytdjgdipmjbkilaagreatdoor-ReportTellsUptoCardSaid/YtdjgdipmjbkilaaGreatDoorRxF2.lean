/-
  Rx, functions that are told by hand, 2: what is put off till Decode ends.
-/
import Derived.Test.YtdjgdipmjbkilaaGreatDoorRxF1
namespace Go.Proofs.YtdjgdipmjbkilaaGreatDoor.Rx
open Go Go.RowKit

theorem catch_idleS (p q : Addr) (w : World) :
    CallsD Tryz.prog 84 #[.pointer (some p), .pointer (some q)] .returning w fun e u' w' => e = .returned (.tuple #[]) ∧ u' = .returning ∧ w' = w := by
  refine callsD_of_wpS Tryz.func84 rfl fun c₀ cs hu => ?_
  apply wpS_seq
  apply wpS_region
  simp [wpOpsS, go_sem, recoverD, hu, Tryz.ntmps84, Exit.thenS]
  refine wpS_of_wp ?_
  go_wp2
  cases c₀
  simp_all [bodyPostS, results, Tryz.results84]
set_option maxRecDepth 100000 in
theorem catch_oddS (p q : Addr) (x y : Value) (w : World) (hp : w.cell? p = some x) (hpz : w.frozen? p = false) (hq : w.cell? q = some y) (hqz : w.frozen? q = false) (hne : p ≠ q) :
    CallsD Tryz.prog 84 #[.pointer (some p), .pointer (some q)] (.panicking [{ v := .iface 133 (.agg #[]), recovered := false }]) w fun e u' w' =>
      e = .returned (.tuple #[]) ∧ u' = .panicking [{ v := .iface 133 (.agg #[]), recovered := true }] ∧ w' = ((w.alloc (.cells #[] 133)).setCell p (.slice none 0 0)).setCell q (.int .i64 11) := by
  have hta : ∀ w : World, (Instr.typeAssert (.iface 133 (.agg #[])) 20 133 true).run Tryz.prog w = .ok (.tuple #[.agg #[], .bool true]) w := fun _ => by kernel_rfl
  have hp1 : (w.alloc (.cells #[] 133)).cell? p = some x := by rw [World.cell?_alloc_lt _ _ _ (World.block_lt_of_cell? w _ hp)]; exact hp
  have hpz1 : (w.alloc (.cells #[] 133)).frozen? p = false := by rw [World.frozen?_alloc_old _ _ _ (Nat.ne_of_lt (World.block_lt_of_cell? w _ hp))]; exact hpz
  have hq1 : (w.alloc (.cells #[] 133)).cell? q = some y := by rw [World.cell?_alloc_lt _ _ _ (World.block_lt_of_cell? w _ hq)]; exact hq
  have hqz1 : (w.alloc (.cells #[] 133)).frozen? q = false := by rw [World.frozen?_alloc_old _ _ _ (Nat.ne_of_lt (World.block_lt_of_cell? w _ hq))]; exact hqz
  have hq2 : ((w.alloc (.cells #[] 133)).setCell p (.slice none 0 0)).cell? q = some y := by rw [World.cell?_setCell_other _ _ _ _ hne]; exact hq1
  have hqz2 : ((w.alloc (.cells #[] 133)).setCell p (.slice none 0 0)).frozen? q = false := by rw [World.frozen?_setCell]; exact hqz1
  refine callsD_of_wpS Tryz.func84 rfl fun c₀ cs hu => ?_
  apply wpS_seq
  apply wpS_region
  simp [wpOpsS, go_sem, recoverD, hu, Tryz.ntmps84, Exit.thenS]
  refine wpS_of_wp ?_
  go_wp2
  exact ⟨rfl, _, rfl, .tuple #[], by simp [results, Tryz.results84], rfl, rfl, rfl⟩

theorem catch_idleR (p q : Addr) (w : World) :
    CallsD Tryz.prog 35 #[.pointer (some p), .pointer (some q)] .returning w fun e u' w' => e = .returned (.tuple #[]) ∧ u' = .returning ∧ w' = w := by
  refine callsD_of_wpS Tryz.func35 rfl fun c₀ cs hu => ?_
  apply wpS_seq
  apply wpS_region
  simp [wpOpsS, go_sem, recoverD, hu, Tryz.ntmps35, Exit.thenS]
  refine wpS_of_wp ?_
  go_wp2
  cases c₀
  simp_all [bodyPostS, results, Tryz.results35]
set_option maxRecDepth 100000 in
theorem catch_oddR (p q : Addr) (x y : Value) (w : World) (hp : w.cell? p = some x) (hpz : w.frozen? p = false) (hq : w.cell? q = some y) (hqz : w.frozen? q = false) (hne : p ≠ q) :
    CallsD Tryz.prog 35 #[.pointer (some p), .pointer (some q)] (.panicking [{ v := .iface 75 (.agg #[]), recovered := false }]) w fun e u' w' =>
      e = .returned (.tuple #[]) ∧ u' = .panicking [{ v := .iface 75 (.agg #[]), recovered := true }] ∧ w' = ((w.alloc (.cells #[] 75)).setCell p (.slice none 0 0)).setCell q (.int .i64 11) := by
  have hta : ∀ w : World, (Instr.typeAssert (.iface 75 (.agg #[])) 20 75 true).run Tryz.prog w = .ok (.tuple #[.agg #[], .bool true]) w := fun _ => by kernel_rfl
  have hp1 : (w.alloc (.cells #[] 75)).cell? p = some x := by rw [World.cell?_alloc_lt _ _ _ (World.block_lt_of_cell? w _ hp)]; exact hp
  have hpz1 : (w.alloc (.cells #[] 75)).frozen? p = false := by rw [World.frozen?_alloc_old _ _ _ (Nat.ne_of_lt (World.block_lt_of_cell? w _ hp))]; exact hpz
  have hq1 : (w.alloc (.cells #[] 75)).cell? q = some y := by rw [World.cell?_alloc_lt _ _ _ (World.block_lt_of_cell? w _ hq)]; exact hq
  have hqz1 : (w.alloc (.cells #[] 75)).frozen? q = false := by rw [World.frozen?_alloc_old _ _ _ (Nat.ne_of_lt (World.block_lt_of_cell? w _ hq))]; exact hqz
  have hq2 : ((w.alloc (.cells #[] 75)).setCell p (.slice none 0 0)).cell? q = some y := by rw [World.cell?_setCell_other _ _ _ _ hne]; exact hq1
  have hqz2 : ((w.alloc (.cells #[] 75)).setCell p (.slice none 0 0)).frozen? q = false := by rw [World.frozen?_setCell]; exact hqz1
  refine callsD_of_wpS Tryz.func35 rfl fun c₀ cs hu => ?_
  apply wpS_seq
  apply wpS_region
  simp [wpOpsS, go_sem, recoverD, hu, Tryz.ntmps35, Exit.thenS]
  refine wpS_of_wp ?_
  go_wp2
  exact ⟨rfl, _, rfl, .tuple #[], by simp [results, Tryz.results35], rfl, rfl, rfl⟩

def catchFS : List AV → Option AV
  | [.bool true, .ref 0 [_], .ref 0 [_]] => some (.rcv [[.sl 3 [] .nil], [.int .i64 11]])
  | [.bool false, .ref 0 [c], .ref 0 [d]] => some (.rcv [[c], [d]])
  | _ => none
def catchFR : List AV → Option AV
  | [.bool true, .ref 0 [_], .ref 0 [_]] => some (.rcv [[.sl 8 [] .nil], [.int .i64 11]])
  | [.bool false, .ref 0 [c], .ref 0 [d]] => some (.rcv [[c], [d]])
  | _ => none
/-- A box of one cell that is written. -/
theorem lies_set {w : World} {pr : Nat → Nat → Prop} {c : AV} {b n : Nat} (h : Lies w (pubG pr) [c] b n) (v : Value) : ∃ cur T, w.heap[b]? = some (.cells cur T (0, 0)) ∧ cur.size = n ∧
    w.setCell ⟨b, 0, none⟩ v = w.setRow b (cur.setIfInBounds 0 v) ∧ (w.setRow b (cur.setIfInBounds 0 v)).heap[b]? = some (.cells (cur.setIfInBounds 0 v) T (0, 0)) ∧ (cur.setIfInBounds 0 v).toList.take 1 = [v] ∧ ∃ u, w.cell? ⟨b, 0, none⟩ = some u ∧ w.frozen? ⟨b, 0, none⟩ = false := by
  obtain ⟨us, cur, T, h1, h2, h3, h4, _⟩ := h
  have hl := h4.length
  have hsz : 0 < cur.size := by have := front_le h3; simp at hl; omega
  refine ⟨cur, T, h1, h2, setCell_eq_setRow w b 0 cur T (0, 0) v h1, setRow_heap w b cur _ T (0, 0) h1, ?_, cur[0], ?_, ?_⟩
  · apply List.ext_getElem?
    intro i
    cases i with
    | zero => simp [hsz]
    | succ i => simp; omega
  · rw [cell_of_row w b 0 cur T (0, 0) h1]
    simp [hsz]
  · simp [World.frozen?, h1]
theorem catch_saysS (G : World → Prop) (B : Nat) (args : List AV) (r : AV) (h : catchFS args = some r) : Says (Cxo odS G B) 84 args r := by
  have hen : Enters (Cxo odS G B).P 84 := ⟨_, Tryz.func84, by kernel_rfl, by kernel_rfl⟩
  unfold catchFS at h
  split at h
  · rename_i c1 c2
    simp only [Option.some.injEq] at h
    subst h
    refine ⟨hen, fun w pr vals bs u hG hpr hB hh hu1 _ => ?_⟩
    simp only [HandR] at hh
    obtain ⟨vs, b1, n1, bs1, rfl, rfl, l1, _, hp1, hn1, vs2, b2, n2, bs2, rfl, rfl, l2, _, hp2, hn2, rfl, rfl⟩ := hh
    obtain ⟨v, hv, rfl⟩ := hu1 rfl
    have hv' : v = .iface 133 (.agg #[]) := hv
    subst hv'
    have hne : b1 ≠ b2 := fun e => by subst e; exact hn1 n2 (by simp)
    obtain ⟨cur1, T1, e1, e2, e3, e4, e5, u1, e6, e7⟩ := lies_set l1 (.slice none 0 0)
    obtain ⟨cur2, T2, f1, f2, f3, f4, f5, u2, f6, f7⟩ := lies_set l2 (.int .i64 11)
    refine (catch_oddS ⟨b1, 0, none⟩ ⟨b2, 0, none⟩ u1 u2 w e6 e7 f6 f7 (fun e => hne (by simpa using congrArg Addr.block e))).mono ?_
    rintro e u' w' ⟨rfl, rfl, rfl⟩
    have hB1 := below_alloc w (.cells #[] 133)
    have g1 : (w.alloc (.cells #[] 133)).heap[b1]? = some (.cells cur1 T1 (0, 0)) := by rw [hB1.block b1 (heap_lt e1)]; exact e1
    have g2 : (w.alloc (.cells #[] 133)).heap[b2]? = some (.cells cur2 T2 (0, 0)) := by rw [hB1.block b2 (heap_lt f1)]; exact f1
    rw [setCell_eq_setRow _ b1 0 cur1 T1 (0, 0) (.slice none 0 0) g1]
    have g3 := setRow_heap (w.alloc (.cells #[] 133)) b1 cur1 (cur1.setIfInBounds 0 (.slice none 0 0)) T1 (0, 0) g1
    have g4 : ((w.alloc (.cells #[] 133)).setRow b1 (cur1.setIfInBounds 0 (.slice none 0 0))).heap[b2]? = some (.cells cur2 T2 (0, 0)) := by rw [setRow_other _ b1 b2 _ (fun e => hne e.symm)]; exact g2
    rw [setCell_eq_setRow _ b2 0 cur2 T2 (0, 0) (.int .i64 11) g4]
    have g5 := setRow_heap _ b2 cur2 (cur2.setIfInBounds 0 (.int .i64 11)) T2 (0, 0) g4
    have g6 := (setRow_other ((w.alloc (.cells #[] 133)).setRow b1 (cur1.setIfInBounds 0 (.slice none 0 0))) b2 b1 (cur2.setIfInBounds 0 (.int .i64 11)) hne).trans g3
    refine ⟨_, rfl, rfl, pr, ⟨?_, fun _ _ h => h, fun _ _ h => .inl h, fun b o p => ?_⟩, ⟨[.slice none 0 0], _, T1, g6, by simp [e2], by simpa using e5, ?_, by simp [Value.oneCell']⟩, ⟨[.int .i64 11], _, T2, g5, by simp [f2], by simpa using f5, ?_, by simp [Value.oneCell']⟩, trivial⟩
    · refine BelX.row (BelX.row ((BelX.refl _ w).below hB1) (.inr ⟨n1, by simp⟩) _) (.inr ⟨n2, by simp⟩) _
    · have := hpr b o p
      rw [setRow_size, setRow_size]
      simp
      omega
    · simp only [RdL, Rd]
      exact ⟨_, [], rfl, ⟨[], rfl, ⟨none, 0, rfl, Nat.le_refl _, by simp, by simp [flatV], by simp⟩, rfl⟩, rfl⟩
    · simp only [RdL, Rd]
      exact ⟨_, [], rfl, rfl, rfl⟩
  · rename_i c d
    simp only [Option.some.injEq] at h
    subst h
    refine ⟨hen, fun w pr vals bs u hG hpr hB hh _ hu2 => ?_⟩
    simp only [HandR] at hh
    obtain ⟨vs, b1, n1, bs1, rfl, rfl, l1, _, hp1, hn1, vs2, b2, n2, bs2, rfl, rfl, l2, _, hp2, hn2, rfl, rfl⟩ := hh
    rw [hu2 rfl]
    refine (catch_idleS ⟨b1, 0, none⟩ ⟨b2, 0, none⟩ w).mono ?_
    rintro e u' w' ⟨rfl, rfl, rfl⟩
    exact ⟨_, rfl, rfl, pr, Aft.same (Below.refl _ _) hpr, l1, l2, trivial⟩
  · simp at h
theorem catch_saysR (G : World → Prop) (B : Nat) (args : List AV) (r : AV) (h : catchFR args = some r) : Says (Cxo odR G B) 35 args r := by
  have hen : Enters (Cxo odR G B).P 35 := ⟨_, Tryz.func35, by kernel_rfl, by kernel_rfl⟩
  unfold catchFR at h
  split at h
  · rename_i c1 c2
    simp only [Option.some.injEq] at h
    subst h
    refine ⟨hen, fun w pr vals bs u hG hpr hB hh hu1 _ => ?_⟩
    simp only [HandR] at hh
    obtain ⟨vs, b1, n1, bs1, rfl, rfl, l1, _, hp1, hn1, vs2, b2, n2, bs2, rfl, rfl, l2, _, hp2, hn2, rfl, rfl⟩ := hh
    obtain ⟨v, hv, rfl⟩ := hu1 rfl
    have hv' : v = .iface 75 (.agg #[]) := hv
    subst hv'
    have hne : b1 ≠ b2 := fun e => by subst e; exact hn1 n2 (by simp)
    obtain ⟨cur1, T1, e1, e2, e3, e4, e5, u1, e6, e7⟩ := lies_set l1 (.slice none 0 0)
    obtain ⟨cur2, T2, f1, f2, f3, f4, f5, u2, f6, f7⟩ := lies_set l2 (.int .i64 11)
    refine (catch_oddR ⟨b1, 0, none⟩ ⟨b2, 0, none⟩ u1 u2 w e6 e7 f6 f7 (fun e => hne (by simpa using congrArg Addr.block e))).mono ?_
    rintro e u' w' ⟨rfl, rfl, rfl⟩
    have hB1 := below_alloc w (.cells #[] 75)
    have g1 : (w.alloc (.cells #[] 75)).heap[b1]? = some (.cells cur1 T1 (0, 0)) := by rw [hB1.block b1 (heap_lt e1)]; exact e1
    have g2 : (w.alloc (.cells #[] 75)).heap[b2]? = some (.cells cur2 T2 (0, 0)) := by rw [hB1.block b2 (heap_lt f1)]; exact f1
    rw [setCell_eq_setRow _ b1 0 cur1 T1 (0, 0) (.slice none 0 0) g1]
    have g3 := setRow_heap (w.alloc (.cells #[] 75)) b1 cur1 (cur1.setIfInBounds 0 (.slice none 0 0)) T1 (0, 0) g1
    have g4 : ((w.alloc (.cells #[] 75)).setRow b1 (cur1.setIfInBounds 0 (.slice none 0 0))).heap[b2]? = some (.cells cur2 T2 (0, 0)) := by rw [setRow_other _ b1 b2 _ (fun e => hne e.symm)]; exact g2
    rw [setCell_eq_setRow _ b2 0 cur2 T2 (0, 0) (.int .i64 11) g4]
    have g5 := setRow_heap _ b2 cur2 (cur2.setIfInBounds 0 (.int .i64 11)) T2 (0, 0) g4
    have g6 := (setRow_other ((w.alloc (.cells #[] 75)).setRow b1 (cur1.setIfInBounds 0 (.slice none 0 0))) b2 b1 (cur2.setIfInBounds 0 (.int .i64 11)) hne).trans g3
    refine ⟨_, rfl, rfl, pr, ⟨?_, fun _ _ h => h, fun _ _ h => .inl h, fun b o p => ?_⟩, ⟨[.slice none 0 0], _, T1, g6, by simp [e2], by simpa using e5, ?_, by simp [Value.oneCell']⟩, ⟨[.int .i64 11], _, T2, g5, by simp [f2], by simpa using f5, ?_, by simp [Value.oneCell']⟩, trivial⟩
    · refine BelX.row (BelX.row ((BelX.refl _ w).below hB1) (.inr ⟨n1, by simp⟩) _) (.inr ⟨n2, by simp⟩) _
    · have := hpr b o p
      rw [setRow_size, setRow_size]
      simp
      omega
    · simp only [RdL, Rd]
      exact ⟨_, [], rfl, ⟨[], rfl, ⟨none, 0, rfl, Nat.le_refl _, by simp, by simp [flatV], by simp⟩, rfl⟩, rfl⟩
    · simp only [RdL, Rd]
      exact ⟨_, [], rfl, rfl, rfl⟩
  · rename_i c d
    simp only [Option.some.injEq] at h
    subst h
    refine ⟨hen, fun w pr vals bs u hG hpr hB hh _ hu2 => ?_⟩
    simp only [HandR] at hh
    obtain ⟨vs, b1, n1, bs1, rfl, rfl, l1, _, hp1, hn1, vs2, b2, n2, bs2, rfl, rfl, l2, _, hp2, hn2, rfl, rfl⟩ := hh
    rw [hu2 rfl]
    refine (catch_idleR ⟨b1, 0, none⟩ ⟨b2, 0, none⟩ w).mono ?_
    rintro e u' w' ⟨rfl, rfl, rfl⟩
    exact ⟨_, rfl, rfl, pr, Aft.same (Below.refl _ _) hpr, l1, l2, trivial⟩
  · simp at h
end Go.Proofs.YtdjgdipmjbkilaaGreatDoor.Rx
