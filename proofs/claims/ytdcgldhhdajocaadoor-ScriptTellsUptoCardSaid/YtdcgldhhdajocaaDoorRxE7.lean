/-
  Rx, the script's functions that are told by hand, 7: slices.Insert of edits, in the plain program's words.
-/
import Derived.Test.YtdcgldhhdajocaaDoorRxE5
import Derived.Test.YtdcgldhhdajocaaDoorRxE6
namespace Go.Proofs.YtdcgldhhdajocaaDoor.Rx
open Go Go.RowKit

def insOk (xs : List AV) (i : Int) (y : AV) : Bool := (y :: xs).all (fun y => y.okC && y.cells.length == 3) && decide (0 ≤ i) && decide (i ≤ xs.length) && decide (xs.length ≤ 1099511627776)
def insF : List AV → Option AV
  | [.sl 3 xs .no, .int .i64 i, .sl 3 [y] .no] => if insOk xs i y = true then some (.ins (xs.take i.toNat ++ [y] ++ xs.drop i.toNat)) else none
  | [.sl 3 [] .nil, .int .i64 i, .sl 3 [y] .no] => if insOk [] i y = true then some (.ins [y]) else none
  | _ => none
theorem insOk_iff {xs : List AV} {i : Int} {y : AV} (h : insOk xs i y = true) : (∀ z ∈ y :: xs, z.okC = true) ∧ (∀ z ∈ y :: xs, z.cells.length = 3) ∧ 0 ≤ i ∧ i ≤ xs.length ∧ xs.length ≤ 1099511627776 := by
  simp only [insOk, Bool.and_eq_true, List.all_eq_true, beq_iff_eq, decide_eq_true_eq] at h
  exact ⟨fun z hz => (h.1.1.1 z hz).1, fun z hz => (h.1.1.1 z hz).2, h.1.1.2, h.1.2, h.2⟩
theorem flat_take {k : Nat} : ∀ {xs : List AV} (n : Nat), (∀ y ∈ xs, y.cells.length = k) → (xs.take n).flatMap AV.cells = (xs.flatMap AV.cells).take (n * k)
  | _, 0, _ => by simp
  | [], n + 1, _ => by simp
  | x :: xs, n + 1, h => by
    simp only [List.take_succ_cons, List.flatMap_cons]
    rw [flat_take n (fun y hy => h y (by simp [hy])), Nat.add_mul, Nat.one_mul, List.take_append, h x (by simp), Nat.add_sub_cancel, List.take_of_length_le (l := x.cells) (by rw [h x (by simp)]; omega)]
theorem flat_drop {k : Nat} : ∀ {xs : List AV} (n : Nat), (∀ y ∈ xs, y.cells.length = k) → (xs.drop n).flatMap AV.cells = (xs.flatMap AV.cells).drop (n * k)
  | _, 0, _ => by simp
  | [], n + 1, _ => by simp
  | x :: xs, n + 1, h => by
    simp only [List.drop_succ_cons, List.flatMap_cons]
    rw [flat_drop n (fun y hy => h y (by simp [hy])), Nat.add_mul, Nat.one_mul, List.drop_append, h x (by simp), Nat.add_sub_cancel, List.drop_of_length_le (l := x.cells) (by rw [h x (by simp)]; omega), List.nil_append]
/-- What one element is, as a slice. -/
theorem one_rd {w : World} {pr : Nat → Nat → Prop} {y : AV} {yv : Value} (hy : Rd w (pubG pr) (.sl 3 [y] .no) yv) (hok : y.okC = true) (hl : y.cells.length = 3) :
    ∃ vb vo vc vs, yv = .slice (some ⟨vb, vo, none⟩) 1 vc ∧ vs.length = 3 ∧ (∀ j v, vs[j]? = some v → w.cell? ⟨vb, vo + j, none⟩ = some v ∧ pr vb (vo + j)) ∧ RdL w (pubG pr) y.cells vs ∧ ∀ v ∈ vs, v.oneCell' = true := by
  simp only [Rd, RdL] at hy
  obtain ⟨us, ⟨u, us', rfl, hu, rfl⟩, ⟨a, cap, rfl, _, hk, h1, hc⟩, _⟩ := hy
  obtain ⟨b, o, rfl, hcl⟩ := hc (by simp)
  obtain ⟨c1, c2⟩ := Rd.cells hok hu
  have hf : flatV [u] = u.cells.toList := by simp [flatV]
  rw [hf] at hcl
  exact ⟨b, o, cap, u.cells.toList, rfl, by rw [c1.length, hl], hcl, c1, c2⟩
theorem later_own {w w' : World} {pr : Nat → Nat → Prop} {b : Nat} (hpr : ∀ b o, pr b o → b < w.heap.size) (hnb : ∀ o, ¬ pr b o) (h : BelX (fun k => k = b) w w') : Later w (pubG pr) w' (pubG pr) :=
  ⟨fun b' o p => cell_of_block (h.block b' (hpr b' o p) (fun e => hnb o (by rw [← e]; exact p))) o, fun _ _ h => h, fun _ _ _ h => h, fun _ _ _ h => h, h.ty⟩
theorem rdL_len {w : World} {g : Gh} {xs : List AV} {us : List Value} (h : RdL w g xs us) : us.length = xs.length := h.length

set_option maxRecDepth 4000 in
theorem ins_says (G : World → Prop) (B : Nat) (args : List AV) (r : AV) (h : insF args = some r) : Says (Cxs G B) fIns args r := by
  have hen : Enters (Cxs G B).P fIns := ⟨_, Tryd.func42, by kernel_rfl, by kernel_rfl⟩
  obtain ⟨ti, z, hti, hz, hs3, hb40, hzc⟩ := zE
  unfold insF at h
  split at h
  · rename_i xs i y
    split at h
    · rename_i hok
      simp only [Option.some.injEq] at h
      subst h
      obtain ⟨h1, h2, h3, h4, h5⟩ := insOk_iff hok
      obtain ⟨i, rfl⟩ : ∃ k : Nat, i = k := ⟨i.toNat, by omega⟩
      refine ⟨hen, fun w pr b n cap iv yv hG hpr hBb hnb hn hnc hL hi hy => ?_⟩
      simp only [Rd] at hi
      subst hi
      subst hn
      obtain ⟨vb, vo, vc, vs, rfl, hvl, hvs, hvr, hv1⟩ := one_rd hy (h1 y (by simp)) (h2 y (by simp))
      obtain ⟨us, cur, T, hb, hcs, hct, hur, hu1⟩ := hL
      have hlx : (xs.flatMap AV.cells).length = xs.length * 3 := flat_len (fun z hz => h2 z (by simp [hz]))
      have hul : us.length = xs.length * 3 := by rw [hur.length, hlx]
      have hvb : vb ≠ b := by
        rintro rfl
        exact hnb _ (hvs 0 _ (List.getElem?_eq_getElem (by omega))).2
      have hvs' : ∀ j v, vs[j]? = some v → w.cell? ⟨vb, vo + j, none⟩ = some v := fun j v hj => (hvs j v hj).1
      have hbw : b < w.heap.size := heap_lt hb
      simp only [Int.toNat_natCast]
      have hi' : i ≤ xs.length := by omega
      have hcells : ((xs.take i ++ [y] ++ xs.drop i).flatMap AV.cells) = (xs.flatMap AV.cells).take (i * 3) ++ y.cells ++ (xs.flatMap AV.cells).drop (i * 3) := by
        simp only [List.flatMap_append, List.flatMap_cons, List.flatMap_nil, List.append_nil]
        rw [flat_take i (fun z hz => h2 z (by simp [hz])), flat_drop i (fun z hz => h2 z (by simp [hz]))]
      have hnewl : (xs.take i ++ [y] ++ xs.drop i).length = xs.length + 1 := by simp; omega
      have hrd : ∀ {w'}, Later w (pubG pr) w' (pubG pr) → RdL w' (pubG pr) ((xs.take i ++ [y] ++ xs.drop i).flatMap AV.cells) (us.take (i * 3) ++ vs ++ us.drop (i * 3)) := fun hl => by
        rw [hcells]
        exact RdL.later _ hl (((hur.take _).append hvr).append (hur.drop _))
      have hone : ∀ v ∈ us.take (i * 3) ++ vs ++ us.drop (i * 3), v.oneCell' = true := by
        intro v hv
        simp only [List.mem_append] at hv
        rcases hv with (hv | hv) | hv
        · exact hu1 v (List.mem_of_mem_take hv)
        · exact hv1 v hv
        · exact hu1 v (List.mem_of_mem_drop hv)
      have hct3 : cur.toList.take (xs.length * 3) = us := by rw [← hul]; exact hct
      have hti3 : cur.toList.take (i * 3) = us.take (i * 3) := by rw [← hct3, List.take_take]; congr 1; omega
      have hul' : (us.take (i * 3) ++ vs ++ us.drop (i * 3)).length = (xs.length + 1) * 3 := by simp only [List.length_append, List.length_take, List.length_drop, hul, hvl]; omega
      have h1c : ∀ v ∈ cur.toList.take (xs.length * 3), v.oneCell' = true := by rw [hct3]; exact hu1
      -- each way ends so
      have fini : ∀ {w' : World} {b' cap' : Nat} {new : Array Value} {T' : TypeId}, BelX (fun k => k = b) w w' → (b' = b ∨ w.heap.size ≤ b') → xs.length + 1 ≤ cap' → w'.heap[b']? = some (.cells new T' (0, 0)) → new.size = cap' * 3 → new.toList.take ((xs.length + 1) * 3) = us.take (i * 3) ++ vs ++ us.drop (i * 3) →
          ∃ b2 cap2 pr', Ending.returned (.slice (some ⟨b', 0, none⟩) (xs.length + 1) cap') = .returned (.slice (some ⟨b2, 0, none⟩) (xs.take i ++ [y] ++ xs.drop i).length cap2) ∧ Aft w w' pr pr' (fun k => k = b) ∧ (b2 = b ∨ w.heap.size ≤ b2) ∧ (xs.take i ++ [y] ++ xs.drop i).length ≤ cap2 ∧
            Lies w' (pubG pr') ((xs.take i ++ [y] ++ xs.drop i).flatMap AV.cells) b2 (cap2 * 3) ∧ ∀ o, ¬ pr' b2 o := by
        intro w' b' cap' new T' hB hb' hcap hheap hns hnt
        refine ⟨b', cap', pr, by rw [hnewl], aft_of hB hpr, hb', by rw [hnewl]; exact hcap, ⟨us.take (i * 3) ++ vs ++ us.drop (i * 3), new, T', hheap, hns, by rw [hul']; exact hnt, hrd (later_own hpr hnb hB), hone⟩, fun o hp => ?_⟩
        rcases hb' with rfl | h
        · exact hnb o hp
        · have := hpr b' o hp; omega
      by_cases hend : i = xs.length
      · subst hend
        have hus : us.take (xs.length * 3) = us := List.take_of_length_le (by omega)
        have hdr : us.drop (xs.length * 3) = [] := List.drop_of_length_le (by omega)
        by_cases hroom : xs.length + 1 ≤ cap
        · have hr := run_append_in (P := Tryd.prog) w (ty := tE) utE hti hb (n := xs.length) (cap := cap) (ad := ⟨vb, vo, none⟩) (m := 1) (c := vc) (news := vs) (by rw [hvl, hs3]) (fun j u hj => by rw [Addr.add_lit]; exact hvs' j u hj) hv1 hroom (by rw [hs3, hvl]; omega)
          refine (ins_end hr (fun a ha => by simp only [Option.some.injEq] at ha; subst ha; rfl) (fun h => by simp at h)).mono ?_
          rintro e w' ⟨rfl, rfl⟩
          refine fini (belX_setRow w b _) (.inl rfl) hroom (setRow_heap w b cur _ T (0, 0) hb) ?_ ?_
          · simp only [List.size_toArray, List.length_append, List.length_take, List.length_drop, Array.length_toList, hs3, hvl]
            omega
          · rw [hs3, hct3, hus, hdr, List.append_nil]
            exact List.take_left' (by rw [List.length_append, hul, hvl]; omega)
        · have hold : ∀ j u, us[j]? = some u → w.cell? ((⟨b, 0, none⟩ : Addr).add j) = some u := fun j u hj => by
            rw [Addr.add_mid, Nat.zero_add, cell_of_row w b j cur T (0, 0) hb]
            exact front_get hct hj
          have hr := run_append_grow (P := Tryd.prog) w tE tE 27 ti z utE hti hz ⟨b, 0, none⟩ xs.length cap us (by rw [hul, hs3]) hold ⟨vb, vo, none⟩ 1 vc vs (by rw [hvl, hs3]) (fun j u hj => by rw [Addr.add_lit]; exact hvs' j u hj) (by omega) (by omega) (by rw [hb40]; exact growslice_fits (by omega) (by omega))
          refine (ins_end hr (fun a ha => by simp only [Option.some.injEq] at ha; subst ha; rfl) (fun h => by simp at h)).mono ?_
          rintro e w' ⟨rfl, rfl⟩
          have hge := grownCap_ge w (xs.length + 1) cap 27
          refine fini (BelX.of (below_drew_alloc w _)) (.inr (Nat.le_refl _)) hge (heap_alloc_new w.drew _) ?_ ?_
          · simp only [Array.size_append, List.size_toArray, size_zeroCells, hzc, hul, hvl]
            omega
          · simp only [Array.toList_append]
            rw [hus, hdr, List.append_nil]
            exact List.take_left' (by rw [List.length_append, hul, hvl]; omega)
      · have hlt : i < xs.length := by omega
        by_cases hroom : xs.length + 1 ≤ cap
        · refine (ins_shift (vc := vc) hlt hroom h5 hvb hb hcs hvl hvs' h1c hv1).mono ?_
          rintro e w' ⟨rfl, new, rfl, hns, hnt⟩
          rw [hti3, hct3] at hnt
          have hX : BelX (fun k => k = b) w (w.drew.setRow b new) := by
            have := belX_setRow w b new
            exact ⟨this.os, this.tape, this.output, this.size, this.block, this.ty⟩
          exact fini hX (.inl rfl) hroom (setRow_heap w.drew b cur _ T (0, 0) hb) hns hnt
        · refine (ins_grow (vc := vc) hlt hnc (by omega) (by omega) hb hcs hvl hvs' h1c hv1).mono ?_
          rintro e w' ⟨G, rfl, hG2, hB, new, hheap, hns, hnt⟩
          rw [hti3, hct3] at hnt
          exact fini (BelX.of hB) (.inr (Nat.le_refl _)) hG2 hheap hns hnt
    · simp at h
  · rename_i i y
    split at h
    · rename_i hok
      simp only [Option.some.injEq] at h
      subst h
      obtain ⟨h1, h2, h3, h4, h5⟩ := insOk_iff hok
      have hi0 : i = 0 := by simp at h4; omega
      subst hi0
      refine ⟨hen, fun w pr iv yv hG hpr hi hy => ?_⟩
      simp only [Rd] at hi
      subst hi
      obtain ⟨vb, vo, vc, vs, rfl, hvl, hvs, hvr, hv1⟩ := one_rd hy (h1 y (by simp)) (h2 y (by simp))
      have hvs' : ∀ j v, vs[j]? = some v → w.cell? ⟨vb, vo + j, none⟩ = some v := fun j v hj => (hvs j v hj).1
      have hr := run_append_nil (P := Tryd.prog) w tE tE 27 ti z utE hti hz ⟨vb, vo, none⟩ 1 vc vs (by rw [hvl, hs3]) (fun j u hj => by rw [Addr.add_lit]; exact hvs' j u hj) (by omega) (by omega) (by rw [hb40]; omega)
      refine (ins_end hr (fun a ha => by simp at ha) (fun _ => ⟨rfl, rfl⟩)).mono ?_
      rintro e w' ⟨rfl, rfl⟩
      have hge := grownCap_ge w 1 0 27
      have hB := below_drew_alloc w (.cells (vs.toArray ++ Builtin.zeroCells z.cells (grownCap w 1 0 27 - 1)) 27)
      refine ⟨w.heap.size, _, pr, rfl, aft_of (BelX.of hB) hpr, Nat.le_refl _, hge, ⟨vs, _, _, heap_alloc_new w.drew _, ?_, ?_, ?_, hv1⟩, fun o hp => by have := hpr _ o hp; omega⟩
      · simp only [Array.size_append, List.size_toArray, size_zeroCells, hzc, hvl]
        omega
      · simp only [Array.toList_append]
        exact List.take_left
      · simp only [List.flatMap_cons, List.flatMap_nil, List.append_nil]
        exact RdL.later _ ⟨fun b' o p => cell_of_block (hB.block b' (hpr b' o p)) o, fun _ _ h => h, fun _ _ _ h => h, fun _ _ _ h => h, tyAt_below hB⟩ hvr
    · simp at h
  · simp at h
end Go.Proofs.YtdcgldhhdajocaaDoor.Rx
