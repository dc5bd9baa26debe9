/-
  Functions told by hand: check.
-/
import Derived.Test.YtpkeiffclipjmaaGreatDoorRxFe
import Derived.Deep.RegionHeld3
import Derived.Deep.LoopGhost
namespace Go.Proofs.YtpkeiffclipjmaaGreatDoor.Rx
open Go Go.RowKit
set_option maxRecDepth 100000
set_option linter.unusedSimpArgs false
set_option linter.unusedVariables false

theorem info42p : (Tryz.prog.info? 42).map (fun i => (i.zero, i.size, i.bytes)) = some (some (.agg #[.string ⟨#[]⟩, .int .i64 0, .string ⟨#[]⟩, .bool false]), 4, 48) := by kernel_rfl
theorem info9p : (Tryz.prog.info? 9).map (fun i => (i.zero, i.size, i.bytes)) = some (some (.string ⟨#[]⟩), 1, 16) := by kernel_rfl
theorem ck_turn {w0 W W' : World} {m : Nat} {l : Lim} {rows alls alls' : List It} {va va' : Value} {D : List (List UInt8 × Value)} (h : CkInv w0 m l rows alls va D W) (hgrow : W.grownBy W' va.ownBlock)
    (hown : W'.ownsRow (m + 2) 9 1 va' alls'.length (alls'.map fun x => Go.Proofs.encStr x.path)) (hv : va'.ownBlock = va.ownBlock) : CkInv w0 m l rows alls' va' D W' := by
  have hlt : ∀ k, va.ownBlock = some k → m + 2 ≤ k ∧ k < W.heap.size := fun k hk => h.all.lt k hk
  have hne : va.ownBlock ≠ some m := fun e => by have := hlt _ e; omega
  have hne1 : va.ownBlock ≠ some (m + 1) := fun e => by have := hlt _ e; omega
  have hrow : ∀ q, (rowV D q).ownBlock = none ∨ (rowV D q).ownBlock ≠ va.ownBlock := fun q => by
    cases hk : (rowV D q).ownBlock with
    | none => exact .inl rfl
    | some k => exact .inr (fun e => h.far q k hk e.symm)
  refine ⟨h.below.trans (grown_below hgrow (by have := h.size; omega) (fun k hk => by have := (hlt _ hk).1; omega)), ?_, Nat.le_trans h.size hgrow.size, h.rows.grown hgrow hne hrow, fun q k hq => by rw [hv]; exact h.far q k hq, hown⟩
  rw [hgrow.block _ (by have := h.size; omega) (fun e => hne1 e.symm)]
  exact h.box
abbrev pI (p : List UInt8) : It := ⟨p, 0, [], false⟩
theorem row_form {w : World} {base : Nat} {va : Value} {ss : List (List UInt8)} (h : w.ownsRow base 9 1 va ss.length (ss.map Go.Proofs.encStr)) :
    ∃ a c, va = .slice a ss.length c ∧ ∀ k p, ss[k]? = some p → ∃ g, a = some ⟨g, 0, none⟩ ∧ g < w.heap.size ∧ w.cell? ⟨g, k, none⟩ = some (Go.Proofs.encStr p) := by
  rcases h.2 with ⟨rfl, h0⟩ | ⟨g, cap, cur, rfl, hb, hgg, hnc, hcm, hcs, htake⟩
  · obtain rfl := List.eq_nil_of_length_eq_zero h0
    exact ⟨none, 0, rfl, fun k p hp => by simp at hp⟩
  · refine ⟨_, cap, rfl, fun k p hp => ⟨g, rfl, heap_lt hgg, ?_⟩⟩
    have := h.cells (g := g) rfl k (Go.Proofs.encStr p) (by rw [List.getElem?_map, hp]; rfl)
    have hadd : (⟨g, 0, none⟩ : Addr).add k = ⟨g, k, none⟩ := by unfold Addr.add; split <;> simp_all
    rwa [hadd] at this
theorem firstF_step (f : List UInt8 → Int) (ss : List (List UInt8)) (k : Nat) (p : List UInt8) (hp : ss[k]? = some p) : firstF f (ss.drop k) = if f p ≠ 0 then (p, f p) else firstF f (ss.drop (k + 1)) := by
  obtain ⟨hk, rfl⟩ := List.getElem?_eq_some_iff.1 hp
  rw [List.drop_eq_getElem_cons hk, firstF]
theorem map_start (w : World) (l : Lim) (m : Nat) (hm : m = w.heap.size + 1) (W1 : World) (hW1 : W1 = ((w.alloc (.cells #[.int .i64 l.depth, .int .i64 l.size, .int .i64 l.count] 25)).alloc (.map #[] 0)).alloc (.cells #[.map (some (w.heap.size + 1)), .int .i64 l.depth, .int .i64 l.size, .int .i64 l.count] 89)) :
    CkInv (w.alloc (.cells #[.int .i64 l.depth, .int .i64 l.size, .int .i64 l.count] 25)) m l [] [] nilV [] W1 := by
  subst hm
  have s0 : (w.alloc (.cells #[.int .i64 l.depth, .int .i64 l.size, .int .i64 l.count] 25)).heap.size = w.heap.size + 1 := by simp
  refine CkInv.start _ _ l W1 ?_ ?_ ?_ ?_
  · rw [hW1]
    exact ((Below.refl _ _).alloc (by rw [s0]; exact Nat.le_refl _) _).alloc (by simp) _
  · rw [hW1]; simp
  · rw [hW1]; exact Er.hNew _ _ (by simp)
  · rw [hW1]
    have := (mkmap_is (w.alloc (.cells #[.int .i64 l.depth, .int .i64 l.size, .int .i64 l.count] 25))).grown (World.grownBy_alloc _ (.cells #[.map (some (w.heap.size + 1)), .int .i64 l.depth, .int .i64 l.size, .int .i64 l.count] 89) none) (by simp)
    rwa [s0] at this
/-- What check gives, in memory. -/
def ChkV (w' : World) (r : List UInt8 × Int) (ev : Value) : Prop :=
  (r = ([], 0) ∧ ev = .nilIface) ∨ ∃ eb, ev = .iface 80 (.pointer (some ⟨eb, 0, none⟩)) ∧ w'.cell? ⟨eb, 0, none⟩ = some (sV r.1) ∧ w'.cell? ⟨eb, 1, none⟩ = some (.iface 85 (.int .i64 r.2))
theorem check_walk (a : Option Addr) (cap : Nat) (its : List It) (l : Lim) (w : World) (hG : Gs w) (hr : ItRow w a its cap) (hn : its.length ≤ bigP) (hp : ∀ x ∈ its, x.path.length ≤ bigT) (hc : (its.length : Int) ≤ l.count) :
    Calls Tryz.prog 34 #[.slice a its.length cap, limV l] w fun e w' => ∃ ev, e = .returned ev ∧ Below w.heap.size w w' ∧ ChkV w' (checkG its l [] 0 its) ev := by
  have mixed := mixed_
  have hmk := fun w => mkmap_run w
  have hc' : ¬ (its.length : Int) > l.count := by omega
  obtain ⟨m, hm⟩ : ∃ m, m = w.heap.size + 1 := ⟨_, rfl⟩
  obtain ⟨W1, hW1⟩ : ∃ W1, W1 = ((w.alloc (.cells #[.int .i64 l.depth, .int .i64 l.size, .int .i64 l.count] 25)).alloc (.map #[] 0)).alloc (.cells #[.map (some (w.heap.size + 1)), .int .i64 l.depth, .int .i64 l.size, .int .i64 l.count] 89) := ⟨_, rfl⟩
  have I0 : Hid (CkInv (w.alloc (.cells #[.int .i64 l.depth, .int .i64 l.size, .int .i64 l.count] 25)) m l [] [] nilV [] W1) := map_start w l m hm W1 hW1
  obtain ⟨w0, hw0⟩ : ∃ w0, w0 = w.alloc (.cells #[.int .i64 l.depth, .int .i64 l.size, .int .i64 l.count] 25) := ⟨_, rfl⟩
  have hb0 : Below w.heap.size w w0 := by rw [hw0]; exact (Below.refl _ w).alloc (Nat.le_refl _) _
  have B0 : Hid (Below w.heap.size w w0) := hb0
  rw [← hw0] at I0
  have S0 : Hid (w0.heap.size = w.heap.size + 1) := by show _ = _; rw [hw0]; simp
  have N : Hid (its.length ≤ bigP) := hn
  have Pp : Hid (∀ x ∈ its, x.path.length ≤ bigT) := hp
  have R : Hid (ItRow w a its cap) := hr
  have M : Hid (m = w.heap.size + 1) := hm
  have MW : Hid (W1 = ((w.alloc (.cells #[.int .i64 l.depth, .int .i64 l.size, .int .i64 l.count] 25)).alloc (.map #[] 0)).alloc (.cells #[.map (some (w.heap.size + 1)), .int .i64 l.depth, .int .i64 l.size, .int .i64 l.count] 89)) := hW1
  have hn' : its.length ≤ 1099511627776 := hn
  clear hn hp hr hm hW1 hw0 hb0
  go_enter Tryz.func34, Tryz.ntmps34
  go_wp2
  rw [← MW.out, ← M.out]
  go_loopg [6, 23] its.length (fun g va i wr => ∃ (k : Nat) (D : List (List UInt8 × Value)), k ≤ its.length ∧ its.length - k ≤ g ∧ i = .int .i64 k ∧ CkInv w0 m l (its.take k) (its.take k) va D wr)
  case atStart => exact ⟨0, [], Nat.zero_le _, by omega, rfl, I0.out⟩
  case round =>
    obtain ⟨k, D, hk, hg, rfl, hI⟩ := hrel
    by_cases hlt : k < its.length
    · have hlt' : (k : Int) < (its.length : Int) := by omega
      obtain ⟨x, hx⟩ : ∃ x, its[k]? = some x := ⟨_, List.getElem?_eq_getElem hlt⟩
      obtain ⟨b, o, rfl, hb, hcells⟩ := R.out.row (fun e => by rw [e] at hlt; simp at hlt)
      have hcell : ∀ i v, (encI x)[i]? = some v → wr.cell? ⟨b, o + k * 4 + i, none⟩ = some v := fun i v hv => ((B0.out.trans (hI.below.mono (by have := M.out; omega))).cell (p := ⟨b, o + k * 4 + i, none⟩) hb).trans (hcells k x i v hx hv)
      have c0 : wr.cell? ⟨b, o + k * 4, none⟩ = some (.string ⟨x.path.toArray⟩) := hcell 0 _ rfl
      have c1 : wr.cell? ⟨b, o + k * 4 + 1, none⟩ = some (.int .i64 x.kind) := hcell 1 _ rfl
      have c2 : wr.cell? ⟨b, o + k * 4 + 2, none⟩ = some (.string ⟨x.data.toArray⟩) := hcell 2 _ rfl
      have c3 : wr.cell? ⟨b, o + k * 4 + 3, none⟩ = some (.bool x.bad) := hcell 3 _ rfl
      have X : Hid (its[k]? = some x) := hx
      have I : Hid (CkInv w0 m l (its.take k) (its.take k) u6 D wr) := hI
      clear hcell hcells hx hI
      have hxl : (atP (its.take k) x.path).length ≤ its.length := Nat.le_trans (List.length_filter_le _ _) (by simp; omega)
      obtain ⟨WB, hWB⟩ : ∃ WB, WB = wr.alloc (.cells #[.string ⟨x.path.toArray⟩, .int .i64 x.kind, .string ⟨x.data.toArray⟩, .bool x.bad] 42) := ⟨_, rfl⟩
      obtain ⟨W2, hW2⟩ : ∃ W2, W2 = (WB.alloc (.cells #[.string ⟨x.path.toArray⟩, .int .i64 x.kind, .string ⟨x.data.toArray⟩, .bool x.bad] 42)).drew := ⟨_, rfl⟩
      have gB : wr.grownBy WB none := by rw [hWB]; exact World.grownBy_alloc _ _ none
      have g2 : wr.grownBy W2 none := by rw [hW2]; exact grown_trans (grown_trans gB (World.grownBy_alloc _ _ none)) (grown_drew _)
      have hM1 : MapIs WB.drew m D := I.out.rows.map.grown (grown_trans gB (grown_drew _)) (by simp)
      have hM2 : MapIs W2 m D := I.out.rows.map.grown g2 (by simp)
      have hLk : ∀ W', MapIs W' m D → (Instr.lookup 87 (.map (some m)) (.string ⟨x.path.toArray⟩) false).run Tryz.prog W' = .ok (rowV D x.path) W' := fun W' h => vget_run (P := Tryz.prog) (t := 87) Tryz.underlying87 Tryz.underlying9 (et := 22) (z := .slice none 0 0) (by kernel_rfl) h x.path
      have sB : WB.heap.size = wr.heap.size + 1 := by rw [hWB]; simp
      have s2 : W2.heap.size = wr.heap.size + 2 := by rw [hW2]; simp [sB]
      have szr := I.out.size
      have k1 : WB.heap[m + 1]? = some (.cells (treeC m l) 89 (0, 0)) := (gB.block _ (by omega) (by simp)).trans I.out.box
      have k2 : WB.heap[wr.heap.size]? = some (.cells #[.string ⟨x.path.toArray⟩, .int .i64 x.kind, .string ⟨x.data.toArray⟩, .bool x.bad] 42 (0, 0)) := by rw [hWB]; exact Er.hNew _ _ rfl
      have k1' : W2.heap[m + 1]? = some (.cells (treeC m l) 89 (0, 0)) := by rw [hW2]; exact (Er.hOld _ _ (by omega)).trans k1
      have k2' : W2.heap[wr.heap.size]? = some (.cells #[.string ⟨x.path.toArray⟩, .int .i64 x.kind, .string ⟨x.data.toArray⟩, .bool x.bad] 42 (0, 0)) := by rw [hW2]; exact (Er.hOld _ _ (by omega)).trans k2
      have HS : Hid (∀ W : World, W.heap[m + 1]? = some (.cells (treeC m l) 89 (0, 0)) → W.heap[wr.heap.size]? = some (.cells #[.string ⟨x.path.toArray⟩, .int .i64 x.kind, .string ⟨x.data.toArray⟩, .bool x.bad] 42 (0, 0)) →
          W.cell? ⟨m + 1, 0, none⟩ = some (.map (some m)) ∧ W.cell? ⟨wr.heap.size, 0, none⟩ = some (.string ⟨x.path.toArray⟩) ∧ W.cell? ⟨wr.heap.size, 1, none⟩ = some (.int .i64 x.kind) ∧ W.cell? ⟨wr.heap.size, 2, none⟩ = some (.string ⟨x.data.toArray⟩) ∧ W.cell? ⟨wr.heap.size, 3, none⟩ = some (.bool x.bad)) := fun W h1 h2 =>
        ⟨by rw [Er.cell_heap h1]; rfl, by rw [Er.cell_heap h2]; rfl, by rw [Er.cell_heap h2]; rfl, by rw [Er.cell_heap h2]; rfl, by rw [Er.cell_heap h2]; rfl⟩
      have lk1 := hLk _ hM1
      have lk2 := hLk _ hM2
      have K1 : Hid (_ ∧ _) := ⟨k1, k2⟩
      have K2 : Hid (_ ∧ _) := ⟨k1', k2'⟩
      have hown2 : W2.ownsRow (m + 2) 42 4 (rowV D x.path) (atP (its.take k) x.path).length ((atP (its.take k) x.path).flatMap encI) := (I.out.rows.grown g2 (by simp) (fun q => by cases (rowV D q).ownBlock <;> simp)).row x.path
      have hnews : ∀ j u, (encI x)[j]? = some u → W2.cell? ((⟨WB.heap.size, 0, none⟩ : Addr).add j) = some u := by
        rw [hW2]
        exact World.news_of_block (cs := (encI x).toArray) (t := 42) (fr := (0, 0)) (heap_alloc_new WB _)
      have hone : ∀ u ∈ encI x, u.oneCell' = true := by simp [encI, Value.oneCell']
      obtain ⟨i0, hi0, hz0, hz1, hz2⟩ := info_parts info42p
      have hne : (rowV D x.path).ownBlock ≠ some m := fun e => by have := (hown2.lt _ e).1; omega
      have hne1 : (rowV D x.path).ownBlock ≠ some (m + 1) := fun e => by have := (hown2.lt _ e).1; omega
      have hneB : (rowV D x.path).ownBlock ≠ some wr.heap.size := fun e => by have := ((I.out.rows.row x.path).lt _ e).2; omega
      have hm' : (atP (its.take k) x.path).length + 1 ≤ maxLen := by simp only [maxLen]; omega
      have hby : ((atP (its.take k) x.path).length + 1) * 48 ≤ 140737488355328 := by omega
      have hbs : m + 2 ≤ W2.heap.size := by omega
      have G2 : Hid (wr.grownBy W2 none) := g2
      have HB : Hid (WB = wr.alloc (.cells #[.string ⟨x.path.toArray⟩, .int .i64 x.kind, .string ⟨x.data.toArray⟩, .bool x.bad] 42)) := hWB
      have H2 : Hid (W2 = (WB.alloc (.cells #[.string ⟨x.path.toArray⟩, .int .i64 x.kind, .string ⟨x.data.toArray⟩, .bool x.bad] 42)).drew) := hW2
      have S2 : Hid (W2.heap.size = wr.heap.size + 2) := s2
      have SB : Hid (WB.heap.size = wr.heap.size + 1) := sB
      have Z0 : Hid (i0.zero = _) := hz0
      have Z1 : Hid (i0.size = _) := hz1
      have Z2 : Hid (i0.bytes = _) := hz2
      have I0' : Hid (Tryz.prog.info? 42 = some i0) := hi0
      have SZ : Hid (m + 2 ≤ wr.heap.size) := szr
      obtain ⟨i9, hi9, hy0, hy1, hy2⟩ := info_parts info9p
      have Y0 : Hid (i9.zero = _) := hy0
      have Y1 : Hid (i9.size = _) := hy1
      have Y2 : Hid (i9.bytes = _) := hy2
      have I9 : Hid (Tryz.prog.info? 9 = some i9) := hi9
      have hkl : (its.take k).length + 1 ≤ maxLen := by simp only [maxLen]; simp; omega
      have hkb : ((its.take k).length + 1) * 16 ≤ 140737488355328 := by simp; omega
      clear hy0 hy1 hy2 hi9 hWB hW2 gB g2 sB s2 szr hz0 hz1 hz2 hi0 hxl k1 k2 k1' k2' hM1 hM2 hLk
      go_wp2
      rw [← HB.out]
      rw [H2.out] at lk2 hown2 hnews
      have S2' := S2.out
      rw [H2.out] at S2' hbs
      go_region_held3 (fun w' => w'.cell? ⟨m + 1, 0, none⟩ = some (.map (some m)) ∧ w'.cell? ⟨wr.heap.size, 0, none⟩ = some (.string ⟨x.path.toArray⟩) ∧ w'.cell? ⟨wr.heap.size, 1, none⟩ = some (.int .i64 x.kind) ∧ w'.cell? ⟨wr.heap.size, 2, none⟩ = some (.string ⟨x.data.toArray⟩) ∧ w'.cell? ⟨wr.heap.size, 3, none⟩ = some (.bool x.bad))
        (first
          | (exact HS.out _ K1.out.1 K1.out.2)
          | (exact HS.out _ (H2.out ▸ K2.out.1) (H2.out ▸ K2.out.2))
          | (exact S3.out)
          | (exact S4.out))
        ((refine step_append_lies _ (by rfl) _ _ _ (by rfl) (m + 2) 42 i0 _ 4 48 Tryz.underlying22 I0'.out Z0.out Z1.out Z2.out (by rfl) (by omega) (rowV D x.path) (atP (its.take k) x.path).length ((atP (its.take k) x.path).flatMap encI) (by rfl) hown2
            ⟨WB.heap.size, 0, none⟩ 1 1 (encI x) (by rfl) (by rfl) hnews hone (by omega) hm' hby hbs (wr.heap.size + 2) S2' ?_; intro g cap1 w3 hown3 hgrow hat hlt3; rw [← H2.out] at hgrow;
            have k13 := (hgrow.block (m + 1) (by rw [S2.out]; omega) (fun e => hne1 e.symm)).trans K2.out.1;
            have k23 := (hgrow.block wr.heap.size (by rw [S2.out]; omega) (fun e => hneB e.symm)).trans K2.out.2;
            have S3 : Hid (_ ∧ _) := HS.out w3 k13 k23;
            obtain ⟨w4, hrun, hI4, hs4, hf4⟩ := ck_put I.out G2.out x hown3 hgrow (by rw [S2.out]; exact hat);
            have k14 := (hf4 (m + 1) (by omega)).trans k13;
            have k24 := (hf4 wr.heap.size (by have := SZ.out; omega)).trans k23;
            have S4 : Hid (_ ∧ _) := HS.out w4 k14 k24;
            have I4 : Hid (CkInv _ _ _ _ _ _ _ _) := hI4;
            clear k13 k23 k14 k24 hs4 hf4 hI4 hown3 hgrow hat hlt3))
      all_goals
        have e0 : w4.cell? ⟨wr.heap.size, 0, none⟩ = some (.string ⟨x.path.toArray⟩) := S4.out.2.1
        clear S3 S4 hrun lk1 lk2 hown2 hnews S2' K1 K2 HS
        obtain ⟨WC, hWC⟩ : ∃ WC, WC = w4.alloc (.cells #[.string ⟨x.path.toArray⟩] 9) := ⟨_, rfl⟩
        have gC : w4.grownBy WC none := by rw [hWC]; exact World.grownBy_alloc _ _ none
        have hownC := (I4.out.grown gC).all
        have hnC : ∀ j u, [Value.string ⟨x.path.toArray⟩][j]? = some u → WC.cell? ((⟨w4.heap.size, 0, none⟩ : Addr).add j) = some u := by
          rw [hWC]
          exact World.news_of_block (cs := #[Value.string ⟨x.path.toArray⟩]) (t := 9) (fr := (0, 0)) (heap_alloc_new w4 _)
        have hbC : m + 2 ≤ WC.heap.size := (I4.out.grown gC).size
        have GC : Hid (w4.grownBy WC none) := gC
        have HC : Hid (WC = w4.alloc (.cells #[.string ⟨x.path.toArray⟩] 9)) := hWC
        have SC : Hid (WC.heap.size = w4.heap.size + 1) := by show _ = _; rw [hWC]; simp
        clear gC hWC
        rw [HC.out] at hownC hnC hbC
        go_wp2_with (at_builtin; refine wpList_append_lies _ rfl _ _ _ rfl (m + 2) 9 i9 _ 1 16 Tryz.underlying40 I9.out Y0.out Y1.out Y2.out (by rfl) (by omega) u6 (its.take k).length ((its.take k).map fun x => Go.Proofs.encStr x.path) rfl hownC ⟨w4.heap.size, 0, none⟩ 1 1 [.string ⟨x.path.toArray⟩] rfl rfl hnC (by simp [Value.oneCell']) (by omega) hkl hkb hbC (w4.heap.size + 1) (by simp) ?_; intro g5 cap5 w5 hown5 hgrow5 hat5 hlt5)
        go_roundg (its.length - (k + 1))
        case measure => omega
        case rel =>
          have ht : its.take (k + 1) = its.take k ++ [x] := by rw [List.take_add_one, X.out]; rfl
          rw [← HC.out] at hgrow5
          have h5 := ck_all I4.out GC.out x (v' := .slice (some ⟨g5, 0, none⟩) ((its.take k).length + 1) cap5) rfl hown5 hgrow5 (by rw [SC.out]; exact hat5)
          have hkk : (its.take k).length = k := by simp; omega
          rw [hkk] at h5
          exact ⟨k + 1, _, by omega, Nat.le_refl _, by go_num, by rw [ht]; exact h5⟩
    · have hkn : k = its.length := by omega
      subst hkn
      rw [List.take_length] at hI
      have hz : ∀ z ∈ its.map It.path, z.length ≤ bigP := fun z hz => by
        obtain ⟨x, hx, rfl⟩ := List.mem_map.1 hz
        have := Pp.out x hx
        have : bigT = 4294967280 := rfl
        have : bigP = 1099511627776 := rfl
        omega
      have hall := hI.all
      have e1 : (its.map fun x => Go.Proofs.encStr x.path) = (its.map It.path).map Go.Proofs.encStr := by rw [List.map_map]; rfl
      have e2 : its.length = (its.map It.path).length := by simp
      rw [e1, e2] at hall
      have hS := sort_paths (its.map It.path) hz (by rw [← e2]; exact N.out) u6 wr (m + 2) hall
      have I : Hid (CkInv w0 m l its its u6 D wr) := hI
      clear hI hall e1 e2 hz
      go_wp2_with (first
        | (go_at_call 52
           refine hS.mono ?_
           rintro e W1' ⟨rfl, ss, hperm, hsort, hownS, hgrowS⟩
           have hCo := compact_paths ss (by rw [hperm.length_eq]; simpa using N.out) u6 W1' (m + 2) hownS
           have J1 : Hid (CkInv w0 m l its (ss.map pI) u6 D W1') := ck_turn I.out hgrowS (by rw [List.length_map, List.map_map]; exact hownS) rfl
           have Pm : Hid (ss.Perm (its.map It.path) ∧ ss.Pairwise fun a b => cmpS a b ≤ 0) := ⟨hperm, hsort⟩
           clear hperm hsort hownS hgrowS hS)
        | (go_at_call 54
           refine hCo.mono ?_
           rintro e Wc ⟨va, rfl, hownC, hvC, hgrowC⟩
           have J2 : Hid (CkInv w0 m l its ((Lib.compact ss).map pI) va D Wc) := ck_turn J1.out hgrowC (by rw [List.length_map, List.map_map]; exact hownC) hvC
           obtain ⟨aa, cc, rfl, hcell⟩ := row_form hownC
           have Cl : Hid (∀ k p, (Lib.compact ss)[k]? = some p → ∃ g, aa = some ⟨g, 0, none⟩ ∧ g < Wc.heap.size ∧ Wc.cell? ⟨g, k, none⟩ = some (Go.Proofs.encStr p)) := hcell
           have Fi : Hid (checkG its l [] 0 its = firstF (faultF its l) (Lib.compact ss)) := check_first its l (Lib.compact ss) (Pm.out.2.sublist (compact_sub ss)) (fun p => by rw [compact_mem, Pm.out.1.mem_iff])
           have Me : Hid (∀ p, p ∈ Lib.compact ss → p.length ≤ bigT) := fun p hp => by
             obtain ⟨x, hx, rfl⟩ := List.mem_map.1 (Pm.out.1.mem_iff.1 ((compact_mem ss p).1 hp))
             exact Pp.out x hx
           have Ln : Hid ((Lib.compact ss).length ≤ its.length) := by
             have := compact_len ss
             have h2 := Pm.out.1.length_eq
             show _ ≤ _
             rw [List.length_map] at h2
             omega
           clear hownC hvC hgrowC hcell hCo J1 Pm))
      generalize Lib.compact ss = ps at *
      have Bw : Hid (∀ W, Below Wc.heap.size Wc W → Below w.heap.size w W) := fun W h => (B0.out.trans (J2.out.below.mono (by have := M.out; omega))).trans (h.mono (by have := M.out; have := J2.out.size; omega))
      have Rw : Hid (∀ W, Below Wc.heap.size Wc W → MapIs W m D ∧ (∀ q, RowAt W D q (atP its q)) ∧ W.heap[m + 1]? = some (.cells (treeC m l) 89 (0, 0))) := fun W h =>
        ⟨J2.out.rows.map.below h, fun q => (J2.out.rows.at N.out q).below h, (h.block _ (by have := J2.out.size; omega)).trans J2.out.box⟩
      have Ln' : ps.length ≤ 1099511627776 := Nat.le_trans Ln.out hn'
      clear hlt hk hg J2 I hmk
      go_loopg [50] ps.length (fun g i w2 => ∃ k : Nat, k ≤ ps.length ∧ ps.length - k ≤ g ∧ i = .int .i64 k ∧ Below Wc.heap.size Wc w2 ∧ firstF (faultF its l) (ps.drop k) = checkG its l [] 0 its)
      case atStart => exact ⟨0, Nat.zero_le _, by omega, rfl, Below.refl _ _, Fi.out.symm⟩
      case round =>
        obtain ⟨k, hk, hg, rfl, hB, hF⟩ := hrel
        have HF : Hid (firstF (faultF its l) (ps.drop k) = checkG its l [] 0 its) := hF
        have HB : Hid (Below Wc.heap.size Wc wr) := hB
        clear hF hB
        by_cases hlt : k < ps.length
        · have hlt' : (k : Int) < (ps.length : Int) := by omega
          obtain ⟨p, hp⟩ : ∃ p, ps[k]? = some p := ⟨_, List.getElem?_eq_getElem hlt⟩
          obtain ⟨g, rfl, hgl, hgc⟩ := Cl.out k p hp
          have gc : wr.cell? ⟨g, k, none⟩ = some (.string ⟨p.toArray⟩) := (HB.out.cell (p := ⟨g, k, none⟩) hgl).trans hgc
          obtain ⟨hMap, hRow, hBox⟩ := Rw.out wr HB.out
          have t0 : wr.cell? ⟨m + 1, 0, none⟩ = some (.map (some m)) := by rw [Er.cell_heap hBox]; rfl
          have t1 : wr.cell? ⟨m + 1, 1, none⟩ = some (.int .i64 l.depth) := by rw [Er.cell_heap hBox]; rfl
          have t2 : wr.cell? ⟨m + 1, 2, none⟩ = some (.int .i64 l.size) := by rw [Er.cell_heap hBox]; rfl
          have t3 : wr.cell? ⟨m + 1, 3, none⟩ = some (.int .i64 l.count) := by rw [Er.cell_heap hBox]; rfl
          have hFa := fault_call m l p D (atP its p) (atP its (dirF p)) wr (hG.below (Bw.out wr HB.out)) (Me.out p (List.mem_of_getElem? hp)) hMap (hRow p) (hRow (dirF p))
          rw [faultE_eq] at hFa
          have hSt := firstF_step (faultF its l) ps k p hp
          rw [HF.out] at hSt
          have HP : Hid (ps[k]? = some p) := hp
          clear hMap hRow hBox hgc hgl hp
          generalize faultF its l p = c at hFa hSt
          by_cases h0 : c = 0
          · subst h0
            rw [if_neg (by simp)] at hSt
            have HSt : Hid (checkG its l [] 0 its = firstF (faultF its l) (ps.drop (k + 1))) := hSt
            have he : errV 0 = .nilIface := rfl
            rw [he] at hFa
            clear hSt he
            go_wp2_with (
              go_at_call 55
              refine hFa.mono ?_
              rintro e w7 ⟨rfl, hb7⟩
              have B7 : Hid (Below wr.heap.size wr w7) := hb7
              clear hb7 hFa)
            go_roundg (ps.length - (k + 1))
            case measure => omega
            case rel => exact ⟨k + 1, by omega, Nat.le_refl _, by go_num, HB.out.trans (B7.out.mono HB.out.size), HSt.out.symm⟩
          · rw [if_pos h0] at hSt
            have HSt : Hid (checkG its l [] 0 its = (p, c)) := hSt
            have he : errV c = .iface 85 (.int .i64 c) := if_neg h0
            rw [he] at hFa
            clear hSt he h0
            go_wp2_with (
              go_at_call 55
              refine hFa.mono ?_
              rintro e w7 ⟨rfl, hb7⟩
              have B7 : Hid (Below wr.heap.size wr w7) := hb7
              clear hb7 hFa)
            go_ret
            have hb7 : Below w.heap.size w w7 := Bw.out w7 (HB.out.trans (B7.out.mono HB.out.size))
            have hN : (w7.alloc (.cells #[sV p, .iface 85 (.int .i64 c)] 84)).heap[w7.heap.size]? = some (.cells #[sV p, .iface 85 (.int .i64 c)] 84 (0, 0)) := Er.hNew _ _ rfl
            exact ⟨_, rfl, hb7.alloc hb7.size _, .inr ⟨w7.heap.size, rfl, by rw [HSt.out, Er.cell_heap hN]; rfl, by rw [HSt.out, Er.cell_heap hN]; rfl⟩⟩
        · have hkn : k = ps.length := by omega
          subst hkn
          go_wp2
          go_ret
          exact ⟨_, rfl, Bw.out wr HB.out, .inl ⟨by rw [← HF.out, List.drop_length]; rfl, rfl⟩⟩
theorem treecheck_call (its : List It) (l : Lim) (a : Option Addr) (cap : Nat) (w : World) (hG : Gs w) (hr : ItRow w a its cap) (hn : its.length ≤ bigP) (hp : ∀ x ∈ its, x.path.length ≤ bigT) :
    Calls Tryz.prog 15 #[.slice a its.length cap, limV l] w fun e w' => e = .returned (.agg #[sV (checkF its l).1, .int .i64 (checkF its l).2]) ∧ Below w.heap.size w w' := by
  have hG' : ∀ {W}, Below (chkW w l).heap.size (chkW w l) W → Gs W := fun {W} hb => hG.below ((((Below.refl _ w).alloc (Nat.le_refl _) _).alloc (by simp) _).trans (hb.mono (by simp [chkW]; omega)))
  have hb0 : Below w.heap.size w (chkW w l) := ((Below.refl _ w).alloc (Nat.le_refl _) _).alloc (by simp) _
  unfold checkF
  by_cases hc : l.count < its.length
  · rw [if_pos hc]
    refine Check_by a its.length cap l ⟨#[]⟩ 8 w ?_
    refine (check_many a its.length cap l (chkW w l) hc).mono ?_
    rintro e w' ⟨rfl, hb⟩
    exact ⟨_, rfl, hb, Er.told_code 8 w' (hG' hb).eg⟩
  · rw [if_neg hc]
    refine Check_by a its.length cap l ⟨(checkG its l [] 0 its).1.toArray⟩ (checkG its l [] 0 its).2 w ?_
    refine (check_walk a cap its l (chkW w l) (hG.below hb0) (hr.below hb0) hn hp (by omega)).mono ?_
    rintro e w' ⟨ev, rfl, hb, ⟨h1, rfl⟩ | ⟨eb, rfl, h1, h2⟩⟩
    · refine ⟨_, rfl, hb, ?_⟩
      rw [h1]
      exact Er.told_nil w'
    · exact ⟨_, rfl, hb, Er.told_at _ _ eb w' (hG' hb).eg h1 h2⟩
def checkE : List AV → Option AV
  | [.sl 4 l _, .agg [.int .i64 d, .int .i64 s, .int .i64 c]] => match itsOf l with
    | some t => if t.length ≤ bigP ∧ ∀ x ∈ t, x.path.length ≤ bigT then some (ftA (checkF t ⟨d, s, c⟩)) else none
    | none => none
  | _ => none
theorem Check_says (args : List AV) (r : AV) (h : checkE args = some r) : Says C4 15 args r := by
  have hen : Enters C4.P 15 := ⟨_, Tryz.func15, by kernel_rfl, by kernel_rfl⟩
  unfold checkE at h
  split at h
  · rename_i l pm d s c
    split at h
    · rename_i t ht
      split at h
      · rename_i hn
        simp only [Option.some.injEq] at h
        obtain rfl := itsOf_eq ht
        subst h
        refine ⟨hen, fun w pr vals bs hG hpr hB hh => ?_⟩
        simp only [HandR] at hh
        obtain ⟨v, vs, rfl, hv, v2, vs2, rfl, hv2, rfl, rfl⟩ := hh
        have hv2 : v2 = limV ⟨d, s, c⟩ := by
          simp only [Rd, RdL] at hv2
          obtain ⟨us, rfl, ⟨u1, us1, e1, rfl, u2, us2, rfl, rfl, u3, us3, rfl, rfl, rfl⟩, _⟩ := hv2
          rw [limV, ← e1]
        subst hv2
        obtain ⟨a, cap, rfl, hr⟩ := ItRow.of hpr hv
        refine (treecheck_call t ⟨d, s, c⟩ a cap w hG hr hn.1 hn.2).mono ?_
        rintro e w' ⟨rfl, hb⟩
        refine ⟨pr, Aft.same hb hpr, ?_⟩
        simp only [Rd, RdL, ftA]
        exact ⟨_, rfl, ⟨_, _, rfl, rfl, _, _, rfl, rfl, rfl⟩, by simp [Value.oneCell']⟩
      · simp at h
    · simp at h
  · simp at h
end Go.Proofs.YtpkeiffclipjmaaGreatDoor.Rx
