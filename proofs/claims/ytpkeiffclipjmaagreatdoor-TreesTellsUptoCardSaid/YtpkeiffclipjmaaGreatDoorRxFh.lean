/-
  Functions told by hand: DeleteFunc, List.
-/
import Derived.Test.YtpkeiffclipjmaaGreatDoorRxFi
namespace Go.Proofs.YtpkeiffclipjmaaGreatDoor.Rx
open Go Go.RowKit
set_option maxRecDepth 100000
set_option linter.unusedSimpArgs false
set_option linter.unusedVariables false

/-- Items whose paths are not too long. -/
abbrev ItS := {x : It // x.path.length ≤ bigT}
instance : Inhabited ItS := ⟨⟨⟨[], 0, [], false⟩, by show 0 ≤ _; omega⟩⟩
/-- What a row of its own holds. -/
def RowIs (W : World) (g cap : Nat) (L : List It) : Prop := ∃ cur, W.heap[g]? = some (.cells cur 42 (0, 0)) ∧ cur.size = cap * 4 ∧ cur.toList.take (L.length * 4) = L.flatMap encI
theorem flat_set : ∀ (L : List It) (i : Nat) (x : It), i < L.length →
    ((((L.flatMap encI).set (i * 4) (.string ⟨x.path.toArray⟩)).set (i * 4 + 1) (.int .i64 x.kind)).set (i * 4 + 2) (.string ⟨x.data.toArray⟩)).set (i * 4 + 3) (.bool x.bad) = (L.set i x).flatMap encI
  | [], i, x, h => by simp at h
  | y :: L, 0, x, h => by simp [encI]
  | y :: L, i + 1, x, h => by
    have ih := flat_set L i x (by simpa using h)
    have e : ∀ (l : List Value) (k : Nat) (v : Value), (encI y ++ l).set (k + 4) v = encI y ++ l.set k v := fun l k v => by
      rw [List.set_append_right _ _ (by rw [encI_len]; omega), encI_len, Nat.add_sub_cancel]
    rw [List.flatMap_cons, List.set_cons_succ, List.flatMap_cons, ← ih, show (i + 1) * 4 = i * 4 + 4 by omega, show i * 4 + 4 + 1 = (i * 4 + 1) + 4 by omega, show i * 4 + 4 + 2 = (i * 4 + 2) + 4 by omega, show i * 4 + 4 + 3 = (i * 4 + 3) + 4 by omega, e, e, e, e]
theorem RowIs.put {W : World} {g cap : Nat} {L : List It} (h : RowIs W g cap L) (i : Nat) (hi : i < L.length) (x : It) :
    RowIs ((((W.setCell ⟨g, i * 4, none⟩ (.string ⟨x.path.toArray⟩)).setCell ⟨g, i * 4 + 1, none⟩ (.int .i64 x.kind)).setCell ⟨g, i * 4 + 2, none⟩ (.string ⟨x.data.toArray⟩)).setCell ⟨g, i * 4 + 3, none⟩ (.bool x.bad)) g cap (L.set i x) := by
  obtain ⟨cur, h1, h2, h3⟩ := h
  refine ⟨_, Er.heap_set (Er.heap_set (Er.heap_set (Er.heap_set h1 _ _) _ _) _ _) _ _, by simp [h2], ?_⟩
  simp only [Array.toList_setIfInBounds, List.length_set, List.take_set, h3]
  exact flat_set L i x hi
theorem RowIs.below {W W' : World} {g cap : Nat} {L : List It} (h : RowIs W g cap L) (hb : Below W.heap.size W W') : RowIs W' g cap L := by
  obtain ⟨cur, h1, h2, h3⟩ := h
  exact ⟨cur, (hb.block _ (heap_lt h1)).trans h1, h2, h3⟩
theorem RowIs.cell {W : World} {g cap : Nat} {L : List It} (h : RowIs W g cap L) {j : Nat} {x : It} (hx : L[j]? = some x) {i : Nat} {v : Value} (hv : (encI x)[i]? = some v) : W.cell? ⟨g, j * 4 + i, none⟩ = some v := by
  obtain ⟨cur, h1, h2, h3⟩ := h
  have hi : i < 4 := by have := (List.getElem?_eq_some_iff.1 hv).1; simpa [encI] using this
  have hc := its_at L j i x hx hi
  rw [hv, ← h3, List.getElem?_take] at hc
  split at hc
  · rw [Er.cell_heap h1]; simpa using hc
  · simp at hc
theorem zero_one (n : Nat) : ∀ u ∈ (Builtin.zeroCells (Value.cells (.agg #[.string ⟨#[]⟩, .int .i64 0, .string ⟨#[]⟩, .bool false])) n).toList, u.oneCell' = true := by
  intro u hu
  simp only [Builtin.zeroCells, Array.toList_map, Array.toList_range, List.mem_map, List.mem_range] at hu
  obtain ⟨i, hi, rfl⟩ := hu
  have h4 : (Value.cells (.agg #[.string ⟨#[]⟩, .int .i64 0, .string ⟨#[]⟩, .bool false])).size = 4 := rfl
  rw [h4]
  have : i % 4 < 4 := Nat.mod_lt _ (by omega)
  generalize i % 4 = k at this
  match k, this with
  | 0, _ => rfl
  | 1, _ => rfl
  | 2, _ => rfl
  | 3, _ => rfl
theorem clear_its (W : World) (g cap : Nat) (L : List It) (h : RowIs W g cap L) (i c : Nat) (hi : i ≤ L.length) (hL : L.length ≤ cap) (ty : TypeId) :
    ∃ W', (Builtin.clear_ #[22] ty #[.slice (some ⟨g, i * 4, none⟩) (L.length - i) c]).run Tryz.prog W = .ok (.tuple #[]) W' ∧ RowIs W' g cap (L.take i) ∧ (∀ lo, lo ≤ g → Below lo W W') := by
  obtain ⟨cur, h1, h2, h3⟩ := h
  have ht : cur.toList.take (i * 4) = (L.take i).flatMap encI := by
    have e : (L.take i).flatMap encI = (L.flatMap encI).take (i * 4) := by
      conv => rhs; rw [← List.take_append_drop i L, List.flatMap_append]
      have hl : ((L.take i).flatMap encI).length = i * 4 := by rw [encs_len]; simp; omega
      rw [← hl, List.take_left]
    rw [e, ← h3, List.take_take]
    congr 1
    omega
  by_cases h0 : L.length - i = 0
  · refine ⟨W, ?_, ⟨cur, h1, h2, ?_⟩, fun lo _ => Below.refl _ _⟩
    · rw [h0]
      simp [Builtin.clear_, run_underlying Tryz.underlying22]
    · have : (L.take i).length = i := by simp; omega
      rw [this]; exact ht
  · obtain ⟨m, hm⟩ : ∃ m, L.length - i = m + 1 := ⟨L.length - i - 1, by omega⟩
    obtain ⟨z, hz⟩ : ∃ z, z = (Builtin.zeroCells (Value.cells (.agg #[.string ⟨#[]⟩, .int .i64 0, .string ⟨#[]⟩, .bool false])) (m + 1)).toList := ⟨_, rfl⟩
    have hzl : z.length = (m + 1) * 4 := by
      rw [hz, Array.length_toList, size_zeroCells]
      rfl
    have hst := run_storeCells_at Tryz.prog g (i * 4) 42 z 0 cur W h1 (by rw [hzl, h2]; omega) (by rw [hz]; exact zero_one _)
    obtain ⟨C, hC⟩ : ∃ C, C = (cur.toList.take (i * 4 + 0) ++ z ++ cur.toList.drop (i * 4 + 0 + z.length)).toArray := ⟨_, rfl⟩
    rw [← hC] at hst
    refine ⟨W.setRow g C, ?_, ⟨C, setRow_heap W g cur C 42 _ h1, ?_, ?_⟩, fun lo hlo => ⟨rfl, rfl, rfl, by simp, fun k hk => setRow_other W g k C (by omega)⟩⟩
    · rw [hm]
      have hv := Tryz.zeroValue42
      rw [hz] at hst
      simp [Builtin.clear_, run_underlying Tryz.underlying22, hv, hst]
    · rw [hC]
      simp [hzl, h2]
      omega
    · rw [hC]
      have : (L.take i).length = i := by simp; omega
      rw [this]
      have hl : (cur.toList.take (i * 4 + 0)).length = i * 4 := by simp [h2]; omega
      rw [List.toList_toArray, List.append_assoc, List.take_append_of_le_length (by rw [hl]; exact Nat.le_refl _), List.take_of_length_le (by rw [hl]; exact Nat.le_refl _)]
      exact ht

/-! ### The walk -/
theorem enters46 : ∀ args w, (callFunc 46 args).run Tryz.prog w = .ok (.enter 46 args) w := enters_of Tryz.func46 (by kernel_rfl) rfl
/-- What is kept of the first j, and the rest as it was. -/
def DelL (p : It → Bool) (t L : List It) (i j : Nat) : Prop := L.length = t.length ∧ j ≤ t.length ∧ i < j ∧ L.take i = (t.take j).filter (fun x => !p x) ∧ L.drop j = t.drop j
theorem DelL.keep {p : It → Bool} {t L : List It} {i j : Nat} {x : It} (h : DelL p t L i j) (hx : t[j]? = some x) (hp : p x = false) : DelL p t (L.set i x) (i + 1) (j + 1) := by
  obtain ⟨h1, h2, h3, h4, h5⟩ := h
  have hj := (List.getElem?_eq_some_iff.1 hx).1
  refine ⟨by simp [h1], by omega, by omega, ?_, ?_⟩
  · rw [List.take_add_one, List.take_set_of_le (Nat.le_refl _), h4, List.take_add_one, hx, List.getElem?_set_self (by omega), List.filter_append]
    simp [hp]
  · rw [List.drop_set_of_lt (by omega), ← List.drop_drop, h5, List.drop_drop]
theorem DelL.skip {p : It → Bool} {t L : List It} {i j : Nat} {x : It} (h : DelL p t L i j) (hx : t[j]? = some x) (hp : p x = true) : DelL p t L i (j + 1) := by
  obtain ⟨h1, h2, h3, h4, h5⟩ := h
  have hj := (List.getElem?_eq_some_iff.1 hx).1
  refine ⟨h1, by omega, by omega, ?_, ?_⟩
  · rw [h4, List.take_add_one, hx, List.filter_append]
    simp [hp]
  · rw [← List.drop_drop, h5, List.drop_drop]
theorem DelL.at {p : It → Bool} {t L : List It} {i j : Nat} (h : DelL p t L i j) : L[j]? = t[j]? := by
  have := congrArg (·[0]?) h.2.2.2.2
  simpa using this
theorem idx_first (p : It → Bool) : ∀ (ts : List ItS) (i : Nat), (Lib.idxByFrom (fun _ y => p (Subtype.val y)) (default : ItS) ts i = -1 ∧ ∀ x ∈ ts.map Subtype.val, p x = false) ∨ ∃ k x, (ts.map Subtype.val)[k]? = some x ∧ p x = true ∧ (∀ y ∈ (ts.map Subtype.val).take k, p y = false) ∧ Lib.idxByFrom (fun _ y => p (Subtype.val y)) (default : ItS) ts i = ((i + k : Nat) : Int)
  | [], i => .inl ⟨rfl, by simp⟩
  | x :: t, i => by
    by_cases h : p x.1 = true
    · exact .inr ⟨0, x.1, rfl, h, by simp, by simp [Lib.idxByFrom, h]⟩
    · have hf : p x.1 = false := by simpa using h
      rcases idx_first p t (i + 1) with ⟨h1, h2⟩ | ⟨k, y, h1, h2, h3, h4⟩
      · exact .inl ⟨by simp [Lib.idxByFrom, h, h1], fun y hy => by
          rw [List.map_cons] at hy
          rcases List.mem_cons.1 hy with rfl | hy
          · exact hf
          · exact h2 y hy⟩
      · refine .inr ⟨k + 1, y, by simpa using h1, h2, fun z hz => ?_, by simp only [Lib.idxByFrom, h]; rw [show (i + (k + 1) : Nat) = i + 1 + k from by omega]; exact h4⟩
        rw [List.map_cons, List.take_succ_cons] at hz
        rcases List.mem_cons.1 hz with rfl | hz
        · exact hf
        · exact h3 z hz
theorem filter_keep {p : It → Bool} {l : List It} (h : ∀ x ∈ l, p x = false) : l.filter (fun x => !p x) = l := List.filter_eq_self.2 fun x hx => by simp [h x hx]
theorem del_call (t : List It) (hsm : ∀ x ∈ t, x.path.length ≤ bigT) (hbig : t.length ≤ bigP) (p : It → Bool) (B : Nat) (w0 w : World) (lo : Nat) (hlo : lo ≤ w0.heap.size) (h0 : Below lo w0 w) (v : Value) (ho : w.ownsRow lo 42 4 v t.length (t.flatMap encI))
    (hp : ∀ W (x : It), x.path.length ≤ bigT → Below lo w0 W → Calls Tryz.prog 46 #[vI x, .pointer (some ⟨B, 0, none⟩)] W fun e w' => e = .returned (.bool (p x)) ∧ Below W.heap.size W w') :
    Calls Tryz.prog 45 #[v, .func (.func 46) #[] #[.pointer (some ⟨B, 0, none⟩)]] w fun e w' => ∃ v', e = .returned v' ∧ w'.ownsRow lo 42 4 v' (t.filter fun x => !p x).length ((t.filter fun x => !p x).flatMap encI) ∧ Below lo w0 w' := by
  have mixed := mixed_
  rcases ho.2 with ⟨rfl, hz⟩ | ⟨g, cap, cur, rfl, hbg, hgg, hnc, hcm, hcs, htake⟩
  · have e := List.eq_nil_of_length_eq_zero hz
    subst e
    have hI := any_nil_index none 0 46 #[.pointer (some ⟨B, 0, none⟩)] w
    have HB : Hid (Below lo w0 w) := h0
    clear hp ho h0
    go_enter Tryz.func45, Tryz.ntmps45
    go_wp2_with (go_at_call 40; refine hI.mono ?_; rintro e w' ⟨rfl, rfl⟩)
    go_ret
    exact ⟨_, rfl, World.ownsRow_nil _ _ _ _, HB.out⟩
  · obtain ⟨ts, hts⟩ : ∃ ts : List ItS, ts.map Subtype.val = t := ⟨t.pmap Subtype.mk hsm, by simp [List.map_pmap]⟩
    have hR0 : RowIs w g cap t := ⟨cur, hgg, hcs, htake⟩
    have hlw : lo ≤ w.heap.size := Nat.le_trans hlo h0.size
    have hI := AnyQ.slices_IndexFunc Tryz.l40 4 Tryz.isAgg42 Tryz.sizeOf42 (fun x : ItS => encI x.1) (fun _ => rfl) (fun x : ItS => p x.1) 46 #[.pointer (some ⟨B, 0, none⟩)] enters46 g 0 t.length cap ts w
      (fun W x hb => (hp W x.1 x.2 (h0.trans (hb.mono hlw))).mono fun _ _ ⟨he, hb'⟩ => ⟨he, hb.trans (hb'.mono hb.size)⟩)
      (by rw [← hts]; simp) (by have : bigP = 1099511627776 := rfl; omega) (heap_lt hgg)
      (fun j hj i v hv => by
        have hx : t[j]? = some ts[j]!.1 := by rw [← hts, List.getElem?_map, List.getElem?_eq_getElem hj, getElem!_pos ts j hj]; rfl
        have := hR0.cell hx hv
        rwa [show 0 + j * 4 + i = j * 4 + i by omega])
    have htk : ts.take t.length = ts := List.take_of_length_le (by rw [← hts]; simp)
    rw [htk] at hI
    have HP : Hid (∀ W (x : It), x.path.length ≤ bigT → Below lo w0 W → Calls Tryz.prog 46 #[vI x, .pointer (some ⟨B, 0, none⟩)] W fun e w' => e = .returned (.bool (p x)) ∧ Below W.heap.size W w') := hp
    have R0 : Hid (RowIs w g cap t) := hR0
    have HB : Hid (Below lo w0 w) := h0
    have LW : Hid (lo ≤ w.heap.size) := hlw
    have HC : Hid (t.length ≤ cap) := hnc
    have HM : Hid (cap ≤ maxLen) := hcm
    have SM : Hid (∀ x ∈ t, x.path.length ≤ bigT) := hsm
    have LG : Hid (lo ≤ g) := hbg
    have hbig' : t.length ≤ 1099511627776 := hbig
    have own_of : ∀ {W : World} {L : List It}, RowIs W g cap L → L.length ≤ cap → W.ownsRow lo 42 4 (.slice (some ⟨g, 0, none⟩) L.length cap) L.length (L.flatMap encI) := fun {W L} h hl => by
      obtain ⟨c, a1, a2, a3⟩ := h
      exact ⟨encs_len L, .inr ⟨g, cap, c, rfl, LG.out, a1, hl, HM.out, a2, a3⟩⟩
    have OO : Hid (∀ {W : World} {L : List It}, RowIs W g cap L → L.length ≤ cap → W.ownsRow lo 42 4 (.slice (some ⟨g, 0, none⟩) L.length cap) L.length (L.flatMap encI)) := @own_of
    clear hp ho h0 hgg hcs htake hR0 hlw hbg hnc hcm hsm htk hbig own_of
    unfold Lib.idxBy at hI
    rcases idx_first p ts 0 with ⟨h1, h2⟩ | ⟨k, x, h1, h2, h3, h4⟩
    · rw [h1] at hI
      rw [hts] at h2
      have KE : Hid (t.filter (fun x => !p x) = t) := filter_keep h2
      clear h1 h2 hts
      go_enter Tryz.func45, Tryz.ntmps45
      go_wp2_with (go_at_call 40; refine hI.mono ?_; rintro e w' ⟨rfl, hb⟩; have B1 : Hid (Below w.heap.size w w') := hb; clear hb hI)
      go_ret
      refine ⟨_, rfl, ?_, HB.out.trans (B1.out.mono LW.out)⟩
      rw [KE.out]
      exact OO.out (R0.out.below B1.out) HC.out
    · rw [h4, Nat.zero_add] at hI
      rw [hts] at h1 h3
      have hkl : k < t.length := (List.getElem?_eq_some_iff.1 h1).1
      have D0 : Hid (DelL p t t k (k + 1)) := ⟨rfl, by omega, by omega, by rw [List.take_add_one, h1, List.filter_append, filter_keep h3]; simp [h2], rfl⟩
      have hk1 : ¬ ((k : Int) = -1) := by omega
      clear h1 h2 h3 h4 hts
      go_enter Tryz.func45, Tryz.ntmps45
      go_wp2_with (go_at_call 40; refine hI.mono ?_; rintro e w1 ⟨rfl, hb⟩; have B1 : Hid (Below w.heap.size w w1) := hb; clear hb hI)
      go_loopg [5, 6] t.length (fun g' s5 s6 wr => ∃ (i j : Nat) (L : List It), s5 = .int .i64 i ∧ s6 = .int .i64 j ∧ t.length - j ≤ g' ∧ DelL p t L i j ∧ RowIs wr g cap L ∧ Below lo w0 wr)
      case atStart => exact ⟨k, k + 1, t, rfl, by go_num, by omega, D0.out, R0.out.below B1.out, HB.out.trans (B1.out.mono LW.out)⟩
      case round =>
        obtain ⟨i, j, L, rfl, rfl, hg, hD, hR, hB⟩ := hrel
        have D1 : Hid (DelL p t L i j) := hD
        have R1 : Hid (RowIs wr g cap L) := hR
        have B2 : Hid (Below lo w0 wr) := hB
        have hij : i < j := hD.2.2.1
        have hjt : j ≤ t.length := hD.2.1
        clear hD hR hB
        by_cases hlt : j < t.length
        · have hlt' : (j : Int) < (t.length : Int) := by omega
          obtain ⟨x, hx⟩ : ∃ x, t[j]? = some x := ⟨_, List.getElem?_eq_getElem hlt⟩
          have hLx : L[j]? = some x := by rw [D1.out.at]; exact hx
          have c0 : wr.cell? ⟨g, j * 4, none⟩ = some (.string ⟨x.path.toArray⟩) := R1.out.cell hLx (i := 0) rfl
          have c1 : wr.cell? ⟨g, j * 4 + 1, none⟩ = some (.int .i64 x.kind) := R1.out.cell hLx (i := 1) rfl
          have c2 : wr.cell? ⟨g, j * 4 + 2, none⟩ = some (.string ⟨x.data.toArray⟩) := R1.out.cell hLx (i := 2) rfl
          have c3 : wr.cell? ⟨g, j * 4 + 3, none⟩ = some (.bool x.bad) := R1.out.cell hLx (i := 3) rfl
          obtain ⟨WB, hWB⟩ : ∃ WB, WB = wr.alloc (.cells #[.string ⟨x.path.toArray⟩, .int .i64 x.kind, .string ⟨x.data.toArray⟩, .bool x.bad] 42) := ⟨_, rfl⟩
          have hbW : Below wr.heap.size wr WB := by rw [hWB]; exact (Below.refl _ _).alloc (Nat.le_refl _) _
          have loW : lo ≤ wr.heap.size := Nat.le_trans hlo B2.out.size
          have hP := HP.out WB x (SM.out x (List.mem_of_getElem? hx)) (B2.out.trans (hbW.mono loW))
          have RB : Hid (RowIs WB g cap L) := R1.out.below hbW
          have BW : Hid (Below lo w0 WB) := B2.out.trans (hbW.mono loW)
          have SW : Hid (WB.heap.size = wr.heap.size + 1) := by show _ = _; rw [hWB]; simp
          have nB : Hid (WB.heap[wr.heap.size]? = some (.cells #[.string ⟨x.path.toArray⟩, .int .i64 x.kind, .string ⟨x.data.toArray⟩, .bool x.bad] 42 (0, 0))) := by show _ = _; rw [hWB]; exact Er.hNew _ _ rfl
          have X : Hid (t[j]? = some x) := hx
          have LO : Hid (lo ≤ wr.heap.size) := loW
          have WBe : Hid (WB = wr.alloc (.cells #[.string ⟨x.path.toArray⟩, .int .i64 x.kind, .string ⟨x.data.toArray⟩, .bool x.bad] 42)) := hWB
          rw [hWB] at hP
          clear hx hLx hbW loW hWB
          cases hpx : p x with
          | true =>
            have PX : Hid (p x = true) := hpx
            rw [hpx] at hP
            clear hpx
            go_wp2_with (go_at_call 46; refine hP.mono ?_; rintro e w5 ⟨rfl, hb5⟩; rw [← WBe.out] at hb5; have B5 : Hid (Below WB.heap.size WB w5) := hb5; clear hb5 hP)
            go_roundg (t.length - (j + 1))
            case measure => omega
            case rel => exact ⟨i, j + 1, L, rfl, by go_num, Nat.le_refl _, D1.out.skip X.out PX.out, RB.out.below B5.out, BW.out.trans (B5.out.mono (by rw [SW.out]; have := LO.out; omega))⟩
          | false =>
            have PX : Hid (p x = false) := hpx
            rw [hpx] at hP
            clear hpx
            have hil : i < L.length := by rw [D1.out.1]; omega
            obtain ⟨y, hy⟩ : ∃ y, L[i]? = some y := ⟨_, List.getElem?_eq_getElem hil⟩
            have Y : Hid (L[i]? = some y) := hy
            have hi' : (i : Int) < (t.length : Int) := by omega
            clear hy hil
            go_wp2_with (
              go_at_call 46
              refine hP.mono ?_
              rintro e w5 ⟨rfl, hb5⟩
              rw [← WBe.out] at hb5
              have B5 : Hid (Below WB.heap.size WB w5) := hb5
              have r5 := RB.out.below hb5
              have n5 := (hb5.block _ (by rw [SW.out]; omega)).trans nB.out
              have d0 : w5.cell? ⟨g, i * 4, none⟩ = some (.string ⟨y.path.toArray⟩) := r5.cell Y.out (i := 0) rfl
              have d1 : w5.cell? ⟨g, i * 4 + 1, none⟩ = some (.int .i64 y.kind) := r5.cell Y.out (i := 1) rfl
              have d2 : w5.cell? ⟨g, i * 4 + 2, none⟩ = some (.string ⟨y.data.toArray⟩) := r5.cell Y.out (i := 2) rfl
              have d3 : w5.cell? ⟨g, i * 4 + 3, none⟩ = some (.bool y.bad) := r5.cell Y.out (i := 3) rfl
              have e0 : w5.cell? ⟨wr.heap.size, 0, none⟩ = some (.string ⟨x.path.toArray⟩) := by rw [Er.cell_heap n5]; rfl
              have e1 : w5.cell? ⟨wr.heap.size, 1, none⟩ = some (.int .i64 x.kind) := by rw [Er.cell_heap n5]; rfl
              have e2 : w5.cell? ⟨wr.heap.size, 2, none⟩ = some (.string ⟨x.data.toArray⟩) := by rw [Er.cell_heap n5]; rfl
              have e3 : w5.cell? ⟨wr.heap.size, 3, none⟩ = some (.bool x.bad) := by rw [Er.cell_heap n5]; rfl
              have f0 : w5.frozen? ⟨g, i * 4, none⟩ = false := by obtain ⟨c, q, _⟩ := r5; exact Er.frozen_heap q _
              have f1 : w5.frozen? ⟨g, i * 4 + 1, none⟩ = false := by obtain ⟨c, q, _⟩ := r5; exact Er.frozen_heap q _
              have f2 : w5.frozen? ⟨g, i * 4 + 2, none⟩ = false := by obtain ⟨c, q, _⟩ := r5; exact Er.frozen_heap q _
              have f3 : w5.frozen? ⟨g, i * 4 + 3, none⟩ = false := by obtain ⟨c, q, _⟩ := r5; exact Er.frozen_heap q _
              have R5 : Hid (RowIs w5 g cap L) := r5
              clear hb5 hP r5 n5)
            go_roundg (t.length - (j + 1))
            case measure => omega
            case rel =>
              have hb5 : Below lo w0 w5 := BW.out.trans (B5.out.mono (by rw [SW.out]; have := LO.out; omega))
              have hgl : ∀ o, lo ≤ (⟨g, o, none⟩ : Addr).block := fun o => LG.out
              exact ⟨i + 1, j + 1, L.set i x, by go_num, by go_num, Nat.le_refl _, D1.out.keep X.out PX.out, R5.out.put i (by rw [D1.out.1]; omega) x, (((hb5.setCell (hgl _) _).setCell (hgl _) _).setCell (hgl _) _).setCell (hgl _) _⟩
        · have hjn : j = t.length := by omega
          subst hjn
          have hil : i ≤ L.length := by rw [D1.out.1]; omega
          obtain ⟨W', hrun, hR', hB'⟩ := clear_its wr g cap L R1.out i (cap - i) hil (by rw [D1.out.1]; exact HC.out) 0
          rw [D1.out.1] at hrun
          have R' : Hid (RowIs W' g cap (L.take i)) := hR'
          have B' : Hid (Below lo wr W') := hB' lo LG.out
          have hi' : (i : Int) ≤ (t.length : Int) := by omega
          have hi2 : (i : Int) ≤ (cap : Int) := by have := HC.out; omega
          have hi3 : (t.length : Int) ≤ (cap : Int) := by have := HC.out; omega
          have IL : Hid (i ≤ L.length) := hil
          have hci : ¬ cap = i := by have := HC.out; omega
          clear hR' hB' hil
          go_wp2
          go_ret
          have hLi : (L.take i).length = i := by have := IL.out; simp; omega
          have hK := D1.out.2.2.2.1
          rw [List.take_length] at hK
          have ho := OO.out R'.out (by rw [hLi]; have := HC.out; omega)
          rw [hLi, hK] at ho
          have hki : (t.filter fun x => !p x).length = i := by rw [← hK, hLi]
          exact ⟨_, rfl, by rw [hki]; exact ho, B2.out.trans B'.out⟩
end Go.Proofs.YtpkeiffclipjmaaGreatDoor.Rx
namespace Go.Proofs.YtpkeiffclipjmaaGreatDoor.Rx
open Go Go.RowKit
set_option maxRecDepth 100000
set_option linter.unusedSimpArgs false
set_option linter.unusedVariables false

/-- What List leaves out. -/
def outF (d : List UInt8) (x : It) : Bool := decide (check01F x.path ≠ 0) || decide (dirF x.path ≠ d)
namespace L1
def ckE : List AV → Option AV
  | [.str a] => if a.length ≤ bigT then some (.int .i64 (check01F a)) else none
  | _ => none
def drE : List AV → Option AV
  | [.str a] => if a.length ≤ bigT then some (.str (dirF a)) else none
  | _ => none
theorem ck_says (args : List AV) (r : AV) (h : ckE args = some r) : Says C4 47 args r := by
  unfold ckE at h
  split at h
  · rename_i a
    split at h
    · rename_i hl
      simp only [Option.some.injEq] at h
      subst h
      exact P.fits.den (P.check_den a hl)
    · simp at h
  · simp at h
theorem dr_says (args : List AV) (r : AV) (h : drE args = some r) : Says C4 48 args r := by
  unfold drE at h
  split at h
  · rename_i a
    split at h
    · rename_i hl
      simp only [Option.some.injEq] at h
      subst h
      exact P.fits.den (P.dir_den a hl)
    · simp at h
  · simp at h
def extL : List (Nat × (List AV → Option AV)) := [(47, ckE), (48, drE)]
def tblL : List (Nat × AFunc) := [(46, A46)]
def Sy : Sys := ⟨get extL, get tblL⟩
theorem fits : Fits C4 Sy := {
  mix := by kernel_rfl
  fine := fine4
  ext := fun _ _ h => (show ∀ p ∈ extL, ∀ args r, p.2 args = some r → Says C4 p.1 args r from List.forall_mem_cons.2 ⟨ck_says, List.forall_mem_cons.2 ⟨dr_says, fun _ h => absurd h List.not_mem_nil⟩⟩) _ (get_mem h)
  tbl := fun _ _ h => (show ∀ p ∈ tblL, ∃ K fn ks, Tryz.prog.funcs[p.1]? = some fn ∧ cmpF Tryz.prog K fn ks = some p.2 from List.forall_mem_cons.2 ⟨⟨_, _, K46, Tryz.func46, c46⟩, fun _ h => absurd h List.not_mem_nil⟩) _ (get_mem h) }
theorem list1_den (d : List UInt8) (x : It) (hx : x.path.length ≤ bigT) : Den Sy 46 [.agg (iC x), .ref 0 [.str d]] = some (.out false (.bool (outF d x)) [[.str d]]) := by
  have h1 : Den Sy 47 [.str x.path] = some (.int .i64 (check01F x.path)) := by rw [Den_ext Sy (F := ckE) rfl]; exact if_pos hx
  have h2 : Den Sy 48 [.str x.path] = some (.str (dirF x.path)) := by rw [Den_ext Sy (F := drE) rfl]; exact if_pos hx
  rw [Den_fun Sy (af := A46) rfl rfl _ rfl]
  unfold outF
  by_cases hc : check01F x.path = 0
  · simp [A46, handed, iC, h1, h2, hc, gone]
  · simp [A46, handed, iC, h1, h2, hc, gone]
end L1
theorem list1_pred (d : List UInt8) (B : Nat) (x : It) (hx : x.path.length ≤ bigT) (W : World) (hG : Gs W) (h2B : C4.B ≤ B) (hB : W.heap[B]? = some (.cells #[sV d] 9 (0, 0))) :
    Calls Tryz.prog 46 #[vI x, .pointer (some ⟨B, 0, none⟩)] W fun e w' => e = .returned (.bool (outF d x)) ∧ Below W.heap.size W w' := by
  obtain ⟨hen, hs⟩ := L1.fits.den (L1.list1_den d x hx)
  refine (hs W no2 [vI x, .pointer (some ⟨B, 0, none⟩)] [(B, 1)] hG (fun _ _ h => h.elim) (fun b n h => ?_) ?_).mono ?_
  · simp only [List.mem_singleton, Prod.mk.injEq] at h
    rw [h.1]
    exact h2B
  · simp only [HandR]
    exact ⟨_, _, rfl, it_rd W _ x, [], B, 1, [], rfl, rfl, ⟨[sV d], #[sV d], 9, hB, rfl, rfl, by simp only [RdL, Rd]; exact ⟨_, _, rfl, rfl, rfl⟩, by simp [Value.oneCell']⟩, rfl, fun _ h => h, by simp, rfl, rfl⟩
  · intro e w' hp
    match e, hp with
    | .returned v', ⟨pr', ha, hv, ⟨us, cur', T, h1, h2, h3, h4, h5⟩, _⟩ =>
      simp only [Rd] at hv
      subst hv
      simp only [RdL, Rd] at h4
      obtain ⟨u, us', rfl, rfl, rfl⟩ := h4
      have hT : T = 9 := by
        have t1 : tyAt W B = some 9 := by simp [tyAt, hB]
        have t2 := ha.below.ty B 9 t1
        simp only [tyAt, h1] at t2
        simpa using t2
      subst hT
      have hcur : cur' = #[sV d] := by
        apply Array.ext'
        have : cur'.toList.length = 1 := by simpa using h2
        rw [List.take_of_length_le (by rw [this]; simp)] at h3
        exact h3
      subst hcur
      refine ⟨rfl, ⟨ha.below.os, ha.below.tape, ha.below.output, ha.below.size, fun k hk => ?_⟩⟩
      by_cases hkB : k = B
      · rw [hkB, h1, hB]
      · exact ha.below.block k hk (fun ⟨n, hk'⟩ => by simp only [List.mem_singleton, Prod.mk.injEq] at hk'; exact hkB hk'.1)
theorem own_itrow {w : World} {lo : Nat} {v : Value} {t : List It} (h : w.ownsRow lo 42 4 v t.length (t.flatMap encI)) : ∃ a c, v = .slice a t.length c ∧ ItRow w a t c := by
  rcases h.2 with ⟨rfl, h2⟩ | ⟨g, cap, cur, rfl, hb, hgg, hnc, hcm, hcs, htake⟩
  · have e := List.eq_nil_of_length_eq_zero h2
    subst e
    exact ⟨none, 0, rfl, ⟨Nat.le_refl _, fun hn => absurd rfl hn⟩⟩
  · refine ⟨some ⟨g, 0, none⟩, cap, rfl, ⟨hnc, fun _ => ⟨g, 0, rfl, heap_lt hgg, fun j x i v hx hv => ?_⟩⟩⟩
    have := RowIs.cell (L := t) ⟨cur, hgg, hcs, htake⟩ hx hv
    rwa [show 0 + j * 4 + i = j * 4 + i by omega]
theorem own_mono {w : World} {lo lo' : Nat} {v : Value} {n : Nat} {xs : List Value} (h : w.ownsRow lo 42 4 v n xs) (hl : lo' ≤ lo) : w.ownsRow lo' 42 4 v n xs := by
  refine ⟨h.1, ?_⟩
  rcases h.2 with hn | ⟨g, cap, cur, hv, hb, rest⟩
  · exact .inl hn
  · exact .inr ⟨g, cap, cur, hv, Nat.le_trans hl hb, rest⟩
/-- What List gives. -/
def listF (t : List It) (d : List UInt8) : List It := sortF (t.filter fun x => !outF d x)
theorem list_call (t : List It) (d : List UInt8) (hs : StableOk (t.filter fun x => !outF d x)) (hsm : ∀ x ∈ t, x.path.length ≤ bigT) (hbig : t.length ≤ bigP) (a : Option Addr) (cap : Nat) (w : World) (hG : Gs w) (hr : ItRow w a t cap) :
    Calls Tryz.prog 25 #[.slice a t.length cap, sV d] w fun e w' => ∃ v, e = .returned v ∧ w'.ownsRow w.heap.size 42 4 v (listF t d).length ((listF t d).flatMap encI) ∧ Below w.heap.size w w' := by
  have mixed := mixed_
  obtain ⟨w0, hw0⟩ : ∃ w0, w0 = w.alloc (.cells #[.string ⟨d.toArray⟩] 9) := ⟨_, rfl⟩
  have hb0 : Below w.heap.size w w0 := by rw [hw0]; exact (Below.refl _ _).alloc (Nat.le_refl _) _
  have n0 : w0.heap[w.heap.size]? = some (.cells #[.string ⟨d.toArray⟩] 9 (0, 0)) := by rw [hw0]; exact Er.hNew _ _ rfl
  have s0 : w0.heap.size = w.heap.size + 1 := by rw [hw0]; simp
  have hC := clone_its t a cap w0 (hr.below hb0) hbig
  have hG0 : Gs w0 := hG.below hb0
  have W0e : Hid (w0 = w.alloc (.cells #[.string ⟨d.toArray⟩] 9)) := hw0
  have hP : ∀ W (x : It), x.path.length ≤ bigT → Below w0.heap.size w0 W → Calls Tryz.prog 46 #[vI x, .pointer (some ⟨w.heap.size, 0, none⟩)] W fun e w' => e = .returned (.bool (outF d x)) ∧ Below W.heap.size W w' := fun W x hx hb =>
    list1_pred d w.heap.size x hx W (hG0.below hb) (fine4.base w hG) ((hb.block _ (by omega)).trans n0)
  have SO : Hid (StableOk (t.filter fun x => !outF d x)) := hs
  have hk : (t.filter fun x => !outF d x).length ≤ bigP := Nat.le_trans (List.length_filter_le _ _) hbig
  have HP : Hid (∀ W (x : It), x.path.length ≤ bigT → Below w0.heap.size w0 W → Calls Tryz.prog 46 #[vI x, .pointer (some ⟨w.heap.size, 0, none⟩)] W fun e w' => e = .returned (.bool (outF d x)) ∧ Below W.heap.size W w') := hP
  have HS : Hid (∀ x ∈ t, x.path.length ≤ bigT) := hsm
  have HK : Hid ((t.filter fun x => !outF d x).length ≤ bigP) := hk
  have HBg : Hid (t.length ≤ bigP) := hbig
  have HG0 : Hid (Gs w0) := hG0
  have HB0 : Hid (Below w.heap.size w w0) := hb0
  have S0 : Hid (w0.heap.size = w.heap.size + 1) := s0
  rw [hw0] at hC
  clear hr hs hw0 hb0 n0 s0 hP hk hsm hbig hG0 hG
  go_enter Tryz.func25, Tryz.ntmps25
  go_wp2_with (first
    | (go_at_call 36
       refine hC.mono ?_
       rintro e w1 ⟨v, rfl, ho, hb⟩
       rw [← W0e.out] at ho hb
       have hDl := del_call t HS.out HBg.out (outF d) w.heap.size w0 w1 w0.heap.size (Nat.le_refl _) hb v ho HP.out
       clear ho hb hC)
    | (go_at_call 45
       refine hDl.mono ?_
       rintro e w2 ⟨v2, rfl, ho2, hb2⟩
       have hf : ∃ a2 c2, v2 = .slice a2 (t.filter fun x => !outF d x).length c2 ∧ ItRow w2 a2 (t.filter fun x => !outF d x) c2 := own_itrow ho2
       obtain ⟨a2, c2, rfl, hr2⟩ := hf
       have hSo := sort_call (t.filter fun x => !outF d x) SO.out HK.out a2 c2 w2 (HG0.out.below hb2) hr2
       have B2 : Hid (Below w0.heap.size w0 w2) := hb2
       clear ho2 hb2 hr2 hDl)
    | (go_at_call 18
       refine hSo.mono ?_
       rintro e w3 ⟨v3, rfl, ho3, hb3⟩
       have O3 : Hid (w3.ownsRow w2.heap.size 42 4 v3 (t.filter fun x => !outF d x).length ((sortF (t.filter fun x => !outF d x)).flatMap encI)) := ho3
       have B3 : Hid (Below w2.heap.size w2 w3) := hb3
       clear ho3 hb3 hSo))
  go_ret
  have h12 : w.heap.size ≤ w2.heap.size := by have := B2.out.size; have := S0.out; omega
  have hl : (listF t d).length = (t.filter fun x => !outF d x).length := by simp [listF, sortF, sortG_len]
  refine ⟨v3, rfl, ?_, (HB0.out.trans (B2.out.mono HB0.out.size)).trans (B3.out.mono h12)⟩
  rw [hl]
  exact own_mono O3.out h12
end Go.Proofs.YtpkeiffclipjmaaGreatDoor.Rx
namespace Go.Proofs.YtpkeiffclipjmaaGreatDoor.Rx
open Go Go.RowKit
set_option linter.unusedSimpArgs false
set_option linter.unusedVariables false

/-- Items that may be sorted. -/
abbrev sortN : Nat := bigP
theorem stableOk (t : List It) (hn : t.length ≤ sortN) (hs : ∀ x ∈ t, x.path.length ≤ bigT) : StableOk t :=
  stableOk_any t hn (fun x hx => by have := hs x hx; have : bigT = 4294967280 := rfl; have : bigP = 1099511627776 := rfl; omega)
def sortEx : List AV → Option AV
  | [.sl 4 l _] => match itsOf l with
    | some t => if t.length ≤ sortN ∧ ∀ x ∈ t, x.path.length ≤ bigT then some (sI (sortF t)) else none
    | none => none
  | _ => none
theorem Sort_says (args : List AV) (r : AV) (h : sortEx args = some r) : Says C4 18 args r := by
  have hen : Enters C4.P 18 := ⟨_, Tryz.func18, by kernel_rfl, by kernel_rfl⟩
  unfold sortEx at h
  split at h
  · rename_i l pm
    split at h
    · rename_i t ht
      split at h
      · rename_i hn
        simp only [Option.some.injEq] at h
        obtain rfl := itsOf_eq ht
        subst h
        refine ⟨hen, fun w pr vals bs hG hpr hB hh => ?_⟩
        simp only [HandR] at hh
        obtain ⟨v, vs, rfl, hv, rfl, rfl⟩ := hh
        obtain ⟨a, cap, rfl, hr⟩ := ItRow.of hpr hv
        refine (sort_call t (stableOk t hn.1 hn.2) hn.1 a cap w hG hr).mono ?_
        rintro e w' ⟨v, rfl, ho, hb⟩
        have hl : t.length = (sortF t).length := by simp [sortF, sortG_len]
        rw [hl] at ho
        exact own_rd hpr hb ho
      · simp at h
    · simp at h
  · simp at h
def listEx : List AV → Option AV
  | [.sl 4 l _, .str d] => match itsOf l with
    | some t => if t.length ≤ bigN ∧ (t.filter fun x => !outF d x).length ≤ sortN ∧ ∀ x ∈ t, x.path.length ≤ bigT then some (sI (listF t d)) else none
    | none => none
  | _ => none
theorem List_says (args : List AV) (r : AV) (h : listEx args = some r) : Says C4 25 args r := by
  have hen : Enters C4.P 25 := ⟨_, Tryz.func25, by kernel_rfl, by kernel_rfl⟩
  unfold listEx at h
  split at h
  · rename_i l pm d
    split at h
    · rename_i t ht
      split at h
      · rename_i hn
        simp only [Option.some.injEq] at h
        obtain rfl := itsOf_eq ht
        subst h
        refine ⟨hen, fun w pr vals bs hG hpr hB hh => ?_⟩
        simp only [HandR] at hh
        obtain ⟨v, vs, rfl, hv, v2, vs2, rfl, hv2, rfl, rfl⟩ := hh
        have hv2 : v2 = .string ⟨d.toArray⟩ := by simpa only [Rd] using hv2
        subst hv2
        obtain ⟨a, cap, rfl, hr⟩ := ItRow.of hpr hv
        refine (list_call t d (stableOk _ hn.2.1 (fun x hx => hn.2.2 x ((List.mem_filter.1 hx).1))) hn.2.2 (by have := hn.1; have : bigN = 1099511627776 := rfl; have : bigP = 1099511627776 := rfl; omega) a cap w hG hr).mono ?_
        rintro e w' ⟨v, rfl, ho, hb⟩
        exact own_rd hpr hb ho
      · simp at h
    · simp at h
  · simp at h
end Go.Proofs.YtpkeiffclipjmaaGreatDoor.Rx
