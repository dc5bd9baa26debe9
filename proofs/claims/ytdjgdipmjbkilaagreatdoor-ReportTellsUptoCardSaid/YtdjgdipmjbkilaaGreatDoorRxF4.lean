/-
  Rx, functions that are told by hand, 4: strings.Builder: WriteString, String.
-/
import Derived.Test.YtdjgdipmjbkilaaGreatDoorRxF3
import Derived.Lib.Builder
import Derived.Shelf.Abstract
import Derived.Lib.AppendStr
import Derived.Lib.UnsafeStr
namespace Go.Proofs.YtdjgdipmjbkilaaGreatDoor.Rx
open Go Go.RowKit

/-- Where a builder lies ahead in a variable. -/
def BT (T : TypeId) : Prop := liesAt Tryz.prog Tryz.prog.depth T (2 / Tryz.prog.cellsOf T) 0 65 1 = true
theorem bt_builder : BT 65 := by unfold BT; kernel_rfl
theorem bt_writer : BT 67 := by unfold BT; kernel_rfl

set_option maxRecDepth 100000 in
theorem copyCheck_used (b : Nat) (w : World) (h0 : w.cell? ⟨b, 0, none⟩ = some (.pointer (some ⟨b, 0, none⟩))) :
    Calls Tryz.prog 77 #[.pointer (some ⟨b, 0, none⟩)] w fun e w' => e = .returned (.tuple #[]) ∧ w' = w := by
  have hu : Tryz.prog.underlying 63 = some (.pointer 65) := by kernel_rfl
  have hsz : (Tryz.prog.info? 65).map (·.size) = some 2 := by kernel_rfl
  obtain ⟨j, hj, hjs⟩ := Option.map_eq_some_iff.1 hsz
  go_enter Tryz.func77, Tryz.ntmps77
  go_wp2
  rw [Lib.run_neq_ptr_same w _ hu hj]
  go_wp2
  exact ⟨rfl, .tuple #[], by simp [results, Tryz.results77], rfl, rfl⟩
set_option maxHeartbeats 1000000 in
set_option maxRecDepth 100000 in
theorem copyCheck_fresh {T : TypeId} (hli0 : BT T) (b : Nat) (w : World) (h0 : w.cell? ⟨b, 0, none⟩ = some (.pointer none)) (hsh : w.shape? b = some (T, 2)) (hfz : w.frozen? ⟨b, 0, none⟩ = false) :
    Calls Tryz.prog 77 #[.pointer (some ⟨b, 0, none⟩)] w fun e w' => e = .returned (.tuple #[]) ∧ w' = w.setCell ⟨b, 0, none⟩ (.pointer (some ⟨b, 0, none⟩)) := by
  have hu : Tryz.prog.underlying 63 = some (.pointer 65) := by kernel_rfl
  have hv : Tryz.prog.underlying 142 = some .unsafePointer := by kernel_rfl
  have hsz : (Tryz.prog.info? 65).map (·.size) = some 2 := by kernel_rfl
  have hli : liesAt Tryz.prog Tryz.prog.depth T (2 / Tryz.prog.cellsOf T) 0 65 1 = true := hli0
  clear hli0
  obtain ⟨j, hj, hjs⟩ := Option.map_eq_some_iff.1 hsz
  go_enter Tryz.func77, Tryz.ntmps77
  go_wp2
  rw [Lib.run_to_unsafe w ⟨b, 0, none⟩ hu hv hj (by rw [hjs]; decide) hsh (Nat.zero_lt_succ 1)]
  simp only [Result.andThen]
  rw [Oper.upon_value]
  go_wp2
  rw [run_callFunc_extern Tryz.func99 (by kernel_rfl) (by kernel_rfl) (by kernel_rfl) (e := Extern.AbiNoEscape.same) (by kernel_rfl)]
  rw [Lib.run_noEscape]
  simp only [Result.andThen]
  rw [Oper.upon_value]
  go_wp2
  rw [Lib.run_from_unsafe w ⟨b, 0, none⟩ hv hu hj hsh hli]
  simp only [Result.andThen]
  rw [Oper.upon_value]
  go_wp2
  exact ⟨rfl, .tuple #[], by simp [results, Tryz.results77], rfl, rfl⟩

/-! ### A string's bytes behind a builder's -/
section
variable {P : Program}
theorem run_append_str_in (w : World) {t u ty el T : TypeId} {i : TypeInfo} (ht : P.underlying t = some (.slice el)) (hu : P.underlying u = some .string) (hi : P.info? el = some i) (hs1 : i.size = 1)
    {g n cap : Nat} {cur : Array Value} (hg : w.heap[g]? = some (.cells cur T (0, 0))) (s : ByteArray) (hroom : n + s.size ≤ cap) (hfit : n + s.size ≤ cur.size) :
    (Builtin.append_ #[t, u] ty #[.slice (some ⟨g, 0, none⟩) n cap, .string s]).run P w =
      .ok (.slice (some ⟨g, 0, none⟩) (n + s.size) cap) (w.setRow g (cur.toList.take n ++ Lib.strCells s ++ cur.toList.drop (n + s.size)).toArray) := by
  have hf := Lib.run_firstCells_string (P := P) w 1 s
  have hst := run_storeCells_at P g n T (Lib.strCells s) 0 cur w hg (by simpa [Lib.strCells_length] using hfit) (Lib.strCells_oneCell s)
  simp only [Nat.add_zero, Lib.strCells_length] at hst
  simp [Builtin.append_, run_underlying ht, run_underlying hu, sizeOf, typeInfo, hi, hs1, Builtin.lenOf, hroom, hf, Addr.add_lit, hst]
theorem strCells_of (l : List UInt8) : Lib.strCells ⟨l.toArray⟩ = l.map fun c => Value.int .u8 c.toNat := by simp [Lib.strCells]
theorem below_drew_alloc (w : World) (o : Obj) : Below w.heap.size w (w.drew.alloc o) := (below_alloc w.drew o).mono (by simp) |> fun h => Below.trans (Below.refl w.heap.size w).drew h
theorem bufR_grown (w : World) (b : Nat) {el : TypeId} (hel : el = byteT) (hb : b < w.heap.size) (l : List UInt8) (old : Nat) :
    BufR (w.drew.alloc (.cells ((l.map fun c => Value.int .u8 (c.toNat : Int)).toArray ++ Builtin.zeroCells (Value.int .u8 0).cells (grownCap w l.length old el - l.length)) el)) b l (.slice (some ⟨w.heap.size, 0, none⟩) l.length (grownCap w l.length old el)) (some w.heap.size) := by
  subst hel
  have hge := grownCap_ge w l.length old byteT
  refine .inr ⟨w.heap.size, l.length, _, _, rfl, by omega, rfl, rfl, hge, heap_alloc_new w.drew _, ?_, ?_⟩
  · have hz1 : (Value.int IntKind.u8 0).cells.size = 1 := rfl
    simp only [Array.size_append, List.size_toArray, List.length_map, size_zeroCells, hz1]
    omega
  · rw [Array.toList_append]
    rw [List.take_append_of_le_length (by simp)]
    exact List.take_of_length_le (by simp)
theorem bufR_append (w : World) {t u ty el : TypeId} {i : TypeInfo} (ht : P.underlying t = some (.slice el)) (hu : P.underlying u = some .string) (hi : P.info? el = some i) (hz : i.zero = some (.int .u8 0)) (hs1 : i.size = 1) (hb1 : i.bytes = 1)
    (hel : el = byteT) {b : Nat} (hb : b < w.heap.size) {l s : List UInt8} {buf : Value} {tt : Option Nat} (hbuf : BufR w b l buf tt) (hlen : l.length + s.length ≤ 140737488355328) :
    ∃ buf' w' t', (Builtin.append_ #[t, u] ty #[buf, .string ⟨s.toArray⟩]).run P w = .ok buf' w' ∧ BufR w' b (l ++ s) buf' t' ∧ BelX (fun k => tt = some k) w w' ∧ w'.heap[b]? = w.heap[b]? ∧ (∀ k, t' = some k → tt = some k ∨ w.heap.size ≤ k) ∧ (t' = none ↔ tt = none ∧ s = []) := by
  have hsz : (⟨s.toArray⟩ : ByteArray).size = s.length := by simp [ByteArray.size]
  have hsc : (Lib.strCells ⟨s.toArray⟩).length = s.length := by rw [Lib.strCells_length, hsz]
  rcases hbuf with ⟨rfl, rfl, rfl⟩ | ⟨t', n, cap, cur, rfl, hne, rfl, rfl, hnc, hg, hcs, hct⟩
  · by_cases hm : s = []
    · subst hm
      refine ⟨.slice none 0 0, w, none, ?_, .inl ⟨rfl, rfl, rfl⟩, BelX.refl _ _, rfl, by simp, by simp⟩
      have hf := Lib.run_firstCells_string (P := P) w 1 ⟨#[]⟩
      have h0 : (⟨#[]⟩ : ByteArray).size = 0 := rfl
      rw [h0] at hf
      have h1 : Lib.strCells ⟨#[]⟩ = [] := rfl
      rw [h1] at hf
      simp [Builtin.append_, run_underlying ht, run_underlying hu, sizeOf, typeInfo, hi, hs1, Builtin.lenOf, hf, h0]
    · have hs0 : s.length ≠ 0 := by simpa using hm
      have hr := run_append_nil_string (P := P) w t u ty el i (.int .u8 0) ht hu hi hz ⟨s.toArray⟩ (by omega) (by omega) (by rw [hb1]; simp at hlen; omega)
      have e1 : ((⟨s.toArray⟩ : ByteArray).data.map fun b => Value.int .u8 b.toNat) = (s.map fun c => Value.int .u8 (c.toNat : Int)).toArray := by simp
      rw [hsz, e1] at hr
      refine ⟨_, _, some w.heap.size, hr, ?_, BelX.of (below_drew_alloc w _), ?_, by simp, by simp [hm]⟩
      · have h2 := bufR_grown (el := el) w b hel (hb := hb) s 0
        simpa using h2
      · rw [(below_drew_alloc w _).block b hb]
  · by_cases hroom : l.length + s.length ≤ cap
    · have hr := run_append_str_in (P := P) w (ty := ty) ht hu hi hs1 hg ⟨s.toArray⟩ (by rw [hsz]; exact hroom) (by rw [hsz]; omega)
      rw [hsz, strCells_of] at hr
      refine ⟨_, _, some t', hr, .inr ⟨t', _, cap, _, rfl, hne, rfl, by simp, hroom, setRow_heap w t' cur _ byteT (0, 0) hg, ?_, ?_⟩, BelX.row (X := fun k => some t' = some k) (BelX.refl _ w) (.inr rfl) _, ?_, by simp, by simp⟩
      · simp
        omega
      · rw [hct]
        rw [← List.map_append, List.take_append_of_le_length (by simp)]
        exact List.take_of_length_le (by simp)
      · exact setRow_other w t' b _ (fun e => hne e.symm)
    · have holds : ∀ j v, (l.map fun c => Value.int .u8 (c.toNat : Int))[j]? = some v → w.cell? ((⟨t', 0, none⟩ : Addr).add j) = some v := by
        intro j v hj
        have hjl : j < l.length := by have := (List.getElem?_eq_some_iff.1 hj).1; simpa using this
        rw [Addr.add_mid, cell_of_row w t' (0 + j) cur byteT (0, 0) hg, ← hj, ← hct]
        simp [hjl]
      have hr := Lib.run_append_grow_string (P := P) w t u ty el i (.int .u8 0) ht hu hi hz ⟨t', 0, none⟩ l.length cap (l.map fun c => Value.int .u8 (c.toNat : Int)) (by simp [hs1]) holds ⟨s.toArray⟩ (by rw [hsz]; omega) (by rw [hsz]; omega)
        (by rw [hb1, hsz]; exact growslice_fits (by omega) (by omega))
      rw [hsz, strCells_of] at hr
      refine ⟨_, _, some w.heap.size, hr, ?_, BelX.of (below_drew_alloc w _), ?_, by simp, by simp⟩
      · have h2 := bufR_grown (el := el) w b hel (hb := hb) (l ++ s) cap
        simpa using h2
      · rw [(below_drew_alloc w _).block b hb]
end
/-! ### copyCheck, of whatever builder -/
theorem Cells2.cells {w : World} {b n : Nat} {T : TypeId} {x y : Value} (h : Cells2 w b n T x y) : w.cell? ⟨b, 0, none⟩ = some x ∧ w.cell? ⟨b, 1, none⟩ = some y ∧ w.frozen? ⟨b, 0, none⟩ = false ∧ w.frozen? ⟨b, 1, none⟩ = false ∧ w.shape? b = some (T, n) := by
  obtain ⟨cur, h1, h2, h3⟩ := h
  have e0 : cur[0]? = some x := by
    have := congrArg (·[0]?) h3
    simpa using this
  have e1 : cur[1]? = some y := by
    have := congrArg (·[1]?) h3
    simpa [List.getElem?_take] using this
  refine ⟨by rw [cell_of_row w b 0 cur T (0, 0) h1]; exact e0, by rw [cell_of_row w b 1 cur T (0, 0) h1]; exact e1, Lib.frozen_of_heap h1 0, Lib.frozen_of_heap h1 1, ?_⟩
  simp [World.shape?, h1, h2]
theorem Cells2.set0 {w : World} {b n : Nat} {T : TypeId} {x y : Value} (h : Cells2 w b n T x y) (z : Value) : Cells2 (w.setCell ⟨b, 0, none⟩ z) b n T z y ∧ BelX (fun k => k = b) w (w.setCell ⟨b, 0, none⟩ z) := by
  obtain ⟨cur, h1, h2, h3⟩ := h
  rw [setCell_eq_setRow w b 0 cur T (0, 0) z h1]
  refine ⟨⟨_, setRow_heap w b cur _ T (0, 0) h1, by simpa using h2, ?_⟩, belX_setRow w b _⟩
  obtain ⟨l⟩ := cur
  match l, h3 with
  | a :: c :: l, h3 =>
    simp at h3 ⊢
    exact h3.2
theorem Cells2.set1 {w : World} {b n : Nat} {T : TypeId} {x y : Value} (h : Cells2 w b n T x y) (z : Value) : Cells2 (w.setCell ⟨b, 1, none⟩ z) b n T x z ∧ BelX (fun k => k = b) w (w.setCell ⟨b, 1, none⟩ z) := by
  obtain ⟨cur, h1, h2, h3⟩ := h
  rw [setCell_eq_setRow w b 1 cur T (0, 0) z h1]
  refine ⟨⟨_, setRow_heap w b cur _ T (0, 0) h1, by simpa using h2, ?_⟩, belX_setRow w b _⟩
  obtain ⟨l⟩ := cur
  match l, h3 with
  | a :: c :: l, h3 =>
    simp at h3 ⊢
    exact h3.1
theorem copyCheck_at {w : World} {b n : Nat} {T : TypeId} {a0 buf : Value} (hc : Cells2 w b n T a0 buf) (hs : (a0 = .pointer none ∧ BT T ∧ n = 2) ∨ a0 = .pointer (some ⟨b, 0, none⟩)) :
    Calls Tryz.prog 77 #[.pointer (some ⟨b, 0, none⟩)] w fun e w' => e = .returned (.tuple #[]) ∧ Cells2 w' b n T (.pointer (some ⟨b, 0, none⟩)) buf ∧ BelX (fun k => k = b) w w' ∧ w'.heap.size = w.heap.size ∧ ∀ k, k ≠ b → w'.heap[k]? = w.heap[k]? := by
  obtain ⟨c0, c1, f0, f1, sh⟩ := hc.cells
  rcases hs with ⟨rfl, hT, rfl⟩ | rfl
  · refine (copyCheck_fresh hT b w c0 sh f0).mono ?_
    rintro e w' ⟨rfl, rfl⟩
    exact ⟨rfl, (hc.set0 _).1, (hc.set0 _).2, by simp, fun k hk => heap_setCell_other w ⟨b, 0, none⟩ k _ hk⟩
  · refine (copyCheck_used b w c0).mono ?_
    rintro e w' ⟨rfl, rfl⟩
    exact ⟨rfl, hc, BelX.refl _ _, rfl, fun _ _ => rfl⟩
/-! ### WriteString -/
open Go.Lib in
theorem wpList_append_run {P : Program} {w w' : World} {ops : Array Oper} {rest : List Oper} {o : Oper} {a : Act} {Q : Exit → Act → World → Prop} (hgd : o.guard = none) (sl x : Operand) (t u : TypeId)
    (ho : o.op = .call { callee := .builtin .append, args := #[sl, x], argTypes := #[t, u] }) {v vx v' : Value} (hs : a.eval sl = v) (hx : a.eval x = vx) (hr : (Builtin.append_ #[t, u] o.type #[v, vx]).run P w = .ok v' w')
    (h : wpList P ops Q rest (a.put o.dst v') w') : wpList P ops Q (o :: rest) a w := by
  refine wpList_plain hgd fun K hK => ?_
  unfold Oper.wp execOp
  simp only [ho, resolve, invoke, builtin, Sem.run_bind, Sem.run_pure, Result.andThen_ok, List.map_toArray, List.map_cons, List.map_nil, hs, hx, hr]
  exact hK _ _ h
set_option maxHeartbeats 1000000 in
set_option maxRecDepth 100000 in
theorem wr_walk {w : World} {b n : Nat} {T : TypeId} {a0 buf : Value} (hc : Cells2 w b n T a0 buf) (hs : (a0 = .pointer none ∧ BT T ∧ n = 2) ∨ a0 = .pointer (some ⟨b, 0, none⟩)) {l : List UInt8} {tt : Option Nat} (hbuf : BufR w b l buf tt) (s : List UInt8) (hlen : l.length + s.length ≤ 140737488355328) :
    Calls Tryz.prog 50 #[.pointer (some ⟨b, 0, none⟩), .string ⟨s.toArray⟩] w fun e w' => ∃ v buf' t', e = .returned v ∧ BelX (fun k => k = b ∨ tt = some k) w w' ∧ Cells2 w' b n T (.pointer (some ⟨b, 0, none⟩)) buf' ∧ BufR w' b (l ++ s) buf' t' ∧
      (∀ k, t' = some k → tt = some k ∨ w.heap.size ≤ k) ∧ (t' = none ↔ tt = none ∧ s = []) := by
  have e50 : ∀ args w, (callFunc 77 args).run Tryz.prog w = .ok (.enter 77 args) w := enters_of Tryz.func77 (by kernel_rfl) rfl
  have ht : Tryz.prog.underlying 40 = some (.slice 5) := by kernel_rfl
  have hu : Tryz.prog.underlying 9 = some .string := by kernel_rfl
  have hi0 : (Tryz.prog.info? 5).map (fun i => (i.zero, i.size, i.bytes)) = some (some (.int .u8 0), 1, 1) := by kernel_rfl
  obtain ⟨i, hi, hi1⟩ := Option.map_eq_some_iff.1 hi0
  simp only [Prod.mk.injEq] at hi1
  obtain ⟨hz, hs1, hb1⟩ := hi1
  go_enter Tryz.func50, Tryz.ntmps50
  go_wp2_with (go_at_fn 77; refine (copyCheck_at hc hs).mono ?_)
  rintro e w1 ⟨rfl, hc1, hB1, hsz1, hk1⟩
  have hlt : b < w1.heap.size := heap_lt hc1.choose_spec.1
  have hbuf1 : BufR w1 b l buf tt := by
    rcases hbuf with h | ⟨t', n', cap, cur, rfl, hne, rfl, rfl, hnc, hg, hcs, hct⟩
    · exact .inl h
    · exact .inr ⟨t', _, cap, cur, rfl, hne, rfl, rfl, hnc, by rw [hk1 t' hne]; exact hg, hcs, hct⟩
  obtain ⟨c0, c1, f0, f1, sh⟩ := hc1.cells
  obtain ⟨buf', w2, t', hr, hbuf2, hB2, hkb, hfr, hiff⟩ := bufR_append (P := Tryz.prog) (ty := 40) w1 ht hu hi hz hs1 hb1 rfl hlt hbuf1 hlen
  have hc2 : Cells2 w2 b n T (.pointer (some ⟨b, 0, none⟩)) buf := by
    obtain ⟨cur, h1, h2, h3⟩ := hc1
    exact ⟨cur, hkb.trans h1, h2, h3⟩
  obtain ⟨d0, d1, g0, g1, sh2⟩ := hc2.cells
  obtain ⟨ao, n', cap, rfl⟩ : ∃ ao n' cap, buf' = .slice ao n' cap := by
    rcases hbuf2 with ⟨_, _, h⟩ | ⟨_, _, _, _, _, _, h, _⟩
    · exact ⟨_, _, _, h⟩
    · exact ⟨_, _, _, h⟩
  go_wp2_with (at_builtin; refine wpList_append_run rfl _ _ 40 9 rfl rfl rfl hr ?_)
  go_wp2
  have hc3 := (hc2.set1 (.slice ao n' cap)).1
  refine ⟨rfl, .tuple #[.int .i64 (⟨s.toArray⟩ : ByteArray).size, .nilIface], by simp [results, Tryz.results50, ByteArray.size], _, .slice ao n' cap, t', rfl, ?_, hc3, ?_, ?_, hiff⟩
  · refine (hB1.mono fun k hk => .inl hk).trans (Y := fun k => k = b ∨ tt = some k) ((hB2.mono fun k hk => .inr hk).trans (Y := fun k => k = b ∨ tt = some k) ((hc2.set1 (.slice ao n' cap)).2.mono fun k hk => .inl hk) fun k hk => .inr hk) fun k hk => .inr hk
  · rcases hbuf2 with h | ⟨t2, m2, cap2, cur, h1, hne, h3, h4, hnc, hg, hcs, hct⟩
    · exact .inl h
    · exact .inr ⟨t2, m2, cap2, cur, h1, hne, h3, h4, hnc, by rw [heap_setCell_other w2 ⟨b, 1, none⟩ t2 _ hne]; exact hg, hcs, hct⟩
  · intro k hk
    rw [← hsz1]
    exact hfr k hk
theorem aft_of {w w' : World} {pr : Nat → Nat → Prop} {Y : Nat → Prop} (h : BelX Y w w') (hp : ∀ b o, pr b o → b < w.heap.size) : Aft w w' pr pr Y :=
  ⟨h, fun _ _ h => h, fun _ _ h => .inl h, fun b o p => Nat.lt_of_lt_of_le (hp b o p) h.size⟩
variable {od : Value → Prop}
theorem self_bt {T Tb : TypeId} (hb : BT Tb) {a0 : Value} {n b : Nat} (h : (a0 = .pointer none ∧ T = Tb ∧ n = 2) ∨ a0 = .pointer (some ⟨b, 0, none⟩)) : (a0 = .pointer none ∧ BT T ∧ n = 2) ∨ a0 = .pointer (some ⟨b, 0, none⟩) := by
  rcases h with ⟨h1, rfl, h2⟩ | h
  · exact .inl ⟨h1, hb, h2⟩
  · exact .inr h
def wrF : List AV → Option AV
  | [.str s] => some (.wr 65 s)
  | _ => none
theorem wr_says (G : World → Prop) (B : Nat) (args : List AV) (r : AV) (h : wrF args = some r) : Says (Cxo od G B) 50 args r := by
  have hen : Enters (Cxo od G B).P 50 := ⟨_, Tryz.func50, by kernel_rfl, by kernel_rfl⟩
  unfold wrF at h
  split at h
  · rename_i s
    simp only [Option.some.injEq] at h
    subst h
    refine ⟨hen, fun w pr b n a0 buf T t l vals hW hlen hr => ?_⟩
    simp only [RdL, Rd] at hr
    obtain ⟨v, vs, rfl, rfl, rfl⟩ := hr
    refine (wr_walk hW.cells (self_bt bt_builder hW.self) hW.hbuf s hlen).mono ?_
    rintro e w' ⟨v, buf', t', rfl, hB, hc, hb, hfr, hiff⟩
    refine ⟨v, buf', t', pr, rfl, aft_of hB hW.hpr, hc, hb, hfr, fun k o hk hp => ?_, hiff⟩
    rcases hfr k hk with h | h
    · exact hW.nt k o h hp
    · have := hW.hpr k o hp
      omega
  · simp at h

end Go.Proofs.YtdjgdipmjbkilaaGreatDoor.Rx
