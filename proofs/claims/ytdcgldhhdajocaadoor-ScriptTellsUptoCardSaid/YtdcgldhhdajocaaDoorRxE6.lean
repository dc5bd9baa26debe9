/-
  Rx, the script's functions that are told by hand, 6: slices.Insert of edits.
-/
import Derived.Test.YtdcgldhhdajocaaDoorRxE4
import Derived.Shelf.RegionOpenPlain
import Derived.Lib.AppendZerosOnto
import Derived.Lib.JoinLaws
import Derived.Laws.NewBlocks
namespace Go.Proofs.YtdcgldhhdajocaaDoor.Rx
open Go Go.RowKit

section
variable {P : Program}
theorem run_copy_k (w : World) {dT sT ty elem : TypeId} {k : Nat} {g o dLen dCap : Nat} {a : Addr} {sLen sCap : Nat} {cur : Array Value} {t : TypeId} {cs : List Value}
    (hu : P.underlying dT = some (.slice elem)) (hs : (P.info? elem).map (·.size) = some k)
    (hg : w.heap[g]? = some (.cells cur t (0, 0))) (hn : cs.length = Nat.min sLen dLen * k)
    (hsrc : ∀ j v, cs[j]? = some v → w.cell? (a.add j) = some v) (hfit : o + cs.length ≤ cur.size) (h1 : ∀ v ∈ cs, v.oneCell' = true) :
    (Builtin.copy_ #[dT, sT] ty #[.slice (some ⟨g, o, none⟩) dLen dCap, .slice (some a) sLen sCap]).run P w =
      .ok (goInt (Nat.min sLen dLen)) (w.setRow g (cur.toList.take o ++ cs ++ cur.toList.drop (o + cs.length)).toArray) := by
  have hl := run_loadCells_list (P := P) w a cs hsrc
  have hst := run_storeCells_at P g o t cs 0 cur w hg (by simpa using hfit) h1
  cases hq : P.info? elem with
  | none => simp [hq] at hs
  | some i =>
    have hi : i.size = k := by simpa [hq] using hs
    simp [Builtin.copy_, run_underlying hu, Builtin.lenOf, Builtin.firstCells, sizeOf, typeInfo, hq, hi, ← hn, hl, hst]
theorem wpList_copy_run {w w' : World} {ops : Array Oper} {rest : List Oper} {o : Oper} {a : Act} {Q : Exit → Act → World → Prop} (hgd : o.guard = none) (d s : Operand) (t t' : TypeId)
    (ho : o.op = .call { callee := .builtin .copy, args := #[d, s], argTypes := #[t, t'] }) (v u : Value) (hd : a.eval d = v) (hs : a.eval s = u) {v' : Value}
    (hr : (Builtin.copy_ #[t, t'] o.type #[v, u]).run P w = .ok v' w') (h : wpList P ops Q rest (a.put o.dst v') w') : wpList P ops Q (o :: rest) a w := by
  refine wpList_plain hgd fun K hK => ?_
  unfold Oper.wp execOp
  simp only [ho, resolve, invoke, builtin, Sem.run_bind, Sem.run_pure, Result.andThen_ok, List.map_toArray, List.map_cons, List.map_nil, hd, hs, hr]
  exact hK _ _ h
theorem step_copy_run {ops : Array Oper} {o : Oper} {a : Act} {w : World} {K : Act → World → Prop} {Q : Exit → Act → World → Prop} {E : Prop}
    (hg : o.guard = none) (d x : Operand) (dT sT : TypeId) (hop : o.op = Op.call { callee := Callee.builtin Builtin.copy, args := #[d, x], argTypes := #[dT, sT] })
    (v u : Value) (hd : a.eval d = v) (hx : a.eval x = u) {v' : Value} {w' : World} (hr : (Builtin.copy_ #[dT, sT] o.type #[v, u]).run P w = .ok v' w') (hK : K (a.put o.dst v') w') :
    if Region.wanted o (yielded ops a.tmps) = true then Oper.wp P o a w K Q else E := by
  have hw : Region.wanted o (yielded ops a.tmps) = true := by simp [Region.wanted, hg]
  rw [if_pos hw]
  unfold Oper.wp
  simp [execOp, hop, resolve, invoke, builtin, hd, hx, hr, Result.andThen]
  exact hK
theorem run_overlaps_own (w : World) (tS tR e : TypeId) (ht : P.underlying tS = some (.slice e)) (size : Nat) (hz : ∀ w, (Go.sizeOf e).run P w = .ok size w)
    (a b : Addr) (la ca lb cb : Nat) (hne : a.block ≠ b.block) (tA tB : TypeId) (kA kB : Nat)
    (hsa : w.shape? a.block = some (tA, kA)) (hsb : w.shape? b.block = some (tB, kB)) (hkA : kA ≠ 0) (hkB : kB ≠ 0)
    (hfb : ∀ o, w.frozen? { block := b.block, off := o } = false) (hbs : b.spot = none) :
    (Extern.SlicesOverlaps.overlaps #[tS, tS] #[tR] #[.slice (some a) la ca, .slice (some b) lb cb]).run P w = .ok (.bool false) w := by
  have hfb0 : w.frozen? b = false := by
    obtain ⟨bb, bo, bs⟩ := b
    simp only at hbs
    subst hbs
    exact hfb bo
  have hfb1 := hfb kB
  have hnb : (a.block != b.block) = true := by simpa using hne
  have hnb' : (a.block == b.block) = false := by simpa using hne
  change Sem.run P (α := Value) (do
    let some t := (#[tS, tS] : Array TypeId)[0]? | stuck "slices.overlaps: no parameter types"
    let .slice elem ← underlying t | stuck "slices.overlaps: slice type expected"
    let size ← sizeOf elem
    match (some a : Option Addr), (some b : Option Addr) with
    | some a, some b =>
      if la = 0 ∨ lb = 0 ∨ size = 0 then pure (Value.bool false)
      else if a.block != b.block && (← frozen a) && (← frozen b) then unsupported .addressObserved
      else do
        if a.block != b.block then do
          noView a; noView b
          if ← mayBeOne a b then return Value.bool ((← choose (.extern "sameAddr.stringBytes" 2)) == 1)
        pure (Value.bool (a.block == b.block && a.off < b.off + lb * size && b.off < a.off + la * size))
    | _, _ => pure (Value.bool false)) w = _
  by_cases h0 : la = 0 ∨ lb = 0 ∨ size = 0
  · simp [run_underlying ht, hz, h0]
  · cases kB with
    | zero => exact absurd rfl hkB
    | succ kB =>
     cases kA with
     | zero => exact absurd rfl hkA
     | succ kA =>
      cases hfa : w.frozen? a <;> cases hfe : w.frozen? { block := a.block, off := kA + 1 } <;>
        simp [run_underlying ht, hz, h0, hnb, hnb', frozen, noView, viewAt, mayBeOne, stringish, shape, Sem.run, hsa, hsb, hfa, hfe, hfb0, hfb1]
end

abbrev tE : TypeId := 22
theorem utE : Tryd.prog.underlying tE = some (.slice 27) := by kernel_rfl
theorem szE : (Tryd.prog.info? 27).map (·.size) = some 3 := by kernel_rfl
theorem sizeE (w : World) : (Go.sizeOf 27).run Tryd.prog w = .ok 3 w := by
  obtain ⟨i, hi, h⟩ := Option.map_eq_some_iff.1 szE
  simp [Go.sizeOf, typeInfo, hi, h]

set_option maxHeartbeats 1000000 in
set_option maxRecDepth 100000 in
/-- At the end: as append does. -/
theorem ins_end {w w' : World} {base : Option Addr} {n c vc : Nat} {va : Addr} {v' : Value} (hr : (Builtin.append_ #[tE, tE] tE #[.slice base n c, .slice (some va) 1 vc]).run Tryd.prog w = .ok v' w') (hb : ∀ a, base = some a → a.spot = none) (hb0 : base = none → n = 0 ∧ c = 0) :
    Calls Tryd.prog 42 #[.slice base n c, .int .i64 n, .slice (some va) 1 vc] w fun e w1 => e = .returned v' ∧ w1 = w' := by
  have mixed : Tryd.prog.follows .mixedOrders = true := by kernel_rfl
  cases base with
  | none =>
    obtain ⟨rfl, rfl⟩ := hb0 rfl
    go_enter Tryd.func42, Tryd.ntmps42
    go_wp2_with (at_builtin; refine wpList_append_run rfl _ _ tE tE rfl rfl rfl hr ?_)
    go_ret
    exact ⟨rfl, rfl⟩
  | some a =>
    obtain ⟨ab, ao, asp⟩ := a
    have := hb _ rfl
    simp only at this
    subst this
    go_enter Tryd.func42, Tryd.ntmps42
    go_wp2_with (at_builtin; refine wpList_append_run rfl _ _ tE tE rfl rfl rfl hr ?_)
    all_goals (go_ret; exact ⟨rfl, rfl⟩)
abbrev fIns : Nat := 42
set_option maxHeartbeats 4000000 in
set_option maxRecDepth 100000 in
/-- In place. -/
theorem ins_shift {w : World} {b n c i vb vo vc : Nat} {cur : Array Value} {T : TypeId} {vs : List Value} (hi : i < n) (hroom : n + 1 ≤ c) (hn63 : n ≤ 1099511627776) (hvb : vb ≠ b) (hb : w.heap[b]? = some (.cells cur T (0, 0))) (hcs : cur.size = c * 3)
    (hvl : vs.length = 3) (hvs : ∀ j v, vs[j]? = some v → w.cell? ⟨vb, vo + j, none⟩ = some v) (h1c : ∀ v ∈ cur.toList.take (n * 3), v.oneCell' = true) (h1v : ∀ v ∈ vs, v.oneCell' = true) :
    Calls Tryd.prog fIns #[.slice (some ⟨b, 0, none⟩) n c, .int .i64 i, .slice (some ⟨vb, vo, none⟩) 1 vc] w fun e w' =>
      e = .returned (.slice (some ⟨b, 0, none⟩) (n + 1) c) ∧ ∃ new : Array Value, w' = w.drew.setRow b new ∧ new.size = c * 3 ∧ new.toList.take ((n + 1) * 3) = cur.toList.take (i * 3) ++ vs ++ (cur.toList.take (n * 3)).drop (i * 3) := by
  have mixed : Tryd.prog.follows .mixedOrders = true := by kernel_rfl
  obtain ⟨tA, kA, hsa, hkA⟩ : ∃ tA kA, w.shape? vb = some (tA, kA) ∧ kA ≠ 0 := by
    have h0 := hvs 0 _ (List.getElem?_eq_getElem (by omega))
    unfold World.cell? at h0
    unfold World.shape?
    split at h0
    · rename_i c' e' f' hh
      rw [hh]
      refine ⟨e', c'.size, rfl, fun h1 => ?_⟩
      simp only [Option.isSome_none, Bool.false_eq_true, if_false] at h0
      have := (Array.getElem?_eq_some_iff.1 h0).1
      omega
    · simp at h0
  have hsb : w.shape? b = some (T, c * 3) := by simp [World.shape?, hb, hcs]
  have hov : ∀ lb cb, (callFunc 52 #[.slice (some ⟨vb, vo, none⟩) 1 vc, .slice (some ⟨b, (i + 1) * 3, none⟩) lb cb]).run Tryd.prog w = .ok (.value (.bool false)) w := fun lb cb => by
    rw [run_callFunc_extern Tryd.func52 (by kernel_rfl) (by kernel_rfl) (by kernel_rfl) (e := Extern.SlicesOverlaps.overlaps #[tE, tE] #[4]) (by kernel_rfl),
      run_overlaps_own w tE 4 27 utE 3 sizeE ⟨vb, vo, none⟩ ⟨b, (i + 1) * 3, none⟩ 1 vc lb cb hvb tA T kA (c * 3) hsa hsb hkA (by omega) (fun o => Lib.frozen_of_heap hb o) rfl]
    rfl
  have hw1 : IntKind.i64.wrap ((i : Int) + (1 : Int)) = (i : Int) + (1 : Int) := by rw [IntKind.wrap_i64]; omega
  have hw2 : IntKind.i64.wrap ((n : Int) + (1 : Int)) = (n : Int) + (1 : Int) := by rw [IntKind.wrap_i64]; omega
  have hz2 : ¬ ((i : Int) = (n : Int)) := by omega
  have hb1 : (0 : Int) ≤ (i : Int) + (1 : Int) := by omega
  have hin : i ≤ n := by omega
  have htn : ((i : Int) + (1 : Int)).toNat = i + 1 := by omega
  have hb2 : ¬ (c = i + 1) := by omega
  have hb3 : (i : Int) ≤ (n : Int) + (1 : Int) := by omega
  have hb4 : ¬ (c = i) := by omega
  have hcl : cur.toList.length = c * 3 := by simpa using hcs
  obtain ⟨N1, N2, hcp1, hcp2, hN2s, hN2t⟩ : ∃ N1 N2 : Array Value, (∀ ty dc sc, (Builtin.copy_ #[tE, tE] ty #[.slice (some ⟨b, (i + 1) * 3, none⟩) (n - i) dc, .slice (some ⟨b, i * 3, none⟩) (n + 1 - i) sc]).run Tryd.prog w.drew = .ok (goInt (Nat.min (n + 1 - i) (n - i))) (w.drew.setRow b N1)) ∧
      (∀ ty dc, (Builtin.copy_ #[tE, tE] ty #[.slice (some ⟨b, i * 3, none⟩) (n + 1 - i) dc, .slice (some ⟨vb, vo, none⟩) 1 vc]).run Tryd.prog (w.drew.setRow b N1) = .ok (goInt (Nat.min 1 (n + 1 - i))) ((w.drew.setRow b N1).setRow b N2)) ∧
      N2.size = c * 3 ∧ N2.toList.take ((n + 1) * 3) = cur.toList.take (i * 3) ++ vs ++ (cur.toList.take (n * 3)).drop (i * 3) := by
    obtain ⟨mid, hmid⟩ : ∃ mid, mid = (cur.toList.take (n * 3)).drop (i * 3) := ⟨_, rfl⟩
    have hml : mid.length = (n - i) * 3 := by rw [hmid]; simp only [List.length_drop, List.length_take]; omega
    obtain ⟨N1, hN1⟩ : ∃ N1 : Array Value, N1 = (cur.toList.take ((i + 1) * 3) ++ mid ++ cur.toList.drop ((i + 1) * 3 + mid.length)).toArray := ⟨_, rfl⟩
    have hN1s : N1.size = c * 3 := by rw [hN1]; simp only [List.size_toArray, List.length_append, List.length_take, List.length_drop]; omega
    obtain ⟨N2, hN2⟩ : ∃ N2 : Array Value, N2 = (N1.toList.take (i * 3) ++ vs ++ N1.toList.drop (i * 3 + vs.length)).toArray := ⟨_, rfl⟩
    refine ⟨N1, N2, fun ty dc sc => ?_, fun ty dc => ?_, ?_, ?_⟩
    · rw [hN1]
      refine run_copy_k w.drew utE szE hb (by rw [hml]; show (n - i) * 3 = min (n + 1 - i) (n - i) * 3; omega) (fun j v hj => ?_) (by omega) (fun v hv => h1c v (by rw [hmid] at hv; exact List.mem_of_mem_drop hv))
      rw [Addr.add_lit, cell_of_row w.drew b (i * 3 + j) cur T (0, 0) hb, ← Array.getElem?_toList]
      rw [hmid, List.getElem?_drop, List.getElem?_take] at hj
      split at hj
      · exact hj
      · simp at hj
    · rw [hN2]
      refine run_copy_k (w.drew.setRow b N1) utE szE (setRow_heap w.drew b cur N1 T (0, 0) hb) (by rw [hvl]; show 3 = min 1 (n + 1 - i) * 3; omega) (fun j v hj => ?_) (by omega) h1v
      rw [Addr.add_lit, cell_of_block (setRow_other w.drew b vb N1 hvb)]
      exact hvs j v hj
    · rw [hN2]
      simp only [List.size_toArray, List.length_append, List.length_take, List.length_drop, Array.length_toList]
      omega
    · rw [hN2, hN1]
      have e1 : (cur.toList.take ((i + 1) * 3)).take (i * 3) = cur.toList.take (i * 3) := by rw [List.take_take]; congr 1; omega
      have e2 : (cur.toList.take ((i + 1) * 3)).length = (i + 1) * 3 := by rw [List.length_take]; omega
      have f1 : (cur.toList.take ((i + 1) * 3) ++ mid ++ cur.toList.drop ((i + 1) * 3 + mid.length)).take (i * 3) = cur.toList.take (i * 3) := by
        rw [List.append_assoc, List.take_append_of_le_length (by rw [e2]; omega), e1]
      have f2 : (cur.toList.take ((i + 1) * 3) ++ mid ++ cur.toList.drop ((i + 1) * 3 + mid.length)).drop (i * 3 + vs.length) = mid ++ cur.toList.drop ((i + 1) * 3 + mid.length) := by
        rw [List.append_assoc]
        exact List.drop_left' (by rw [e2, hvl]; omega)
      rw [show ∀ l : List Value, l.toArray.toList = l from fun l => rfl, show ∀ l : List Value, l.toArray.toList = l from fun l => rfl, f1, f2, ← List.append_assoc, ← hmid]
      exact List.take_left' (by simp only [List.length_append, List.length_take, hvl, hml]; omega)
  go_enter Tryd.func42, Tryd.ntmps42
  go_wp2_with (simp only [hov])
  go_region_law_o (refine step_copy_run rfl _ _ tE tE rfl _ _ (by simp [Act.eval, Act.put]) (by simp [Act.eval, Act.put]) (hcp1 _ _ _) ?_)
  go_wp2_with (at_builtin; refine wpList_copy_run rfl _ _ tE tE rfl _ _ rfl rfl (hcp2 _ _) ?_)
  go_ret
  exact ⟨rfl, N2, by rw [setRow_setRow], hN2s, hN2t⟩
theorem zE : ∃ ti z, Tryd.prog.info? 27 = some ti ∧ ti.zero = some z ∧ ti.size = 3 ∧ ti.bytes = 40 ∧ z.cells.size = 3 := by
  have h : (Tryd.prog.info? 27).map (fun ti => (ti.zero.map fun z => z.cells.size, ti.size, ti.bytes)) = some (some 3, 3, 40) := by kernel_rfl
  obtain ⟨ti, h1, h2⟩ := Option.map_eq_some_iff.1 h
  simp only [Prod.mk.injEq] at h2
  obtain ⟨h2, h3, h4⟩ := h2
  obtain ⟨z, h5, h6⟩ := Option.map_eq_some_iff.1 h2
  exact ⟨ti, z, h1, h5, h3, h4, h6⟩
set_option maxHeartbeats 4000000 in
set_option maxRecDepth 100000 in
/-- No room, ahead of the end: a new row. -/
theorem ins_grow {w : World} {b n c i vb vo vc : Nat} {cur : Array Value} {T : TypeId} {vs : List Value} (hi : i < n) (hnc : n ≤ c) (hroom : c < n + 1) (hbig : (n + 1) * 40 ≤ 140737488355328) (hb : w.heap[b]? = some (.cells cur T (0, 0))) (hcs : cur.size = c * 3)
    (hvl : vs.length = 3) (hvs : ∀ j v, vs[j]? = some v → w.cell? ⟨vb, vo + j, none⟩ = some v) (h1c : ∀ v ∈ cur.toList.take (n * 3), v.oneCell' = true) (h1v : ∀ v ∈ vs, v.oneCell' = true) :
    Calls Tryd.prog fIns #[.slice (some ⟨b, 0, none⟩) n c, .int .i64 i, .slice (some ⟨vb, vo, none⟩) 1 vc] w fun e w' =>
      ∃ G, e = .returned (.slice (some ⟨w.heap.size, 0, none⟩) (n + 1) G) ∧ n + 1 ≤ G ∧ Below w.heap.size w w' ∧ ∃ new : Array Value, w'.heap[w.heap.size]? = some (.cells new 27 (0, 0)) ∧ new.size = G * 3 ∧ new.toList.take ((n + 1) * 3) = cur.toList.take (i * 3) ++ vs ++ (cur.toList.take (n * 3)).drop (i * 3) := by
  have mixed : Tryd.prog.follows .mixedOrders = true := by kernel_rfl
  obtain ⟨ti, z, hti, hz, hs3, hb40, hzc⟩ := zE
  have utI : Tryd.prog.underlying 3 = some (.int .i64) := by kernel_rfl
  have hbw : b < w.heap.size := heap_lt hb
  have hcl : cur.toList.length = c * 3 := by simpa using hcs
  have hvw : vb < w.heap.size := by
    have h0 := hvs 0 _ (List.getElem?_eq_getElem (by omega))
    unfold World.cell? at h0
    split at h0
    · rename_i h; exact heap_lt h
    · simp at h0
  obtain ⟨G, hG⟩ : ∃ G, G = grownCap w (n + 1) c 27 := ⟨_, rfl⟩
  have hGn : n + 1 ≤ G := by rw [hG]; exact grownCap_ge w _ _ _
  have hG63 : G ≤ 9223372036854775807 := by
    have := grownCap_le_maxLen w (n + 1) c 27 (by unfold maxLen; omega)
    rw [← hG] at this
    unfold maxLen at this
    omega
  have hold : (Builtin.firstCells ti.size i (.slice (some ⟨b, 0, none⟩) i c)).run Tryd.prog w.drew = .ok (cur.toList.take (i * 3)).toArray w.drew := by
    rw [hs3]
    exact run_firstCells_some w.drew 3 i ⟨b, 0, none⟩ i c (cur.toList.take (i * 3)) (by rw [List.length_take]; omega) (fun j v hj => by
      rw [Addr.add_mid, cell_of_row w.drew b (0 + j) cur T (0, 0) hb, Nat.zero_add, ← Array.getElem?_toList]
      rw [List.getElem?_take] at hj
      split at hj
      · exact hj
      · simp at hj)
  obtain ⟨W0, ROW, hW0, hR0, hB0, hrz⟩ : ∃ (W0 : World) (ROW : Array Value), W0.heap[w.heap.size]? = some (.cells ROW 27 (0, 0)) ∧ (ROW.size = G * 3 ∧ ROW.toList.take (i * 3) = cur.toList.take (i * 3)) ∧ Below w.heap.size w W0 ∧
      ∀ ty, (Builtin.append_ #[tE, 3] ty #[.slice (some ⟨b, 0, none⟩) i c, .int .i64 ((n : Int) + 1 - (i : Int))]).run Tryd.prog w = .ok (.slice (some ⟨w.heap.size, 0, none⟩) (n + 1) G) W0 := by
    have hik : i + (n + 1 - i) = n + 1 := by omega
    have hkk : (n : Int) + 1 - (i : Int) = ((n + 1 - i : Nat) : Int) := by omega
    refine ⟨w.drew.alloc (.cells ((cur.toList.take (i * 3)).toArray ++ Builtin.zeroCells z.cells (n + 1 - i) ++ Builtin.zeroCells z.cells (G - (n + 1))) 27), (cur.toList.take (i * 3)).toArray ++ Builtin.zeroCells z.cells (n + 1 - i) ++ Builtin.zeroCells z.cells (G - (n + 1)), heap_alloc_new w.drew _, ⟨?_, ?_⟩, below_drew_alloc w _, fun ty => ?_⟩
    rotate_left 2
    · have h := Lib.run_append_grow_zeros w tE 3 ty 27 ti z .i64 .i64 utE utI hti hz (some ⟨b, 0, none⟩) i c (cur.toList.take (i * 3)) hold (n + 1 - i) (by omega) (by omega) (by omega) (by omega) (by rw [hb40]; omega) (by rw [hb40, hik]; exact growslice_fits (by omega) hbig)
      rw [hik, ← hG] at h
      rw [hkk]
      exact h
    · simp only [Array.size_append, List.size_toArray, size_zeroCells, hzc, List.length_take]
      omega
    · simp only [Array.toList_append]
      rw [List.append_assoc]
      exact List.take_left' (by rw [List.length_take]; omega)
  obtain ⟨W1, hW1, hcpA⟩ : ∃ W1 : World, (W1.heap.size = W0.heap.size ∧ ∃ R1 : Array Value, R1.size = G * 3 ∧ W1 = W0.setRow w.heap.size R1 ∧ R1.toList.take ((i + 1) * 3) = cur.toList.take (i * 3) ++ vs) ∧
      ∀ ty dc, (Builtin.copy_ #[tE, tE] ty #[.slice (some ⟨w.heap.size, i * 3, none⟩) (n + 1 - i) dc, .slice (some ⟨vb, vo, none⟩) 1 vc]).run Tryd.prog W0 = .ok (goInt (Nat.min 1 (n + 1 - i))) W1 := by
    refine ⟨W0.setRow w.heap.size (ROW.toList.take (i * 3) ++ vs ++ ROW.toList.drop (i * 3 + vs.length)).toArray, ⟨by simp, _, ?_, rfl, ?_⟩, fun ty dc => ?_⟩
    · simp only [List.size_toArray, List.length_append, List.length_take, List.length_drop, Array.length_toList]
      omega
    · rw [hR0.2]
      exact List.take_left' (by rw [List.length_append, List.length_take]; omega)
    · refine run_copy_k W0 utE szE hW0 (by rw [hvl]; show 3 = min 1 (n + 1 - i) * 3; omega) (fun j v hj => ?_) (by omega) h1v
      rw [Addr.add_lit, cell_of_block (hB0.block vb hvw)]
      exact hvs j v hj
  obtain ⟨W2, hW2, hcpB⟩ : ∃ W2 : World, (Below w.heap.size w W2 ∧ ∃ new : Array Value, W2.heap[w.heap.size]? = some (.cells new 27 (0, 0)) ∧ new.size = G * 3 ∧ new.toList.take ((n + 1) * 3) = cur.toList.take (i * 3) ++ vs ++ (cur.toList.take (n * 3)).drop (i * 3)) ∧
      ∀ ty dc sc, (Builtin.copy_ #[tE, tE] ty #[.slice (some ⟨w.heap.size, (i + 1) * 3, none⟩) (n - i) dc, .slice (some ⟨b, i * 3, none⟩) (n - i) sc]).run Tryd.prog W1.drew = .ok (goInt (Nat.min (n - i) (n - i))) W2 := by
    obtain ⟨hsz1, R1, hR1s, rfl, hR1t⟩ := hW1
    have hrow : (W0.setRow w.heap.size R1).drew.heap[w.heap.size]? = some (.cells R1 27 (0, 0)) := setRow_heap W0 _ ROW R1 _ _ hW0
    have hml : ((cur.toList.take (n * 3)).drop (i * 3)).length = (n - i) * 3 := by simp only [List.length_drop, List.length_take]; omega
    refine ⟨(W0.setRow w.heap.size R1).drew.setRow w.heap.size (R1.toList.take ((i + 1) * 3) ++ (cur.toList.take (n * 3)).drop (i * 3) ++ R1.toList.drop ((i + 1) * 3 + ((cur.toList.take (n * 3)).drop (i * 3)).length)).toArray, ⟨?_, _, setRow_heap _ _ _ _ _ _ hrow, ?_, ?_⟩, fun ty dc sc => ?_⟩
    · have hX : BelX (fun k => w.heap.size ≤ k) w W0 := BelX.of hB0
      have h2 := (hX.row (b := w.heap.size) (.inl (Nat.le_refl _)) R1)
      have h3 : BelX (fun k => w.heap.size ≤ k) w (W0.setRow w.heap.size R1).drew := ⟨h2.os, h2.tape, h2.output, h2.size, h2.block, h2.ty⟩
      have h4 := h3.row (b := w.heap.size) (.inl (Nat.le_refl _)) (R1.toList.take ((i + 1) * 3) ++ (cur.toList.take (n * 3)).drop (i * 3) ++ R1.toList.drop ((i + 1) * 3 + ((cur.toList.take (n * 3)).drop (i * 3)).length)).toArray
      exact ⟨h4.os, h4.tape, h4.output, h4.size, fun k hk => h4.block k hk (by omega)⟩
    · simp only [List.size_toArray, List.length_append, List.length_take, List.length_drop, Array.length_toList]
      omega
    · rw [hR1t]
      exact List.take_left' (by rw [List.length_append, hml, List.length_append, List.length_take]; omega)
    · refine run_copy_k _ utE szE hrow (by rw [hml]; show (n - i) * 3 = min (n - i) (n - i) * 3; omega) (fun j v hj => ?_) (by rw [hml]; omega) (fun v hv => h1c v (List.mem_of_mem_drop hv))
      rw [Addr.add_lit, show (W0.setRow w.heap.size R1).drew.cell? ⟨b, i * 3 + j, none⟩ = W0.cell? ⟨b, i * 3 + j, none⟩ from cell_of_block (setRow_other W0 w.heap.size b R1 (by omega)) _, cell_of_block (hB0.block b hbw), cell_of_row w b (i * 3 + j) cur T (0, 0) hb, ← Array.getElem?_toList]
      rw [List.getElem?_drop, List.getElem?_take] at hj
      split at hj
      · exact hj
      · simp at hj
  have hz2 : ¬ ((i : Int) = (n : Int)) := by omega
  have hz3 : (c : Int) < (n : Int) + 1 := by omega
  have hGi : ¬ (G = i) := by omega
  have hGim : ¬ (G = i + 1) := by omega
  have hci : ¬ (c = i) := by omega
  have hw1 : IntKind.i64.wrap ((i : Int) + (1 : Int)) = (i : Int) + (1 : Int) := by rw [IntKind.wrap_i64]; omega
  have hw2 : IntKind.i64.wrap ((n : Int) + (1 : Int)) = (n : Int) + (1 : Int) := by rw [IntKind.wrap_i64]; omega
  have hb1 : (0 : Int) ≤ (i : Int) + (1 : Int) := by omega
  have hin : i ≤ n := by omega
  have htn : ((i : Int) + (1 : Int)).toNat = i + 1 := by omega
  have hb3 : (i : Int) ≤ (n : Int) := by omega
  clear hold hG hW1
  go_enter Tryd.func42, Tryd.ntmps42
  go_wp2_with (first
    | (at_builtin; refine wpList_append_run rfl _ _ tE 3 rfl rfl rfl (hrz _) ?_)
    | (at_builtin; refine wpList_copy_run rfl _ _ tE tE rfl _ _ rfl rfl (hcpA _ _) ?_))
  go_region_law_o (refine step_copy_run rfl _ _ tE tE rfl _ _ (by simp [Act.eval, Act.put]) (by simp [Act.eval, Act.put]) (hcpB _ _ _) ?_)
  go_wp2
  go_ret
  exact ⟨G, rfl, hGn, hW2.1, hW2.2⟩
end Go.Proofs.YtdcgldhhdajocaaDoor.Rx
