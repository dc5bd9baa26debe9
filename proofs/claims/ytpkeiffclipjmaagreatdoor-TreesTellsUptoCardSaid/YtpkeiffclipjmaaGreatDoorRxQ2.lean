/-
  Rx, part Q2: slices that are made, and slices that grow.
-/
import Derived.Test.YtpkeiffclipjmaaGreatDoorRxQ
import Derived.Laws.AppendOwn
import Derived.Laws.OwnMore
import Derived.Great.BuildSlice
namespace Go.Proofs.YtpkeiffclipjmaaGreatDoor.Rx
open Go Go.RowKit
set_option linter.unusedSimpArgs false
section
variable {P : Program} {X : Nat → Prop} {w0 w : World} {pr0 : Nat → Nat → Prop} {bx : Bx} {pm : Pm} {g : Gh} {e : Env} {a : Act}

/-- A new row, of which the first n cells stay. -/
theorem newRow_mem (hM : Mem X w0 pr0 bx pm w g) {w' : World} (hB : Below w.heap.size w w') (hs : w'.heap.size = w.heap.size + 1) (n : Nat) :
    Mem X w0 pr0 bx pm w' (g.more fun b o => b = w.heap.size ∧ o < n) ∧ Later w g w' (g.more fun b o => b = w.heap.size ∧ o < n) := by
  obtain ⟨f1, f2, f3⟩ := hM.fresh
  refine ⟨(hM.moved hB).more _ ?_ ?_ ?_, (hM.later_below hB).trans (Later.more w' g _)⟩
  · rintro b o ⟨rfl, _⟩
    exact ⟨hM.below.size, by omega⟩
  · rintro b o ⟨rfl, _⟩ s' n'
    exact f2 s' n'
  · rintro b o ⟨rfl, _⟩
    exact f3

theorem newRow_slR (g : Gh) {w' : World} {cur : Array Value} {T : TypeId} (hb : w'.heap[w.heap.size]? = some (.cells cur T (0, 0))) {k cap : Nat} {us : List Value}
    (hk : ∀ u ∈ us, u.cells.size = k) (h1 : ∀ c ∈ flatV us, c.oneCell' = true) (hcap : us.length ≤ cap) (hcur : cur.toList.take (us.length * k) = flatV us) :
    SlR w' (g.more fun b o => b = w.heap.size ∧ o < us.length * k).pr k us (.slice (some ⟨w.heap.size, 0, none⟩) us.length cap) := by
  refine ⟨_, cap, rfl, hcap, hk, h1, fun _ => ⟨w.heap.size, 0, rfl, fun j c hj => ?_⟩⟩
  have hlt : j < us.length * k := by rw [← flatV_length us hk]; exact (List.getElem?_eq_some_iff.1 hj).1
  refine ⟨?_, .inr ⟨rfl, by omega⟩⟩
  rw [Nat.zero_add, cell_of_row w' w.heap.size j cur T (0, 0) hb]
  rw [← hcur, List.getElem?_take, if_pos hlt] at hj
  simpa using hj

theorem flatV_cells (us : List Value) (h : ∀ u ∈ us, ∀ c ∈ u.cells.toList, c.oneCell' = true) : ∀ c ∈ flatV us, c.oneCell' = true := by
  intro c hc
  unfold flatV at hc
  obtain ⟨u, hu, hcu⟩ := List.mem_flatMap.1 hc
  exact h u hu c hcu

theorem mod_block {k : Nat} (hk : 0 < k) (z : Array Value) (hz : z.size = k) : ∀ n : Nat, (madeCells z (n * k)).toList = flatV (List.replicate n (.agg z))
  | 0 => by simp [madeCells, flatV]
  | n + 1 => by
    have ih := mod_block hk z hz n
    rw [List.replicate_succ', flatV_append, ← ih]
    apply List.ext_getElem?
    intro j
    have e1 : (n + 1) * k = n * k + k := by rw [Nat.add_mul, Nat.one_mul]
    have l1 : (madeCells z (n * k)).toList.length = n * k := by simp [madeCells]
    by_cases hj : j < n * k
    · rw [List.getElem?_append_left (by omega)]
      simp only [madeCells, Array.toList_map, Array.toList_range, List.getElem?_map]
      rw [List.getElem?_range (by omega), List.getElem?_range hj]
    · by_cases hj2 : j < n * k + k
      · rw [List.getElem?_append_right (by omega), l1]
        simp only [madeCells, Array.toList_map, Array.toList_range, List.getElem?_map]
        rw [List.getElem?_range (by omega)]
        have e2 : j % z.size = j - n * k := by
          rw [hz]
          have : j = (j - n * k) + n * k := by omega
          conv => lhs; rw [this, Nat.add_mul_mod_self_right]
          exact Nat.mod_eq_of_lt (by omega)
        simp only [Option.map_some, e2, flatV, Value.cells, List.flatMap_cons, List.flatMap_nil, List.append_nil]
        rw [Array.getElem?_toList, getElem!_pos z _ (by omega), Array.getElem?_eq_getElem (by omega)]
      · rw [List.getElem?_eq_none (by simp [madeCells]; omega), List.getElem?_eq_none (by simp [madeCells, flatV, Value.cells]; omega)]
theorem flatV_rep (n : Nat) (v : Value) : flatV (List.replicate n v) = flatV (List.replicate n (.agg v.cells)) := by
  induction n with
  | zero => rfl
  | succ n ih => simp only [flatV, List.replicate_succ, List.flatMap_cons] at ih ⊢; rw [ih]; simp [Value.cells]

theorem flatV_set {k : Nat} {us : List Value} (h : ∀ u ∈ us, u.cells.size = k) {i : Nat} (hi : i < us.length) (v : Value) :
    flatV (us.set i v) = (flatV us).take (i * k) ++ v.cells.toList ++ (flatV us).drop (i * k + k) := by
  rw [List.set_eq_take_append_cons_drop, if_pos hi, flatV_append, ← flatV_take us i h]
  have : flatV (v :: us.drop (i + 1)) = v.cells.toList ++ flatV (us.drop (i + 1)) := by simp [flatV]
  rw [this, flatV_drop us (i + 1) h, List.append_assoc, Nat.add_mul, Nat.one_mul]

/-- What is known of a zero value. -/
theorem zero_mkv {z r : AV} {ag : Bool} (ha : z.isAgg = ag) (hok : z.okC = true) (h : mkv ag z.cells = some r) : r = z := by
  cases z with
  | agg cs => subst ha; simpa [AV.isAgg, AV.cells, mkv] using h.symm
  | _ => subst ha; simpa [AV.isAgg, AV.cells, mkv] using h.symm

theorem rows_rd (hE : EnvR e a w g) {el : TypeId} {k : Nat} {ag : Bool} : ∀ {ps : List (Nat × Operand)} {ps' : List (Nat × Opd)} {xs xs' : List AV} {us : List Value} {cells : Array Value},
    partsS P el ps = some ps' → rowsOf e k ag xs ps' = some xs' → RdL w g.pub xs us → (∀ u ∈ us, u.cells.size = k) → (∀ u ∈ us, ∀ c ∈ u.cells.toList, c.oneCell' = true) → cells.toList = flatV us →
      ∃ us' cells', Instr.fill (fun i => some (i * k, k)) cells (ps.map fun (i, x) => (i, a.eval x)) = some cells' ∧ RdL w g.pub xs' us' ∧ (∀ u ∈ us', u.cells.size = k) ∧ (∀ u ∈ us', ∀ c ∈ u.cells.toList, c.oneCell' = true) ∧
        cells'.toList = flatV us' ∧ us'.length = us.length
  | [], ps', xs, xs', us, cells, h, hb, hr, hk, h1, hc => by
    simp only [partsS, Option.some.injEq] at h
    subst h
    simp only [rowsOf, Option.some.injEq] at hb
    subst hb
    exact ⟨us, cells, rfl, hr, hk, h1, hc, rfl⟩
  | (i, x) :: ps, ps', xs, xs', us, cells, h, hb, hr, hk, h1, hc => by
    simp only [partsS] at h
    split at h
    · rename_i y l hy hl
      simp only [Option.some.injEq] at h
      subst h
      simp only [rowsOf] at hb
      split at hb
      · rename_i v hv
        split at hb
        · rename_i hcond
          obtain ⟨c1, c2, c3, c4⟩ := hcond
          have hrd := opd_rd hy hE hv
          have hsz := Rd.size c1 hrd
          obtain ⟨_, hone⟩ := Rd.cells c1 hrd
          have hlen := hr.length
          have hfl : cells.size = us.length * k := by rw [← flatV_length us hk, ← hc]; simp
          have hle : i * k + k ≤ cells.size := by
            rw [hfl]
            have := Nat.mul_le_mul_right k (show i + 1 ≤ us.length by omega)
            rw [Nat.add_mul, Nat.one_mul] at this
            exact this
          have hfp := fold_part (i * k) (a.eval x).cells cells (by omega)
          obtain ⟨us', cells', k1, k2, k3, k4, k5, k6⟩ := rows_rd hE (xs := xs.set i v.pub1) (us := us.set i (a.eval x)) (cells := (a.eval x).cells.zipIdx.foldl (fun cs (y : Value × Nat) => cs.setIfInBounds (i * k + y.2) y.1) cells) hl hb
            (hr.set i (Rd.pub1 hrd))
            (fun u hu => by
              rcases List.mem_or_eq_of_mem_set hu with hu | rfl
              · exact hk u hu
              · omega)
            (fun u hu => by
              rcases List.mem_or_eq_of_mem_set hu with hu | rfl
              · exact h1 u hu
              · exact hone)
            (by rw [hfp, hc, flatV_set hk (by omega), hsz, c2])
          refine ⟨us', cells', ?_, k2, k3, k4, k5, by rw [k6]; simp⟩
          simp only [List.map_cons, Instr.fill]
          rw [if_neg (by simp; omega)]
          exact k1
        · simp at hb
      · simp at hb
    · simp at h

theorem mks_op {o : Oper} {d : Option Nat} {t el : TypeId} {len k : Nat} {ag : Bool} {z : AV} {ps : Array (Nat × Operand)} {ps' : List (Nat × Opd)} (ho : o.op = .buildSlice t len ps) (hu : P.underlying t = some (.slice el)) (hk : szT P el = some k) (h0 : 0 < k)
    (hsm : len * k ≤ 16777216) (hz : zeroT P el = some z) (hag : z.isAgg = ag) (hps : partsS P el ps.toList = some ps') (hE : EnvR e a w g) (hM : Mem X w0 pr0 bx pm w g) {D : Fun} {df : Option (Nat × List AV)} {ef : Eff}
    (hr : step D d ⟨e, bx, pm, df⟩ (.mks len k ag z.cells ps') = some ef) : OpR P o a X w0 pr0 bx pm w g ef := by
  simp only [step, flat] at hr
  obtain ⟨r, hr1, hr2⟩ := Option.map_eq_some_iff.1 hr
  subst hr2
  clear hr
  revert hr1
  intro hr
  split at hr
  · rename_i r0 hmk
    split at hr
    · rename_i hzk
      obtain ⟨xs, hxs, rfl⟩ := Option.map_eq_some_iff.1 hr
      obtain ⟨it, zv, hit, hzv, hrd, hok⟩ := zeroT_rd (w := w) (g := g) hz
      have hr0 := zero_mkv hag hok hmk
      subst hr0
      have hzsz := Rd.size hok hrd
      obtain ⟨_, hone⟩ := Rd.cells hok hrd
      have hitk : it.size = k := by
        obtain ⟨j, hj, hjk⟩ := Option.map_eq_some_iff.1 hk
        rw [hit] at hj
        simp only [Option.some.injEq] at hj
        rw [hj]
        exact hjk
      have hinit : (madeCells zv.cells (len * k)).toList = flatV (List.replicate len zv) := by rw [flatV_rep, mod_block h0 _ (by omega)]
      obtain ⟨us, cells, k1, k2, k3, k4, k5, k6⟩ := rows_rd (w := w) (xs := List.replicate len r0.pub1) (us := List.replicate len zv) (cells := madeCells zv.cells (len * k)) hE hps hxs (RdL.replicate len (Rd.pub1 hrd))
        (fun u hu => by rw [List.eq_of_mem_replicate hu]; omega) (fun u hu => by rw [List.eq_of_mem_replicate hu]; exact hone) hinit
      have k6' : us.length = len := by simpa using k6
      have hrun : (Instr.buildSlice t len (ps.map fun (i, x) => (i, a.eval x))).run P w = .ok (.slice (some ⟨w.heap.size, 0, none⟩) len len) (w.alloc (.cells cells el)) := by
        by_cases hl0 : len = 0
        · subst hl0
          have hc0 : madeCells zv.cells (0 * k) = #[] := by simp [madeCells]
          rw [hc0] at k1
          have hrange : ∀ f : Nat → Value, Array.map f (Array.range 0) = #[] := fun f => by apply Array.eq_empty_of_size_eq_zero; simp
          have k1' : Instr.fill (fun i => some (i * k, k)) #[] (List.map (fun x => (x.fst, a.eval x.snd)) ps.toList) = some cells := k1
          simp [Instr.buildSlice, run_underlying hu, szT_run hk, hrange, k1', newRow]
        · have hpos : ¬ len * it.size = 0 := by
            rw [hitk]
            exact Nat.ne_of_gt (Nat.mul_pos (by omega) h0)
          refine run_buildSlice w t el len _ cells it zv hu hit hzv (by rw [hitk]; omega) hpos ?_
          rw [hitk, Array.toList_map]
          exact k1
      have hB := below_alloc w (.cells cells el)
      obtain ⟨m1, m2⟩ := newRow_mem hM hB (size_alloc w _) (us.length * k)
      have hs := newRow_slR (T := el) g (heap_alloc_new w _) (cap := us.length) k3 (flatV_cells us k4) (Nat.le_refl _) (by rw [k5]; exact List.take_of_length_le (by rw [flatV_length us k3]; omega))
      refine ⟨rfl, _, _, .slice (some ⟨w.heap.size, 0, none⟩) len len, .inl ?_, ?_, m2, m1⟩
      · simp only [execOp, ho, Sem.run_bind, hrun, Result.andThen_ok, Sem.run_pure]
      · simp only [Rd]
        refine ⟨us, RdL.later xs (m2.pub) k2, ?_, ⟨_, _, rfl⟩⟩
        rw [k6'] at hs ⊢
        exact hs
    · simp at hr
  · simp at hr

theorem mksl_op {o : Oper} {d : Option Nat} {t el : TypeId} {i : TypeInfo} {ag : Bool} {z : AV} {l c : Operand} {l' c' : Opd} (ho : o.op = .makeSlice t l c) (hu : P.underlying t = some (.slice el)) (hi : P.info? el = some i)
    (hz : zeroT P el = some z) (hag : z.isAgg = ag) (hl : opd P 0 l = some l') (hc : opd P 0 c = some c') (hE : EnvR e a w g) (hM : Mem X w0 pr0 bx pm w g) {D : Fun} {df : Option (Nat × List AV)} {ef : Eff}
    (hr : step D d ⟨e, bx, pm, df⟩ (.mksl i.size i.bytes ag z.cells l' c') = some ef) : OpR P o a X w0 pr0 bx pm w g ef := by
  simp only [step, flat] at hr
  obtain ⟨r, hr1, hr2⟩ := Option.map_eq_some_iff.1 hr
  subst hr2
  clear hr
  revert hr1
  intro hr
  split at hr
  · rename_i n m r0 hb hb2 hmk
    split at hr
    · rename_i hcond
      obtain ⟨hnm, hn0, hbytes, hzk, hk0, hb0⟩ := hcond
      subst hnm
      simp only [Option.some.injEq] at hr
      subst hr
      obtain ⟨it, zv, hit, hzv, hrd, hok⟩ := zeroT_rd (w := w) (g := g) hz
      rw [hi] at hit
      simp only [Option.some.injEq] at hit
      subst hit
      have hr0 := zero_mkv hag hok hmk
      subst hr0
      have hzsz := Rd.size hok hrd
      obtain ⟨_, hone⟩ := Rd.cells hok hrd
      have h1 := opd_rd hl hE hb
      have h2 := opd_rd hc hE hb2
      simp only [Rd] at h1 h2
      obtain ⟨N, rfl⟩ : ∃ N : Nat, n = N := ⟨n.toNat, by omega⟩
      have hbN : N * i.bytes ≤ 140737488355328 := by
        have : ((N * i.bytes : Nat) : Int) ≤ 140737488355328 := by rw [Int.natCast_mul]; exact hbytes
        omega
      have hN : N ≤ N * i.bytes := Nat.le_mul_of_pos_right N hb0
      have hrun := run_make (P := P) w t el i zv hu hi hzv .i64 .i64 (N : Int) (N : Int) hn0 (Int.le_refl _) (by
        have : ((i.bytes * N : Nat) : Int) ≤ 281474976710656 := by rw [Nat.mul_comm]; omega
        rwa [Int.natCast_mul] at this) (by omega)
      simp only [Int.toNat_natCast] at hrun
      have hinit : (madeCells zv.cells (N * i.size)).toList = flatV (List.replicate N zv) := by rw [flatV_rep, mod_block hk0 _ (by omega)]
      have hlen : (List.replicate N zv).length = N := by simp
      have hk3 : ∀ u ∈ List.replicate N zv, u.cells.size = i.size := fun u hu => by rw [List.eq_of_mem_replicate hu]; omega
      have hB := below_alloc w (.cells (madeCells zv.cells (N * i.size)) el)
      obtain ⟨m1, m2⟩ := newRow_mem hM hB (size_alloc w _) ((List.replicate N zv).length * i.size)
      have hs := newRow_slR (T := el) g (heap_alloc_new w _) (cap := N) hk3 (flatV_cells _ (fun u hu => by rw [List.eq_of_mem_replicate hu]; exact hone)) (by simp) (by rw [hinit]; exact List.take_of_length_le (by rw [flatV_length _ hk3]; omega))
      refine ⟨rfl, _, _, .slice (some ⟨w.heap.size, 0, none⟩) N N, .inl ?_, ?_, m2, m1⟩
      · simp only [execOp, ho, h1, h2, Sem.run_bind, hrun, Result.andThen_ok, Sem.run_pure]
      · simp only [Rd, Int.toNat_natCast]
        refine ⟨List.replicate N zv, RdL.later _ m2.pub (RdL.replicate N (Rd.pub1 hrd)), ?_, ⟨_, _, rfl⟩⟩
        rw [hlen] at hs ⊢
        exact hs
    · simp at hr
  · simp at hr

/-- Nothing is appended. -/
theorem run_append_zero (w : World) {t ty el : TypeId} {i : TypeInfo} (ht : P.underlying t = some (.slice el)) (hi : P.info? el = some i) (base ad : Option Addr) (n cap c : Nat) (h : n ≤ cap) :
    (Builtin.append_ #[t, t] ty #[.slice base n cap, .slice ad 0 c]).run P w = .ok (.slice base n cap) w := by
  cases base <;> cases ad <;> simp [Builtin.append_, run_underlying ht, sizeOf, typeInfo, hi, Builtin.lenOf, Builtin.firstCells, h, loadCells, loadCellsFrom, storeCells]

/-- From none or from an address, with no room behind: a new row. -/
theorem run_append_new (w : World) {t ty el : TypeId} {i : TypeInfo} {z : Value} (ht : P.underlying t = some (.slice el)) (hi : P.info? el = some i) (hz : i.zero = some z) {pr : Nat → Nat → Prop}
    {us vs : List Value} {base ad : Option Addr} {cap cap2 : Nat} (hs : SlR w pr i.size us (.slice base us.length cap)) (hs2 : SlR w pr i.size vs (.slice ad vs.length cap2)) (hg : cap < us.length + vs.length)
    (hb : 0 < i.bytes) (hbytes : (us.length + vs.length) * i.bytes ≤ 140737488355328) :
    (Builtin.append_ #[t, t] ty #[.slice base us.length cap, .slice ad vs.length cap2]).run P w = .ok (.slice (some ⟨w.heap.size, 0, none⟩) (us.length + vs.length) (grownCap w (us.length + vs.length) cap el))
      (w.drew.alloc (.cells ((flatV us).toArray ++ (flatV vs).toArray ++ Builtin.zeroCells z.cells (grownCap w (us.length + vs.length) cap el - (us.length + vs.length))) el)) := by
  obtain ⟨_, _, e1, hle, hk, _, hc⟩ := hs
  simp only [Value.slice.injEq] at e1
  obtain ⟨rfl, _, rfl⟩ := e1
  obtain ⟨_, _, e2, hle2, hk2, _, hc2⟩ := hs2
  simp only [Value.slice.injEq] at e2
  obtain ⟨rfl, _, rfl⟩ := e2
  have hsm : us.length + vs.length ≤ (us.length + vs.length) * i.bytes := Nat.le_mul_of_pos_right _ hb
  have hvs : vs ≠ [] := fun e => by rw [e] at hg; simp at hg; omega
  obtain ⟨b2, o2, rfl, hcc2⟩ := hc2 hvs
  have l1 := flatV_length us hk
  have l2 := flatV_length vs hk2
  have n2 : ∀ j v, (flatV vs)[j]? = some v → w.cell? ((⟨b2, o2, none⟩ : Addr).add j) = some v := fun j v hj => by rw [Addr.add_mid]; exact (hcc2 j v hj).1
  cases base with
  | some b =>
    have n1 : ∀ j v, (flatV us)[j]? = some v → w.cell? (b.add j) = some v := fun j v hj => by
      have hus : us ≠ [] := fun e => by rw [e] at hj; simp [flatV] at hj
      obtain ⟨b1, o1, e, hcc⟩ := hc hus
      simp only [Option.some.injEq] at e
      subst e
      rw [Addr.add_mid]
      exact (hcc j v hj).1
    exact run_append_grow w t ty el i z ht hi hz b us.length cap (flatV us) l1 n1 _ vs.length cap2 (flatV vs) l2 n2 hg (by omega) (growslice_fits hg hbytes)
  | none =>
    have hus : us = [] := by
      rcases us with _ | ⟨u, us⟩
      · rfl
      · obtain ⟨b1, o1, e, _⟩ := hc (by simp)
        simp at e
    subst hus
    have hf := run_firstCells_some (P := P) w.drew i.size vs.length ⟨b2, o2, none⟩ vs.length cap2 (flatV vs) l2 (by simpa using n2)
    have h48 : ¬ (281474976710656 < Builtin.nextslicecap vs.length cap * i.bytes) := by
      have := growslice_fits (need := vs.length) (old := cap) (bytes := i.bytes) (by simpa using hg) (by simpa using hbytes)
      omega
    have h63 : ¬ (9223372036854775807 < (vs.length : Int)) := by
      simp only [List.length_nil, Nat.zero_add] at hsm hbytes
      omega
    have hn : ¬ (vs.length ≤ cap) := by simpa using hg
    simp [Builtin.append_, run_underlying ht, sizeOf, typeInfo, zeroValue, hi, hz, Builtin.lenOf, hn, h48, h63, Question.forced, run_firstCells_none, hf, newRow, grownCap, flatV]

/-- A new row is the call's own. -/
theorem grown_op {o : Oper} {d : Nat} {el : TypeId} {k n : Nat} {us : List Value} {xs : List AV} {pm' : Pm} {w' : World} {cur : Array Value} {cap : Nat} (hM : Mem X w0 pr0 bx pm' w g) (hB : Below w.heap.size w w') (hsz : w'.heap.size = w.heap.size + 1)
    (hb : w'.heap[w.heap.size]? = some (.cells cur el (0, 0))) (hr : RdL w g.pub xs us) (hk : ∀ u ∈ us, u.cells.size = k) (h1 : ∀ c ∈ flatV us, c.oneCell' = true) (hn : us.length = n) (hcap : n ≤ cap) (hcur : cur.toList.take (n * k) = flatV us)
    (hcs : cur.size = cap * k) {b : List (Nat × Nat × Bool)} (hpm : updL pm b = upd pm' d (nextP pm' d, true)) (hrun : (execOp a.eval o).run P w = .ok (.value (.slice (some ⟨w.heap.size, 0, none⟩) n cap)) w') :
    OpR P o a X w0 pr0 bx pm w g ⟨.sl k xs (.tok d (nextP pm' d)), [], b, false⟩ := by
  subst hn
  obtain ⟨m1, m2⟩ := newRow_mem hM hB hsz (us.length * k)
  obtain ⟨f1, f2, f3⟩ := hM.fresh
  have hs := newRow_slR (T := el) g hb (cap := cap) hk h1 hcap hcur
  have hlt := fun (s r : Nat) (v : Value) (k' : Nat) => f3 s r v k'
  have m3 := m1.marked d (v := .slice (some ⟨w.heap.size, 0, none⟩) us.length cap) (k := k)
    (.inr ⟨w.heap.size, _, cap, cur, el, rfl, hM.below.size, hb, hcap, hcs, fun o' ho' => by
      rintro (p | ⟨_, q⟩)
      · exact f1 _ p
      · omega⟩)
    (fun b hbk s r => by simp [Value.ownBlock] at hbk; subst hbk; exact f2 s r)
    (fun b hbk s r v' k' _ e1 e2 => by simp [Value.ownBlock] at hbk; subst hbk; exact f3 s r v' k' e1 e2)
  have m4 := Later.marked m1 d (.slice (some ⟨w.heap.size, 0, none⟩) us.length cap) k
  refine ⟨rfl, w', _, _, .inl hrun, ?_, m2.trans m4, by simp only [updL]; rw [hpm]; exact m3⟩
  simp only [Rd]
  refine ⟨us, RdL.later xs (m2.trans m4).pub hr, hs.later m4, ?_⟩
  simp [PmR, Gh.marked]

theorem app_run {o : Oper} {c : Call} {x y : Operand} {t : TypeId} (ho : o.op = .call c) (hc : c.callee = .builtin .append) (hargs : c.args.toList = [x, y]) (hts : c.argTypes.toList = [t, t]) {vx vy v : Value} (hx : a.eval x = vx) (hy : a.eval y = vy) {w' : World}
    (h : (Builtin.append_ #[t, t] o.type #[vx, vy]).run P w = .ok v w') : (execOp a.eval o).run P w = .ok (.value v) w' := by
  obtain ⟨callee, args, argTypes⟩ := c
  simp only at hc hargs hts
  subst hc
  have ha : args = #[x, y] := by apply Array.toList_inj.1; simpa using hargs
  have ht : argTypes = #[t, t] := by apply Array.toList_inj.1; simpa using hts
  subst ha ht
  simp only [execOp, ho, resolve, invoke, builtin, Sem.run_bind, Sem.run_pure, Result.andThen_ok, List.map_toArray, List.map_cons, List.map_nil, hx, hy, h]
end
end Go.Proofs.YtpkeiffclipjmaaGreatDoor.Rx
