/-
  Rx, part Q: operations that ask memory: loads, stores, new variables.
-/
import Derived.Test.YtpkeiffclipjmaaGreatDoorRxO4
import Derived.Test.YtpkeiffclipjmaaGreatDoorRxM
import Derived.Deep.MidRow
namespace Go.Proofs.YtpkeiffclipjmaaGreatDoor.Rx
open Go Go.RowKit
set_option linter.unusedSimpArgs false

/-- What an operation comes to that may turn memory. -/
def OpR (P : Program) (o : Oper) (a : Act) (X : Nat → Prop) (w0 : World) (pr0 : Nat → Nat → Prop) (bx : Bx) (pm : Pm) (w : World) (g : Gh) (ef : Eff) : Prop :=
  ef.pan = false ∧ ∃ w' g' v, ((execOp a.eval o).run P w = .ok (.value v) w' ∨ ((execOp a.eval o).run P w = .ok .skip w' ∧ v = undef)) ∧ Rd w' g' ef.v v ∧ Later w g w' g' ∧ Mem X w0 pr0 (updL bx ef.b) (updL pm ef.p) w' g'

section
variable {P : Program} {X : Nat → Prop} {w0 w : World} {pr0 : Nat → Nat → Prop} {bx : Bx} {pm : Pm} {g : Gh} {e : Env} {a : Act}

theorem FlatR.op {o : Oper} {r : AV} (h : FlatR P o a w g r) (hM : Mem X w0 pr0 bx pm w g) : OpR P o a X w0 pr0 bx pm w g ⟨r, [], [], false⟩ := by
  obtain ⟨v, h1, h2⟩ := h
  exact ⟨rfl, w, g, v, .inl h1, h2, Later.refl w g, hM⟩

/-- The number of the block that comes next is nobody's. -/
theorem Mem.fresh (hM : Mem X w0 pr0 bx pm w g) : (∀ o, ¬ g.pr w.heap.size o) ∧ (∀ s n, ¬ LB bx g s w.heap.size n) ∧ (∀ s r v k, pm s = some (r, true) → g.lv s r = some (v, k) → v.ownBlock ≠ some w.heap.size) := by
  exact ⟨fun o h => absurd (hM.prlt _ o h) (Nat.lt_irrefl _), fun s n h => absurd (hM.bxb s _ n h).2.1 (Nat.lt_irrefl _), fun s r v k h1 h2 h3 => absurd (hM.liveLt h1 h2 h3).2 (Nat.lt_irrefl _)⟩
/-- What stands at the front. -/
theorem front_get {cur : Array Value} {us : List Value} (h : cur.toList.take us.length = us) {i : Nat} {c : Value} (hi : us[i]? = some c) : cur[i]? = some c := by
  rw [← h, List.getElem?_take] at hi
  split at hi
  · simpa using hi
  · simp at hi
theorem front_le {cur : Array Value} {us : List Value} (h : cur.toList.take us.length = us) : us.length ≤ cur.size := by
  have := congrArg List.length h
  simp only [List.length_take, Array.length_toList] at this
  omega
theorem front_put {cur : Array Value} {us c : List Value} (h : cur.toList.take us.length = us) {o : Nat} (ho : o + c.length ≤ us.length) :
    (cur.toList.take o ++ c ++ cur.toList.drop (o + c.length)).take (us.take o ++ c ++ us.drop (o + c.length)).length = us.take o ++ c ++ us.drop (o + c.length) := by
  have hle := front_le h
  have hl : (us.take o ++ c ++ us.drop (o + c.length)).length = us.length := by simp; omega
  have ht : us.take o = cur.toList.take o := by rw [← h, List.take_take]; congr 1; omega
  rw [hl, ht]
  have e : us.length = (cur.toList.take o ++ c).length + (us.length - (o + c.length)) := by simp; omega
  conv => lhs; rw [e]
  rw [List.take_length_add_append]
  congr 1
  conv => rhs; rw [← h]
  rw [List.drop_take]
theorem below_alloc (w : World) (ob : Obj) : Below w.heap.size w (w.alloc ob) := (Below.refl _ w).alloc (Nat.le_refl _) ob
theorem size_alloc (w : World) (ob : Obj) : (w.alloc ob).heap.size = w.heap.size + 1 := by simp

theorem szT_info {t : TypeId} {n : Nat} (h : szT P t = some n) : (P.info? t).map (·.size) = some n := h
theorem agT_false {t : TypeId} (h : agT P t = some false) (w : World) : (isAgg t).run P w = .ok false w := by
  unfold agT at h
  unfold isAgg
  split at h
  · simp at h
  · simp at h
  · rename_i d h2 h3 hu
    rw [Sem.run_bind, run_underlying hu]
    cases d <;> simp_all
  · simp at h
theorem agT_true {t : TypeId} (h : agT P t = some true) : ∃ d, P.underlying t = some d ∧ d.isRow = true := by
  unfold agT at h
  split at h
  · rename_i fs hu; exact ⟨_, hu, rfl⟩
  · rename_i m el hu; exact ⟨_, hu, rfl⟩
  · simp at h
  · simp at h

theorem load_cells {t : TypeId} {ag : Bool} {n b o : Nat} {cs : List AV} {us : List Value} {r : AV} (hn : szT P t = some n) (ha : agT P t = some ag) (hag : ag = true ∨ n = 1)
    (hc : ∀ j c, us[j]? = some c → w.cell? ⟨b, o + j, none⟩ = some c) (hl : us.length = n) (hr : RdL w g cs us) (h1 : ∀ u ∈ us, u.oneCell' = true) (e : mkv ag cs = some r) :
    ∃ v, (Instr.loadAt t (.pointer (some ⟨b, o, none⟩))).run P w = .ok v w ∧ Rd w g r v := by
  obtain ⟨v, hv, _, hva, hvb⟩ := Rd.mkv hr h1 e
  refine ⟨v, ?_, hv⟩
  cases ag with
  | true =>
    obtain ⟨d, hd, hrow⟩ := agT_true ha
    rw [run_loadAt_mid w b o t us d hc hd hrow (by rw [szT_info hn, hl]), hva rfl]
  | false =>
    have hus := hvb rfl
    subst hus
    have := hc 0 v rfl
    simp only [Nat.add_zero] at this
    simp only [Instr.loadAt, Instr.sureAddr, loadVar, Sem.run_bind, Sem.run_pure, Result.andThen_ok, agT_false ha]
    simp [this]

theorem load_op {o : Oper} {d : Option Nat} {t : TypeId} {x : Operand} {x' : Opd} {n : Nat} {ag : Bool} (ho : o.op = .load t x) (hn : szT P t = some n) (ha : agT P t = some ag) (hag : ag = true ∨ n = 1) (hx : opd P 0 x = some x')
    (hE : EnvR e a w g) (hM : Mem X w0 pr0 bx pm w g) {D : Fun} {df : Option (Nat × List AV)} {ef : Eff} (hr : step D d ⟨e, bx, pm, df⟩ (.load ag n x') = some ef) : OpR P o a X w0 pr0 bx pm w g ef := by
  simp only [step] at hr
  have fin : ∀ v r, (Instr.loadAt t (a.eval x)).run P w = .ok v w → Rd w g r v → OpR P o a X w0 pr0 bx pm w g ⟨r, [], [], false⟩ := by
    intro v r h1 h2
    refine FlatR.op ⟨v, ?_, h2⟩ hM
    simp only [execOp, ho, Sem.run_bind, h1, Result.andThen_ok, Sem.run_pure]
  split at hr
  · rename_i s v o' hb
    have h1 := opd_rd hx hE hb
    simp only [Rd] at h1
    obtain ⟨b, nn, hbx, hv⟩ := h1
    split at hr
    · rename_i v' cs hs
      split at hr
      · rename_i hc
        obtain ⟨rfl, hdd, hle⟩ := hc
        obtain ⟨r, hmk, rfl⟩ := Option.map_eq_some_iff.1 hr
        obtain ⟨b', n', us, cur, T, k1, k2, _, kf, k3, k4⟩ := hM.box s v' cs hs hdd
        rw [hbx] at k1
        simp only [Option.some.injEq, Prod.mk.injEq] at k1
        obtain ⟨rfl, rfl⟩ := k1
        have hlen := k3.length
        obtain ⟨u, hu, hru⟩ := load_cells (w := w) (b := b) (o := o') (us := (us.drop o').take n) hn ha hag (fun j c hj => by
            rw [List.getElem?_take] at hj
            split at hj
            · rw [List.getElem?_drop] at hj
              rw [cell_of_row w b (o' + j) _ T (0, 0) k2]
              exact front_get kf hj
            · simp at hj) (by rw [List.length_take, List.length_drop]; omega) ((k3.drop o').take n) (fun u hu => k4 u (List.mem_of_mem_drop (List.mem_of_mem_take hu))) hmk
        exact fin u r (by rw [hv]; exact hu) hru
      · simp at hr
    · simp at hr
  · rename_i cs hb
    have h1 := opd_rd hx hE hb
    simp only [Rd] at h1
    obtain ⟨b, o', us, hv, k3, k4, k5⟩ := h1
    split at hr
    · rename_i hle
      obtain ⟨r, hmk, rfl⟩ := Option.map_eq_some_iff.1 hr
      have hlen := k3.length
      have k3' := RdL.later cs (Later.of_pub w g) k3
      obtain ⟨u, hu, hru⟩ := load_cells (w := w) (b := b) (o := o') (us := us.take n) hn ha hag (fun j c hj => by
          rw [List.getElem?_take] at hj
          split at hj
          · exact (k5 j c hj).1
          · simp at hj) (by rw [List.length_take]; omega) (k3'.take n) (fun u hu => k4 u (List.mem_of_mem_take hu)) hmk
      exact fin u r (by rw [hv]; exact hu) hru
    · simp at hr
  · simp at hr

theorem store_op {o : Oper} {d : Option Nat} {t : TypeId} {x y : Operand} {x' y' : Opd} {n : Nat} (ho : o.op = .store t x y) (hn : szT P t = some n) (hx : opd P 0 x = some x') (hy : opd P t y = some y')
    (hE : EnvR e a w g) (hM : Mem X w0 pr0 bx pm w g) {D : Fun} {df : Option (Nat × List AV)} {ef : Eff} (hr : step D d ⟨e, bx, pm, df⟩ (.store n x' y') = some ef) : OpR P o a X w0 pr0 bx pm w g ef := by
  simp only [step] at hr
  split at hr
  · rename_i s v o' av hb hb2
    have h1 := opd_rd hx hE hb
    have h2 := opd_rd hy hE hb2
    simp only [Rd] at h1
    obtain ⟨b, nn, hbx, hv⟩ := h1
    split at hr
    · rename_i v' cs hs
      split at hr
      · rename_i hvv
        obtain ⟨rfl, hdd⟩ := hvv
        obtain ⟨cs', hpl, hr⟩ := Option.bind_eq_some_iff.1 hr
        split at hr
        rotate_left
        · simp at hr
        simp only [Option.some.injEq] at hr
        subst hr
        unfold place at hpl
        split at hpl
        · rename_i hc
          simp only [Option.some.injEq] at hpl
          subst hpl
          obtain ⟨b', n', us, cur, T, k1, k2, kn, kf, k3, k4⟩ := hM.box s v' cs hs hdd
          rw [hbx] at k1
          simp only [Option.some.injEq, Prod.mk.injEq] at k1
          obtain ⟨rfl, rfl⟩ := k1
          have hlen := k3.length
          have hfl := front_le kf
          obtain ⟨c1, c2⟩ := Rd.cells hc.1 h2
          have c3 := Rd.size hc.1 h2
          have e3 : (a.eval y).cells.toList.length = n := by simp; omega
          have hst := run_storeCells_at P b o' T (a.eval y).cells.toList 0 cur w k2 (by omega) c2
          have hnew : RdL w g (cs.take o' ++ av.cells ++ cs.drop (o' + n)) (us.take o' ++ (a.eval y).cells.toList ++ us.drop (o' + n)) := ((k3.take o').append c1).append (k3.drop _)
          have hnew1 : ∀ u ∈ us.take o' ++ (a.eval y).cells.toList ++ us.drop (o' + n), u.oneCell' = true := by
            intro u hu
            simp only [List.mem_append] at hu
            rcases hu with (hu | hu) | hu
            · exact k4 u (List.mem_of_mem_take hu)
            · exact c2 u hu
            · exact k4 u (List.mem_of_mem_drop hu)
          have hput := front_put kf (c := (a.eval y).cells.toList) (o := o') (by omega)
          simp only [Nat.add_zero, e3] at hst hput
          obtain ⟨m1, m2⟩ := hM.stored hs hdd hbx k2 (new := (cur.toList.take o' ++ (a.eval y).cells.toList ++ cur.toList.drop (o' + n)).toArray) (by simp; omega) (by simpa using hput) hnew hnew1
          refine ⟨rfl, _, g, undef, .inr ⟨?_, rfl⟩, by simp only [Rd], m2, m1⟩
          have e4 : ¬ ((a.eval y).cells.size ≠ n) := by rw [c3]; simp [hc.2.1]
          simp only [execOp, ho, hv, Instr.storeAt, Instr.sureAddr, storeVar, Sem.run_bind, Sem.run_pure, Result.andThen_ok, szT_run hn, hst, if_neg e4]
        · simp at hpl
      · simp at hr
    · simp at hr
  · simp at hr

/-- A new variable. -/
theorem newVar_op {o : Oper} {d : Nat} {t : TypeId} {v : Value} {cs : List AV} (h1 : RdL w g cs v.cells.toList) (h2 : ∀ u ∈ v.cells.toList, u.oneCell' = true) (hM : Mem X w0 pr0 bx pm w g)
    (hrun : (execOp a.eval o).run P w = .ok (.value (.pointer (some ⟨w.heap.size, 0, none⟩))) (w.alloc (.cells v.cells t))) : OpR P o a X w0 pr0 bx pm w g ⟨.ptr d (nextB bx d) 0, [(d, nextB bx d, cs)], [], false⟩ := by
  have hB := below_alloc w (.cells v.cells t)
  have hM' := hM.moved hB
  have hl := hM.later_below hB
  obtain ⟨f1, f2, f3⟩ := hM.fresh
  have hv := nextB_lt bx d
  refine ⟨rfl, _, _, _, .inl hrun, ?_, hl.trans (Later.boxed _ g w.heap.size v.cells.size (hM.ver hv)),
    hM'.boxed hv (heap_alloc_new w _) rfl (by rw [List.take_of_length_le (by simp)]) (RdL.later cs hl h1) h2 (.inl hM.below.size) f1 (fun s m _ => f2 s m) f3⟩
  simp only [Rd]
  exact ⟨w.heap.size, _, g.boxed_same _ _ _ _, rfl⟩

/-- What a new variable holds, told with its own name. -/
theorem newC_rd {t : TypeId} {zs : List AV} {us : List Value} (hr : RdL w g zs us) (d v b : Nat) (hty : tyAt w b = some t) (hn : g.bx d v = none) (hd : deadC (newC t zs) = false) : RdL w (g.boxed d v b us.length) (fillB d v (newC t zs)) us := by
  have hl := Later.boxed w g b us.length hn
  have gen : RdL w (g.boxed d v b us.length) zs us := RdL.later zs hl hr
  unfold newC at hd ⊢
  split
  · have hlen := hr.length
    simp only [fillB, RdL, Rd] at hr gen ⊢
    obtain ⟨u, us', rfl, rfl, h2⟩ := gen
    refine ⟨_, _, rfl, ⟨rfl, b, ?_, hty⟩, h2⟩
    rw [hlen]
    exact g.boxed_same d v b _
  · simp [deadC, gone] at hd
  · rename_i hne
    unfold fillB
    split
    · exact absurd rfl (hne _ _ _ _)
    · exact gen
theorem alloc_op {o : Oper} {d : Option Nat} {t : TypeId} {z : AV} (ho : o.op = .alloc t) (hz : zeroT P t = some z) (hM : Mem X w0 pr0 bx pm w g) {D : Fun} {df : Option (Nat × List AV)} {ef : Eff} (hr : step D d ⟨e, bx, pm, df⟩ (.alloc (newC t z.cells)) = some ef) : OpR P o a X w0 pr0 bx pm w g ef := by
  simp only [step] at hr
  split at hr
  · rename_i d'
    split at hr
    rotate_left
    · simp at hr
    simp only [Option.some.injEq] at hr
    subst hr
    obtain ⟨i, v, hi, hv, h1, h2⟩ := zeroT_rd (w := w) (g := g) hz
    obtain ⟨c1, c2⟩ := Rd.cells h2 h1
    rename_i hdd
    have hrun : (execOp a.eval o).run P w = .ok (.value (.pointer (some ⟨w.heap.size, 0, none⟩))) (w.alloc (.cells v.cells t)) := by
      simp [execOp, ho, Instr.alloc, zeroValue, typeInfo, hi, hv, newVar, newRow]
    have hB := below_alloc w (.cells v.cells t)
    have hM' := hM.moved hB
    have hl := hM.later_below hB
    obtain ⟨f1, f2, f3⟩ := hM.fresh
    have hnb := nextB_lt bx d'
    have hnew : (w.alloc (.cells v.cells t)).heap[w.heap.size]? = some (.cells v.cells t (0, 0)) := heap_alloc_new w _
    have hlen : v.cells.toList.length = v.cells.size := by simp
    have h3 := newC_rd (RdL.later z.cells hl c1) d' (nextB bx d') w.heap.size (tyAt_of hnew) (hM.ver hnb) hdd
    rw [hlen] at h3
    refine ⟨rfl, _, _, _, .inl hrun, ?_, hl.trans (Later.boxed _ g w.heap.size v.cells.size (hM.ver hnb)),
      hM'.boxedG hnb hnew rfl (by rw [List.take_of_length_le (by simp)]) h3 c2 (.inl hM.below.size) f1 (fun s m _ => f2 s m) f3⟩
    simp only [Rd]
    exact ⟨w.heap.size, _, g.boxed_same _ _ _ _, rfl⟩
  · simp at hr
theorem box_op {o : Oper} {d : Option Nat} {t : TypeId} {x : Operand} {x' : Opd} (ho : o.op = .box t x) (hx : opd P t x = some x') (hE : EnvR e a w g) (hM : Mem X w0 pr0 bx pm w g) {D : Fun} {df : Option (Nat × List AV)} {ef : Eff}
    (hr : step D d ⟨e, bx, pm, df⟩ (.box x') = some ef) : OpR P o a X w0 pr0 bx pm w g ef := by
  simp only [step] at hr
  split at hr
  · rename_i d' v hv
    split at hr
    · rename_i hok
      simp only [Option.some.injEq] at hr
      subst hr
      obtain ⟨c1, c2⟩ := Rd.cells hok.1 (opd_rd hx hE hv)
      refine newVar_op (t := t) c1 c2 hM ?_
      simp [execOp, ho, Instr.box, newVar, newRow]
    · simp at hr
  · simp at hr
end
end Go.Proofs.YtpkeiffclipjmaaGreatDoor.Rx
