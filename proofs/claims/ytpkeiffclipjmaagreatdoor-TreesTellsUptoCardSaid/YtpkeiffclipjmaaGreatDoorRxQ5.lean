/-
  Rx, part Q5: maps of flags; rows that are made, of the call's own.
-/
import Derived.Test.YtpkeiffclipjmaaGreatDoorRxQ4
namespace Go.Proofs.YtpkeiffclipjmaaGreatDoor.Rx
open Go Go.RowKit
set_option linter.unusedSimpArgs false

section
variable {P : Program} {X : Nat → Prop} {w0 w : World} {pr0 : Nat → Nat → Prop} {bx : Bx} {pm : Pm} {g : Gh} {e : Env} {a : Act}

theorem mkmap_op {o : Oper} {d : Option Nat} {t : TypeId} (ho : o.op = .makeMap t none) (hM : Mem X w0 pr0 bx pm w g) {D : Fun} {df : Option (Nat × List AV)} {ef : Eff} (hr : step D d ⟨e, bx, pm, df⟩ .mkmap = some ef) : OpR P o a X w0 pr0 bx pm w g ef := by
  simp only [step] at hr
  split at hr
  · rename_i d'
    simp only [Option.some.injEq] at hr
    subst hr
    obtain ⟨m1, m2⟩ := hM.mapped d'
    have hrun : (Instr.makeMap t none).run P w = .ok (.map (some w.heap.size)) (w.alloc (.map #[] 0)) := rfl
    refine ⟨rfl, _, _, .map (some w.heap.size), .inl ?_, ?_, m2, m1⟩
    · simp only [execOp, ho, Option.map_none, Sem.run_bind, hrun, Result.andThen_ok, Sem.run_pure]
    · simp only [Rd]
      exact ⟨w.heap.size, Gh.boxed_same _ _ _ _ _, rfl⟩
  · simp at hr

theorem str_inj {a b : List UInt8} : ((⟨a.toArray⟩ : ByteArray) = ⟨b.toArray⟩) ↔ a = b := by simp
theorem str_beq (a b : List UInt8) : ((⟨a.toArray⟩ : ByteArray) == ⟨b.toArray⟩) = decide (a = b) := by
  rw [Bool.eq_iff_iff, MapKept.bytes_beq, str_inj]
  simp
/-- Where a key is. -/
def kat (k : List UInt8) : List (List UInt8 × Bool) → Nat → Option (Nat × Bool)
  | [], _ => none
  | p :: l, i => if p.1 = k then some (i, p.2) else kat k l (i + 1)
theorem findNow_kat (k : List UInt8) : ∀ (es : List MapEntry) (l : List (List UInt8 × Bool)) (i : Nat), es.map (fun e => (e.key, e.val)) = l.map (fun p => (Value.string ⟨p.1.toArray⟩, Value.bool p.2)) →
    Instr.findNow .string (.string ⟨k.toArray⟩) es i = some ((kat k l i).map fun p => (p.1, Value.bool p.2))
  | [], [], i, _ => rfl
  | [], p :: l, i, h => by simp at h
  | e :: es, [], i, h => by simp at h
  | e :: es, p :: l, i, h => by
    simp only [List.map_cons, List.cons.injEq, Prod.mk.injEq] at h
    obtain ⟨⟨h1, h2⟩, h3⟩ := h
    unfold Instr.findNow kat
    rw [h1]
    simp only [Instr.sameNow, str_beq]
    by_cases hk : p.1 = k
    · rw [if_pos hk]
      simp [hk, h2]
    · have hk' : ¬ k = p.1 := fun e => hk e.symm
      rw [if_neg hk]
      simp only [hk', decide_false]
      exact findNow_kat k es l (i + 1) h3
theorem kat_get (k : List UInt8) : ∀ (l : List (List UInt8 × Bool)) (i : Nat), kget k l = match kat k l i with | some p => p.2 | none => false
  | [], i => rfl
  | p :: l, i => by
    unfold kget kat
    by_cases h : p.1 = k
    · rw [if_pos h, if_pos h]
    · rw [if_neg h, if_neg h]
      exact kat_get k l (i + 1)
theorem kat_lt {k : List UInt8} : ∀ {l : List (List UInt8 × Bool)} {i j : Nat} {b : Bool}, kat k l i = some (j, b) → i ≤ j
  | [], i, j, b, h => by simp [kat] at h
  | p :: l, i, j, b, h => by
    unfold kat at h
    split at h
    · simp only [Option.some.injEq, Prod.mk.injEq] at h; omega
    · have := kat_lt h; omega
theorem kput_some {k : List UInt8} {b0 : Bool} : ∀ {l : List (List UInt8 × Bool)} {i j : Nat} {b : Bool}, kat k l i = some (j, b) → kput k b0 l = l.set (j - i) (k, b0) ∧ (l[j - i]?).map (·.1) = some k
  | [], i, j, b, h => by simp [kat] at h
  | p :: l, i, j, b, h => by
    unfold kat at h
    unfold kput
    split at h
    · rename_i hk
      simp only [Option.some.injEq, Prod.mk.injEq] at h
      obtain ⟨rfl, rfl⟩ := h
      rw [if_pos hk]
      simp [hk]
    · rename_i hk
      have hlt := kat_lt h
      obtain ⟨h1, h2⟩ := kput_some (b0 := b0) h
      have e : j - i = (j - (i + 1)) + 1 := by omega
      rw [if_neg hk, e, h1]
      exact ⟨rfl, by simpa using h2⟩
theorem kput_none {k : List UInt8} {b0 : Bool} : ∀ {l : List (List UInt8 × Bool)} {i : Nat}, kat k l i = none → kput k b0 l = l ++ [(k, b0)]
  | [], i, h => rfl
  | p :: l, i, h => by
    unfold kat at h
    unfold kput
    split at h
    · simp at h
    · rename_i hk
      rw [if_neg hk, kput_none h]
      rfl
theorem str_key (k : List UInt8) : MapKept.IsKey .string (Value.string ⟨k.toArray⟩) := by simp [MapKept.IsKey]
theorem mput_run {t kt et : TypeId} (hm : P.underlying t = some (.map kt et)) (hk : P.underlying kt = some .string) {b : Nat} {es : Array MapEntry} {clk : Nat} {l : List (List UInt8 × Bool)} (hb : w.heap[b]? = some (.map es clk))
    (he : es.toList.map (fun e => (e.key, e.val)) = l.map fun p => (Value.string ⟨p.1.toArray⟩, Value.bool p.2)) (k : List UInt8) (v : Bool) :
    ∃ es' clk', (Instr.mapUpdate t (.map (some b)) (.string ⟨k.toArray⟩) (.bool v)).run P w = .ok () { w with heap := w.heap.setIfInBounds b (.map es' clk') } ∧ es'.toList.map (fun e => (e.key, e.val)) = (kput k v l).map fun p => (Value.string ⟨p.1.toArray⟩, Value.bool p.2) := by
  have hf := findNow_kat k es.toList l 0 he
  cases hq : kat k l 0 with
  | none =>
    rw [hq] at hf
    refine ⟨es.push { key := .string ⟨k.toArray⟩, val := .bool v, born := clk }, clk + 1, ?_, ?_⟩
    · simp [Instr.mapUpdate, run_underlying hm, MapKept.run_getObj_map hb, MapKept.run_checkKey hk (str_key k), MapKept.run_findKey hk hf, MapKept.run_setObj_map _ hb, Result.andThen]
    · rw [kput_none hq]
      simp [he]
  | some p =>
    obtain ⟨j, b0⟩ := p
    rw [hq] at hf
    obtain ⟨h1, h2⟩ := kput_some (b0 := v) hq
    rw [Nat.sub_zero] at h1 h2
    obtain ⟨p, hp, hpk⟩ := Option.map_eq_some_iff.1 h2
    have hej : ∃ e, es[j]? = some e ∧ e.key = .string ⟨k.toArray⟩ := by
      have := congrArg (·[j]?) he
      simp only [List.getElem?_map, hp, Option.map_some] at this
      obtain ⟨e, e1, e2⟩ := Option.map_eq_some_iff.1 this
      simp only [Prod.mk.injEq] at e2
      exact ⟨e, by simpa using e1, by rw [e2.1, hpk]⟩
    obtain ⟨e, e1, e2⟩ := hej
    refine ⟨es.modify j fun e => { e with key := .string ⟨k.toArray⟩, val := .bool v }, clk, ?_, ?_⟩
    · simp [Instr.mapUpdate, run_underlying hm, MapKept.run_getObj_map hb, MapKept.run_checkKey hk (str_key k), MapKept.run_findKey hk hf, e1, e2, MapKept.run_keyThatStays (str_key k), MapKept.run_setObj_map _ hb, Result.andThen]
    · rw [h1, List.map_set, ← he]
      apply List.ext_getElem?
      intro i
      simp only [List.getElem?_map, List.getElem?_set, List.length_map, Array.getElem?_toList, Array.getElem?_modify, Array.length_toList]
      by_cases hi : j = i
      · subst hi
        have hlt : j < es.size := (Array.getElem?_eq_some_iff.1 e1).1
        rw [if_pos rfl, if_pos rfl, if_pos hlt, e1]
        rfl
      · rw [if_neg hi, if_neg hi]
theorem mput_op {o : Oper} {d : Option Nat} {t kt et : TypeId} {m k v : Operand} {m' k' v' : Opd} (ho : o.op = .mapUpdate t m k v) (hm : P.underlying t = some (.map kt et)) (hk : P.underlying kt = some .string) (hm' : opd P 0 m = some m') (hk' : opd P kt k = some k') (hv' : opd P et v = some v')
    (hE : EnvR e a w g) (hM : Mem X w0 pr0 bx pm w g) {D : Fun} {df : Option (Nat × List AV)} {ef : Eff} (hr : step D d ⟨e, bx, pm, df⟩ (.mput m' k' v') = some ef) : OpR P o a X w0 pr0 bx pm w g ef := by
  simp only [step] at hr
  split at hr
  · rename_i s r key b h1 h2 h3
    have q1 := opd_rd hm' hE h1
    have q2 := opd_rd hk' hE h2
    have q3 := opd_rd hv' hE h3
    simp only [Rd] at q1 q2 q3
    obtain ⟨blk, hgb, q1⟩ := q1
    unfold mputK at hr
    split at hr
    · rename_i r' cs hs
      split at hr
      · rename_i hrr
        subst hrr
        obtain ⟨l, hl, rfl⟩ := Option.map_eq_some_iff.1 hr
        have := mapOf_inv hl
        subst this
        obtain ⟨b', k1, ⟨es, clk, k2, k3⟩, _⟩ := hM.mpv s r' l hs
        rw [hgb] at k1
        simp only [Option.some.injEq, Prod.mk.injEq, and_true] at k1
        subst k1
        obtain ⟨es', clk', hrun, he⟩ := mput_run (P := P) hm hk k2 k3 key b
        obtain ⟨m1, m2⟩ := hM.mapTurned (clk := clk') hs hgb he
        refine ⟨rfl, _, g, undef, .inr ⟨?_, rfl⟩, by simp only [Rd], m2, m1⟩
        simp only [execOp, ho, q1, q2, q3, Sem.run_bind, hrun, Result.andThen_ok, Sem.run_pure]
      · simp at hr
    · simp at hr
  · simp at hr
theorem mget_op {o : Oper} {d : Option Nat} {t kt et : TypeId} {m k : Operand} {m' k' : Opd} (ho : o.op = .lookup t m k false) (hm : P.underlying t = some (.map kt et)) (hk : P.underlying kt = some .string) (hz : ((P.info? et).bind fun i => i.zero) = some (.bool false)) (hm' : opd P 0 m = some m') (hk' : opd P kt k = some k')
    (hE : EnvR e a w g) (hM : Mem X w0 pr0 bx pm w g) {D : Fun} {df : Option (Nat × List AV)} {ef : Eff} (hr : step D d ⟨e, bx, pm, df⟩ (.mget m' k') = some ef) : OpR P o a X w0 pr0 bx pm w g ef := by
  simp only [step] at hr
  split at hr
  · rename_i s r key h1 h2
    have q1 := opd_rd hm' hE h1
    have q2 := opd_rd hk' hE h2
    simp only [Rd] at q1 q2
    obtain ⟨blk, hgb, q1⟩ := q1
    unfold mgetK at hr
    split at hr
    · rename_i r' cs hs
      split at hr
      · rename_i hrr
        subst hrr
        obtain ⟨l, hl, rfl⟩ := Option.map_eq_some_iff.1 hr
        have := mapOf_inv hl
        subst this
        obtain ⟨b', k1, ⟨es, clk, k2, k3⟩, _⟩ := hM.mpv s r' l hs
        rw [hgb] at k1
        simp only [Option.some.injEq, Prod.mk.injEq, and_true] at k1
        subst k1
        have hf := findNow_kat key es.toList l 0 k3
        obtain ⟨i, hi, hi2⟩ := Option.bind_eq_some_iff.1 hz
        refine FlatR.op ⟨.bool (kget key l), ?_, by simp only [Rd]⟩ hM
        rw [kat_get key l 0]
        cases hq : kat key l 0 with
        | none =>
          rw [hq] at hf
          simp [execOp, ho, q1, q2, Instr.lookup, run_underlying hm, MapKept.run_getObj_map k2, MapKept.run_checkKey hk (str_key key), MapKept.run_findKey hk hf, zeroValue, typeInfo, hi, hi2, Result.andThen]
        | some p =>
          rw [hq] at hf
          simp [execOp, ho, q1, q2, Instr.lookup, run_underlying hm, MapKept.run_getObj_map k2, MapKept.run_checkKey hk (str_key key), MapKept.run_findKey hk hf, Result.andThen]
      · simp at hr
    · simp at hr
  · simp at hr

/-! ### Rows that are made -/
theorem Mem.count (hM : Mem X w0 pr0 bx pm w g) (d : Nat) : Mem X w0 pr0 (upd bx d (nextB bx d, Rx.gone)) pm w g := by
  have hv := nextB_lt bx d
  have toMp : ∀ {s r l}, upd bx d (nextB bx d, Rx.gone) s = some (r, mapC l) → bx s = some (r, mapC l) := by
    intro s r l e
    by_cases hs : d = s
    · subst hs
      rw [upd_same] at e
      simp only [Option.some.injEq, Prod.mk.injEq] at e
      exact absurd e.2 (mapC_ne_gone l)
    · rwa [upd_ne _ _ hs] at e
  refine ⟨hM.below, hM.old, hM.prn, hM.prlt, ?_, fun s b n e => hM.bxb s b n e.of_gone.2, fun s s' b n n' e e' => hM.bxi s s' b n n' e.of_gone.2 e'.of_gone.2, ?_, hM.lvv, hM.live, fun s r v k b e e' e'' s' n h => hM.livb s r v k b e e' e'' s' n h.of_gone.2, hM.livi, fun s r l e => hM.mpv s r l (toMp e), fun s s' r r' l l' b e e' => hM.mpi s s' r r' l l' b (toMp e) (toMp e')⟩
  · intro s r x e
    obtain ⟨r', cs', e', hle⟩ := hM.bxv s r x e
    by_cases hs : d = s
    · subst hs
      have := hv _ _ e'
      exact ⟨_, _, upd_same _ _ _, by omega⟩
    · exact ⟨r', cs', by rw [upd_ne _ _ hs]; exact e', hle⟩
  · intro s r cs' e hdd
    by_cases hs : d = s
    · subst hs
      rw [upd_same] at e
      simp only [Option.some.injEq, Prod.mk.injEq] at e
      obtain ⟨rfl, rfl⟩ := e
      simp [deadC, Rx.gone] at hdd
    · rw [upd_ne _ _ hs] at e
      exact hM.box s r cs' e hdd
theorem flatten_rep (N : Nat) (z : AV) : (List.replicate N z).flatMap AV.cells = (List.replicate N z.cells).flatten := by
  induction N with
  | zero => rfl
  | succ N ih => simp only [List.replicate_succ, List.flatMap_cons, List.flatten_cons, ih]
theorem mkown_op {o : Oper} {d : Option Nat} {t el : TypeId} {i : TypeInfo} {ag : Bool} {z : AV} {l c : Operand} {l' c' : Opd} (ho : o.op = .makeSlice t l c) (hu : P.underlying t = some (.slice el)) (hi : P.info? el = some i)
    (hz : zeroT P el = some z) (hok : z.okC = true) (hl : opd P 0 l = some l') (hc : opd P 0 c = some c') (hE : EnvR e a w g) (hM : Mem X w0 pr0 bx pm w g) {D : Fun} {df : Option (Nat × List AV)} {ef : Eff}
    (hr : step D d ⟨e, bx, pm, df⟩ (.mkown i.size i.bytes ag z.cells l' c') = some ef) : OpR P o a X w0 pr0 bx pm w g ef := by
  simp only [step] at hr
  split at hr
  · rename_i d' n m hb hb2
    split at hr
    · rename_i hcond
      obtain ⟨hnm, hn0, hbytes, hzk, hk0, hb0, hname, hdead⟩ := hcond
      subst hnm
      simp only [Option.some.injEq] at hr
      subst hr
      obtain ⟨it, zv, hit, hzv, hrd, hok'⟩ := zeroT_rd (w := w) (g := g) hz
      rw [hi] at hit
      simp only [Option.some.injEq] at hit
      subst hit
      have hzsz := Rd.size hok hrd
      obtain ⟨_, hone⟩ := Rd.cells hok hrd
      have h1 := opd_rd hl hE hb
      have h2 := opd_rd hc hE hb2
      simp only [Rd] at h1 h2
      obtain ⟨N, rfl⟩ : ∃ N : Nat, n = N := ⟨n.toNat, by omega⟩
      have hbN : N * i.bytes ≤ 140737488355328 := by
        have : ((N * i.bytes : Nat) : Int) ≤ 140737488355328 := by rw [Int.natCast_mul]; exact hbytes
        omega
      have hN : N ≤ N * i.bytes := Nat.le_mul_of_pos_right N hb0
      have hrun := run_make (P := P) w t el i zv hu hi hzv .i64 .i64 (N : Int) (N : Int) (by omega) (Int.le_refl _) (by
        have : ((i.bytes * N : Nat) : Int) ≤ 281474976710656 := by rw [Nat.mul_comm]; omega
        rwa [Int.natCast_mul] at this) (by omega)
      simp only [Int.toNat_natCast] at hrun hdead ⊢
      have hinit : (madeCells zv.cells (N * i.size)).toList = flatV (List.replicate N zv) := by rw [flatV_rep, mod_block hk0 _ (by omega)]
      have hk3 : ∀ u ∈ List.replicate N zv, u.cells.size = i.size := fun u hu => by rw [List.eq_of_mem_replicate hu]; omega
      have hB := below_alloc w (.cells (madeCells zv.cells (N * i.size)) el)
      have hM' := (hM.moved hB).count (rowCnt d')
      have hlat := hM.later_below hB
      obtain ⟨f1, f2, f3⟩ := hM.fresh
      generalize hs : rowName d' (nextB bx (rowCnt d')) = s at hname ⊢
      have hne : rowCnt d' ≠ s := by unfold rowCnt; omega
      obtain ⟨q1, q2⟩ := rdL_flat (w := w) (g := g) (ys := List.replicate N z) (vs := List.replicate N zv) (fun y hy => by rw [List.eq_of_mem_replicate hy]; exact hok) (RdL.replicate N hrd)
      rw [flatten_rep, ← hinit] at q1
      rw [← hinit] at q2
      have hsz : (madeCells zv.cells (N * i.size)).size = N * i.size := by
        have := congrArg List.length hinit
        rw [flatV_length _ hk3] at this
        simpa using this
      have hov := own_op (P := P) (o := o) (a := a) (X := X) (w0 := w0) (pr0 := pr0) (pm := pm) (s := s) (v := nextB bx s) (b := w.heap.size) (cap := N) (n := N) (k := i.size) (ag := ag) (bx := upd bx (rowCnt d') (nextB bx (rowCnt d'), Rx.gone)) (bx' := upd bx (rowCnt d') (nextB bx (rowCnt d'), Rx.gone)) hM' hlat (fun _ _ => rfl)
        (fun r cs h => nextB_lt bx s r cs (by rwa [upd_ne _ _ hne] at h)) (heap_alloc_new w _) hsz (by rw [List.take_of_length_le (by simp)]) (RdL.later _ hlat q1) q2 (.inl hM.below.size) f1
        (fun s' m _ h => f2 s' m h.of_gone.2) f3 (Nat.le_refl N) (by omega) (by simp only [execOp, ho, h1, h2, Sem.run_bind, hrun, Result.andThen_ok, Sem.run_pure])
      exact hov
    · simp at hr
  · simp at hr
end
end Go.Proofs.YtpkeiffclipjmaaGreatDoor.Rx
