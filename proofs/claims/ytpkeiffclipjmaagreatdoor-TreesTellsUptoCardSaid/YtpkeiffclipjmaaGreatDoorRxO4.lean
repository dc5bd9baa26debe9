/-
  Rx, part O4: elements' addresses; structs and arrays that are built.
-/
import Derived.Test.YtpkeiffclipjmaaGreatDoorRxO3
import Derived.Great.FillDense
namespace Go.Proofs.YtpkeiffclipjmaaGreatDoor.Rx
open Go Go.RowKit
set_option linter.unusedSimpArgs false
section
variable {P : Program} {w : World} {g : Gh} {e : Env} {a : Act}

theorem szT_run {t : TypeId} {n : Nat} (h : szT P t = some n) (w : World) : (sizeOf t).run P w = .ok n w := by
  unfold szT at h
  obtain ⟨j, hj, rfl⟩ := Option.map_eq_some_iff.1 h
  simp [sizeOf, typeInfo, hj]

theorem iaddr_rd {o : Oper} {t : TypeId} {x i : Operand} {x' i' : Opd} {el : TypeId} {k : Nat} (ho : o.op = .indexAddr t x i) (hs : P.underlying t = some (.slice el)) (hn : szT P el = some k)
    (hx : opd P t x = some x') (hi : opd P 0 i = some i') (hE : EnvR e a w g) {r : AV} (hr : flat e (.iaddr k x' i') = some r) : FlatR P o a w g r := by
  simp only [flat] at hr
  split at hr
  · rename_i k' ag s v m kd n hb hb2
    have h1 := opd_rd hx hE hb
    have h2 := opd_rd hi hE hb2
    split at hr
    · rename_i hk
      obtain ⟨rfl, h0, hlt⟩ := hk
      simp only [Option.some.injEq] at hr
      subst hr
      simp only [Rd] at h1 h2
      obtain ⟨b, cap, hbx, hle, hv, _⟩ := h1
      refine ⟨.pointer (some ⟨b, n.toNat * k', none⟩), ?_, by simp only [Rd]; exact ⟨b, _, hbx, rfl⟩⟩
      have hcond : 0 ≤ n ∧ n < (m : Int) := ⟨h0, by omega⟩
      simp [execOp, ho, hv, h2, Instr.indexAt, asIntOf, run_underlying hs, hcond, szT_run hn, Addr.add_mid]
    · simp at hr
  · rename_i k' xs p kd n hb hb2
    have h1 := opd_rd hx hE hb
    have h2 := opd_rd hi hE hb2
    split at hr
    · rename_i hk
      obtain ⟨rfl, h0⟩ := hk
      obtain ⟨x0, hx0, hr⟩ := Option.bind_eq_some_iff.1 hr
      split at hr
      rotate_left
      · simp at hr
      rename_i hok
      simp only [Option.some.injEq] at hr
      subst hr
      simp only [Rd] at h1 h2
      obtain ⟨us, hus, ⟨ad, cap, hv, hle, h3, h4, h5⟩, _⟩ := h1
      obtain ⟨u, hu, hru⟩ := hus.get hx0
      have hlt : n.toNat < us.length := (List.getElem?_eq_some_iff.1 hu).1
      obtain ⟨b, o', rfl, hc⟩ := h5 (fun e => by rw [e] at hlt; simp at hlt)
      have hmem : u ∈ us := List.mem_of_getElem? hu
      have hcells : flatV us = flatV (us.take n.toNat) ++ u.cells.toList ++ flatV (us.drop (n.toNat + 1)) := by
        have : us = us.take n.toNat ++ u :: us.drop (n.toNat + 1) := by
          have h6 := List.take_append_drop n.toNat us
          rw [List.drop_eq_getElem_cons hlt] at h6
          have h7 : us[n.toNat] = u := (List.getElem?_eq_some_iff.1 hu).2
          rw [h7] at h6
          exact h6.symm
        conv => lhs; rw [this]
        simp [flatV]
      have hlen : (flatV (us.take n.toNat)).length = n.toNat * k' := by
        rw [flatV_length (k := k') _ (fun u hu => h3 u (List.mem_of_mem_take hu)), List.length_take, Nat.min_eq_left (by omega)]
      refine ⟨.pointer (some ⟨b, o' + n.toNat * k', none⟩), ?_, ?_⟩
      · have hcond : 0 ≤ n ∧ n < (us.length : Int) := ⟨h0, by omega⟩
        simp [execOp, ho, hv, h2, Instr.indexAt, asIntOf, run_underlying hs, hcond, szT_run hn, Addr.add_mid]
      · simp only [Rd]
        refine ⟨b, _, u.cells.toList, rfl, ?_, fun c hc => h4 c ?_, fun j c hj => ?_⟩
        · exact (Rd.cells hok hru).1
        · rw [hcells]; simp [hc]
        · have : (flatV us)[n.toNat * k' + j]? = some c := by
            rw [hcells, List.append_assoc, List.getElem?_append_right (by omega), hlen, List.getElem?_append_left (by have := (List.getElem?_eq_some_iff.1 hj).1; omega)]
            simpa using hj
          have := hc _ _ this
          rw [Nat.add_assoc]
          exact this
    · simp at hr
  · simp at hr

theorem aaddr_rd {o : Oper} {t : TypeId} {x i : Operand} {x' i' : Opd} {el : TypeId} {len k : Nat} (ho : o.op = .indexAddr t x i) (hs : P.underlying t = some (.array len el)) (hn : szT P el = some k)
    (hx : opd P t x = some x') (hi : opd P 0 i = some i') (hE : EnvR e a w g) {r : AV} (hr : flat e (.aaddr len k x' i') = some r) : FlatR P o a w g r := by
  simp only [flat] at hr
  split at hr
  · rename_i s v o' kd n hb hb2
    have h1 := opd_rd hx hE hb
    have h2 := opd_rd hi hE hb2
    split at hr
    · rename_i hk
      simp only [Option.some.injEq] at hr
      subst hr
      simp only [Rd] at h1 h2
      obtain ⟨b, nn, hbx, hv⟩ := h1
      refine ⟨.pointer (some ⟨b, o' + n.toNat * k, none⟩), ?_, by simp only [Rd]; exact ⟨b, nn, hbx, rfl⟩⟩
      simp [execOp, ho, hv, h2, Instr.indexAt, asIntOf, Instr.sureAddr, run_underlying hs, hk, szT_run hn, Addr.add_mid]
    · simp at hr
  · simp at hr

theorem fold_part (off : Nat) (l cells : Array Value) (h : off + l.size ≤ cells.size) :
    (l.zipIdx.foldl (fun cs (x : Value × Nat) => cs.setIfInBounds (off + x.2) x.1) cells).toList = cells.toList.take off ++ l.toList ++ cells.toList.drop (off + l.size) := by
  rw [← Array.foldl_toList, Array.toList_zipIdx]
  obtain ⟨h1, h2⟩ := Great.foldl_set off l.toList 0 cells
  apply List.ext_getElem?
  intro k
  rw [Array.getElem?_toList, h2 k]
  simp only [Nat.add_zero, Array.length_toList]
  by_cases hA : k < off
  · rw [if_neg (by omega), List.append_assoc, List.getElem?_append_left (by simp; omega), List.getElem?_take, if_pos hA]
    simp
  · by_cases hB : k < off + l.size
    · rw [if_pos ⟨by omega, hB, by omega⟩, List.append_assoc, List.getElem?_append_right (by simp; omega), List.getElem?_append_left (by simp; omega)]
      simp
      congr 1
      omega
    · rw [if_neg (by omega), List.getElem?_append_right (by simp; omega), List.getElem?_drop]
      simp
      congr 1
      omega

theorem fill_rd (hE : EnvR e a w g) {place : Nat → Option (Nat × Nat)} {place' : Nat → Option (Nat × Nat × TypeId)} (hp : ∀ i o n t, place' i = some (o, n, t) → place i = some (o, n)) :
    ∀ {ps : List (Nat × Operand)} {ps' : List (Nat × Nat × Opd)} {cs cs' : List AV} {cells : Array Value}, parts P place' ps = some ps' → build e cs ps' = some cs' → RdL w g cs cells.toList → (∀ u ∈ cells.toList, u.oneCell' = true) →
      ∃ cells', Instr.fill place cells (ps.map fun (i, x) => (i, a.eval x)) = some cells' ∧ RdL w g cs' cells'.toList ∧ ∀ u ∈ cells'.toList, u.oneCell' = true
  | [], ps', cs, cs', cells, h, hb, hr, h1 => by
    simp only [parts, Option.some.injEq] at h
    subst h
    simp only [build, Option.some.injEq] at hb
    subst hb
    exact ⟨cells, rfl, hr, h1⟩
  | (i, x) :: ps, ps', cs, cs', cells, h, hb, hr, h1 => by
    simp only [parts] at h
    split at h
    · rename_i o n t hpl
      split at h
      · rename_i y l hy hl
        simp only [Option.some.injEq] at h
        subst h
        simp only [build] at hb
        split at hb
        · rename_i v hv
          split at hb
          · rename_i cs2 hcs2
            unfold Rx.place at hcs2
            split at hcs2
            · rename_i hc
              simp only [Option.some.injEq] at hcs2
              subst hcs2
              have hrd := opd_rd hy hE hv
              have hsz := Rd.size hc.1 hrd
              obtain ⟨hc1, hc2⟩ := Rd.cells hc.1 hrd
              have hlen := hr.length
              simp only [Array.length_toList] at hlen
              have hfp := fold_part o (a.eval x).cells cells (by omega)
              obtain ⟨cells', k1, k2, k3⟩ := fill_rd hE hp (cells := (a.eval x).cells.zipIdx.foldl (fun cs (x : Value × Nat) => cs.setIfInBounds (o + x.2) x.1) cells) hl hb
                (by rw [hfp, hsz, hc.2.1]; exact ((hr.take o).append hc1).append (hr.drop _))
                (by
                  rw [hfp]
                  intro u hu
                  simp only [List.mem_append] at hu
                  rcases hu with (hu | hu) | hu
                  · exact h1 u (List.mem_of_mem_take hu)
                  · exact hc2 u hu
                  · exact h1 u (List.mem_of_mem_drop hu))
              refine ⟨cells', ?_, k2, k3⟩
              simp only [List.map_cons, Instr.fill, hp i o n t hpl]
              rw [if_neg (by simp; omega)]
              exact k1
            · simp at hcs2
          · simp at hb
        · simp at hb
      · simp at h
    · simp at h

theorem mapM_places : ∀ (fs : List Field), (fs.all fun f => (szT P f.type).isSome) = true → ∃ places, fs.mapM (fun f => (P.info? f.type).map fun i => (f.offset, i.size)) = some places ∧
    ∀ i : Nat, places[i]? = (fs[i]?).bind fun f : Field => (szT P f.type).map fun n => (f.offset, n)
  | [], _ => ⟨[], rfl, by simp⟩
  | f :: fs, h => by
    simp only [List.all_cons, Bool.and_eq_true] at h
    obtain ⟨pl, h1, h2⟩ := mapM_places fs h.2
    obtain ⟨n, hn⟩ := Option.isSome_iff_exists.1 h.1
    have hn' := hn
    unfold szT at hn'
    obtain ⟨j, hj, hjn⟩ := Option.map_eq_some_iff.1 hn'
    refine ⟨(f.offset, n) :: pl, by simp [List.mapM_cons, h1, hj, hjn], fun i => ?_⟩
    cases i with
    | zero => simp [hn]
    | succ i => simpa using h2 i

theorem agg_rd {o : Oper} {t : TypeId} {ps : Array (Nat × Operand)} {z : List AV} {ps' : List (Nat × Nat × Opd)} (ho : o.op = .build t ps) (hz : zeroT P t = some (.agg z))
    (hu : (∃ fs, P.underlying t = some (.struct fs) ∧ (fs.toList.all fun f => (szT P f.type).isSome) = true ∧ parts P (fun i => match fs[i]? with | some f => (szT P f.type).map fun n => (f.offset, n, f.type) | none => none) ps.toList = some ps') ∨
      ∃ m el k, P.underlying t = some (.array m el) ∧ szT P el = some k ∧ parts P (fun i => some (i * k, k, el)) ps.toList = some ps')
    (hE : EnvR e a w g) {r : AV} (hr : flat e (.agg z ps') = some r) : FlatR P o a w g r := by
  simp only [flat] at hr
  obtain ⟨cs, hb, rfl⟩ := Option.map_eq_some_iff.1 hr
  obtain ⟨it, zv, hit, hzv, hrd, _⟩ := zeroT_rd (w := w) (g := g) hz
  simp only [Rd] at hrd
  obtain ⟨vs, rfl, hr1, hr2⟩ := hrd
  have key : ∃ cells, P.built t (ps.map fun (i, x) => (i, a.eval x)).toList = some cells ∧ RdL w g cs cells.toList ∧ ∀ u ∈ cells.toList, u.oneCell' = true := by
    rcases hu with ⟨fs, hu, hall, hps⟩ | ⟨m, el, k, hu, hk, hps⟩
    · obtain ⟨places, hp1, hp2⟩ := mapM_places fs.toList hall
      obtain ⟨cells, k1, k2, k3⟩ := fill_rd (place := fun i => places.toArray[i]?) hE (fun i o n t h => by
        split at h
        · rename_i f hf
          obtain ⟨n', hn', h⟩ := Option.map_eq_some_iff.1 h
          simp only [Prod.mk.injEq] at h
          obtain ⟨rfl, rfl, _⟩ := h
          have hf' : fs.toList[i]? = some f := by simpa using hf
          simp [hp2, hf', hn', hf]
        · simp at h) hps hb hr1 hr2
      refine ⟨cells, ?_, k2, k3⟩
      unfold Program.built
      simp only [hit, hu, hzv, hp1, Array.toList_map]
      exact k1
    · obtain ⟨j, hj, rfl⟩ := Option.map_eq_some_iff.1 hk
      obtain ⟨cells, k1, k2, k3⟩ := fill_rd (place := fun i => some (i * j.size, j.size)) hE (fun i o n t h => by
        simp only [Option.some.injEq, Prod.mk.injEq] at h
        obtain ⟨rfl, rfl, _⟩ := h
        rfl) hps hb hr1 hr2
      refine ⟨cells, ?_, k2, k3⟩
      unfold Program.built
      simp only [hit, hu, hzv, hj, Array.toList_map]
      exact k1
  obtain ⟨cells, k1, k2, k3⟩ := key
  refine ⟨.agg cells, ?_, by simp only [Rd]; exact ⟨cells, rfl, k2, k3⟩⟩
  simp only [execOp, ho, Sem.run_bind, run_build w t _ cells k1, Result.andThen_ok, Sem.run_pure]
end
end Go.Proofs.YtpkeiffclipjmaaGreatDoor.Rx
