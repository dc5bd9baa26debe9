/-
  Rx, part O3: conversions; parts of slices and of strings; addresses; structs that are built.
-/
import Derived.Test.YtpkeiffclipjmaaGreatDoorRxO2
import Derived.Laws.Tables
namespace Go.Proofs.YtpkeiffclipjmaaGreatDoor.Rx
open Go Go.RowKit
set_option linter.unusedSimpArgs false
section
variable {P : Program} {w : World} {g : Gh} {e : Env} {a : Act}

theorem bytesOf_list : ∀ {xs : List AV} {s : List UInt8}, bytesOf xs = some s → ∀ {us : List Value}, RdL w g xs us → ∃ zs : List Int, us = zs.map (fun z => Value.int .u8 z) ∧ s = zs.map fun z => UInt8.ofNat z.toNat
  | [], s, h, us, hr => by
    simp only [bytesOf, Option.some.injEq] at h
    simp only [RdL] at hr
    exact ⟨[], by simp [hr], by simp [← h]⟩
  | x :: xs, s, h, us, hr => by
    simp only [RdL] at hr
    obtain ⟨u, us', rfl, h1, h2⟩ := hr
    unfold bytesOf at h
    split at h
    · rename_i e; simp at e
    · rename_i n l e
      simp only [List.cons.injEq] at e
      obtain ⟨rfl, rfl⟩ := e
      obtain ⟨s', hs', rfl⟩ := Option.map_eq_some_iff.1 h
      obtain ⟨zs, e1, e2⟩ := bytesOf_list hs' h2
      simp only [Rd] at h1
      exact ⟨n :: zs, by simp [h1, e1], by simp [e2]⟩
    · simp at h
theorem flat_ints (zs : List Int) : flatV (zs.map fun z => Value.int .u8 z) = zs.map fun z => Value.int .u8 z := by
  induction zs with
  | nil => rfl
  | cons z zs ih =>
    simp only [flatV, List.map_cons, List.flatMap_cons] at ih ⊢
    rw [ih]
    rfl

theorem conv_rd {o : Oper} {s d : TypeId} {c : Cv} {x : Operand} {x' : Opd} (ho : o.op = .convert s d x)
    (hc : (∃ k k', c = .toInt k ∧ P.underlying s = some (.int k') ∧ P.underlying d = some (.int k)) ∨ (c = .same ∧ P.underlying s = some .string ∧ P.underlying d = some .string) ∨ (c = .ofBytes ∧ ∃ el, P.underlying s = some (.slice el) ∧ P.underlying el = some (.int .u8) ∧ P.underlying d = some .string))
    (hx : opd P s x = some x') (hE : EnvR e a w g) {r : AV} (hr : flat e (.conv c x') = some r) : FlatR P o a w g r := by
  simp only [flat] at hr
  obtain ⟨p, hp, hr⟩ := Option.bind_eq_some_iff.1 hr
  have h1 := opd_rd hx hE hp
  rcases hc with ⟨k, k', rfl, hs, hd⟩ | ⟨rfl, hs, hd⟩ | ⟨rfl, el, hs, he, hd⟩
  · cases p with
    | int k2 n =>
      simp only [conv] at hr
      simp only [Rd] at h1
      exact ⟨.int k (k.wrap n), by simp [execOp, ho, h1, Go.convert, run_underlying hs, run_underlying hd, Conv.intToInt], chk_rd hr⟩
    | _ => simp [conv] at hr
  · cases p with
    | str s0 =>
      simp only [conv, Option.some.injEq] at hr
      subst hr
      simp only [Rd] at h1
      exact ⟨.string ⟨s0.toArray⟩, by simp [execOp, ho, h1, Go.convert, run_underlying hs, run_underlying hd], by simp only [Rd]⟩
    | _ => simp [conv] at hr
  · cases p with
    | sl k xs pm =>
      simp only [conv] at hr
      obtain ⟨bs, hb, rfl⟩ := Option.map_eq_some_iff.1 hr
      simp only [Rd] at h1
      obtain ⟨us, hus, ⟨ad, cap, hv, hle, hk, h1c, hcells⟩, _⟩ := h1
      obtain ⟨zs, e1, e2⟩ := bytesOf_list hb hus
      subst e1 e2
      refine ⟨.string ⟨(zs.map fun z => UInt8.ofNat z.toNat).toArray⟩, ?_, by simp only [Rd]⟩
      rw [flat_ints] at hcells
      have run : ∀ v, (Go.convert s d (a.eval x)).run P w = .ok v w → (execOp a.eval o).run P w = .ok (.value v) w := by
        intro v hv'
        simp only [execOp, ho, Sem.run_bind, hv', Result.andThen_ok, Sem.run_pure]
      refine run _ ?_
      rw [hv]
      cases ad with
      | none =>
        have hz : zs = [] := by
          rcases zs with _ | ⟨z, zs⟩
          · rfl
          · obtain ⟨b, o', e, _⟩ := hcells (by simp)
            simp at e
        subst hz
        rw [run_convert_bytes_nil w s el hs he _ _ d hd]
        rfl
      | some ad =>
        have hl : (loadCells ad zs.length).run P w = .ok (zs.map (Value.int .u8)).toArray w := by
          rcases zs with _ | ⟨z, zs⟩
          · simp [loadCells, loadCellsFrom]
          · obtain ⟨b, o', e, hc⟩ := hcells (by simp)
            simp only [Option.some.injEq] at e
            subst e
            have := run_loadCells_list (P := P) w ⟨b, o', none⟩ ((z :: zs).map (Value.int .u8)) (fun j v hj => by
              rw [Addr.add_mid]
              exact (hc j v hj).1)
            simpa using this
        rw [run_convert_bytes_string w s d el _ _ cap hs he hd, run_bytesToString w _ _ cap zs (by simpa using hl), foldl_push_bytes]
        simp [ByteArray.empty, ByteArray.emptyWithCapacity]
        rfl
    | _ => simp [conv] at hr

theorem bnd_some {n d h : Nat} {v : AV} {u : Value} (hr : Rd w g v u) (hb : bnd n d (some v) = some h) : ∃ k i, u = .int k i ∧ 0 ≤ i ∧ i ≤ n ∧ i.toNat = h := by
  cases v with
  | int k i =>
    simp only [bnd] at hb
    split at hb
    · rename_i hi
      simp only [Option.some.injEq] at hb
      simp only [Rd] at hr
      exact ⟨k, i, hr, hi.1, hi.2, hb⟩
    · simp at hb
  | _ => simp [bnd] at hb
theorem optv_rd {t : TypeId} {x : Option Operand} {y : Option Opd} (h : opdO P t x = some y) (hE : EnvR e a w g) {r : Option AV} (hr : optv e y = some r) :
    (r = none ∧ x.map a.eval = none) ∨ ∃ v u, r = some v ∧ x.map a.eval = some u ∧ Rd w g v u := by
  cases x with
  | none =>
    simp only [opdO, Option.some.injEq] at h
    subst h
    simp only [optv, Option.some.injEq] at hr
    exact .inl ⟨hr.symm, rfl⟩
  | some x =>
    simp only [opdO] at h
    obtain ⟨z, hz, rfl⟩ := Option.map_eq_some_iff.1 h
    simp only [optv] at hr
    obtain ⟨v, hv, rfl⟩ := Option.map_eq_some_iff.1 hr
    exact .inr ⟨v, _, rfl, rfl, opd_rd hz hE hv⟩

/-- What 'lo' and 'hi' come to. -/
theorem bounds_run (isS : Bool) {len cap hd : Nat} {lo hi mx : Option Value} {l h m : Nat} (hm : (mx = none ∧ m = cap ∧ h ≤ cap) ∨ ∃ k i, mx = some (.int k i) ∧ 0 ≤ i ∧ i ≤ cap ∧ i.toNat = m)
    (hh : (hi = none ∧ h = len ∧ mx = none) ∨ ∃ k i, hi = some (.int k i) ∧ 0 ≤ i ∧ i.toNat = h) (hhm : h ≤ m) (hl : (lo = none ∧ l = 0) ∨ ∃ k i, lo = some (.int k i) ∧ 0 ≤ i ∧ i ≤ h ∧ i.toNat = l) (_hd : hd = 0) :
    (Instr.sliceBounds isS len cap lo hi mx).run P w = .ok (l, h, m) w := by
  unfold Instr.sliceBounds
  rcases hm with ⟨rfl, rfl, hc⟩ | ⟨km, im, rfl, m0, m1, rfl⟩
  · rcases hh with ⟨rfl, rfl, _⟩ | ⟨kh, ih, rfl, h0, rfl⟩
    · rcases hl with ⟨rfl, rfl⟩ | ⟨kl, il, rfl, l0, l1, rfl⟩
      · simp
      · simp [run_sliceBound w kl il _ _ l0 l1]
    · have h1 : ih ≤ (m : Int) := by omega
      rcases hl with ⟨rfl, rfl⟩ | ⟨kl, il, rfl, l0, l1, rfl⟩
      · simp [run_sliceBound w kh ih _ _ h0 h1]
      · simp [run_sliceBound w kh ih _ _ h0 h1, run_sliceBound w kl il _ _ l0 l1]
  · rcases hh with ⟨rfl, rfl, e⟩ | ⟨kh, ih, rfl, h0, rfl⟩
    · simp at e
    · have h1 : ih ≤ (im.toNat : Int) := by omega
      rcases hl with ⟨rfl, rfl⟩ | ⟨kl, il, rfl, l0, l1, rfl⟩
      · simp [run_sliceBound w km im _ _ m0 m1, run_sliceBound w kh ih _ _ h0 h1]
      · simp [run_sliceBound w km im _ _ m0 m1, run_sliceBound w kh ih _ _ h0 h1, run_sliceBound w kl il _ _ l0 l1]

theorem bnd_hi {n h : Nat} {r : Option AV} {x : Option Value} (hx : (r = none ∧ x = none) ∨ ∃ v u, r = some v ∧ x = some u ∧ Rd w g v u) (hb : bnd n n r = some h) :
    ((x = none ∧ h = n) ∨ ∃ k i, x = some (.int k i) ∧ 0 ≤ i ∧ i.toNat = h) ∧ h ≤ n := by
  rcases hx with ⟨rfl, rfl⟩ | ⟨v, u, rfl, rfl, hr⟩
  · simp only [bnd, Option.some.injEq] at hb
    exact ⟨.inl ⟨rfl, hb.symm⟩, by omega⟩
  · obtain ⟨k, i, rfl, h0, h1, h2⟩ := bnd_some hr hb
    exact ⟨.inr ⟨k, i, rfl, h0, h2⟩, by omega⟩
theorem bnd_lo {n l : Nat} {r : Option AV} {x : Option Value} (hx : (r = none ∧ x = none) ∨ ∃ v u, r = some v ∧ x = some u ∧ Rd w g v u) (hb : bnd n 0 r = some l) :
    ((x = none ∧ l = 0) ∨ ∃ k i, x = some (.int k i) ∧ 0 ≤ i ∧ i ≤ n ∧ i.toNat = l) ∧ l ≤ n := by
  rcases hx with ⟨rfl, rfl⟩ | ⟨v, u, rfl, rfl, hr⟩
  · simp only [bnd, Option.some.injEq] at hb
    exact ⟨.inl ⟨rfl, hb.symm⟩, by omega⟩
  · obtain ⟨k, i, rfl, h0, h1, h2⟩ := bnd_some hr hb
    exact ⟨.inr ⟨k, i, rfl, h0, h1, h2⟩, by omega⟩

theorem flatV_take {k : Nat} : ∀ (us : List Value) (n : Nat), (∀ u ∈ us, u.cells.size = k) → flatV (us.take n) = (flatV us).take (n * k)
  | [], n, _ => by simp [flatV]
  | u :: us, 0, _ => by simp [flatV]
  | u :: us, n + 1, h => by
    have hu : u.cells.toList.length = k := by simpa using h u (by simp)
    have ih := flatV_take us n (fun v hv => h v (by simp [hv]))
    simp only [flatV, List.take_succ_cons, List.flatMap_cons] at ih ⊢
    rw [ih, Nat.add_mul, Nat.one_mul, List.take_append, hu, List.take_of_length_le (l := u.cells.toList) (by rw [hu]; omega)]
    congr 2
    omega
theorem flatV_drop {k : Nat} : ∀ (us : List Value) (n : Nat), (∀ u ∈ us, u.cells.size = k) → flatV (us.drop n) = (flatV us).drop (n * k)
  | [], n, _ => by simp [flatV]
  | u :: us, 0, _ => by simp [flatV]
  | u :: us, n + 1, h => by
    have hu : u.cells.toList.length = k := by simpa using h u (by simp)
    have ih := flatV_drop us n (fun v hv => h v (by simp [hv]))
    simp only [flatV, List.drop_succ_cons, List.flatMap_cons] at ih ⊢
    rw [ih, Nat.add_mul, Nat.one_mul, List.drop_append, hu, List.drop_of_length_le (l := u.cells.toList) (by rw [hu]; omega), List.nil_append]
    congr 1
    omega
theorem flatV_length {k : Nat} : ∀ (us : List Value), (∀ u ∈ us, u.cells.size = k) → (flatV us).length = us.length * k
  | [], _ => by simp [flatV]
  | u :: us, h => by
    have hu : u.cells.toList.length = k := by simpa using h u (by simp)
    have ih := flatV_length us (fun v hv => h v (by simp [hv]))
    simp only [flatV, List.flatMap_cons, List.length_append, List.length_cons] at ih ⊢
    rw [ih, hu, Nat.add_mul, Nat.one_mul, Nat.add_comm]
theorem flatV_append (us vs : List Value) : flatV (us ++ vs) = flatV us ++ flatV vs := by simp [flatV]

theorem SlR.part {pr : Nat → Nat → Prop} {k : Nat} {us : List Value} {a0 : Option Addr} {cap l h : Nat} (hs : SlR w pr k us (.slice a0 us.length cap)) (hl : l ≤ h) (hh : h ≤ us.length) (m : Nat) (hm : h ≤ m) :
    SlR w pr k ((us.take h).drop l) (.slice (if m = l then a0 else a0.map (·.add (l * k))) (h - l) (m - l)) := by
  obtain ⟨a1, c1, e, h1, h2, h3, h4⟩ := hs
  simp only [Value.slice.injEq] at e
  obtain ⟨rfl, _, rfl⟩ := e
  have hlen : ((us.take h).drop l).length = h - l := by rw [List.length_drop, List.length_take, Nat.min_eq_left hh]
  have hsub : ∀ u ∈ (us.take h).drop l, u ∈ us := fun u hu => List.mem_of_mem_take (List.mem_of_mem_drop hu)
  refine ⟨_, _, by rw [hlen], by omega, fun u hu => h2 u (hsub u hu), ?_, fun hne => ?_⟩
  · intro c hc
    refine h3 c ?_
    unfold flatV at hc ⊢
    obtain ⟨u, hu, hcu⟩ := List.mem_flatMap.1 hc
    exact List.mem_flatMap.2 ⟨u, hsub u hu, hcu⟩
  · have hpos : l < h := by
      rcases Nat.lt_or_ge l h with hlt | hge
      · exact hlt
      · exact absurd (List.eq_nil_of_length_eq_zero (by rw [hlen]; omega)) hne
    obtain ⟨b, o, rfl, hc⟩ := h4 (fun e => by rw [e] at hh; simp at hh; omega)
    refine ⟨b, o + l * k, by rw [if_neg (by omega)]; simp [Addr.add_mid], ?_⟩
    rw [flatV_drop _ _ (fun u hu => h2 u (List.mem_of_mem_take hu)), flatV_take _ _ h2]
    intro j c hj
    rw [List.getElem?_drop, List.getElem?_take] at hj
    split at hj
    · rw [Nat.add_assoc]
      exact hc _ _ hj
    · simp at hj

theorem extract_list (s : List UInt8) (l h : Nat) : (⟨s.toArray⟩ : ByteArray).extract l h = ⟨((s.take h).drop l).toArray⟩ := by
  apply ByteArray.ext
  simp [ByteArray.data_extract]
  rw [List.drop_take]

theorem slice_rd {o : Oper} {t : TypeId} {x : Operand} {x' : Opd} {lo hi mx : Option Operand} {lo' hi' mx' : Option Opd} {st : Option Nat} (ho : o.op = .slice t x lo hi mx)
    (hu : (st = none ∧ P.underlying t = some .string) ∨ (∃ el k, st = some k ∧ P.underlying t = some (.slice el) ∧ szT P el = some k)) (hx : opd P t x = some x') (hlo : opdO P 0 lo = some lo') (hhi : opdO P 0 hi = some hi') (hmx : opdO P 0 mx = some mx')
    (hE : EnvR e a w g) {r : AV} (hr : flat e (.slice st x' lo' hi' mx') = some r) : FlatR P o a w g r := by
  simp only [flat] at hr
  split at hr
  · rename_i p l h m hp hl hh hm
    have h1 := opd_rd hx hE hp
    have l1 := optv_rd hlo hE hl
    have hi1 := optv_rd hhi hE hh
    have m1 := optv_rd hmx hE hm
    have run : ∀ v, (Instr.slice t (a.eval x) (lo.map a.eval) (hi.map a.eval) (mx.map a.eval)).run P w = .ok v w → (∀ n el, P.underlying t ≠ some (.array n el)) → (execOp a.eval o).run P w = .ok (.value v) w := by
      intro v hv hna
      have hsa : (Instr.sliceAt t (a.eval x) (lo.map a.eval) (hi.map a.eval) (mx.map a.eval)).run P w = .ok v w := by
        unfold Instr.sliceAt
        rcases hu with ⟨_, hu⟩ | ⟨el, k, _, hu, _⟩
        · rw [Sem.run_bind, run_underlying hu]; exact hv
        · rw [Sem.run_bind, run_underlying hu]; exact hv
      simp only [execOp, ho, Sem.run_bind, hsa, Result.andThen_ok, Sem.run_pure]
    unfold slc at hr
    split at hr
    · rename_i s
      obtain ⟨_, hu⟩ : True ∧ P.underlying t = some .string := by simpa using hu
      simp only [Rd] at h1
      split at hr
      · rename_i _ hb hb2
        obtain ⟨l0, hl0, rfl⟩ := Option.map_eq_some_iff.1 hr
        obtain ⟨hA, hA'⟩ := bnd_hi hi1 hb2
        obtain ⟨hB, hB'⟩ := bnd_lo l1 hl0
        have m2 : mx.map a.eval = none := by
          rcases m1 with ⟨_, h⟩ | ⟨v, u, h, _⟩
          · exact h
          · simp at h
        refine ⟨.string ⟨((s.take hb).drop l0).toArray⟩, run _ ?_ (fun n el => by rw [hu]; simp), by simp only [Rd]⟩
        have hbr := bounds_run (P := P) (w := w) false (len := s.length) (cap := s.length) (hd := 0) (m := s.length) (h := hb) (l := l0) (lo := lo.map a.eval) (hi := hi.map a.eval) (mx := none) (.inl ⟨rfl, rfl, hA'⟩)
          (by rcases hA with ⟨e, h⟩ | h; exact .inl ⟨e, h, rfl⟩; exact .inr h) hA' hB rfl
        unfold Instr.slice
        rw [Sem.run_bind, run_underlying hu, m2, h1]
        simp only [Result.andThen_ok, Option.isSome_none, Bool.false_eq_true, if_false, Sem.run_bind, bsz, hbr, Sem.run_pure, extract_list]
      · simp at hr
    · rename_i k0 k xs pm
      split at hr
      rotate_left
      · simp at hr
      rename_i hkk
      subst hkk
      obtain ⟨el, hu, hsz0⟩ : ∃ el, P.underlying t = some (.slice el) ∧ szT P el = some k := by simpa using hu
      have hsz : ∀ w, (sizeOf el).run P w = .ok k w := by
        intro w
        unfold szT at hsz0
        obtain ⟨j, hj, rfl⟩ := Option.map_eq_some_iff.1 hsz0
        simp [sizeOf, typeInfo, hj]
      simp only [Rd] at h1
      obtain ⟨us, hus, hsl, hpm⟩ := h1
      have hsl0 := hsl
      obtain ⟨a0, cap, hv, hle, _⟩ := hsl
      rw [hv] at hsl0 hpm
      have hlen := hus.length
      split at hr
      · rename_i hb hb2
        obtain ⟨hA, hA'⟩ := bnd_hi hi1 hb2
        rw [← hlen] at hA hA'
        obtain ⟨l0, hl0, hr⟩ := Option.bind_eq_some_iff.1 hr
        obtain ⟨hB, hB'⟩ := bnd_lo l1 hl0
        have base : ∀ m2, hb ≤ m2 → (Instr.sliceBounds true us.length cap (lo.map a.eval) (hi.map a.eval) (mx.map a.eval)).run P w = .ok (l0, hb, m2) w →
            (Instr.slice t (a.eval x) (lo.map a.eval) (hi.map a.eval) (mx.map a.eval)).run P w = .ok (.slice (if m2 = l0 then a0 else a0.map (·.add (l0 * k))) (hb - l0) (m2 - l0)) w := by
          intro m2 _ hbr
          unfold Instr.slice
          rw [Sem.run_bind, run_underlying hu, hv]
          simp only [Result.andThen_ok, Sem.run_bind, hbr, hsz, Sem.run_pure]
        split at hr
        · rename_i hmn
          simp only [Option.some.injEq] at hr
          subst hr
          have m2 : mx.map a.eval = none := by
            rcases m1 with ⟨_, h⟩ | ⟨v, u, h, _⟩
            · exact h
            · simp at h
          have hbr := bounds_run (P := P) (w := w) true (len := us.length) (cap := cap) (hd := 0) (m := cap) (h := hb) (l := l0) (lo := lo.map a.eval) (hi := hi.map a.eval) (mx := none) (.inl ⟨rfl, rfl, by omega⟩)
            (by rcases hA with ⟨e, h⟩ | h; exact .inl ⟨e, h, rfl⟩; exact .inr h) (by omega) hB rfl
          refine ⟨_, run _ (base cap (by omega) (by rw [m2]; exact hbr)) (fun n el => by rw [hu]; simp), ?_⟩
          simp only [Rd]
          refine ⟨(us.take hb).drop l0, (hus.take hb).drop l0, hsl0.part hB' hA' cap (by omega), ?_⟩
          by_cases hfull : l0 = 0 ∧ hb = xs.length
          · rw [if_pos hfull]
            obtain ⟨rfl, hfull⟩ := hfull
            have e1 : (Value.slice (if cap = 0 then a0 else a0.map (·.add (0 * k))) (hb - 0) (cap - 0)) = .slice a0 us.length cap := by
              have : a0.map (fun x => x.add (0 * k)) = a0 := by cases a0 <;> simp [Addr.add]
              rw [this]
              simp [hfull, hlen]
            rw [e1]
            exact hpm
          · rw [if_neg hfull]
            trivial
        · rename_i m0 _
          split at hr
          · rename_i hmh
            simp only [Option.some.injEq] at hr
            subst hr
            obtain ⟨km, m2⟩ : ∃ k', mx.map a.eval = some (.int k' m0) := by
              rcases m1 with ⟨h, _⟩ | ⟨v, u, h, h', h''⟩
              · simp at h
              · simp only [Option.some.injEq] at h
                subst h
                simp only [Rd] at h''
                exact ⟨_, by rw [h', h'']⟩
            have hbr := bounds_run (P := P) (w := w) true (len := us.length) (cap := cap) (hd := 0) (m := hb) (h := hb) (l := l0) (lo := lo.map a.eval) (hi := hi.map a.eval) (mx := some (.int km m0)) (.inr ⟨km, m0, rfl, by omega, by omega, by omega⟩)
              (by
                rcases hA with ⟨e, h⟩ | h
                · exfalso
                  rcases hi1 with ⟨h1, _⟩ | ⟨v, u, _, h2, _⟩
                  · simp [h1] at hmh
                  · simp [h2] at e
                · exact .inr h) (Nat.le_refl _) hB rfl
            refine ⟨_, run _ (base hb (Nat.le_refl _) (by rw [m2]; exact hbr)) (fun n el => by rw [hu]; simp), ?_⟩
            simp only [Rd]
            exact ⟨(us.take hb).drop l0, (hus.take hb).drop l0, hsl0.part hB' hA' hb (Nat.le_refl _), ⟨_, _, rfl⟩⟩
          · simp at hr
        · simp at hr
      · simp at hr
    · simp at hr
  · simp at hr
end
end Go.Proofs.YtpkeiffclipjmaaGreatDoor.Rx
