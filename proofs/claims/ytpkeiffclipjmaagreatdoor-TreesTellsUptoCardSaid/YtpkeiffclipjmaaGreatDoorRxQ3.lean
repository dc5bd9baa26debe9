/-
  Rx, part Q3: append.
-/
import Derived.Test.YtpkeiffclipjmaaGreatDoorRxQ2
namespace Go.Proofs.YtpkeiffclipjmaaGreatDoor.Rx
open Go Go.RowKit
set_option linter.unusedSimpArgs false
section
variable {P : Program} {X : Nat → Prop} {w0 w : World} {pr0 : Nat → Nat → Prop} {bx : Bx} {pm : Pm} {g : Gh} {e : Env} {a : Act}

theorem nextP_upd (pm : Pm) (s v d : Nat) : nextP (upd pm s (v, false)) d = if s = d then v + 1 else nextP pm d := by
  unfold nextP upd
  by_cases h : s = d
  · simp [h]
  · simp [h]

/-- Nothing was appended: the slice goes on, under a new mark. -/
theorem same_op {o : Oper} {d k : Nat} {v : Value} {us : List Value} {xs : List AV} {pm' : Pm} (hM : Mem X w0 pr0 bx pm' w g) (hr : RdL w g.pub xs us) (hs : SlR w g.pr k us v) (hown : Own w w0.heap.size g.pr k v)
    (hbx : ∀ b, v.ownBlock = some b → ∀ s n, ¬ LB bx g s b n) (hlv : ∀ b, v.ownBlock = some b → ∀ s r v' k', s ≠ d → pm' s = some (r, true) → g.lv s r = some (v', k') → v'.ownBlock ≠ some b)
    {b : List (Nat × Nat × Bool)} (hpm : updL pm b = upd pm' d (nextP pm' d, true)) (hrun : (execOp a.eval o).run P w = .ok (.value v) w) : OpR P o a X w0 pr0 bx pm w g ⟨.sl k xs (.tok d (nextP pm' d)), [], b, false⟩ := by
  have m3 := hM.marked d hown hbx hlv
  have m4 := Later.marked hM d v k
  refine ⟨rfl, w, _, v, .inl hrun, ?_, m4, by simp only [updL]; rw [hpm]; exact m3⟩
  simp only [Rd]
  exact ⟨us, RdL.later xs m4.pub hr, hs.later m4, by simp [PmR, Gh.marked]⟩

/-- Into the room that is there. -/
theorem run_append_in (w : World) {t ty el T : TypeId} {i : TypeInfo} (ht : P.underlying t = some (.slice el)) (hi : P.info? el = some i) {b n cap : Nat} {cur : Array Value} (hg : w.heap[b]? = some (.cells cur T (0, 0)))
    {ad : Addr} {m c : Nat} {news : List Value} (hl : news.length = m * i.size) (hnews : ∀ j u, news[j]? = some u → w.cell? (ad.add j) = some u) (h1 : ∀ u ∈ news, u.oneCell' = true) (hroom : n + m ≤ cap) (hfit : n * i.size + news.length ≤ cur.size) :
    (Builtin.append_ #[t, t] ty #[.slice (some ⟨b, 0, none⟩) n cap, .slice (some ad) m c]).run P w =
      .ok (.slice (some ⟨b, 0, none⟩) (n + m) cap) (w.setRow b (cur.toList.take (n * i.size) ++ news ++ cur.toList.drop (n * i.size + news.length)).toArray) := by
  have hf := run_firstCells_some (P := P) w i.size m ad m c news hl hnews
  have hst := run_storeCells_at P b (n * i.size) T news 0 cur w hg (by simpa using hfit) h1
  simp only [Nat.add_zero] at hst
  simp [Builtin.append_, run_underlying ht, sizeOf, typeInfo, hi, Builtin.lenOf, hroom, hf, Addr.add_lit, hst]

theorem app_op0 {o : Oper} {d : Option Nat} {c : Call} {x y : Operand} {t el : TypeId} {i : TypeInfo} {z : Value} {x' y' : Opd} (ho : o.op = .call c) (hc : c.callee = .builtin .append) (hargs : c.args.toList = [x, y]) (hts : c.argTypes.toList = [t, t])
    (ht : P.underlying t = some (.slice el)) (hi : P.info? el = some i) (hz : i.zero = some z) (hx : opd P t x = some x') (hy : opd P t y = some y') (hb0 : 0 < i.bytes) (hzs : z.cells.size = i.size)
    (hE : EnvR e a w g) (hM : Mem X w0 pr0 bx pm w g) {D : Fun} {df : Option (Nat × List AV)} {ef : Eff} (hno : ∀ k ag s v n, evo e x' ≠ some (.own k ag s v n)) (hr : step D d ⟨e, bx, pm, df⟩ (.app none i.size i.bytes x' y') = some ef) : OpR P o a X w0 pr0 bx pm w g ef := by
  simp only [step] at hr
  split at hr
  · rename_i d k' xs p k'' ys p2 hb hb2
    split at hr
    · rename_i hcond
      obtain ⟨rfl, rfl, hbytes⟩ := hcond
      have h1 := opd_rd hx hE hb
      have h2 := opd_rd hy hE hb2
      simp only [Rd] at h1 h2
      obtain ⟨us, hus, hs, hp⟩ := h1
      obtain ⟨vs, hvs, hs2, _⟩ := h2
      have hs' := hs
      have hs2' := hs2
      obtain ⟨base, cap, ev, hle, hk, h1c, _⟩ := hs'
      obtain ⟨ad, cap2, ev2, hle2, hk2, h1c2, _⟩ := hs2'
      have l1 := hus.length
      have l2 := hvs.length
      rw [← l1, ← l2] at hbytes
      have hk3 : ∀ u ∈ us ++ vs, u.cells.size = i.size := fun u hu => (List.mem_append.1 hu).elim (hk u) (hk2 u)
      have h1c3 : ∀ c ∈ flatV (us ++ vs), c.oneCell' = true := fun c hc => by rw [flatV_append] at hc; exact (List.mem_append.1 hc).elim (h1c c) (h1c2 c)
      have hrun : ∀ {v w'}, (Builtin.append_ #[t, t] o.type #[.slice base us.length cap, .slice ad vs.length cap2]).run P w = .ok v w' → (execOp a.eval o).run P w = .ok (.value v) w' := fun h => app_run ho hc hargs hts ev ev2 h
      have grow : ∀ (pm' : Pm) (b : List (Nat × Nat × Bool)), Mem X w0 pr0 bx pm' w g → updL pm b = upd pm' d (nextP pm' d, true) → cap < us.length + vs.length →
          OpR P o a X w0 pr0 bx pm w g ⟨.sl i.size (xs ++ ys) (.tok d (nextP pm' d)), [], b, false⟩ := by
        intro pm' b hM' hpm hg
        rw [ev] at hs
        rw [ev2] at hs2
        have h := run_append_new w (ty := o.type) ht hi hz hs hs2 hg hb0 hbytes
        have hge := grownCap_ge w (us.length + vs.length) cap el
        refine grown_op (el := el) hM' ((below_alloc w.drew _).mono (by simp) |> fun h => Below.trans (Below.refl w.heap.size w).drew h) (by simp) (heap_alloc_new w.drew _) (hus.append hvs) hk3 h1c3 (by simp) hge ?_ ?_ hpm (hrun h)
        · have l3 : (flatV us ++ flatV vs).length = (us.length + vs.length) * i.size := by rw [List.length_append, flatV_length us hk, flatV_length vs hk2, Nat.add_mul]
          rw [flatV_append]
          simp only [Array.toList_append]
          rw [← l3]
          exact List.take_left
        · simp only [Array.size_append, List.size_toArray, size_zeroCells, hzs, flatV_length us hk, flatV_length vs hk2, ← Nat.add_mul]
          congr 1
          omega
      have same : ∀ (pm' : Pm) (b : List (Nat × Nat × Bool)), Mem X w0 pr0 bx pm' w g → updL pm b = upd pm' d (nextP pm' d, true) → vs = [] → Own w w0.heap.size g.pr i.size (.slice base us.length cap) →
          (∀ b, (Value.slice base us.length cap).ownBlock = some b → ∀ s n, ¬ LB bx g s b n) → (∀ b, (Value.slice base us.length cap).ownBlock = some b → ∀ s r v' k', s ≠ d → pm' s = some (r, true) → g.lv s r = some (v', k') → v'.ownBlock ≠ some b) →
          OpR P o a X w0 pr0 bx pm w g ⟨.sl i.size (xs ++ ys) (.tok d (nextP pm' d)), [], b, false⟩ := by
        intro pm' b hM' hpm hv0 hown hbx hlv
        subst hv0
        rw [ev] at hs
        have h := run_append_zero w (ty := o.type) ht hi base ad us.length cap cap2 hle
        refine same_op hM' (us := us) ?_ hs hown hbx hlv hpm (hrun h)
        simpa using hus.append hvs
      have onNil : ∀ (pm' : Pm) (b : List (Nat × Nat × Bool)), Mem X w0 pr0 bx pm' w g → updL pm b = upd pm' d (nextP pm' d, true) → a.eval x = .slice none 0 0 → OpR P o a X w0 pr0 bx pm w g ⟨.sl i.size (xs ++ ys) (.tok d (nextP pm' d)), [], b, false⟩ := by
        intro pm' b hM' hpm hn
        rw [ev] at hn
        simp only [Value.slice.injEq] at hn
        obtain ⟨rfl, hn, rfl⟩ := hn
        by_cases hv0 : vs = []
        · exact same pm' b hM' hpm hv0 (.inl (by rw [hn])) (fun b e => by simp [Value.ownBlock] at e) (fun b e => by simp [Value.ownBlock] at e)
        · refine grow pm' b hM' hpm ?_
          have := List.length_pos_iff.2 hv0
          omega
      cases p with
      | no => simp at hr
      | nil =>
        simp only [Option.some.injEq] at hr
        subst hr
        exact onNil pm [(d, nextP pm d, true)] hM rfl hp
      | clip =>
        obtain ⟨a2, n2, hcl⟩ := hp
        rw [ev] at hcl
        simp only [Value.slice.injEq] at hcl
        obtain ⟨_, hn2, hcap⟩ := hcl
        cases ys with
        | nil =>
          simp only [Option.some.injEq] at hr
          subst hr
          have hv0 : vs = [] := List.eq_nil_of_length_eq_zero (by simpa using l2)
          subst hv0
          rw [ev] at hs
          refine FlatR.op ⟨.slice base us.length cap, hrun (run_append_zero w ht hi base ad us.length cap cap2 hle), ?_⟩ hM
          simp only [Rd]
          exact ⟨us, hus, hs, trivial⟩
        | cons y0 ys =>
          simp only [Option.some.injEq] at hr
          subst hr
          refine grow pm [(d, nextP pm d, true)] hM rfl ?_
          simp only [List.length_cons] at l2
          omega
      | tok s v =>
        simp only at hr
        split at hr
        · rename_i v' hpm
          split at hr
          · rename_i hvv
            subst hvv
            simp only [Option.some.injEq] at hr
            subst hr
            have hM1 := hM.kill hpm
            have hnx := nextP_upd pm s v' d
            rw [← hnx]
            have hpe : updL pm [(s, v', false), (d, nextP (upd pm s (v', false)) d, true)] = upd (upd pm s (v', false)) d (nextP (upd pm s (v', false)) d, true) := rfl
            obtain ⟨vv, kk, e1, hown⟩ := hM.live s v' hpm
            have hp' : g.lv s v' = some (a.eval x, i.size) := hp
            rw [e1] at hp'
            simp only [Option.some.injEq, Prod.mk.injEq] at hp'
            obtain ⟨rfl, rfl⟩ := hp'
            have hbx : ∀ b, (a.eval x).ownBlock = some b → ∀ s n, ¬ LB bx g s b n := fun b hb s' r' => hM.livb s v' _ _ b hpm e1 hb s' r'
            have hlv : ∀ b, (a.eval x).ownBlock = some b → ∀ s2 r2 v2 k2, (upd pm s (v', false)) s2 = some (r2, true) → g.lv s2 r2 = some (v2, k2) → v2.ownBlock ≠ some b := by
              intro b hb s2 r2 v2 k2 j1 j2 j3
              by_cases hss : s = s2
              · subst hss; rw [upd_same] at j1; simp at j1
              · rw [upd_ne _ _ hss] at j1
                exact hss (hM.livi s v' _ _ s2 r2 v2 k2 b hpm e1 hb j1 j2 j3)
            have hown0 := hown
            rcases hown with hnil | ⟨b, n, cp, cur, T, hsl, hbase, hheap, hncap, hcs, hfree⟩
            · exact onNil _ _ hM1 hpe hnil
            · rw [ev] at hsl
              simp only [Value.slice.injEq] at hsl
              obtain ⟨rfl, rfl, rfl⟩ := hsl
              by_cases hv0 : vs = []
              · rw [ev] at hown0 hbx hlv
                exact same _ _ hM1 hpe hv0 hown0 hbx (fun b' hb' s2 r2 v2 k2 _ j1 j2 => hlv b' hb' s2 r2 v2 k2 j1 j2)
              · by_cases hroom : us.length + vs.length ≤ cap
                · obtain ⟨ad, cap2', e2, _, _, _, hc2⟩ := hs2
                  rw [ev2] at e2
                  simp only [Value.slice.injEq] at e2
                  obtain ⟨rfl, _, rfl⟩ := e2
                  obtain ⟨b2, o2, rfl, hcc2⟩ := hc2 hv0
                  obtain ⟨a1, cap1, e3, _, _, _, hc1⟩ := hs
                  rw [ev] at e3
                  simp only [Value.slice.injEq] at e3
                  obtain ⟨rfl, _, rfl⟩ := e3
                  have L1 := flatV_length us hk
                  have L2 := flatV_length vs hk2
                  have hfit0 : (us.length + vs.length) * i.size ≤ cur.size := by rw [hcs]; exact Nat.mul_le_mul_right _ hroom
                  rw [Nat.add_mul] at hfit0
                  have hfit : us.length * i.size + (flatV vs).length ≤ cur.size := by omega
                  have h := run_append_in (P := P) w (ty := o.type) ht hi hheap (ad := ⟨b2, o2, none⟩) (c := cap2) L2 (fun j v hj => by rw [Addr.add_mid]; exact (hcc2 j v hj).1) h1c2 hroom hfit
                  have htake : cur.toList.take (us.length * i.size) = flatV us := by
                    apply List.ext_getElem?
                    intro j
                    rw [List.getElem?_take]
                    split
                    · rename_i hj
                      have hj' : j < (flatV us).length := by omega
                      obtain ⟨b1, o1, e4, hcc1⟩ := hc1 (fun e => by subst e; simp [flatV] at hj')
                      simp only [Option.some.injEq, Addr.mk.injEq] at e4
                      obtain ⟨rfl, rfl, _⟩ := e4
                      have h5 := (hcc1 j _ (List.getElem?_eq_getElem hj')).1
                      rw [Nat.zero_add, cell_of_row w b j cur T (0, 0) hheap] at h5
                      rw [List.getElem?_eq_getElem hj', ← h5]
                      simp
                    · rw [List.getElem?_eq_none (by omega)]
                  generalize hnew : (cur.toList.take (us.length * i.size) ++ flatV vs ++ cur.toList.drop (us.length * i.size + (flatV vs).length)).toArray = new at h
                  have hnewt : new.toList.take ((us.length + vs.length) * i.size) = flatV (us ++ vs) := by
                    rw [← hnew, htake, flatV_append, Nat.add_mul, ← L1, ← L2, ← List.length_append]
                    exact List.take_left
                  have hnews : new.size = cur.size := by
                    rw [← hnew]
                    simp only [List.size_toArray, List.length_append, List.length_take, List.length_drop, Array.length_toList]
                    omega
                  have hkeep : ∀ o', g.pr b o' → new[o']? = cur[o']? := by
                    intro o' ho'
                    have hlt : o' < us.length * i.size := by
                      rcases Nat.lt_or_ge o' (us.length * i.size) with hlt | hge
                      · exact hlt
                      · exact absurd ho' (hfree o' hge)
                    rw [← hnew]
                    simp only [List.getElem?_toArray]
                    rw [List.append_assoc, List.getElem?_append_left (by rw [htake]; omega), List.getElem?_take, if_pos hlt]
                    simp
                  have hbx' := fun s r => hbx b (by rw [ev]; rfl) s r
                  have hlv' := fun s2 r2 v2 k2 j1 j2 => hlv b (by rw [ev]; rfl) s2 r2 v2 k2 j1 j2
                  have m1 := hM1.row b new hheap hbase hkeep hbx' hlv'
                  have q1 := hM1.later_row b new hheap hkeep
                  have hrow := setRow_heap w b cur new T (0, 0) hheap
                  have hnd := fun (s : Nat) (r : Nat) (v : Value) (k : Nat) => hlv' s r v k
                  have m2 := m1.more (fun b' o' => b' = b ∧ o' < (us.length + vs.length) * i.size) (by
                      rintro b' o' ⟨rfl, _⟩
                      exact ⟨hbase, heap_lt hrow⟩) (by
                      rintro b' o' ⟨rfl, _⟩
                      exact hbx') (by
                      rintro b' o' ⟨rfl, _⟩ s2 r2 v2 k2 j1 j2
                      exact hlv' s2 r2 v2 k2 j1 j2)
                  have q2 := Later.more (w.setRow b new) g (fun b' o' => b' = b ∧ o' < (us.length + vs.length) * i.size)
                  have m3 := m2.marked d (v := .slice (some ⟨b, 0, none⟩) (us.length + vs.length) cap) (k := i.size)
                    (.inr ⟨b, _, cap, new, T, rfl, hbase, hrow, hroom, by rw [hnews, hcs], fun o' ho' => by
                      rintro (p | ⟨_, q⟩)
                      · refine hfree o' ?_ p
                        rw [Nat.add_mul] at ho'
                        omega
                      · omega⟩)
                    (fun b' hb' s r => by simp [Value.ownBlock] at hb'; subst hb'; exact hbx' s r)
                    (fun b' hb' s2 r2 v2 k2 _ j1 j2 => by simp [Value.ownBlock] at hb'; subst hb'; exact hlv' s2 r2 v2 k2 j1 j2)
                  have q3 := Later.marked m2 d (.slice (some ⟨b, 0, none⟩) (us.length + vs.length) cap) i.size
                  have q := (q1.trans q2).trans q3
                  refine ⟨rfl, _, _, _, .inl (hrun h), ?_, q, by simp only [updL]; exact m3⟩
                  simp only [Rd]
                  refine ⟨us ++ vs, RdL.later _ q.pub (hus.append hvs), ⟨_, cap, by rw [List.length_append], by rw [List.length_append]; exact hroom, hk3, h1c3, fun _ => ⟨b, 0, rfl, fun j c hj => ?_⟩⟩, by simp [PmR, Gh.marked]⟩
                  have hlt : j < (us.length + vs.length) * i.size := by
                    have h6 := (List.getElem?_eq_some_iff.1 hj).1
                    rw [flatV_length _ hk3, List.length_append] at h6
                    exact h6
                  refine ⟨?_, .inr ⟨rfl, by omega⟩⟩
                  rw [Nat.zero_add, cell_of_row _ b j new T (0, 0) hrow]
                  rw [← hnewt, List.getElem?_take, if_pos hlt] at hj
                  simpa using hj
                · exact grow _ _ hM1 hpe (by omega)
          · simp at hr
        · simp at hr
    · simp at hr
  · rename_i hx0 _
    exact absurd hx0 (hno _ _ _ _ _)
  · simp at hr
end
end Go.Proofs.YtpkeiffclipjmaaGreatDoor.Rx
