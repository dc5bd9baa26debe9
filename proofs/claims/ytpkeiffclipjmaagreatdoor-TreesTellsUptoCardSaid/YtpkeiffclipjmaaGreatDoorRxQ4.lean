/-
  Rx, part Q4: rows of the call's own, that are written in place; append, all of it.
-/
import Derived.Test.YtpkeiffclipjmaaGreatDoorRxQ3
namespace Go.Proofs.YtpkeiffclipjmaaGreatDoor.Rx
open Go Go.RowKit
set_option linter.unusedSimpArgs false

theorem upd_upd {α : Type} (f : Nat → Option α) (i : Nat) (a b : α) : upd (upd f i a) i b = upd f i b := by
  funext j
  simp only [upd]
  split <;> rfl
section
variable {P : Program} {X : Nat → Prop} {w0 w : World} {pr0 : Nat → Nat → Prop} {bx : Bx} {pm : Pm} {g : Gh} {e : Env} {a : Act}

theorem rdL_flat : ∀ {ys : List AV} {vs : List Value}, (∀ y ∈ ys, y.okC = true) → RdL w g ys vs → RdL w g (ys.flatMap AV.cells) (flatV vs) ∧ ∀ u ∈ flatV vs, u.oneCell' = true
  | [], vs, _, h => by simp only [RdL] at h; subst h; simp [flatV, RdL]
  | y :: ys, vs, hok, h => by
    simp only [RdL] at h
    obtain ⟨u, us, rfl, h1, h2⟩ := h
    obtain ⟨c1, c2⟩ := Rd.cells (hok y (by simp)) h1
    obtain ⟨k1, k2⟩ := rdL_flat (fun z hz => hok z (by simp [hz])) h2
    simp only [flatV, List.flatMap_cons] at k1 k2 ⊢
    refine ⟨c1.append k1, fun v hv => ?_⟩
    rcases List.mem_append.1 hv with hv | hv
    · exact c2 v hv
    · exact k2 v hv
theorem flat_len : ∀ {ys : List AV} {k : Nat}, (∀ y ∈ ys, y.cells.length = k) → (ys.flatMap AV.cells).length = ys.length * k
  | [], k, _ => by simp
  | y :: ys, k, h => by
    rw [List.flatMap_cons, List.length_append, h y (by simp), flat_len (fun z hz => h z (by simp [hz])), List.length_cons, Nat.add_mul, Nat.one_mul, Nat.add_comm]

/-- A row comes to be a name's. -/
theorem own_op {o : Oper} {s v b cap n k : Nat} {ag : Bool} {cs : List AV} {us : List Value} {cur : Array Value} {T : TypeId} {w' : World} {bx' : Bx} (hM : Mem X w0 pr0 bx' pm w' g) (hl : Later w g w' g) (hbx : ∀ i, i ≠ s → bx' i = bx i)
    (hv : ∀ r cs, bx' s = some (r, cs) → r < v) (hb : w'.heap[b]? = some (.cells cur T (0, 0))) (hn : cur.size = cap * k) (ht : cur.toList.take us.length = us) (hr : RdL w' g cs us) (h1 : ∀ u ∈ us, u.oneCell' = true)
    (hbase : w0.heap.size ≤ b ∨ (handed ≤ s ∧ X b)) (hpr : ∀ o, ¬ g.pr b o) (hb2 : ∀ s' m, s' ≠ s → ¬ LB bx' g s' b m) (hlv : ∀ s r v k, pm s = some (r, true) → g.lv s r = some (v, k) → v.ownBlock ≠ some b) (hcap : n ≤ cap)
    (hag : s < 200000) (hrun : (execOp a.eval o).run P w = .ok (.value (.slice (some ⟨b, 0, none⟩) n cap)) w') : OpR P o a X w0 pr0 bx pm w g ⟨.own k ag s v n, [(s, v, cs)], [], false⟩ := by
  have m := hM.boxed hv hb hn ht hr h1 hbase hpr hb2 hlv
  refine ⟨rfl, w', _, _, .inl hrun, ?_, hl.trans (Later.boxed w' g b (cap * k) (hM.ver hv)), ?_⟩
  · simp only [Rd]
    exact ⟨b, cap, g.boxed_same _ _ _ _, hcap, rfl, fun e => by omega⟩
  · simp only [updL]
    have : upd bx s (v, cs) = upd bx' s (v, cs) := by
      funext i
      by_cases h : s = i
      · subst h; rw [upd_same, upd_same]
      · rw [upd_ne _ _ h, upd_ne _ _ h, hbx i (fun e => h e.symm)]
    rw [this]
    exact m

theorem app_op {o : Oper} {d : Option Nat} {c : Call} {x y : Operand} {t el : TypeId} {i : TypeInfo} {z : Value} {x' y' : Opd} {own : Option Bool} (ho : o.op = .call c) (hc : c.callee = .builtin .append) (hargs : c.args.toList = [x, y]) (hts : c.argTypes.toList = [t, t])
    (ht : P.underlying t = some (.slice el)) (hi : P.info? el = some i) (hz : i.zero = some z) (hx : opd P t x = some x') (hy : opd P t y = some y') (hb0 : 0 < i.bytes) (hzs : z.cells.size = i.size)
    (hE : EnvR e a w g) (hM : Mem X w0 pr0 bx pm w g) {D : Fun} {df : Option (Nat × List AV)} {ef : Eff} (hr : step D d ⟨e, bx, pm, df⟩ (.app own i.size i.bytes x' y') = some ef) : OpR P o a X w0 pr0 bx pm w g ef := by
  have hrun : ∀ {vx vy v w'}, a.eval x = vx → a.eval y = vy → (Builtin.append_ #[t, t] o.type #[vx, vy]).run P w = .ok v w' → (execOp a.eval o).run P w = .ok (.value v) w' := fun h1 h2 h => app_run ho hc hargs hts h1 h2 h
  obtain ⟨f1, f2, f3⟩ := hM.fresh
  by_cases hown : ∃ k ag s v n, evo e x' = some (.own k ag s v n)
  · obtain ⟨k0, ag, s, v, n, hxo⟩ := hown
    simp only [step, hxo] at hr
    split at hr
    · rename_i heq _; simp at heq
    · rename_i k' ag' s' v' n' k'' ys p2 heq hb2
      simp only [Option.some.injEq, AV.own.injEq] at heq
      obtain ⟨rfl, rfl, rfl, rfl, rfl⟩ := heq
      split at hr
      · rename_i v2 cs hbs
        split at hr
        · rename_i hcond
          obtain ⟨rfl, rfl, hbytes, rfl, hdd, hcl, hall, hdd2, hag⟩ := hcond
          simp only [Option.some.injEq] at hr
          subst hr
          have h1 := opd_rd hx hE hxo
          have h2 := opd_rd hy hE hb2
          simp only [Rd] at h1 h2
          obtain ⟨b, cap, hgb, hncap, ev, _⟩ := h1
          obtain ⟨vs, hvs, hs2, _⟩ := h2
          have hs2' := hs2
          obtain ⟨ad, cap2, ev2, hle2, hk2, h1c2, hcc⟩ := hs2'
          have l2 := hvs.length
          have hok : ∀ y ∈ ys, y.okC = true := fun y hy => by have := List.all_eq_true.1 hall y hy; simp only [Bool.and_eq_true] at this; exact this.1
          obtain ⟨q1, q2⟩ := rdL_flat hok (RdL.later ys (Later.of_pub w g) hvs)
          obtain ⟨b', n', us, cur, T, k1, k2, kn, kf, k3, k4⟩ := hM.box s v2 cs hbs hdd
          rw [hgb] at k1
          simp only [Option.some.injEq, Prod.mk.injEq] at k1
          obtain ⟨rfl, rfl⟩ := k1
          have hus := k3.length
          have hLB : LB bx g s b (cap * i.size) := ⟨v2, cs, hbs, hdd, hgb⟩
          obtain ⟨hbase, hlt, hpr⟩ := hM.bxb s b _ hLB
          have hvv : ∀ (bx' : Bx) (cs'), bx' s = some (v2, cs') → ∀ r c, bx' s = some (r, c) → r < v2 + 1 := by
            intro bx' cs' h r c h'
            rw [h] at h'
            simp only [Option.some.injEq, Prod.mk.injEq] at h'
            omega
          have hcs' : RdL w g (cs ++ ys.flatMap AV.cells) (us ++ flatV vs) := k3.append q1
          have h1' : ∀ u ∈ us ++ flatV vs, u.oneCell' = true := fun u hu => (List.mem_append.1 hu).elim (k4 u) (q2 u)
          have L2 := flatV_length vs hk2
          rw [← l2] at hbytes ⊢
          have hsm : n + vs.length ≤ (n + vs.length) * i.bytes := Nat.le_mul_of_pos_right _ hb0
          by_cases hv0 : vs = []
          · subst hv0
            have hys : ys = [] := List.eq_nil_of_length_eq_zero (by simpa using l2.symm)
            subst hys
            have h := run_append_zero w (ty := o.type) ht hi (some ⟨b, 0, none⟩) ad n cap cap2 hncap
            simp only [List.flatMap_nil, List.append_nil, List.length_nil, Nat.add_zero] at hcs' ⊢
            exact own_op hM (Later.refl w g) (fun _ _ => rfl) (hvv bx cs hbs) k2 kn kf k3 k4 hbase hpr (fun s' m hne h => hne (hM.bxi s' s b _ _ h hLB)) (fun s r v k h1 h2 h3 => hM.livb s r v k b h1 h2 h3 _ _ hLB) hncap hag (hrun ev ev2 h)
          · obtain ⟨b2, o2, rfl, hcc2⟩ := hcc hv0
            have hn2 : ∀ j u, (flatV vs)[j]? = some u → w.cell? ((⟨b2, o2, none⟩ : Addr).add j) = some u := fun j v hj => by rw [Addr.add_mid]; exact (hcc2 j v hj).1
            by_cases hroom : n + vs.length ≤ cap
            · have hfit0 : (n + vs.length) * i.size ≤ cur.size := by rw [kn]; exact Nat.mul_le_mul_right _ hroom
              rw [Nat.add_mul] at hfit0
              have h := run_append_in (P := P) w (ty := o.type) ht hi k2 (ad := ⟨b2, o2, none⟩) (c := cap2) L2 hn2 h1c2 hroom (by omega)
              have husn : us.length = n * i.size := by omega
              have htake : cur.toList.take (n * i.size) = us := by rw [← husn]; exact kf
              generalize hnew : (cur.toList.take (n * i.size) ++ flatV vs ++ cur.toList.drop (n * i.size + (flatV vs).length)).toArray = new at h
              have hns : new.size = cap * i.size := by
                rw [← hnew]
                simp only [List.size_toArray, List.length_append, List.length_take, List.length_drop, Array.length_toList]
                omega
              have hnt : new.toList.take (us ++ flatV vs).length = us ++ flatV vs := by
                rw [← hnew, htake]
                exact List.take_left
              obtain ⟨m1, q3⟩ := hM.stored (cs' := cs ++ ys.flatMap AV.cells) hbs hdd hgb k2 hns hnt hcs' h1'
              have hLB' : LB (upd bx s (v2, cs ++ ys.flatMap AV.cells)) g s b (cap * i.size) := ⟨v2, _, upd_same _ _ _, hdd2, hgb⟩
              exact own_op m1 q3 (fun j hj => upd_ne _ _ (fun e => hj e.symm)) (hvv _ _ (upd_same _ _ _)) (setRow_heap w b cur new T (0, 0) k2) hns hnt (RdL.later _ q3 hcs') h1' hbase hpr
                (fun s' m hne h => hne (m1.bxi s' s b _ _ h hLB')) (fun s r v k h1 h2 h3 => m1.livb s r v k b h1 h2 h3 _ _ hLB') hroom hag (hrun ev ev2 h)
            · have hg : cap < n + vs.length := by omega
              have holds : ∀ j u, us[j]? = some u → w.cell? ((⟨b, 0, none⟩ : Addr).add j) = some u := fun j u hj => by
                rw [Addr.add_mid, Nat.zero_add, cell_of_row w b j cur T (0, 0) k2]
                exact front_get kf hj
              have h := run_append_grow (P := P) w t o.type el i z ht hi hz ⟨b, 0, none⟩ n cap us (by omega) holds ⟨b2, o2, none⟩ vs.length cap2 (flatV vs) L2 hn2 hg (by omega) (growslice_fits hg hbytes)
              have hge := grownCap_ge w (n + vs.length) cap el
              generalize hG : grownCap w (n + vs.length) cap el = G at h hge
              have hB : Below w.heap.size w (w.drew.alloc (.cells (us.toArray ++ (flatV vs).toArray ++ Builtin.zeroCells z.cells (G - (n + vs.length))) el)) := ((below_alloc w.drew _).mono (by simp) |> fun h => Below.trans (Below.refl w.heap.size w).drew h)
              refine own_op (hM.moved hB) (hM.later_below hB) (fun _ _ => rfl) (hvv bx cs hbs) (heap_alloc_new w.drew _) ?_ ?_ (RdL.later _ (hM.later_below hB) hcs') h1' (.inl hM.below.size) f1 (fun s' m _ => f2 s' m) f3 hge hag (hrun ev ev2 h)
              · simp only [Array.size_append, List.size_toArray, size_zeroCells, hzs]
                rw [L2, show us.length = n * i.size by omega, ← Nat.add_mul, ← Nat.add_mul]
                congr 1
                omega
              · simp only [Array.toList_append]
                exact List.take_left
        · simp at hr
      · simp at hr
    · simp at hr
  · have hno : ∀ k ag s v n, evo e x' ≠ some (.own k ag s v n) := fun k ag s v n h => hown ⟨k, ag, s, v, n, h⟩
    cases own with
    | none => exact app_op0 ho hc hargs hts ht hi hz hx hy hb0 hzs hE hM hno hr
    | some ag =>
      have hr0 := hr
      simp only [step] at hr
      split at hr
      · rename_i d k' xs p k'' ys p2 hb hb2
        cases p with
        | nil =>
          split at hr
          · rename_i hcond
            obtain ⟨rfl, rfl, hbytes⟩ := hcond
            have h1 := opd_rd hx hE hb
            have h2 := opd_rd hy hE hb2
            simp only [Rd] at h1 h2
            obtain ⟨us, hus, hs, hp⟩ := h1
            obtain ⟨vs, hvs, hs2, _⟩ := h2
            have ev : a.eval x = .slice none 0 0 := hp
            rw [ev] at hs
            have hs2' := hs2
            obtain ⟨ad, cap2, ev2, hle2, hk2, h1c2, hcc⟩ := hs2'
            have l2 := hvs.length
            have hus0 : us = [] := by
              obtain ⟨a1, c1, e1, _⟩ := hs
              simp only [Value.slice.injEq] at e1
              exact List.eq_nil_of_length_eq_zero e1.2.1.symm
            subst hus0
            have hxs : xs = [] := List.eq_nil_of_length_eq_zero (by simpa using hus.length.symm)
            subst hxs
            cases ys with
            | nil =>
              simp only [Option.some.injEq] at hr
              subst hr
              have hv0 : vs = [] := List.eq_nil_of_length_eq_zero (by simpa using l2)
              subst hv0
              refine FlatR.op ⟨.slice none 0 0, hrun ev ev2 (run_append_zero w ht hi none ad 0 0 cap2 (Nat.le_refl _)), ?_⟩ hM
              simp only [Rd]
              exact ⟨[], hus, hs, rfl⟩
            | cons y0 ys =>
              simp only at hr
              split at hr
              · rename_i hcond
                obtain ⟨hall, hdd, hag⟩ := hcond
                simp only [Option.some.injEq] at hr
                subst hr
                have hok : ∀ y ∈ y0 :: ys, y.okC = true := fun y hy => by have := List.all_eq_true.1 hall y hy; simp only [Bool.and_eq_true] at this; exact this.1
                obtain ⟨q1, q2⟩ := rdL_flat hok (RdL.later _ (Later.of_pub w g) hvs)
                rw [ev2] at hs2
                have hg : 0 < ([] : List Value).length + vs.length := by rw [l2]; simp
                rw [← l2] at hbytes ⊢
                have h := run_append_new w (ty := o.type) ht hi hz hs hs2 hg hb0 (by simpa using hbytes)
                simp only [List.length_nil, Nat.zero_add] at h
                have hge := grownCap_ge w vs.length 0 el
                generalize hG : grownCap w vs.length 0 el = G at h hge
                have hB : Below w.heap.size w (w.drew.alloc (.cells ((flatV []).toArray ++ (flatV vs).toArray ++ Builtin.zeroCells z.cells (G - vs.length)) el)) := ((below_alloc w.drew _).mono (by simp) |> fun h => Below.trans (Below.refl w.heap.size w).drew h)
                have L2 := flatV_length vs hk2
                refine own_op (hM.moved hB) (hM.later_below hB) (fun _ _ => rfl) (nextB_lt bx d) (heap_alloc_new w.drew _) ?_ ?_ (RdL.later _ (hM.later_below hB) q1) q2 (.inl hM.below.size) f1 (fun s' m _ => f2 s' m) f3 hge hag (hrun ev ev2 h)
                · simp only [Array.size_append, List.size_toArray, size_zeroCells, hzs, L2]
                  simp only [flatV, List.flatMap_nil, List.length_nil, Nat.zero_add]
                  rw [← Nat.add_mul]
                  congr 1
                  omega
                · simp only [Array.toList_append, flatV, List.flatMap_nil, List.nil_append]
                  exact List.take_left
              · simp at hr
          · simp at hr
        | no => exact app_op0 (d := some d) (D := D) (df := df) ho hc hargs hts ht hi hz hx hy hb0 hzs hE hM hno (by simp only [step, hb, hb2]; exact hr)
        | clip => exact app_op0 (d := some d) (D := D) (df := df) ho hc hargs hts ht hi hz hx hy hb0 hzs hE hM hno (by simp only [step, hb, hb2]; exact hr)
        | tok s v => exact app_op0 (d := some d) (D := D) (df := df) ho hc hargs hts ht hi hz hx hy hb0 hzs hE hM hno (by simp only [step, hb, hb2]; exact hr)
      · rename_i hx0 _
        exact absurd hx0 (hno _ _ _ _ _)
      · simp at hr
end
end Go.Proofs.YtpkeiffclipjmaaGreatDoor.Rx
