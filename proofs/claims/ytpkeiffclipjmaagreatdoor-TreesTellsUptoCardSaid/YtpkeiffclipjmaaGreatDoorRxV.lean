/-
  Rx, part V: functions and whole programs.
-/
import Derived.Test.YtpkeiffclipjmaaGreatDoorRxU
namespace Go.Proofs.YtpkeiffclipjmaaGreatDoor.Rx
open Go Go.RowKit
set_option linter.unusedSimpArgs false

section
variable {C : Cx} {K : Cfg} {X : Nat → Prop} {w0 w : World} {pr0 : Nat → Nat → Prop} {g : Gh} {e : Env} {a : Act} {D : Fun} {nt : Nat} {st : St}

def resF (tmps : Array Value) : ResultVar → Sem Value
  | .tmp t => pure (tmps.getD t undef)
  | .cell c t => do loadVar t (← asAddr (tmps.getD c undef))
theorem results_eq (fn : Func) (tmps : Array Value) : results fn tmps = (do
    let vs ← fn.results.mapM (resF tmps)
    pure (if h : vs.size = 1 then vs[0] else .tuple vs)) := by
  unfold results
  congr 2

theorem more_more (g : Gh) (Q1 Q2 : Nat → Nat → Prop) : (g.more Q1).more Q2 = g.more fun b o => Q1 b o ∨ Q2 b o := by
  simp only [Gh.more, Gh.mk.injEq, and_self, and_true]
  funext b o
  exact propext or_assoc
theorem grid_congr {b b' : Bx} : ∀ {l : List AV} {seen : List Nat}, (∀ s, seen.contains s = false → b' s = b s) → gridR b' seen l = gridR b seen l
  | [], _, _ => rfl
  | x :: l, seen, h => by
    cases x with
    | own k ag s v n =>
      have ih := grid_congr (b := b) (b' := b') (l := l) (seen := s :: seen) (fun t ht => h t (by simp at ht ⊢; exact ht.2))
      unfold gridR
      rw [ih]
      cases hs : seen.contains s with
      | false => rw [h s hs]
      | true =>
        cases gridR b (s :: seen) l with
        | none => cases b' s <;> cases b s <;> rfl
        | some r => cases b' s <;> cases b s <;> simp
    | _ => rfl
theorem updL_app {α : Type} : ∀ (l l' : List (Nat × α)) (f : Nat → Option α), updL f (l ++ l') = updL (updL f l) l'
  | [], _, _ => rfl
  | (i, a) :: l, l', f => updL_app l l' (upd f i a)
theorem updL_not {α : Type} : ∀ (l : List (Nat × α)) (f : Nat → Option α) (s : Nat), (∀ t ∈ l, t.1 ≠ s) → updL f l s = f s
  | [], _, _, _ => rfl
  | (i, a) :: l, f, s, h => by
    simp only [updL]
    rw [updL_not l _ s (fun t ht => h t (List.mem_cons_of_mem _ ht)), upd_ne _ _ (h (i, a) (List.mem_cons_self ..))]
/-- Rows in a row are made known, one by one. -/
theorem grid_rd {pm : Pm} : ∀ {cs : List AV} {us : List Value} {seen : List Nat} {xs : List AV} {ts : List (Nat × Nat × List AV)} {bx : Bx} {g : Gh}, Mem X w0 pr0 bx pm w g → RdL w g cs us → gridR bx seen cs = some (xs, ts) →
    ∃ Q, Mem X w0 pr0 (updL bx ts) pm w (g.more Q) ∧ RdL w (pubG (g.more Q).pr) xs us ∧ ∀ t ∈ ts, seen.contains t.1 = false
  | [], us, seen, xs, ts, bx, g, hM, hr, h => by
    simp only [gridR, Option.some.injEq, Prod.mk.injEq] at h
    obtain ⟨rfl, rfl⟩ := h
    refine ⟨fun _ _ => False, hM.more _ (fun _ _ h => h.elim) (fun _ _ h => h.elim) (fun _ _ h => h.elim), ?_, by simp⟩
    simp only [RdL] at hr ⊢
    exact hr
  | x :: l, us, seen, xs, ts, bx, g, hM, hr, h => by
    cases x with
    | own k ag s v n =>
      unfold gridR at h
      split at h
      · rename_i v' cs xs' ts' hb hl
        split at h
        · rename_i hc
          obtain ⟨rfl, hdd, hlen, hk0, hlt, hseen⟩ := hc
          obtain ⟨ys, hys, h⟩ := Option.map_eq_some_iff.1 h
          simp only [Prod.mk.injEq] at h
          obtain ⟨rfl, rfl⟩ := h
          simp only [RdL] at hr
          obtain ⟨u, us', rfl, hu, hr⟩ := hr
          obtain ⟨Q1, m1, q1, r1⟩ := publish_rd hM hb hdd hlt hlen hys hu
          have hl' : gridR (upd bx s (v', gone)) (s :: seen) l = some (xs', ts') := by
            rw [← hl]
            refine grid_congr fun t ht => upd_ne _ _ ?_
            rintro rfl
            simp at ht
          obtain ⟨Q2, m2, r2, f2⟩ := grid_rd m1 (RdL.later l q1 hr) hl'
          rw [more_more] at m2 r2
          refine ⟨fun b o => Q1 b o ∨ Q2 b o, m2, ?_, ?_⟩
          · simp only [RdL]
            exact ⟨u, us', rfl, Rd.later _ (Later.pubG fun b o h => by rcases h with h | h; exact .inl h; exact .inr (.inl h)) r1, r2⟩
          · intro t ht
            rcases List.mem_cons.1 ht with rfl | ht
            · exact hseen
            · have := f2 t ht
              simp at this ⊢
              exact this.2
        · simp at h
      · simp at h
    | _ => simp [gridR] at h
theorem flatV_one : ∀ {us : List Value}, (∀ u ∈ us, u.oneCell' = true) → flatV us = us ∧ ∀ u ∈ us, u.cells.size = 1
  | [], _ => ⟨rfl, by simp⟩
  | u :: us, h => by
    obtain ⟨h1, h2⟩ := flatV_one (us := us) (fun v hv => h v (List.mem_cons_of_mem _ hv))
    have hu := h u (List.mem_cons_self ..)
    have hc : u.cells = #[u] := by cases u <;> simp [Value.oneCell'] at hu <;> rfl
    refine ⟨?_, fun v hv => ?_⟩
    · simp only [flatV, List.flatMap_cons] at h1 ⊢
      rw [h1, hc]
      rfl
    · rcases List.mem_cons.1 hv with rfl | hv
      · rw [hc]; rfl
      · exact h2 v hv
theorem grid_ok {bx : Bx} {pm : Pm} {g : Gh} (hM : Mem X w0 pr0 bx pm w g) {s v m : Nat} {cs xs : List AV} {ts : List (Nat × Nat × List AV)} {val : Value} (hd : bx s = some (v, cs)) (hdd : deadC cs = false) (hl : cs.length = m) (hlt : s < 100000) (hx : gridR bx [s] cs = some (xs, ts))
    (hr : Rd w g (.own 1 false s v m) val) : ∃ Q, Mem X w0 pr0 (updL bx (ts ++ [(s, v, gone)])) pm w (g.more Q) ∧ Rd w (pubG (g.more Q).pr) (.sl 1 xs .no) val := by
  simp only [Rd] at hr
  obtain ⟨b, cap, hb, hle, rfl, _⟩ := hr
  obtain ⟨b', n', us, cur, T, k1, k2, kn, kf, k3, k4⟩ := hM.box s v cs hd hdd
  rw [hb] at k1
  simp only [Option.some.injEq, Prod.mk.injEq] at k1
  obtain ⟨rfl, rfl⟩ := k1
  obtain ⟨Q1, m1, r1, f1⟩ := grid_rd hM k3 hx
  have hs2 : updL bx ts s = some (v, cs) := by
    rw [updL_not ts bx s (fun t ht e => by have := f1 t ht; simp at this; exact this e), hd]
  obtain ⟨m2, q2⟩ := m1.publish (m := m) hs2 hdd hlt hb
  rw [more_more] at m2 q2
  have hlen := k3.length
  obtain ⟨g1, g2⟩ := flatV_one k4
  refine ⟨_, by rw [updL_app]; exact m2, ?_⟩
  simp only [Rd]
  refine ⟨us, RdL.later xs (Later.pubG fun b o h => by rcases h with h | h; exact .inl h; exact .inr (.inl h)) r1, ⟨some ⟨b, 0, none⟩, cap, by rw [hlen, hl], by omega, g2, by rw [g1]; exact k4, fun _ => ⟨b, 0, rfl, fun j c hj => ?_⟩⟩, trivial⟩
  rw [g1] at hj
  have hlt2 : j < m := by
    have h5 := (List.getElem?_eq_some_iff.1 hj).1
    omega
  refine ⟨?_, .inr (.inr ⟨rfl, by omega⟩)⟩
  rw [Nat.zero_add, cell_of_row w b j cur T (0, 0) k2]
  exact front_get kf hj

theorem res_ok {P : Program} {grid : Bool} (hE : EnvR e a w g) : ∀ {rs : List ResultVar} {rs' : List RV} {l : List AV} {bx : Bx} {pm : Pm} {df : Option (Nat × List AV)} {Q0 : Nat → Nat → Prop}, Mem X w0 pr0 bx pm w (g.more Q0) → resL P grid rs = some rs' → tells ⟨e, bx, pm, df⟩ rs' = some l →
    ∃ (vs : List Value) (bx' : Bx) (Q : Nat → Nat → Prop), (rs.mapM (resF a.tmps)).run P w = .ok vs w ∧ Mem X w0 pr0 bx' pm w (g.more Q) ∧ (∀ b o, Q0 b o → Q b o) ∧ RdL w (pubG (g.more Q).pr) l vs
  | [], rs', l, bx, pm, df, Q0, hM, h, ht => by
    simp only [resL, Option.some.injEq] at h
    subst h
    simp only [tells, Option.some.injEq] at ht
    subst ht
    exact ⟨[], bx, Q0, by simp, hM, fun _ _ h => h, by simp [RdL]⟩
  | .tmp t :: rs, rs', l, bx, pm, df, Q0, hM, h, ht => by
    simp only [resL] at h
    obtain ⟨rs1, h1, rfl⟩ := Option.map_eq_some_iff.1 h
    simp only [tells] at ht
    split at ht
    · rename_i x b hx
      obtain ⟨l1, hl1, rfl⟩ := Option.map_eq_some_iff.1 ht
      have fini : ∀ (u : Value) (bx1 : Bx) (Q1 : Nat → Nat → Prop), a.tmps[t]? = some u → Mem X w0 pr0 bx1 pm w (g.more Q1) → (∀ b o, Q0 b o → Q1 b o) → Rd w (pubG (g.more Q1).pr) x u → tells ⟨e, bx1, pm, df⟩ rs1 = some l1 →
          ∃ (vs : List Value) (bx' : Bx) (Q : Nat → Nat → Prop), ((ResultVar.tmp t :: rs).mapM (resF a.tmps)).run P w = .ok vs w ∧ Mem X w0 pr0 bx' pm w (g.more Q) ∧ (∀ b o, Q0 b o → Q b o) ∧ RdL w (pubG (g.more Q).pr) (x :: l1) vs := by
        intro u bx1 Q1 hu m hQ hr ht1
        obtain ⟨vs, bx', Q, k1, k2, k3, k4⟩ := res_ok hE m h1 ht1
        refine ⟨u :: vs, bx', Q, ?_, k2, fun b o h => k3 b o (hQ b o h), ?_⟩
        · rw [List.mapM_cons]
          simp only [resF, Sem.run_bind, Sem.run_pure, Result.andThen_ok]
          rw [k1]
          simp [Array.getD_eq_getD_getElem?, hu]
        · simp only [RdL]
          exact ⟨u, vs, rfl, Rd.later x (Later.pubG fun b o h => by rcases h with h | h; exact .inl h; exact .inr (k3 b o h)) hr, k4⟩
      cases grid with
      | true =>
        simp only [if_true, tell1] at hx
        split at hx
        · rename_i s v m hev
          split at hx
          · rename_i v' cs hbs
            split at hx
            · rename_i hc
              obtain ⟨rfl, hdd, hl, hlt⟩ := hc
              obtain ⟨⟨xs, ts⟩, hxs, hx⟩ := Option.map_eq_some_iff.1 hx
              simp only [Prod.mk.injEq] at hx
              obtain ⟨rfl, rfl⟩ := hx
              obtain ⟨u, hu, hru⟩ := hE t _ hev
              obtain ⟨Q2, m2, hrd⟩ := grid_ok hM hbs hdd hl hlt hxs (Rd.later _ (Later.more w g Q0) hru)
              rw [more_more] at m2 hrd
              exact fini u _ _ hu m2 (fun b o h => .inl h) hrd hl1
            · simp at hx
          · simp at hx
        · simp at hx
      | false =>
      simp only [Bool.false_eq_true, if_false, tell1] at hx
      split at hx
      · rename_i k ag s v m hev
        split at hx
        · rename_i v' cs hbs
          split at hx
          · rename_i hc
            obtain ⟨rfl, hdd, hl, hk0, hlt⟩ := hc
            obtain ⟨xs, hxs, hx⟩ := Option.map_eq_some_iff.1 hx
            simp only [Prod.mk.injEq] at hx
            obtain ⟨rfl, rfl⟩ := hx
            obtain ⟨u, hu, hru⟩ := hE t _ hev
            obtain ⟨Q2, m2, q2, hrd⟩ := publish_rd hM hbs hdd hlt hl hxs (Rd.later _ (Later.more w g Q0) hru)
            have hg : (g.more Q0).more Q2 = g.more (fun b o => Q0 b o ∨ Q2 b o) := by
              simp only [Gh.more, Gh.mk.injEq, and_self, and_true]
              funext b o
              exact propext or_assoc
            rw [hg] at m2 hrd
            exact fini u _ _ hu m2 (fun b o h => .inl h) hrd hl1
          · simp at hx
        · simp at hx
      · rename_i y hno hev
        simp only [Option.some.injEq, Prod.mk.injEq] at hx
        obtain ⟨rfl, rfl⟩ := hx
        obtain ⟨u, hu, hru⟩ := hE t _ hev
        exact fini u bx Q0 hu hM (fun _ _ h => h) (Rd.pub1 (Rd.later y (Later.more w g Q0) hru)) hl1
      · simp at hx
    · simp at ht
  | .cell c t :: rs, rs', l, bx, pm, df, Q0, hM, h, ht => by
    simp only [resL] at h
    split at h
    · rename_i ag k rs1 hag hk h1
      split at h
      · rename_i hcond
        simp only [Option.some.injEq] at h
        subst h
        simp only [tells] at ht
        split at ht
        · rename_i x b hx
          obtain ⟨l1, hl1, rfl⟩ := Option.map_eq_some_iff.1 ht
          simp only [tell1] at hx
          split at hx
          · rename_i s v o' hb
            split at hx
            · rename_i v' cs hs
              split at hx
              · rename_i hc
                obtain ⟨rfl, hdd, hle⟩ := hc
                obtain ⟨r, hmk, hx⟩ := Option.map_eq_some_iff.1 hx
                simp only [Prod.mk.injEq] at hx
                obtain ⟨rfl, rfl⟩ := hx
                obtain ⟨u0, hu0, hr0⟩ := hE c _ hb
                simp only [Rd] at hr0
                obtain ⟨b, n, hbx, rfl⟩ := hr0
                obtain ⟨b', n', us, cur, T, j1, j2, jn, jf, j3, j4⟩ := hM.box s v' cs hs hdd
                have j1' : g.bx s v' = some (b', n') := j1
                rw [hbx] at j1'
                simp only [Option.some.injEq, Prod.mk.injEq] at j1'
                obtain ⟨rfl, rfl⟩ := j1'
                have hlen := j3.length
                obtain ⟨u, hu, hru⟩ := load_cells (P := P) (w := w) (b := b) (o := o') (us := (us.drop o').take k) hk hag hcond (fun j c hj => by
                    rw [List.getElem?_take] at hj
                    split at hj
                    · rw [List.getElem?_drop] at hj
                      rw [cell_of_row w b (o' + j) _ T (0, 0) j2]
                      exact front_get jf hj
                    · simp at hj) (by rw [List.length_take, List.length_drop]; omega) ((j3.drop o').take k) (fun u hu => j4 u (List.mem_of_mem_drop (List.mem_of_mem_take hu))) hmk
                simp only [Instr.loadAt, Instr.sureAddr, Sem.run_bind, Sem.run_pure, Result.andThen_ok] at hu
                obtain ⟨vs, bx', Q, k1, k2, k3, k4⟩ := res_ok hE hM h1 hl1
                refine ⟨u :: vs, bx', Q, ?_, k2, k3, ?_⟩
                · rw [List.mapM_cons]
                  have e1 : a.tmps.getD c undef = .pointer (some ⟨b, o', none⟩) := by simp [Array.getD_eq_getD_getElem?, hu0]
                  simp only [resF, Sem.run_bind, e1, asAddr, Sem.run_pure, Result.andThen_ok, hu]
                  rw [k1]
                  simp
                · simp only [RdL]
                  exact ⟨u, vs, rfl, Rd.later _ (Later.pubG fun b o h => by rcases h with h | h; exact .inl h; exact .inr (k3 b o h)) (Rd.pub1 hru), k4⟩
              · simp at hx
            · simp at hx
          · simp at hx
        · simp at ht
      · simp at h
    · simp at h

theorem tell_ok {P : Program} {grid : Bool} {st : St} (hE : EnvR st.env a w g) (hM : Mem X w0 pr0 st.bx st.pm w g) {fn : Func} {rs' : List RV} {r : AV} (h : resL P grid fn.results.toList = some rs') (ht : tell rs' st = some r) :
    ∃ v bx' Q, (results fn a.tmps).run P w = .ok v w ∧ Mem X w0 pr0 bx' st.pm w (g.more Q) ∧ Rd w (pubG (g.more Q).pr) r v := by
  unfold tell at ht
  have hM0 : Mem X w0 pr0 st.bx st.pm w (g.more fun _ _ => False) := hM.more _ (fun _ _ h => h.elim) (fun _ _ h => h.elim) (fun _ _ h => h.elim)
  have base : ∀ l, tells st rs' = some l → ∃ (vs : List Value) (bx' : Bx) (Q : Nat → Nat → Prop), (fn.results.mapM (resF a.tmps)).run P w = .ok vs.toArray w ∧ Mem X w0 pr0 bx' st.pm w (g.more Q) ∧ RdL w (pubG (g.more Q).pr) l vs := by
    intro l hl
    obtain ⟨vs, bx', Q, k1, k2, _, k3⟩ := res_ok (P := P) hE hM0 h hl
    refine ⟨vs, bx', Q, ?_, k2, k3⟩
    rw [Array.mapM_eq_mapM_toList]
    simp only [Sem.run_map, k1]
    rfl
  split at ht
  · rename_i x hl
    simp only [Option.some.injEq] at ht
    subst ht
    obtain ⟨vs, bx', Q, k1, k2, k3⟩ := base _ hl
    simp only [RdL] at k3
    obtain ⟨u, us, rfl, h1, h2⟩ := k3
    subst h2
    refine ⟨u, bx', Q, ?_, k2, h1⟩
    rw [results_eq, Sem.run_bind, k1]
    simp
  · rename_i l hne hl
    simp only [Option.some.injEq] at ht
    subst ht
    obtain ⟨vs, bx', Q, k1, k2, k3⟩ := base _ hl
    have hlen := k3.length
    refine ⟨.tuple vs.toArray, bx', Q, ?_, k2, by simp only [Rd]; exact ⟨_, rfl, by simpa using k3⟩⟩
    rw [results_eq, Sem.run_bind, k1]
    have : vs.toArray.size ≠ 1 := by
      intro e
      simp only [List.size_toArray] at e
      rw [e] at hlen
      match l, hlen, hne with
      | [y], _, hne => exact hne y rfl
    simp only [Result.andThen_ok]
    rw [dif_neg this]
    rfl
  · simp at ht

theorem pub1_plain (x : AV) : plainR x.pub1 = true := by cases x <;> rfl
theorem tell1_plain {rv : RV} {x : AV} {b : List (Nat × Nat × List AV)} (h : tell1 st rv = some (x, b)) : plainR x = true := by
  cases rv with
  | t n =>
    simp only [tell1] at h
    split at h
    · split at h
      · split at h
        · obtain ⟨xs, _, h⟩ := Option.map_eq_some_iff.1 h
          simp only [Prod.mk.injEq] at h
          rw [← h.1]; rfl
        · simp at h
      · simp at h
    · simp only [Option.some.injEq, Prod.mk.injEq] at h
      rw [← h.1]; exact pub1_plain _
    · simp at h
  | g n =>
    simp only [tell1] at h
    split at h
    · split at h
      · split at h
        · obtain ⟨xs, _, h⟩ := Option.map_eq_some_iff.1 h
          simp only [Prod.mk.injEq] at h
          rw [← h.1]; rfl
        · simp at h
      · simp at h
    · simp at h
  | c n ag k =>
    simp only [tell1] at h
    split at h
    · split at h
      · split at h
        · obtain ⟨xs, _, h⟩ := Option.map_eq_some_iff.1 h
          simp only [Prod.mk.injEq] at h
          rw [← h.1]; exact pub1_plain _
        · simp at h
      · simp at h
    · simp at h
theorem tell_plain {res : List RV} {r : AV} (h : tell res st = some r) : plainR r = true := by
  unfold tell at h
  split at h
  · rename_i x hx
    simp only [Option.some.injEq] at h
    subst h
    cases res with
    | nil => simp [tells] at hx
    | cons rv rs =>
      simp only [tells] at hx
      split at hx
      · rename_i y b h1
        obtain ⟨l, _, h2⟩ := Option.map_eq_some_iff.1 hx
        simp only [List.cons.injEq] at h2
        rw [← h2.1]
        exact tell1_plain h1
      · simp at hx
  · simp only [Option.some.injEq] at h
    subst h
    rfl
  · simp at h
theorem post_mk {pr : Nat → Nat → Prop} {bs : List (Nat × Nat)} {r : AV} (h : plainR r = true) {v : Value} {w' : World} {pr' : Nat → Nat → Prop} (h1 : Aft w w' pr pr' (inB bs)) (h2 : Rd w' (pubG pr') r v) : Post C w pr bs r (.returned v) w' := by
  cases r <;> first | exact ⟨pr', h1, h2⟩ | simp [plainR] at h
theorem says_mk {f : Nat} {args : List AV} {r : AV} (h : plainR r = true) (hs : SaysCall C f args r) : Says C f args r := by
  cases r <;> first | exact hs | simp [plainR] at h

/-! ### What a function is handed -/
def handG : Nat → List AV → List (Nat × Nat) → Nat → Nat → Option (Nat × Nat)
  | _, [], _ => fun _ _ => none
  | i, .ref _ _ :: l, x :: bs => fun s r => if s = handed + i ∧ r = 0 then some x else handG (i + 1) l bs s r
  | _, .ref _ _ :: _, [] => fun _ _ => none
  | i, .row _ _ _ _ :: l, x :: bs => fun s r => if s = handed + i ∧ r = 0 then some x else handG (i + 1) l bs s r
  | _, .row _ _ _ _ :: _, [] => fun _ _ => none
  | i, _ :: l, bs => handG (i + 1) l bs

theorem handG_at {w : World} {pr : Nat → Nat → Prop} : ∀ {l : List AV} {vals : List Value} {bs : List (Nat × Nat)} (i : Nat), HandR w pr l vals bs → ∀ s r x, handG i l bs s r = some x → r = 0 ∧ handed + i ≤ s ∧ x ∈ bs ∧ ∃ cs, get (paramsB i l) s = some (0, cs)
  | [], vals, bs, i, h, s, r, x, e => by simp [handG] at e
  | y :: l, vals, bs, i, h, s, r, x, e => by
    cases y with
    | ref o cs =>
      simp only [HandR] at h
      obtain ⟨vs', b, n, bs', rfl, rfl, _, _, _, _, k⟩ := h
      simp only [handG] at e
      split at e
      · rename_i hs
        simp only [Option.some.injEq] at e
        subst e
        exact ⟨hs.2, by omega, by simp, cs, by simp [paramsB, get, hs.1]⟩
      · obtain ⟨h1, h2, h3, cs2, h4⟩ := handG_at (i + 1) k s r x e
        refine ⟨h1, by omega, by simp [h3], cs2, ?_⟩
        simp only [paramsB, get]
        rw [if_neg (by omega)]
        exact h4
    | row kk ag mm cs =>
      simp only [HandR] at h
      obtain ⟨vs', b, n, bs', ⟨cap, rfl, hcap⟩, rfl, _, _, _, _, k⟩ := h
      simp only [handG] at e
      split at e
      · rename_i hs
        simp only [Option.some.injEq] at e
        subst e
        exact ⟨hs.2, by omega, by simp, cs, by simp [paramsB, get, hs.1]⟩
      · obtain ⟨h1, h2, h3, cs2, h4⟩ := handG_at (i + 1) k s r x e
        refine ⟨h1, by omega, by simp [h3], cs2, ?_⟩
        simp only [paramsB, get]
        rw [if_neg (by omega)]
        exact h4
    | _ =>
      simp only [HandR] at h
      obtain ⟨u, vs', rfl, _, k⟩ := h
      simp only [handG] at e
      obtain ⟨h1, h2, h3, cs2, h4⟩ := handG_at (i + 1) k s r x e
      exact ⟨h1, by omega, h3, cs2, by simpa only [paramsB] using h4⟩
theorem paramsB_at {w : World} {pr : Nat → Nat → Prop} : ∀ {l : List AV} {vals : List Value} {bs : List (Nat × Nat)} (i : Nat), HandR w pr l vals bs → ∀ s r cs, get (paramsB i l) s = some (r, cs) →
    r = 0 ∧ handed + i ≤ s ∧ ∃ b n, handG i l bs s 0 = some (b, n) ∧ (b, n) ∈ bs ∧ Lies w (pubG pr) cs b n ∧ deadC cs = false ∧ ∀ o, ¬ pr b o
  | [], vals, bs, i, h, s, r, cs, e => by simp [paramsB, get] at e
  | y :: l, vals, bs, i, h, s, r, cs, e => by
    cases y with
    | ref o cs0 =>
      simp only [HandR] at h
      obtain ⟨vs', b, n, bs', rfl, rfl, h1, h2, h3, _, k⟩ := h
      simp only [paramsB, get] at e
      split at e
      · rename_i hs
        simp only [Option.some.injEq, Prod.mk.injEq] at e
        obtain ⟨rfl, rfl⟩ := e
        exact ⟨rfl, by omega, b, n, by simp [handG, hs], by simp, h1, h2, h3⟩
      · rename_i hs
        obtain ⟨k1, k2, b2, n2, k3, k4, k5⟩ := paramsB_at (i + 1) k s r cs e
        refine ⟨k1, by omega, b2, n2, ?_, by simp [k4], k5⟩
        simp only [handG]
        rw [if_neg (fun h => hs h.1.symm)]
        exact k3
    | row kk ag mm cs0 =>
      simp only [HandR] at h
      obtain ⟨vs', b, n, bs', ⟨cap, rfl, hcap⟩, rfl, h1, h2, h3, _, k⟩ := h
      simp only [paramsB, get] at e
      split at e
      · rename_i hs
        simp only [Option.some.injEq, Prod.mk.injEq] at e
        obtain ⟨rfl, rfl⟩ := e
        exact ⟨rfl, by omega, b, n, by simp [handG, hs], by simp, h1, h2, h3⟩
      · rename_i hs
        obtain ⟨k1, k2, b2, n2, k3, k4, k5⟩ := paramsB_at (i + 1) k s r cs e
        refine ⟨k1, by omega, b2, n2, ?_, by simp [k4], k5⟩
        simp only [handG]
        rw [if_neg (fun h => hs h.1.symm)]
        exact k3
    | _ =>
      simp only [HandR] at h
      obtain ⟨u, vs', rfl, _, k⟩ := h
      simp only [paramsB] at e
      obtain ⟨k1, k2, b2, n2, k3, k4⟩ := paramsB_at (i + 1) k s r cs e
      exact ⟨k1, by omega, b2, n2, by simpa only [handG] using k3, k4⟩
theorem handG_inj {w : World} {pr : Nat → Nat → Prop} : ∀ {l : List AV} {vals : List Value} {bs : List (Nat × Nat)} (i : Nat), HandR w pr l vals bs → ∀ s s' b n n', handG i l bs s 0 = some (b, n) → handG i l bs s' 0 = some (b, n') → s = s'
  | [], vals, bs, i, h, s, s', b, n, n', e, e' => by simp [handG] at e
  | y :: l, vals, bs, i, h, s, s', b, n, n', e, e' => by
    cases y with
    | ref o cs0 =>
      simp only [HandR] at h
      obtain ⟨vs', b0, n0, bs', rfl, rfl, h1, h2, h3, h4, k⟩ := h
      simp only [handG, and_true] at e e'
      split at e <;> split at e'
      · rename_i h5 h6; exact h5.trans h6.symm
      · simp only [Option.some.injEq, Prod.mk.injEq] at e
        obtain ⟨rfl, rfl⟩ := e
        exact absurd (handG_at (i + 1) k s' 0 _ e').2.2.1 (h4 n')
      · simp only [Option.some.injEq, Prod.mk.injEq] at e'
        obtain ⟨rfl, rfl⟩ := e'
        exact absurd (handG_at (i + 1) k s 0 _ e).2.2.1 (h4 n)
      · exact handG_inj (i + 1) k s s' b n n' e e'
    | row kk ag mm cs0 =>
      simp only [HandR] at h
      obtain ⟨vs', b0, n0, bs', ⟨cap, rfl, hcap⟩, rfl, h1, h2, h3, h4, k⟩ := h
      simp only [handG, and_true] at e e'
      split at e <;> split at e'
      · rename_i h5 h6; exact h5.trans h6.symm
      · simp only [Option.some.injEq, Prod.mk.injEq] at e
        obtain ⟨rfl, rfl⟩ := e
        exact absurd (handG_at (i + 1) k s' 0 _ e').2.2.1 (h4 n')
      · simp only [Option.some.injEq, Prod.mk.injEq] at e'
        obtain ⟨rfl, rfl⟩ := e'
        exact absurd (handG_at (i + 1) k s 0 _ e).2.2.1 (h4 n)
      · exact handG_inj (i + 1) k s s' b n n' e e'
    | _ =>
      simp only [HandR] at h
      obtain ⟨u, vs', rfl, _, k⟩ := h
      simp only [handG] at e e'
      exact handG_inj (i + 1) k s s' b n n' e e'
theorem params_rd {w : World} {pr : Nat → Nat → Prop} {g : Gh} (hpr : g.pr = pr) : ∀ {l : List AV} {vals : List Value} {bs : List (Nat × Nat)} (i : Nat), HandR w pr l vals bs → (∀ s x, handG i l bs s 0 = some x → g.bx s 0 = some x) → ∀ j x, get (params i l) j = some x →
    i ≤ j ∧ ∃ u, vals[j - i]? = some u ∧ Rd w g x u
  | [], vals, bs, i, h, hg, j, x, e => by simp [params, get] at e
  | y :: l, vals, bs, i, h, hg, j, x, e => by
    have next : ∀ {v : Value} {vs' : List Value} {bs' : List (Nat × Nat)}, HandR w pr l vs' bs' → (∀ s x, handG (i + 1) l bs' s 0 = some x → g.bx s 0 = some x) → get (params (i + 1) l) j = some x → i ≤ j ∧ ∃ u, (v :: vs')[j - i]? = some u ∧ Rd w g x u := by
      intro v vs' bs' k hg' e
      obtain ⟨h1, u, h2, h3⟩ := params_rd hpr (i + 1) k hg' j x e
      refine ⟨by omega, u, ?_, h3⟩
      obtain ⟨m, hm⟩ : ∃ m, j - i = m + 1 := ⟨j - i - 1, by omega⟩
      rw [hm, List.getElem?_cons_succ, ← h2]
      congr 1
      omega
    cases y with
    | ref o cs0 =>
      simp only [HandR] at h
      obtain ⟨vs', b0, n0, bs', rfl, rfl, h1, h2, h3, h4, k⟩ := h
      simp only [params, get] at e
      split at e
      · rename_i hij
        subst hij
        simp only [Option.some.injEq] at e
        subst e
        refine ⟨Nat.le_refl _, .pointer (some ⟨b0, o, none⟩), by simp, ?_⟩
        simp only [Rd]
        exact ⟨b0, n0, hg _ _ (by simp [handG]), rfl⟩
      · refine next k (fun s x hs => hg s x ?_) e
        simp only [handG]
        rw [if_neg (fun h => by have := (handG_at (i + 1) k s 0 x hs).2.1; omega)]
        exact hs
    | row kk ag mm cs0 =>
      simp only [HandR] at h
      obtain ⟨vs', b0, n0, bs', ⟨cap, rfl, hcap⟩, rfl, h1, h2, h3, h4, k⟩ := h
      simp only [params, get] at e
      split at e
      · rename_i hij
        subst hij
        simp only [Option.some.injEq] at e
        subst e
        refine ⟨Nat.le_refl _, .slice (some ⟨b0, 0, none⟩) mm cap, by simp, ?_⟩
        split
        · rename_i hi
          simp only [Rd]
          exact ⟨b0, cap, by rw [← hcap.1]; exact hg _ _ (by simp [handG]), hcap.2.1, rfl, fun h => by unfold handed at h; omega⟩
        · simp only [Rd]
      · refine next k (fun s x hs => hg s x ?_) e
        simp only [handG]
        rw [if_neg (fun h => by have := (handG_at (i + 1) k s 0 x hs).2.1; omega)]
        exact hs
    | _ =>
      simp only [HandR] at h
      obtain ⟨u, vs', rfl, hu, k⟩ := h
      simp only [params, get] at e
      split at e
      · rename_i hij
        subst hij
        simp only [Option.some.injEq] at e
        subst e
        refine ⟨Nat.le_refl _, u, by simp, ?_⟩
        exact Rd.later _ ⟨fun _ _ _ => rfl, fun b o h => by rw [hpr]; exact h, fun _ _ _ e => by simp [pubG] at e, fun _ _ _ e => by simp [pubG] at e, fun _ _ h => h⟩ hu
      · exact next k (fun s x hs => hg s x (by simpa only [handG] using hs)) e

theorem refsOut_ok {pr' : Nat → Nat → Prop} {bx : Bx} {pm : Pm} {w' : World} {g' : Gh} (hM : Mem X w0 pr0 bx pm w' g') : ∀ {l : List AV} {vals : List Value} {bs : List (Nat × Nat)} (i : Nat) {rs : List (List AV)}, HandR w pr' l vals bs → (∀ s x, handG i l bs s 0 = some x → g'.bx s 0 = some x) → refsOut bx i l = some rs →
    BackR w' g'.pr rs bs
  | [], vals, bs, i, rs, h, hg, e => by
    simp only [HandR] at h
    obtain ⟨_, rfl⟩ := h
    simp only [refsOut, Option.some.injEq] at e
    subst e
    trivial
  | y :: l, vals, bs, i, rs, h, hg, e => by
    cases y with
    | ref o cs0 =>
      simp only [HandR] at h
      obtain ⟨vs', b0, n0, bs', rfl, rfl, h1, h2, h3, h4, k⟩ := h
      simp only [refsOut] at e
      split at e
      · rename_i cs' r hb hr
        split at e
        · rename_i hc
          simp only [Option.some.injEq] at e
          subst e
          have hgx : g'.bx (handed + i) 0 = some (b0, n0) := hg _ _ (by simp [handG])
          obtain ⟨b2, n2, us, cur, T, k1, k2, k3, k4, k5, k6⟩ := hM.box _ _ _ hb hc.1
          rw [hgx] at k1
          simp only [Option.some.injEq, Prod.mk.injEq] at k1
          obtain ⟨rfl, rfl⟩ := k1
          refine ⟨⟨us, cur, T, k2, k3, k4, RdL.pubC k5, k6⟩, refsOut_ok hM (i + 1) k (fun s x hs => hg s x ?_) hr⟩
          simp only [handG]
          rw [if_neg (fun h => by have := (handG_at (i + 1) k s 0 x hs).2.1; omega)]
          exact hs
        · simp at e
      · simp at e
    | row kk ag mm cs0 =>
      simp only [HandR] at h
      obtain ⟨vs', b0, n0, bs', ⟨cap, rfl, hcap⟩, rfl, h1, h2, h3, h4, k⟩ := h
      simp only [refsOut] at e
      split at e
      · rename_i cs' r hb hr
        split at e
        · rename_i hc
          simp only [Option.some.injEq] at e
          subst e
          have hgx : g'.bx (handed + i) 0 = some (b0, n0) := hg _ _ (by simp [handG])
          obtain ⟨b2, n2, us, cur, T, k1, k2, k3, k4, k5, k6⟩ := hM.box _ _ _ hb hc.1
          rw [hgx] at k1
          simp only [Option.some.injEq, Prod.mk.injEq] at k1
          obtain ⟨rfl, rfl⟩ := k1
          refine ⟨⟨us, cur, T, k2, k3, k4, RdL.pubC k5, k6⟩, refsOut_ok hM (i + 1) k (fun s x hs => hg s x ?_) hr⟩
          simp only [handG]
          rw [if_neg (fun h => by have := (handG_at (i + 1) k s 0 x hs).2.1; omega)]
          exact hs
        · simp at e
      · simp at e
    | _ =>
      simp only [HandR] at h
      obtain ⟨u, vs', rfl, hu, k⟩ := h
      simp only [refsOut] at e
      exact refsOut_ok hM (i + 1) k (fun s x hs => hg s x (by simpa only [handG] using hs)) e
theorem BackR.mono {w : World} {pr pr' : Nat → Nat → Prop} (h : ∀ b o, pr b o → pr' b o) : ∀ {rs : List (List AV)} {bs : List (Nat × Nat)}, BackR w pr rs bs → BackR w pr' rs bs
  | [], [], _ => trivial
  | _ :: _, (_, _) :: _, ⟨h1, h2⟩ => ⟨h1.later (Later.pubG h), BackR.mono h h2⟩
  | [], _ :: _, h' => h'.elim
  | _ :: _, [], h' => h'.elim

theorem noRefs_bs {w : World} {pr : Nat → Nat → Prop} : ∀ {l : List AV} {vals : List Value} {bs : List (Nat × Nat)}, HandR w pr l vals bs → noRefs l = true → bs = []
  | [], _, _, h, _ => h.2
  | y :: l, vals, bs, h, hn => by
    cases y with
    | ref o cs => simp [noRefs] at hn
    | row k ag n cs => simp [noRefs] at hn
    | _ =>
      simp only [HandR] at h
      obtain ⟨u, vs', rfl, hu, k⟩ := h
      exact noRefs_bs k (by simpa [noRefs] using hn)

/-- A function that begins. -/
theorem start_inv {w : World} {pr : Nat → Nat → Prop} {args : List AV} {vals : List Value} {bs : List (Nat × Nat)} (hpr : ∀ b o, pr b o → b < w.heap.size) (hh : HandR w pr args vals bs) (nt : Nat) :
    Inv (inB bs) nt w pr ⟨ofL (params 0 args), ofL (paramsB 0 args), none', none⟩ { tmps := vals.toArray ++ Array.replicate (nt - vals.toArray.size) undef, defers := [] } w ⟨pr, fun _ _ => none, handG 0 args bs⟩ := by
  have hLB : ∀ s b n, LB (ofL (paramsB 0 args)) ⟨pr, fun _ _ => none, handG 0 args bs⟩ s b n → ∃ cs, get (paramsB 0 args) s = some (0, cs) ∧ handG 0 args bs s 0 = some (b, n) := by
    rintro s b n ⟨r, cs, h1, h2, h3⟩
    obtain ⟨rfl, _⟩ := paramsB_at 0 hh s r cs h1
    exact ⟨cs, h1, h3⟩
  have hNM : ∀ s r l, ofL (paramsB 0 args) s = some (r, mapC l) → False := by
    intro s r l e
    obtain ⟨_, _, b, n, _, _, ⟨us, cur, T, _, _, _, h6, h7⟩, _⟩ := paramsB_at 0 hh s r _ e
    exact not_map h6 h7 l rfl
  refine ⟨fun i x hx => ?_, ⟨BelX.refl _ _, fun _ _ h => h, fun _ _ h => .inl h, hpr, fun s r x e => ?_, fun s b n e => ?_, fun s s' b n n' e e' => ?_, fun s r cs e hd => ?_, fun _ _ _ e => by simp at e, fun _ _ e => by simp [none'] at e, fun _ _ _ _ _ e => by simp [none'] at e, fun _ _ _ _ _ _ _ _ _ e => by simp [none'] at e, fun s r l e => (hNM s r l e).elim, fun s _ r _ l _ _ e => (hNM s r l e).elim⟩, by simp; omega, rfl⟩
  · obtain ⟨_, u, hu, hru⟩ := params_rd (g := ⟨pr, fun _ _ => none, handG 0 args bs⟩) rfl 0 hh (fun s x h => h) i x hx
    simp only [Nat.sub_zero] at hu
    refine ⟨u, ?_, hru⟩
    have hlt := (List.getElem?_eq_some_iff.1 hu).1
    rw [Array.getElem?_append_left (by simpa using hlt)]
    simpa using hu
  · obtain ⟨rfl, _, _, cs, h⟩ := handG_at 0 hh s r x e
    exact ⟨0, cs, h, Nat.le_refl _⟩
  · obtain ⟨cs, h1, h2⟩ := hLB s b n e
    obtain ⟨_, h3, b2, n2, h4, h5, ⟨us, cur, T, h6, _⟩, _, h8⟩ := paramsB_at 0 hh s 0 cs h1
    rw [h2] at h4
    simp only [Option.some.injEq, Prod.mk.injEq] at h4
    obtain ⟨rfl, rfl⟩ := h4
    exact ⟨.inr ⟨by omega, n, h5⟩, heap_lt h6, h8⟩
  · obtain ⟨_, _, h2⟩ := hLB s b n e
    obtain ⟨_, _, h4⟩ := hLB s' b n' e'
    exact handG_inj 0 hh s s' b n n' h2 h4
  · obtain ⟨rfl, _, b, n, h1, h2, ⟨us, cur, T, h3, h4, h5, h6, h7⟩, _⟩ := paramsB_at 0 hh s r cs e
    exact ⟨b, n, us, cur, T, h1, h3, h4, h5, RdL.later (g := pubG pr) (g' := ⟨pr, fun _ _ => none, handG 0 args bs⟩) cs ⟨fun _ _ _ => rfl, fun _ _ h => h, fun _ _ _ e => by simp [pubG] at e, fun _ _ _ e => by simp [pubG] at e, fun _ _ h => h⟩ h6, h7⟩

theorem invoke_run {P : Program} {f : Nat} (h : Enters P f) (cv : Array Value) (w : World) : (invoke (.fn (.func f) cv) #[]).run P w = .ok (.enter f cv) w := by
  simp [invoke, enter_run h]

/-- A function that ends. -/
theorem end_ok (hD : Sound C D) (hC : C.Fine) {w : World} {pr : Nat → Nat → Prop} {args : List AV} {vals : List Value} {bs : List (Nat × Nat)} (hG0 : C.G w) (hX : ∀ b, inB bs b → C.B ≤ b) (hh : HandR w pr args vals bs) {fn : Func} {rs : List RV} {grid : Bool} (hrs : resL C.P grid fn.results.toList = some rs)
    {ex : Ex} {st' : St} {r : AV} (hr : fin D args rs ex st' = some r) {a' : Act} {w' : World} {g' : Gh} (hE : EnvR st'.env a' w' g') (hM : Mem (inB bs) w pr st'.bx st'.pm w' g') (hdf : DfR w' g' st'.df a'.defers)
    (hgx : ∀ s x, handG 0 args bs s 0 = some x → g'.bx s 0 = some x) {u : FrameMode} (hu : (ex = .pan ∧ ∃ v, C.od v ∧ u = .panicking [{ v := v, recovered := false }]) ∨ ((ex = .ret ∨ ex = .nrm) ∧ u = .returning)) :
    Leaves C.P fn a'.tmps (Post C w pr bs r) a'.defers u w' := by
  unfold fin at hr
  obtain ⟨⟨pan, st2⟩, hset, hfin⟩ := Option.bind_eq_some_iff.1 hr
  have toS : ∃ b, settleF D b st' = some (pan, st2) ∧ (b = true → ∃ v, C.od v ∧ u = .panicking [{ v := v, recovered := false }]) ∧ (b = false → u = .returning) := by
    rcases hu with ⟨rfl, h⟩ | ⟨rfl | rfl, h⟩
    · exact ⟨true, hset, fun _ => h, fun e => by simp at e⟩
    · exact ⟨false, hset, fun e => by simp at e, fun _ => h⟩
    · exact ⟨false, hset, fun e => by simp at e, fun _ => h⟩
  obtain ⟨b, hset, hb1, hb2⟩ := toS
  -- the answer, read off
  have answer : ∀ {st2 : St} {w2 : World} {g2 : Gh}, EnvR st2.env a' w2 g2 → Mem (inB bs) w pr st2.bx st2.pm w2 g2 → (∀ s x, handG 0 args bs s 0 = some x → g2.bx s 0 = some x) → finK args rs (false, st2) = some r →
      ∃ v, (results fn a'.tmps).run C.P w2 = .ok v w2 ∧ Post C w pr bs r (.returned v) w2 := by
    intro st2 w2 g2 hE2 hM2 hg2 hf
    simp only [finK] at hf
    split at hf
    · rename_i v rs' hv hrs'
      obtain ⟨val, bx', Q, k1, k2, k3⟩ := tell_ok hE2 hM2 hrs hv
      have hA : Aft w w2 pr (g2.more Q).pr (inB bs) := ⟨k2.below, k2.old, k2.prn, k2.prlt⟩
      have hB := (refsOut_ok hM2 0 hh hg2 hrs').mono (pr' := (g2.more Q).pr) (fun b o h => .inl h)
      split at hf
      · simp only [Option.some.injEq] at hf
        subst hf
        exact ⟨val, k1, post_mk (tell_plain hv) hA k3⟩
      · simp only [Option.some.injEq] at hf
        subst hf
        exact ⟨val, k1, _, hA, k3, hB⟩
    · simp at hf
  unfold settleF at hset
  split at hset
  · rename_i hd
    simp only [Option.some.injEq, Prod.mk.injEq] at hset
    obtain ⟨rfl, rfl⟩ := hset
    have hdef : a'.defers = [] := by rw [hd] at hdf; exact hdf
    rw [hdef]
    cases b with
    | false =>
      rw [hb2 rfl]
      exact answer hE hM hgx hfin
    | true =>
      obtain ⟨v, hv, rfl⟩ := hb1 rfl
      simp only [finK] at hfin
      obtain ⟨rs', hrs', rfl⟩ := Option.map_eq_some_iff.1 hfin
      show Post C w pr bs _ (.panicked _) w'
      exact ⟨v, hv, rfl, g'.pr, ⟨hM.below, hM.old, hM.prn, hM.prlt⟩, refsOut_ok hM 0 hh hgx hrs'⟩
  · rename_i f caps hd
    split at hset
    · rename_i l ts hp
      unfold rcvK at hset
      split at hset
      · rename_i rs0 hDr
        obtain ⟨bl, hbl, hset⟩ := Option.map_eq_some_iff.1 hset
        simp only [Prod.mk.injEq] at hset
        obtain ⟨rfl, rfl⟩ := hset
        rw [hd] at hdf
        obtain ⟨cv, hdef, hcv⟩ := hdf
        have hnd := passL_nodup hp
        obtain ⟨Q, m, q, hpr⟩ := pass_ok hM hp hcv
        have hpr' : PassR w' (g'.more Q).pr st'.bx (g'.more Q).bx l cv.toList ts := hpr
        have hhand := pass_hand m hpr' hnd (fun s v n hs => updL_ne _ _ _ (fun z hz e => by
          obtain ⟨hz1, _⟩ := pubs_mem hz
          have hg := List.pairwise_iff_getElem.1 hnd
          obtain ⟨i, hi, hii⟩ := List.getElem_of_mem hz1
          obtain ⟨j, hj, hjj⟩ := List.getElem_of_mem hs
          rcases Nat.lt_trichotomy i j with hlt | heq | hgt
          · have := hg i j hi hj hlt
            rw [hii, hjj] at this
            exact this e
          · subst heq
            rw [hii] at hjj
            simp at hjj
          · have := hg j i hj hi hgt
            rw [hii, hjj] at this
            exact this e.symm))
        have hbB : ∀ b n, (b, n) ∈ bsOf (g'.more Q).bx ts → C.B ≤ b := by
          intro b n hb
          obtain ⟨s, v, k, h1, h2⟩ := bsOf_mem hb
          obtain ⟨cs, h3, h4⟩ := hpr'.ref_mem s v _ h1
          exact hM.lbB hC hX hG0 (s := s) (n := n) ⟨v, cs, h3, (h4 k rfl).1, h2⟩
        have hs : SaysRcv C f (.bool b :: l) rs0 := hD f _ _ hDr
        obtain ⟨hen, hcall⟩ := hs
        rw [hdef]
        have hcv0 : cv.toList.toArray = cv := by simp
        have hcalls := hcall w' (g'.more Q).pr cv.toList _ u (hM.gNow hC hX hG0) m.prlt hbB hhand hb1 hb2
        rw [hcv0] at hcalls
        refine leaves_cons ?_ (invoke_run hen cv w') (hcalls.mono fun en u' w2 hp2 => ?_)
        · cases b with
          | false => rw [hb2 rfl]; simp
          | true => obtain ⟨v, _, rfl⟩ := hb1 rfl; simp
        · obtain ⟨v, rfl, hset2, pr2, haft, hback⟩ := hp2
          obtain ⟨m2, q2, _⟩ := come_ok m hnd hpr' hbl haft hback
          simp only
          rw [hset2]
          exact answer (st2 := { st' with bx := updL st'.bx bl }) (hE.later (q.trans q2)) m2 (fun s x hx => (q.trans q2).bx _ _ _ (hgx s x hx)) hfin
      · simp at hset
    · simp at hset

theorem fn_ok (hmix : C.P.follows .mixedOrders = true) (hD : Sound C D) (hC : C.Fine) {f : Nat} {fn : Func} {ks : List (List Nat)} {af : AFunc} (hf : C.P.funcs[f]? = some fn) (hc : cmpF C.P K fn ks = some af) {n : Nat} {args : List AV} {r : AV}
    (hr : callF D n af args = some r) : Says C f args r := by
  unfold cmpF at hc
  split at hc
  · rename_i c rs hb hrs
    split at hc
    · rename_i c' hcc
      split at hc
      · rename_i hnm
        simp only [Option.some.injEq] at hc
        subst hc
        unfold callF at hr
        split at hr
        · obtain ⟨⟨ex, st'⟩, hrun, hfin⟩ := Option.bind_eq_some_iff.1 hr
          have hsay : SaysCall C f args r := by
            refine ⟨⟨fn, hf, by rw [hb]; rfl, hnm⟩, fun w pr vals bs hGw hpr hB hh => ?_⟩
            refine calls_of_wp_defers hf hb ?_
            have hX : ∀ b, inB bs b → C.B ≤ b := fun b ⟨n, hn⟩ => hB b n hn
            have hI := start_inv hpr hh fn.ntmps
            refine code_ok hmix hD hC hX hGw c ks c' [] hcc n _ ex st' hrun _ w _ hI _ ?_
            have gx : ∀ {w' : World} {g' : Gh}, Later w ⟨pr, fun _ _ => none, handG 0 args bs⟩ w' g' → ∀ s x, handG 0 args bs s 0 = some x → g'.bx s 0 = some x := fun hl s x h => hl.bx _ _ _ h
            cases ex with
            | nrm => exact fun a' w' g' hI' hl' => end_ok hD hC hGw hX hh hrs hfin hI'.env hI'.mem hI'.defers (gx hl') (.inr ⟨.inr rfl, rfl⟩)
            | ret => exact fun a' w' g' hI' hl' => end_ok hD hC hGw hX hh hrs hfin hI'.env hI'.mem hI'.defers (gx hl') (.inr ⟨.inl rfl, rfl⟩)
            | pan => exact fun a' w' g' v hv hI' hl' => end_ok hD hC hGw hX hh hrs hfin hI'.env hI'.mem hI'.defers (gx hl') (.inl ⟨rfl, v, hv, rfl⟩)
            | exit id => simp [fin, settle1] at hfin
          unfold fin at hfin
          obtain ⟨⟨pan, st2⟩, _, hfk⟩ := Option.bind_eq_some_iff.1 hfin
          cases pan with
          | true =>
            simp only [finK] at hfk
            obtain ⟨rs', _, rfl⟩ := Option.map_eq_some_iff.1 hfk
            exact hsay
          | false =>
            simp only [finK] at hfk
            split at hfk
            · rename_i v rs' hv _
              split at hfk
              · simp only [Option.some.injEq] at hfk
                subst hfk
                exact says_mk (tell_plain hv) hsay
              · simp only [Option.some.injEq] at hfk
                subst hfk
                exact hsay
            · simp at hfk
        · simp at hr
      · simp at hc
    · simp at hc
  · simp at hc

/-- The whole: what the plain program answers, the program answers. -/
structure Fits (C : Cx) (S : Sys) : Prop where
  mix : C.P.follows .mixedOrders = true
  fine : C.Fine
  ext : ∀ f F, S.ext f = some F → ∀ args r, F args = some r → Says C f args r
  tbl : ∀ f af, S.tbl f = some af → ∃ K fn ks, C.P.funcs[f]? = some fn ∧ cmpF C.P K fn ks = some af

theorem Fits.sound {S : Sys} (h : Fits C S) : ∀ n, Sound C (T S n) := by
  intro n
  induction n with
  | zero => intro f args r hr; simp [T] at hr
  | succ n ih =>
    intro f args r hr
    simp only [T] at hr
    split at hr
    · rename_i F hF
      exact h.ext f F hF args r hr
    · split at hr
      · rename_i af haf
        obtain ⟨K, fn, ks, h1, h2⟩ := h.tbl f af haf
        exact fn_ok h.mix ih h.fine h1 h2 hr
      · simp at hr
theorem Fits.den {S : Sys} (h : Fits C S) {f : Nat} {args : List AV} {r : AV} (hd : Den S f args = some r) : Says C f args r := by
  obtain ⟨n, hn⟩ := (Den_iff S f args r).1 hd
  exact h.sound n f args r hn
end
end Go.Proofs.YtpkeiffclipjmaaGreatDoor.Rx
