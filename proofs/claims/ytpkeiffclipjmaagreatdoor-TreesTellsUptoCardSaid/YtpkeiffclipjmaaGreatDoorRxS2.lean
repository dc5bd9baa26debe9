/-
  Rx, part S2: every operation that is told does what its plain one does.
-/
import Derived.Test.YtpkeiffclipjmaaGreatDoorRxS
namespace Go.Proofs.YtpkeiffclipjmaaGreatDoor.Rx
open Go Go.RowKit
set_option linter.unusedSimpArgs false
section
variable {C : Cx} {X : Nat → Prop} {w0 w : World} {pr0 : Nat → Nat → Prop} {bx : Bx} {pm : Pm} {g : Gh} {e : Env} {a : Act} {D : Fun}

theorem Mem.gNow (hM : Mem X w0 pr0 bx pm w g) (hC : C.Fine) (hX : ∀ b, X b → C.B ≤ b) (hG0 : C.G w0) : C.G w := hC.keep w0 w hG0 (hM.below.mono hX)
theorem Mem.lbB (hM : Mem X w0 pr0 bx pm w g) (hC : C.Fine) (hX : ∀ b, X b → C.B ≤ b) (hG0 : C.G w0) {s b n : Nat} (h : LB bx g s b n) : C.B ≤ b := by
  have := hC.base w0 hG0
  rcases (hM.bxb s b n h).1 with h1 | h1
  · omega
  · exact hX b h1.2

theorem comeB_nil {gb : Nat → Nat → Option (Nat × Nat)} : ∀ {ts : Ts} {b : List (Nat × Nat × List AV)}, comeB ts [] = some b → bsOf gb ts = []
  | [], _, _ => rfl
  | (s, v, none) :: ts, b, h => by
    simp only [comeB] at h
    obtain ⟨b', h1, _⟩ := Option.map_eq_some_iff.1 h
    simp only [bsOf]
    exact comeB_nil h1
  | (s, v, some n) :: ts, b, h => by simp [comeB] at h
theorem says_plain {f : Nat} {args : List AV} {r : AV} (h : plainR r = true) (hs : Says C f args r) : SaysCall C f args r := by
  cases r <;> first | exact hs | simp [plainR] at h
theorem post_plain {pr : Nat → Nat → Prop} {bs : List (Nat × Nat)} {r : AV} (h : plainR r = true) {en : Ending} {w' : World} (hp : Post C w pr bs r en w') : ∃ v pr', en = .returned v ∧ Aft w w' pr pr' (inB bs) ∧ Rd w' (pubG pr') r v := by
  cases en with
  | returned v => cases r <;> first | (obtain ⟨pr', h1, h2⟩ := hp; exact ⟨v, pr', rfl, h1, h2⟩) | simp [plainR] at h
  | panicked ch => cases r <;> first | exact hp.elim | simp [plainR] at h
  | outgrown => cases r <;> first | exact hp.elim | simp [plainR] at h

/-- What is left of a call, for its caller. -/
def Left (C : Cx) (X : Nat → Prop) (w0 : World) (pr0 : Nat → Nat → Prop) (bx : Bx) (pm : Pm) (w : World) (g : Gh) (ef : Eff) : Ending → World → Prop
  | .returned v, w' => ef.pan = false ∧ ∃ g', Rd w' g' ef.v v ∧ Later w g w' g' ∧ Mem X w0 pr0 (updL bx ef.b) (updL pm ef.p) w' g'
  | .panicked ch, w' => ef.pan = true ∧ ∃ v g', C.od v ∧ ch = [{ v := v, recovered := false }] ∧ Later w g w' g' ∧ Mem X w0 pr0 (updL bx ef.b) (updL pm ef.p) w' g'
  | .outgrown, _ => False

theorem callE_ok (hD : Sound C D) (hC : C.Fine) (hX : ∀ b, X b → C.B ≤ b) (hG0 : C.G w0) (hM : Mem X w0 pr0 bx pm w g) {f : Nat} {l : List AV} {vals : List Value} (hr : RdL w g l vals) {ef : Eff} (h : callE D bx f l = some ef) :
    Enters C.P f ∧ Calls C.P f vals.toArray w (Left C X w0 pr0 bx pm w g ef) := by
  unfold callE at h
  split at h
  · rename_i l' ts hp
    obtain ⟨r, hDr, hcr⟩ := Option.bind_eq_some_iff.1 h
    have hnd := passL_nodup hp
    obtain ⟨Q, m, q, hpr⟩ := pass_ok hM hp hr
    have hpr' : PassR w (g.more Q).pr bx (g.more Q).bx l' vals ts := hpr
    have hhand := pass_hand m hpr' hnd (fun s v n hs => updL_ne _ _ _ (fun z hz e => by
      obtain ⟨hz1, _⟩ := pubs_mem hz
      have hg := List.pairwise_iff_getElem.1 hnd
      obtain ⟨i, hi, hii⟩ := List.getElem_of_mem hz1
      obtain ⟨j, hj, hjj⟩ := List.getElem_of_mem hs
      rcases Nat.lt_trichotomy i j with hlt | heq | hgt
      · have := hg i j hi hj hlt
        rw [hii, hjj] at this
        exact this e
      · subst heq
        rw [hii] at hjj
        simp at hjj
      · have := hg j i hj hi hgt
        rw [hii, hjj] at this
        exact this e.symm))
    have hbB : ∀ b n, (b, n) ∈ bsOf (g.more Q).bx ts → C.B ≤ b := by
      intro b n hb
      obtain ⟨s, v, k, h1, h2⟩ := bsOf_mem hb
      obtain ⟨cs, h3, h4⟩ := hpr'.ref_mem s v _ h1
      exact hM.lbB hC hX hG0 (s := s) (n := n) ⟨v, cs, h3, (h4 k rfl).1, h2⟩
    have hG := hM.gNow hC hX hG0
    have back : ∀ {rs : List (List AV)} {bl : List (Nat × Nat × List AV)} {w' : World} {pr' : Nat → Nat → Prop}, comeB ts rs = some bl → Aft w w' (g.more Q).pr pr' (inB (bsOf (g.more Q).bx ts)) → BackR w' pr' rs (bsOf (g.more Q).bx ts) →
        ∃ g', Later w g w' g' ∧ Later w' (pubG pr') w' g' ∧ Mem X w0 pr0 (updL bx bl) pm w' g' := by
      intro rs bl w' pr' hc ha hb
      obtain ⟨m1, q1, q2⟩ := come_ok m hnd hpr' hc ha hb
      exact ⟨_, q.trans q1, q2, m1⟩
    have hs := hD f l' r hDr
    unfold comeR at hcr
    split at hcr
    · rename_i pan v rs
      obtain ⟨bl, hbl, rfl⟩ := Option.map_eq_some_iff.1 hcr
      obtain ⟨hen, hcall⟩ : SaysCall C f l' (.out pan v rs) := hs
      refine ⟨hen, (hcall w _ vals _ hG m.prlt hbB hhand).mono fun en w' hp => ?_⟩
      cases pan with
      | true =>
        cases en with
        | returned u => exact hp.elim
        | outgrown => exact hp.elim
        | panicked ch =>
          obtain ⟨u, h1, h2, pr', h3, h4⟩ := hp
          obtain ⟨g', k1, k2, k3⟩ := back hbl h3 h4
          exact ⟨rfl, u, g', h1, h2, k1, k3⟩
      | false =>
        cases en with
        | returned u =>
          obtain ⟨pr', h3, h5, h4⟩ := hp
          obtain ⟨g', k1, k2, k3⟩ := back hbl h3 h4
          exact ⟨rfl, g', Rd.later _ k2 h5, k1, k3⟩
        | outgrown => exact hp.elim
        | panicked ch => exact hp.elim
    · split at hcr
      · rename_i hpl
        obtain ⟨bl, hbl, rfl⟩ := Option.map_eq_some_iff.1 hcr
        obtain ⟨hen, hcall⟩ := says_plain hpl hs
        refine ⟨hen, (hcall w _ vals _ hG m.prlt hbB hhand).mono fun en w' hp => ?_⟩
        obtain ⟨u, pr', rfl, h3, h5⟩ := post_plain hpl hp
        have hnil := comeB_nil (gb := (g.more Q).bx) hbl
        obtain ⟨g', k1, k2, k3⟩ := back hbl h3 (by rw [hnil]; trivial)
        exact ⟨rfl, g', Rd.later _ k2 h5, k1, k3⟩
      · simp at hcr
  · simp at h

theorem enter_run {P : Program} {f : Nat} (h : Enters P f) (args : Array Value) (w : World) : (callFunc f args).run P w = .ok (.enter f args) w := by
  obtain ⟨fn, hf, hb, hn⟩ := h
  have hpr : program.run P w = .ok P w := rfl
  have hnm' : ¬ fn.name = "runtime.NumGoroutine" := by simpa using hn
  have hbn' : ¬ fn.body = none := by cases hx : fn.body <;> simp_all
  simp [callFunc, hpr, hf, hnm', hbn']

theorem call_run {o : Oper} {c : Call} {f : Nat} (ho : o.op = .call c) (hc : c.callee = .value (.func f)) (h : Enters C.P f) : (execOp a.eval o).run C.P w = .ok (.enter f (c.args.toList.map a.eval).toArray) w := by
  have e1 : (c.args.map a.eval) = (c.args.toList.map a.eval).toArray := by apply Array.toList_inj.1; simp
  simp [execOp, ho, resolve, hc, Act.eval, Deferred.ofValue, invoke, enter_run h, e1]
theorem callv_run {o : Oper} {c : Call} {f t : Nat} {cv : Array Value} (ho : o.op = .call c) (hc : c.callee = .value (.tmp t)) (ht : a.eval (.tmp t) = .func (.func f) #[] cv) (h : Enters C.P f) :
    (execOp a.eval o).run C.P w = .ok (.enter f (c.args.toList.map a.eval ++ cv.toList).toArray) w := by
  have e1 : (c.args.map a.eval) ++ cv = (c.args.toList.map a.eval ++ cv.toList).toArray := by apply Array.toList_inj.1; simp
  simp [execOp, ho, resolve, hc, ht, Deferred.ofValue, invoke, enter_run h, ← e1]

theorem callm_run {o : Oper} {c : Call} {f t : Nat} (ho : o.op = .call c) (hc : c.callee = .value (.tmp t)) (ht : a.eval (.tmp t) = .func (.func f) #[.agg #[]] #[]) (h : Enters C.P f) :
    (execOp a.eval o).run C.P w = .ok (.enter f (.agg #[] :: c.args.toList.map a.eval).toArray) w := by
  have e1 : #[Value.agg #[]] ++ (c.args.map a.eval) ++ #[] = (Value.agg #[] :: c.args.toList.map a.eval).toArray := by apply Array.toList_inj.1; simp
  simp [execOp, ho, resolve, hc, ht, Deferred.ofValue, invoke, enter_run h, ← e1]
theorem lend_rd {w : World} {g : Gh} : ∀ {xs : List AV} {us : List Value}, RdL w g xs us → RdL w g (xs.map lend) us
  | [], _, h => h
  | x :: xs, _, h => by
    simp only [RdL] at h
    obtain ⟨u, us', rfl, h1, h2⟩ := h
    simp only [List.map_cons, RdL]
    refine ⟨u, us', rfl, ?_, lend_rd h2⟩
    cases x with
    | own k ag s r n =>
      simp only [Rd, lend] at h1 ⊢
      obtain ⟨b, cap, k1, k2, k3, _⟩ := h1
      exact ⟨b, cap, k1, k2, k3⟩
    | _ => exact h1
/-- What is done behind an operation. -/
def Goes (C : Cx) (X : Nat → Prop) (w0 : World) (pr0 : Nat → Nat → Prop) (bx : Bx) (pm : Pm) (w : World) (g : Gh) (o : Oper) (a : Act) (ef : Eff) (next : Act → World → Prop) (Q : Exit → Act → World → Prop) : Prop :=
  (ef.pan = false → ∀ w' g' v, Rd w' g' ef.v v → Later w g w' g' → Mem X w0 pr0 (updL bx ef.b) (updL pm ef.p) w' g' → next (a.put o.dst v) w') ∧
  (ef.pan = true → ∀ w' g' v, C.od v → Later w g w' g' → Mem X w0 pr0 (updL bx ef.b) (updL pm ef.p) w' g' → Q (.panic [{ v := v, recovered := false }]) a w')

theorem OpR.wp {o : Oper} {ef : Eff} {next : Act → World → Prop} {Q : Exit → Act → World → Prop} (h : OpR C.P o a X w0 pr0 bx pm w g ef) (k : Goes C X w0 pr0 bx pm w g o a ef next Q) : o.wp C.P a w next Q := by
  obtain ⟨hp, w', g', v, hrun, h1, h2, h3⟩ := h
  unfold Oper.wp
  rcases hrun with hrun | ⟨hrun, rfl⟩
  · rw [hrun]; exact k.1 hp w' g' v h1 h2 h3
  · rw [hrun]; exact k.1 hp w' g' undef h1 h2 h3
theorem Left.wp {o : Oper} {ef : Eff} {next : Act → World → Prop} {Q : Exit → Act → World → Prop} {f : Nat} {args : Array Value} (hrun : (execOp a.eval o).run C.P w = .ok (.enter f args) w) (h : Calls C.P f args w (Left C X w0 pr0 bx pm w g ef))
    (k : Goes C X w0 pr0 bx pm w g o a ef next Q) : o.wp C.P a w next Q := by
  unfold Oper.wp
  rw [hrun, Oper.upon_enter]
  refine h.mono fun en w' hp => ?_
  cases en with
  | returned v =>
    obtain ⟨h1, g', h2, h3, h4⟩ := hp
    exact k.1 h1 w' g' v h2 h3 h4
  | panicked ch =>
    obtain ⟨h1, v, g', h2, rfl, h3, h4⟩ := hp
    exact k.2 h1 w' g' v h2 h3 h4
  | outgrown => exact hp.elim

/-- slices.Insert. -/
theorem ins_ok (hD : Sound C D) (hC : C.Fine) (hX : ∀ b, X b → C.B ≤ b) (hG0 : C.G w0) (hM : Mem X w0 pr0 bx pm w g) {d : Option Nat} {df : Option (Nat × List AV)} {f : Nat} {x i y : Opd} {vx vi vy : Value}
    (hx : ∀ r, evo e x = some r → Rd w g r vx) (hi : ∀ r, evo e i = some r → Rd w g r vi) (hy : ∀ r, evo e y = some r → Rd w g r vy) {ef : Eff} (h : step D d ⟨e, bx, pm, df⟩ (.ins f x i y) = some ef) :
    Enters C.P f ∧ Calls C.P f #[vx, vi, vy] w (Left C X w0 pr0 bx pm w g ef) := by
  simp only [step] at h
  split at h
  · rename_i k ag s v n ia ya hxe hie hye
    split at h
    · rename_i v' cs hbs
      split at h
      · rename_i hc
        obtain ⟨rfl, hdd, hl, hk0⟩ := hc
        split at h
        · rename_i xs hxs
          unfold insK at h
          split at h
          · rename_i xs' hDr
            split at h
            · rename_i hcond
              obtain ⟨hall, hdd2, hag⟩ := hcond
              simp only [Option.some.injEq] at h
              subst h
              have h1 := hx _ hxe
              simp only [Rd] at h1
              obtain ⟨b, cap, hb, hle, rfl, _⟩ := h1
              have hLB : LB bx g s b (cap * k) := ⟨v', cs, hbs, hdd, hb⟩
              obtain ⟨hbase, hlt, hpr⟩ := hM.bxb s b _ hLB
              obtain ⟨b', n', us, cur, T, k1, k2, kn, kf, k3, k4⟩ := hM.box s v' cs hbs hdd
              rw [hb] at k1
              simp only [Option.some.injEq, Prod.mk.injEq] at k1
              obtain ⟨rfl, rfl⟩ := k1
              obtain ⟨e1, e2, vs, e3, e4, e5, e6⟩ := chunks_rd hxs hl k3 k4
              have hs := hD f _ _ hDr
              simp only [Says, SaysIns] at hs
              obtain ⟨hen, hcall⟩ := hs
              refine ⟨hen, (hcall w g.pr b n cap vi vy (hM.gNow hC hX hG0) hM.prlt (hM.lbB hC hX hG0 hLB) hpr e1.symm hle ⟨us, cur, T, k2, kn, kf, by rw [e2]; exact RdL.pubC k3, k4⟩ (Rd.pub (hi _ hie)) (Rd.pub (hy _ hye))).mono fun en w' hp => ?_⟩
              obtain ⟨b2, cap2, pr', rfl, ha, hb2, hcap2, ⟨us2, cur2, T2, j1, j2, j3, j4, j5⟩, hpr2⟩ := hp
              have hok : ∀ y ∈ xs', y.cells.length = k := fun y hy => by have := List.all_eq_true.1 hall y hy; simp only [Bool.and_eq_true, beq_iff_eq] at this; exact this.2
              -- the old row is no more, what is known grows
              have hdie := hM.die hbs
              obtain ⟨m1, q1⟩ := hM.turnedL (bx' := upd bx s (v', gone)) ha.below (fun k' hk' => ⟨s, cap * k, by rw [hk']; exact hLB⟩) (fun b o => pr' b o ∧ w.heap.size ≤ b) (fun b o h => ⟨h.2, ha.prlt b o h.1⟩)
                (fun s2 r cs2 h2 => by
                  by_cases hss : s = s2
                  · subst hss
                    rw [hbs] at h2
                    simp only [Option.some.injEq, Prod.mk.injEq] at h2
                    exact ⟨_, by rw [upd_same, h2.1]⟩
                  · exact ⟨cs2, by rw [upd_ne _ _ hss]; exact h2⟩) map_gone
                (fun s2 r cs2 h2 hd2 => by
                  by_cases hss : s = s2
                  · subst hss
                    rw [upd_same] at h2
                    simp only [Option.some.injEq, Prod.mk.injEq] at h2
                    rw [← h2.2] at hd2
                    simp [deadC, gone] at hd2
                  · rw [upd_ne _ _ hss] at h2
                    refine .inl ⟨h2, fun b3 n3 h3 h4 => hss ?_⟩
                    subst h4
                    exact hM.bxi s s2 _ _ n3 hLB ⟨r, cs2, h2, hd2, h3⟩)
              have toG : Later w' (pubG pr') w' (g.more fun b o => pr' b o ∧ w.heap.size ≤ b) := by
                refine ⟨fun _ _ _ => rfl, fun b o p => ?_, fun _ _ _ e => by simp [pubG] at e, fun _ _ _ e => by simp [pubG] at e, fun _ _ h => h⟩
                rcases ha.prn b o p with h | h
                · exact .inl h
                · exact .inr ⟨p, h⟩
              have hv : ∀ r cs', upd bx s (v', gone) s = some (r, cs') → r < v' + 1 := by
                intro r cs' h
                rw [upd_same] at h
                simp only [Option.some.injEq, Prod.mk.injEq] at h
                omega
              have hnpr : ∀ o, ¬ (g.more fun b o => pr' b o ∧ w.heap.size ≤ b).pr b2 o := by
                intro o
                rintro (p | ⟨p, _⟩)
                · exact hpr2 o (ha.old _ _ p)
                · exact hpr2 o p
              have m2 := m1.boxed (d := s) (v := v' + 1) hv j1 j2 j3 (RdL.later _ toG j4) j5
                (by rcases hb2 with rfl | h2
                    · exact hbase
                    · exact .inl (Nat.le_trans hM.below.size h2)) hnpr
                (fun s2 m2 hne hlb => by
                  obtain ⟨_, hlb'⟩ := hlb.of_gone
                  have hlb2 : LB bx g s2 b2 m2 := hlb'
                  rcases hb2 with rfl | h2
                  · exact hne (hM.bxi s2 s _ _ _ hlb2 hLB)
                  · have := (hM.bxb s2 b2 m2 hlb2).2.1
                    omega)
                (fun s2 r2 v2 kk h1 h2 h3 => by
                  rcases hb2 with rfl | h4
                  · exact hM.livb s2 r2 v2 kk _ h1 h2 h3 s _ hLB
                  · have := (hM.liveLt h1 h2 h3).2
                    omega)
              have hnew := m1.ver (d := s) (v := v' + 1) hv
              refine ⟨rfl, _, ?_, q1.trans (Later.boxed w' _ b2 (cap2 * k) hnew), ?_⟩
              · simp only [Rd]
                exact ⟨b2, cap2, Gh.boxed_same _ _ _ _ _, hcap2, rfl, fun e => by omega⟩
              · simp only [updL]
                rw [upd_upd] at m2
                exact m2
            · simp at h
          · simp at h
        · simp at h
      · simp at h
    · simp at h
  · rename_i k ia ya hxe hie hye
    split at h
    · rename_i d
      unfold insN at h
      split at h
      · rename_i xs' hDr
        split at h
        · rename_i hcond
          obtain ⟨hall, hdd2, hd2⟩ := hcond
          simp only [Option.some.injEq] at h
          subst h
          have h1 := hx _ hxe
          simp only [Rd] at h1
          obtain ⟨_, _, _, hnil⟩ := h1
          have hnil' : vx = .slice none 0 0 := hnil
          subst hnil'
          have hs := hD f _ _ hDr
          simp only [Says, SaysIns] at hs
          obtain ⟨hen, hcall⟩ := hs
          refine ⟨hen, (hcall w g.pr vi vy (hM.gNow hC hX hG0) hM.prlt (Rd.pub (hi _ hie)) (Rd.pub (hy _ hye))).mono fun en w' hp => ?_⟩
          obtain ⟨b2, cap2, pr', rfl, ha, hb2, hcap2, ⟨us2, cur2, T2, j1, j2, j3, j4, j5⟩, hpr2⟩ := hp
          obtain ⟨m1, q1⟩ := hM.turnedL (bx' := bx) ha.below (fun k' hk' => hk'.elim) (fun b o => pr' b o ∧ w.heap.size ≤ b) (fun b o h => ⟨h.2, ha.prlt b o h.1⟩) (fun s2 r cs2 h2 => ⟨cs2, h2⟩) (fun _ _ _ h => h) (fun s2 r cs2 h2 _ => .inl ⟨h2, fun _ _ _ h => h⟩)
          have toG : Later w' (pubG pr') w' (g.more fun b o => pr' b o ∧ w.heap.size ≤ b) := by
            refine ⟨fun _ _ _ => rfl, fun b o p => ?_, fun _ _ _ e => by simp [pubG] at e, fun _ _ _ e => by simp [pubG] at e, fun _ _ h => h⟩
            rcases ha.prn b o p with h | h
            · exact .inl h
            · exact .inr ⟨p, h⟩
          have hnpr : ∀ o, ¬ (g.more fun b o => pr' b o ∧ w.heap.size ≤ b).pr b2 o := by
            intro o
            rintro (p | ⟨p, _⟩)
            · exact hpr2 o (ha.old _ _ p)
            · exact hpr2 o p
          have m2 := m1.boxed (d := d) (v := nextB bx d) (nextB_lt bx d) j1 j2 j3 (RdL.later _ toG j4) j5 (.inl (Nat.le_trans hM.below.size hb2)) hnpr
            (fun s2 m2 _ hlb => by
              have := (hM.bxb s2 b2 m2 hlb).2.1
              omega)
            (fun s2 r2 v2 kk h1 h2 h3 => by
              have := (hM.liveLt h1 h2 h3).2
              omega)
          have hnew := m1.ver (d := d) (v := nextB bx d) (nextB_lt bx d)
          refine ⟨rfl, _, ?_, q1.trans (Later.boxed w' _ b2 (cap2 * k) hnew), ?_⟩
          · simp only [Rd]
            exact ⟨b2, cap2, Gh.boxed_same _ _ _ _ _, hcap2, rfl, fun e => by omega⟩
          · simp only [updL]
            exact m2
        · simp at h
      · simp at h
    · simp at h
  · simp at h

theorem asBytes_rd {w : World} {g : Gh} : ∀ {cs : List AV} {l : List UInt8} {us : List Value}, asBytes cs = some l → RdL w g cs us → us = l.map (fun c => Value.int .u8 c.toNat) ∧ l.length = cs.length
  | [], l, us, h, hr => by
    simp only [asBytes, Option.some.injEq] at h
    subst h
    simp only [RdL] at hr
    subst hr
    exact ⟨rfl, rfl⟩
  | x :: cs, l, us, h, hr => by
    simp only [RdL] at hr
    obtain ⟨u, us', rfl, h1, h2⟩ := hr
    unfold asBytes at h
    split at h
    · rename_i e; simp at e
    · rename_i n l0 e
      simp only [List.cons.injEq] at e
      obtain ⟨rfl, rfl⟩ := e
      split at h
      · rename_i hn
        obtain ⟨l', hl', rfl⟩ := Option.map_eq_some_iff.1 h
        obtain ⟨e1, e2⟩ := asBytes_rd hl' h2
        simp only [Rd] at h1
        refine ⟨?_, by simp [e2]⟩
        rw [h1, e1]
        simp only [List.map_cons, List.cons.injEq, and_true, Value.int.injEq, true_and]
        have : (UInt8.ofNat n.toNat).toNat = n.toNat % 256 := by simp
        rw [this]
        omega
      · simp at h
    · simp at h
theorem asBytes_rdL (w : World) (g : Gh) : ∀ {cs : List AV} {l : List UInt8}, asBytes cs = some l → RdL w g cs (l.map fun c => Value.int .u8 c.toNat)
  | [], l, h => by simp only [asBytes, Option.some.injEq] at h; subst h; simp [RdL]
  | x :: cs, l, h => by
    unfold asBytes at h
    split at h
    · rename_i e; simp at e
    · rename_i n l0 e
      simp only [List.cons.injEq] at e
      obtain ⟨rfl, rfl⟩ := e
      split at h
      · rename_i hn
        obtain ⟨l', hl', rfl⟩ := Option.map_eq_some_iff.1 h
        simp only [List.map_cons, RdL]
        refine ⟨_, _, rfl, ?_, asBytes_rdL w g hl'⟩
        simp only [Rd, Value.int.injEq, true_and]
        have : (UInt8.ofNat n.toNat).toNat = n.toNat % 256 := by simp
        rw [this]
        omega
      · simp at h
    · simp at h
theorem byteC_rd {w : World} {g : Gh} (l : List UInt8) : RdL w g (byteC l) (l.map fun c => Value.int .u8 c.toNat) := by
  induction l with
  | nil => simp [byteC, RdL]
  | cons c l ih =>
    simp only [byteC, List.map_cons, RdL] at ih ⊢
    exact ⟨_, _, rfl, by simp [Rd], ih⟩
theorem bytes_one (l : List UInt8) : ∀ u ∈ l.map (fun c => Value.int .u8 (c.toNat : Int)), u.oneCell' = true := by
  intro u hu
  obtain ⟨c, _, rfl⟩ := List.mem_map.1 hu
  rfl

/-- A box's content is read in another way. -/
theorem Mem.reread (hM : Mem X w0 pr0 bx pm w g) {s r : Nat} {cs cs' : List AV} (hs : bx s = some (r, cs)) (hd : deadC cs = false) {b n : Nat} (hgb : g.bx s r = some (b, n)) {us : List Value} {cur : Array Value} {T : TypeId} (hb : w.heap[b]? = some (.cells cur T (0, 0))) (hn : cur.size = n)
    (ht : cur.toList.take us.length = us) (hr : RdL w g cs' us) (h1 : ∀ u ∈ us, u.oneCell' = true) : Mem X w0 pr0 (upd bx s (r, cs')) pm w g :=
  (hM.turned hs hd hgb (BelX.refl _ w) hb hn ht hr h1).1

/-- What a builder's box is. -/
theorem wr_at (hC : C.Fine) (hX : ∀ b, X b → C.B ≤ b) (hG0 : C.G w0) (hM : Mem X w0 pr0 bx pm w g) {s v : Nat} {a0 buf : AV} (hbs : bx s = some (v, [a0, buf])) {Tb : TypeId} (hself : selfP Tb s v a0 = true) {b n : Nat} (hb : g.bx s v = some (b, n)) :
    (buf = .sl 1 [] .nil → ∃ u0 T, WrAt C Tb w g.pr b n u0 (.slice none 0 0) T none []) ∧
    (∀ t r m cs l, buf = .own 1 false t r m → bx t = some (r, cs) → deadC cs = false → cs.length = m → s ≠ t → 200000 ≤ t → asBytes cs = some l → ∃ u0 u1 T k cap, WrAt C Tb w g.pr b n u0 u1 T (some k) l ∧ g.bx t r = some (k, cap) ∧ LB bx g t k cap) := by
  have hdd : deadC [a0, buf] = false := by simp [deadC]
  have hLB : LB bx g s b n := ⟨v, _, hbs, hdd, hb⟩
  obtain ⟨hbase, hlt, hpr⟩ := hM.bxb s b n hLB
  obtain ⟨b', n', us, cur, T, k1, k2, kn, kf, k3, k4⟩ := hM.box s v _ hbs hdd
  rw [hb] at k1
  simp only [Option.some.injEq, Prod.mk.injEq] at k1
  obtain ⟨rfl, rfl⟩ := k1
  simp only [RdL] at k3
  obtain ⟨u0, us1, rfl, h0, u1, us2, rfl, h1, rfl⟩ := k3
  have hself' : (u0 = .pointer none ∧ T = Tb ∧ n = 2) ∨ u0 = .pointer (some ⟨b, 0, none⟩) := by
    unfold selfP at hself
    split at hself
    · simp only [Bool.and_eq_true, beq_iff_eq] at hself
      obtain ⟨⟨rfl, rfl⟩, rfl⟩ := hself
      simp only [Rd] at h0
      obtain ⟨h0, b2, h2, h3⟩ := h0
      rw [hb] at h2
      simp only [Option.some.injEq, Prod.mk.injEq] at h2
      obtain ⟨rfl, rfl⟩ := h2
      rw [tyAt_of k2] at h3
      simp only [Option.some.injEq] at h3
      exact .inl ⟨h0, h3, rfl⟩
    · simp only [Bool.and_eq_true, beq_iff_eq] at hself
      obtain ⟨rfl, rfl⟩ := hself
      simp only [Rd] at h0
      obtain ⟨b2, n2, h2, rfl⟩ := h0
      rw [hb] at h2
      simp only [Option.some.injEq, Prod.mk.injEq] at h2
      rw [h2.1]
      exact .inr rfl
    · simp at hself
  have hcells : Cells2 w b n T u0 u1 := ⟨cur, k2, kn, by simpa using kf⟩
  refine ⟨fun hbuf => ?_, fun t r m cs l hbuf hbt hdt hlen hst h200 has => ?_⟩
  · subst hbuf
    simp only [Rd] at h1
    obtain ⟨_, _, _, h2⟩ := h1
    have h2' : u1 = .slice none 0 0 := h2
    subst h2'
    exact ⟨u0, T, hM.gNow hC hX hG0, hM.prlt, hM.lbB hC hX hG0 hLB, fun _ e => by simp at e, hpr, fun _ _ e => by simp at e, hcells, hself', .inl ⟨rfl, rfl, rfl⟩⟩
  · subst hbuf
    simp only [Rd] at h1
    obtain ⟨k, cap, hbk, hle, rfl, hty⟩ := h1
    have hLBt : LB bx g t k (cap * 1) := ⟨r, cs, hbt, hdt, hbk⟩
    obtain ⟨_, _, hprt⟩ := hM.bxb t k _ hLBt
    obtain ⟨b', n', us, curt, T2, j1, j2, jn, jf, j3, j4⟩ := hM.box t r cs hbt hdt
    rw [hbk] at j1
    simp only [Option.some.injEq, Prod.mk.injEq] at j1
    obtain ⟨rfl, rfl⟩ := j1
    obtain ⟨rfl, hll⟩ := asBytes_rd has j3
    have hT2 : T2 = byteT := by have := hty h200; rw [tyAt_of j2] at this; exact Option.some.inj this
    subst hT2
    refine ⟨u0, _, T, k, cap * 1, ⟨hM.gNow hC hX hG0, hM.prlt, hM.lbB hC hX hG0 hLB, fun t' e => ?_, hpr, fun t' o e => ?_, hcells, hself', .inr ⟨k, m, cap, curt, rfl, fun e => ?_, rfl, by omega, hle, j2, by omega, ?_⟩⟩, hbk, hLBt⟩
    · simp only [Option.some.injEq] at e
      subst e
      exact hM.lbB hC hX hG0 hLBt
    · simp only [Option.some.injEq] at e
      subst e
      exact hprt o
    · subst e
      exact hst (hM.bxi s t _ _ _ hLB hLBt)
    · have : m = (l.map fun c => Value.int .u8 (c.toNat : Int)).length := by simp; omega
      rw [this]
      exact jf

theorem aft_toG {w w' : World} {g : Gh} {pr' : Nat → Nat → Prop} {Y : Nat → Prop} (ha : Aft w w' g.pr pr' Y) : Later w' (pubG pr') w' (g.more fun b o => pr' b o ∧ w.heap.size ≤ b) := by
  refine ⟨fun _ _ _ => rfl, fun b o p => ?_, fun _ _ _ e => by simp [pubG] at e, fun _ _ _ e => by simp [pubG] at e, fun _ _ h => h⟩
  rcases ha.prn b o p with h | h
  · exact .inl h
  · exact .inr ⟨p, h⟩

/-- One box has turned, others are no more. -/
theorem box_back (hM : Mem X w0 pr0 bx pm w g) {bx1 : Bx} {s v : Nat} {cs c1 : List AV} {b n : Nat} (hbs : bx s = some (v, cs)) (hdd : deadC cs = false) (hgb : g.bx s v = some (b, n)) {w' : World} {pr' : Nat → Nat → Prop} {Y : Nat → Prop} (ha : Aft w w' g.pr pr' Y)
    (hY : ∀ k, Y k → k = b ∨ ∃ t r cs' m, t ≠ s ∧ bx t = some (r, cs') ∧ deadC cs' = false ∧ g.bx t r = some (k, m) ∧ bx1 t = some (r, gone)) (h1 : bx1 s = some (v, c1)) (ho : ∀ i, i ≠ s → bx1 i = bx i ∨ ∃ r cs', bx i = some (r, cs') ∧ bx1 i = some (r, gone))
    {us : List Value} {cur : Array Value} {T : TypeId} (hb : w'.heap[b]? = some (.cells cur T (0, 0))) (hn : cur.size = n) (ht : cur.toList.take us.length = us) (hr : RdL w' (g.more fun b o => pr' b o ∧ w.heap.size ≤ b) c1 us) (ho1 : ∀ u ∈ us, u.oneCell' = true) :
    Mem X w0 pr0 bx1 pm w' (g.more fun b o => pr' b o ∧ w.heap.size ≤ b) ∧ Later w g w' (g.more fun b o => pr' b o ∧ w.heap.size ≤ b) := by
  have hLB : LB bx g s b n := ⟨v, cs, hbs, hdd, hgb⟩
  refine hM.turnedL ha.below (fun k hk => ?_) _ (fun b o h => ⟨h.2, ha.prlt b o h.1⟩) (fun i r cs' h => ?_) (fun i r l h => ?_) (fun i r cs' h hd => ?_)
  · rcases hY k hk with rfl | ⟨t, r, cs', m, h2, h3, h4, h5, h6⟩
    · exact ⟨s, n, hLB⟩
    · exact ⟨t, m, r, cs', h3, h4, h5⟩
  · by_cases hi : i = s
    · subst hi
      rw [hbs] at h
      simp only [Option.some.injEq, Prod.mk.injEq] at h
      exact ⟨c1, by rw [h1, h.1]⟩
    · rcases ho i hi with h2 | ⟨r2, cs2, h2, h3⟩
      · exact ⟨cs', by rw [h2]; exact h⟩
      · rw [h2] at h
        simp only [Option.some.injEq, Prod.mk.injEq] at h
        exact ⟨gone, by rw [h3, h.1]⟩
  · by_cases hi : i = s
    · subst hi
      rw [h1] at h
      simp only [Option.some.injEq, Prod.mk.injEq] at h
      exact absurd h.2 (not_map hr ho1 l)
    · rcases ho i hi with h2 | ⟨r2, cs2, h2, h3⟩
      · rwa [h2] at h
      · rw [h3] at h
        simp only [Option.some.injEq, Prod.mk.injEq] at h
        exact absurd h.2 (mapC_ne_gone l)
  · by_cases hi : i = s
    · subst hi
      rw [h1] at h
      simp only [Option.some.injEq, Prod.mk.injEq] at h
      obtain ⟨rfl, rfl⟩ := h
      exact .inr ⟨cs, b, n, us, cur, T, hbs, hdd, hgb, hb, hn, ht, hr, ho1⟩
    · rcases ho i hi with h2 | ⟨r2, cs2, h2, h3⟩
      · rw [h2] at h
        refine .inl ⟨h, fun k m hk hy => ?_⟩
        rcases hY k hy with rfl | ⟨t, r', cs'', m', h3, h4, h5, h6, h7⟩
        · exact hi (hM.bxi i s _ m n ⟨r, cs', h, hd, hk⟩ hLB)
        · have hti := hM.bxi t i k m' m ⟨r', cs'', h4, h5, h6⟩ ⟨r, cs', h, hd, hk⟩
          subst hti
          rw [h2, h] at h7
          simp only [Option.some.injEq, Prod.mk.injEq] at h7
          rw [h7.2] at hd
          simp [deadC, gone] at hd
      · rw [h3] at h
        simp only [Option.some.injEq, Prod.mk.injEq] at h
        rw [← h.2] at hd
        simp [deadC, gone] at hd

theorem wrs_ok (hD : Sound C D) (hC : C.Fine) (hX : ∀ b, X b → C.B ≤ b) (hG0 : C.G w0) (hM : Mem X w0 pr0 bx pm w g) {d : Option Nat} {df : Option (Nat × List AV)} {f : Nat} {x : Opd} {args : List Opd} {vx : Value} {vals : List Value}
    (hx : ∀ r, evo e x = some r → Rd w g r vx) (ha : ∀ rs, evos e args = some rs → RdL w g rs vals) {ef : Eff} (h : step D d ⟨e, bx, pm, df⟩ (.wrs f x args) = some ef) :
    Enters C.P f ∧ Calls C.P f (vx :: vals).toArray w (Left C X w0 pr0 bx pm w g ef) := by
  simp only [step] at h
  split at h
  · rename_i d0 s v y l hxe hae
    generalize 200000 + d0 = d at h
    unfold wrsK at h
    split at h
    · rename_i Tb bs hDr
      split at h
      · rename_i v' a0 buf hbs
        split at h
        · rename_i hcond
          obtain ⟨rfl, hself⟩ := hcond
          have h1 := hx _ hxe
          simp only [Rd] at h1
          obtain ⟨b, n, hb, rfl⟩ := h1
          have hdd : deadC [a0, buf] = false := by simp [deadC]
          have hLB : LB bx g s b n := ⟨v', _, hbs, hdd, hb⟩
          obtain ⟨hA, hB⟩ := wr_at hC hX hG0 hM hbs hself hb
          have hs : SaysWr C Tb f ((y :: l).map .pub) bs := hD f _ _ hDr
          obtain ⟨hen, hcall⟩ := hs
          have hvals := (ha _ hae).pub
          refine ⟨hen, ?_⟩
          have ptrG : ∀ {w' : World} {g' : Gh}, Later w g w' g' → Rd w' g' (.ptr s v' 0) (.pointer (some ⟨b, 0, none⟩)) := fun q => by simp only [Rd]; exact ⟨b, n, q.bx _ _ _ hb, rfl⟩
          unfold wrsB at h
          split at h
          · obtain ⟨u0, T, hW⟩ := hA rfl
            split at h
            · rename_i hbs0
              subst hbs0
              simp only [Option.some.injEq] at h
              subst h
              refine (hcall w g.pr b n u0 _ T none [] vals hW (by simp) hvals).mono fun en w' hp => ?_
              obtain ⟨vr, buf', t', pr', rfl, haft, ⟨cur, c1, c2, c3⟩, hbuf, hfr, hnpr, hiff⟩ := hp
              have ht' : t' = none := hiff.2 ⟨rfl, rfl⟩
              subst ht'
              have hb' : buf' = .slice none 0 0 := by
                rcases hbuf with ⟨_, _, e⟩ | ⟨_, _, _, _, e, _⟩
                · exact e
                · simp at e
              subst hb'
              have hl0 : Later w g w' (g.more fun b o => pr' b o ∧ w.heap.size ≤ b) := by
                refine ⟨fun b' o p => cell_of_block (haft.below.block b' (hM.prlt b' o p) (fun e => ?_)) o, fun _ _ h => .inl h, fun _ _ _ h => h, fun _ _ _ h => h, haft.below.ty⟩
                rcases e with e | e
                · subst e; exact (hM.bxb s _ n hLB).2.2 o p
                · simp at e
              obtain ⟨m1, q1⟩ := box_back hM (bx1 := upd bx s (v', [.ptr s v' 0, .sl 1 [] .nil])) hbs hdd hb haft (fun k hk => .inl (by rcases hk with hk | hk; exact hk; simp at hk)) (upd_same _ _ _) (fun i hi => .inl (upd_ne _ _ (fun e => hi e.symm))) (us := [.pointer (some ⟨b, 0, none⟩), .slice none 0 0]) c1 c2 c3
                (by
                  simp only [RdL]
                  refine ⟨_, _, rfl, ptrG hl0, _, _, rfl, ?_, rfl⟩
                  simp only [Rd]
                  exact ⟨[], by simp [RdL], ⟨none, 0, rfl, Nat.le_refl _, by simp, by simp [flatV], by simp⟩, rfl⟩)
                (by intro u hu; simp at hu; rcases hu with rfl | rfl <;> rfl)
              exact ⟨rfl, _, by simp only [Rd], q1, by simpa [updL] using m1⟩
            · rename_i hbs0
              split at h
              · rename_i hc
                obtain ⟨hsd, hlen, hdd2⟩ := hc
                simp only [Option.some.injEq] at h
                subst h
                refine (hcall w g.pr b n u0 _ T none [] vals hW (by simpa using hlen) hvals).mono fun en w' hp => ?_
                obtain ⟨vr, buf', t', pr', rfl, haft, ⟨cur, c1, c2, c3⟩, hbuf, hfr, hnpr, hiff⟩ := hp
                have hl0 : Later w g w' (g.more fun b o => pr' b o ∧ w.heap.size ≤ b) := by
                  refine ⟨fun b' o p => cell_of_block (haft.below.block b' (hM.prlt b' o p) (fun e => ?_)) o, fun _ _ h => .inl h, fun _ _ _ h => h, fun _ _ _ h => h, haft.below.ty⟩
                  rcases e with e | e
                  · subst e; exact (hM.bxb s _ n hLB).2.2 o p
                  · simp at e
                rcases hbuf with ⟨rfl, _, _⟩ | ⟨k, m, cap, curk, rfl, hkb, rfl, hm, hmc, hk, hks, hkt⟩
                · exact absurd (hiff.1 rfl).2 hbs0
                · have hknew : w.heap.size ≤ k := by
                    rcases hfr k rfl with e | e
                    · simp at e
                    · exact e
                  obtain ⟨m1, q1⟩ := box_back hM (bx1 := upd bx s (v', [.ptr s v' 0, .opq])) hbs hdd hb haft (fun k hk => .inl (by rcases hk with hk | hk; exact hk; simp at hk)) (upd_same _ _ _) (fun i hi => .inl (upd_ne _ _ (fun e => hi e.symm))) (us := [.pointer (some ⟨b, 0, none⟩), .slice (some ⟨k, 0, none⟩) m cap]) c1 c2 c3
                    (by
                      simp only [RdL]
                      exact ⟨_, _, rfl, ptrG hl0, _, _, rfl, by simp only [Rd], rfl⟩)
                    (by intro u hu; simp at hu; rcases hu with rfl | rfl <;> rfl)
                  simp only [List.nil_append] at hm hkt
                  have hvd : ∀ r cs', upd bx s (v', [.ptr s v' 0, .opq]) d = some (r, cs') → r < nextB bx d := fun r cs' e => by
                    rw [upd_ne _ _ hsd] at e
                    exact nextB_lt bx d r cs' e
                  have hone := bytes_one bs
                  have hlb' : ∀ s' m', LB (upd bx s (v', [.ptr s v' 0, .opq])) (g.more fun b o => pr' b o ∧ w.heap.size ≤ b) s' k m' → False := by
                    rintro s' m' ⟨r, c, e1, e2, e3⟩
                    by_cases hss : s = s'
                    · subst hss
                      rw [upd_same] at e1
                      simp only [Option.some.injEq, Prod.mk.injEq] at e1
                      obtain ⟨rfl, rfl⟩ := e1
                      have : g.bx s v' = some (k, m') := e3
                      rw [hb] at this
                      simp only [Option.some.injEq, Prod.mk.injEq] at this
                      exact hkb this.1.symm
                    · rw [upd_ne _ _ hss] at e1
                      have := (hM.bxb s' k m' ⟨r, c, e1, e2, e3⟩).2.1
                      omega
                  have m2 := m1.boxed (d := d) (v := nextB bx d) hvd hk hks (us := bs.map fun c => Value.int .u8 c.toNat) (by rw [List.length_map, ← hm]; exact hkt) (byteC_rd bs) hone (.inl (Nat.le_trans hM.below.size hknew))
                    (by
                      intro o
                      rintro (p | ⟨p, _⟩)
                      · have := hM.prlt _ _ p; omega
                      · exact hnpr k o rfl p)
                    (fun s' m' _ => hlb' s' m')
                    (fun s2 r2 v2 k2 e1 e2 e3 => by
                      have := (hM.liveLt e1 e2 e3).2
                      omega)
                  have hnew := m1.ver hvd
                  have q2 := Later.boxed w' (g.more fun b o => pr' b o ∧ w.heap.size ≤ b) k cap hnew
                  have hks' : (upd (upd bx s (v', [AV.ptr s v' 0, .opq])) d (nextB bx d, byteC bs)) s = some (v', [.ptr s v' 0, .opq]) := by rw [upd_ne _ _ (fun e => hsd e.symm), upd_same]
                  have m3 := m2.reread (cs' := [.ptr s v' 0, .own 1 false d (nextB bx d) bs.length]) hks' (by simp [deadC]) (q2.bx _ _ _ (hl0.bx _ _ _ hb)) c1 c2 (us := [.pointer (some ⟨b, 0, none⟩), .slice (some ⟨k, 0, none⟩) m cap]) c3
                    (by
                      simp only [RdL]
                      refine ⟨_, _, rfl, ptrG (hl0.trans q2), _, _, rfl, ?_, rfl⟩
                      simp only [Rd]
                      exact ⟨k, cap, by rw [Nat.mul_one]; exact Gh.boxed_same _ _ _ _ _, by omega, by rw [hm], fun _ => tyAt_of hk⟩)
                    (by intro u hu; simp at hu; rcases hu with rfl | rfl <;> rfl)
                  refine ⟨rfl, _, by simp only [Rd], q1.trans q2, ?_⟩
                  simp only [updL]
                  have : upd (upd bx d (nextB bx d, byteC bs)) s (v', [AV.ptr s v' 0, .own 1 false d (nextB bx d) bs.length]) = upd (upd (upd bx s (v', [AV.ptr s v' 0, .opq])) d (nextB bx d, byteC bs)) s (v', [.ptr s v' 0, .own 1 false d (nextB bx d) bs.length]) := by
                    rw [upd_comm bx _ _ hsd, upd_upd]
                  rw [this]
                  exact m3
              · simp at h
          · rename_i t r m
            split at h
            · rename_i r' cs hbt
              split at h
              · rename_i hc
                obtain ⟨rfl, hdt, hlen, hst, h200, hsz, has, hdd2⟩ := hc
                simp only [Option.some.injEq] at h
                subst h
                obtain ⟨l0, hl0⟩ := Option.isSome_iff_exists.1 has
                obtain ⟨u0, u1, T, k, cap0, hW, hbk, hLBt⟩ := hB t r' m cs l0 rfl hbt hdt hlen hst h200 hl0
                refine (hcall w g.pr b n u0 u1 T (some k) l0 vals hW (by have := (asBytes_rd hl0 (asBytes_rdL w g hl0)).2; omega) hvals).mono fun en w' hp => ?_
                obtain ⟨vr, buf', t', pr', rfl, haft, ⟨cur, c1, c2, c3⟩, hbuf, hfr, hnpr, hiff⟩ := hp
                have hl1 : Later w g w' (g.more fun b o => pr' b o ∧ w.heap.size ≤ b) := by
                  refine ⟨fun b' o p => cell_of_block (haft.below.block b' (hM.prlt b' o p) (fun e => ?_)) o, fun _ _ h => .inl h, fun _ _ _ h => h, fun _ _ _ h => h, haft.below.ty⟩
                  rcases e with e | e
                  · subst e; exact (hM.bxb s _ n hLB).2.2 o p
                  · simp only [Option.some.injEq] at e
                    subst e
                    exact (hM.bxb t _ _ hLBt).2.2 o p
                rcases hbuf with ⟨rfl, _, _⟩ | ⟨k2, m2, cap, curk, rfl, hkb, rfl, hm, hmc, hk, hks, hkt⟩
                · exact absurd (hiff.1 rfl).1 (by simp)
                · have hts : t ≠ s := fun e => hst e.symm
                  have hk2 : k2 = k ∨ w.heap.size ≤ k2 := by
                    rcases hfr k2 rfl with e | e
                    · simp only [Option.some.injEq] at e; exact .inl e.symm
                    · exact .inr e
                  obtain ⟨m1, q1⟩ := box_back hM (bx1 := upd (upd bx t (r', gone)) s (v', [.ptr s v' 0, .opq])) hbs hdd hb haft
                    (fun kk hkk => by
                      rcases hkk with hkk | hkk
                      · exact .inl hkk
                      · simp only [Option.some.injEq] at hkk
                        subst hkk
                        exact .inr ⟨t, r', cs, cap0, hts, hbt, hdt, hbk, by rw [upd_ne _ _ hst, upd_same]⟩)
                    (upd_same _ _ _)
                    (fun i hi => by
                      rw [upd_ne _ _ (fun e => hi e.symm)]
                      by_cases hit : t = i
                      · subst hit; exact .inr ⟨r', cs, hbt, upd_same _ _ _⟩
                      · exact .inl (upd_ne _ _ hit))
                    (us := [.pointer (some ⟨b, 0, none⟩), .slice (some ⟨k2, 0, none⟩) m2 cap]) c1 c2 c3
                    (by
                      simp only [RdL]
                      exact ⟨_, _, rfl, ptrG hl1, _, _, rfl, by simp only [Rd], rfl⟩)
                    (by intro u hu; simp at hu; rcases hu with rfl | rfl <;> rfl)
                  have hvd : ∀ r cs', upd (upd bx t (r', gone)) s (v', [.ptr s v' 0, .opq]) t = some (r, cs') → r < r' + 1 := fun r cs' e => by
                    rw [upd_ne _ _ hst, upd_same] at e
                    simp only [Option.some.injEq, Prod.mk.injEq] at e
                    omega
                  have hone := bytes_one (l0 ++ bs)
                  have hcont : RdL w' (g.more fun b o => pr' b o ∧ w.heap.size ≤ b) (cs ++ byteC bs) ((l0 ++ bs).map fun c => Value.int .u8 c.toNat) := by
                    rw [List.map_append]
                    exact (asBytes_rdL _ _ hl0).append (byteC_rd bs)
                  have m2' := m1.boxed (d := t) (v := r' + 1) hvd hk hks (us := (l0 ++ bs).map fun c => Value.int .u8 c.toNat) (by rw [List.length_map, ← hm]; exact hkt) hcont hone
                    (by
                      rcases hk2 with rfl | h2
                      · exact (hM.bxb t _ _ hLBt).1
                      · exact .inl (Nat.le_trans hM.below.size h2))
                    (by
                      intro o
                      rintro (p | ⟨p, _⟩)
                      · exact hnpr k2 o rfl (haft.old _ _ p)
                      · exact hnpr k2 o rfl p)
                    (fun s' m' hne => by
                      rintro ⟨r, c, e1, e2, e3⟩
                      by_cases hss : s = s'
                      · subst hss
                        rw [upd_same] at e1
                        simp only [Option.some.injEq, Prod.mk.injEq] at e1
                        obtain ⟨rfl, rfl⟩ := e1
                        have : g.bx s v' = some (k2, m') := e3
                        rw [hb] at this
                        simp only [Option.some.injEq, Prod.mk.injEq] at this
                        exact hkb this.1.symm
                      · rw [upd_ne _ _ hss, upd_ne _ _ (fun e => hne e.symm)] at e1
                        have hlb : LB bx g s' k2 m' := ⟨r, c, e1, e2, e3⟩
                        rcases hk2 with rfl | h2
                        · exact hne (hM.bxi s' t _ _ _ hlb hLBt)
                        · have := (hM.bxb s' k2 m' hlb).2.1
                          omega)
                    (fun s2 r2 v2 k2' e1 e2 e3 => by
                      rcases hk2 with rfl | h2
                      · exact hM.livb s2 r2 v2 k2' _ e1 e2 e3 t _ hLBt
                      · have := (hM.liveLt e1 e2 e3).2
                        omega)
                  have hnew := m1.ver hvd
                  have q2 := Later.boxed w' (g.more fun b o => pr' b o ∧ w.heap.size ≤ b) k2 cap hnew
                  have hks' : (upd (upd (upd bx t (r', gone)) s (v', [AV.ptr s v' 0, .opq])) t (r' + 1, cs ++ byteC bs)) s = some (v', [.ptr s v' 0, .opq]) := by rw [upd_ne _ _ hts, upd_same]
                  have hll := (asBytes_rd hl0 (asBytes_rdL w g hl0)).2
                  have hmm : m2 = m + bs.length := by rw [hm, List.length_append, hll, hlen]
                  have m3 := m2'.reread (cs' := [.ptr s v' 0, .own 1 false t (r' + 1) (m + bs.length)]) hks' (by simp [deadC]) (q2.bx _ _ _ (hl1.bx _ _ _ hb)) c1 c2 (us := [.pointer (some ⟨b, 0, none⟩), .slice (some ⟨k2, 0, none⟩) m2 cap]) c3
                    (by
                      simp only [RdL]
                      refine ⟨_, _, rfl, ptrG (hl1.trans q2), _, _, rfl, ?_, rfl⟩
                      simp only [Rd]
                      exact ⟨k2, cap, by rw [Nat.mul_one]; exact Gh.boxed_same _ _ _ _ _, by omega, by rw [hmm], fun _ => tyAt_of hk⟩)
                    (by intro u hu; simp at hu; rcases hu with rfl | rfl <;> rfl)
                  refine ⟨rfl, _, by simp only [Rd], q1.trans q2, ?_⟩
                  simp only [updL]
                  have : upd (upd bx t (r' + 1, cs ++ byteC bs)) s (v', [AV.ptr s v' 0, .own 1 false t (r' + 1) (m + bs.length)]) =
                      upd (upd (upd (upd bx t (r', gone)) s (v', [AV.ptr s v' 0, .opq])) t (r' + 1, cs ++ byteC bs)) s (v', [.ptr s v' 0, .own 1 false t (r' + 1) (m + bs.length)]) := by
                    rw [upd_comm (upd bx t (r', gone)) _ _ hst, upd_upd, upd_upd]
                  rw [this]
                  exact m3
              · simp at h
            · simp at h
          · simp at h
        · simp at h
      · simp at h
    · simp at h
  · simp at h

theorem selfAny_P {s v : Nat} {x : AV} (h : selfAny s v x = true) : ∃ T, selfP T s v x = true := by
  cases x with
  | bfresh T s' v' => exact ⟨T, by simpa [selfAny, selfP] using h⟩
  | ptr s' v' o =>
    cases o with
    | zero => exact ⟨0, by simpa [selfAny, selfP] using h⟩
    | succ o => simp [selfAny] at h
  | _ => simp [selfAny] at h
theorem bstr_ok (hD : Sound C D) (hC : C.Fine) (hX : ∀ b, X b → C.B ≤ b) (hG0 : C.G w0) (hM : Mem X w0 pr0 bx pm w g) {d : Option Nat} {df : Option (Nat × List AV)} {f : Nat} {x : Opd} {vx : Value}
    (hx : ∀ r, evo e x = some r → Rd w g r vx) {ef : Eff} (h : step D d ⟨e, bx, pm, df⟩ (.bstr f x) = some ef) : Enters C.P f ∧ Calls C.P f #[vx] w (Left C X w0 pr0 bx pm w g ef) := by
  simp only [step] at h
  split at h
  · rename_i s v hxe
    unfold bstrK at h
    simp only at h
    split at h
    · rename_i Tb hDr
      split at h
      · rename_i v' a0 buf hbs
        split at h
        · rename_i hcond
          obtain ⟨rfl, hself⟩ := hcond
          obtain ⟨Tb', hself⟩ := selfAny_P hself
          have h1 := hx _ hxe
          simp only [Rd] at h1
          obtain ⟨b, n, hb, rfl⟩ := h1
          obtain ⟨hA, hB⟩ := wr_at hC hX hG0 hM hbs hself hb
          have hs : [] = ([] : List UInt8) ∧ ∀ T, SaysStr C T f := hD f _ _ hDr
          obtain ⟨_, hs⟩ := hs
          obtain ⟨hen, hcall⟩ := hs Tb'
          refine ⟨hen, ?_⟩
          unfold bstrB at h
          simp only at h
          split at h
          · obtain ⟨u0, T, hW⟩ := hA rfl
            simp only [Option.some.injEq] at h
            subst h
            refine (hcall w g.pr b n u0 _ T none [] hW (by simp)).mono fun en w' hp => ?_
            obtain ⟨pr', rfl, haft⟩ := hp
            obtain ⟨m1, q1⟩ := hM.turnedL (bx' := bx) haft.below (fun k hk => by simp at hk) (fun b o => pr' b o ∧ w.heap.size ≤ b) (fun b o h => ⟨h.2, haft.prlt b o h.1⟩) (fun s r cs h => ⟨cs, h⟩) (fun _ _ _ h => h) (fun s r cs h hd => .inl ⟨h, fun b n _ hk => by simp at hk⟩)
            exact ⟨rfl, _, by simp only [Rd], q1, by simpa [updL] using m1⟩
          · rename_i t r m
            split at h
            · rename_i r' cs hbt
              split at h
              · rename_i hc
                obtain ⟨rfl, hdt, hlen, hst, h200, hsz⟩ := hc
                obtain ⟨l0, hl0, rfl⟩ := Option.map_eq_some_iff.1 h
                obtain ⟨u0, u1, T, k, cap0, hW, hbk, hLBt⟩ := hB t r' m cs l0 rfl hbt hdt hlen hst h200 hl0
                refine (hcall w g.pr b n u0 u1 T (some k) l0 hW (by have := (asBytes_rd hl0 (asBytes_rdL w g hl0)).2; omega)).mono fun en w' hp => ?_
                obtain ⟨pr', rfl, haft⟩ := hp
                obtain ⟨m1, q1⟩ := hM.turnedL (bx' := upd bx t (r', gone)) haft.below (fun k' hk => by simp only [Option.some.injEq] at hk; subst hk; exact ⟨t, _, hLBt⟩) (fun b o => pr' b o ∧ w.heap.size ≤ b) (fun b o h => ⟨h.2, haft.prlt b o h.1⟩)
                  (fun s r cs h => by
                    by_cases hts : t = s
                    · subst hts
                      rw [hbt] at h
                      simp only [Option.some.injEq, Prod.mk.injEq] at h
                      exact ⟨gone, by rw [upd_same, h.1]⟩
                    · exact ⟨cs, by rw [upd_ne _ _ hts]; exact h⟩) map_gone
                  (fun s r cs h hd => by
                    by_cases hts : t = s
                    · subst hts
                      rw [upd_same] at h
                      simp only [Option.some.injEq, Prod.mk.injEq] at h
                      rw [← h.2] at hd
                      simp [deadC, gone] at hd
                    · rw [upd_ne _ _ hts] at h
                      refine .inl ⟨h, fun b n hb' hk => hts ?_⟩
                      simp only [Option.some.injEq] at hk
                      subst hk
                      exact hM.bxi t s _ _ n hLBt ⟨r, cs, h, hd, hb'⟩)
                exact ⟨rfl, _, by simp only [Rd], q1, by simpa [updL] using m1⟩
              · simp at h
            · simp at h
          · simp at h
        · simp at h
      · simp at h
    · simp at h
  · simp at h
end
end Go.Proofs.YtpkeiffclipjmaaGreatDoor.Rx
