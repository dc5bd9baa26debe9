/-
  Rx, part T: rows of operations, plain ones and such as draw their order.
-/
import Derived.Test.YtpkeiffclipjmaaGreatDoorRxS3
namespace Go.Proofs.YtpkeiffclipjmaaGreatDoor.Rx
open Go Go.RowKit
set_option linter.unusedSimpArgs false

/-- The calls that were put off. -/
def DfR (w : World) (g : Gh) (df : Option (Nat × List AV)) (ds : List Deferred) : Prop :=
  match df with
  | none => ds = []
  | some (f, caps) => ∃ cv : Array Value, ds = [{ target := .fn (.func f) cv, args := #[] }] ∧ RdL w g caps cv.toList
theorem DfR.later {w w' : World} {g g' : Gh} {df : Option (Nat × List AV)} {ds : List Deferred} (h : DfR w g df ds) (hl : Later w g w' g') : DfR w' g' df ds := by
  cases df with
  | none => exact h
  | some x =>
    obtain ⟨cv, h1, h2⟩ := h
    exact ⟨cv, h1, RdL.later _ hl h2⟩

structure Inv (X : Nat → Prop) (nt : Nat) (w0 : World) (pr0 : Nat → Nat → Prop) (st : St) (a : Act) (w : World) (g : Gh) : Prop where
  env : EnvR st.env a w g
  mem : Mem X w0 pr0 st.bx st.pm w g
  size : nt ≤ a.tmps.size
  defers : DfR w g st.df a.defers
/-- .. where it went up. -/
structure InvP (X : Nat → Prop) (w0 : World) (pr0 : Nat → Nat → Prop) (e0 : Env) (st : St) (a : Act) (w : World) (g : Gh) : Prop where
  env : EnvR e0 a w g
  mem : Mem X w0 pr0 st.bx st.pm w g
  defers : DfR w g st.df a.defers

section
variable {C : Cx} {K : Cfg} {X : Nat → Prop} {w0 w : World} {pr0 : Nat → Nat → Prop} {g : Gh} {e : Env} {a : Act} {D : Fun} {nt : Nat} {st : St}

theorem put_size (a : Act) (d : Option Tmp) (v : Value) : (a.put d v).tmps.size = a.tmps.size := by cases d <;> simp [Act.put]
theorem put_defers (a : Act) (d : Option Tmp) (v : Value) : (a.put d v).defers = a.defers := by cases d <;> rfl
theorem EnvR.later {w' : World} {g' : Gh} (hE : EnvR e a w g) (hl : Later w g w' g') : EnvR e a w' g' := by
  intro i x h
  obtain ⟨u, hu, hr⟩ := hE i x h
  exact ⟨u, hu, Rd.later x hl hr⟩
theorem EnvR.put (hE : EnvR e a w g) {d : Option Tmp} (hd : ∀ t, d = some t → t < a.tmps.size) {x : AV} {v : Value} (hr : Rd w g x v) : EnvR (setd e d x) (a.put d v) w g := by
  intro i y h
  cases d with
  | none => exact hE i y h
  | some d =>
    simp only [setd] at h
    have hlt := hd d rfl
    by_cases hdi : d = i
    · subst hdi
      rw [upd_same] at h
      simp only [Option.some.injEq] at h
      subst h
      exact ⟨v, by simp [Act.put, hlt], hr⟩
    · rw [upd_ne _ _ hdi] at h
      obtain ⟨u, hu, hru⟩ := hE i y h
      exact ⟨u, by simpa [Act.put, hdi] using hu, hru⟩
theorem Inv.done (hI : Inv X nt w0 pr0 st a w g) {w' : World} {g' : Gh} {d : Option Tmp} (hd : ∀ t, d = some t → t < nt) {ef : Eff} {v : Value} (hr : Rd w' g' ef.v v) (hl : Later w g w' g')
    (hM : Mem X w0 pr0 (updL st.bx ef.b) (updL st.pm ef.p) w' g') : Inv X nt w0 pr0 (eff st d ef) (a.put d v) w' g' :=
  ⟨(hI.env.later hl).put (fun t h => Nat.lt_of_lt_of_le (hd t h) hI.size) hr, hM, by rw [put_size]; exact hI.size, by rw [put_defers]; exact hI.defers.later hl⟩

/-- What is done behind an operation: on, or up. -/
def Then1 (C : Cx) (X : Nat → Prop) (nt : Nat) (w0 : World) (pr0 : Nat → Nat → Prop) (e0 : Env) (w : World) (g : Gh) (pan : Bool) (st' : St) (next : Act → World → Prop) (Q : Exit → Act → World → Prop) : Prop :=
  (pan = false → ∀ a' w' g', Inv X nt w0 pr0 st' a' w' g' → EnvR e0 a' w' g' → Later w g w' g' → next a' w') ∧
  (pan = true → ∀ a' w' g' v, C.od v → InvP X w0 pr0 e0 st' a' w' g' → Later w g w' g' → Q (.panic [{ v := v, recovered := false }]) a' w')

theorem one_ok (hD : Sound C D) (hC : C.Fine) (hX : ∀ b, X b → C.B ≤ b) (hG0 : C.G w0) {ops : Array Oper} {o : Oper} {bf : List Nat} {y : AOper} (hy : cmpO C.P K nt ops o bf = some y) {pan : Bool} {st' : St} (hs : stepO D st y = some (pan, st')) (hI : Inv X nt w0 pr0 st a w g)
    {e0 : Env} (hE0 : EnvR e0 a w g) (hd0 : ∀ t, o.dst = some t → e0 t = none) {next : Act → World → Prop} {Q : Exit → Act → World → Prop} (k : Then1 C X nt w0 pr0 e0 w g pan st' next Q) :
    if Region.wanted o (yielded ops a.tmps) then o.wp C.P a w next Q ∨ (o.asks C.P a w ∧ LetsOut Q) else next (a.put o.dst undef) w := by
  unfold cmpO at hy
  split at hy
  · rename_i gd p hgd hp
    split at hy
    · rename_i hdst
      simp only [Option.some.injEq] at hy
      subst hy
      have hd : ∀ t, o.dst = some t → t < nt := by
        intro t ht
        rw [ht] at hdst
        simpa [dstOk] using hdst
      obtain ⟨ef, hef, rfl, rfl⟩ := stepO_some.1 hs
      have keep0 : ∀ {w' : World} {g' : Gh} (v : Value), Later w g w' g' → EnvR e0 (a.put o.dst v) w' g' := by
        intro w' g' v hl i x hx
        obtain ⟨u, hu, hru⟩ := hE0.later hl i x hx
        refine ⟨u, ?_, hru⟩
        cases hdd : o.dst with
        | none => exact hu
        | some t =>
          have hti : t ≠ i := fun e => by subst e; rw [hd0 t hdd] at hx; simp at hx
          simpa [Act.put, hti] using hu
      have main : step D o.dst st p = some ef → o.wp C.P a w next Q := by
        intro h
        obtain ⟨e0, b0, p0, d0⟩ := st
        refine op_ok hD hC hX hG0 hp hI.env hI.mem h ⟨fun hp w' g' v h1 h2 h3 => k.1 hp _ _ _ (hI.done hd h1 h2 h3) (keep0 v h2) h2, fun hp w' g' v h1 h2 h3 => k.2 hp _ _ _ v h1 ⟨hE0.later h2, h3, hI.defers.later h2⟩ h2⟩
      unfold cmpG at hgd
      cases hg : o.guard with
      | none =>
        rw [hg] at hgd
        simp only [Option.some.injEq] at hgd
        subst hgd
        have hw : Region.wanted o (yielded ops a.tmps) = true := by simp [Region.wanted, hg]
        rw [hw]
        simp only [if_true]
        exact .inl (main hef)
      | some jw =>
        obtain ⟨j, want⟩ := jw
        rw [hg] at hgd
        simp only at hgd
        split at hgd
        · rename_i d hjd
          simp only [Option.some.injEq] at hgd
          subst hgd
          simp only [stepG] at hef
          split at hef
          · rename_i b hb
            obtain ⟨u, hu, hru⟩ := hI.env d _ hb
            simp only [Rd] at hru
            subst hru
            have hy : yielded ops a.tmps j = some b := by simp [yielded, hjd, hu]
            have hw : Region.wanted o (yielded ops a.tmps) = decide (b = want) := by
              simp only [Region.wanted, hg, hy]
              cases b <;> cases want <;> rfl
            rw [hw]
            by_cases hbw : b = want
            · simp only [hbw, decide_true, if_true] at hef ⊢
              exact .inl (main hef)
            · simp only [hbw, decide_false, if_false, Bool.false_eq_true, Option.some.injEq] at hef ⊢
              subst hef
              exact k.1 rfl _ _ _ (hI.done hd (ef := ⟨.tup [], [], [], false⟩) (v := undef) (by simp [Rd, RdL, undef]) (Later.refl w g) hI.mem) (keep0 undef (Later.refl w g)) (Later.refl w g)
          · rename_i hb
            obtain ⟨u, hu, hru⟩ := hI.env d _ hb
            simp only [Rd, RdL] at hru
            obtain ⟨vs, rfl, hvs⟩ := hru
            have hy : yielded ops a.tmps j = none := by simp [yielded, hjd, hu]
            have hw : Region.wanted o (yielded ops a.tmps) = false := by simp [Region.wanted, hg, hy]
            rw [hw]
            simp only [Bool.false_eq_true, if_false, Option.some.injEq] at hef ⊢
            subst hef
            exact k.1 rfl _ _ _ (hI.done hd (ef := ⟨.tup [], [], [], false⟩) (v := undef) (by simp [Rd, RdL, undef]) (Later.refl w g) hI.mem) (keep0 undef (Later.refl w g)) (Later.refl w g)
          · simp at hef
        · simp at hgd
    · simp at hy
  · simp at hy

/-- .. behind a region's operations. -/
def KontO (C : Cx) (X : Nat → Prop) (nt : Nat) (w0 : World) (pr0 : Nat → Nat → Prop) (e0 : Env) (w : World) (g : Gh) (ex : Ex) (st' : St) (Q : Exit → Act → World → Prop) : Prop :=
  match ex with
  | .pan => ∀ a' w' g' v, C.od v → InvP X w0 pr0 e0 st' a' w' g' → Later w g w' g' → Q (.panic [{ v := v, recovered := false }]) a' w'
  | .nrm => ∀ a' w' g', Inv X nt w0 pr0 st' a' w' g' → Later w g w' g' → Q .normal a' w'
  | _ => True
theorem KontO.later {e0 : Env} {ex : Ex} {st' : St} {Q : Exit → Act → World → Prop} (k : KontO C X nt w0 pr0 e0 w g ex st' Q) {w' : World} {g' : Gh} (hl : Later w g w' g') : KontO C X nt w0 pr0 e0 w' g' ex st' Q := by
  cases ex with
  | pan => exact fun a2 w2 g2 v h1 h2 h3 => k a2 w2 g2 v h1 h2 (hl.trans h3)
  | nrm => exact fun a2 w2 g2 h1 h2 => k a2 w2 g2 h1 (hl.trans h2)
  | exit id => trivial
  | ret => trivial
/-- What is done behind a row of code. -/
def Kont (C : Cx) (X : Nat → Prop) (nt : Nat) (w0 : World) (pr0 : Nat → Nat → Prop) (w : World) (g : Gh) (ex : Ex) (st' : St) (Q : Exit → Act → World → Prop) : Prop :=
  match ex with
  | .pan => ∀ a' w' g' v, C.od v → InvP X w0 pr0 st'.env st' a' w' g' → Later w g w' g' → Q (.panic [{ v := v, recovered := false }]) a' w'
  | .nrm => ∀ a' w' g', Inv X nt w0 pr0 st' a' w' g' → Later w g w' g' → Q .normal a' w'
  | .exit id => ∀ a' w' g', Inv X nt w0 pr0 st' a' w' g' → Later w g w' g' → Q (.exit id) a' w'
  | .ret => ∀ a' w' g', Inv X nt w0 pr0 st' a' w' g' → Later w g w' g' → Q .ret a' w'
theorem Kont.later {ex : Ex} {st' : St} {Q : Exit → Act → World → Prop} (k : Kont C X nt w0 pr0 w g ex st' Q) {w' : World} {g' : Gh} (hl : Later w g w' g') : Kont C X nt w0 pr0 w' g' ex st' Q := by
  cases ex with
  | pan => exact fun a2 w2 g2 v h1 h2 h3 => k a2 w2 g2 v h1 h2 (hl.trans h3)
  | nrm => exact fun a2 w2 g2 h1 h2 => k a2 w2 g2 h1 (hl.trans h2)
  | exit id => exact fun a2 w2 g2 h1 h2 => k a2 w2 g2 h1 (hl.trans h2)
  | ret => exact fun a2 w2 g2 h1 h2 => k a2 w2 g2 h1 (hl.trans h2)

theorem ops_ok (hD : Sound C D) (hC : C.Fine) (hX : ∀ b, X b → C.B ≤ b) (hG0 : C.G w0) {ops : Array Oper} {Q : Exit → Act → World → Prop} {e0 : Env} : ∀ (l : List Oper) (bs : List (List Nat)) (l' : List AOper) (i : Nat) (st : St) (ex : Ex) (st' : St) (a : Act) (w : World) (g : Gh), (∀ j, l[j]? = ops[i + j]?) →
    cmpOs C.P K nt ops l bs = some l' → stepsO D l' st = some (ex, st') → Inv X nt w0 pr0 st a w g → EnvR e0 a w g → (∀ o ∈ l, ∀ t, o.dst = some t → e0 t = none) → KontO C X nt w0 pr0 e0 w g ex st' Q → wpOps C.P ops Q (List.range' i l.length) a w
  | [], bs, l', i, st, ex, st', a, w, g, _, hc, hs, hI, _, _, k => by
    simp only [cmpOs, Option.some.injEq] at hc
    subst hc
    simp only [stepsO, Option.some.injEq, Prod.mk.injEq] at hs
    obtain ⟨rfl, rfl⟩ := hs
    simp only [List.length_nil, List.range'_zero, wpOps]
    exact k a w g hI (Later.refl w g)
  | o :: l, bs, l', i, st, ex, st', a, w, g, hj, hc, hs, hI, hE0, hd0, k => by
    cases bs with
    | nil => simp [cmpOs] at hc
    | cons b bs =>
      simp only [cmpOs] at hc
      split at hc
      · rename_i y l2 hy hl2
        simp only [Option.some.injEq] at hc
        subst hc
        have h0 : ops[i]? = some o := by simpa using (hj 0).symm
        have hj' : ∀ j, l[j]? = ops[i + 1 + j]? := fun j => by have := hj (j + 1); simpa [Nat.add_assoc, Nat.add_comm 1 j] using this
        simp only [stepsO] at hs
        have fini : ∀ pan st1, stepO D st y = some (pan, st1) → Then1 C X nt w0 pr0 e0 w g pan st1 (wpOps C.P ops Q (List.range' (i + 1) l.length)) Q → wpOps C.P ops Q (List.range' i (o :: l).length) a w := by
          intro pan st1 h1 h2
          have := one_ok hD hC hX hG0 hy h1 hI hE0 (hd0 o (by simp)) h2
          simp only [List.length_cons, List.range'_succ, wpOps, h0]
          exact this
        split at hs
        · rename_i st1 hs1
          exact fini false st1 hs1 ⟨fun _ a' w' g' hI' hE' hl => ops_ok hD hC hX hG0 l bs l2 (i + 1) st1 ex st' a' w' g' hj' hl2 hs hI' hE' (fun o ho => hd0 o (by simp [ho])) (k.later hl), fun h => by simp at h⟩
        · rename_i st1 hs1
          simp only [Option.some.injEq, Prod.mk.injEq] at hs
          obtain ⟨rfl, rfl⟩ := hs
          exact fini true st1 hs1 ⟨fun h => by simp at h, fun _ => k⟩
        · simp at hs
      · simp at hc

/-! ### Rows that draw their order -/
theorem cmpOs_get {ops : Array Oper} : ∀ {l : List Oper} {bs : List (List Nat)} {l' : List AOper}, cmpOs C.P K nt ops l bs = some l' → l'.length = l.length ∧ ∀ (j : Nat) (o : Oper), l[j]? = some o → ∃ b y, bs[j]? = some b ∧ l'[j]? = some y ∧ cmpO C.P K nt ops o b = some y
  | [], bs, l', h => by
    simp only [cmpOs, Option.some.injEq] at h
    subst h
    exact ⟨rfl, fun j o e => by simp at e⟩
  | o :: l, [], l', h => by simp [cmpOs] at h
  | o :: l, b :: bs, l', h => by
    simp only [cmpOs] at h
    split at h
    · rename_i y l2 hy hl2
      simp only [Option.some.injEq] at h
      subst h
      obtain ⟨h1, h2⟩ := cmpOs_get hl2
      refine ⟨by simp [h1], fun j o' e => ?_⟩
      cases j with
      | zero => simp at e; subst e; exact ⟨b, y, rfl, rfl, hy⟩
      | succ j => simp only [List.getElem?_cons_succ] at e ⊢; exact h2 j o' e
    · simp at h
theorem cmpO_spec {ops : Array Oper} {o : Oper} {b : List Nat} {y : AOper} (h : cmpO C.P K nt ops o b = some y) : ∀ x ∈ y.bf, x ∈ b := by
  unfold cmpO at h
  split at h
  · split at h
    · simp only [Option.some.injEq] at h
      subst h
      intro x hx
      simp only [bfO] at hx
      exact (List.mem_filter.1 hx).1
    · simp at h
  · simp at h

theorem bfL_len : ∀ (l : List Oper) (acc : List (List Nat)), (bfL l acc).length = acc.length + l.length
  | [], acc => by simp [bfL]
  | o :: l, acc => by simp only [bfL]; rw [bfL_len l]; simp; omega
theorem bfL_old : ∀ (l : List Oper) (acc : List (List Nat)) (j : Nat), j < acc.length → (bfL l acc)[j]? = acc[j]?
  | [], acc, j, _ => rfl
  | o :: l, acc, j, h => by
    simp only [bfL]
    rw [bfL_old l _ j (by simp; omega), List.getElem?_append_left h]
theorem bfL_spec : ∀ (l : List Oper) (acc : List (List Nat)) (j : Nat) (o : Oper), l[j]? = some o → ∃ b, (bfL l acc)[acc.length + j]? = some b ∧ ∀ x ∈ b, x ∈ direct o ∨ ∃ i ∈ direct o, i < acc.length + j ∧ x ∈ (bfL l acc).getD i []
  | [], acc, j, o, h => by simp at h
  | o' :: l, acc, j, o, h => by
    cases j with
    | zero =>
      simp at h
      subst h
      simp only [bfL]
      refine ⟨_, by rw [bfL_old l _ _ (by simp)]; simp; rfl, fun x hx => ?_⟩
      have hx' := List.mem_eraseDups.1 hx
      rcases List.mem_append.1 hx' with hx' | hx'
      · exact .inl hx'
      · obtain ⟨i, hi, hxi⟩ := List.mem_flatMap.1 hx'
        refine .inr ⟨i, hi, ?_⟩
        have hlt : i < acc.length := by
          rcases Nat.lt_or_ge i acc.length with hlt | hge
          · exact hlt
          · simp [List.getD_eq_getElem?_getD, List.getElem?_eq_none hge] at hxi
        refine ⟨by omega, ?_⟩
        rw [List.getD_eq_getElem?_getD, bfL_old l _ i (by simp; omega), List.getElem?_append_left hlt, ← List.getD_eq_getElem?_getD]
        exact hxi
    | succ j =>
      simp at h
      obtain ⟨b, hb, hx⟩ := bfL_spec l (acc ++ [(direct o' ++ (direct o').flatMap fun j => acc.getD j []).eraseDups]) j o h
      simp only [bfL]
      have e : (acc ++ [(direct o' ++ (direct o').flatMap fun j => acc.getD j []).eraseDups]).length + j = acc.length + (j + 1) := by simp; omega
      rw [e] at hb
      exact ⟨b, hb, fun x h' => by have := hx x h'; rw [e] at this; exact this⟩

/-- What is closed under 'direct' holds all that stands ahead. -/
theorem bf_closed {l : List Oper} {S : Nat → Prop} (hS : ∀ (j : Nat) (o : Oper), l[j]? = some o → S j → ∀ x ∈ direct o, S x) :
    ∀ (n j : Nat) (o : Oper), j ≤ n → l[j]? = some o → (∀ x ∈ direct o, S x) → ∀ x ∈ (bfL l []).getD j [], S x := by
  intro n
  induction n using Nat.strongRecOn with
  | _ n ih =>
    intro j o hj ho hd x hx
    obtain ⟨b, hb, hspec⟩ := bfL_spec l [] j o ho
    simp only [List.length_nil, Nat.zero_add] at hb hspec
    rw [List.getD_eq_getElem?_getD, hb, Option.getD_some] at hx
    rcases hspec x hx with h | ⟨i, hi, hlt, hxi⟩
    · exact hd x h
    · have hil : i < l.length := by
        have := (List.getElem?_eq_some_iff.1 ho).1
        omega
      have hio := List.getElem?_eq_getElem hil
      exact ih (n - 1) (by omega) i _ (by omega) hio (hS i _ hio (hd i hi)) x hxi

theorem mem_ready {ops : Array Oper} {listed : Array Bool} {i : Nat} : i ∈ Region.ready .any ops listed ↔ ∃ o, ops[i]? = some o ∧ listed.getD i true = false ∧ ∀ x ∈ direct o, listed.getD x false = true := by
  unfold Region.ready
  rw [List.mem_filter, List.mem_range]
  constructor
  · rintro ⟨h1, h2⟩
    simp only [Bool.and_eq_true, Bool.not_eq_true'] at h2
    refine ⟨ops[i], Array.getElem?_eq_getElem h1, h2.1, ?_⟩
    have h3 := h2.2
    rw [Array.getElem?_eq_getElem h1] at h3
    simp only [Option.map_some, Option.getD_some, Array.all_eq_true_iff_forall_mem, Bool.or_eq_true, Bool.not_eq_true'] at h3
    intro x hx
    unfold direct at hx
    obtain ⟨ed, hed, rfl⟩ := List.mem_map.1 hx
    obtain ⟨hm, hb⟩ := List.mem_filter.1 hed
    rcases h3 ed (by simpa using hm) with h | h
    · rw [h] at hb; simp at hb
    · exact h
  · rintro ⟨o, h1, h2, h3⟩
    have hlt := (Array.getElem?_eq_some_iff.1 h1).1
    refine ⟨hlt, ?_⟩
    rw [h2, h1]
    simp only [Option.map_some, Option.getD_some, Bool.not_false, Bool.true_and, Array.all_eq_true_iff_forall_mem, Bool.or_eq_true, Bool.not_eq_true']
    intro ed hed
    cases hb : Region.binds .any ed with
    | false => exact .inl rfl
    | true => exact .inr (h3 ed.on (by unfold direct; exact List.mem_map.2 ⟨ed, List.mem_filter.2 ⟨by simpa using hed, hb⟩, rfl⟩))

/-- What is still to come. 'y', if some: behind the row there is one that goes up, and more that never comes. -/
structure Rest (C : Cx) (K : Cfg) (nt : Nat) (ops : Array Oper) (listed : Array Bool) (l : Row) (y : Option RowE) : Prop where
  size : listed.size = ops.size
  has : ∀ i, i < ops.size → (listed.getD i true = false ↔ (∃ x ∈ l, x.1 = i) ∨ ∃ z, y = some z ∧ z.1 ≤ i)
  lt : ∀ x ∈ l, x.1 < ops.size
  ylt : ∀ z, y = some z → z.1 < ops.size ∧ ∀ x ∈ l, x.1 < z.1
  cmp : ∀ x, (x ∈ l ∨ y = some x) → ∃ o b, ops[x.1]? = some o ∧ cmpO C.P K nt ops o b = some x.2.1 ∧ b = (bfL ops.toList []).getD x.1 []
  ordered : l.Pairwise fun x y => x.1 < y.1
  pairs : l.Pairwise fun x y => x.1 ∈ (bfL ops.toList []).getD y.1 [] ∨ (apartT x.2.1 y.2.1 = true ∧ apartX x y)
  ypairs : ∀ z, y = some z → ∀ x ∈ l, x.1 ∈ (bfL ops.toList []).getD z.1 [] ∨ (apartT x.2.1 z.2.1 = true ∧ apartX x z ∧ idle x)
  ybehind : ∀ z, y = some z → ∀ i, i < ops.size → z.1 < i → z.1 ∈ (bfL ops.toList []).getD i []
  closed : ∀ (j : Nat) (o : Oper), ops[j]? = some o → listed.getD j false = true → ∀ x ∈ direct o, listed.getD x false = true
  back : ∀ (j : Nat) (o : Oper), ops[j]? = some o → ∀ x ∈ direct o, x < j

theorem getD_true_false {listed : Array Bool} {i : Nat} (h : i < listed.size) : listed.getD i true = listed.getD i false := by
  simp [Array.getD, h]

/-- The row, and where it ends. -/
def SeqE (D : Fun) (l : Row) (y : Option RowE) (st r : St) : Prop := match y with
  | none => SeqR D l st r
  | some y => SeqP D l y st r
def Ends (C : Cx) (X : Nat → Prop) (nt : Nat) (w0 : World) (pr0 : Nat → Nat → Prop) (e0 : Env) (w : World) (g : Gh) (y : Option RowE) (r : St) (Q : Exit → Act → World → Prop) : Prop := match y with
  | none => KontO C X nt w0 pr0 e0 w g .nrm r Q
  | some _ => KontO C X nt w0 pr0 e0 w g .pan r Q

theorem Ends.later {e0 : Env} {y : Option RowE} {r : St} {Q : Exit → Act → World → Prop} (k : Ends C X nt w0 pr0 e0 w g y r Q) {w' : World} {g' : Gh} (hl : Later w g w' g') : Ends C X nt w0 pr0 e0 w' g' y r Q := by
  cases y with
  | none => exact KontO.later (C := C) (e0 := e0) (ex := .nrm) k hl
  | some y => exact KontO.later (C := C) (nt := nt) (ex := .pan) k hl

theorem any_ok (hD : Sound C D) (hC : C.Fine) (hX : ∀ b, X b → C.B ≤ b) (hG0 : C.G w0) {ops : Array Oper} {Q : Exit → Act → World → Prop} {r : St} {y : Option RowE} {e0 : Env} (hd0 : ∀ o ∈ ops.toList, ∀ t, o.dst = some t → e0 t = none) :
    ∀ (fuel : Nat) (listed : Array Bool) (l : Row) (st : St) (a : Act) (w : World) (g : Gh), l.length + (if y.isSome then 1 else 0) ≤ fuel → Rest C K nt ops listed l y → SeqE D l y st r → Inv X nt w0 pr0 st a w g → EnvR e0 a w g →
      Ends C X nt w0 pr0 e0 w g y r Q → wpAny C.P .any ops Q fuel listed a w := by
  have first : ∀ (listed : Array Bool) (l : Row), Rest C K nt ops listed l y → ∀ x : RowE, (x ∈ l ∨ y = some x) → (∀ z ∈ l, x.1 ≤ z.1) → (∀ z, y = some z → x.1 ≤ z.1) → x.1 ∈ Region.ready .any ops listed := by
    intro listed l hR x hx hmin hmy
    obtain ⟨o, b, ho, _⟩ := hR.cmp x hx
    have hlt : x.1 < ops.size := (Array.getElem?_eq_some_iff.1 ho).1
    refine mem_ready.2 ⟨o, ho, (hR.has x.1 hlt).2 ?_, fun j hj => ?_⟩
    · rcases hx with hx | hx
      · exact .inl ⟨x, hx, rfl⟩
      · exact .inr ⟨x, hx, Nat.le_refl _⟩
    · have hjx := hR.back x.1 o ho j hj
      rw [← getD_true_false (by rw [hR.size]; omega)]
      cases hb : listed.getD j true with
      | true => rfl
      | false =>
        rcases (hR.has j (by omega)).1 hb with ⟨z, hz, rfl⟩ | ⟨z, hz, hzj⟩
        · have := hmin z hz; omega
        · have := hmy z hz; omega
  have ends : ∀ (listed : Array Bool) (l : Row), Rest C K nt ops listed l y → Region.ready .any ops listed = [] → l = [] ∧ y = none := by
    intro listed l hR hr
    cases l with
    | nil =>
      refine ⟨rfl, ?_⟩
      cases hy : y with
      | none => rfl
      | some z =>
        have := first listed [] hR z (.inr hy) (by simp) (fun z' hz' => by rw [hy] at hz'; simp only [Option.some.injEq] at hz'; subst hz'; exact Nat.le_refl _)
        rw [hr] at this
        simp at this
    | cons x l =>
      have := first listed (x :: l) hR x (.inl (by simp)) (fun z hz => by
        rcases List.mem_cons.1 hz with rfl | hz
        · exact Nat.le_refl _
        · exact Nat.le_of_lt ((List.pairwise_cons.1 hR.ordered).1 z hz)) (fun z hz => Nat.le_of_lt ((hR.ylt z hz).2 x (by simp)))
      rw [hr] at this
      simp at this
  intro fuel
  induction fuel with
  | zero =>
    intro listed l st a w g hf hR hS hI hE0 k
    cases y with
    | some y => simp at hf
    | none =>
      have hl : l = [] := List.eq_nil_of_length_eq_zero (by simpa using hf)
      subst hl
      refine ⟨?_, ?_⟩
      · apply List.eq_nil_iff_forall_not_mem.2
        intro i hi
        obtain ⟨o, ho, h1, _⟩ := mem_ready.1 hi
        rcases (hR.has i (Array.getElem?_eq_some_iff.1 ho).1).1 h1 with ⟨x, hx, _⟩ | ⟨z, hz, _⟩
        · simp at hx
        · simp at hz
      · have : st = r := hS
        subst this
        exact k a w g hI (Later.refl w g)
  | succ fuel ih =>
    intro listed l st a w g hf hR hS hI hE0 k
    refine ⟨fun hr => ?_, fun i hi => ?_⟩
    · obtain ⟨hl, hy⟩ := ends listed l hR hr
      subst hl hy
      have : st = r := hS
      subst this
      exact k a w g hI (Later.refl w g)
    · obtain ⟨o, ho, h1, h2⟩ := mem_ready.1 hi
      have hlt := (Array.getElem?_eq_some_iff.1 ho).1
      have hbf : ∀ x ∈ (bfL ops.toList []).getD i [], listed.getD x false = true :=
        bf_closed (l := ops.toList) (S := fun x => listed.getD x false = true) (fun j o hj => hR.closed j o (by simpa using hj)) i i o (Nat.le_refl _) (by simpa using ho) h2
      have notIn : ∀ x ∈ l, x.1 ∉ (bfL ops.toList []).getD i [] := by
        intro x hx h
        have h3 := hbf x.1 h
        have h4 := (hR.has x.1 (hR.lt x hx)).2 (.inl ⟨x, hx, rfl⟩)
        rw [getD_true_false (by rw [hR.size]; exact hR.lt x hx), h3] at h4
        simp at h4
      rcases (hR.has i hlt).1 h1 with ⟨z, hz, rfl⟩ | ⟨z, hz, hzi⟩
      · obtain ⟨l1, l2, rfl⟩ := List.append_of_mem hz
        obtain ⟨o', b, ho', hcmp, hb⟩ := hR.cmp z (.inl hz)
        rw [ho] at ho'
        simp only [Option.some.injEq] at ho'
        subst ho'
        have hind : ∀ x ∈ l1, apartT x.2.1 z.2.1 = true ∧ apartX x z := by
          intro x hx
          rcases (List.pairwise_append.1 hR.pairs).2.2 x hx z (by simp) with h | h
          · exact absurd h (notIn x (by simp [hx]))
          · exact h
        obtain ⟨s, hs, hS'⟩ : ∃ s, stepO D st z.2.1 = some (false, s) ∧ SeqE D (l1 ++ l2) y s r := by
          cases y with
          | none =>
            obtain ⟨_, s, hs, hS'⟩ := SeqR.front D l2 l1 hS hind
            exact ⟨s, hs, hS'⟩
          | some y =>
            obtain ⟨s0, hq, h3, h4⟩ := hS
            obtain ⟨_, s, hs, hS'⟩ := SeqR.front D l2 l1 hq hind
            exact ⟨s, hs, s0, hS', h3, h4⟩
        have hyn : ∀ x ∈ l1 ++ l2, x.1 ≠ z.1 := by
          intro x hx e
          rcases List.mem_append.1 hx with hx | hx
          · have := (List.pairwise_append.1 hR.ordered).2.2 x hx z (by simp)
            omega
          · have := (List.pairwise_cons.1 (List.pairwise_append.1 hR.ordered).2.1).1 x hx
            omega
        have hsub : (l1 ++ l2).Sublist (l1 ++ z :: l2) := List.Sublist.append_left (List.sublist_cons_self z l2) l1
        have hR' : Rest C K nt ops (listed.setIfInBounds z.1 true) (l1 ++ l2) y := by
          refine ⟨by simp [hR.size], fun i hi => ?_, fun x hx => hR.lt x (hsub.subset hx), fun u hu => ⟨(hR.ylt u hu).1, fun x hx => (hR.ylt u hu).2 x (hsub.subset hx)⟩, fun x hx => hR.cmp x (hx.imp (fun h => hsub.subset h) id), hR.ordered.sublist hsub, hR.pairs.sublist hsub,
            fun u hu x hx => hR.ypairs u hu x (hsub.subset hx), hR.ybehind, ?_, hR.back⟩
          · by_cases he : z.1 = i
            · subst he
              have : (listed.setIfInBounds z.1 true).getD z.1 true = true := by
                simp [Array.getD_eq_getD_getElem?, Array.getElem?_setIfInBounds, hR.size, hlt]
              rw [this]
              simp only [Bool.true_eq_false, false_iff]
              rintro (⟨x, hx, e⟩ | ⟨u, hu, e⟩)
              · exact hyn x hx e
              · have := (hR.ylt u hu).2 z (by simp)
                omega
            · have : (listed.setIfInBounds z.1 true).getD i true = listed.getD i true := by
                simp [Array.getD_eq_getD_getElem?, Array.getElem?_setIfInBounds, he]
              rw [this, hR.has i hi]
              refine or_congr ?_ Iff.rfl
              constructor
              · rintro ⟨x, hx, hxi⟩
                refine ⟨x, ?_, hxi⟩
                simp only [List.mem_append, List.mem_cons] at hx ⊢
                rcases hx with hx | rfl | hx
                · exact .inl hx
                · exact absurd hxi he
                · exact .inr hx
              · rintro ⟨x, hx, hxi⟩
                exact ⟨x, hsub.subset hx, hxi⟩
          · intro j oj hoj hj x hx
            have mono : ∀ u, listed.getD u false = true → (listed.setIfInBounds z.1 true).getD u false = true := by
              intro u hu
              by_cases he : z.1 = u
              · subst he; simp [Array.getD_eq_getD_getElem?, Array.getElem?_setIfInBounds, hR.size, hlt]
              · simpa [Array.getD_eq_getD_getElem?, Array.getElem?_setIfInBounds, he] using hu
            by_cases he : z.1 = j
            · subst he
              rw [ho] at hoj
              simp only [Option.some.injEq] at hoj
              subst hoj
              exact mono x (h2 x hx)
            · refine mono x (hR.closed j oj hoj ?_ x hx)
              simpa [Array.getD_eq_getD_getElem?, Array.getElem?_setIfInBounds, he] using hj
        have hlen : (l1 ++ l2).length + (if y.isSome then 1 else 0) ≤ fuel := by simp at hf ⊢; omega
        have := one_ok (next := wpAny C.P .any ops Q fuel (listed.setIfInBounds z.1 true)) (Q := Q) hD hC hX hG0 hcmp hs hI hE0 (hd0 o (by have := Array.mem_of_getElem? ho; simpa using this)) ⟨fun _ a' w' g' hI' hE' hl =>
          ih _ (l1 ++ l2) s a' w' g' hlen hR' hS' hI' hE' (k.later hl), fun h => by simp at h⟩
        simp only [wpOp, ho]
        exact this
      · have hzi' : z.1 = i := by
          rcases Nat.lt_or_ge z.1 i with h | h
          · exfalso
            have h3 := hbf z.1 (hR.ybehind z hz i hlt h)
            have hzl := (hR.ylt z hz).1
            have h4 := (hR.has z.1 hzl).2 (.inr ⟨z, hz, Nat.le_refl _⟩)
            rw [getD_true_false (by rw [hR.size]; exact hzl), h3] at h4
            simp at h4
          · omega
        subst hzi'
        obtain ⟨o', b, ho', hcmp, hb⟩ := hR.cmp z (.inr hz)
        rw [ho] at ho'
        simp only [Option.some.injEq] at ho'
        subst ho'
        subst hz
        have hS0 : SeqP D l z st r := hS
        obtain ⟨_, r', hr', e1, e2, e3⟩ := hS0.front (D := D) l (fun x hx => by
          rcases hR.ypairs z rfl x hx with h | h
          · exact absurd h (notIn x hx)
          · exact h)
        have := one_ok (next := wpAny C.P .any ops Q fuel (listed.setIfInBounds z.1 true)) (Q := Q) hD hC hX hG0 hcmp hr' hI hE0 (hd0 o (by have := Array.mem_of_getElem? ho; simpa using this)) ⟨fun h => by simp at h, fun _ a' w' g' v hv hI' hl => k a' w' g' v hv ⟨hI'.env, by rw [← e1, ← e2]; exact hI'.mem, by rw [← e3]; exact hI'.defers⟩ hl⟩
        simp only [wpOp, ho]
        exact this
end
end Go.Proofs.YtpkeiffclipjmaaGreatDoor.Rx
