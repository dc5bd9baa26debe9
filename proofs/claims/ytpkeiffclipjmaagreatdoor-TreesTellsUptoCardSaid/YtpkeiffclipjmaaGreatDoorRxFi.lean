/-
  Functions told by hand: Sort.
-/
import Derived.Test.YtpkeiffclipjmaaGreatDoorRxZc
namespace Go.Proofs.YtpkeiffclipjmaaGreatDoor.Rx
open Go Go.RowKit
set_option maxRecDepth 100000
set_option linter.unusedSimpArgs false
set_option linter.unusedVariables false

namespace Q
theorem sortStable_den (n : Nat) (l : List It) (hl : l.length = n) (X : List It) (hX : X.length = n) (h : Den Sy 59 [.row 4 true n (cl l), .int .i64 n, .met 37] = some (.out false (.tup []) [cl X])) :
    Den Sy 38 [.row 4 true n (cl l), .met 37] = some (.out false (.tup []) [cl X]) := by
  have hd0 := cl_dead l
  have hd1 := cl_dead X
  have hlen : (cl X).length = (cl l).length := by rw [cl_len, cl_len, hl, hX]
  have hcl : (cl l).length = n * 4 := by rw [cl_len, hl]
  have hpub := cl_pub l
  have hpub1 := cl_pub X
  generalize cl X = C' at *
  generalize cl l = C at *
  rw [Den_fun Sy (af := A38) rfl rfl _ rfl]
  simp [A38, handed, h, hd0, hd1, hlen, hcl, hpub, hpub1, lend, -deadC]
end Q
/-! ### Rows of items and cells -/
theorem rdl_cl {w : World} {g : Gh} : ∀ {t : List It} {us : List Value}, RdL w g (cl t) us → us = t.flatMap encI
  | [], us, h => by simpa [cl, RdL] using h
  | x :: t, us, h => by
    simp only [cl, List.flatMap_cons, iC, List.cons_append, List.nil_append, RdL, Rd] at h
    obtain ⟨u1, us1, rfl, rfl, u2, us2, rfl, rfl, u3, us3, rfl, rfl, u4, us4, rfl, rfl, h⟩ := h
    rw [rdl_cl h]
    rfl
theorem cl_rdl (w : World) (g : Gh) : ∀ t : List It, RdL w g (cl t) (t.flatMap encI)
  | [] => by simp [cl, RdL]
  | x :: t => by
    simp only [cl, List.flatMap_cons, iC, List.cons_append, List.nil_append, RdL, Rd, encI]
    exact ⟨_, _, rfl, rfl, _, _, rfl, rfl, _, _, rfl, rfl, _, _, rfl, rfl, cl_rdl w g t⟩
theorem encs_len (t : List It) : (t.flatMap encI).length = t.length * 4 := by
  induction t with
  | nil => rfl
  | cons x t ih => rw [List.flatMap_cons, List.length_append, ih, encI_len, List.length_cons]; omega
theorem flat_one (t : List It) : ∀ u ∈ t.flatMap encI, u.oneCell' = true := by
  intro u hu
  obtain ⟨x, _, hx⟩ := List.mem_flatMap.1 hu
  simp only [encI, List.mem_cons, List.not_mem_nil, or_false] at hx
  rcases hx with rfl | rfl | rfl | rfl <;> rfl
/-- A row of items that is the call's own reads as one outside. -/
theorem own_rd {w w' : World} {pr : Nat → Nat → Prop} (hpr : ∀ b o, pr b o → b < w.heap.size) (hb : Below w.heap.size w w') {v : Value} {t : List It} (ho : w'.ownsRow w.heap.size 42 4 v t.length (t.flatMap encI)) {Y : Nat → Prop} :
    ∃ pr', Aft w w' pr pr' Y ∧ Rd w' (pubG pr') (sI t) v := by
  rcases ho.2 with ⟨rfl, h0⟩ | ⟨g, cap, cur, rfl, hbg, hgg, hnc, hcm, hcs, htake⟩
  · have e := List.eq_nil_of_length_eq_zero h0
    subst e
    refine ⟨pr, Aft.same hb hpr, ?_⟩
    simp only [Rd, List.map_nil, RdL]
    exact ⟨[], rfl, ⟨none, 0, rfl, Nat.le_refl _, by simp, by simp [flatV], fun h => absurd rfl h⟩, trivial⟩
  · have := fresh_row (Y := Y) hpr hb (k := 4) (b := g) (cap := cap) (its_rd w (pubG pr) t) (by simp [encI, Value.cells]) (by rw [flatV_its]; exact flat_one t) hbg hgg (by rw [flatV_its, encs_len]; exact htake) (by rw [List.length_map]; exact hnc)
    obtain ⟨pr', h1, h2⟩ := this
    rw [List.length_map] at h2
    exact ⟨pr', h1, h2⟩

/-! ### trees.Sort -/
theorem clone_call (t : List It) (a : Option Addr) (cap : Nat) (w : World) (hr : ItRow w a t cap) (hn : t ≠ []) (hbig : t.length ≤ bigP) :
    Calls Tryz.prog 36 #[.slice a t.length cap] w fun e w' => ∃ v', e = .returned v' ∧ w'.ownsRow w.heap.size 42 4 v' t.length (t.flatMap encI) ∧ v' ≠ .slice none 0 0 ∧ Below w.heap.size w w' := by
  obtain ⟨b, o, rfl, hb, hc⟩ := hr.row hn
  obtain ⟨i0, hi0, hz0, hz1, hz2⟩ := info_parts info42p
  have hB : bigP = 1099511627776 := rfl
  refine AnyE.slices_Clone Tryz.l36 i0 _ 4 48 hi0 hz0 hz1 hz2 rfl (by omega) Tryz.sizeOf42 b o t.length cap (t.flatMap encI) w (encs_len t) (by simp only [maxLen]; omega) (by omega) (fun j u hu => ?_) (flat_one t)
  have hj : j < t.length * 4 := by have := (List.getElem?_eq_some_iff.1 hu).1; rw [encs_len] at this; exact this
  have hq : j / 4 < t.length := by omega
  have hx : t[j / 4]? = some t[j / 4] := List.getElem?_eq_getElem hq
  have := its_at t (j / 4) (j % 4) t[j / 4] hx (by omega)
  rw [show j / 4 * 4 + j % 4 = j by omega, hu] at this
  have h2 := hc (j / 4) t[j / 4] (j % 4) u hx this.symm
  rwa [Nat.add_assoc, show j / 4 * 4 + j % 4 = j by omega] at h2
theorem clone_nil (a : Option Addr) (cap : Nat) (w : World) : Calls Tryz.prog 36 #[.slice a 0 cap] w fun e w' => ∃ v', e = .returned v' ∧ w'.ownsRow w.heap.size 42 4 v' 0 [] ∧ Below w.heap.size w w' := by
  have mixed := mixed_
  have q22 : ∀ (w : World) (a : Option Addr) (n c n' c' : Nat), (binOp .eql 22 (.slice a n c) (.slice none n' c')).run Tryz.prog w = .ok (.bool a.isNone) w := fun w a n c n' c' => Lib.run_eql_slice_nil w _ _ a n c n' c' Tryz.underlying22
  cases a with
  | none =>
    refine (AnyE.slices_Clone_nil Tryz.l36 0 cap w).mono ?_
    rintro e w' ⟨rfl, rfl⟩
    exact ⟨_, rfl, World.ownsRow_nil _ _ _ _, Below.refl _ _⟩
  | some ad =>
    obtain ⟨i0, hi0, hz0, hz1, hz2⟩ := info_parts info42p
    have I0' : Hid (Tryz.prog.info? 42 = some i0) := hi0
    have Z0 : Hid (i0.zero = _) := hz0
    have Z1 : Hid (i0.size = _) := hz1
    have Z2 : Hid (i0.bytes = _) := hz2
    clear hi0 hz0 hz1 hz2
    go_enter Tryz.func36, Tryz.ntmps36
    go_wp2_with (at_builtin; refine wpList_append_own _ rfl _ _ 22 rfl w.heap.size 42 i0 _ 4 48 Tryz.underlying22 I0'.out Z0.out Z1.out Z2.out rfl (by omega) _ _ _ rfl (World.ownsRow_made w #[] 0 (Nat.le_refl _) (Nat.zero_le _) (by simp)) ad 0 cap [] rfl ?qc1 ?qc2 ?qc3 ?qc4 ?qc5 ?qc6 ?_)
    case qc1 => rfl
    case qc2 => intro j u hj; simp at hj
    case qc3 => simp
    case qc4 => simp [maxLen]
    case qc5 => simp
    case qc6 => simp
    intro v' w1 hown hgrow hnil
    go_wp2
    go_ret
    exact ⟨v', rfl, by simpa using hown, ((Below.refl _ w).alloc (Nat.le_refl _) _).grown hgrow (by simp) (by intro k hk; simp [Value.ownBlock] at hk; omega)⟩
theorem clone_its (t : List It) (a : Option Addr) (cap : Nat) (w : World) (hr : ItRow w a t cap) (hbig : t.length ≤ bigP) :
    Calls Tryz.prog 36 #[.slice a t.length cap] w fun e w' => ∃ v', e = .returned v' ∧ w'.ownsRow w.heap.size 42 4 v' t.length (t.flatMap encI) ∧ Below w.heap.size w w' := by
  by_cases hn : t = []
  · subst hn
    exact clone_nil a cap w
  · refine (clone_call t a cap w hr hn hbig).mono ?_
    rintro e w' ⟨v', rfl, h1, _, h2⟩
    exact ⟨v', rfl, h1, h2⟩

/-! ### slices.SortStableFunc, by what is so of its plain value -/
theorem stable_nil (a : Option Addr) (cap : Nat) (w : World) : Calls Tryz.prog 38 #[.slice a 0 cap, .func (.func 37) #[.agg #[]] #[]] w fun e w' => e = .returned (.tuple #[]) ∧ w' = w := by
  have h81 : ∀ w, Calls Tryz.prog 81 #[.slice a 0 cap, .int .i64 0, .int .i64 0, .func (.func 37) #[.agg #[]] #[]] w fun e w' => e = .returned (.tuple #[]) ∧ w' = w := fun w => by
    go_enter Tryz.func81, Tryz.ntmps81
    go_wp2
    refine wp_loop_rounds 1 ?_
    rw [rounds_succ]
    go_wp2
    go_end0
    exact ⟨rfl, rfl⟩
  have h59 : ∀ w, Calls Tryz.prog 59 #[.slice a 0 cap, .int .i64 0, .func (.func 37) #[.agg #[]] #[]] w fun e w' => e = .returned (.tuple #[]) ∧ w' = w := fun w => by
    go_enter Tryz.func59, Tryz.ntmps59
    go_wp2
    refine wp_loop_rounds 1 ?_
    rw [rounds_succ]
    go_wp2_with (go_at_call 81; refine (h81 _).mono ?_; rintro e w' ⟨rfl, rfl⟩)
    refine wp_loop_rounds 1 ?_
    rw [rounds_succ]
    go_wp2
    go_end0
    exact ⟨rfl, rfl⟩
  go_enter Tryz.func38, Tryz.ntmps38
  go_wp2_with (go_at_call 59; refine (h59 _).mono ?_; rintro e w' ⟨rfl, rfl⟩)
  go_end0
  exact ⟨rfl, rfl⟩
theorem stable_call (t X : List It) (hX : X.length = t.length) (hden : t ≠ [] → Den Q.Sy 38 [.row 4 true t.length (cl t), .met 37] = some (.out false (.tup []) [cl X])) (w0 w : World) (hG : Gs w) (hle : w0.heap.size ≤ w.heap.size) (h0 : Gs w0) (v : Value) (ho : w.ownsRow w0.heap.size 42 4 v t.length (t.flatMap encI)) :
    Calls Tryz.prog 38 #[v, .func (.func 37) #[.agg #[]] #[]] w fun e w' => e = .returned (.tuple #[]) ∧ w'.ownsRow w0.heap.size 42 4 v t.length (X.flatMap encI) ∧ Below w0.heap.size w w' := by
  by_cases hn : t = []
  · subst hn
    obtain rfl := List.eq_nil_of_length_eq_zero hX
    have : ∃ a c, v = .slice a 0 c := by
      rcases ho.2 with ⟨rfl, _⟩ | ⟨g, cap, cur, rfl, _⟩
      · exact ⟨_, _, rfl⟩
      · exact ⟨_, _, rfl⟩
    obtain ⟨a, c, rfl⟩ := this
    refine (stable_nil a c w).mono ?_
    rintro e w' ⟨rfl, rfl⟩
    exact ⟨rfl, ho, Below.refl _ _⟩
  · rcases ho.2 with ⟨rfl, h0⟩ | ⟨g, cap, cur, rfl, hbg, hgg, hnc, hcm, hcs, htake⟩
    · exact absurd (List.eq_nil_of_length_eq_zero h0) hn
    · obtain ⟨hen, hs⟩ := Q.fits.den (hden hn)
      refine (hs w no2 [.slice (some ⟨g, 0, none⟩) t.length cap, .func (.func 37) #[.agg #[]] #[]] [(g, cap * 4)] hG (fun _ _ h => h.elim) (fun b n h => ?_) ?_).mono ?_
      · simp only [List.mem_singleton, Prod.mk.injEq] at h
        rw [h.1]
        exact Nat.le_trans (fine4.base w0 h0) hbg
      · simp only [HandR, Rd]
        exact ⟨_, g, cap * 4, [], ⟨cap, rfl, rfl, hnc, cl_len t⟩, rfl, ⟨t.flatMap encI, cur, 42, hgg, hcs, by rw [encs_len]; exact htake, cl_rdl _ _ _, flat_one t⟩, cl_dead t, fun _ h => h, by simp, _, [], rfl, rfl, by simp⟩
      · intro e w' hp
        match e, hp with
        | .returned v', ⟨pr', ha, hv, ⟨us, cur', T, h1, h2, h3, h4, h5⟩, _⟩ =>
          have hv' : v' = .tuple #[] := by
            simp only [Rd, RdL] at hv
            obtain ⟨vs, rfl, e1⟩ := hv
            have : vs = #[] := by apply Array.ext'; simpa using e1
            rw [this]
          subst hv'
          obtain rfl := rdl_cl h4
          have hT : T = 42 := by
            have t1 : tyAt w g = some 42 := by simp [tyAt, hgg]
            have t2 := ha.below.ty g 42 t1
            simp only [tyAt, h1] at t2
            simpa using t2
          subst hT
          refine ⟨rfl, ⟨by rw [encs_len, hX], .inr ⟨g, cap, cur', rfl, hbg, h1, hnc, hcm, h2, ?_⟩⟩, ⟨ha.below.os, ha.below.tape, ha.below.output, ha.below.size, fun k hk => ha.below.block k (by omega) (fun ⟨n, hk'⟩ => ?_)⟩⟩
          · rw [encs_len, hX] at h3
            exact h3
          · simp only [List.mem_singleton, Prod.mk.injEq] at hk'
            omega
end Go.Proofs.YtpkeiffclipjmaaGreatDoor.Rx
namespace Go.Proofs.YtpkeiffclipjmaaGreatDoor.Rx
open Go Go.RowKit
set_option maxRecDepth 100000
set_option linter.unusedSimpArgs false
set_option linter.unusedVariables false

/-- What is so of the stable sort's plain value. -/
def StableOk (t : List It) : Prop := t ≠ [] → Den Q.Sy 38 [.row 4 true t.length (cl t), .met 37] = some (.out false (.tup []) [cl (sortF t)])
theorem stableOk_any (t : List It) (hn : t.length ≤ bigP) (hs : Q.Sm t) : StableOk t := fun _ => by
  rw [sortF_itS]
  exact Q.sortStable_den t.length t rfl _ (srt_len t) (Q.stable_any t.length hn t rfl hs)
theorem sort_call (t : List It) (hs : StableOk t) (hbig : t.length ≤ bigP) (a : Option Addr) (cap : Nat) (w : World) (hG : Gs w) (hr : ItRow w a t cap) :
    Calls Tryz.prog 18 #[.slice a t.length cap] w fun e w' => ∃ v, e = .returned v ∧ w'.ownsRow w.heap.size 42 4 v t.length ((sortF t).flatMap encI) ∧ Below w.heap.size w w' := by
  have mixed := mixed_
  have hC := clone_its t a cap w hr hbig
  have SO : Hid (StableOk t) := hs
  have hX : Hid ((sortF t).length = t.length) := by show _ = _; simp [sortF, sortG_len]
  clear hr hs
  go_enter Tryz.func18, Tryz.ntmps18
  go_wp2_with (first
    | (go_at_call 36
       refine hC.mono ?_
       rintro e w1 ⟨v, rfl, ho, hb⟩
       have hS := stable_call t (sortF t) hX.out SO.out w w1 (hG.below hb) hb.size hG v ho
       have B1 : Hid (Below w.heap.size w w1) := hb
       clear ho hb hC)
    | (go_at_call 38
       refine hS.mono ?_
       rintro e w2 ⟨rfl, ho2, hb2⟩
       have O2 : Hid (w2.ownsRow w.heap.size 42 4 v t.length ((sortF t).flatMap encI)) := ho2
       have B2 : Hid (Below w.heap.size w1 w2) := hb2
       clear hS ho2 hb2))
  go_ret
  exact ⟨v, rfl, O2.out, B1.out.trans B2.out⟩
def sortE (t : List It) : Prop := StableOk t ∧ t.length ≤ bigP
end Go.Proofs.YtpkeiffclipjmaaGreatDoor.Rx
