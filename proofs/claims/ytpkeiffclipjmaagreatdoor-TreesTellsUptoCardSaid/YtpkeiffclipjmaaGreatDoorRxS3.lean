/-
  Rx, part S3: every operation that is told does what its plain one does.
-/
import Derived.Test.YtpkeiffclipjmaaGreatDoorRxS2
import Derived.Test.YtpkeiffclipjmaaGreatDoorRxQ5
namespace Go.Proofs.YtpkeiffclipjmaaGreatDoor.Rx
open Go Go.RowKit
set_option linter.unusedSimpArgs false
section
variable {C : Cx} {X : Nat → Prop} {w0 w : World} {pr0 : Nat → Nat → Prop} {bx : Bx} {pm : Pm} {g : Gh} {e : Env} {a : Act} {D : Fun}
theorem _root_.Go.Calls.wp {o : Oper} {ef : Eff} {next : Act → World → Prop} {Q : Exit → Act → World → Prop} {f : Nat} {args : Array Value} (h : Calls C.P f args w (Left C X w0 pr0 bx pm w g ef)) (hrun : (execOp a.eval o).run C.P w = .ok (.enter f args) w)
    (k : Goes C X w0 pr0 bx pm w g o a ef next Q) : o.wp C.P a w next Q := Left.wp hrun h k

theorem opds_cons {P : Program} {ts : List TypeId} {xs : List Operand} {y : Opd} {l : List Opd} (h : opds P ts xs = some (y :: l)) : ∃ t ts' x xs', ts = t :: ts' ∧ xs = x :: xs' ∧ opd P t x = some y ∧ opds P ts' xs' = some l := by
  match ts, xs, h with
  | t :: ts, x :: xs, h =>
    simp only [opds] at h
    split at h
    · rename_i y1 l1 h1 h2
      simp only [Option.some.injEq, List.cons.injEq] at h
      obtain ⟨rfl, rfl⟩ := h
      exact ⟨t, ts, x, xs, rfl, rfl, h1, h2⟩
    · simp at h
  | [], [], h => simp [opds] at h
  | [], _ :: _, h => simp [opds] at h
  | _ :: _, [], h => simp [opds] at h
theorem opds_nil {P : Program} {ts : List TypeId} {xs : List Operand} (h : opds P ts xs = some []) : xs = [] := by
  match ts, xs, h with
  | t :: ts, x :: xs, h => simp only [opds] at h; split at h <;> simp at h
  | [], [], _ => rfl
  | [], _ :: _, h => simp [opds] at h
  | _ :: _, [], h => simp [opds] at h

theorem op_ok (hD : Sound C D) (hC : C.Fine) (hX : ∀ b, X b → C.B ≤ b) (hG0 : C.G w0) {K : Cfg} {o : Oper} {p : AOp} (hp : cmp C.P K o = some p) {df : Option (Nat × List AV)} {ef : Eff} (hE : EnvR e a w g) (hM : Mem X w0 pr0 bx pm w g) (hs : step D o.dst ⟨e, bx, pm, df⟩ p = some ef)
    {next : Act → World → Prop} {Q : Exit → Act → World → Prop} (k : Goes C X w0 pr0 bx pm w g o a ef next Q) : o.wp C.P a w next Q := by
  have fl : ∀ {q : AOp}, p = q → (step D o.dst ⟨e, bx, pm, df⟩ q = (flat e q).map fun r => ⟨r, [], [], false⟩) → (∀ r, flat e q = some r → FlatR C.P o a w g r) → o.wp C.P a w next Q := by
    intro q hq h1 h2
    subst hq
    rw [h1] at hs
    obtain ⟨r, hr, rfl⟩ := Option.map_eq_some_iff.1 hs
    exact ((h2 r hr).op hM).wp k
  unfold cmp at hp
  split at hp
  · rename_i x ho
    obtain ⟨x', hx, rfl⟩ := Option.map_eq_some_iff.1 hp
    exact fl rfl rfl fun r hr => mv_rd (.inl ho) hx hE hr
  · rename_i x ho
    obtain ⟨x', hx, rfl⟩ := Option.map_eq_some_iff.1 hp
    exact fl rfl rfl fun r hr => mv_rd (.inr ho) hx hE hr
  · rename_i c x y ho
    split at hp
    · rename_i c' x' y' hc hx hy
      simp only [Option.some.injEq] at hp
      exact fl hp.symm rfl fun r hr => pick_rd ho hc hx hy hE hr
    · simp at hp
  · rename_i t ho
    obtain ⟨z, hz, hp⟩ := Option.bind_eq_some_iff.1 hp
    split at hp
    · simp only [Option.some.injEq] at hp
      subst hp
      exact (alloc_op ho hz hM hs).wp k
    · simp at hp
  · rename_i t x ho
    obtain ⟨x', hx, rfl⟩ := Option.map_eq_some_iff.1 hp
    exact (box_op ho hx hE hM hs).wp k
  · rename_i t ps ho
    split at hp
    · rename_i fs z hu hz
      split at hp
      · rename_i hall
        obtain ⟨ps', hps, rfl⟩ := Option.map_eq_some_iff.1 hp
        exact fl rfl rfl fun r hr => agg_rd ho hz (.inl ⟨fs, hu, hall, hps⟩) hE hr
      · simp at hp
    · rename_i m el z hu hz
      split at hp
      · rename_i k0 hk
        obtain ⟨ps', hps, rfl⟩ := Option.map_eq_some_iff.1 hp
        exact fl rfl rfl fun r hr => agg_rd ho hz (.inr ⟨m, el, k0, hu, hk, hps⟩) hE hr
      · simp at hp
    · simp at hp
  · rename_i t len ps ho
    split at hp
    · rename_i el hu
      split at hp
      · rename_i k0 ag z ps' hk hag hz hps
        split at hp
        · rename_i hcond
          simp only [Option.some.injEq] at hp
          subst hp
          exact (mks_op ho hu hk hcond.1 hcond.2.1 hz hcond.2.2.2 hps hE hM hs).wp k
        · simp at hp
      · simp at hp
    · simp at hp
  · rename_i t x ho
    split at hp
    · rename_i n ag x' hn hag hx
      split at hp
      · rename_i hcond
        simp only [Option.some.injEq] at hp
        subst hp
        exact (load_op ho hn hag hcond hx hE hM hs).wp k
      · simp at hp
    · simp at hp
  · rename_i t x y ho
    split at hp
    · rename_i n x' y' hn hx hy
      simp only [Option.some.injEq] at hp
      subst hp
      exact (store_op ho hn hx hy hE hM hs).wp k
    · simp at hp
  · rename_i x ho
    obtain ⟨x', hx, rfl⟩ := Option.map_eq_some_iff.1 hp
    exact fl rfl rfl fun r hr => nilc_rd ho hx hE hr
  · rename_i t x kk u ho
    obtain ⟨x', hx, rfl⟩ := Option.map_eq_some_iff.1 hp
    exact fl rfl rfl fun r hr => half_rd ho hx hE hr
  · rename_i op t x u ho
    split at hp
    · rename_i ms x' hu hx
      split at hp
      · rename_i heq
        simp only [Option.some.injEq] at hp
        refine fl hp.symm rfl fun r hr => isn_rd ho ?_ hu hx hE hr
        cases op <;> simp [isEq] at heq ⊢
      · simp at hp
    · simp at hp
  · rename_i f first caps ho
    split at hp
    · rename_i h0
      obtain ⟨l, hl, rfl⟩ := Option.map_eq_some_iff.1 hp
      exact fl rfl rfl fun r hr => mkf_rd ho h0 hl hE hr
    · simp at hp
  · rename_i op t x y u _ _ ho
    split at hp
    · rename_i x' y' hx hy
      split at hp
      · rename_i heq
        split at hp
        · simp only [Option.some.injEq] at hp
          exact fl hp.symm rfl fun r hr => bin_rd ho hx hy hE hr
        · obtain ⟨n, hn, rfl⟩ := Option.map_eq_some_iff.1 hp
          refine fl rfl rfl fun r hr => eqv_rd ho ?_ hn hx hy hE hr
          cases op <;> simp [isEq] at heq ⊢
      · simp only [Option.some.injEq] at hp
        exact fl hp.symm rfl fun r hr => bin_rd ho hx hy hE hr
    · simp at hp
  · rename_i op t x ho
    obtain ⟨x', hx, rfl⟩ := Option.map_eq_some_iff.1 hp
    exact fl rfl rfl fun r hr => un_rd ho hx hE hr
  · rename_i s d x ho
    split at hp
    · rename_i k1 k2 x' h1 h2 hx
      simp only [Option.some.injEq] at hp
      exact fl hp.symm rfl fun r hr => conv_rd ho (.inl ⟨_, _, rfl, h1, h2⟩) hx hE hr
    · rename_i x' h1 h2 hx
      simp only [Option.some.injEq] at hp
      exact fl hp.symm rfl fun r hr => conv_rd ho (.inr (.inl ⟨rfl, h1, h2⟩)) hx hE hr
    · rename_i el x' h1 h2 hx
      split at hp
      · rename_i h3
        simp only [Option.some.injEq] at hp
        exact fl hp.symm rfl fun r hr => conv_rd ho (.inr (.inr ⟨rfl, el, h1, h3, h2⟩)) hx hE hr
      · simp at hp
    · simp at hp
  · rename_i t l c ho
    split at hp
    · rename_i el hu
      split at hp
      · rename_i i ag z l' c' hi hag hz hl hc
        split at hp
        · rename_i hcond
          split at hp
          · simp only [Option.some.injEq] at hp
            subst hp
            exact (mkown_op ho hu hi hz hcond.1 hl hc hE hM hs).wp k
          · simp only [Option.some.injEq] at hp
            subst hp
            exact (mksl_op ho hu hi hz hcond.2 hl hc hE hM hs).wp k
        · simp at hp
      · simp at hp
    · simp at hp
  · rename_i t x lo hi mx ho
    split at hp
    · rename_i x' lo' hi' mx' hu hx hlo hhi hmx
      simp only [Option.some.injEq] at hp
      exact fl hp.symm rfl fun r hr => slice_rd ho (.inl ⟨rfl, hu⟩) hx hlo hhi hmx hE hr
    · rename_i el x' lo' hi' mx' hu hx hlo hhi hmx
      split at hp
      · rename_i k0 hk
        simp only [Option.some.injEq] at hp
        exact fl hp.symm rfl fun r hr => slice_rd ho (.inr ⟨el, k0, rfl, hu, hk⟩) hx hlo hhi hmx hE hr
      · simp at hp
    · simp at hp
  · rename_i s x f ho
    split at hp
    · rename_i fs hu
      split at hp
      · rename_i fd hf
        split at hp
        · rename_i n x' hn hx
          split at hp
          · rename_i h0
            simp only [Option.some.injEq] at hp
            exact fl hp.symm rfl fun r hr => faddr_rd ho hu hf hn h0 hx hE hr
          · simp at hp
        · simp at hp
      · simp at hp
    · simp at hp
  · rename_i t x f ho
    split at hp
    · rename_i fs x' hu hx
      split at hp
      · rename_i fd hf
        split at hp
        · rename_i n ag hn hag
          split at hp
          · rename_i h0
            simp only [Option.some.injEq] at hp
            exact fl hp.symm rfl fun r hr => fld_rd ho hu hf hn hag h0 hx hE hr
          · simp at hp
        · simp at hp
      · simp at hp
    · simp at hp
  · rename_i t x i ho
    split at hp
    · rename_i el x' i' hu hx hi
      obtain ⟨k0, hk, rfl⟩ := Option.map_eq_some_iff.1 hp
      exact fl rfl rfl fun r hr => iaddr_rd ho hu hk hx hi hE hr
    · rename_i n el x' i' hu hx hi
      obtain ⟨k0, hk, rfl⟩ := Option.map_eq_some_iff.1 hp
      exact fl rfl rfl fun r hr => aaddr_rd ho hu hk hx hi hE hr
    · simp at hp
  · rename_i t x i ho
    split at hp
    · rename_i n el x' i' hu hx hi
      split at hp
      · rename_i k0 ag hk hag
        split at hp
        · rename_i h0
          simp only [Option.some.injEq] at hp
          exact fl hp.symm rfl fun r hr => aidx_rd ho hu hk hag h0 hx hi hE hr
        · simp at hp
      · simp at hp
    · rename_i x' i' hu hx hi
      simp only [Option.some.injEq] at hp
      exact fl hp.symm rfl fun r hr => sidx_rd ho hu hx hi hE hr
    · simp at hp
  · rename_i t ho
    split at hp
    · rename_i kt et hm
      split at hp
      · simp only [Option.some.injEq] at hp
        subst hp
        exact (mkmap_op ho hM hs).wp k
      · simp at hp
    · simp at hp
  · rename_i t m key v ho
    split at hp
    · rename_i kt et hm
      split at hp
      · rename_i m' k' v' hk _ hm' hk' hv'
        simp only [Option.some.injEq] at hp
        subst hp
        exact (mput_op ho hm hk hm' hk' hv' hE hM hs).wp k
      · simp at hp
    · simp at hp
  · rename_i t m key ho
    split at hp
    · rename_i kt et hm
      split at hp
      · rename_i m' k' hk _ hm' hk' hz
        simp only [Option.some.injEq] at hp
        subst hp
        exact (mget_op ho hm hk hz hm' hk' hE hM hs).wp k
      · simp at hp
    · simp at hp
  · rename_i x i ho
    obtain ⟨x', hx, rfl⟩ := Option.map_eq_some_iff.1 hp
    exact fl rfl rfl fun r hr => ext_rd ho hx hE hr
  · rename_i c ho
    unfold cmpCall at hp
    split at hp
    · rename_i f hc
      split at hp
      · rename_i fn hf
        split at hp
        · rename_i hcond
          obtain ⟨l, hl, hp⟩ := Option.bind_eq_some_iff.1 hp
          have hargs : ∀ rs, evos e l = some rs → RdL w g rs (c.args.toList.map a.eval) := fun rs h => opds_rd hE hl h
          have asg : ∀ x i y, l = [x, i, y] → ∃ vx vi vy, c.args.toList.map a.eval = [vx, vi, vy] ∧ (∀ r, evo e x = some r → Rd w g r vx) ∧ (∀ r, evo e i = some r → Rd w g r vi) ∧ (∀ r, evo e y = some r → Rd w g r vy) := by
            intro x i y hl3
            subst hl3
            obtain ⟨t1, ts1, o1, os1, e1, e2, h1, hl1⟩ := opds_cons hl
            obtain ⟨t2, ts2, o2, os2, rfl, rfl, h2, hl2⟩ := opds_cons hl1
            obtain ⟨t3, ts3, o3, os3, rfl, rfl, h3, hl3⟩ := opds_cons hl2
            have := opds_nil hl3
            subst this
            rw [e2]
            exact ⟨_, _, _, rfl, fun r hr => opd_rd h1 hE hr, fun r hr => opd_rd h2 hE hr, fun r hr => opd_rd h3 hE hr⟩
          unfold cmpSp at hp
          split at hp
          · simp only [Option.some.injEq] at hp
            subst hp
            simp only [step] at hs
            split at hs
            · rename_i rs hrs
              obtain ⟨hen, hcall⟩ := callE_ok hD hC hX hG0 hM (hargs rs hrs) hs
              exact hcall.wp (call_run ho hc hen) k
            · simp at hs
          · split at hp
            · rename_i x i y
              simp only [Option.some.injEq] at hp
              subst hp
              obtain ⟨vx, vi, vy, he, h1, h2, h3⟩ := asg x i y rfl
              obtain ⟨hen, hcall⟩ := ins_ok hD hC hX hG0 hM h1 h2 h3 hs
              refine Left.wp (call_run ho hc hen) ?_ k
              rw [he]; exact hcall
            · simp at hp
          · split at hp
            · rename_i x l0
              simp only [Option.some.injEq] at hp
              subst hp
              obtain ⟨vx, vals, he, h1, h2⟩ : ∃ vx vals, c.args.toList.map a.eval = vx :: vals ∧ (∀ r, evo e x = some r → Rd w g r vx) ∧ (∀ rs, evos e l0 = some rs → RdL w g rs vals) := by
                obtain ⟨t1, ts1, o1, os1, e1, e2, h1, hl1⟩ := opds_cons hl
                rw [e2]
                exact ⟨_, _, rfl, fun r hr => opd_rd h1 hE hr, fun rs hr => opds_rd hE hl1 hr⟩
              obtain ⟨hen, hcall⟩ := wrs_ok hD hC hX hG0 hM h1 h2 hs
              refine Left.wp (call_run ho hc hen) ?_ k
              rw [he]; exact hcall
            · simp at hp
          · split at hp
            · rename_i x
              simp only [Option.some.injEq] at hp
              subst hp
              obtain ⟨vx, he, h1⟩ : ∃ vx, c.args.toList.map a.eval = [vx] ∧ (∀ r, evo e x = some r → Rd w g r vx) := by
                obtain ⟨t1, ts1, o1, os1, e1, e2, h1, hl1⟩ := opds_cons hl
                have := opds_nil hl1
                subst this
                rw [e2]
                exact ⟨_, rfl, fun r hr => opd_rd h1 hE hr⟩
              obtain ⟨hen, hcall⟩ := bstr_ok hD hC hX hG0 hM h1 hs
              refine Left.wp (call_run ho hc hen) ?_ k
              rw [he]; exact hcall
            · simp at hp
          · simp only [Option.some.injEq] at hp
            subst hp
            simp only [step] at hs
            split at hs
            · rename_i rs hrs
              obtain ⟨hen, hcall⟩ := callE_ok hD hC hX hG0 hM (lend_rd (hargs rs hrs)) hs
              exact hcall.wp (call_run ho hc hen) k
            · simp at hs
          · simp at hp
        · simp at hp
      · simp at hp
    · rename_i t hc
      obtain ⟨l, hl, rfl⟩ := Option.map_eq_some_iff.1 hp
      simp only [step] at hs
      split at hs
      · rename_i f caps rs hxe hrs
        obtain ⟨u, hu, hru⟩ := hE t _ hxe
        simp only [Rd] at hru
        obtain ⟨cv, rfl, hcv⟩ := hru
        obtain ⟨hen, hcall⟩ := callE_ok hD hC hX hG0 hM ((opds_rd hE hl hrs).append hcv) hs
        exact hcall.wp (callv_run ho hc (by simp [Act.eval, Array.getD_eq_getD_getElem?, hu]) hen) k
      · rename_i f rs hxe hrs
        obtain ⟨u, hu, hru⟩ := hE t _ hxe
        simp only [Rd] at hru
        subst hru
        have hr1 : RdL w g (.agg [] :: rs) (.agg #[] :: c.args.toList.map a.eval) := by
          simp only [RdL]
          exact ⟨_, _, rfl, by simp only [Rd]; exact ⟨#[], rfl, by simp [RdL], by simp⟩, opds_rd hE hl hrs⟩
        obtain ⟨hen, hcall⟩ := callE_ok hD hC hX hG0 hM hr1 hs
        exact hcall.wp (callm_run ho hc (by simp [Act.eval, Array.getD_eq_getD_getElem?, hu]) hen) k
      · simp at hs
    · rename_i hc
      split at hp
      · rename_i x t ha ht
        split at hp
        · rename_i el hu
          obtain ⟨x', hx, rfl⟩ := Option.map_eq_some_iff.1 hp
          exact fl rfl rfl fun r hr => len_rd ho hc ha ht (.inr ⟨rfl, el, hu⟩) hx hE hr
        · rename_i hu
          obtain ⟨x', hx, rfl⟩ := Option.map_eq_some_iff.1 hp
          exact fl rfl rfl fun r hr => len_rd ho hc ha ht (.inl ⟨rfl, hu⟩) hx hE hr
        · simp at hp
      · simp at hp
    · rename_i hc
      obtain ⟨l, hl, rfl⟩ := Option.map_eq_some_iff.1 hp
      exact fl rfl rfl fun r hr => min_rd ho hc hl hE hr
    · rename_i hc
      obtain ⟨l, hl, rfl⟩ := Option.map_eq_some_iff.1 hp
      exact fl rfl rfl fun r hr => max_rd ho hc hl hE hr
    · rename_i hc
      split at hp
      · rename_i x y t u ha ht
        split at hp
        · rename_i htu
          subst htu
          split at hp
          · rename_i el hu
            split at hp
            · rename_i i x' y' hi hx hy
              split at hp
              · rename_i z hz
                split at hp
                · rename_i hcond
                  split at hp
                  · obtain ⟨ag, _, rfl⟩ := Option.map_eq_some_iff.1 hp
                    exact (app_op ho hc ha ht hu hi hz hx hy hcond.2.1 hcond.2.2 hE hM hs).wp k
                  · simp only [Option.some.injEq] at hp
                    subst hp
                    exact (app_op ho hc ha ht hu hi hz hx hy hcond.2.1 hcond.2.2 hE hM hs).wp k
                · simp at hp
              · simp at hp
            · simp at hp
          · simp at hp
        · simp at hp
      · simp at hp
    · simp at hp
  · simp at hp
end
end Go.Proofs.YtpkeiffclipjmaaGreatDoor.Rx
