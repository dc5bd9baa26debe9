/-
  Rx, part O2: numbers, strings, '==', and the parts of slices.
-/
import Derived.WideLaws
import Derived.Test.YtpkeiffclipjmaaGreatDoorRxO
import Derived.Laws.StructEq
import Derived.Laws.Concat
import Derived.Laws.Cover1
import Derived.ChangeKeysEq
namespace Go.Proofs.YtpkeiffclipjmaaGreatDoor.Rx
open Go Go.RowKit

set_option linter.unusedSimpArgs false
section
variable {P : Program} {w : World} {g : Gh} {e : Env} {a : Act}

theorem lessS_eq : ∀ (a b : List UInt8), Op.bytesLess a b = lessS a b
  | [], [] => rfl
  | [], _ :: _ => rfl
  | _ :: _, [] => rfl
  | x :: a, y :: b => by simp only [Op.bytesLess, lessS, lessS_eq a b]

theorem chk_rd {k : IntKind} {n : Int} {r : AV} (h : chk k n = some r) : Rd w g r (.int k (k.wrap n)) := by
  unfold chk at h
  split at h
  · rename_i hc
    simp only [Option.some.injEq] at h
    subst h
    simp [Rd, hc]
  · simp at h

theorem half_rd {o : Oper} {t u : TypeId} {x : Operand} {kk : IntKind} {x' : Opd} (ho : o.op = .binOp .shr t x (.const (.int kk 1)) u) (hx : opd P t x = some x') (hE : EnvR e a w g)
    {r : AV} (hr : flat e (.half x') = some r) : FlatR P o a w g r := by
  simp only [flat] at hr
  split at hr
  · rename_i k n hq
    simp only [Option.some.injEq] at hr
    subst hr
    have h1 := opd_rd hx hE hq
    simp only [Rd] at h1
    refine ⟨.int k (n / 2), ?_, by simp only [Rd]⟩
    have hg : ∀ v : Value, eqGuard .shr t x (.const (.int kk 1)) v (.int kk 1) = pure () := fun v => rfl
    have hb : min (1 : Int).toNat k.bits = 1 := by cases k <;> rfl
    have hf : n.fdiv (2 ^ 1) = n / 2 := Int.fdiv_eq_ediv_of_nonneg _ (by decide)
    have hbo : (binOp .shr t (.int k n) (.int kk 1)).run P w = .ok (.int k (n / 2)) w := by
      rw [← hf, ← hb]
      rfl
    have hev : a.eval (.const (.int kk 1)) = .int kk 1 := rfl
    simp only [execOp, ho, h1, hev, Sem.run_bind, hg, Sem.run_pure, Result.andThen_ok, hbo]
  · simp at hr
theorem bin_rd {o : Oper} {op : BinOp} {t u : TypeId} {x y : Operand} {x' y' : Opd} (ho : o.op = .binOp op t x y u) (hx : opd P t x = some x') (hy : opd P t y = some y') (hE : EnvR e a w g)
    {r : AV} (hr : flat e (.bin op x' y') = some r) : FlatR P o a w g r := by
  simp only [flat] at hr
  split at hr
  · rename_i p q hp hq
    have h1 := opd_rd hx hE hp
    have h2 := opd_rd hy hE hq
    unfold bin at hr
    split at hr
    · rename_i k m k' n
      simp only [Rd] at h1 h2
      split at hr
      · rename_i hk
        subst hk
        have fin : ∀ v, Rd w g r v → (binOp op t (.int k m) (.int k n)).run P w = .ok v w → FlatR P o a w g r := by
          intro v hv hb
          refine ⟨v, ?_, hv⟩
          simp only [execOp, ho, h1, h2, Sem.run_bind, eqGuard_at_int, Sem.run_pure, Result.andThen_ok, hb]
        cases op <;> simp only [binI] at hr
        · exact fin _ (chk_rd hr) (by simp [binOp, Op.intArith])
        · exact fin _ (chk_rd hr) (by simp [binOp, Op.intArith])
        · exact fin _ (chk_rd hr) (by simp [binOp, Op.intArith])
        · split at hr
          · simp at hr
          · rename_i h0; exact fin _ (chk_rd hr) (by simp [binOp, Op.intDiv, h0])
        · split at hr
          · simp at hr
          · rename_i h0
            simp only [Option.some.injEq] at hr
            subst hr
            exact fin (.int k (m.tmod n)) (by simp only [Rd]) (by simp [binOp, Op.intDiv, h0])
        · simp at hr
        · simp at hr
        · simp at hr
        · simp at hr
        · simp at hr
        · simp at hr
        · simp only [Option.some.injEq] at hr; subst hr; exact fin (.bool (decide (m = n))) (by simp only [Rd]) (by simp [binOp, Op.intCmp, bne, Bool.beq_eq_decide_eq])
        · simp only [Option.some.injEq] at hr; subst hr; exact fin (.bool (decide (m ≠ n))) (by simp only [Rd]) (by simp [binOp, Op.intCmp, bne, Bool.beq_eq_decide_eq])
        · simp only [Option.some.injEq] at hr; subst hr; exact fin (.bool (decide (m < n))) (by simp only [Rd]) (by simp [binOp, Op.intCmp, bne, Bool.beq_eq_decide_eq])
        · simp only [Option.some.injEq] at hr; subst hr; exact fin (.bool (decide (m ≤ n))) (by simp only [Rd]) (by simp [binOp, Op.intCmp, bne, Bool.beq_eq_decide_eq])
        · simp only [Option.some.injEq] at hr; subst hr; exact fin (.bool (decide (n < m))) (by simp only [Rd]) (by simp [binOp, Op.intCmp, bne, Bool.beq_eq_decide_eq])
        · simp only [Option.some.injEq] at hr; subst hr; exact fin (.bool (decide (n ≤ m))) (by simp only [Rd]) (by simp [binOp, Op.intCmp, bne, Bool.beq_eq_decide_eq])
      · simp at hr
    · rename_i m n
      simp only [Rd] at h1 h2
      have hg : eqGuard op t x y (.string ⟨m.toArray⟩) (.string ⟨n.toArray⟩) = pure () := by cases op <;> rfl
      have fin : ∀ v, Rd w g r v → (binOp op t (.string ⟨m.toArray⟩) (.string ⟨n.toArray⟩)).run P w = .ok v w → FlatR P o a w g r := by
        intro v hv hb
        refine ⟨v, ?_, hv⟩
        simp only [execOp, ho, h1, h2, Sem.run_bind, hg, Sem.run_pure, Result.andThen_ok, hb]
      cases op <;> simp only [binS] at hr
      · split at hr
        · rename_i hle
          simp only [Option.some.injEq] at hr
          subst hr
          refine fin (.string ⟨(m ++ n).toArray⟩) (by simp only [Rd]) ?_
          rw [binOp_string_add, run_string_add_sum w _ _ (by rw [bsz, bsz]; exact hle)]
          congr 2
        · simp at hr
      · simp at hr
      · simp at hr
      · simp at hr
      · simp at hr
      · simp at hr
      · simp at hr
      · simp at hr
      · simp at hr
      · simp at hr
      · simp at hr
      · simp only [Option.some.injEq] at hr; subst hr; exact fin (.bool (decide (m = n))) (by simp only [Rd]) (by rw [binOp_string_eql]; simp [lessS_eq, Bool.beq_eq_decide_eq])
      · simp only [Option.some.injEq] at hr; subst hr; exact fin (.bool (decide (m ≠ n))) (by simp only [Rd]) (by rw [binOp_string_neq]; simp [lessS_eq, Bool.beq_eq_decide_eq])
      · simp only [Option.some.injEq] at hr; subst hr; exact fin (.bool (lessS m n)) (by simp only [Rd]) (by rw [binOp_string_lss]; simp [lessS_eq, Bool.beq_eq_decide_eq])
      · simp only [Option.some.injEq] at hr; subst hr; exact fin (.bool (lessS m n || decide (m = n))) (by simp only [Rd]) (by rw [binOp_string_leq]; simp [lessS_eq, Bool.beq_eq_decide_eq])
      · simp only [Option.some.injEq] at hr; subst hr; exact fin (.bool (!(lessS m n || decide (m = n)))) (by simp only [Rd]) (by rw [binOp_string_gtr]; simp [lessS_eq, Bool.beq_eq_decide_eq])
      · simp only [Option.some.injEq] at hr; subst hr; exact fin (.bool (!lessS m n)) (by simp only [Rd]) (by rw [binOp_string_geq]; simp [lessS_eq, Bool.beq_eq_decide_eq])
    · simp at hr
  · simp at hr

theorem eqK_run {t : TypeId} {n : Nat} (hk : kindT P t = some n) {x y : AV} {u v : Value} (hx : Rd w g x u) (hy : Rd w g y v) {r : Bool} (h : eqK n x y = some r) (d : Nat) : (Op.equalIn (d + 1) t u v).run P w = .ok r w := by
  unfold eqK at h
  split at h
  · simp only [Option.some.injEq] at h
    subst h
    simp only [Rd] at hx hy
    subst hx hy
    unfold kindT at hk
    split at hk <;> simp at hk
    rename_i hu
    exact run_equalIn_bool w d t _ _ hu
  · split at h
    · rename_i hkk
      subst hkk
      simp only [Option.some.injEq] at h
      subst h
      simp only [Rd] at hx hy
      subst hx hy
      unfold kindT at hk
      split at hk <;> simp at hk
      rename_i hu
      rw [run_equalIn_int w d t _ _ _ _ hu]
      simp [Bool.beq_eq_decide_eq]
    · simp at h
  · simp only [Option.some.injEq] at h
    subst h
    simp only [Rd] at hx hy
    subst hx hy
    unfold kindT at hk
    split at hk <;> simp at hk
    rename_i hu
    rw [run_equalIn_string w d t _ _ hu]
    simp [Bool.beq_eq_decide_eq]
  · simp at h
theorem plain_notAgg {t : TypeId} {n : Nat} (hk : kindT P t = some n) : ∀ w, (isAgg t).run P w = .ok false w := by
  intro w
  unfold kindT at hk
  unfold isAgg
  split at hk
  · rename_i hu; simp [run_underlying hu]
  · rename_i hu; simp [run_underlying hu]
  · rename_i hu; simp [run_underlying hu]
  · simp at hk
theorem part_one {t : TypeId} {n : Nat} (hk : kindT P t = some n) {vs : Array Value} {i : Nat} {u : Value} (h : vs[i]? = some u) : (part t vs i).run P w = .ok u w := by
  unfold part
  rw [Sem.run_bind, plain_notAgg hk]
  simp [h]
theorem eqFields_run (d : Nat) {us vs : Array Value} : ∀ (fs : List Field) (ks : List Nat) (i : Nat) (xs ys : List AV) (r : Bool), kindsF P fs = some ks → fs.map (·.offset) = List.range' i fs.length →
    RdL w g xs (us.toList.drop i) → RdL w g ys (vs.toList.drop i) → eqL ks xs ys = some r → (Op.eqFields (d + 1) us vs fs).run P w = .ok r w
  | [], ks, i, xs, ys, r, hk, _, _, _, h => by
    simp only [kindsF, Option.some.injEq] at hk
    subst hk
    unfold eqL at h
    split at h
    · simp only [Option.some.injEq] at h; subst h; simp [Op.eqFields]
    · rename_i e _ _; simp at e
    · simp at h
  | f :: fs, ks, i, xs, ys, r, hk, ho, hx, hy, h => by
    simp only [kindsF] at hk
    split at hk
    · rename_i k l hk1 hk2
      split at hk
      · simp at hk
      · rename_i hname
        simp only [Option.some.injEq] at hk
        subst hk
        match xs, ys, h with
        | x :: xs, y :: ys, h =>
          simp only [eqL] at h
          split at h
          · rename_i p q hp hq
            simp only [Option.some.injEq] at h
            subst h
            simp only [RdL] at hx hy
            obtain ⟨u, us', e1, hu, hus⟩ := hx
            obtain ⟨v, vs', e2, hv, hvs⟩ := hy
            simp only [List.map_cons, List.length_cons, List.range'_succ, List.cons.injEq] at ho
            obtain ⟨ho1, ho2⟩ := ho
            have d1 : us.toList.drop (i + 1) = us' := by rw [← List.drop_drop, e1]; rfl
            have d2 : vs.toList.drop (i + 1) = vs' := by rw [← List.drop_drop, e2]; rfl
            have g1 : us[i]? = some u := by
              have := congrArg (fun l => l[0]?) e1
              simpa [List.getElem?_drop] using this
            have g2 : vs[i]? = some v := by
              have := congrArg (fun l => l[0]?) e2
              simpa [List.getElem?_drop] using this
            have ih := eqFields_run d fs l (i + 1) xs ys q hk2 ho2 (by rw [d1]; exact hus) (by rw [d2]; exact hvs) hq
            simp only [Op.eqFields, ne_eq, hname, not_false_eq_true, if_true, Sem.run_bind, ho1, part_one hk1 g1, part_one hk1 g2, Result.andThen_ok, eqK_run hk1 hu hv hp d]
            cases p with
            | true => simp [ih]
            | false => simp
          · simp at h
        | [], _, h => simp [eqL] at h
        | _ :: _, [], h => simp [eqL] at h
    · simp at hk
theorem eqItems_run (d : Nat) {t : TypeId} {k : Nat} (hk : kindT P t = some k) {us vs : Array Value} : ∀ (n i : Nat) (xs ys : List AV) (r : Bool),
    RdL w g xs (us.toList.drop i) → RdL w g ys (vs.toList.drop i) → eqL (List.replicate n k) xs ys = some r → (Op.eqItems (d + 1) t 1 us vs (List.range' i n)).run P w = .ok r w
  | 0, i, xs, ys, r, _, _, h => by
    unfold eqL at h
    split at h
    · simp only [Option.some.injEq] at h; subst h; simp [Op.eqItems]
    · rename_i e _ _; simp at e
    · simp at h
  | n + 1, i, xs, ys, r, hx, hy, h => by
    rw [List.replicate_succ] at h
    match xs, ys, h with
    | x :: xs, y :: ys, h =>
      simp only [eqL] at h
      split at h
      · rename_i p q hp hq
        simp only [Option.some.injEq] at h
        subst h
        simp only [RdL] at hx hy
        obtain ⟨u, us', e1, hu, hus⟩ := hx
        obtain ⟨v, vs', e2, hv, hvs⟩ := hy
        have d1 : us.toList.drop (i + 1) = us' := by rw [← List.drop_drop, e1]; rfl
        have d2 : vs.toList.drop (i + 1) = vs' := by rw [← List.drop_drop, e2]; rfl
        have g1 : us[i]? = some u := by
          have := congrArg (fun l => l[0]?) e1
          simpa [List.getElem?_drop] using this
        have g2 : vs[i]? = some v := by
          have := congrArg (fun l => l[0]?) e2
          simpa [List.getElem?_drop] using this
        have ih := eqItems_run d hk n (i + 1) xs ys q (by rw [d1]; exact hus) (by rw [d2]; exact hvs) hq
        simp only [List.range'_succ, Op.eqItems, Sem.run_bind, Nat.mul_one, part_one hk g1, part_one hk g2, Result.andThen_ok, eqK_run hk hu hv hp d]
        cases p with
        | true => simp [ih]
        | false => simp
      · simp at h
    | [], _, h => simp [eqL] at h
    | _ :: _, [], h => simp [eqL] at h

theorem eqv_rd {o : Oper} {op : BinOp} {t u : TypeId} {x y : Operand} {x' y' : Opd} {ks : Option (List Nat)} {neg : Bool} (ho : o.op = .binOp op t x y u) (hop : (op = .eql ∧ neg = false) ∨ (op = .neq ∧ neg = true)) (hk : eqN P t = some ks)
    (hx : opd P t x = some x') (hy : opd P t y = some y') (hE : EnvR e a w g) {r : AV} (hr : flat e (.eqv neg ks x' y') = some r) : FlatR P o a w g r := by
  simp only [flat] at hr
  split at hr
  · rename_i p q hp hq
    have h1 := opd_rd hx hE hp
    have h2 := opd_rd hy hE hq
    obtain ⟨b, hb, rfl⟩ := Option.map_eq_some_iff.1 hr
    unfold eqv at hb
    split at hb
    · rename_i p0 q0
      simp only [Option.some.injEq] at hb
      subst hb
      have hu : P.underlying t = some .bool := by
        unfold eqN at hk
        split at hk
        · assumption
        · split at hk
          · obtain ⟨_, _, e⟩ := Option.map_eq_some_iff.1 hk; simp at e
          · simp at hk
        · split at hk
          · obtain ⟨_, _, e⟩ := Option.map_eq_some_iff.1 hk; simp at e
          · simp at hk
        · simp at hk
      simp only [Rd] at h1 h2
      refine ⟨.bool ((p0 == q0) != neg), ?_, by simp only [Rd]⟩
      have hg : ∀ v, eqGuard op t x y (.bool v) = fun _ => pure () := by intro v; funext z; cases op <;> rfl
      rcases hop with ⟨rfl, rfl⟩ | ⟨rfl, rfl⟩
      · simp [execOp, ho, h1, h2, hg, run_eql_bool w t _ _ hu]
      · simp only [execOp, ho, h1, h2, hg, Sem.run_bind, Sem.run_pure, Result.andThen_ok, binOp, run_equal_bool w t _ _ hu]
        simp [bne]
    · rename_i ks xs ys
      simp only [Rd] at h1 h2
      obtain ⟨us, e1, hus, _⟩ := h1
      obtain ⟨vs, e2, hvs, _⟩ := h2
      have key : P.eqGuardType P.depth t = false ∧ (Op.equalIn 10000 t (.agg us) (.agg vs)).run P w = .ok b w := by
        unfold eqN at hk
        split at hk
        · simp at hk
        · rename_i fs hu
          split at hk
          · rename_i hc
            obtain ⟨l, hl, e⟩ := Option.map_eq_some_iff.1 hk
            simp only [Option.some.injEq] at e
            subst e
            simp only [Bool.and_eq_true, Bool.not_eq_true', beq_iff_eq] at hc
            have hf : P.fieldsOf t = fs := by simp [Program.fieldsOf, hu]
            refine ⟨hc.2, ?_⟩
            rw [run_equalIn_struct w 9999 t us vs (by rw [hf]; exact hu) hc.1.1, hf]
            exact eqFields_run (g := g) 9998 fs.toList l 0 xs ys b hl (by rw [hc.1.2, List.range_eq_range']; simp) (by simpa using hus) (by simpa using hvs) hb
          · simp at hk
        · rename_i n el hu
          split at hk
          · rename_i hc
            obtain ⟨k, hkk, e⟩ := Option.map_eq_some_iff.1 hk
            simp only [Option.some.injEq] at e
            subst e
            simp only [Bool.and_eq_true, Bool.not_eq_true', beq_iff_eq] at hc
            refine ⟨hc.2, ?_⟩
            have hsz := hc.1
            unfold szT at hsz
            obtain ⟨i, hi, hi1⟩ := Option.map_eq_some_iff.1 hsz
            rw [run_equalIn_array w 9999 us vs hu hi]
            have hco : P.cellsOf el = 1 := by simp [Program.cellsOf, hi, hi1]
            rw [hco, List.range_eq_range']
            exact eqItems_run (g := g) 9998 hkk n 0 xs ys b (by simpa using hus) (by simpa using hvs) hb
          · simp at hk
        · simp at hk
      refine ⟨.bool (b != neg), ?_, by simp only [Rd]⟩
      rcases hop with ⟨rfl, rfl⟩ | ⟨rfl, rfl⟩
      · simp only [execOp, ho, e1, e2, Sem.run_bind, run_eqGuard_agg w _ t x y us vs key.1, Result.andThen_ok, run_eql_struct w t us vs, key.2]
        simp
      · simp only [execOp, ho, e1, e2, Sem.run_bind, run_eqGuard_agg w _ t x y us vs key.1, Result.andThen_ok, run_neq_struct w t us vs, key.2]
        simp
    · simp at hb
  · simp at hr

theorem isn_rd {o : Oper} {op : BinOp} {t u : TypeId} {x : Operand} {x' : Opd} {neg : Bool} {ms : Array (String × TypeId)} (ho : o.op = .binOp op t x (.const .nilIface) u) (hop : (op = .eql ∧ neg = false) ∨ (op = .neq ∧ neg = true))
    (hu : P.underlying t = some (.interface ms)) (hx : opd P t x = some x') (hE : EnvR e a w g) {r : AV} (hr : flat e (.isn neg x') = some r) : FlatR P o a w g r := by
  have hc : a.eval (.const .nilIface) = .nilIface := rfl
  have hm : P.underlying t = some (.interface (P.methodsAt t)) := by simp [Program.methodsAt, hu]
  simp only [flat] at hr
  split at hr
  · rename_i hb
    have h1 := opd_rd hx hE hb
    simp only [Option.some.injEq] at hr
    subst hr
    simp only [Rd] at h1
    refine ⟨.bool (!neg), ?_, by simp only [Rd]⟩
    have hg : (eqGuard op t x (.const .nilIface) .nilIface .nilIface).run P w = .ok () w := by rcases hop with ⟨rfl, rfl⟩ | ⟨rfl, rfl⟩ <;> simp [eqGuard]
    rcases hop with ⟨rfl, rfl⟩ | ⟨rfl, rfl⟩
    · simp only [execOp, ho, h1, hc, Sem.run_bind, hg, Result.andThen_ok, binOp, run_equal_nil_nil w t hm, Sem.run_pure]
      rfl
    · simp only [execOp, ho, h1, hc, Sem.run_bind, hg, Result.andThen_ok, binOp, run_equal_nil_nil w t hm, Sem.run_pure]
  · rename_i hb
    have h1 := opd_rd hx hE hb
    simp only [Option.some.injEq] at hr
    subst hr
    simp only [Rd] at h1
    obtain ⟨t', p, h1⟩ := h1
    refine ⟨.bool neg, ?_, by simp only [Rd]⟩
    have hg : (eqGuard op t x (.const .nilIface) (.iface t' p) .nilIface).run P w = .ok () w := by rcases hop with ⟨rfl, rfl⟩ | ⟨rfl, rfl⟩ <;> simp [eqGuard]
    rcases hop with ⟨rfl, rfl⟩ | ⟨rfl, rfl⟩
    · simp only [execOp, ho, h1, hc, Sem.run_bind, hg, Result.andThen_ok, binOp, run_equal_held_nil w t t' p hm, Sem.run_pure]
    · simp only [execOp, ho, h1, hc, Sem.run_bind, hg, Result.andThen_ok, binOp, run_equal_held_nil w t t' p hm, Sem.run_pure]
      rfl
  · simp at hr

theorem un_rd {o : Oper} {op : UnOp} {t : TypeId} {x : Operand} {x' : Opd} (ho : o.op = .unOp op t x) (hx : opd P t x = some x') (hE : EnvR e a w g) {r : AV} (hr : flat e (.un op x') = some r) : FlatR P o a w g r := by
  simp only [flat] at hr
  obtain ⟨p, hp, hr⟩ := Option.bind_eq_some_iff.1 hr
  have h1 := opd_rd hx hE hp
  unfold un at hr
  split at hr
  · rename_i p0 _
    simp only [Option.some.injEq] at hr
    subst hr
    simp only [Rd] at h1
    exact ⟨.bool (!p0), by simp [execOp, ho, h1, Op.unary], by simp only [Rd]⟩
  · simp only [Rd] at h1
    exact ⟨_, by simp only [execOp, ho, h1, Op.unary, Op.intArith, Sem.run_bind, Sem.run_pure, Result.andThen_ok], chk_rd hr⟩
  · simp at hr

theorem minmax_run {lt : Int → Int → Bool} {f : Value → Value → Sem Value} (hf : ∀ k a b, f (.int k a) (.int k b) = pure (.int k (if lt b a then b else a))) (k : IntKind) :
    ∀ (xs : List AV) (us : List Value) (a0 : Int) (r : AV), RdL w g xs us → foldI lt k a0 xs = some r → ∃ v, (us.foldlM f (.int k a0)).run P w = .ok v w ∧ Rd w g r v
  | [], us, a0, r, hx, h => by
    simp only [RdL] at hx
    subst hx
    simp only [foldI, Option.some.injEq] at h
    subst h
    exact ⟨.int k a0, by simp, by simp only [Rd]⟩
  | x :: xs, us, a0, r, hx, h => by
    simp only [RdL] at hx
    obtain ⟨u, us', rfl, h1, h2⟩ := hx
    cases x with
    | int k' b =>
      simp only [foldI] at h
      split at h
      · rename_i hk
        subst hk
        simp only [Rd] at h1
        subst h1
        obtain ⟨v, hv, hr⟩ := minmax_run hf k xs us' _ r h2 h
        exact ⟨v, by simp only [List.foldlM_cons, hf, Sem.run_bind, Sem.run_pure, Result.andThen_ok, hv], hr⟩
      · simp at h
    | _ => simp [foldI] at h
theorem mm_rd {o : Oper} {c : Call} {ys : List Opd} {lt : Int → Int → Bool} {f : Value → Value → Sem Value} (hf : ∀ k a b, f (.int k a) (.int k b) = pure (.int k (if lt b a then b else a))) (_ho : o.op = .call c)
    (hrun : ∀ (x : Value) (us : List Value), c.args.toList.map a.eval = x :: us → (us.foldlM f x).run P w = (us.foldlM f x).run P w → ∀ v, (us.foldlM f x).run P w = .ok v w → (execOp a.eval o).run P w = .ok (.value v) w)
    (hx : opds P c.argTypes.toList c.args.toList = some ys) (hE : EnvR e a w g) {r : AV} {rs : List AV} (hrs : evos e ys = some rs) (hr : extreme lt rs = some r) : FlatR P o a w g r := by
  have h1 := opds_rd hE hx hrs
  unfold extreme at hr
  split at hr
  · rename_i k a0 l
    simp only [RdL] at h1
    obtain ⟨u, us', e1, h2, h3⟩ := h1
    simp only [Rd] at h2
    subst h2
    obtain ⟨v, hv, hrd⟩ := minmax_run (P := P) hf k l us' a0 r h3 hr
    exact ⟨v, hrun _ _ e1 rfl v hv, hrd⟩
  · simp at hr
theorem min_rd {o : Oper} {c : Call} {ys : List Opd} (ho : o.op = .call c) (hc : c.callee = .builtin .min) (hx : opds P c.argTypes.toList c.args.toList = some ys) (hE : EnvR e a w g) {r : AV} (hr : flat e (.min ys) = some r) : FlatR P o a w g r := by
  simp only [flat] at hr
  obtain ⟨rs, hrs, hr⟩ := Option.bind_eq_some_iff.1 hr
  refine mm_rd (lt := fun b a => decide (b < a)) (f := Builtin.min2) (fun k a b => by simp [Builtin.min2]) ho ?_ hx hE hrs hr
  intro x us he _ v hv
  obtain ⟨callee, args, argTypes⟩ := c
  simp only at hc he
  subst hc
  simp only [execOp, ho, resolve, invoke, builtin, Builtin.min_, Sem.run_bind, Sem.run_pure, Result.andThen_ok, Array.toList_map, he, hv]
theorem max_rd {o : Oper} {c : Call} {ys : List Opd} (ho : o.op = .call c) (hc : c.callee = .builtin .max) (hx : opds P c.argTypes.toList c.args.toList = some ys) (hE : EnvR e a w g) {r : AV} (hr : flat e (.max ys) = some r) : FlatR P o a w g r := by
  simp only [flat] at hr
  obtain ⟨rs, hrs, hr⟩ := Option.bind_eq_some_iff.1 hr
  refine mm_rd (lt := fun b a => decide (a < b)) (f := Builtin.max2) (fun k a b => by simp [Builtin.max2]) ho ?_ hx hE hrs hr
  intro x us he _ v hv
  obtain ⟨callee, args, argTypes⟩ := c
  simp only at hc he
  subst hc
  simp only [execOp, ho, resolve, invoke, builtin, Builtin.max_, Sem.run_bind, Sem.run_pure, Result.andThen_ok, Array.toList_map, he, hv]
end
end Go.Proofs.YtpkeiffclipjmaaGreatDoor.Rx
