/-
  The script's laws, plain, 11: a script's bytes, there and back.
-/
import Derived.Test.YtdcgldhhdajocaaDoorRxP10
namespace Go.Proofs.YtdcgldhhdajocaaDoor.Rx
open Go
set_option linter.unusedSimpArgs false
set_option linter.unusedVariables false

theorem dig_toNat (d : Nat) (h : d < 10) : (UInt8.ofNat (48 + d)).toNat = 48 + d := by
  rw [UInt8.toNat_ofNat']
  omega
theorem decDigits_dig : ∀ (u : Nat) (c : UInt8), c ∈ Lib.decDigits u → 48 ≤ c.toNat ∧ c.toNat ≤ 57 := by
  intro u
  induction u using Nat.strongRecOn with
  | _ u ih =>
    intro c hc
    rw [Lib.decDigits] at hc
    by_cases h : u < 10
    · rw [dif_pos h, List.mem_singleton] at hc
      subst hc
      rw [dig_toNat u h]
      omega
    · rw [dif_neg h, List.mem_append, List.mem_singleton] at hc
      rcases hc with hc | rfl
      · exact ih (u / 10) (by omega) c hc
      · rw [dig_toNat _ (by omega)]
        omega
theorem decDigits_ne (u : Nat) : Lib.decDigits u ≠ [] := by
  rw [Lib.decDigits]
  split <;> simp
theorem parse_app : ∀ (l r : List UInt8) (a m : Nat), Lib.parseUint10 a l = .ok m → Lib.parseUint10 a (l ++ r) = Lib.parseUint10 m r
  | [], r, a, m, h => by
    simp only [Lib.parseUint10, Lib.NumEnd.ok.injEq] at h
    subst h
    rfl
  | c :: l, r, a, m, h => by
    simp only [Lib.parseUint10, List.cons_append] at h ⊢
    split at h
    · rename_i h1
      rw [if_pos h1]
      split at h
      · cases h
      · rename_i h2
        rw [if_neg h2]
        split at h
        · cases h
        · rename_i h3
          rw [if_neg h3]
          exact parse_app l r _ m h
    · cases h
theorem parse_dec : ∀ (u : Nat), u < 9223372036854775808 → Lib.parseUint10 0 (Lib.decDigits u) = .ok u := by
  intro u
  induction u using Nat.strongRecOn with
  | _ u ih =>
    intro hu
    rw [Lib.decDigits]
    by_cases h : u < 10
    · rw [dif_pos h]
      simp only [Lib.parseUint10, dig_toNat u h]
      rw [if_pos (by omega), if_neg (by omega), if_neg (by omega)]
      congr 1
      omega
    · rw [dif_neg h, parse_app _ _ _ _ (ih (u / 10) (by omega) (by omega))]
      simp only [Lib.parseUint10, dig_toNat (u % 10) (by omega)]
      rw [if_pos (by omega), if_neg (by omega), if_neg (by omega)]
      congr 1
      omega
theorem itoa_nn {n : Int} (h : 0 ≤ n) : Lib.itoa n = Lib.decDigits n.toNat := by
  unfold Lib.itoa
  rw [if_neg (by omega)]
theorem atoi_itoa {n : Int} (h : 0 ≤ n) (h2 : n ≤ 9223372036854775807) : Lib.atoiAll (Lib.itoa n) = .ok n := by
  rw [itoa_nn h]
  have hne := decDigits_ne n.toNat
  have hd := decDigits_dig n.toNat
  have hp := parse_dec n.toNat (by omega)
  cases hq : Lib.decDigits n.toNat with
  | nil => exact absurd hq hne
  | cons c r =>
    rw [hq] at hd hp
    have hc := hd c (by simp)
    unfold Lib.atoiAll
    simp only
    rw [if_neg (by omega)]
    unfold Lib.parseMag
    rw [if_neg (by simp), hp]
    simp only
    rw [if_neg (by omega), if_neg (by omega), if_neg (by omega)]
    congr 1
    omega
theorem idx_app : ∀ (l r : List UInt8) (c : UInt8), c ∉ l → Lib.indexByte (l ++ c :: r) c = l.length
  | [], r, c, _ => by simp [Lib.indexByte]
  | b :: l, r, c, h => by
    have h1 : ¬ (b == c) = true := by simp; rintro rfl; simp at h
    have h2 := idx_app l r c (fun k => h (List.mem_cons_of_mem _ k))
    rw [List.cons_append]
    unfold Lib.indexByte
    rw [if_neg h1, h2, if_neg (by simp)]
    simp
theorem numF_itoa (c : UInt8) (hc : 57 < c.toNat) {n : Int} (h : 0 ≤ n) (h2 : n ≤ 9223372036854775807) (r : List UInt8) : numF c (Lib.itoa n ++ c :: r) = some (n, r) := by
  have hi : Lib.indexByte (Lib.itoa n ++ c :: r) c = (Lib.itoa n).length := by
    refine idx_app _ _ _ fun k => ?_
    rw [itoa_nn h] at k
    have := decDigits_dig _ _ k
    omega
  have hl : 0 < (Lib.itoa n).length := by
    rw [itoa_nn h]
    exact List.length_pos_iff.2 (decDigits_ne _)
  unfold numF
  rw [hi, if_pos (by omega)]
  have ht : (Lib.itoa n ++ c :: r).take (Lib.itoa n).length = Lib.itoa n := by simp
  simp only [Int.toNat_natCast]
  rw [ht, atoi_itoa h h2]
  simp only
  rw [if_pos ⟨h, trivial⟩]
  congr 2
  rw [← List.drop_drop]
  simp
theorem linesF_enc : ∀ (ls : List (List UInt8)) (r : List UInt8), (∀ l ∈ ls, l.length ≤ 9223372036854775807) → linesF ls.length (encLs ls ++ r) = some (ls, r)
  | [], r, _ => rfl
  | l :: ls, r, h => by
    have h1 := h l (by simp)
    have e : encLs (l :: ls) ++ r = Lib.itoa l.length ++ 58 :: (l ++ (encLs ls ++ r)) := by simp [encLs, encLine]
    rw [e, List.length_cons]
    unfold linesF
    rw [numF_itoa 58 (by decide) (by omega) (by omega)]
    simp only
    rw [if_pos (by simp; omega)]
    have e2 : (l ++ (encLs ls ++ r)).drop (l.length : Int).toNat = encLs ls ++ r := by simp
    have e3 : (l ++ (encLs ls ++ r)).take (l.length : Int).toNat = l := by simp
    rw [e2, e3, linesF_enc ls r (fun x hx => h x (List.mem_cons_of_mem _ hx))]
    rfl
theorem editF_enc (e : Edit) (hm : mayB e = true) (hl : ∀ l ∈ e.ls, l.length ≤ 9223372036854775807) (r : List UInt8) : editF (encE e ++ r) = some (e, r) := by
  obtain ⟨op, n, ls⟩ := e
  obtain ⟨hop, hn1, hn2, hn3, hn4⟩ := mayB_op hm
  simp only at hop hn1 hn2 hn3 hn4 hl
  have hnum := fun (r : List UInt8) => numF_itoa 59 (by decide) (n := n) (by omega) (by omega) r
  have e : encE ⟨op, n, ls⟩ ++ r = sgn op ++ (Lib.itoa n ++ 59 :: (encLs ls ++ r)) := by simp [encE, encHead]
  rw [e]
  rcases hop with rfl | rfl | rfl
  · have h0 : ls = [] := hn4 (by omega)
    subst h0
    have o : opF 61 = 1 := by decide
    simp [sgn, editF, o, hnum, hn2, encLs]
  · have h0 : ls = [] := hn4 (by omega)
    subst h0
    have o : opF 45 = 2 := by decide
    simp [sgn, editF, o, hnum, hn2, encLs]
  · have hn := hn3 rfl
    have ho : opF 43 = 3 := by decide
    have hle := linesF_enc ls r hl
    have hnt : n.toNat = ls.length := by omega
    simp [sgn, editF, ho, hnum, hn2, hnt, hle]
theorem encE_pos (e : Edit) : ∃ c r, encE e = c :: r := by
  unfold encE encHead sgn
  split
  · exact ⟨61, _, rfl⟩
  · split
    · exact ⟨45, _, rfl⟩
    · exact ⟨43, _, rfl⟩
theorem decL_enc : ∀ (s : List Edit) (k : Nat), (∀ e ∈ s, mayB e = true) → (∀ e ∈ s, ∀ l ∈ e.ls, l.length ≤ 9223372036854775807) → (encL s).length ≤ k → decL k (encL s) = some s
  | [], k, _, _, _ => by cases k <;> rfl
  | e :: s, k, hm, hl, hk => by
    obtain ⟨c, r, h⟩ := encE_pos e
    have he : encL (e :: s) = c :: (r ++ encL s) := by
      have : encL (e :: s) = encE e ++ encL s := by simp [encL]
      rw [this, h]
      rfl
    have hd := editF_enc e (hm e (by simp)) (hl e (by simp)) (encL s)
    rw [h] at hd
    rw [he] at hk ⊢
    cases k with
    | zero => simp at hk
    | succ k =>
      simp only [List.length_cons, List.length_append] at hk
      simp only [decL]
      rw [List.cons_append] at hd
      rw [hd]
      simp only
      rw [decL_enc s k (fun x hx => hm x (List.mem_cons_of_mem _ hx)) (fun x hx => hl x (List.mem_cons_of_mem _ hx)) (by omega)]
      rfl
theorem decF_enc {s : List Edit} (h : rightB s = true) (hl : ∀ e ∈ s, ∀ l ∈ e.ls, l.length ≤ 9223372036854775807) : decF (encL s) = some s := by
  unfold decF
  rw [decL_enc s _ (rightF_may h) hl (Nat.le_refl _)]
  simp only
  rw [if_pos h]

theorem idx_split : ∀ (t : List UInt8) (c : UInt8), 0 ≤ Lib.indexByte t c → t = t.take (Lib.indexByte t c).toNat ++ c :: t.drop ((Lib.indexByte t c).toNat + 1)
  | [], c, h => by simp [Lib.indexByte] at h
  | b :: l, c, h => by
    unfold Lib.indexByte at h ⊢
    split
    · rename_i hb
      have : b = c := by simpa using hb
      subst this
      simp
    · rename_i hb
      rw [if_neg hb] at h
      split
      · rename_i h2
        rw [if_pos h2] at h
        simp at h
      · rename_i h2
        have h3 := idx_lt l c
        have h4 : 0 ≤ Lib.indexByte l c := by
          rcases h3 with h3 | h3
          · rw [h3] at h2; simp at h2
          · exact h3.1
        have h5 := idx_split l c h4
        have h6 : (Lib.indexByte l c + 1).toNat = (Lib.indexByte l c).toNat + 1 := by omega
        rw [h6, List.take_succ_cons, List.drop_succ_cons, List.cons_append, ← h5]
theorem numF_eq {c : UInt8} {t r : List UInt8} {v : Int} (h : numF c t = some (v, r)) : t = Lib.itoa v ++ c :: r := by
  unfold numF at h
  split at h
  · rename_i h0
    split at h
    · split at h
      · rename_i h2
        simp only [Option.some.injEq, Prod.mk.injEq] at h
        obtain ⟨rfl, rfl⟩ := h
        rw [h2.2]
        exact idx_split t c (by omega)
      · simp at h
    · simp at h
  · simp at h
theorem linesF_eq : ∀ {n : Nat} {t r : List UInt8} {L : List (List UInt8)}, linesF n t = some (L, r) → t = encLs L ++ r
  | 0, t, r, L, h => by
    simp only [linesF, Option.some.injEq, Prod.mk.injEq] at h
    obtain ⟨rfl, rfl⟩ := h
    rfl
  | n + 1, t, r, L, h => by
    unfold linesF at h
    split at h
    · rename_i m u hq
      have h0 := numF_eq hq
      have h1 := numF_spec hq
      split at h
      · rename_i hm
        obtain ⟨⟨L', r'⟩, h2, h3⟩ := Option.map_eq_some_iff.1 h
        simp only [Prod.mk.injEq] at h3
        obtain ⟨rfl, rfl⟩ := h3
        have h4 := linesF_eq h2
        have h5 : ((u.take m.toNat).length : Int) = m := by rw [List.length_take]; omega
        have h6 : encLs (u.take m.toNat :: L') ++ r' = Lib.itoa m ++ 58 :: (u.take m.toNat ++ (encLs L' ++ r')) := by simp only [encLs, encLine, List.flatMap_cons, h5]; simp
        rw [h6, ← h4, List.take_append_drop]
        exact h0
      · simp at h
    · simp at h
theorem opF_sgn (c : UInt8) (h : 0 < opF c) : sgn (opF c) = [c] ∧ (opF c = 1 ∨ opF c = 2 ∨ opF c = 3) := by
  unfold opF at h ⊢
  simp only [Lib.indexByte] at h ⊢
  by_cases h1 : c = 63
  · subst h1; simp at h
  · by_cases h2 : c = 61
    · subst h2; decide
    · by_cases h3 : c = 45
      · subst h3; decide
      · by_cases h4 : c = 43
        · subst h4; decide
        · exfalso
          have a1 : ¬ 63 = c := fun e => h1 e.symm
          have a2 : ¬ 61 = c := fun e => h2 e.symm
          have a3 : ¬ 45 = c := fun e => h3 e.symm
          have a4 : ¬ 43 = c := fun e => h4 e.symm
          simp [a1, a2, a3, a4] at h
theorem editF_eq {t r : List UInt8} {e : Edit} (h : editF t = some (e, r)) : t = encE e ++ r := by
  unfold editF at h
  split at h
  · simp at h
  · rename_i c u
    split at h
    · rename_i h0
      obtain ⟨h1, h2⟩ := opF_sgn c h0
      split at h
      · rename_i n v hq
        have h3 := numF_eq hq
        split at h
        · split at h
          · rename_i h5
            split at h
            · rename_i ls w hw
              simp only [Option.some.injEq, Prod.mk.injEq] at h
              obtain ⟨rfl, rfl⟩ := h
              have h4 := linesF_eq hw
              rw [h5] at h1
              have : encE ⟨3, n, ls⟩ ++ w = sgn 3 ++ (Lib.itoa n ++ 59 :: (encLs ls ++ w)) := by simp [encE, encHead]
              rw [this, ← h4, ← h3, h1]
              rfl
            · simp at h
          · simp only [Option.some.injEq, Prod.mk.injEq] at h
            obtain ⟨rfl, rfl⟩ := h
            have : encE ⟨opF c, n, []⟩ ++ v = sgn (opF c) ++ (Lib.itoa n ++ 59 :: v) := by simp [encE, encHead, encLs]
            rw [this, ← h3, h1]
            rfl
        · simp at h
      · simp at h
    · simp at h
theorem decL_eq : ∀ {k : Nat} {t : List UInt8} {s : List Edit}, decL k t = some s → t = encL s
  | k, [], s, h => by
    have e : decL k [] = some [] := by cases k <;> rfl
    rw [e] at h
    simp only [Option.some.injEq] at h
    subst h
    rfl
  | 0, c :: r, s, h => by simp [decL] at h
  | k + 1, c :: r, s, h => by
    simp only [decL] at h
    split at h
    · rename_i e t he
      obtain ⟨l, h1, rfl⟩ := Option.map_eq_some_iff.1 h
      have h2 := decL_eq h1
      have h3 := editF_eq he
      rw [h3, h2]
      simp [encL]
    · simp at h
theorem decF_eq {t : List UInt8} {s : List Edit} (h : decF t = some s) : t = encL s ∧ rightB s = true := by
  unfold decF at h
  split at h
  · rename_i s' hs
    split at h
    · rename_i hr
      simp only [Option.some.injEq] at h
      subst h
      exact ⟨decL_eq hs, hr⟩
    · simp at h
  · simp at h
end Go.Proofs.YtdcgldhhdajocaaDoor.Rx
