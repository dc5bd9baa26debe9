/-
  The reports' laws: the two orders of paths are one (no program here).
-/
import Derived.Test.YtdjgdipmjbkilaaGreatDoorRxHe
namespace Go.Proofs.YtdjgdipmjbkilaaGreatDoor.Rx
open Go
set_option linter.unusedSimpArgs false
set_option linter.unusedVariables false

theorem lessS_self : ∀ a : List UInt8, lessS a a = false
  | [] => rfl
  | x :: a => by simp [lessS, lessS_self a]
theorem lessS_pre (p : List UInt8) (y : UInt8) (v : List UInt8) : lessS p (p ++ y :: v) = true := by
  induction p with
  | nil => rfl
  | cons x p ih => simp [lessS, ih]
theorem lessS_pre' (p : List UInt8) (y : UInt8) (v : List UInt8) : lessS (p ++ y :: v) p = false := by
  induction p with
  | nil => rfl
  | cons x p ih => simp [lessS, ih]
theorem lessS_at (p : List UInt8) (x y : UInt8) (u v : List UInt8) (h : x ≠ y) : lessS (p ++ x :: u) (p ++ y :: v) = decide (x < y) := by
  induction p with
  | nil => simp [lessS, h]
  | cons z p ih => simp [lessS, ih]
theorem splitG_head : ∀ (r p : List UInt8), ∃ w t, splitG p r = (p ++ w) :: t
  | [], p => ⟨[], [], by simp [splitG]⟩
  | c :: r, p => by
    unfold splitG
    split
    · exact ⟨[], splitG [] r, by simp⟩
    · obtain ⟨w, t, h⟩ := splitG_head r (p ++ [c])
      exact ⟨c :: w, t, by rw [h]; simp⟩
theorem cmpL_head {a b : List UInt8} {x y : List (List UInt8)} (h : a ≠ b) : cmpL (a :: x) (b :: y) = if lessS a b = true then -1 else 1 := by
  have hq : cmpQ (a :: x) (b :: y) = if lessS a b = true then some (-1) else if a = b then cmpQ x y else some 1 := rfl
  unfold cmpL
  rw [hq]
  by_cases h1 : lessS a b = true
  · rw [if_pos h1, if_pos h1]
  · rw [if_neg h1, if_neg h, if_neg h1]
theorem cmpL_same (a : List UInt8) (x y : List (List UInt8)) : cmpL (a :: x) (a :: y) = cmpL x y := by
  unfold cmpL
  have : cmpQ (a :: x) (a :: y) = cmpQ x y := by
    rw [cmpQ]
    rw [if_neg (by rw [lessS_self]; simp), if_pos rfl]
  rw [this]
  simp
theorem u8_ne_rk {x y : UInt8} (hx : x ≠ 47) (hy : y ≠ 47) : rk1 x < rk1 y ↔ x < y := by
  unfold rk1
  rw [if_neg hx, if_neg hy, UInt8.lt_iff_toNat_lt]
  omega
theorem app_ne (p : List UInt8) (y : UInt8) (v : List UInt8) : p ≠ p ++ y :: v := fun e => by
  have := congrArg List.length e
  simp at this
theorem app_ne2 (p : List UInt8) (x y : UInt8) (u v : List UInt8) (h : x ≠ y) : p ++ x :: u ≠ p ++ y :: v := fun e => by
  have := List.append_cancel_left e
  simp only [List.cons.injEq] at this
  exact h this.1
theorem rk1_47 (y : UInt8) (hy : y ≠ 47) : rk1 47 < rk1 y ∧ ¬ rk1 y < rk1 47 := by
  have h1 : rk1 47 = 1 := rfl
  unfold rk1 at *
  rw [if_neg hy]
  have := y.toNat_lt
  omega
theorem cmp_split : ∀ (a b p : List UInt8), cmpL (splitG p a) (splitG p b) = cmpS a b
  | [], [], p => by
    simp only [splitG, cmpL_same, cmpS]
    rfl
  | [], c :: b, p => by
    by_cases hc : c = 47
    · subst hc
      simp only [splitG, if_true, cmpL_same, cmpS]
      obtain ⟨w, t, h⟩ := splitG_head b []
      rw [h]
      rfl
    · obtain ⟨w, t, h⟩ := splitG_head b (p ++ [c])
      simp only [splitG, if_neg hc, h, cmpS]
      have e : p ++ [c] ++ w = p ++ c :: w := by simp
      rw [e, cmpL_head (app_ne p c w), if_pos (lessS_pre p c w)]
  | c :: a, [], p => by
    by_cases hc : c = 47
    · subst hc
      simp only [splitG, if_true, cmpL_same, cmpS]
      obtain ⟨w, t, h⟩ := splitG_head a []
      rw [h]
      rfl
    · obtain ⟨w, t, h⟩ := splitG_head a (p ++ [c])
      simp only [splitG, if_neg hc, h, cmpS]
      have e : p ++ [c] ++ w = p ++ c :: w := by simp
      rw [e, cmpL_head (Ne.symm (app_ne p c w)), if_neg (by rw [lessS_pre']; simp)]
  | x :: a, y :: b, p => by
    by_cases hx : x = 47
    · subst hx
      by_cases hy : y = 47
      · subst hy
        simp only [splitG, if_true, cmpL_same, cmpS, Int.lt_irrefl, if_false]
        exact cmp_split a b []
      · obtain ⟨w, t, h⟩ := splitG_head b (p ++ [y])
        obtain ⟨k1, k2⟩ := rk1_47 y hy
        simp only [splitG, if_true, if_neg hy, h, cmpS, if_pos k1]
        have e : p ++ [y] ++ w = p ++ y :: w := by simp
        rw [e, cmpL_head (app_ne p y w), if_pos (lessS_pre p y w)]
    · by_cases hy : y = 47
      · subst hy
        obtain ⟨w, t, h⟩ := splitG_head a (p ++ [x])
        obtain ⟨k1, k2⟩ := rk1_47 x hx
        simp only [splitG, if_true, if_neg hx, h, cmpS, if_neg k2, if_pos k1]
        have e : p ++ [x] ++ w = p ++ x :: w := by simp
        rw [e, cmpL_head (Ne.symm (app_ne p x w)), if_neg (by rw [lessS_pre']; simp)]
      · by_cases hxy : x = y
        · subst hxy
          simp only [splitG, if_neg hx, cmpS, Int.lt_irrefl, if_false]
          exact cmp_split a b (p ++ [x])
        · obtain ⟨w, t, h⟩ := splitG_head a (p ++ [x])
          obtain ⟨w', t', h'⟩ := splitG_head b (p ++ [y])
          simp only [splitG, if_neg hx, if_neg hy, h, h', cmpS]
          have e : p ++ [x] ++ w = p ++ x :: w := by simp
          have e' : p ++ [y] ++ w' = p ++ y :: w' := by simp
          rw [e, e', cmpL_head (app_ne2 p x y w w' hxy), lessS_at p x y w w' hxy]
          by_cases hlt : x < y
          · rw [if_pos (by simpa using hlt), if_pos ((u8_ne_rk hx hy).2 hlt)]
          · have hgt : y < x := by
              rw [UInt8.lt_iff_toNat_lt] at hlt ⊢
              have : x.toNat ≠ y.toNat := fun e => hxy (UInt8.toNat_inj.1 e)
              omega
            rw [if_neg (by simpa using hlt), if_neg (fun h => hlt ((u8_ne_rk hx hy).1 h)), if_pos ((u8_ne_rk hy hx).2 hgt)]
/-- The document's order is the program's. -/
theorem cmp_eq (a b : List UInt8) : cmpP a b = cmpS a b := cmp_split a b []
theorem rk1_inj {x y : UInt8} (h1 : ¬ rk1 x < rk1 y) (h2 : ¬ rk1 y < rk1 x) : x = y := by
  unfold rk1 at h1 h2
  have hx := x.toNat_lt
  have hy := y.toNat_lt
  by_cases k1 : x = 47
  · by_cases k2 : y = 47
    · rw [k1, k2]
    · rw [if_pos k1, if_neg k2] at h1; omega
  · by_cases k2 : y = 47
    · rw [if_neg k1, if_pos k2] at h2; omega
    · rw [if_neg k1, if_neg k2] at h1 h2
      exact UInt8.toNat_inj.1 (by omega)
theorem cmpS_self : ∀ a : List UInt8, cmpS a a = 0
  | [] => rfl
  | x :: a => by simp [cmpS, cmpS_self a]
theorem cmpS_zero : ∀ {a b : List UInt8}, cmpS a b = 0 → a = b
  | [], [], _ => rfl
  | [], c :: b, h => by simp [cmpS] at h
  | c :: a, [], h => by simp [cmpS] at h
  | x :: a, y :: b, h => by
    unfold cmpS at h
    split at h
    · simp at h
    · split at h
      · simp at h
      · rename_i h1 h2
        rw [rk1_inj h1 h2, cmpS_zero h]
theorem cmpS_anti : ∀ a b : List UInt8, cmpS b a = - cmpS a b
  | [], [] => rfl
  | [], c :: b => rfl
  | c :: a, [] => rfl
  | x :: a, y :: b => by
    unfold cmpS
    by_cases h1 : rk1 x < rk1 y
    · rw [if_neg (by omega), if_pos h1, if_pos h1]; rfl
    · by_cases h2 : rk1 y < rk1 x
      · rw [if_pos h2, if_neg h1, if_pos h2]
      · rw [if_neg h2, if_neg h1, if_neg h1, if_neg h2]
        exact cmpS_anti a b
theorem cmpS_trans : ∀ {a b c : List UInt8}, cmpS a b < 0 → cmpS b c < 0 → cmpS a c < 0
  | [], [], c, h1, h2 => by simp [cmpS] at h1
  | [], y :: b, [], h1, h2 => by simp [cmpS] at h2
  | [], y :: b, z :: c, h1, h2 => by simp [cmpS]
  | x :: a, [], c, h1, h2 => by simp [cmpS] at h1
  | x :: a, y :: b, [], h1, h2 => by simp [cmpS] at h2
  | x :: a, y :: b, z :: c, h1, h2 => by
    unfold cmpS at h1 h2 ⊢
    by_cases k1 : rk1 x < rk1 y
    · by_cases k2 : rk1 y < rk1 z
      · rw [if_pos (by omega)]; omega
      · rw [if_neg k2] at h2
        by_cases k3 : rk1 z < rk1 y
        · rw [if_pos k3] at h2; omega
        · rw [if_pos (by omega)]; omega
    · rw [if_neg k1] at h1
      by_cases k4 : rk1 y < rk1 x
      · rw [if_pos k4] at h1; omega
      · rw [if_neg k4] at h1
        by_cases k2 : rk1 y < rk1 z
        · rw [if_pos (by omega)]; omega
        · rw [if_neg k2] at h2
          by_cases k3 : rk1 z < rk1 y
          · rw [if_pos k3] at h2; omega
          · rw [if_neg k3] at h2
            rw [if_neg (by omega), if_neg (by omega)]
            exact cmpS_trans h1 h2
end Go.Proofs.YtdjgdipmjbkilaaGreatDoor.Rx
