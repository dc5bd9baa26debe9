/-
  The reports' laws: entries of trees may be, each alone (no program here).
-/
import Derived.Test.YtdjgdipmjbkilaaGreatDoorRxH32
namespace Go.Proofs.YtdjgdipmjbkilaaGreatDoor.Rx
open Go
set_option linter.unusedSimpArgs false
set_option linter.unusedVariables false

theorem findF_some {t : List It} {x : It} (h : x ∈ t) : (findF t x.path).isSome = true := by
  unfold findF
  rw [List.find?_isSome]
  exact ⟨x, h, by simp⟩
theorem kindB_of {t : List It} (h : Good t) {p : List UInt8} (hs : (findF t p).isSome = true) : kindB (fD (findF t p)).kind = true := by
  cases hx : findF t p with
  | none => rw [hx] at hs; simp at hs
  | some x =>
    have := h.2 x (findF_mem hx).1
    show decide (1 ≤ x.kind ∧ x.kind ≤ 3) = true
    exact decide_eq_true this
theorem pair_score {old fresh : List It} {th : Int} {p : Pr} (h : p ∈ pairsF old fresh th) : 1 ≤ p.score ∧ p.score ≤ 100 := by
  obtain ⟨x, _, y, _, rfl, _, h1⟩ := candF_mem (pairsF_mem h)
  exact ⟨h1, scoreF_le _ _⟩
theorem rowF_may {a b : List It} {l : List Pr} {p : List UInt8} {e : En} (ha : Good a) (hb : Good b) (sa : SmT a) (sb : SmT b) (hl : ∀ x ∈ l, 1 ≤ x.score ∧ x.score ≤ 100) (hp : (findF a p).isSome = true ∨ (findF b p).isSome = true) (h : rowF a b l p = some e) : mayE e = true := by
  have hs : ∀ q r, rightB (scriptI (fD (findF a q)) (fD (findF b r))) = true := fun q r => scriptI_right _ _ (by have := fD_smT sa q; omega) (by have := fD_smT sb r; omega)
  unfold rowF at h
  split at h
  · rename_i x hx
    simp only [Option.some.injEq] at h
    subst h
    have h2 := hl x (rowL_mem hx).1
    simp [renE, mayE, h2, hs]
  · simp at h
  · split at h
    · rename_i hn
      simp only [Option.some.injEq] at h
      subst h
      have hk := kindB_of hb (hp.resolve_left (by rw [hn]; simp))
      simp [mayE, plainE, hk]
    · rename_i hn
      have hk := kindB_of (p := p) ha (Bool.not_eq_false _ ▸ hn)
      split at h
      · simp only [Option.some.injEq] at h
        subst h
        simp [mayE, plainE, hk]
      · rename_i hm
        have hk2 := kindB_of (p := p) hb (Bool.not_eq_false _ ▸ hm)
        unfold bothE at h
        split at h
        · simp only [Option.some.injEq] at h
          subst h
          simp [mayE, plainE, hk, hk2]
        · rename_i hq
          split at h
          · rename_i hf
            simp only [Option.some.injEq] at h
            subst h
            have he : (fD (findF a p)).kind = (fD (findF b p)).kind := Classical.byContradiction fun k => hq (.inl k)
            simp [mayE, plainE, he, hf.1, hs]
          · simp at h
theorem rowF_path {a b : List It} {l : List Pr} {p : List UInt8} {e : En} (h : rowF a b l p = some e) : e.path = p := by
  unfold rowF at h
  split at h
  · simp only [Option.some.injEq] at h; subst h; rfl
  · simp at h
  · split at h
    · simp only [Option.some.injEq] at h; subst h; rfl
    · split at h
      · simp only [Option.some.injEq] at h; subst h; rfl
      · unfold bothE at h
        split at h
        · simp only [Option.some.injEq] at h; subst h; rfl
        · split at h
          · simp only [Option.some.injEq] at h; subst h; rfl
          · simp at h
theorem rowsG_mem {a b : List It} {l : List Pr} : ∀ {r : List It} {e : En}, e ∈ rowsG a b l r → ∃ x ∈ r, rowF a b l x.path = some e
  | [], e, h => by simp [rowsG] at h
  | x :: r, e, h => by
    unfold rowsG at h
    rcases List.mem_append.1 h with h | h
    · cases hx : rowF a b l x.path with
      | none => rw [hx] at h; simp at h
      | some d =>
        rw [hx] at h
        simp only [Option.toList_some, List.mem_singleton] at h
        subst h
        exact ⟨x, by simp, hx⟩
    · obtain ⟨y, hy, he⟩ := rowsG_mem h
      exact ⟨y, List.mem_cons_of_mem _ hy, he⟩
/-- Entries stand in order. -/
theorem rowsG_ord {a b : List It} {l : List Pr} : ∀ {r : List It}, Ord It.path r → Ord En.path (rowsG a b l r)
  | [], _ => List.Pairwise.nil
  | x :: r, h => by
    unfold Ord at h
    rw [List.pairwise_cons] at h
    have ih : Ord En.path (rowsG a b l r) := rowsG_ord h.2
    unfold rowsG
    cases hx : rowF a b l x.path with
    | none => exact ih
    | some d =>
      refine List.Pairwise.cons (fun e he => ?_) ih
      obtain ⟨y, hy, hye⟩ := rowsG_mem he
      rw [rowF_path hx, rowF_path hye]
      exact h.1 y hy
theorem allF_ord {a b : List It} (ha : Good a) (hb : Good b) : Ord It.path (allF a b) := by
  unfold allF sortF
  refine sortG_ord itLt_eq _ _ List.Pairwise.nil (by simp) ?_
  rw [List.pairwise_append]
  refine ⟨ha.1, ?_, fun x hx y hy e => ?_⟩
  · have hsub : ∀ (r out : List It), (out ++ r).Pairwise (fun a b => a.path ≠ b.path) → (aloneG a out r).Pairwise fun a b => a.path ≠ b.path := by
      intro r
      induction r with
      | nil => intro out h; simpa [aloneG] using h
      | cons z r ih =>
        intro out h
        unfold aloneG
        split
        · refine ih out (h.sublist ?_)
          exact (List.Sublist.refl out).append (List.sublist_cons_self z r)
        · exact ih (out ++ [z]) (by simpa using h)
    exact hsub b [] hb.1
  · have h1 := (aloneF_mem hy).2
    rw [← e, findF_some hx] at h1
    simp at h1
end Go.Proofs.YtdjgdipmjbkilaaGreatDoor.Rx
