/-
  The reports' laws: what Diff tells may be; how alike (no program here).
-/
import Derived.Test.YtdjgdipmjbkilaaGreatDoorRxH30
namespace Go.Proofs.YtdjgdipmjbkilaaGreatDoor.Rx
open Go
set_option linter.unusedSimpArgs false
set_option linter.unusedVariables false

theorem lastOp_nil : lastOp [] = 0 := rfl
theorem rightF_app : ∀ (s : List Edit) (last : Int) (e : Edit), rightF last (s ++ [e]) = true ↔ rightF last s = true ∧ mayB e = true ∧ e.op ≠ (if s = [] then last else lastOp s) ∧ ¬ ((if s = [] then last else lastOp s) = 3 ∧ e.op = 2)
  | [], last, e => by
    constructor
    · intro h
      obtain ⟨h1, h2, h3, _⟩ := rightF_cons h
      exact ⟨rfl, h1, h2, h3⟩
    · rintro ⟨_, h1, h2, h3⟩
      exact rightF_mk h1 h2 h3 rfl
  | x :: s, last, e => by
    have hl : (if (x :: s) = [] then last else lastOp (x :: s)) = if s = [] then x.op else lastOp s := by
      rw [if_neg (by simp)]
      cases s with
      | nil => rfl
      | cons y s => simp [lastOp]
    rw [hl]
    constructor
    · intro h
      obtain ⟨h1, h2, h3, h4⟩ := rightF_cons (show rightF last (x :: (s ++ [e])) = true from h)
      obtain ⟨k1, k2, k3, k4⟩ := (rightF_app s x.op e).1 h4
      exact ⟨rightF_mk h1 h2 h3 k1, k2, k3, k4⟩
    · rintro ⟨h, k2, k3, k4⟩
      obtain ⟨h1, h2, h3, h4⟩ := rightF_cons h
      exact rightF_mk h1 h2 h3 ((rightF_app s x.op e).2 ⟨h4, k2, k3, k4⟩)
theorem lastOp_or (s : List Edit) : (if s = [] then (0 : Int) else lastOp s) = lastOp s := by
  split
  · subst_vars; rfl
  · rfl
/-- A right script, with one more line kept, cut or added. -/
theorem withE_right {s : List Edit} {m : Nat} (h : rightF 0 s = true) (hf : Few m s) (hm : m < 1048576) (op : Int) (ls : List (List UInt8)) (ho : op = 1 ∨ op = 2 ∨ op = 3) (hl : (op = 3 → ls.length = 1) ∧ (op ≠ 3 → ls = [])) (hc : ¬ (lastOp s = 3 ∧ op = 2)) : rightF 0 (withE s op ls) = true ∧ lastOp (withE s op ls) = op := by
  have hnew : mayB ⟨op, 1, ls⟩ = true := by
    rcases ho with rfl | rfl | rfl
    · rw [hl.2 (by omega)]; exact may_one (by omega) (by omega)
    · rw [hl.2 (by omega)]; exact may_two (by omega) (by omega)
    · exact may_three (by omega) (by omega) (by rw [hl.1 rfl]; rfl)
  have h0 : op ≠ 0 := by omega
  rcases nil_or_snoc s with rfl | ⟨s, e, rfl⟩
  · rw [withE_nil]
    exact ⟨rightF_mk hnew h0 (by simp) rfl, rfl⟩
  · rw [withE_snoc]
    rw [lastOp_snoc] at hc
    obtain ⟨k1, k2, k3, k4⟩ := (rightF_app s 0 e).1 h
    split
    · rename_i he
      have hfe := hf.2 e (by simp)
      obtain ⟨m1, m2, m3, m4, m5⟩ := mayB_op k2
      refine ⟨(rightF_app s 0 _).2 ⟨k1, ?_, by simpa only [he] using k3, by simpa only [he] using k4⟩, by rw [lastOp_snoc]⟩
      rcases ho with rfl | rfl | rfl
      · rw [hl.2 (by omega), m5 (by omega)]; exact may_one (by omega) (by omega)
      · rw [hl.2 (by omega), m5 (by omega)]; exact may_two (by omega) (by omega)
      · refine may_three (by omega) (by omega) ?_
        have := m4 he
        rw [List.length_append, hl.1 rfl]
        omega
    · rename_i he
      refine ⟨(rightF_app (s ++ [e]) 0 _).2 ⟨h, hnew, ?_, ?_⟩, by rw [lastOp_snoc]⟩
      · rw [if_neg (by simp), lastOp_snoc]; exact fun k => he k.symm
      · rw [if_neg (by simp), lastOp_snoc]; exact hc
mutual
theorem lcsF_mono : ∀ (a b : List (List UInt8)) (y : List UInt8), lcsF a b ≤ lcsF a (y :: b)
  | [], b, y => by rw [lcsF_nil]; omega
  | x :: a, b, y => by
    rw [lcsF_cons]
    split
    · rename_i h
      subst h
      cases b with
      | nil => rw [lcsF_nil2]; omega
      | cons z b =>
        rw [lcsF_cons]
        split
        · have := lcsF_mono a b z; omega
        · have h1 := lcsF_sub a (z :: b) x
          have h2 := lcsF_sub a b x
          have h3 := lcsF_mono a b z
          omega
    · omega
theorem lcsF_sub : ∀ (a b : List (List UInt8)) (x : List UInt8), lcsF (x :: a) b ≤ 1 + lcsF a b
  | a, [], x => by rw [lcsF_nil2]; omega
  | a, z :: b, x => by
    rw [lcsF_cons]
    split
    · have := lcsF_mono a b z; omega
    · have h1 := lcsF_sub a b x
      have h2 := lcsF_mono a b z
      omega
end
end Go.Proofs.YtdjgdipmjbkilaaGreatDoor.Rx
