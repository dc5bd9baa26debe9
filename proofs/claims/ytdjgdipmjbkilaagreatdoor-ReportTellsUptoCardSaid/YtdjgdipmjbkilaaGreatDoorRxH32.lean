/-
  The reports' laws: what Diff tells may be (no program here).
-/
import Derived.Test.YtdjgdipmjbkilaaGreatDoorRxH31
namespace Go.Proofs.YtdjgdipmjbkilaaGreatDoor.Rx
open Go
set_option linter.unusedSimpArgs false
set_option linter.unusedVariables false

/-- The next step is no Cut. -/
def noCut : List (List UInt8) → List (List UInt8) → Prop
  | [], _ => True
  | _ :: _, [] => False
  | x :: a, y :: b => x = y ∨ ¬ lcsF (x :: a) b ≤ lcsF a (y :: b)
theorem noCut_add {x y : List UInt8} {a b : List (List UInt8)} (h : ¬ lcsF (x :: a) b ≤ lcsF a (y :: b)) : noCut (x :: a) b := by
  cases b with
  | nil => rw [lcsF_nil2] at h; omega
  | cons z b =>
    by_cases hz : x = z
    · exact .inl hz
    · refine .inr ?_
      have h1 := lcsF_mono a (z :: b) y
      rw [lcsF_cons, if_neg hz] at h
      omega
theorem diffG_right : ∀ (n : Nat) (a b : List (List UInt8)) (out : List Edit) (m : Nat), a.length + b.length ≤ n → Few m out → m + n < 1048576 → rightF 0 out = true → (lastOp out = 3 → noCut a b) → rightF 0 (diffG out a b) = true
  | n, [], [], out, m, _, _, _, h, _ => by rw [diffG_nn]; exact h
  | 0, [], y :: b, out, m, hn, _, _, _, _ => by simp at hn
  | 0, x :: a, b, out, m, hn, _, _, _, _ => by simp at hn
  | n + 1, [], y :: b, out, m, hn, hf, hm, h, hc => by
    rw [diffG_nc]
    have hw := withE_right h hf (by omega) 3 [y] (by omega) ⟨fun _ => rfl, fun k => absurd rfl k⟩ (by omega)
    exact diffG_right n [] b _ (m + 1) (by simp at hn ⊢; omega) (hf.with 3 [y] (by simp)) (by omega) hw.1 (fun _ => trivial)
  | n + 1, x :: a, [], out, m, hn, hf, hm, h, hc => by
    rw [diffG_cn]
    have hw := withE_right h hf (by omega) 2 [] (by omega) ⟨fun k => by omega, fun _ => rfl⟩ (fun k => hc k.1)
    exact diffG_right n a [] _ (m + 1) (by simp at hn ⊢; omega) (hf.with 2 [] (by simp)) (by omega) hw.1 (fun k => by rw [hw.2] at k; omega)
  | n + 1, x :: a, y :: b, out, m, hn, hf, hm, h, hc => by
    rw [diffG_cc]
    simp only [List.length_cons] at hn
    split
    · have hw := withE_right h hf (by omega) 1 [] (by omega) ⟨fun k => by omega, fun _ => rfl⟩ (by omega)
      exact diffG_right n a b _ (m + 1) (by omega) (hf.with 1 [] (by simp)) (by omega) hw.1 (fun k => by rw [hw.2] at k; omega)
    · rename_i hxy
      split
      · rename_i hle
        have hw := withE_right h hf (by omega) 2 [] (by omega) ⟨fun k => by omega, fun _ => rfl⟩ (fun k => by
          rcases hc k.1 with h1 | h1
          · exact hxy h1
          · exact h1 hle)
        exact diffG_right n a (y :: b) _ (m + 1) (by simp; omega) (hf.with 2 [] (by simp)) (by omega) hw.1 (fun k => by rw [hw.2] at k; omega)
      · rename_i hle
        have hw := withE_right h hf (by omega) 3 [y] (by omega) ⟨fun _ => rfl, fun k => absurd rfl k⟩ (by omega)
        exact diffG_right n (x :: a) b _ (m + 1) (by simp; omega) (hf.with 3 [y] (by simp)) (by omega) hw.1 (fun _ => noCut_add hle)
theorem diffF_right (a b : List (List UInt8)) (h : a.length + b.length < 1000000) : rightB (diffF a b) = true := by
  unfold rightB diffF
  exact diffG_right _ a b [] 0 (Nat.le_refl _) ⟨by simp, by simp⟩ (by omega) rfl (fun k => by simp [lastOp] at k)
theorem scriptI_right (x y : It) (hx : x.data.length ≤ 800) (hy : y.data.length ≤ 800) : rightB (scriptI x y) = true := diffF_right _ _ (by
  have := linesS_len x.data
  have := linesS_len y.data
  omega)

/-! ### How alike -/
/-- What is left of some when others are taken out, each once. -/
def dif (b : List (List UInt8)) : List (List UInt8) → List (List UInt8)
  | [] => b
  | x :: l => dif (b.erase x) l
theorem dif_snoc : ∀ (l b : List (List UInt8)) (x : List UInt8), dif b (l ++ [x]) = (dif b l).erase x
  | [], b, x => rfl
  | y :: l, b, x => dif_snoc l (b.erase y) x
theorem cntF_erase (b : List (List UInt8)) (x z : List UInt8) : cntF (b.erase x) z = cntF b z - (if x = z then 1 else 0) := by
  unfold cntF
  induction b with
  | nil => simp
  | cons y b ih =>
    by_cases h : y = x
    · subst h
      rw [List.erase_cons_head, List.filter_cons]
      by_cases h2 : y = z
      · simp [h2]
      · simp [h2]
    · rw [List.erase_cons_tail (by simpa using h), List.filter_cons, List.filter_cons]
      by_cases h2 : y = z
      · have h3 : ¬ x = z := fun e => h (h2.trans e.symm)
        rw [if_neg h3] at ih
        simp [h2, h3, ih]
      · simp [h2, ih]
theorem cntF_dif : ∀ (l b : List (List UInt8)) (z : List UInt8), cntF (dif b l) z = cntF b z - cntF l z
  | [], b, z => by simp [dif, cntF]
  | x :: l, b, z => by
    have h := cntF_dif l (b.erase x) z
    have hu : cntF (x :: l) z = cntF l z + (if x = z then 1 else 0) := by
      unfold cntF
      rw [List.filter_cons]
      by_cases h : x = z <;> simp [h]
    show cntF (dif (b.erase x) l) z = _
    rw [h, cntF_erase, hu]
    omega
theorem comG_dif (b : List (List UInt8)) : ∀ (l pre : List (List UInt8)), comG b pre l ≤ (dif b pre).length
  | [], pre => by simp [comG]
  | x :: r, pre => by
    have ih := comG_dif b r (pre ++ [x])
    rw [dif_snoc] at ih
    show (if cntF pre x < cntF b x then 1 else 0) + comG b (pre ++ [x]) r ≤ _
    split
    · rename_i h
      have hc := cntF_dif pre b x
      have hm : x ∈ dif b pre := by
        unfold cntF at hc
        have h1 : 0 < ((dif b pre).filter fun y => decide (y = x)).length := by unfold cntF at h; omega
        obtain ⟨y, hy⟩ := List.exists_mem_of_length_pos h1
        have := List.mem_filter.1 hy
        simp at this
        rw [← this.2]
        exact this.1
      rw [List.length_erase_of_mem hm] at ih
      have := List.length_pos_of_mem hm
      omega
    · have := List.length_erase_le (a := x) (l := dif b pre)
      omega
theorem comF_le2 (a b : List (List UInt8)) : comF a b ≤ b.length := comG_dif b a []
theorem scoreF_le (a b : List (List UInt8)) : scoreF a b ≤ 100 := by
  unfold scoreF
  split
  · omega
  · have h1 : comF a b ≤ a.length := comG_le b a []
    have h2 := comF_le2 a b
    have : 200 * comF a b / (a.length + b.length) ≤ 100 := Nat.div_le_of_le_mul (by omega)
    omega
end Go.Proofs.YtdjgdipmjbkilaaGreatDoor.Rx
