/-
  The reports' laws, plain: parts of rows of entries that may be.
-/
import Derived.Test.YtdjgdipmjbkilaaGreatDoorRxH34
namespace Go.Proofs.YtdjgdipmjbkilaaGreatDoor.Rx
open Go
set_option linter.unusedSimpArgs false
set_option linter.unusedVariables false

theorem SmE.ln {e : En} (h : SmE e) : e.ln := fun d hd l hl => by
  have := h.2.2.2.2 d hd l hl
  omega
theorem small_dec {l : List En} (h : l.length ≤ 448 ∧ ∀ e ∈ l, SmE e) (hr : rightE l = true) : entsF (encNL l) = some l := entsF_enc l hr fun e he => ⟨by have := encN_sm (h.2 e he) (rightE_may hr e he); omega, (h.2 e he).ln⟩
theorem okG_none {cmp : List UInt8 → List UInt8 → Int} : ∀ {l : List En} {p : Option (List UInt8)}, okG cmp p l = true → okG cmp none l = true
  | [], _, _ => rfl
  | e :: r, p, h => by
    unfold okG at h ⊢
    simp only [Bool.and_eq_true] at h ⊢
    exact ⟨⟨h.1.1, trivial⟩, h.2⟩
theorem okG_take {cmp : List UInt8 → List UInt8 → Int} : ∀ {l : List En} {p : Option (List UInt8)} (k : Nat), okG cmp p l = true → okG cmp p (l.take k) = true
  | [], _, k, _ => by simp [okG]
  | e :: r, p, 0, h => by simp [okG]
  | e :: r, p, k + 1, h => by
    rw [List.take_succ_cons]
    unfold okG at h ⊢
    simp only [Bool.and_eq_true] at h ⊢
    exact ⟨h.1, okG_take k h.2⟩
theorem okG_drop {cmp : List UInt8 → List UInt8 → Int} : ∀ {l : List En} {p : Option (List UInt8)} (k : Nat), okG cmp p l = true → okG cmp none (l.drop k) = true
  | [], _, k, _ => by simp [okG]
  | e :: r, p, 0, h => okG_none h
  | e :: r, p, k + 1, h => by
    rw [List.drop_succ_cons]
    unfold okG at h
    simp only [Bool.and_eq_true] at h
    exact okG_drop k h.2
theorem srcG_sub : ∀ {l : List En} {S S' : List (List UInt8)}, (∀ k ∈ S, k ∈ S') → srcG S' l = true → srcG S l = true
  | [], _, _, _, _ => rfl
  | e :: r, S, S', hs, h => by
    unfold srcG at h ⊢
    by_cases h5 : e.op = 5
    · rw [if_pos h5] at h ⊢
      by_cases hm : e.src ∈ S'
      · rw [if_pos hm] at h; simp at h
      · rw [if_neg hm] at h
        rw [if_neg (fun k => hm (hs _ k))]
        refine srcG_sub (fun k hk => ?_) h
        rcases List.mem_cons.1 hk with rfl | hk
        · simp
        · exact List.mem_cons_of_mem _ (hs _ hk)
    · rw [if_neg h5] at h ⊢
      exact srcG_sub hs h
theorem srcG_take : ∀ {l : List En} {S : List (List UInt8)} (k : Nat), srcG S l = true → srcG S (l.take k) = true
  | [], _, k, _ => by simp [srcG]
  | e :: r, S, 0, h => by simp [srcG]
  | e :: r, S, k + 1, h => by
    rw [List.take_succ_cons]
    unfold srcG at h ⊢
    by_cases h5 : e.op = 5
    · rw [if_pos h5] at h ⊢
      by_cases hm : e.src ∈ S
      · rw [if_pos hm] at h; simp at h
      · rw [if_neg hm] at h ⊢
        exact srcG_take k h
    · rw [if_neg h5] at h ⊢
      exact srcG_take k h
theorem srcG_drop : ∀ {l : List En} {S : List (List UInt8)} (k : Nat), srcG S l = true → srcG S (l.drop k) = true
  | [], _, k, _ => by simp [srcG]
  | e :: r, S, 0, h => h
  | e :: r, S, k + 1, h => by
    rw [List.drop_succ_cons]
    unfold srcG at h
    by_cases h5 : e.op = 5
    · rw [if_pos h5] at h
      by_cases hm : e.src ∈ S
      · rw [if_pos hm] at h; simp at h
      · rw [if_neg hm] at h
        exact srcG_drop k (srcG_sub (fun x hx => List.mem_cons_of_mem _ hx) h)
    · rw [if_neg h5] at h
      exact srcG_drop k h
theorem rightE_take {l : List En} (k : Nat) (h : rightE l = true) : rightE (l.take k) = true := by
  unfold rightE at h ⊢
  simp only [Bool.and_eq_true] at h ⊢
  refine ⟨okG_take k h.1, srcG_take k (srcG_sub (fun x hx => ?_) h.2) |> fun h => h⟩
  obtain ⟨e, he, rfl⟩ := List.mem_map.1 hx
  exact List.mem_map.2 ⟨e, List.mem_of_mem_take he, rfl⟩
theorem rightE_drop {l : List En} (k : Nat) (h : rightE l = true) : rightE (l.drop k) = true := by
  unfold rightE at h ⊢
  simp only [Bool.and_eq_true] at h ⊢
  refine ⟨okG_drop k h.1, srcG_drop k (srcG_sub (fun x hx => ?_) h.2)⟩
  obtain ⟨e, he, rfl⟩ := List.mem_map.1 hx
  exact List.mem_map.2 ⟨e, List.mem_of_mem_drop he, rfl⟩
theorem encNL_append (a b : List En) : encNL (a ++ b) = encNL a ++ encNL b := by simp [encNL]
theorem encNL_cut (l : List En) (k : Nat) : encNL (l.take k) ++ encNL (l.drop k) = encNL l := by rw [← encNL_append, List.take_append_drop]
theorem cntK_append (a b : List En) (k : Int) : cntK (a ++ b) k = cntK a k + cntK b k := by simp [cntK, List.filter_append]
theorem cntK_cut (l : List En) (n : Nat) (k : Int) : cntK l k = cntK (l.take n) k + cntK (l.drop n) k := by rw [← cntK_append, List.take_append_drop]
theorem cntK_sum : ∀ (l : List En), (∀ e ∈ l, 0 ≤ e.op ∧ e.op ≤ 5) → cntK l 0 + cntK l 1 + cntK l 2 + cntK l 3 + cntK l 4 + cntK l 5 = l.length
  | [], _ => rfl
  | e :: r, h => by
    have ih := cntK_sum r (fun x hx => h x (List.mem_cons_of_mem _ hx))
    have hc : ∀ k, cntK (e :: r) k = cntK r k + if e.op = k then 1 else 0 := fun k => by
      unfold cntK
      by_cases hk : e.op = k
      · simp [List.filter_cons, hk]
      · simp [List.filter_cons, hk]
    have he := h e (by simp)
    simp only [hc, List.length_cons]
    have : e.op = 0 ∨ e.op = 1 ∨ e.op = 2 ∨ e.op = 3 ∨ e.op = 4 ∨ e.op = 5 := by omega
    rcases this with h | h | h | h | h | h
    all_goals
      simp [h]
      omega
theorem small_take {l : List En} (k : Nat) (h : l.length ≤ 448 ∧ ∀ e ∈ l, SmE e) : (l.take k).length ≤ 448 ∧ ∀ e ∈ l.take k, SmE e := ⟨by have := h.1; simp; omega, fun e he => h.2 e (List.mem_of_mem_take he)⟩
theorem small_drop {l : List En} (k : Nat) (h : l.length ≤ 448 ∧ ∀ e ∈ l, SmE e) : (l.drop k).length ≤ 448 ∧ ∀ e ∈ l.drop k, SmE e := ⟨by have := h.1; simp; omega, fun e he => h.2 e (List.mem_of_mem_drop he)⟩
end Go.Proofs.YtdjgdipmjbkilaaGreatDoor.Rx
