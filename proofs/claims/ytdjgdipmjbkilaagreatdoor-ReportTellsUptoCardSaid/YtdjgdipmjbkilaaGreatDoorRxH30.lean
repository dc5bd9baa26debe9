/-
  The reports' laws: sorted rows; trees in which nothing is wrong (no program here).
-/
import Derived.Test.YtdjgdipmjbkilaaGreatDoorRxH29
namespace Go.Proofs.YtdjgdipmjbkilaaGreatDoor.Rx
open Go
set_option linter.unusedSimpArgs false
set_option linter.unusedVariables false

/-- A row that stands in order by a key, each ahead of the next ones. -/
def Ord {α : Type} (key : α → List UInt8) (l : List α) : Prop := l.Pairwise fun a b => cmpS (key a) (key b) < 0
theorem atF_split {α : Type} (lt : α → α → Bool) (x : α) : ∀ r : List α, ∃ hi lo, r = hi ++ lo ∧ atF lt x r = lo.length ∧ (∀ y ∈ hi, lt x y = true) ∧ (lo = [] ∨ ∃ y lo', lo = y :: lo' ∧ lt x y = false)
  | [] => ⟨[], [], rfl, rfl, by simp, .inl rfl⟩
  | y :: r => by
    obtain ⟨hi, lo, h1, h2, h3, h4⟩ := atF_split lt x r
    by_cases h : lt x y = true
    · refine ⟨y :: hi, lo, by rw [h1]; rfl, ?_, ?_, h4⟩
      · unfold atF; rw [if_pos h, h2]
      · intro z hz
        rcases List.mem_cons.1 hz with rfl | hz
        · exact h
        · exact h3 z hz
    · refine ⟨[], y :: r, rfl, ?_, by simp, .inr ⟨y, r, rfl, by simpa using h⟩⟩
      unfold atF; rw [if_neg h]; rfl
theorem insF_split {α : Type} (lt : α → α → Bool) (x : α) (out : List α) : ∃ hi lo : List α, out = lo.reverse ++ hi.reverse ∧ insF lt x out = lo.reverse ++ x :: hi.reverse ∧ (∀ y ∈ hi, lt x y = true) ∧ (lo = [] ∨ ∃ y lo', lo = y :: lo' ∧ lt x y = false) := by
  obtain ⟨hi, lo, h1, h2, h3, h4⟩ := atF_split lt x out.reverse
  have ho : out = lo.reverse ++ hi.reverse := by
    have := congrArg List.reverse h1
    simpa using this
  refine ⟨hi, lo, ho, ?_, h3, h4⟩
  unfold insF
  rw [h2]
  have k1 : out.take lo.length = lo.reverse := by
    rw [ho, List.take_append_of_le_length (by simp), List.take_of_length_le (by simp)]
  have k2 : out.drop lo.length = hi.reverse := by
    rw [ho, List.drop_append_of_le_length (by simp), List.drop_of_length_le (by simp)]
    rfl
  rw [k1, k2]
theorem insF_ord {α : Type} {key : α → List UInt8} {lt : α → α → Bool} (hlt : ∀ a b, lt a b = decide (cmpS (key a) (key b) < 0)) {x : α} {out : List α} (ho : Ord key out) (hx : ∀ y ∈ out, key y ≠ key x) : Ord key (insF lt x out) := by
  obtain ⟨hi, lo, h1, h2, h3, h4⟩ := insF_split lt x out
  rw [h2]
  unfold Ord at ho ⊢
  rw [h1, List.pairwise_append] at ho
  obtain ⟨p1, p2, p3⟩ := ho
  have q1 : ∀ y ∈ hi, cmpS (key x) (key y) < 0 := fun y hy => by
    have := h3 y hy
    rw [hlt] at this
    simpa using this
  have q2 : ∀ y ∈ lo, cmpS (key y) (key x) < 0 := by
    rcases h4 with rfl | ⟨y0, lo', rfl, h5⟩
    · simp
    · rw [hlt] at h5
      simp only [decide_eq_false_iff_not] at h5
      have hy0 : cmpS (key y0) (key x) < 0 := by
        have hne := hx y0 (by rw [h1]; simp)
        have ha := cmpS_anti (key x) (key y0)
        have hz : cmpS (key x) (key y0) ≠ 0 := fun e => hne (cmpS_zero e).symm
        omega
      intro y hy
      rcases List.mem_cons.1 hy with rfl | hy
      · exact hy0
      · rw [List.reverse_cons, List.pairwise_append] at p1
        exact cmpS_trans (p1.2.2 y (by simpa using hy) y0 (by simp)) hy0
  rw [List.pairwise_append, List.pairwise_cons]
  refine ⟨p1, ⟨fun y hy => q1 y (by simpa using hy), p2⟩, fun a ha b hb => ?_⟩
  rcases List.mem_cons.1 hb with rfl | hb
  · exact q2 a (by simpa using ha)
  · exact p3 a ha b hb
theorem sortG_ord {α : Type} {key : α → List UInt8} {lt : α → α → Bool} (hlt : ∀ a b, lt a b = decide (cmpS (key a) (key b) < 0)) : ∀ (l out : List α), Ord key out → (∀ x ∈ l, ∀ y ∈ out, key y ≠ key x) → l.Pairwise (fun a b => key a ≠ key b) → Ord key (sortG lt out l)
  | [], out, ho, _, _ => ho
  | x :: r, out, ho, hd, hp => by
    unfold sortG
    rw [List.pairwise_cons] at hp
    refine sortG_ord hlt r _ (insF_ord hlt ho (hd x (by simp))) (fun z hz y hy => ?_) hp.2
    rcases (insF_mem lt x y out).1 hy with rfl | hy
    · exact hp.1 z hz
    · exact hd z (List.mem_cons_of_mem _ hz) y hy
theorem itLt_eq (a b : It) : itLt a b = decide (cmpS a.path b.path < 0) := by unfold itLt; rw [cmp_eq]
/-- No path is there twice. -/
def Dst (t : List It) : Prop := t.Pairwise fun a b => a.path ≠ b.path
theorem checkG_zero (t : List It) (l : Lim) : ∀ (r : List It) (path : List UInt8) (code : Int), (checkG t l path code r).2 = 0 → code = 0 ∧ ∀ x ∈ r, faultF t l x.path = 0
  | [], path, code, h => ⟨h, by simp⟩
  | x :: r, path, code, h => by
    unfold checkG at h
    split at h
    · rename_i hf
      have := (checkG_zero t l r _ _ h).1
      exact absurd this hf.1
    · rename_i hf
      obtain ⟨h1, h2⟩ := checkG_zero t l r _ _ h
      refine ⟨h1, fun y hy => ?_⟩
      rcases List.mem_cons.1 hy with rfl | hy
      · by_cases h0 : faultF t l y.path = 0
        · exact h0
        · exact absurd ⟨h0, .inl h1⟩ hf
      · exact h2 y hy
theorem faultF_zero {t : List It} {l : Lim} {p : List UInt8} (h : faultF t l p = 0) : check01F p = 0 ∧ countF t p ≤ 1 ∧ someB t p l.size 5 = false := by
  unfold faultF at h
  by_cases h1 : check01F p = 0
  · rw [if_neg (by simpa using h1)] at h
    by_cases h2 : l.depth < (partsF p).length
    · rw [if_pos h2] at h; omega
    · rw [if_neg h2] at h
      by_cases h3 : 1 < countF t p
      · rw [if_pos h3] at h; omega
      · rw [if_neg h3] at h
        by_cases h4 : someB t p l.size 5 = true
        · rw [if_pos h4] at h; omega
        · exact ⟨h1, by omega, by simpa using h4⟩
  · rw [if_pos h1] at h
    exact absurd h h1
/-- A tree in which nothing is wrong. -/
def Good (t : List It) : Prop := Dst t ∧ ∀ x ∈ t, 1 ≤ x.kind ∧ x.kind ≤ 3
theorem dst_count : ∀ {t : List It}, (∀ x ∈ t, countF t x.path ≤ 1) → Dst t
  | [], _ => List.Pairwise.nil
  | x :: t, h => by
    have hx := h x (by simp)
    have hu : countF (x :: t) x.path = countF t x.path + 1 := by simp [countF]
    have h0 : countF t x.path = 0 := by omega
    refine List.Pairwise.cons (fun y hy e => ?_) (dst_count fun y hy => ?_)
    · unfold countF at h0
      have : y ∈ t.filter fun z => decide (z.path = x.path) := List.mem_filter.2 ⟨hy, by simp [e]⟩
      rw [List.eq_nil_of_length_eq_zero h0] at this
      simp at this
    · have := h y (List.mem_cons_of_mem _ hy)
      have h2 : countF t y.path ≤ countF (x :: t) y.path := by
        unfold countF
        rw [List.filter_cons]
        split <;> simp
      omega
theorem good_of_check {t : List It} {l : Lim} (h : (checkF t l).2 = 0) : Good t := by
  unfold checkF at h
  split at h
  · simp at h
  · have hz := (checkG_zero t l t _ _ h).2
    refine ⟨dst_count fun x hx => (faultF_zero (hz x hx)).2.1, fun x hx => ?_⟩
    have h5 := (faultF_zero (hz x hx)).2.2
    unfold someB at h5
    rw [List.any_eq_false] at h5
    have := h5 x hx
    simp [some1] at this
    omega
theorem treeG_good : ∀ (l : List Raw) (t : List It), Good t → Good (treeG t l)
  | [], t, h => h
  | x :: r, t, h => by
    rw [treeG_cons]
    refine treeG_good r _ ?_
    unfold stepT
    simp only
    split
    · rename_i hc
      exact good_of_check hc
    · exact h
theorem treeF_good (raw : List Raw) : Good (treeF raw) := treeG_good _ _ ⟨List.Pairwise.nil, by simp⟩
end Go.Proofs.YtdjgdipmjbkilaaGreatDoor.Rx
