/-
  Sorting, plain: it is in order, stable, the same items; and what Check tells does not hang on their order.
-/
import Derived.Test.YtpkeiffclipjmaaGreatDoorRxJa
namespace Go.Proofs.YtpkeiffclipjmaaGreatDoor.Rx
open Go
set_option linter.unusedSimpArgs false
set_option linter.unusedVariables false

def LeI (a b : It) : Prop := cmpS a.path b.path ≤ 0
theorem LeI.trans {a b c : It} (h1 : LeI a b) (h2 : LeI b c) : LeI a c := cmpS_tr h1 h2
theorem LeI.of_not {a b : It} (h : ¬ cmpS a.path b.path < 0) : LeI b a := by
  have := cmpS_anti a.path b.path
  unfold LeI
  omega
theorem insF_perm (x : It) (out : List It) : (insF Q.itS x out).Perm (x :: out) := by
  unfold insF
  refine List.perm_middle.trans ?_
  rw [List.take_append_drop]
theorem sortG_perm : ∀ (l out : List It), (sortG Q.itS out l).Perm (out ++ l)
  | [], out => by simp [sortG]
  | x :: l, out => by
    rw [sortG]
    refine (sortG_perm l (insF Q.itS x out)).trans ?_
    refine ((insF_perm x out).append_right l).trans ?_
    exact List.perm_middle.symm
theorem sortF_perm (t : List It) : (sortF t).Perm t := by rw [sortF_itS]; simpa using sortG_perm t []
theorem insF_sorted (x : It) : ∀ (m : Nat) (out : List It), out.length = m → out.Pairwise LeI → (insF Q.itS x out).Pairwise LeI
  | 0, out, h, _ => by
    obtain rfl := List.eq_nil_of_length_eq_zero h
    simp [insF, atF]
  | m + 1, out, h, hs => by
    obtain ⟨out', y, rfl⟩ : ∃ o y, out = o ++ [y] := by
      rcases nil_or_last out with rfl | h'
      · simp at h
      · exact h'
    rw [List.pairwise_append] at hs
    rw [Q.insF_snoc]
    split
    · rename_i hlt
      rw [List.pairwise_append]
      refine ⟨insF_sorted x m out' (by simpa using h) hs.1, by simp, fun a ha b hb => ?_⟩
      rw [List.mem_singleton] at hb
      subst hb
      rcases (insF_mem _ _ _ _).1 ha with rfl | ha
      · exact Int.le_of_lt hlt
      · exact hs.2.2 a ha b (by simp)
    · rename_i hlt
      rw [List.pairwise_append]
      refine ⟨List.pairwise_append.2 hs, by simp, fun a ha b hb => ?_⟩
      rw [List.mem_singleton] at hb
      subst hb
      have hy := LeI.of_not hlt
      rcases List.mem_append.1 ha with ha | ha
      · exact (hs.2.2 a ha y (by simp)).trans hy
      · rw [List.mem_singleton] at ha
        subst ha
        exact hy
theorem sortG_sorted : ∀ (l out : List It), out.Pairwise LeI → (sortG Q.itS out l).Pairwise LeI
  | [], out, h => h
  | x :: l, out, h => by
    rw [sortG]
    exact sortG_sorted l _ (insF_sorted x _ out rfl h)
theorem sortF_sorted (t : List It) : (sortF t).Pairwise LeI := by rw [sortF_itS]; exact sortG_sorted t [] .nil
theorem insF_last (x : It) (out : List It) (h : (out ++ [x]).Pairwise LeI) : insF Q.itS x out = out ++ [x] := by
  rcases nil_or_last out with rfl | ⟨o, y, rfl⟩
  · simp [insF, atF]
  · rw [Q.insF_snoc, if_neg]
    have : LeI y x := (List.pairwise_append.1 h).2.2 y (by simp) x (by simp)
    have a := cmpS_anti y.path x.path
    unfold LeI at this
    omega
theorem sortG_done : ∀ (l out : List It), (out ++ l).Pairwise LeI → sortG Q.itS out l = out ++ l
  | [], out, _ => by simp [sortG]
  | x :: l, out, h => by
    have e : out ++ x :: l = (out ++ [x]) ++ l := by simp
    rw [e] at h ⊢
    rw [sortG, insF_last x out (List.pairwise_append.1 h).1]
    exact sortG_done l _ h
theorem sortF_done (t : List It) (h : t.Pairwise LeI) : sortF t = t := by rw [sortF_itS]; exact sortG_done t [] h

/-! ### It is stable; what is in order, and has the same items of each path in the same order, is the same -/
theorem atP_comm (x y : It) (h : cmpS x.path y.path < 0) (p : List UInt8) : atP [x] p ++ atP [y] p = atP [y] p ++ atP [x] p := by
  have hne : x.path ≠ y.path := fun e => by rw [e, cmpS_self] at h; omega
  by_cases hx : x.path = p
  · have hy : ¬ y.path = p := fun e => hne (hx.trans e.symm)
    simp [atP, hy]
  · simp [atP, hx]
theorem atP_app (a b : List It) (p : List UInt8) : atP (a ++ b) p = atP a p ++ atP b p := List.filter_append ..
theorem insF_at (x : It) (p : List UInt8) : ∀ (m : Nat) (out : List It), out.length = m → atP (insF Q.itS x out) p = atP out p ++ atP [x] p
  | 0, out, h => by
    obtain rfl := List.eq_nil_of_length_eq_zero h
    simp [insF, atF, atP]
  | m + 1, out, h => by
    obtain ⟨out', y, rfl⟩ : ∃ o y, out = o ++ [y] := by
      rcases nil_or_last out with rfl | h'
      · simp at h
      · exact h'
    rw [Q.insF_snoc]
    split
    · rename_i hlt
      rw [atP_app, insF_at x p m out' (by simpa using h), atP_app, List.append_assoc, atP_comm x y hlt, List.append_assoc]
    · rw [atP_app]
theorem sortG_at (p : List UInt8) : ∀ (l out : List It), atP (sortG Q.itS out l) p = atP out p ++ atP l p
  | [], out => by simp [sortG, atP]
  | x :: l, out => by
    rw [sortG, sortG_at p l, insF_at x p _ out rfl, List.append_assoc, ← atP_app]
    rfl
theorem sortF_at (t : List It) (p : List UInt8) : atP (sortF t) p = atP t p := by rw [sortF_itS, sortG_at]; rfl
theorem mem_atP {t : List It} {x : It} (h : x ∈ t) : x ∈ atP t x.path := List.mem_filter.2 ⟨h, by simp⟩
theorem sorted_uniq : ∀ (a b : List It), a.Pairwise LeI → b.Pairwise LeI → (∀ p, atP a p = atP b p) → a = b
  | [], [], _, _, _ => rfl
  | [], y :: b, _, _, h => by
    have := mem_atP (t := y :: b) (x := y) (by simp)
    rw [← h] at this
    simp [atP] at this
  | x :: a, [], _, _, h => by
    have := mem_atP (t := x :: a) (x := x) (by simp)
    rw [h] at this
    simp [atP] at this
  | x :: a, y :: b, ha, hb, h => by
    rw [List.pairwise_cons] at ha hb
    have hx : x ∈ y :: b := (List.mem_filter.1 (by rw [← h x.path]; exact mem_atP (by simp) : x ∈ atP (y :: b) x.path)).1
    have hy : y ∈ x :: a := (List.mem_filter.1 (by rw [h y.path]; exact mem_atP (by simp) : y ∈ atP (x :: a) y.path)).1
    have l1 : LeI y x := by
      rcases List.mem_cons.1 hx with rfl | hx
      · exact Int.le_of_eq (cmpS_self _)
      · exact hb.1 x hx
    have l2 : LeI x y := by
      rcases List.mem_cons.1 hy with rfl | hy
      · exact Int.le_of_eq (cmpS_self _)
      · exact ha.1 y hy
    have e : x.path = y.path := by
      have := cmpS_anti x.path y.path
      unfold LeI at l1 l2
      exact cmpS_zero (by omega)
    have h0 := h x.path
    have c1 : atP (x :: a) x.path = x :: atP a x.path := by simp [atP]
    have c2 : atP (y :: b) x.path = y :: atP b x.path := by simp [atP, e]
    rw [c1, c2, List.cons.injEq] at h0
    obtain ⟨rfl, _⟩ := h0
    rw [sorted_uniq a b ha.2 hb.2 (fun p => ?_)]
    have hp := h p
    by_cases hxp : x.path = p
    · have d1 : atP (x :: a) p = x :: atP a p := by simp [atP, hxp]
      have d2 : atP (x :: b) p = x :: atP b p := by simp [atP, hxp]
      rw [d1, d2, List.cons.injEq] at hp
      exact hp.2
    · have d1 : atP (x :: a) p = atP a p := by simp [atP, hxp]
      have d2 : atP (x :: b) p = atP b p := by simp [atP, hxp]
      rw [d1, d2] at hp
      exact hp

/-! ### The order of items -/
theorem faultF_perm {t u : List It} (h : t.Perm u) (l : Lim) (p : List UInt8) : faultF t l p = faultF u l p := by
  have ha : ∀ q : It → Bool, t.any q = u.any q := fun q => by
    rw [Bool.eq_iff_iff, List.any_eq_true, List.any_eq_true]
    exact ⟨fun ⟨x, hx, hq⟩ => ⟨x, h.mem_iff.1 hx, hq⟩, fun ⟨x, hx, hq⟩ => ⟨x, h.mem_iff.2 hx, hq⟩⟩
  have hc : countF t p = countF u p := (h.filter _).length_eq
  have hs : ∀ k, someB t p l.size k = someB u p l.size k := fun k => ha _
  have hd : dirB t (dirF p) = dirB u (dirF p) := ha _
  unfold faultF
  rw [hc, hs, hs, hs, hd]
theorem checkF_perm {t u : List It} (h : t.Perm u) (l : Lim) : checkF t l = checkF u l := by
  unfold checkF
  rw [h.length_eq]
  split
  · rfl
  · have h1 := check_minof t l
    have h2 := check_minof u l
    have hf : faultF t l = faultF u l := funext (faultF_perm h l)
    rw [hf] at h1
    exact h1.uniq (h2.congr fun p => by
      constructor
      · intro hp; exact (h.map It.path).mem_iff.2 hp
      · intro hp; exact (h.map It.path).mem_iff.1 hp)
theorem timesF_perm {t u : List It} (h : t.Perm u) (x : It) : timesF t x = timesF u x := (h.filter _).length_eq
end Go.Proofs.YtpkeiffclipjmaaGreatDoor.Rx
