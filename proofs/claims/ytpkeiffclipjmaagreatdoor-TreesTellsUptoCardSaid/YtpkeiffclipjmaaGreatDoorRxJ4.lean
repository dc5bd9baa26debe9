/-
  Sorting, plain: it is in order, stable, the same items; and what Check tells does not hang on their order.
-/
import Derived.Test.YtpkeiffclipjmaaGreatDoorRxJa
namespace Go.Proofs.YtpkeiffclipjmaaGreatDoor.Rx
open Go
set_option linter.unusedSimpArgs false
set_option linter.unusedVariables false

/-! ### The order of items -/
theorem faultF_perm {t u : List It} (h : t.Perm u) (l : Lim) (p : List UInt8) : faultF t l p = faultF u l p := by
  have ha : ∀ q : It → Bool, t.any q = u.any q := fun q => by
    rw [Bool.eq_iff_iff, List.any_eq_true, List.any_eq_true]
    exact ⟨fun ⟨x, hx, hq⟩ => ⟨x, h.mem_iff.1 hx, hq⟩, fun ⟨x, hx, hq⟩ => ⟨x, h.mem_iff.2 hx, hq⟩⟩
  have hc : countF t p = countF u p := (h.filter _).length_eq
  have hs : ∀ k, someB t p l.size k = someB u p l.size k := fun k => ha _
  have hd : dirB t (dirF p) = dirB u (dirF p) := ha _
  unfold faultF
  rw [hc, hs, hs, hs, hd]
theorem checkF_perm {t u : List It} (h : t.Perm u) (l : Lim) : checkF t l = checkF u l := by
  unfold checkF
  rw [h.length_eq]
  split
  · rfl
  · have h1 := check_minof t l
    have h2 := check_minof u l
    have hf : faultF t l = faultF u l := funext (faultF_perm h l)
    rw [hf] at h1
    exact h1.uniq (h2.congr fun p => by
      constructor
      · intro hp; exact (h.map It.path).mem_iff.2 hp
      · intro hp; exact (h.map It.path).mem_iff.1 hp)
theorem timesF_perm {t u : List It} (h : t.Perm u) (x : It) : timesF t x = timesF u x := (h.filter _).length_eq
end Go.Proofs.YtpkeiffclipjmaaGreatDoor.Rx
