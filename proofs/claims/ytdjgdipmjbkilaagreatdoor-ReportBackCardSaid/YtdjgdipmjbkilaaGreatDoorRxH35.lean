/-
  The reports' laws, plain: Decode undoes Encode.
-/
import Derived.Test.YtdjgdipmjbkilaaGreatDoorRxH34
namespace Go.Proofs.YtdjgdipmjbkilaaGreatDoor.Rx
open Go
set_option linter.unusedSimpArgs false
set_option linter.unusedVariables false

theorem SmE.ln {e : En} (h : SmE e) : e.ln := fun d hd l hl => by
  have := h.2.2.2.2 d hd l hl
  omega
theorem small_dec {l : List En} (h : l.length ≤ 448 ∧ ∀ e ∈ l, SmE e) (hr : rightE l = true) : entsF (encNL l) = some l := entsF_enc l hr fun e he => ⟨by have := encN_sm (h.2 e he) (rightE_may hr e he); omega, (h.2 e he).ln⟩
theorem back_den (raw more : List Raw) (out : List Int) (one two : Int) (hr : ∀ x ∈ raw, x.ok ∧ x.data.length ≤ 140737488355328) (hm : ∀ x ∈ more, x.ok) (hml : more.length ≤ 2513169434843) (ho : ∀ c ∈ out, inR c) (h1 : inR one) (h2 : inR two) : Den Sy 4 [sR raw, sR more, .sl 1 (out.map (.int .i64)) .no, .int .i64 one, .int .i64 two] = some (.bool true) := by
  rw [Den_fun Sy (af := A4) rfl rfl _ rfl]
  have h8 := awake_den
  have ha := entries_den raw more out one hr hm hml ho h1
  have hb := entries_den raw more out two hr hm hml ho h2
  have sa := entriesF_sm raw more out one
  have sb := entriesF_sm raw more out two
  have ra := entriesF_right raw more out one
  have rb := entriesF_right raw more out two
  generalize entriesF raw more out one = A at ha sa ra
  generalize entriesF raw more out two = B at hb sb rb
  have la := enc_small sa (rightE_may ra)
  have lb := enc_small sb (rightE_may rb)
  have ea := encP_den A (by have := sa.1; omega) (fun e he => (sa.2 e he).ok) (by omega)
  have eb := encP_den B (by have := sb.1; omega) (fun e he => (sb.2 e he).ok) (by omega)
  unfold encA at ea eb
  rw [ra, if_pos rfl] at ea
  rw [rb, if_pos rfl] at eb
  have da := small_dec sa ra
  have db := small_dec sb rb
  have hd := decP_den (encNL A) (by omega)
  rw [da] at hd
  simp only [decA] at hd
  have s1 := sameN_den A A (by have := sa.1; omega) (fun e he => (sa.2 e he).ok2)
  have s2 := sameN_den A B (by have := sa.1; omega) (fun e he => (sa.2 e he).ok2)
  rw [decide_eq_true rfl] at s1
  have hiff : decide (encNL A = encNL B) = decide (A = B) := by
    by_cases h : A = B
    · simp [h]
    · have : ¬ encNL A = encNL B := fun e => h (by rw [e, db] at da; exact (Option.some.inj da).symm)
      simp [h, this]
  by_cases h : A = B
  · have h' : encNL A = encNL B := by rw [h]
    rw [decide_eq_true h] at s2
    simp [A4, List.getElem?_cons_zero, List.getElem?_cons_succ, -getElem?_pos, h8, ha, hb, ea, eb, hd, s1, s2, eqv, eq_true h']
  · have h' : ¬ encNL A = encNL B := by simpa [h] using hiff
    rw [decide_eq_false h] at s2
    simp [A4, List.getElem?_cons_zero, List.getElem?_cons_succ, -getElem?_pos, h8, ha, hb, ea, eb, hd, s1, s2, eqv, eq_false h']
theorem back_law_den (raw more : List Raw) (out : List Int) (one two : Int) (hr : ∀ x ∈ raw, x.well) (fr : ∀ x ∈ raw, x.fit) (hm : ∀ x ∈ more, x.well) (fm : ∀ x ∈ more, x.fit) (hml : more.length ≤ 2513169434843) (ho : ∀ c ∈ out, -9223372036854775808 ≤ c ∧ c ≤ 9223372036854775807) (h1 : (Lit.int .i64 one).wf = true) (h2 : (Lit.int .i64 two).wf = true) : Den Sy 4 [sR raw, sR more, .sl 1 (out.map (.int .i64)) .no, .int .i64 one, .int .i64 two] = some (.bool true) :=
  back_den raw more out one two (fun x hx => ⟨(hr x hx).ok (fr x hx), fr x hx⟩) (fun x hx => (hm x hx).ok (fm x hx)) hml ho (inR_of_wf h1) (inR_of_wf h2)
end Go.Proofs.YtdjgdipmjbkilaaGreatDoor.Rx
