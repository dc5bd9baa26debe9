/-
  The script's laws, plain, 14: ScriptFits.
-/
import Derived.Test.YtdcgldhhdajocaaDoorRxP13
namespace Go.Proofs.YtdcgldhhdajocaaDoor.Rx
open Go
set_option linter.unusedSimpArgs false
set_option linter.unusedVariables false
attribute [simp] eqv

set_option maxHeartbeats 2000000 in
set_option maxRecDepth 20000 in
theorem fits_law_den (raw lines : List Int) (n : Int) (hr : ∀ c ∈ raw, inR c) (hl : ∀ c ∈ lines, inR c) (hn : inR n) : Den Sy 9 [iS raw, iS lines, .int .i64 n] = some (.bool true) := by
  rw [Den_fun Sy (af := A9) rfl rfl _ rfl]
  have hsd := script_den raw [] hr (by simp)
  have hsr := scriptF_right raw
  obtain ⟨hm1, hm2, hlen⟩ := script_many raw 1 2
  have hp := pick_den n 30 hn (by omega)
  obtain ⟨hp1, hp2⟩ := pickF_lt n (n := 30) (by omega)
  obtain ⟨m, hm⟩ : ∃ m : Nat, pickF n 30 = m := ⟨(pickF n 30).toNat, by omega⟩
  rw [hm] at hp hp1 hp2
  have hf := full_den lines hl m (by omega)
  have hal : (fullF lines m).length = m := by rw [fullF, fullG_len]
  generalize fullF lines m = a at hf hal
  generalize fullF [] (many 1 2 (scriptF raw)).toNat = a0 at hsd
  generalize scriptF raw = s at hsd hsr hm1 hm2 hlen
  have d1 := apply_den s (by omega) a
  have d2 := invert_den s (by omega) a (by omega)
  have d5 := spans_den s (by omega)
  have d9 := right_den s (by omega)
  simp only [spansF, hsr, if_true] at d5 d9
  simp only [iS, List.map_nil] at hsd
  by_cases h : many 1 2 s = a.length
  · have f1 : fitsF s a.length = 0 := by simp [fitsF, hsr, h]
    rw [f1] at d1 d2
    simp only [applyF, f1, if_true, applyA_map] at d1 d2
    rw [h] at d5
    simp [A9, awake_den, hsd, hp, hf, d1, d2, d5, d9]
  · have f1 : fitsF s a.length = 11 := by simp [fitsF, hsr, h]
    rw [f1] at d1 d2
    simp only [applyF, f1, show ¬ (11 : Int) = 0 by decide, if_false] at d1 d2
    simp [A9, awake_den, hsd, hp, hf, d1, d2, d5, d9, eq_false h]
end Go.Proofs.YtdcgldhhdajocaaDoor.Rx
