/-
  The script's laws, plain, 8: what is read of bytes.
-/
import Derived.Test.YtdcgldhhdajocaaDoorRxP7
import Derived.Lib.ItoaLen
namespace Go.Proofs.YtdcgldhhdajocaaDoor.Rx
open Go
set_option linter.unusedSimpArgs false
set_option linter.unusedVariables false
attribute [simp] comeB binS refsOut rcvK

theorem idx_lt : ∀ (t : List UInt8) (c : UInt8), Lib.indexByte t c = -1 ∨ (0 ≤ Lib.indexByte t c ∧ Lib.indexByte t c < t.length)
  | [], c => .inl rfl
  | b :: l, c => by
    unfold Lib.indexByte
    split
    · exact .inr ⟨by omega, by simp⟩
    · split
      · exact .inl rfl
      · rename_i h
        rcases idx_lt l c with h1 | ⟨h1, h2⟩
        · rw [h1] at h; simp at h
        · exact .inr ⟨by omega, by simp; omega⟩
theorem atoi_in {t : List UInt8} {v : Int} (h : Lib.atoiAll t = .ok v) : inR v := by
  unfold Lib.atoiAll at h
  split at h
  · cases h
  · simp only at h
    split at h
    · cases h
    · cases h
    · split at h
      · cases h
      · split at h
        · cases h
        · rename_i u _ h1 h2
          simp only [Lib.NumEnd.ok.injEq] at h
          subst h
          split
          · rename_i h3
            have : ¬ 9223372036854775808 < u := fun k => h2 ⟨h3, k⟩
            constructor <;> omega
          · rename_i h3
            have : ¬ 9223372036854775808 ≤ u := fun k => h1 ⟨h3, k⟩
            constructor <;> omega
/-- The number with which bytes begin, and what stands behind the sign that ends it. -/
def numF (c : UInt8) (t : List UInt8) : Option (Int × List UInt8) :=
  if 0 < Lib.indexByte t c then match Lib.atoiAll (t.take (Lib.indexByte t c).toNat) with
    | .ok v => if 0 ≤ v ∧ Lib.itoa v = t.take (Lib.indexByte t c).toNat then some (v, t.drop ((Lib.indexByte t c).toNat + 1)) else none
    | _ => none
  else none
theorem index_den (t : List UInt8) (c : UInt8) : Den Sy 45 [.str t, .str [c]] = some (.int .i64 (Lib.indexByte t c)) := by rw [Den_ext Sy (F := indexF) rfl]; rfl
theorem indexByte_den (t : List UInt8) (c : UInt8) : Den Sy 48 [.str t, .int .u8 c.toNat] = some (.int .i64 (Lib.indexByte t c)) := by
  rw [Den_ext Sy (F := indexByteF) rfl]
  simp [indexByteF]
theorem or_den (b : Bool) : Den Sy 46 [.bool b] = some (if b = true then .tup [] else .out true .opq []) := by rw [Den_ext Sy (F := orF) rfl]; cases b <;> rfl
theorem or_true_den : Den Sy 46 [.bool true] = some (.tup []) := or_den true
theorem or_false_den : Den Sy 46 [.bool false] = some (.out true .opq []) := or_den false
theorem itoa_den (v : Int) (h : inR v) : Den Sy 34 [.int .i64 v] = some (.str (Lib.itoa v)) := by
  rw [Den_ext Sy (F := itoaF) rfl]
  unfold inR at h
  simp only [itoaF]
  rw [if_pos h]
theorem atoi_den (t : List UInt8) (h : t.length ≤ 281474976710656) : Den Sy 47 [.str t] = match Lib.atoiAll t with
      | .ok v => some (.tup [.int .i64 v, .nilI])
      | .range => some (.tup [.int .i64 (Lib.atoiSat t), .ifc])
      | _ => some (.tup [.int .i64 0, .ifc]) := by
  rw [Den_ext Sy (F := atoiF) rfl]
  simp only [atoiF]
  rw [if_pos h]
  cases Lib.atoiAll t <;> rfl
theorem number_den (c : UInt8) (t : List UInt8) (ht : t.length ≤ 1099511627776) : Den Sy 44 [.str [c], .ref 0 [.str t]] = some (match numF c t with
      | some (v, r) => .out false (.int .i64 v) [[.str r]]
      | none => .out true .opq [[.str t]]) := by
  rw [Den_fun Sy (af := A44) rfl rfl _ rfl]
  have hix := index_den t c
  have hb := idx_lt t c
  unfold numF
  generalize hat : Lib.indexByte t c = at_ at hix hb ⊢
  by_cases h0 : 0 < at_
  · have h00 : 0 ≤ at_ := by omega
    have hle : at_ ≤ t.length := by omega
    have hc := chk_i64 (at_ + 1) (by omega)
    have h1 : 0 ≤ at_ + 1 := by omega
    have hle1 : at_ + 1 ≤ t.length := by omega
    have htn : (at_ + 1).toNat = at_.toNat + 1 := by omega
    have had := atoi_den (t.take at_.toNat) (by rw [List.length_take]; omega)
    rw [if_pos h0]
    cases he : Lib.atoiAll (t.take at_.toNat) with
    | ok v =>
      rw [he] at had
      have hv := atoi_in he
      have hit := itoa_den v hv
      by_cases hv0 : 0 ≤ v
      · by_cases heq : Lib.itoa v = t.take at_.toNat
        · simp [A44, handed, hix, or_true_den, h0, h00, hle, had, hit, hv0, eq_true heq, hc, h1, hle1, htn]
        · simp [A44, handed, hix, or_true_den, or_false_den, h0, h00, hle, had, hit, hv0, eq_false heq, hc, h1, hle1, htn]
      · simp [A44, handed, hix, or_true_den, or_false_den, h0, h00, hle, had, hit, hv0, hc, h1, hle1, htn]
    | range =>
      rw [he] at had
      simp [A44, handed, hix, or_true_den, or_false_den, h0, h00, hle, had, hc, h1, hle1, htn]
    | _ =>
      rw [he] at had
      simp [A44, handed, hix, or_true_den, or_false_den, h0, h00, hle, had, hc, h1, hle1, htn]
  · simp [A44, handed, hix, or_false_den, h0]
end Go.Proofs.YtdcgldhhdajocaaDoor.Rx
