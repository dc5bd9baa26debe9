/-
  The script's laws, plain, 12: the example.
-/
import Derived.Test.YtdcgldhhdajocaaDoorRxP11
namespace Go.Proofs.YtdcgldhhdajocaaDoor.Rx
open Go
set_option linter.unusedSimpArgs false
set_option linter.unusedVariables false

def aw : List Edit := [⟨1, 1, []⟩, ⟨2, 1, []⟩, ⟨3, 1, [[120]]⟩]
abbrev aw1 : AV := .agg [.int .i64 1, .int .i64 1, .sl 1 [] .no]
abbrev aw2 : AV := .agg [.int .i64 2, .int .i64 1, .sl 1 [] .no]
abbrev aw3 : AV := .agg [.int .i64 3, .int .i64 1, .sl 1 [.str [120]] .no]
abbrev aw4 : AV := .agg [.int .i64 3, .int .i64 1, .sl 1 [.str [98]] .no]
abbrev aw0 : AV := .agg [.int .i64 0, .int .i64 0, .sl 1 [] .no]
abbrev awT : List UInt8 := [61, 49, 59, 45, 49, 59, 43, 49, 59, 49, 58, 120]
theorem aw_apply : Den Sy 21 [.sl 3 [aw1, aw2, aw3] .no, .sl 1 [.str [97], .str [98]] .no] = some (.tup [.sl 1 [.str [97], .str [120]] .no, .int .i64 0]) := apply_den aw (by decide) [[97], [98]]
theorem aw_apply0 : Den Sy 21 [.sl 3 [aw1, aw2, aw3] .no, .sl 1 [] .no] = some (.tup [.sl 1 [] .no, .int .i64 11]) := apply_den aw (by decide) []
theorem aw_apply1 : Den Sy 21 [.sl 3 [aw0] .no, .sl 1 [] .no] = some (.tup [.sl 1 [] .no, .int .i64 1]) := apply_den [⟨0, 0, []⟩] (by decide) []
theorem itoa_one : Lib.itoa 1 = [49] := by
  rw [itoa_nn (by decide), Lib.decDigits, dif_pos (by decide)]
  rfl
theorem aw_enc : encL aw = awT := by
  have h : Lib.itoa (([120] : List UInt8).length : Int) = [49] := itoa_one
  simp only [encL, aw, encE, encHead, encLs, encLine, List.flatMap_cons, List.flatMap_nil, itoa_one, h]
  decide
theorem aw_encode : Den Sy 14 [.sl 3 [aw1, aw2, aw3] .no] = some (.tup [.str awT, .int .i64 0]) := by
  have h := encode_den aw (by decide) (by rw [aw_enc]; decide)
  rw [aw_enc] at h
  exact h
theorem aw_dec : decF awT = some aw := by
  rw [← aw_enc]
  exact decF_enc (by decide) (by decide)
theorem aw_decode : Den Sy 28 [.str awT] = some (.tup [.sl 3 [aw1, aw2, aw3] .no, .int .i64 0]) := by
  have h := decode_den awT (by decide)
  rw [aw_dec] at h
  exact h
theorem aw_num0 : numF 59 [48, 49, 59] = none := by
  have h1 : Lib.indexByte [48, 49, 59] 59 = 2 := by decide
  have h2 : Lib.atoiAll ([48, 49, 59].take ((2 : Int).toNat)) = .ok 1 := by decide
  unfold numF
  rw [h1, if_pos (by decide), h2]
  simp only
  rw [if_neg]
  rw [itoa_one]
  decide
theorem aw_dec0 : decF [61, 48, 49, 59] = none := by
  have h : editF [61, 48, 49, 59] = none := by
    simp only [editF, aw_num0]
    exact if_pos (by decide)
  simp only [decF, List.length_cons, List.length_nil, decL, h]
theorem aw_decode0 : Den Sy 28 [.str [61, 48, 49, 59]] = some (.tup [.sl 3 [] .no, .int .i64 11]) := by
  have h := decode_den [61, 48, 49, 59] (by decide)
  rw [aw_dec0] at h
  exact h
theorem aw_invert : Den Sy 23 [.sl 3 [aw1, aw2, aw3] .no, .sl 1 [.str [97], .str [98]] .no] = some (.tup [.sl 3 [aw1, aw2, aw4] .no, .int .i64 0]) := invert_den aw (by decide) [[97], [98]] (by decide)
theorem aw_spans : Den Sy 12 [.sl 3 [aw1, aw2, aw3] .no] = some (.tup [.int .i64 2, .int .i64 2]) := spans_den aw (by decide)
theorem aw_cost : Den Sy 18 [.sl 3 [aw1, aw2, aw3] .no] = some (.int .i64 2) := cost_den aw (by decide)
theorem aw_right : Den Sy 16 [.sl 3 [aw1, aw2, aw3] .no] = some (.bool true) := right_den aw (by decide)
theorem aw_right0 : Den Sy 16 [.sl 3 [aw3, aw2] .no] = some (.bool false) := right_den [⟨3, 1, [[120]]⟩, ⟨2, 1, []⟩] (by decide)
theorem aw_texts : Den Sy 25 [.sl 1 [.str [97], .str [120]] .no, .sl 1 [.str [97], .str [120]] .no] = some (.bool true) := texts_den [[97], [120]] [[97], [120]] (by decide)
theorem aw_same : Den Sy 26 [.sl 3 [aw1, aw2, aw3] .no, .sl 3 [aw1, aw2, aw3] .no] = some (.bool true) := same_den aw aw (by decide) (by decide)
theorem aw_same2 : Den Sy 26 [.sl 3 [aw1, aw2, aw4] .no, .sl 3 [aw1, aw2, aw4] .no] = some (.bool true) := same_den [⟨1, 1, []⟩, ⟨2, 1, []⟩, ⟨3, 1, [[98]]⟩] [⟨1, 1, []⟩, ⟨2, 1, []⟩, ⟨3, 1, [[98]]⟩] (by decide) (by decide)
set_option maxHeartbeats 2000000 in
set_option maxRecDepth 20000 in
theorem awake_den : Den Sy 10 [] = some (.bool true) := by
  rw [Den_fun Sy (af := A10) rfl rfl _ rfl]
  simp [A10, aw_apply, aw_apply0, aw_apply1, aw_encode, aw_decode, aw_decode0, aw_invert, aw_spans, aw_cost, aw_right, aw_right0, aw_texts, aw_same, aw_same2]
end Go.Proofs.YtdcgldhhdajocaaDoor.Rx
