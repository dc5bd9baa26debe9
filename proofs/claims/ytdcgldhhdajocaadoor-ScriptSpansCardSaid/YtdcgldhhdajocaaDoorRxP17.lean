/-
  The script's laws, plain, 17: ScriptLong.
-/
import Derived.Test.YtdcgldhhdajocaaDoorRxP16
namespace Go.Proofs.YtdcgldhhdajocaaDoor.Rx
open Go
set_option linter.unusedSimpArgs false
set_option linter.unusedVariables false

theorem dig_slice : ∀ u : Nat, u < 10 → (([48, 49, 50, 51, 52, 53, 54, 55, 56, 57] : List UInt8).take (u + 1)).drop u = [UInt8.ofNat (48 + u)]
  | 0, _ => rfl
  | 1, _ => rfl
  | 2, _ => rfl
  | 3, _ => rfl
  | 4, _ => rfl
  | 5, _ => rfl
  | 6, _ => rfl
  | 7, _ => rfl
  | 8, _ => rfl
  | 9, _ => rfl
  | n + 10, h => by omega
theorem decDigits_len (u : Nat) (h : u ≤ 9223372036854775807) : (Lib.decDigits u).length ≤ 21 := by
  have := itoa_len u ⟨by omega, by omega⟩
  rwa [itoa_nn (by omega), Int.toNat_natCast] at this
theorem digits_den : ∀ u : Nat, u ≤ 9223372036854775807 → Den Sy 30 [.int .i64 u] = some (.str (Lib.decDigits u)) := by
  intro u
  induction u using Nat.strongRecOn with
  | _ u ih =>
    intro hu
    rw [Den_fun Sy (af := A30) rfl rfl _ rfl]
    by_cases h : u < 10
    · have h' : (u : Int) < 10 := by omega
      have hc := chk_i64 ((u : Int) + 1) (by omega)
      have hs := dig_slice u h
      have h9 : (u : Int) + 1 ≤ 10 := by omega
      have hle : (u : Int) ≤ u + 1 := by omega
      rw [Lib.decDigits, dif_pos h]
      simp [A30, h', hc, h9, hle]
      simpa using hs
    · have h' : ¬ (u : Int) < 10 := by omega
      have i1 := ih (u / 10) (by omega) (by omega)
      have i2 := ih (u % 10) (by omega) (by omega)
      have q1 : (u : Int).tdiv 10 = ((u / 10 : Nat) : Int) := by rw [Int.tdiv_eq_ediv_of_nonneg (by omega)]; rfl
      have q2 : (u : Int).tmod 10 = ((u % 10 : Nat) : Int) := by rw [Int.tmod_eq_emod_of_nonneg (by omega)]; rfl
      have hc := chk_i64 ((u / 10 : Nat) : Int) (by omega)
      have l1 := decDigits_len (u / 10) (by omega)
      have l2 := decDigits_len (u % 10) (by omega)
      have hl : (Lib.decDigits (u / 10)).length + (Lib.decDigits (u % 10)).length ≤ 9223372036854775807 := by omega
      have e : Lib.decDigits u = Lib.decDigits (u / 10) ++ Lib.decDigits (u % 10) := by
        rw [Lib.decDigits, dif_neg h]
        congr 1
        rw [Lib.decDigits, dif_pos (by omega)]
      rw [e]
      simp only [Int.natCast_ediv, Int.natCast_emod, show ((10 : Nat) : Int) = 10 from rfl] at q1 q2 hc i1 i2
      simp [A30, h', q1, q2, hc, i1, i2, hl]
theorem decDigits_zero : ∀ (u : Nat) (r : List UInt8), Lib.decDigits u = 48 :: r → u = 0 ∧ r = [] := by
  intro u
  induction u using Nat.strongRecOn with
  | _ u ih =>
    intro r h
    rw [Lib.decDigits] at h
    by_cases hu : u < 10
    · rw [dif_pos hu] at h
      simp only [List.cons.injEq] at h
      have := congrArg UInt8.toNat h.1
      rw [dig_toNat u hu] at this
      have h48 : (48 : UInt8).toNat = 48 := rfl
      exact ⟨by omega, h.2.symm⟩
    · rw [dif_neg hu] at h
      cases hd : Lib.decDigits (u / 10) with
      | nil => exact absurd hd (decDigits_ne _)
      | cons c l =>
        rw [hd, List.cons_append] at h
        simp only [List.cons.injEq] at h
        obtain ⟨rfl, _⟩ := h
        have := (ih (u / 10) (by omega) l hd).1
        omega
theorem decF_none {c : UInt8} {r : List UInt8} (h : editF (c :: r) = none) : decF (c :: r) = none := by
  unfold decF
  have : decL (c :: r).length (c :: r) = none := by simp only [List.length_cons, decL, h]
  rw [this]
theorem editF_none {c : UInt8} {r : List UInt8} (h : numF 59 r = none) : editF (c :: r) = none := by
  simp only [editF, h]
  split <;> rfl
theorem idx_pos {l : List UInt8} (h : ∀ c ∈ l, 48 ≤ c.toNat ∧ c.toNat ≤ 57) (r : List UInt8) : Lib.indexByte (l ++ 59 :: r) 59 = l.length := by
  refine idx_app _ _ _ fun k => ?_
  have := h _ k
  have h59 : (59 : UInt8).toNat = 59 := rfl
  omega
theorem num_zero (k : Nat) : numF 59 (48 :: (Lib.decDigits k ++ [59])) = none := by
  have hi : Lib.indexByte (48 :: Lib.decDigits k ++ [59]) 59 = (48 :: Lib.decDigits k).length := idx_pos (fun c hc => by
    rcases List.mem_cons.1 hc with rfl | hc
    · decide
    · exact decDigits_dig k c hc) []
  rw [List.cons_append] at hi
  unfold numF
  rw [hi, if_pos (by simp)]
  have ht : (48 :: (Lib.decDigits k ++ [59])).take ((48 :: Lib.decDigits k).length : Int).toNat = 48 :: Lib.decDigits k := by
    simp
  rw [ht]
  split
  · rename_i v _
    rw [if_neg]
    rintro ⟨h0, h1⟩
    rw [itoa_nn h0] at h1
    exact decDigits_ne k (decDigits_zero _ _ h1).2
  · rfl
theorem long_one (c : UInt8) (o : Int) (ho : o = 1 ∨ o = 2) (hc : opF c = o) (k : Nat) (hk : k ≤ 1048580) (hk1 : 1 ≤ k) :
    decF (c :: (Lib.decDigits k ++ [59])) = (if k ≤ 1048576 then some [⟨o, k, []⟩] else none) ∧ (encL [⟨o, k, []⟩] = c :: (Lib.decDigits k ++ [59])) ∧ rightB [⟨o, k, []⟩] = decide (k ≤ 1048576) := by
  have hs := opF_sgn c (by omega)
  rw [hc] at hs
  have he : encL [⟨o, k, []⟩] = c :: (Lib.decDigits k ++ [59]) := by
    simp [encL, encE, encHead, encLs, hs.1, itoa_nn (show 0 ≤ (k : Int) by omega)]
  have hr : rightB [⟨o, k, []⟩] = decide (k ≤ 1048576) := by
    have h1 : ¬ o = 0 := by omega
    have h2 : ((1 : Int) ≤ k ∧ (k : Int) ≤ 1048576) ↔ k ≤ 1048576 := by omega
    simp only [rightB, rightF, mayB, h1, ho, h2, if_true]
    simp [h1]
  refine ⟨?_, he, hr⟩
  by_cases h : k ≤ 1048576
  · rw [if_pos h, ← he]
    exact decF_enc (by rw [hr]; simpa using h) (by simp)
  · rw [if_neg h]
    refine decF_none ?_
    have hn := numF_itoa 59 (by decide) (n := k) (by omega) (by omega) []
    rw [itoa_nn (by omega), Int.toNat_natCast] at hn
    simp only [editF, hn]
    rw [if_pos (by omega), if_neg (by omega)]
theorem long_zero (c : UInt8) (o : Int) (ho : o = 1 ∨ o = 2) (hc : opF c = o) : decF [c, 48, 59] = none := by
  have hn := numF_itoa 59 (by decide) (n := 0) (by omega) (by omega) []
  have hz : Lib.itoa 0 ++ [59] = [48, 59] := by
    rw [itoa_nn (by decide), Lib.decDigits, dif_pos (by decide)]
    rfl
  rw [hz] at hn
  have he : editF [c, 48, 59] = some (⟨o, 0, []⟩, []) := by
    simp only [editF, hn, hc]
    rw [if_pos (by omega), if_pos (by decide), if_neg (by omega)]
  have hd : decL 3 [c, 48, 59] = some [⟨o, 0, []⟩] := by
    simp only [decL, he]
    rfl
  unfold decF
  simp only [List.length_cons, List.length_nil, hd]
  rw [if_neg]
  simp [rightB, rightF, mayB]
theorem long_nines (c : UInt8) : decF (c :: [57, 57, 57, 57, 57, 57, 57, 57, 57, 57, 57, 57, 57, 57, 57, 57, 57, 57, 57, 57, 59]) = none := by
  refine decF_none (editF_none ?_)
  have h1 : Lib.indexByte [57, 57, 57, 57, 57, 57, 57, 57, 57, 57, 57, 57, 57, 57, 57, 57, 57, 57, 57, 57, 59] 59 = 20 := by decide
  have h2 : Lib.atoiAll (([57, 57, 57, 57, 57, 57, 57, 57, 57, 57, 57, 57, 57, 57, 57, 57, 57, 57, 57, 57, 59] : List UInt8).take ((20 : Int).toNat)) = .range := by decide
  unfold numF
  rw [h1, if_pos (by decide), h2]
def longX (o : Int) (k : Nat) : AV := .agg [.int .i64 o, .int .i64 k, .sl 1 [] .no]
theorem long_facts (c : UInt8) (o : Int) (ho : o = 1 ∨ o = 2) (hc : opF c = o) (k : Nat) (hk : k ≤ 1048580) (hk1 : 1 ≤ k) (D : List UInt8) (hD : Lib.decDigits k = D) :
    Den Sy 28 [.str (c :: 48 :: (D ++ [59]))] = some (.tup [.sl 3 [] .no, .int .i64 11]) ∧ Den Sy 28 [.str [c, 48, 59]] = some (.tup [.sl 3 [] .no, .int .i64 11]) ∧
    Den Sy 28 [.str (c :: [57, 57, 57, 57, 57, 57, 57, 57, 57, 57, 57, 57, 57, 57, 57, 57, 57, 57, 57, 57, 59])] = some (.tup [.sl 3 [] .no, .int .i64 11]) ∧
    (k ≤ 1048576 → Den Sy 28 [.str (c :: (D ++ [59]))] = some (.tup [.sl 3 [longX o k] .no, .int .i64 0]) ∧ Den Sy 14 [.sl 3 [longX o k] .no] = some (.tup [.str (c :: (D ++ [59])), .int .i64 0]) ∧
      Den Sy 26 [.sl 3 [longX o k] .no, .sl 3 [longX o k] .no] = some (.bool true) ∧ Den Sy 12 [.sl 3 [longX o k] .no] = some (.tup [.int .i64 k, .int .i64 (if o = 1 then k else 0)]) ∧ Den Sy 18 [.sl 3 [longX o k] .no] = some (.int .i64 (if o = 1 then 0 else k))) ∧
    (¬ k ≤ 1048576 → Den Sy 28 [.str (c :: (D ++ [59]))] = some (.tup [.sl 3 [] .no, .int .i64 11]) ∧ Den Sy 14 [.sl 3 [longX o k] .no] = some (.tup [.str [], .int .i64 1])) := by
  obtain ⟨h1, h2, h3⟩ := long_one c o ho hc k hk hk1
  have hl := decDigits_len k (by omega)
  subst hD
  have nil : sE [] = .sl 3 [] .no := rfl
  have one : sE [⟨o, k, []⟩] = .sl 3 [longX o k] .no := rfl
  refine ⟨?_, ?_, ?_, fun h => ⟨?_, ?_, ?_, ?_, ?_⟩, fun h => ⟨?_, ?_⟩⟩
  · rw [decode_den _ (by simp; omega), decF_none (editF_none (num_zero k))]
    rfl
  · rw [decode_den _ (by simp), long_zero c o ho hc]
    rfl
  · rw [decode_den _ (by simp), long_nines c]
    rfl
  · rw [decode_den _ (by simp; omega), h1, if_pos h]
    rfl
  · have := encode_den [⟨o, k, []⟩] (by simp) (by rw [h2]; simp; omega)
    rw [h3, h2, if_pos (by simpa using h)] at this
    exact this
  · have := same_den [⟨o, k, []⟩] [⟨o, k, []⟩] (by simp) (by simp)
    simp only [decide_true] at this
    exact this
  · have := spans_den [⟨o, k, []⟩] (by simp)
    simp only [spansF, h3, h, decide_true, if_true] at this
    rw [one] at this
    rw [this]
    rcases ho with rfl | rfl <;> simp [many]
  · have := cost_den [⟨o, k, []⟩] (by simp)
    simp only [costF, h3, h, decide_true, if_true] at this
    rw [one] at this
    rw [this]
    rcases ho with rfl | rfl <;> simp [many]
  · rw [decode_den _ (by simp; omega), h1, if_neg h]
    rfl
  · have := encode_den [⟨o, k, []⟩] (by simp) (by rw [h2]; simp; omega)
    rw [h3, if_neg (by simpa using h)] at this
    exact this
set_option maxHeartbeats 2000000 in
set_option maxRecDepth 20000 in
theorem long_den (n : Int) (cut : Bool) (hn : inR n) : Den Sy 7 [.int .i64 n, .bool cut] = some (.bool true) := by
  rw [Den_fun Sy (af := A7) rfl rfl _ rfl]
  have hp := pick_den n 9 hn (by omega)
  obtain ⟨hp1, hp2⟩ := pickF_lt n (n := 9) (by omega)
  obtain ⟨k, hk⟩ : ∃ k : Nat, 1048572 + pickF n 9 = k := ⟨(1048572 + pickF n 9).toNat, by omega⟩
  have hc : chk .i64 (1048572 + pickF n 9) = some (.int .i64 k) := by
    rw [hk]
    exact chk_i64 _ (by omega)
  have hd := digits_den k (by omega)
  have hl := decDigits_len k (by omega)
  generalize hD : Lib.decDigits k = D at hd hl
  have l1 : D.length + 1 ≤ 9223372036854775807 := by omega
  have l2 : D.length + 1 + 1 ≤ 9223372036854775807 := by omega
  have l3 : D.length + 1 + 1 + 1 ≤ 9223372036854775807 := by omega
  have l4 : 1 + D.length ≤ 9223372036854775807 := by omega
  have l5 : 2 + D.length ≤ 9223372036854775807 := by omega
  cases cut with
  | false =>
    obtain ⟨d1, d2, d3, d4, d5⟩ := long_facts 61 1 (.inl rfl) (by decide) k (by omega) (by omega) D hD
    by_cases h : k ≤ 1048576
    · obtain ⟨g1, g2, g3, g4, g5⟩ := d4 h
      have h' : ¬ (1048576 : Int) < k := by omega
      have hs := chk_i64 ((k : Int) - k) (by omega)
      rw [Int.sub_self] at hs
      have hk0 : ¬ (0 : Int) = k := by omega
      have hk00 : ¬ (k : Int) = 0 := by omega
      simp only [longX, if_true] at g1 g2 g3 g4 g5
      simp [A7, awake_den, hp, hc, hd, l1, l2, l3, l4, l5, d1, d2, d3, g1, g2, g3, g4, g5, h', hs, eq_false hk0, eq_false hk00]
    · obtain ⟨g1, g2⟩ := d5 h
      have h' : (1048576 : Int) < k := by omega
      simp only [longX] at g1 g2
      simp [A7, awake_den, hp, hc, hd, l1, l2, l3, l4, l5, d1, d2, d3, g1, g2, h']
  | true =>
    obtain ⟨d1, d2, d3, d4, d5⟩ := long_facts 45 2 (.inr rfl) (by decide) k (by omega) (by omega) D hD
    by_cases h : k ≤ 1048576
    · obtain ⟨g1, g2, g3, g4, g5⟩ := d4 h
      have h' : ¬ (1048576 : Int) < k := by omega
      have hs := chk_i64 ((k : Int) - 0) (by omega)
      rw [Int.sub_zero] at hs
      have hk0 : ¬ (0 : Int) = k := by omega
      have hk00 : ¬ (k : Int) = 0 := by omega
      simp only [longX, show ¬ (2 : Int) = 1 by decide, if_false] at g1 g2 g3 g4 g5
      simp [A7, awake_den, hp, hc, hd, l1, l2, l3, l4, l5, d1, d2, d3, g1, g2, g3, g4, g5, h', hs, eq_false hk0, eq_false hk00]
    · obtain ⟨g1, g2⟩ := d5 h
      have h' : (1048576 : Int) < k := by omega
      simp only [longX] at g1 g2
      simp [A7, awake_den, hp, hc, hd, l1, l2, l3, l4, l5, d1, d2, d3, g1, g2, h']
end Go.Proofs.YtdcgldhhdajocaaDoor.Rx
