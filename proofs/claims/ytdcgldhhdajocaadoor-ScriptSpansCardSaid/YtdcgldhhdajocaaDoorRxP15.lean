/-
  The script's laws, plain, 15: ScriptForms.
-/
import Derived.Test.YtdcgldhhdajocaaDoorRxP14
namespace Go.Proofs.YtdcgldhhdajocaaDoor.Rx
open Go
set_option linter.unusedSimpArgs false
set_option linter.unusedVariables false
attribute [simp] extreme foldI

theorem kindF_len (j : Int) : (kindF j).length ≤ 4 := by
  unfold kindF
  generalize j.toNat = k
  match k with
  | 0 => decide
  | 1 => decide
  | 2 => decide
  | 3 => decide
  | 4 => decide
  | n + 5 => exact Nat.zero_le _
theorem fullG_small (raw : List Int) : ∀ (n i : Nat), ∀ l ∈ fullG raw i n, l.length ≤ 4
  | 0, _, l, h => by simp [fullG] at h
  | n + 1, i, l, h => by
    rcases List.mem_cons.1 h with rfl | h
    · exact kindF_len _
    · exact fullG_small raw n (i + 1) l h
theorem scriptG_ls : ∀ (k : Nat) (r : List Int) (last : Int), ∀ e ∈ scriptG k r last, ∀ l ∈ e.ls, l.length ≤ 4
  | 0, _, _, e, he => by simp [scriptG] at he
  | _ + 1, [], _, e, he => by simp [scriptG] at he
  | k + 1, c :: r, last, e, he => by
    unfold scriptG at he
    split at he
    · exact scriptG_ls k r last e he
    · rcases List.mem_cons.1 he with rfl | he
      · intro l hl
        simp only [mkE] at hl
        split at hl
        · exact fullG_small _ _ _ l hl
        · simp at hl
      · exact scriptG_ls k r _ e he
theorem scriptF_ls (raw : List Int) : ∀ e ∈ scriptF raw, ∀ l ∈ e.ls, l.length ≤ 4 := scriptG_ls 10 raw 0
theorem encLs_le : ∀ (ls : List (List UInt8)), (∀ l ∈ ls, l.length ≤ 4) → (encLs ls).length ≤ 26 * ls.length
  | [], _ => by simp [encLs]
  | l :: ls, h => by
    have h1 := h l (by simp)
    have h2 := encLs_le ls (fun x hx => h x (List.mem_cons_of_mem _ hx))
    have h3 := itoa_len l.length ⟨by omega, by omega⟩
    have e : (encLs (l :: ls)).length = (Lib.itoa l.length).length + 1 + l.length + (encLs ls).length := by simp [encLs, encLine]; omega
    rw [e, List.length_cons]
    omega
theorem encE_le {e : Edit} (hm : mayB e = true) (h4 : e.n ≤ 4) (hl : ∀ l ∈ e.ls, l.length ≤ 4) : (encE e).length ≤ 127 := by
  obtain ⟨hop, hn1, hn2, hn3, hn4⟩ := mayB_op hm
  have h1 := encLs_le e.ls hl
  have h2 : e.ls.length ≤ 4 := by
    by_cases h3 : e.op = 3
    · have := hn3 h3; omega
    · rw [hn4 h3]; simp
  have h3 := itoa_len e.n ⟨by omega, by omega⟩
  have h5 : (sgn e.op).length = 1 := by unfold sgn; split <;> (try split) <;> rfl
  simp only [encE, encHead, List.length_append, List.length_cons, List.length_nil, h5]
  omega
theorem encL_le : ∀ {s : List Edit}, (∀ e ∈ s, mayB e = true ∧ e.n ≤ 4 ∧ ∀ l ∈ e.ls, l.length ≤ 4) → (encL s).length ≤ 127 * s.length
  | [], _ => by simp [encL]
  | e :: s, h => by
    have h1 := encL_le (s := s) (fun x hx => h x (List.mem_cons_of_mem _ hx))
    obtain ⟨k1, k2, k3⟩ := h e (by simp)
    have h2 := encE_le k1 k2 k3
    have e1 : encL (e :: s) = encE e ++ encL s := by simp [encL]
    rw [e1, List.length_append, List.length_cons]
    omega
theorem script_enc (raw : List Int) : (encL (scriptF raw)).length ≤ 1270 ∧ ∀ e ∈ scriptF raw, ∀ l ∈ e.ls, l.length ≤ 9223372036854775807 := by
  have h1 := rightF_may (scriptF_right raw)
  have h2 := scriptG_small 10 raw 0
  have h3 := scriptF_ls raw
  have h4 := (script_many raw 1 2).2.2
  have h := encL_le (s := scriptF raw) (fun e he => ⟨h1 e he, h2 e he, h3 e he⟩)
  exact ⟨by omega, fun e he l hl => Nat.le_trans (h3 e he l hl) (by decide)⟩
theorem small_ls {s : List Edit} (hm : ∀ e ∈ s, mayB e = true) : ∀ e ∈ s, e.ls.length ≤ 1099511627776 := by
  intro e he
  obtain ⟨hop, hn1, hn2, hn3, hn4⟩ := mayB_op (hm e he)
  by_cases h3 : e.op = 3
  · have := hn3 h3; omega
  · rw [hn4 h3]; simp
theorem decF_len {t : List UInt8} {s : List Edit} (h : decF t = some s) : s.length ≤ t.length := by
  unfold decF at h
  split at h
  · rename_i s' hs
    split at h
    · simp only [Option.some.injEq] at h
      subst h
      exact decL_len hs
    · simp at h
  · simp at h
set_option maxHeartbeats 2000000 in
set_option maxRecDepth 20000 in
theorem forms_den (one two : List Int) (t : List UInt8) (h1 : ∀ c ∈ one, inR c) (h2 : ∀ c ∈ two, inR c) (ht : t.length ≤ maxLen) : Den Sy 5 [iS one, iS two, .str t] = some (.bool true) := by
  rw [Den_fun Sy (af := A5) rfl rfl _ rfl]
  have ht' : t.length ≤ 9223372036854775807 := Nat.le_trans ht (by decide)
  have s1 := script_den one [] h1 (by simp)
  have s2 := script_den two [] h2 (by simp)
  simp only [iS, List.map_nil] at s1 s2
  have r1 := scriptF_right one
  have r2 := scriptF_right two
  obtain ⟨b1, l1⟩ := script_enc one
  obtain ⟨b2, l2⟩ := script_enc two
  have n1 := (script_many one 1 2).2.2
  have n2 := (script_many two 1 2).2.2
  have e1 := encode_den (scriptF one) (by omega) (by omega)
  have e2 := encode_den (scriptF two) (by omega) (by omega)
  have d1 := decode_den (encL (scriptF one)) (by omega)
  rw [decF_enc r1 l1] at d1
  have m1 := same_den (scriptF one) (scriptF one) (by omega) (small_ls (rightF_may r1))
  have m2 := same_den (scriptF one) (scriptF two) (by omega) (small_ls (rightF_may r1))
  simp only [r1, r2, if_true, decide_true] at e1 e2 m1
  have hiff : decide (encL (scriptF one) = encL (scriptF two)) = decide (scriptF one = scriptF two) := by
    by_cases h : scriptF one = scriptF two
    · simp [h]
    · have : ¬ encL (scriptF one) = encL (scriptF two) := fun k => h (by
        have a := decF_enc r1 l1
        rw [k, decF_enc r2 l2] at a
        exact (Option.some.inj a).symm)
      simp [h, this]
  have key : ∀ x : List UInt8, x.length ≤ 100 → (∃ d, decF x = some d ∧ Den Sy 28 [.str x] = some (.tup [sE d, .int .i64 0]) ∧ Den Sy 14 [sE d] = some (.tup [.str x, .int .i64 0]) ∧ Den Sy 16 [sE d] = some (.bool true)) ∨ (decF x = none ∧ Den Sy 28 [.str x] = some (.tup [.sl 3 [] .no, .int .i64 11])) := by
    intro x hxl
    have dx := decode_den x (by omega)
    cases hd : decF x with
    | none =>
      rw [hd] at dx
      exact .inr ⟨rfl, dx⟩
    | some d =>
      rw [hd] at dx
      obtain ⟨k1, k2⟩ := decF_eq hd
      have k3 := decF_len hd
      have e3 := encode_den d (by omega) (by rw [← k1]; omega)
      have r3 := right_den d (by omega)
      rw [if_pos k2, ← k1] at e3
      rw [k2] at r3
      exact .inl ⟨d, rfl, dx, e3, r3⟩
  by_cases hlt : (100 : Int) < t.length
  · have hle : (100 : Int) ≤ t.length := by omega
    rcases key (t.take 100) (by rw [List.length_take]; omega) with ⟨d, _, k1, k2, k3⟩ | ⟨_, k1⟩
    · simp [A5, awake_den, s1, s2, e1, e2, d1, m1, m2, hiff, hlt, hle, k1, k2, k3]
    · simp [A5, awake_den, s1, s2, e1, e2, d1, m1, m2, hiff, hlt, hle, k1]
  · rcases key t (by omega) with ⟨d, _, k1, k2, k3⟩ | ⟨_, k1⟩
    · simp [A5, awake_den, s1, s2, e1, e2, d1, m1, m2, hiff, hlt, k1, k2, k3]
    · simp [A5, awake_den, s1, s2, e1, e2, d1, m1, m2, hiff, hlt, k1]
end Go.Proofs.YtdcgldhhdajocaaDoor.Rx
