/-
  The script's laws, plain, 16: ScriptCuts.
-/
import Derived.Test.YtdcgldhhdajocaaDoorRxP15
namespace Go.Proofs.YtdcgldhhdajocaaDoor.Rx
open Go
set_option linter.unusedSimpArgs false
set_option linter.unusedVariables false

theorem encL_app (a b : List Edit) : encL (a ++ b) = encL a ++ encL b := by simp [encL]
theorem encL_cons (e : Edit) (s : List Edit) : encL (e :: s) = encE e ++ encL s := by simp [encL]
theorem encLs_mem : ∀ {ls : List (List UInt8)} {l : List UInt8}, l ∈ ls → l.length ≤ (encLs ls).length
  | x :: ls, l, h => by
    have e : (encLs (x :: ls)).length = (Lib.itoa x.length).length + 1 + x.length + (encLs ls).length := by simp [encLs, encLine]; omega
    rw [e]
    rcases List.mem_cons.1 h with rfl | h
    · omega
    · have := encLs_mem h; omega
theorem encL_mem : ∀ {s : List Edit} {e : Edit}, e ∈ s → ∀ l ∈ e.ls, l.length ≤ (encL s).length
  | x :: s, e, h, l, hl => by
    have e1 : (encL (x :: s)).length = (encHead x).length + (encLs x.ls).length + (encL s).length := by simp only [encL_cons, encE, List.length_append]
    rw [e1]
    rcases List.mem_cons.1 h with rfl | h
    · have := encLs_mem hl; omega
    · have := encL_mem h l hl; omega
theorem pre_code : ∀ (d s : List Edit) (r : List UInt8), (∀ e ∈ d, mayB e = true) → (∀ e ∈ s, mayB e = true) → (encL s).length ≤ 9223372036854775807 → encL d ++ r = encL s → ∃ i, i ≤ s.length ∧ d = s.take i
  | [], s, r, _, _, _, _ => ⟨0, Nat.zero_le _, rfl⟩
  | e :: d, [], r, _, _, _, h => by
    obtain ⟨c, u, hc⟩ := encE_pos e
    rw [encL_cons, hc] at h
    simp [encL] at h
  | e :: d, f :: s, r, hd, hs, hl, h => by
    have hlen : (encL (e :: d)).length + r.length = (encL (f :: s)).length := by rw [← h, List.length_append]
    have h1 := editF_enc e (hd e (by simp)) (fun l k => by have := encL_mem (s := e :: d) (by simp) l k; omega) (encL d ++ r)
    have h2 := editF_enc f (hs f (by simp)) (fun l k => by have := encL_mem (s := f :: s) (by simp) l k; omega) (encL s)
    rw [encL_cons, encL_cons, List.append_assoc] at h
    rw [h, h2] at h1
    simp only [Option.some.injEq, Prod.mk.injEq] at h1
    obtain ⟨rfl, h3⟩ := h1
    have hl2 : (encL s).length ≤ 9223372036854775807 := by
      rw [encL_cons, List.length_append] at hl
      omega
    obtain ⟨i, hi, rfl⟩ := pre_code d s r (fun x hx => hd x (List.mem_cons_of_mem _ hx)) (fun x hx => hs x (List.mem_cons_of_mem _ hx)) hl2 h3.symm
    exact ⟨i + 1, by simp; omega, rfl⟩
theorem rightF_take : ∀ (s : List Edit) (last : Int) (i : Nat), rightF last s = true → rightF last (s.take i) = true
  | [], last, i, h => by simp [rightF]
  | e :: s, last, 0, h => rfl
  | e :: s, last, i + 1, h => by
    obtain ⟨h1, h2, h3, h4⟩ := rightF_cons h
    rw [List.take_succ_cons]
    exact rightF_mk h1 h2 h3 (rightF_take s e.op i h4)
theorem rightB_of : ∀ {s : List Edit} {last : Int}, rightF last s = true → rightB s = true
  | [], _, _ => rfl
  | e :: s, last, h => by
    obtain ⟨h1, h2, h3, h4⟩ := rightF_cons h
    have := (mayB_op h1).1
    exact rightF_mk h1 (by omega) (by omega) h4
theorem rightF_drop : ∀ (s : List Edit) (last : Int) (i : Nat), rightF last s = true → rightB (s.drop i) = true
  | [], last, i, h => by simp [rightB, rightF]
  | e :: s, last, 0, h => rightB_of h
  | e :: s, last, i + 1, h => rightF_drop s e.op i (rightF_cons h).2.2.2
/-- Whether one of the heads, from the i-th on, has just so many bytes. -/
def cutA (s : List Edit) (k : Nat) : Nat → Nat → Bool → Bool
  | _, 0, b => b
  | i, n + 1, b => cutA s k (i + 1) n (b || decide ((encL (s.take i)).length = k))
theorem cutA_iff (s : List Edit) (k : Nat) : ∀ (n i : Nat) (b : Bool), cutA s k i n b = true ↔ b = true ∨ ∃ j, i ≤ j ∧ j < i + n ∧ (encL (s.take j)).length = k
  | 0, i, b => by
    simp only [cutA]
    constructor
    · exact .inl
    · rintro (h | ⟨j, h1, h2, _⟩)
      · exact h
      · omega
  | n + 1, i, b => by
    simp only [cutA, cutA_iff s k n (i + 1), Bool.or_eq_true, decide_eq_true_eq]
    constructor
    · rintro ((h | h) | ⟨j, h1, h2, h3⟩)
      · exact .inl h
      · exact .inr ⟨i, Nat.le_refl _, by omega, h⟩
      · exact .inr ⟨j, by omega, by omega, h3⟩
    · rintro (h | ⟨j, h1, h2, h3⟩)
      · exact .inl (.inl h)
      · by_cases hj : j = i
        · subst hj; exact .inl (.inr h3)
        · exact .inr ⟨j, by omega, by omega, h3⟩
theorem cut_iff {s : List Edit} (hr : rightB s = true) (hl : (encL s).length ≤ 9223372036854775807) {k : Nat} (hk : k ≤ (encL s).length) : (decF ((encL s).take k)).isSome = cutA s k 0 (s.length + 1) (decide (k = 0)) := by
  have hm := rightF_may hr
  rw [Bool.eq_iff_iff, cutA_iff]
  constructor
  · intro h
    obtain ⟨d, hd⟩ := Option.isSome_iff_exists.1 h
    obtain ⟨h1, h2⟩ := decF_eq hd
    have h3 : encL d ++ (encL s).drop k = encL s := by rw [← h1, List.take_append_drop]
    obtain ⟨i, hi, rfl⟩ := pre_code d s _ (rightF_may h2) hm hl h3
    refine .inr ⟨i, Nat.zero_le _, by omega, ?_⟩
    rw [← h1, List.length_take]
    omega
  · intro h
    have hx : ∃ j, (encL (s.take j)).length = k := by
      rcases h with h | ⟨j, _, _, h⟩
      · exact ⟨0, by simpa [encL] using (of_decide_eq_true h).symm⟩
      · exact ⟨j, h⟩
    obtain ⟨j, hj⟩ := hx
    have h1 : encL s = encL (s.take j) ++ encL (s.drop j) := by rw [← encL_app, List.take_append_drop]
    have h2 : (encL s).take k = encL (s.take j) := by rw [h1, List.take_left' hj]
    rw [h2, decF_enc (rightF_take s 0 j hr) (fun e he l k => by
      have := encL_mem he l k
      have h3 : (encL (s.take j)).length ≤ (encL s).length := by rw [h1, List.length_append]; omega
      omega)]
    rfl
def CutR (s : List Edit) (B : Bool) (ex : Ex) (st' : St) : Prop := ex = .exit 0 ∧ st'.df = none ∧ st'.env 5 = some (.bool true) ∧ st'.env 8 = some (.str (encL s)) ∧ st'.env 11 = some (.bool B)
set_option maxHeartbeats 1000000 in
theorem cuts_loop (s : List Edit) (hl : s.length ≤ 1099511627776) (hb : (encL s).length ≤ 1099511627776) (hr : rightB s = true) (k : Nat) : ∀ (n i : Nat) (j : Int) (b : Bool) (bx : Bx) (pm : Pm), j = i → i + n = s.length + 1 →
    Res (RunD Sy (.loop L6x0) ⟨ofL [(5, .bool true), (6, sE s), (8, .str (encL s)), (10, .int .i64 k), (11, .bool b), (12, .int .i64 j)], bx, pm, none⟩) fun ex st' => CutR s (cutA s k i n b) ex st' ∧ st'.env 10 = some (.int .i64 k)
  | 0, i, j, b, bx, pm, hj, hi => by
    subst hj
    have : ¬ (i : Int) ≤ s.length := by omega
    rw [RunD_loop]
    simp [L6x0, this]
    exact ⟨rfl, rfl, by simp, by simp, by simp [cutA]⟩
  | n + 1, i, j, b, bx, pm, hj, hi => by
    subst hj
    have hle : (i : Int) ≤ s.length := by omega
    have hle2 : i ≤ s.length := by omega
    have hc := chk_i64 ((i : Int) + 1) (by omega)
    have happ : encL (s.take i) ++ encL (s.drop i) = encL s := by rw [← encL_app, List.take_append_drop]
    have hln : (encL (s.take i)).length + (encL (s.drop i)).length = (encL s).length := by rw [← List.length_append, happ]
    have e1 : Den Sy 14 [.sl 3 ((s.map eE).take i) .no] = some (.tup [.str (encL (s.take i)), .int .i64 0]) := by
      rw [← List.map_take]
      have := encode_den (s.take i) (by rw [List.length_take]; omega) (by omega)
      rw [if_pos (show rightB (s.take i) = true from rightF_take s 0 i hr)] at this
      exact this
    have e2 : Den Sy 14 [.sl 3 ((s.map eE).drop i) .no] = some (.tup [.str (encL (s.drop i)), .int .i64 0]) := by
      rw [← List.map_drop]
      have := encode_den (s.drop i) (by rw [List.length_drop]; omega) (by omega)
      rw [if_pos (rightF_drop s 0 i hr)] at this
      exact this
    have hsz : (encL (s.take i)).length + (encL (s.drop i)).length ≤ 9223372036854775807 := by omega
    have htk : List.take s.length (s.map eE) = s.map eE := List.take_of_length_le (by simp)
    refine loop_step fun K hK => ?_
    simp only [cutA]
    cases b with
    | true =>
      simp [L6x0, hle, hc, e1, e2, hsz, happ, htk]
      rw [hK]
      exact cuts_loop s hl hb hr k n (i + 1) ((i : Int) + 1) true _ _ (by simp) (by omega)
    | false =>
      have hdq : decide (((encL (s.take i)).length : Int) = k) = decide ((encL (s.take i)).length = k) := by simp [Int.ofNat_inj]
      simp [L6x0, hle, hc, e1, e2, hsz, happ, htk]
      rw [hK, hdq]
      exact cuts_loop s hl hb hr k n (i + 1) ((i : Int) + 1) (decide ((encL (s.take i)).length = k)) _ _ (by simp) (by omega)
set_option maxHeartbeats 2000000 in
set_option maxRecDepth 20000 in
theorem cuts_den (raw : List Int) (at_ : Int) (h1 : ∀ c ∈ raw, inR c) (h2 : inR at_) : Den Sy 6 [iS raw, .int .i64 at_] = some (.bool true) := by
  rw [Den_fun Sy (af := A6) rfl rfl _ rfl]
  have s1 := script_den raw [] h1 (by simp)
  simp only [iS, List.map_nil] at s1
  have r1 := scriptF_right raw
  obtain ⟨b1, l1⟩ := script_enc raw
  have n1 := (script_many raw 1 2).2.2
  generalize scriptF raw = s at s1 r1 b1 l1 n1
  have e1 := encode_den s (by omega) (by omega)
  rw [if_pos r1] at e1
  have hc := chk_i64 (((encL s).length : Int) + 1) (by omega)
  have hp := pick_den at_ ((encL s).length + 1) h2 (by omega)
  obtain ⟨hp1, hp2⟩ := pickF_lt at_ (n := (encL s).length + 1) (by omega)
  obtain ⟨k, hk⟩ : ∃ k : Nat, pickF at_ ((encL s).length + 1) = k := ⟨(pickF at_ ((encL s).length + 1)).toNat, by omega⟩
  rw [hk] at hp hp1 hp2
  have hkl : k ≤ (encL s).length := by omega
  have hkl' : (k : Int) ≤ (encL s).length := by omega
  obtain ⟨ex, st', hL, ⟨rfl, hdf, q5, q8, q11⟩, q10⟩ := cuts_loop s (by omega) (by omega) r1 k (s.length + 1) 0 0 (decide (k = 0)) (ofL []) none' rfl (by omega)
  have dx := decode_den ((encL s).take k) (by rw [List.length_take]; omega)
  have hci := cut_iff r1 (by omega) hkl
  rw [← hci] at q11
  cases hd : decF ((encL s).take k) with
  | none =>
    rw [hd] at dx q11
    by_cases hk0 : k = 0
    · subst hk0
      have hz : ((0 : Nat) : Int) = 0 := rfl
      simp only [decide_true, hz, List.take_zero] at hL q10 hp dx
      simp [A6, awake_den, s1, e1, hc, hp, hL, hdf, q5, q8, q11, q10, dx]
    · simp only [hk0, decide_false] at hL
      simp [A6, awake_den, s1, e1, hc, hp, hk0, hL, hdf, q5, q8, q11, q10, dx, hkl']
  | some d =>
    rw [hd] at dx q11
    by_cases hk0 : k = 0
    · subst hk0
      have hz : ((0 : Nat) : Int) = 0 := rfl
      simp only [decide_true, hz, List.take_zero] at hL q10 hp dx
      simp [A6, awake_den, s1, e1, hc, hp, hL, hdf, q5, q8, q11, q10, dx]
    · simp only [hk0, decide_false] at hL
      simp [A6, awake_den, s1, e1, hc, hp, hk0, hL, hdf, q5, q8, q11, q10, dx, hkl']
end Go.Proofs.YtdcgldhhdajocaaDoor.Rx
