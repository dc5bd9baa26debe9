/-
  The script's laws, plain: the document's functions, and ScriptTells.
-/
import Derived.Test.YtdcgldhhdajocaaDoorRxPa
import Derived.Test.YtdcgldhhdajocaaDoorRxY2
namespace Go.Proofs.YtdcgldhhdajocaaDoor.Rx
open Go
set_option linter.unusedSimpArgs false
set_option linter.unusedVariables false
attribute [simp] eqv

set_option maxHeartbeats 2000000 in
set_option maxRecDepth 20000 in
theorem fits_law_den (raw lines : List Int) (n : Int) (hr : ∀ c ∈ raw, inR c) (hl : ∀ c ∈ lines, inR c) (hn : inR n) : Den Sy 9 [iS raw, iS lines, .int .i64 n] = some (.bool true) := by
  rw [Den_fun Sy (af := A9) rfl rfl _ rfl]
  have hsd := script_den raw [] hr (by simp)
  have hsr := scriptF_right raw
  obtain ⟨hm1, hm2, hlen⟩ := script_many raw 1 2
  have hp := pick_den n 30 hn (by omega)
  obtain ⟨hp1, hp2⟩ := pickF_lt n (n := 30) (by omega)
  obtain ⟨m, hm⟩ : ∃ m : Nat, pickF n 30 = m := ⟨(pickF n 30).toNat, by omega⟩
  rw [hm] at hp hp1 hp2
  have hf := full_den lines hl m (by omega)
  have hal : (fullF lines m).length = m := by rw [fullF, fullG_len]
  generalize fullF lines m = a at hf hal
  generalize fullF [] (many 1 2 (scriptF raw)).toNat = a0 at hsd
  generalize scriptF raw = s at hsd hsr hm1 hm2 hlen
  have d1 := apply_den s (by omega) a
  have d2 := invert_den s (by omega) a (by omega)
  have d5 := spans_den s (by omega)
  have d9 := right_den s (by omega)
  simp only [spansF, hsr, if_true] at d5 d9
  simp only [iS, List.map_nil] at hsd
  by_cases h : many 1 2 s = a.length
  · have f1 : fitsF s a.length = 0 := by simp [fitsF, hsr, h]
    rw [f1] at d1 d2
    simp only [applyF, f1, if_true, applyA_map] at d1 d2
    rw [h] at d5
    simp [A9, awake_den, hsd, hp, hf, d1, d2, d5, d9]
  · have f1 : fitsF s a.length = 11 := by simp [fitsF, hsr, h]
    rw [f1] at d1 d2
    simp only [applyF, f1, show ¬ (11 : Int) = 0 by decide, if_false] at d1 d2
    simp [A9, awake_den, hsd, hp, hf, d1, d2, d5, d9, eq_false h]
end Go.Proofs.YtdcgldhhdajocaaDoor.Rx
namespace Go.Proofs.YtdcgldhhdajocaaDoor.Rx
open Go
set_option linter.unusedSimpArgs false
set_option linter.unusedVariables false
attribute [simp] extreme foldI

theorem kindF_len (j : Int) : (kindF j).length ≤ 4 := by
  unfold kindF
  generalize j.toNat = k
  match k with
  | 0 => decide
  | 1 => decide
  | 2 => decide
  | 3 => decide
  | 4 => decide
  | n + 5 => exact Nat.zero_le _
theorem fullG_small (raw : List Int) : ∀ (n i : Nat), ∀ l ∈ fullG raw i n, l.length ≤ 4
  | 0, _, l, h => by simp [fullG] at h
  | n + 1, i, l, h => by
    rcases List.mem_cons.1 h with rfl | h
    · exact kindF_len _
    · exact fullG_small raw n (i + 1) l h
theorem scriptG_ls : ∀ (k : Nat) (r : List Int) (last : Int), ∀ e ∈ scriptG k r last, ∀ l ∈ e.ls, l.length ≤ 4
  | 0, _, _, e, he => by simp [scriptG] at he
  | _ + 1, [], _, e, he => by simp [scriptG] at he
  | k + 1, c :: r, last, e, he => by
    unfold scriptG at he
    split at he
    · exact scriptG_ls k r last e he
    · rcases List.mem_cons.1 he with rfl | he
      · intro l hl
        simp only [mkE] at hl
        split at hl
        · exact fullG_small _ _ _ l hl
        · simp at hl
      · exact scriptG_ls k r _ e he
theorem scriptF_ls (raw : List Int) : ∀ e ∈ scriptF raw, ∀ l ∈ e.ls, l.length ≤ 4 := scriptG_ls 10 raw 0
theorem encLs_le : ∀ (ls : List (List UInt8)), (∀ l ∈ ls, l.length ≤ 4) → (encLs ls).length ≤ 26 * ls.length
  | [], _ => by simp [encLs]
  | l :: ls, h => by
    have h1 := h l (by simp)
    have h2 := encLs_le ls (fun x hx => h x (List.mem_cons_of_mem _ hx))
    have h3 := itoa_len l.length ⟨by omega, by omega⟩
    have e : (encLs (l :: ls)).length = (Lib.itoa l.length).length + 1 + l.length + (encLs ls).length := by simp [encLs, encLine]; omega
    rw [e, List.length_cons]
    omega
theorem encE_le {e : Edit} (hm : mayB e = true) (h4 : e.n ≤ 4) (hl : ∀ l ∈ e.ls, l.length ≤ 4) : (encE e).length ≤ 127 := by
  obtain ⟨hop, hn1, hn2, hn3, hn4⟩ := mayB_op hm
  have h1 := encLs_le e.ls hl
  have h2 : e.ls.length ≤ 4 := by
    by_cases h3 : e.op = 3
    · have := hn3 h3; omega
    · rw [hn4 h3]; simp
  have h3 := itoa_len e.n ⟨by omega, by omega⟩
  have h5 : (sgn e.op).length = 1 := by unfold sgn; split <;> (try split) <;> rfl
  simp only [encE, encHead, List.length_append, List.length_cons, List.length_nil, h5]
  omega
theorem encL_le : ∀ {s : List Edit}, (∀ e ∈ s, mayB e = true ∧ e.n ≤ 4 ∧ ∀ l ∈ e.ls, l.length ≤ 4) → (encL s).length ≤ 127 * s.length
  | [], _ => by simp [encL]
  | e :: s, h => by
    have h1 := encL_le (s := s) (fun x hx => h x (List.mem_cons_of_mem _ hx))
    obtain ⟨k1, k2, k3⟩ := h e (by simp)
    have h2 := encE_le k1 k2 k3
    have e1 : encL (e :: s) = encE e ++ encL s := by simp [encL]
    rw [e1, List.length_append, List.length_cons]
    omega
theorem script_enc (raw : List Int) : (encL (scriptF raw)).length ≤ 1270 ∧ ∀ e ∈ scriptF raw, ∀ l ∈ e.ls, l.length ≤ 9223372036854775807 := by
  have h1 := rightF_may (scriptF_right raw)
  have h2 := scriptG_small 10 raw 0
  have h3 := scriptF_ls raw
  have h4 := (script_many raw 1 2).2.2
  have h := encL_le (s := scriptF raw) (fun e he => ⟨h1 e he, h2 e he, h3 e he⟩)
  exact ⟨by omega, fun e he l hl => Nat.le_trans (h3 e he l hl) (by decide)⟩
theorem small_ls {s : List Edit} (hm : ∀ e ∈ s, mayB e = true) : ∀ e ∈ s, e.ls.length ≤ 1099511627776 := by
  intro e he
  obtain ⟨hop, hn1, hn2, hn3, hn4⟩ := mayB_op (hm e he)
  by_cases h3 : e.op = 3
  · have := hn3 h3; omega
  · rw [hn4 h3]; simp
theorem decF_len {t : List UInt8} {s : List Edit} (h : decF t = some s) : s.length ≤ t.length := by
  unfold decF at h
  split at h
  · rename_i s' hs
    split at h
    · simp only [Option.some.injEq] at h
      subst h
      exact decL_len hs
    · simp at h
  · simp at h
set_option maxHeartbeats 2000000 in
set_option maxRecDepth 20000 in
theorem forms_den (one two : List Int) (t : List UInt8) (h1 : ∀ c ∈ one, inR c) (h2 : ∀ c ∈ two, inR c) (ht : t.length ≤ maxLen) : Den Sy 5 [iS one, iS two, .str t] = some (.bool true) := by
  rw [Den_fun Sy (af := A5) rfl rfl _ rfl]
  have ht' : t.length ≤ 9223372036854775807 := Nat.le_trans ht (by decide)
  have s1 := script_den one [] h1 (by simp)
  have s2 := script_den two [] h2 (by simp)
  simp only [iS, List.map_nil] at s1 s2
  have r1 := scriptF_right one
  have r2 := scriptF_right two
  obtain ⟨b1, l1⟩ := script_enc one
  obtain ⟨b2, l2⟩ := script_enc two
  have n1 := (script_many one 1 2).2.2
  have n2 := (script_many two 1 2).2.2
  have e1 := encode_den (scriptF one) (by omega) (by omega)
  have e2 := encode_den (scriptF two) (by omega) (by omega)
  have d1 := decode_den (encL (scriptF one)) (by omega)
  rw [decF_enc r1 l1] at d1
  have m1 := same_den (scriptF one) (scriptF one) (by omega) (small_ls (rightF_may r1))
  have m2 := same_den (scriptF one) (scriptF two) (by omega) (small_ls (rightF_may r1))
  simp only [r1, r2, if_true, decide_true] at e1 e2 m1
  have hiff : decide (encL (scriptF one) = encL (scriptF two)) = decide (scriptF one = scriptF two) := by
    by_cases h : scriptF one = scriptF two
    · simp [h]
    · have : ¬ encL (scriptF one) = encL (scriptF two) := fun k => h (by
        have a := decF_enc r1 l1
        rw [k, decF_enc r2 l2] at a
        exact (Option.some.inj a).symm)
      simp [h, this]
  have key : ∀ x : List UInt8, x.length ≤ 100 → (∃ d, decF x = some d ∧ Den Sy 28 [.str x] = some (.tup [sE d, .int .i64 0]) ∧ Den Sy 14 [sE d] = some (.tup [.str x, .int .i64 0]) ∧ Den Sy 16 [sE d] = some (.bool true)) ∨ (decF x = none ∧ Den Sy 28 [.str x] = some (.tup [.sl 3 [] .no, .int .i64 11])) := by
    intro x hxl
    have dx := decode_den x (by omega)
    cases hd : decF x with
    | none =>
      rw [hd] at dx
      exact .inr ⟨rfl, dx⟩
    | some d =>
      rw [hd] at dx
      obtain ⟨k1, k2⟩ := decF_eq hd
      have k3 := decF_len hd
      have e3 := encode_den d (by omega) (by rw [← k1]; omega)
      have r3 := right_den d (by omega)
      rw [if_pos k2, ← k1] at e3
      rw [k2] at r3
      exact .inl ⟨d, rfl, dx, e3, r3⟩
  by_cases hlt : (100 : Int) < t.length
  · have hle : (100 : Int) ≤ t.length := by omega
    rcases key (t.take 100) (by rw [List.length_take]; omega) with ⟨d, _, k1, k2, k3⟩ | ⟨_, k1⟩
    · simp [A5, awake_den, s1, s2, e1, e2, d1, m1, m2, hiff, hlt, hle, k1, k2, k3]
    · simp [A5, awake_den, s1, s2, e1, e2, d1, m1, m2, hiff, hlt, hle, k1]
  · rcases key t (by omega) with ⟨d, _, k1, k2, k3⟩ | ⟨_, k1⟩
    · simp [A5, awake_den, s1, s2, e1, e2, d1, m1, m2, hiff, hlt, k1, k2, k3]
    · simp [A5, awake_den, s1, s2, e1, e2, d1, m1, m2, hiff, hlt, k1]
end Go.Proofs.YtdcgldhhdajocaaDoor.Rx
namespace Go.Proofs.YtdcgldhhdajocaaDoor.Rx
open Go
set_option linter.unusedSimpArgs false
set_option linter.unusedVariables false

theorem encL_app (a b : List Edit) : encL (a ++ b) = encL a ++ encL b := by simp [encL]
theorem encL_cons (e : Edit) (s : List Edit) : encL (e :: s) = encE e ++ encL s := by simp [encL]
theorem encLs_mem : ∀ {ls : List (List UInt8)} {l : List UInt8}, l ∈ ls → l.length ≤ (encLs ls).length
  | x :: ls, l, h => by
    have e : (encLs (x :: ls)).length = (Lib.itoa x.length).length + 1 + x.length + (encLs ls).length := by simp [encLs, encLine]; omega
    rw [e]
    rcases List.mem_cons.1 h with rfl | h
    · omega
    · have := encLs_mem h; omega
theorem encL_mem : ∀ {s : List Edit} {e : Edit}, e ∈ s → ∀ l ∈ e.ls, l.length ≤ (encL s).length
  | x :: s, e, h, l, hl => by
    have e1 : (encL (x :: s)).length = (encHead x).length + (encLs x.ls).length + (encL s).length := by simp only [encL_cons, encE, List.length_append]
    rw [e1]
    rcases List.mem_cons.1 h with rfl | h
    · have := encLs_mem hl; omega
    · have := encL_mem h l hl; omega
theorem pre_code : ∀ (d s : List Edit) (r : List UInt8), (∀ e ∈ d, mayB e = true) → (∀ e ∈ s, mayB e = true) → (encL s).length ≤ 9223372036854775807 → encL d ++ r = encL s → ∃ i, i ≤ s.length ∧ d = s.take i
  | [], s, r, _, _, _, _ => ⟨0, Nat.zero_le _, rfl⟩
  | e :: d, [], r, _, _, _, h => by
    obtain ⟨c, u, hc⟩ := encE_pos e
    rw [encL_cons, hc] at h
    simp [encL] at h
  | e :: d, f :: s, r, hd, hs, hl, h => by
    have hlen : (encL (e :: d)).length + r.length = (encL (f :: s)).length := by rw [← h, List.length_append]
    have h1 := editF_enc e (hd e (by simp)) (fun l k => by have := encL_mem (s := e :: d) (by simp) l k; omega) (encL d ++ r)
    have h2 := editF_enc f (hs f (by simp)) (fun l k => by have := encL_mem (s := f :: s) (by simp) l k; omega) (encL s)
    rw [encL_cons, encL_cons, List.append_assoc] at h
    rw [h, h2] at h1
    simp only [Option.some.injEq, Prod.mk.injEq] at h1
    obtain ⟨rfl, h3⟩ := h1
    have hl2 : (encL s).length ≤ 9223372036854775807 := by
      rw [encL_cons, List.length_append] at hl
      omega
    obtain ⟨i, hi, rfl⟩ := pre_code d s r (fun x hx => hd x (List.mem_cons_of_mem _ hx)) (fun x hx => hs x (List.mem_cons_of_mem _ hx)) hl2 h3.symm
    exact ⟨i + 1, by simp; omega, rfl⟩
theorem rightF_take : ∀ (s : List Edit) (last : Int) (i : Nat), rightF last s = true → rightF last (s.take i) = true
  | [], last, i, h => by simp [rightF]
  | e :: s, last, 0, h => rfl
  | e :: s, last, i + 1, h => by
    obtain ⟨h1, h2, h3, h4⟩ := rightF_cons h
    rw [List.take_succ_cons]
    exact rightF_mk h1 h2 h3 (rightF_take s e.op i h4)
theorem rightB_of : ∀ {s : List Edit} {last : Int}, rightF last s = true → rightB s = true
  | [], _, _ => rfl
  | e :: s, last, h => by
    obtain ⟨h1, h2, h3, h4⟩ := rightF_cons h
    have := (mayB_op h1).1
    exact rightF_mk h1 (by omega) (by omega) h4
theorem rightF_drop : ∀ (s : List Edit) (last : Int) (i : Nat), rightF last s = true → rightB (s.drop i) = true
  | [], last, i, h => by simp [rightB, rightF]
  | e :: s, last, 0, h => rightB_of h
  | e :: s, last, i + 1, h => rightF_drop s e.op i (rightF_cons h).2.2.2
/-- Whether one of the heads, from the i-th on, has just so many bytes. -/
def cutA (s : List Edit) (k : Nat) : Nat → Nat → Bool → Bool
  | _, 0, b => b
  | i, n + 1, b => cutA s k (i + 1) n (b || decide ((encL (s.take i)).length = k))
theorem cutA_iff (s : List Edit) (k : Nat) : ∀ (n i : Nat) (b : Bool), cutA s k i n b = true ↔ b = true ∨ ∃ j, i ≤ j ∧ j < i + n ∧ (encL (s.take j)).length = k
  | 0, i, b => by
    simp only [cutA]
    constructor
    · exact .inl
    · rintro (h | ⟨j, h1, h2, _⟩)
      · exact h
      · omega
  | n + 1, i, b => by
    simp only [cutA, cutA_iff s k n (i + 1), Bool.or_eq_true, decide_eq_true_eq]
    constructor
    · rintro ((h | h) | ⟨j, h1, h2, h3⟩)
      · exact .inl h
      · exact .inr ⟨i, Nat.le_refl _, by omega, h⟩
      · exact .inr ⟨j, by omega, by omega, h3⟩
    · rintro (h | ⟨j, h1, h2, h3⟩)
      · exact .inl (.inl h)
      · by_cases hj : j = i
        · subst hj; exact .inl (.inr h3)
        · exact .inr ⟨j, by omega, by omega, h3⟩
theorem cut_iff {s : List Edit} (hr : rightB s = true) (hl : (encL s).length ≤ 9223372036854775807) {k : Nat} (hk : k ≤ (encL s).length) : (decF ((encL s).take k)).isSome = cutA s k 0 (s.length + 1) (decide (k = 0)) := by
  have hm := rightF_may hr
  rw [Bool.eq_iff_iff, cutA_iff]
  constructor
  · intro h
    obtain ⟨d, hd⟩ := Option.isSome_iff_exists.1 h
    obtain ⟨h1, h2⟩ := decF_eq hd
    have h3 : encL d ++ (encL s).drop k = encL s := by rw [← h1, List.take_append_drop]
    obtain ⟨i, hi, rfl⟩ := pre_code d s _ (rightF_may h2) hm hl h3
    refine .inr ⟨i, Nat.zero_le _, by omega, ?_⟩
    rw [← h1, List.length_take]
    omega
  · intro h
    have hx : ∃ j, (encL (s.take j)).length = k := by
      rcases h with h | ⟨j, _, _, h⟩
      · exact ⟨0, by simpa [encL] using (of_decide_eq_true h).symm⟩
      · exact ⟨j, h⟩
    obtain ⟨j, hj⟩ := hx
    have h1 : encL s = encL (s.take j) ++ encL (s.drop j) := by rw [← encL_app, List.take_append_drop]
    have h2 : (encL s).take k = encL (s.take j) := by rw [h1, List.take_left' hj]
    rw [h2, decF_enc (rightF_take s 0 j hr) (fun e he l k => by
      have := encL_mem he l k
      have h3 : (encL (s.take j)).length ≤ (encL s).length := by rw [h1, List.length_append]; omega
      omega)]
    rfl
def CutR (s : List Edit) (B : Bool) (ex : Ex) (st' : St) : Prop := ex = .exit 0 ∧ st'.df = none ∧ st'.env 5 = some (.bool true) ∧ st'.env 8 = some (.str (encL s)) ∧ st'.env 11 = some (.bool B)
set_option maxHeartbeats 1000000 in
theorem cuts_loop (s : List Edit) (hl : s.length ≤ 1099511627776) (hb : (encL s).length ≤ 1099511627776) (hr : rightB s = true) (k : Nat) : ∀ (n i : Nat) (j : Int) (b : Bool) (bx : Bx) (pm : Pm), j = i → i + n = s.length + 1 →
    Res (RunD Sy (.loop L6x0) ⟨ofL [(5, .bool true), (6, sE s), (8, .str (encL s)), (10, .int .i64 k), (11, .bool b), (12, .int .i64 j)], bx, pm, none⟩) fun ex st' => CutR s (cutA s k i n b) ex st' ∧ st'.env 10 = some (.int .i64 k)
  | 0, i, j, b, bx, pm, hj, hi => by
    subst hj
    have : ¬ (i : Int) ≤ s.length := by omega
    rw [RunD_loop]
    simp [L6x0, this]
    exact ⟨rfl, rfl, by simp, by simp, by simp [cutA]⟩
  | n + 1, i, j, b, bx, pm, hj, hi => by
    subst hj
    have hle : (i : Int) ≤ s.length := by omega
    have hle2 : i ≤ s.length := by omega
    have hc := chk_i64 ((i : Int) + 1) (by omega)
    have happ : encL (s.take i) ++ encL (s.drop i) = encL s := by rw [← encL_app, List.take_append_drop]
    have hln : (encL (s.take i)).length + (encL (s.drop i)).length = (encL s).length := by rw [← List.length_append, happ]
    have e1 : Den Sy 14 [.sl 3 ((s.map eE).take i) .no] = some (.tup [.str (encL (s.take i)), .int .i64 0]) := by
      rw [← List.map_take]
      have := encode_den (s.take i) (by rw [List.length_take]; omega) (by omega)
      rw [if_pos (show rightB (s.take i) = true from rightF_take s 0 i hr)] at this
      exact this
    have e2 : Den Sy 14 [.sl 3 ((s.map eE).drop i) .no] = some (.tup [.str (encL (s.drop i)), .int .i64 0]) := by
      rw [← List.map_drop]
      have := encode_den (s.drop i) (by rw [List.length_drop]; omega) (by omega)
      rw [if_pos (rightF_drop s 0 i hr)] at this
      exact this
    have hsz : (encL (s.take i)).length + (encL (s.drop i)).length ≤ 9223372036854775807 := by omega
    have htk : List.take s.length (s.map eE) = s.map eE := List.take_of_length_le (by simp)
    refine loop_step fun K hK => ?_
    simp only [cutA]
    cases b with
    | true =>
      simp [L6x0, hle, hc, e1, e2, hsz, happ, htk]
      rw [hK]
      exact cuts_loop s hl hb hr k n (i + 1) ((i : Int) + 1) true _ _ (by simp) (by omega)
    | false =>
      have hdq : decide (((encL (s.take i)).length : Int) = k) = decide ((encL (s.take i)).length = k) := by simp [Int.ofNat_inj]
      simp [L6x0, hle, hc, e1, e2, hsz, happ, htk]
      rw [hK, hdq]
      exact cuts_loop s hl hb hr k n (i + 1) ((i : Int) + 1) (decide ((encL (s.take i)).length = k)) _ _ (by simp) (by omega)
set_option maxHeartbeats 2000000 in
set_option maxRecDepth 20000 in
theorem cuts_den (raw : List Int) (at_ : Int) (h1 : ∀ c ∈ raw, inR c) (h2 : inR at_) : Den Sy 6 [iS raw, .int .i64 at_] = some (.bool true) := by
  rw [Den_fun Sy (af := A6) rfl rfl _ rfl]
  have s1 := script_den raw [] h1 (by simp)
  simp only [iS, List.map_nil] at s1
  have r1 := scriptF_right raw
  obtain ⟨b1, l1⟩ := script_enc raw
  have n1 := (script_many raw 1 2).2.2
  generalize scriptF raw = s at s1 r1 b1 l1 n1
  have e1 := encode_den s (by omega) (by omega)
  rw [if_pos r1] at e1
  have hc := chk_i64 (((encL s).length : Int) + 1) (by omega)
  have hp := pick_den at_ ((encL s).length + 1) h2 (by omega)
  obtain ⟨hp1, hp2⟩ := pickF_lt at_ (n := (encL s).length + 1) (by omega)
  obtain ⟨k, hk⟩ : ∃ k : Nat, pickF at_ ((encL s).length + 1) = k := ⟨(pickF at_ ((encL s).length + 1)).toNat, by omega⟩
  rw [hk] at hp hp1 hp2
  have hkl : k ≤ (encL s).length := by omega
  have hkl' : (k : Int) ≤ (encL s).length := by omega
  obtain ⟨ex, st', hL, ⟨rfl, hdf, q5, q8, q11⟩, q10⟩ := cuts_loop s (by omega) (by omega) r1 k (s.length + 1) 0 0 (decide (k = 0)) (ofL []) none' rfl (by omega)
  have dx := decode_den ((encL s).take k) (by rw [List.length_take]; omega)
  have hci := cut_iff r1 (by omega) hkl
  rw [← hci] at q11
  cases hd : decF ((encL s).take k) with
  | none =>
    rw [hd] at dx q11
    by_cases hk0 : k = 0
    · subst hk0
      have hz : ((0 : Nat) : Int) = 0 := rfl
      simp only [decide_true, hz, List.take_zero] at hL q10 hp dx
      simp [A6, awake_den, s1, e1, hc, hp, hL, hdf, q5, q8, q11, q10, dx]
    · simp only [hk0, decide_false] at hL
      simp [A6, awake_den, s1, e1, hc, hp, hk0, hL, hdf, q5, q8, q11, q10, dx, hkl']
  | some d =>
    rw [hd] at dx q11
    by_cases hk0 : k = 0
    · subst hk0
      have hz : ((0 : Nat) : Int) = 0 := rfl
      simp only [decide_true, hz, List.take_zero] at hL q10 hp dx
      simp [A6, awake_den, s1, e1, hc, hp, hL, hdf, q5, q8, q11, q10, dx]
    · simp only [hk0, decide_false] at hL
      simp [A6, awake_den, s1, e1, hc, hp, hk0, hL, hdf, q5, q8, q11, q10, dx, hkl']
end Go.Proofs.YtdcgldhhdajocaaDoor.Rx
namespace Go.Proofs.YtdcgldhhdajocaaDoor.Rx
open Go
set_option linter.unusedSimpArgs false
set_option linter.unusedVariables false

theorem dig_slice : ∀ u : Nat, u < 10 → (([48, 49, 50, 51, 52, 53, 54, 55, 56, 57] : List UInt8).take (u + 1)).drop u = [UInt8.ofNat (48 + u)]
  | 0, _ => rfl
  | 1, _ => rfl
  | 2, _ => rfl
  | 3, _ => rfl
  | 4, _ => rfl
  | 5, _ => rfl
  | 6, _ => rfl
  | 7, _ => rfl
  | 8, _ => rfl
  | 9, _ => rfl
  | n + 10, h => by omega
theorem decDigits_len (u : Nat) (h : u ≤ 9223372036854775807) : (Lib.decDigits u).length ≤ 21 := by
  have := itoa_len u ⟨by omega, by omega⟩
  rwa [itoa_nn (by omega), Int.toNat_natCast] at this
theorem digits_den : ∀ u : Nat, u ≤ 9223372036854775807 → Den Sy 30 [.int .i64 u] = some (.str (Lib.decDigits u)) := by
  intro u
  induction u using Nat.strongRecOn with
  | _ u ih =>
    intro hu
    rw [Den_fun Sy (af := A30) rfl rfl _ rfl]
    by_cases h : u < 10
    · have h' : (u : Int) < 10 := by omega
      have hc := chk_i64 ((u : Int) + 1) (by omega)
      have hs := dig_slice u h
      have h9 : (u : Int) + 1 ≤ 10 := by omega
      have hle : (u : Int) ≤ u + 1 := by omega
      rw [Lib.decDigits, dif_pos h]
      simp [A30, h', hc, h9, hle]
      simpa using hs
    · have h' : ¬ (u : Int) < 10 := by omega
      have i1 := ih (u / 10) (by omega) (by omega)
      have i2 := ih (u % 10) (by omega) (by omega)
      have q1 : (u : Int).tdiv 10 = ((u / 10 : Nat) : Int) := by rw [Int.tdiv_eq_ediv_of_nonneg (by omega)]; rfl
      have q2 : (u : Int).tmod 10 = ((u % 10 : Nat) : Int) := by rw [Int.tmod_eq_emod_of_nonneg (by omega)]; rfl
      have hc := chk_i64 ((u / 10 : Nat) : Int) (by omega)
      have l1 := decDigits_len (u / 10) (by omega)
      have l2 := decDigits_len (u % 10) (by omega)
      have hl : (Lib.decDigits (u / 10)).length + (Lib.decDigits (u % 10)).length ≤ 9223372036854775807 := by omega
      have e : Lib.decDigits u = Lib.decDigits (u / 10) ++ Lib.decDigits (u % 10) := by
        rw [Lib.decDigits, dif_neg h]
        congr 1
        rw [Lib.decDigits, dif_pos (by omega)]
      rw [e]
      simp only [Int.natCast_ediv, Int.natCast_emod, show ((10 : Nat) : Int) = 10 from rfl] at q1 q2 hc i1 i2
      simp [A30, h', q1, q2, hc, i1, i2, hl]
theorem decDigits_zero : ∀ (u : Nat) (r : List UInt8), Lib.decDigits u = 48 :: r → u = 0 ∧ r = [] := by
  intro u
  induction u using Nat.strongRecOn with
  | _ u ih =>
    intro r h
    rw [Lib.decDigits] at h
    by_cases hu : u < 10
    · rw [dif_pos hu] at h
      simp only [List.cons.injEq] at h
      have := congrArg UInt8.toNat h.1
      rw [dig_toNat u hu] at this
      have h48 : (48 : UInt8).toNat = 48 := rfl
      exact ⟨by omega, h.2.symm⟩
    · rw [dif_neg hu] at h
      cases hd : Lib.decDigits (u / 10) with
      | nil => exact absurd hd (decDigits_ne _)
      | cons c l =>
        rw [hd, List.cons_append] at h
        simp only [List.cons.injEq] at h
        obtain ⟨rfl, _⟩ := h
        have := (ih (u / 10) (by omega) l hd).1
        omega
theorem decF_none {c : UInt8} {r : List UInt8} (h : editF (c :: r) = none) : decF (c :: r) = none := by
  unfold decF
  have : decL (c :: r).length (c :: r) = none := by simp only [List.length_cons, decL, h]
  rw [this]
theorem editF_none {c : UInt8} {r : List UInt8} (h : numF 59 r = none) : editF (c :: r) = none := by
  simp only [editF, h]
  split <;> rfl
theorem idx_pos {l : List UInt8} (h : ∀ c ∈ l, 48 ≤ c.toNat ∧ c.toNat ≤ 57) (r : List UInt8) : Lib.indexByte (l ++ 59 :: r) 59 = l.length := by
  refine idx_app _ _ _ fun k => ?_
  have := h _ k
  have h59 : (59 : UInt8).toNat = 59 := rfl
  omega
theorem num_zero (k : Nat) : numF 59 (48 :: (Lib.decDigits k ++ [59])) = none := by
  have hi : Lib.indexByte (48 :: Lib.decDigits k ++ [59]) 59 = (48 :: Lib.decDigits k).length := idx_pos (fun c hc => by
    rcases List.mem_cons.1 hc with rfl | hc
    · decide
    · exact decDigits_dig k c hc) []
  rw [List.cons_append] at hi
  unfold numF
  rw [hi, if_pos (by simp)]
  have ht : (48 :: (Lib.decDigits k ++ [59])).take ((48 :: Lib.decDigits k).length : Int).toNat = 48 :: Lib.decDigits k := by
    simp
  rw [ht]
  split
  · rename_i v _
    rw [if_neg]
    rintro ⟨h0, h1⟩
    rw [itoa_nn h0] at h1
    exact decDigits_ne k (decDigits_zero _ _ h1).2
  · rfl
theorem long_one (c : UInt8) (o : Int) (ho : o = 1 ∨ o = 2) (hc : opF c = o) (k : Nat) (hk : k ≤ 1048580) (hk1 : 1 ≤ k) :
    decF (c :: (Lib.decDigits k ++ [59])) = (if k ≤ 1048576 then some [⟨o, k, []⟩] else none) ∧ (encL [⟨o, k, []⟩] = c :: (Lib.decDigits k ++ [59])) ∧ rightB [⟨o, k, []⟩] = decide (k ≤ 1048576) := by
  have hs := opF_sgn c (by omega)
  rw [hc] at hs
  have he : encL [⟨o, k, []⟩] = c :: (Lib.decDigits k ++ [59]) := by
    simp [encL, encE, encHead, encLs, hs.1, itoa_nn (show 0 ≤ (k : Int) by omega)]
  have hr : rightB [⟨o, k, []⟩] = decide (k ≤ 1048576) := by
    have h1 : ¬ o = 0 := by omega
    have h2 : ((1 : Int) ≤ k ∧ (k : Int) ≤ 1048576) ↔ k ≤ 1048576 := by omega
    simp only [rightB, rightF, mayB, h1, ho, h2, if_true]
    simp [h1]
  refine ⟨?_, he, hr⟩
  by_cases h : k ≤ 1048576
  · rw [if_pos h, ← he]
    exact decF_enc (by rw [hr]; simpa using h) (by simp)
  · rw [if_neg h]
    refine decF_none ?_
    have hn := numF_itoa 59 (by decide) (n := k) (by omega) (by omega) []
    rw [itoa_nn (by omega), Int.toNat_natCast] at hn
    simp only [editF, hn]
    rw [if_pos (by omega), if_neg (by omega)]
theorem long_zero (c : UInt8) (o : Int) (ho : o = 1 ∨ o = 2) (hc : opF c = o) : decF [c, 48, 59] = none := by
  have hn := numF_itoa 59 (by decide) (n := 0) (by omega) (by omega) []
  have hz : Lib.itoa 0 ++ [59] = [48, 59] := by
    rw [itoa_nn (by decide), Lib.decDigits, dif_pos (by decide)]
    rfl
  rw [hz] at hn
  have he : editF [c, 48, 59] = some (⟨o, 0, []⟩, []) := by
    simp only [editF, hn, hc]
    rw [if_pos (by omega), if_pos (by decide), if_neg (by omega)]
  have hd : decL 3 [c, 48, 59] = some [⟨o, 0, []⟩] := by
    simp only [decL, he]
    rfl
  unfold decF
  simp only [List.length_cons, List.length_nil, hd]
  rw [if_neg]
  simp [rightB, rightF, mayB]
theorem long_nines (c : UInt8) : decF (c :: [57, 57, 57, 57, 57, 57, 57, 57, 57, 57, 57, 57, 57, 57, 57, 57, 57, 57, 57, 57, 59]) = none := by
  refine decF_none (editF_none ?_)
  have h1 : Lib.indexByte [57, 57, 57, 57, 57, 57, 57, 57, 57, 57, 57, 57, 57, 57, 57, 57, 57, 57, 57, 57, 59] 59 = 20 := by decide
  have h2 : Lib.atoiAll (([57, 57, 57, 57, 57, 57, 57, 57, 57, 57, 57, 57, 57, 57, 57, 57, 57, 57, 57, 57, 59] : List UInt8).take ((20 : Int).toNat)) = .range := by decide
  unfold numF
  rw [h1, if_pos (by decide), h2]
def longX (o : Int) (k : Nat) : AV := .agg [.int .i64 o, .int .i64 k, .sl 1 [] .no]
theorem long_facts (c : UInt8) (o : Int) (ho : o = 1 ∨ o = 2) (hc : opF c = o) (k : Nat) (hk : k ≤ 1048580) (hk1 : 1 ≤ k) (D : List UInt8) (hD : Lib.decDigits k = D) :
    Den Sy 28 [.str (c :: 48 :: (D ++ [59]))] = some (.tup [.sl 3 [] .no, .int .i64 11]) ∧ Den Sy 28 [.str [c, 48, 59]] = some (.tup [.sl 3 [] .no, .int .i64 11]) ∧
    Den Sy 28 [.str (c :: [57, 57, 57, 57, 57, 57, 57, 57, 57, 57, 57, 57, 57, 57, 57, 57, 57, 57, 57, 57, 59])] = some (.tup [.sl 3 [] .no, .int .i64 11]) ∧
    (k ≤ 1048576 → Den Sy 28 [.str (c :: (D ++ [59]))] = some (.tup [.sl 3 [longX o k] .no, .int .i64 0]) ∧ Den Sy 14 [.sl 3 [longX o k] .no] = some (.tup [.str (c :: (D ++ [59])), .int .i64 0]) ∧
      Den Sy 26 [.sl 3 [longX o k] .no, .sl 3 [longX o k] .no] = some (.bool true) ∧ Den Sy 12 [.sl 3 [longX o k] .no] = some (.tup [.int .i64 k, .int .i64 (if o = 1 then k else 0)]) ∧ Den Sy 18 [.sl 3 [longX o k] .no] = some (.int .i64 (if o = 1 then 0 else k))) ∧
    (¬ k ≤ 1048576 → Den Sy 28 [.str (c :: (D ++ [59]))] = some (.tup [.sl 3 [] .no, .int .i64 11]) ∧ Den Sy 14 [.sl 3 [longX o k] .no] = some (.tup [.str [], .int .i64 1])) := by
  obtain ⟨h1, h2, h3⟩ := long_one c o ho hc k hk hk1
  have hl := decDigits_len k (by omega)
  subst hD
  have nil : sE [] = .sl 3 [] .no := rfl
  have one : sE [⟨o, k, []⟩] = .sl 3 [longX o k] .no := rfl
  refine ⟨?_, ?_, ?_, fun h => ⟨?_, ?_, ?_, ?_, ?_⟩, fun h => ⟨?_, ?_⟩⟩
  · rw [decode_den _ (by simp; omega), decF_none (editF_none (num_zero k))]
    rfl
  · rw [decode_den _ (by simp), long_zero c o ho hc]
    rfl
  · rw [decode_den _ (by simp), long_nines c]
    rfl
  · rw [decode_den _ (by simp; omega), h1, if_pos h]
    rfl
  · have := encode_den [⟨o, k, []⟩] (by simp) (by rw [h2]; simp; omega)
    rw [h3, h2, if_pos (by simpa using h)] at this
    exact this
  · have := same_den [⟨o, k, []⟩] [⟨o, k, []⟩] (by simp) (by simp)
    simp only [decide_true] at this
    exact this
  · have := spans_den [⟨o, k, []⟩] (by simp)
    simp only [spansF, h3, h, decide_true, if_true] at this
    rw [one] at this
    rw [this]
    rcases ho with rfl | rfl <;> simp [many]
  · have := cost_den [⟨o, k, []⟩] (by simp)
    simp only [costF, h3, h, decide_true, if_true] at this
    rw [one] at this
    rw [this]
    rcases ho with rfl | rfl <;> simp [many]
  · rw [decode_den _ (by simp; omega), h1, if_neg h]
    rfl
  · have := encode_den [⟨o, k, []⟩] (by simp) (by rw [h2]; simp; omega)
    rw [h3, if_neg (by simpa using h)] at this
    exact this
set_option maxHeartbeats 2000000 in
set_option maxRecDepth 20000 in
theorem long_den (n : Int) (cut : Bool) (hn : inR n) : Den Sy 7 [.int .i64 n, .bool cut] = some (.bool true) := by
  rw [Den_fun Sy (af := A7) rfl rfl _ rfl]
  have hp := pick_den n 9 hn (by omega)
  obtain ⟨hp1, hp2⟩ := pickF_lt n (n := 9) (by omega)
  obtain ⟨k, hk⟩ : ∃ k : Nat, 1048572 + pickF n 9 = k := ⟨(1048572 + pickF n 9).toNat, by omega⟩
  have hc : chk .i64 (1048572 + pickF n 9) = some (.int .i64 k) := by
    rw [hk]
    exact chk_i64 _ (by omega)
  have hd := digits_den k (by omega)
  have hl := decDigits_len k (by omega)
  generalize hD : Lib.decDigits k = D at hd hl
  have l1 : D.length + 1 ≤ 9223372036854775807 := by omega
  have l2 : D.length + 1 + 1 ≤ 9223372036854775807 := by omega
  have l3 : D.length + 1 + 1 + 1 ≤ 9223372036854775807 := by omega
  have l4 : 1 + D.length ≤ 9223372036854775807 := by omega
  have l5 : 2 + D.length ≤ 9223372036854775807 := by omega
  cases cut with
  | false =>
    obtain ⟨d1, d2, d3, d4, d5⟩ := long_facts 61 1 (.inl rfl) (by decide) k (by omega) (by omega) D hD
    by_cases h : k ≤ 1048576
    · obtain ⟨g1, g2, g3, g4, g5⟩ := d4 h
      have h' : ¬ (1048576 : Int) < k := by omega
      have hs := chk_i64 ((k : Int) - k) (by omega)
      rw [Int.sub_self] at hs
      have hk0 : ¬ (0 : Int) = k := by omega
      have hk00 : ¬ (k : Int) = 0 := by omega
      simp only [longX, if_true] at g1 g2 g3 g4 g5
      simp [A7, awake_den, hp, hc, hd, l1, l2, l3, l4, l5, d1, d2, d3, g1, g2, g3, g4, g5, h', hs, eq_false hk0, eq_false hk00]
    · obtain ⟨g1, g2⟩ := d5 h
      have h' : (1048576 : Int) < k := by omega
      simp only [longX] at g1 g2
      simp [A7, awake_den, hp, hc, hd, l1, l2, l3, l4, l5, d1, d2, d3, g1, g2, h']
  | true =>
    obtain ⟨d1, d2, d3, d4, d5⟩ := long_facts 45 2 (.inr rfl) (by decide) k (by omega) (by omega) D hD
    by_cases h : k ≤ 1048576
    · obtain ⟨g1, g2, g3, g4, g5⟩ := d4 h
      have h' : ¬ (1048576 : Int) < k := by omega
      have hs := chk_i64 ((k : Int) - 0) (by omega)
      rw [Int.sub_zero] at hs
      have hk0 : ¬ (0 : Int) = k := by omega
      have hk00 : ¬ (k : Int) = 0 := by omega
      simp only [longX, show ¬ (2 : Int) = 1 by decide, if_false] at g1 g2 g3 g4 g5
      simp [A7, awake_den, hp, hc, hd, l1, l2, l3, l4, l5, d1, d2, d3, g1, g2, g3, g4, g5, h', hs, eq_false hk0, eq_false hk00]
    · obtain ⟨g1, g2⟩ := d5 h
      have h' : (1048576 : Int) < k := by omega
      simp only [longX] at g1 g2
      simp [A7, awake_den, hp, hc, hd, l1, l2, l3, l4, l5, d1, d2, d3, g1, g2, h']
end Go.Proofs.YtdcgldhhdajocaaDoor.Rx
namespace Go.Proofs.YtdcgldhhdajocaaDoor.Rx
open Go
set_option linter.unusedSimpArgs false
set_option linter.unusedVariables false

def addF (s : List Edit) : List (List UInt8) := s.flatMap (·.ls)
theorem apply_mem : ∀ (s : List Edit) (a : List (List UInt8)) (x : List UInt8), x ∈ applyB s a → x ∈ a ∨ x ∈ addF s
  | [], a, x, h => by simp [applyB] at h
  | e :: r, a, x, h => by
    have e1 : addF (e :: r) = e.ls ++ addF r := by simp [addF]
    rw [e1, List.mem_append]
    simp only [applyB] at h
    split at h
    · rcases List.mem_append.1 h with h | h
      · exact .inl (List.mem_of_mem_take h)
      · rcases apply_mem r _ x h with h | h
        · exact .inl (List.mem_of_mem_drop h)
        · exact .inr (.inr h)
    · split at h
      · rcases apply_mem r _ x h with h | h
        · exact .inl (List.mem_of_mem_drop h)
        · exact .inr (.inr h)
      · rcases List.mem_append.1 h with h | h
        · exact .inr (.inl h)
        · rcases apply_mem r _ x h with h | h
          · exact .inl h
          · exact .inr (.inr h)
theorem many_all : ∀ {s : List Edit}, (∀ e ∈ s, mayB e = true) → many 1 2 s + many 1 3 s = many 2 3 s + 2 * many 1 1 s
  | [], _ => rfl
  | e :: s, h => by
    have i := many_all (s := s) (fun x hx => h x (List.mem_cons_of_mem _ hx))
    rcases (mayB_op (h e (by simp))).1 with o | o | o
    · simp [many, o]; omega
    · simp [many, o]; omega
    · simp [many, o]; omega
def spE (s : List Edit) (a b : List (List UInt8)) (f t kept : Int) (out : List AV) (p : Perm) (l : List (Nat × AV)) : Env := ofL ((5, .bool true) :: (6, sE s) :: (7, sS a) :: (8, sS b) :: (9, .int .i64 0) :: (10, .int .i64 f) :: (11, .int .i64 t) :: (12, .int .i64 kept) :: (13, .sl 1 out p) :: l)
def Sp0 (s : List Edit) (a b : List (List UInt8)) (f t kept : Int) (out : List AV) (ex : Ex) (st' : St) (rest : List Edit) : Prop :=
  ex = .exit 0 ∧ ∃ q bx' pm', st' = ⟨spE s a b f t (kept + many 1 1 rest) (out ++ (addF rest).map .str) q [(14, .int .i64 s.length), (40, .bool false)], bx', pm', none⟩
theorem Sp0.step {s : List Edit} {a b : List (List UInt8)} {f t kept : Int} {out : List AV} {ex : Ex} {st' : St} {e : Edit} {rest : List Edit} {k' : Int} (h : Sp0 s a b f t k' (out ++ e.ls.map .str) ex st' rest) (hk : k' = kept + (if e.op = 1 then e.n else 0)) : Sp0 s a b f t kept out ex st' (e :: rest) := by
  obtain ⟨h1, q, bx', pm', h2⟩ := h
  refine ⟨h1, q, bx', pm', ?_⟩
  have e1 : (addF (e :: rest)).map AV.str = e.ls.map .str ++ (addF rest).map .str := by simp [addF]
  have e2 : kept + many 1 1 (e :: rest) = k' + many 1 1 rest := by rw [hk]; simp only [many, or_self]; omega
  rw [e1, e2, ← List.append_assoc]
  exact h2
set_option maxHeartbeats 1000000 in
theorem sp_loop0 (s : List Edit) (hl : s.length ≤ 1048576) (hm : ∀ e ∈ s, mayB e = true) (a b : List (List UInt8)) (f t : Int) : ∀ (rest pre : List Edit) (kept : Int) (out : List AV) (p : Perm) (i : Int) (bx : Bx) (pm : Pm), s = pre ++ rest → i = pre.length → AppOk pm p → out.length ≤ 1048576 * pre.length → 0 ≤ kept → kept ≤ 1048576 * pre.length →
    Res (RunD Sy (.loop L8x0) ⟨spE s a b f t kept out p [(14, .int .i64 i)], bx, pm, none⟩) fun ex st' => Sp0 s a b f t kept out ex st' rest
  | [], pre, kept, out, p, i, bx, pm, hs, hi, hp, ho, hk0, hk1 => by
    subst hi
    rw [List.append_nil] at hs
    subst hs
    rw [RunD_loop]
    simp [L8x0, spE]
    exact ⟨rfl, p, bx, pm, by simp [spE, many, addF]⟩
  | e :: rest, pre, kept, out, p, i, bx, pm, hs, hi, hp, ho, hk0, hk1 => by
    have hlt : (pre.length : Int) < s.length := by rw [hs]; simp; omega
    have hg : (s.map eE)[pre.length]? = some (eE e) := by rw [hs]; simp
    have hme := hm e (by rw [hs]; simp)
    obtain ⟨hop, hn1, hn2, hn3, hn4⟩ := mayB_op hme
    have hlsl : e.ls.length ≤ 1048576 := by
      by_cases h3 : e.op = 3
      · have := hn3 h3; omega
      · rw [hn4 h3]; simp
    simp only [eE] at hg
    subst hi
    have hc := chk_i64 ((pre.length : Int) + 1) (by omega)
    have hck := chk_i64 (kept + e.n) (by omega)
    have hsz : (out.length + e.ls.length) * 16 ≤ 140737488355328 := by omega
    have hlen : (out ++ e.ls.map AV.str).length ≤ 1048576 * (pre ++ [e]).length := by simp; omega
    have hpl : ((pre ++ [e]).length : Int) = pre.length + 1 := by simp
    refine loop_step fun K hK => ?_
    by_cases h1 : e.op = 1
    · rcases hp with rfl | ⟨m, v, rfl, hpm⟩
      · simp [L8x0, spE, -getElem?_pos, -List.getElem?_map, hc, hck, hlt, hg, eq_true h1, hsz]
        rw [hK]
        refine Res.eqv (fun ex st h => Sp0.step h ?_) (sp_loop0 s hl hm a b f t rest (pre ++ [e]) (kept + e.n) _ _ ((pre.length : Int) + 1) _ _ ?_ ?_ (AppOk.tok ?_) hlen ?_ ?_)
        · rw [if_pos h1]
        · simp [hs]
        · exact hpl.symm
        · simp
        · omega
        · omega
      · simp [L8x0, spE, -getElem?_pos, -List.getElem?_map, hc, hck, hlt, hg, eq_true h1, hsz, hpm]
        rw [hK]
        refine Res.eqv (fun ex st h => Sp0.step h ?_) (sp_loop0 s hl hm a b f t rest (pre ++ [e]) (kept + e.n) _ _ ((pre.length : Int) + 1) _ _ ?_ ?_ (AppOk.tok ?_) hlen ?_ ?_)
        · rw [if_pos h1]
        · simp [hs]
        · exact hpl.symm
        · simp
        · omega
        · omega
    · rcases hp with rfl | ⟨m, v, rfl, hpm⟩
      · simp [L8x0, spE, -getElem?_pos, -List.getElem?_map, hc, hck, hlt, hg, eq_false h1, hsz]
        rw [hK]
        refine Res.eqv (fun ex st h => Sp0.step h ?_) (sp_loop0 s hl hm a b f t rest (pre ++ [e]) kept _ _ ((pre.length : Int) + 1) _ _ ?_ ?_ (AppOk.tok ?_) hlen ?_ ?_)
        · rw [if_neg h1]; omega
        · simp [hs]
        · exact hpl.symm
        · simp
        · omega
        · omega
      · simp [L8x0, spE, -getElem?_pos, -List.getElem?_map, hc, hck, hlt, hg, eq_false h1, hsz, hpm]
        rw [hK]
        refine Res.eqv (fun ex st h => Sp0.step h ?_) (sp_loop0 s hl hm a b f t rest (pre ++ [e]) kept _ _ ((pre.length : Int) + 1) _ _ ?_ ?_ (AppOk.tok ?_) hlen ?_ ?_)
        · rw [if_neg h1]; omega
        · simp [hs]
        · exact hpl.symm
        · simp
        · omega
        · omega
def hasF (x : List UInt8) : List (List UInt8) → Bool
  | [] => false
  | y :: r => decide (y = x) || hasF x r
theorem hasF_mem (x : List UInt8) : ∀ {l : List (List UInt8)}, x ∈ l → hasF x l = true
  | y :: r, h => by
    simp only [hasF, Bool.or_eq_true, decide_eq_true_eq]
    rcases List.mem_cons.1 h with rfl | h
    · exact .inl rfl
    · exact .inr (hasF_mem x h)
section
variable (s : List Edit) (a b : List (List UInt8)) (f t kept : Int) (L : List (List UInt8)) (p : Perm)
def Sp1 (i : Int) (B : Bool) (bx : Bx) (pm : Pm) (ex : Ex) (st' : St) : Prop := ex = .exit 4 ∧ st' = ⟨spE s a b f t kept (L.map .str) p [(15, .int .i64 i), (16, .bool B), (17, .int .i64 a.length), (72, .bool false)], bx, pm, none⟩
def Sp2 (i : Int) (B : Bool) (bx : Bx) (pm : Pm) (ex : Ex) (st' : St) : Prop := ex = .exit 6 ∧ st' = ⟨spE s a b f t kept (L.map .str) p [(15, .int .i64 i), (16, .bool B), (18, .int .i64 L.length), (90, .bool false)], bx, pm, none⟩
def Sp3 (bx : Bx) (pm : Pm) (ex : Ex) (st' : St) : Prop := ex = .exit 2 ∧ st' = ⟨spE s a b f t kept (L.map .str) p [(15, .int .i64 b.length), (66, .bool false)], bx, pm, none⟩
set_option maxHeartbeats 1000000 in
theorem sp_loop1 (hal : a.length ≤ 1099511627776) (i : Nat) (x : List UInt8) (hx : (b.map AV.str)[i]? = some (.str x)) (hi : i < b.length) (B : Bool) (bx : Bx) (pm : Pm) : ∀ (rest pre : List (List UInt8)) (j : Int) (h : Bool), a = pre ++ rest → j = pre.length → B = (h || hasF x rest) →
    Res (RunD Sy (.loop L8x1) ⟨spE s a b f t kept (L.map .str) p [(15, .int .i64 i), (16, .bool h), (17, .int .i64 j)], bx, pm, none⟩) fun ex st' => Sp1 s a b f t kept L p i B bx pm ex st'
  | [], pre, j, h, ha, hj, hB => by
    subst hj
    rw [List.append_nil] at ha
    subst ha
    rw [RunD_loop]
    simp [L8x1, spE]
    exact ⟨rfl, by simp [spE, hB, hasF]⟩
  | y :: rest, pre, j, h, ha, hj, hB => by
    have hlt : (pre.length : Int) < a.length := by rw [ha]; simp; omega
    have hg : (a.map AV.str)[pre.length]? = some (.str y) := by rw [ha]; simp
    subst hj
    have hc := chk_i64 ((pre.length : Int) + 1) (by omega)
    have hi' : (i : Int) < b.length := by omega
    refine loop_step fun K hK => ?_
    cases h with
    | true =>
      simp [L8x1, spE, -getElem?_pos, -List.getElem?_map, hlt, hc]
      rw [hK]
      exact sp_loop1 hal i x hx hi B bx pm rest (pre ++ [y]) ((pre.length : Int) + 1) true (by simp [ha]) (by simp) (by rw [hB]; simp)
    | false =>
      simp [L8x1, spE, -getElem?_pos, -List.getElem?_map, hlt, hc, hg, hx, hi']
      rw [hK]
      exact sp_loop1 hal i x hx hi B bx pm rest (pre ++ [y]) ((pre.length : Int) + 1) (decide (y = x)) (by simp [ha]) (by simp) (by rw [hB]; simp [hasF])
set_option maxHeartbeats 1000000 in
theorem sp_loop2 (hal : L.length ≤ 1099511627776) (i : Nat) (x : List UInt8) (hx : (b.map AV.str)[i]? = some (.str x)) (hi : i < b.length) (B : Bool) (bx : Bx) (pm : Pm) : ∀ (rest pre : List (List UInt8)) (j : Int) (h : Bool), L = pre ++ rest → j = pre.length → B = (h || hasF x rest) →
    Res (RunD Sy (.loop L8x2) ⟨spE s a b f t kept (L.map .str) p [(15, .int .i64 i), (16, .bool h), (18, .int .i64 j)], bx, pm, none⟩) fun ex st' => Sp2 s a b f t kept L p i B bx pm ex st'
  | [], pre, j, h, ha, hj, hB => by
    subst hj
    rw [List.append_nil] at ha
    subst ha
    rw [RunD_loop]
    simp [L8x2, spE]
    exact ⟨rfl, by simp [spE, hB, hasF]⟩
  | y :: rest, pre, j, h, ha, hj, hB => by
    have hlt : (pre.length : Int) < L.length := by rw [ha]; simp; omega
    have hg : (L.map AV.str)[pre.length]? = some (.str y) := by rw [ha]; simp
    subst hj
    have hc := chk_i64 ((pre.length : Int) + 1) (by omega)
    have hi' : (i : Int) < b.length := by omega
    refine loop_step fun K hK => ?_
    cases h with
    | true =>
      simp [L8x2, spE, -getElem?_pos, -List.getElem?_map, hlt, hc]
      rw [hK]
      exact sp_loop2 hal i x hx hi B bx pm rest (pre ++ [y]) ((pre.length : Int) + 1) true (by simp [ha]) (by simp) (by rw [hB]; simp)
    | false =>
      simp [L8x2, spE, -getElem?_pos, -List.getElem?_map, hlt, hc, hg, hx, hi']
      rw [hK]
      exact sp_loop2 hal i x hx hi B bx pm rest (pre ++ [y]) ((pre.length : Int) + 1) (decide (y = x)) (by simp [ha]) (by simp) (by rw [hB]; simp [hasF])
set_option maxHeartbeats 1000000 in
theorem sp_loop3 (hal : a.length ≤ 1099511627776) (hbl : b.length ≤ 1099511627776) (hLl : L.length ≤ 1099511627776) (bx : Bx) (pm : Pm) : ∀ (rest pre : List (List UInt8)) (j : Int), b = pre ++ rest → j = pre.length → (∀ x ∈ rest, (hasF x a || hasF x L) = true) →
    Res (RunD Sy (.loop L8x3) ⟨spE s a b f t kept (L.map .str) p [(15, .int .i64 j)], bx, pm, none⟩) fun ex st' => Sp3 s a b f t kept L p bx pm ex st'
  | [], pre, j, hb, hj, hm => by
    subst hj
    rw [List.append_nil] at hb
    subst hb
    rw [RunD_loop]
    simp [L8x3, spE]
    exact ⟨rfl, by simp [spE]⟩
  | x :: rest, pre, j, hb, hj, hm => by
    have hlt : (pre.length : Int) < b.length := by rw [hb]; simp; omega
    have hlt' : pre.length < b.length := by omega
    have hg : (b.map AV.str)[pre.length]? = some (.str x) := by rw [hb]; simp
    subst hj
    have hc := chk_i64 ((pre.length : Int) + 1) (by omega)
    obtain ⟨ex1, st1, hL1, rfl, rfl⟩ := sp_loop1 s a b f t kept L p hal pre.length x hg hlt' _ bx pm a [] 0 false rfl rfl rfl
    obtain ⟨ex2, st2, hL2, rfl, rfl⟩ := sp_loop2 s a b f t kept L p hLl pre.length x hg hlt' _ bx pm L [] 0 (false || hasF x a) rfl rfl rfl
    have hB : (false || hasF x a || hasF x L) = true := by simpa using hm x (by simp)
    rw [hB] at hL2
    rw [Bool.false_or] at hL1 hL2
    simp only [spE] at hL1 hL2
    refine loop_step fun K hK => ?_
    simp [L8x3, spE, hlt, hc, hL1, hL2]
    rw [hK]
    exact sp_loop3 hal hbl hLl bx pm rest (pre ++ [x]) ((pre.length : Int) + 1) (by simp [hb]) (by simp) (fun y hy => hm y (List.mem_cons_of_mem _ hy))
end
theorem addF_len : ∀ {s : List Edit}, (∀ e ∈ s, mayB e = true) → (addF s).length ≤ 1048576 * s.length
  | [], _ => by simp [addF]
  | e :: s, h => by
    have i := addF_len (s := s) (fun x hx => h x (List.mem_cons_of_mem _ hx))
    obtain ⟨hop, hn1, hn2, hn3, hn4⟩ := mayB_op (h e (by simp))
    have hlsl : e.ls.length ≤ 1048576 := by
      by_cases h3 : e.op = 3
      · have := hn3 h3; omega
      · rw [hn4 h3]; simp
    have e1 : addF (e :: s) = e.ls ++ addF s := by simp [addF]
    rw [e1, List.length_append, List.length_cons]
    omega
set_option maxHeartbeats 2000000 in
set_option maxRecDepth 20000 in
theorem spans_law_den (raw lines : List Int) (hr : ∀ c ∈ raw, inR c) (hl : ∀ c ∈ lines, inR c) : Den Sy 8 [iS raw, iS lines] = some (.bool true) := by
  rw [Den_fun Sy (af := A8) rfl rfl _ rfl]
  have hsd := script_den raw lines hr hl
  have hsr := scriptF_right raw
  obtain ⟨hm1, hm2, hlen⟩ := script_many raw 1 2
  obtain ⟨hm3, hm4, _⟩ := script_many raw 1 3
  obtain ⟨hm5, hm6, _⟩ := script_many raw 1 1
  obtain ⟨hm7, hm8, _⟩ := script_many raw 2 3
  generalize ha : fullF lines (many 1 2 (scriptF raw)).toNat = a at hsd
  have hal : many 1 2 (scriptF raw) = a.length := by rw [← ha, fullF, fullG_len]; omega
  generalize scriptF raw = s at hsd hsr hm1 hm2 hlen hm3 hm4 hm5 hm6 hm7 hm8 hal
  have hmay := rightF_may hsr
  have hbl := apply_len s a hmay hal
  have hmem := apply_mem s a
  have hall := many_all hmay
  have hadd := addF_len hmay
  have d1 := apply_den s (by omega) a
  have f1 : fitsF s a.length = 0 := by simp [fitsF, hsr, hal]
  rw [f1] at d1
  simp only [applyF, f1, if_true, applyA_map] at d1
  generalize applyB s a = b at hbl hmem d1
  have d5 := spans_den s (by omega)
  have d7 := cost_den s (by omega)
  simp only [spansF, costF, hsr, if_true, hal, ← hbl] at d5 d7
  obtain ⟨ex0, st0, hL0, rfl, q, bx', pm', rfl⟩ := sp_loop0 s (by omega) hmay a b a.length b.length s [] 0 [] .nil 0 (ofL []) none' rfl rfl (AppOk.nil _) (by simp) (by omega) (by simp)
  rw [List.nil_append, Int.zero_add] at hL0
  obtain ⟨ex3, st3, hL3, rfl, rfl⟩ := sp_loop3 s a b a.length b.length (many 1 1 s) (addF s) q (by omega) (by omega) (by omega) bx' pm' b [] 0 rfl rfl (fun x hx => by
    rcases hmem x hx with h | h
    · simp [hasF_mem x h]
    · simp [hasF_mem x h])
  have c1 := chk_i64 ((a.length : Int) + b.length) (by omega)
  have c2 := chk_i64 (2 * many 1 1 s) (by omega)
  have c3 := chk_i64 (many 2 3 s + 2 * many 1 1 s) (by omega)
  have hfin : (a.length : Int) + b.length = many 2 3 s + 2 * many 1 1 s := by rw [← hall, hal, hbl]
  rw [hfin] at c1
  simp only [spE] at hL0 hL3
  simp [A8, awake_den, hsd, d1, d5, d7, hL0, hL3, c2, c3, hfin]
end Go.Proofs.YtdcgldhhdajocaaDoor.Rx
namespace Go.Proofs.YtdcgldhhdajocaaDoor.Rx
open Go
set_option linter.unusedSimpArgs false
set_option linter.unusedVariables false

theorem dg_den {n : Int} (h0 : 0 ≤ n) (h1 : n ≤ 9223372036854775807) : Den Sy 30 [.int .i64 n] = some (.str (Lib.itoa n)) := by
  have := digits_den n.toNat (by omega)
  rw [itoa_nn h0, ← this]
  congr 3
  omega
theorem encLs_cons (x : List UInt8) (r : List (List UInt8)) : encLs (x :: r) = encLine x ++ encLs r := by simp [encLs]
def En0 (s : List Edit) (i : Nat) (n : Nat) (bx : Bx) (pm : Pm) (F : List UInt8) (ex : Ex) (st' : St) : Prop := ex = .exit 2 ∧ st' = ⟨ofL [(0, sE s), (5, .str F), (6, .int .i64 i), (7, .int .i64 n), (47, .bool false)], bx, pm, none⟩
set_option maxHeartbeats 1000000 in
theorem enc2_lines (s : List Edit) (i : Nat) (op n : Int) (ls : List (List UInt8)) (hg0 : (s.map eE)[i]? = some (.agg [.int .i64 op, .int .i64 n, .sl 1 (ls.map .str) .no])) (hi : i < s.length) (hls : ls.length ≤ 1048576) (bx : Bx) (pm : Pm) (F : List UInt8) : ∀ (rest pre : List (List UInt8)) (j : Int) (l : List UInt8), ls = pre ++ rest → j = pre.length → F = l ++ encLs rest → F.length ≤ 1099511627776 →
    Res (RunD Sy (.loop L15x0) ⟨ofL [(0, sE s), (5, .str l), (6, .int .i64 i), (7, .int .i64 j)], bx, pm, none⟩) fun ex st' => En0 s i ls.length bx pm F ex st'
  | [], pre, j, l, hs, hj, hF, hl => by
    subst hj
    rw [List.append_nil] at hs
    subst hs
    have hi' : (i : Int) < s.length := by omega
    rw [RunD_loop]
    simp [L15x0, -getElem?_pos, -List.getElem?_map, hg0, hi']
    exact ⟨rfl, by rw [hF]; simp [encLs]⟩
  | x :: rest, pre, j, l, hs, hj, hF, hl => by
    have hlt : (pre.length : Int) < ls.length := by rw [hs]; simp; omega
    have hg : (ls.map AV.str)[pre.length]? = some (.str x) := by rw [hs]; simp
    subst hj
    have hi' : (i : Int) < s.length := by omega
    have hc := chk_i64 ((pre.length : Int) + 1) (by omega)
    have hFl : F.length = l.length + ((Lib.itoa x.length).length + 1 + x.length + (encLs rest).length) := by rw [hF, encLs_cons]; simp [encLine]; omega
    have hd := dg_den (n := x.length) (by omega) (by omega)
    generalize hD : Lib.itoa x.length = D at hd hFl
    have l1 : l.length + D.length ≤ 9223372036854775807 := by omega
    have l2 : l.length + D.length + 1 ≤ 9223372036854775807 := by omega
    have l3 : l.length + (D.length + 1) ≤ 9223372036854775807 := by omega
    have l4 : l.length + D.length + 1 + x.length ≤ 9223372036854775807 := by omega
    have l5 : l.length + (D.length + 1 + x.length) ≤ 9223372036854775807 := by omega
    have l6 : l.length + (D.length + (x.length + 1)) ≤ 9223372036854775807 := by omega
    have l7 : l.length + (D.length + 1) + x.length ≤ 9223372036854775807 := by omega
    refine loop_step fun K hK => ?_
    simp [L15x0, -getElem?_pos, -List.getElem?_map, hg0, hi', hlt, hg, hc, hd, l1, l2, l3, l4, l5, l6, l7]
    rw [hK]
    exact enc2_lines s i op n ls hg0 hi hls bx pm F rest (pre ++ [x]) ((pre.length : Int) + 1) _ (by simp [hs]) (by simp) (by rw [hF, encLs_cons, encLine, hD]; simp) hl
def En1 (s : List Edit) (bx : Bx) (pm : Pm) (F : List UInt8) (ex : Ex) (st' : St) : Prop := ex = .exit 0 ∧ st' = ⟨ofL [(0, sE s), (5, .str F), (6, .int .i64 s.length), (15, .bool false)], bx, pm, none⟩
set_option maxHeartbeats 2000000 in
theorem enc2_loop (s : List Edit) (hl : s.length ≤ 1099511627776) (hm : ∀ e ∈ s, mayB e = true) (bx : Bx) (pm : Pm) (F : List UInt8) (hFl : F.length ≤ 1099511627776) : ∀ (rest pre : List Edit) (j : Int) (l : List UInt8), s = pre ++ rest → j = pre.length → F = l ++ encL rest →
    Res (RunD Sy (.loop L15x1) ⟨ofL [(0, sE s), (5, .str l), (6, .int .i64 j)], bx, pm, none⟩) fun ex st' => En1 s bx pm F ex st'
  | [], pre, j, l, hs, hj, hF => by
    subst hj
    rw [List.append_nil] at hs
    subst hs
    rw [RunD_loop]
    simp [L15x1]
    exact ⟨rfl, by rw [hF]; simp [encL]⟩
  | e :: rest, pre, j, l, hs, hj, hF => by
    have hlt : (pre.length : Int) < s.length := by rw [hs]; simp; omega
    have hlt' : pre.length < s.length := by omega
    have hg : (s.map eE)[pre.length]? = some (eE e) := by rw [hs]; simp
    subst hj
    have hme := hm e (by rw [hs]; simp)
    obtain ⟨op, n, ls⟩ := e
    obtain ⟨hop, hn1, hn2, hn3, hn4⟩ := mayB_op hme
    simp only at hop hn1 hn2 hn3 hn4
    have hlsl : ls.length ≤ 1048576 := by
      by_cases h3 : op = 3
      · have := hn3 h3; omega
      · rw [hn4 h3]; simp
    simp only [eE] at hg
    have hc := chk_i64 ((pre.length : Int) + 1) (by omega)
    have hsl : (sgn op).length = 1 := by unfold sgn; split <;> (try split) <;> rfl
    have hF2 : F = l ++ sgn op ++ Lib.itoa n ++ [59] ++ (encLs ls ++ encL rest) := by rw [hF, encL_cons]; simp [encE, encHead]
    have hFn : F.length = l.length + 1 + (Lib.itoa n).length + 1 + ((encLs ls).length + (encL rest).length) := by rw [hF2]; simp [hsl]; omega
    have hd := dg_den (n := n) (by omega) (by omega)
    generalize hD : Lib.itoa n = D at hd hFn hF2
    have l0 : l.length + 1 ≤ 9223372036854775807 := by omega
    have l1 : l.length + 1 + D.length ≤ 9223372036854775807 := by omega
    have l2 : l.length + 1 + D.length + 1 ≤ 9223372036854775807 := by omega
    have l3 : l.length + (D.length + 1) ≤ 9223372036854775807 := by omega
    have l4 : l.length + (1 + D.length) ≤ 9223372036854775807 := by omega
    have l5 : l.length + (D.length + 1 + 1) ≤ 9223372036854775807 := by omega
    have l6 : l.length + (1 + (D.length + 1)) ≤ 9223372036854775807 := by omega
    have l7 : l.length + (D.length + 1) + 1 ≤ 9223372036854775807 := by omega
    have k0 : chk .i64 0 = some (.int .i64 0) := rfl
    have k1 : chk .i64 1 = some (.int .i64 1) := rfl
    have k2 : chk .i64 2 = some (.int .i64 2) := rfl
    have hll : (l ++ sgn op ++ D ++ [59] ++ encLs ls).length ≤ 1099511627776 := by simp [hsl]; omega
    obtain ⟨ex0, st0, hL0, rfl, rfl⟩ := enc2_lines s pre.length op n ls hg hlt' hlsl bx pm (l ++ sgn op ++ D ++ [59] ++ encLs ls) ls [] 0 (l ++ sgn op ++ D ++ [59]) rfl rfl rfl hll
    refine loop_step fun K hK => ?_
    rcases hop with rfl | rfl | rfl
    · simp [sgn] at hL0
      simp [L15x1, -getElem?_pos, -List.getElem?_map, hg, hlt, hc, hd, l0, l1, l2, l3, l4, l5, l6, l7, k0, k1, k2, hL0]
      rw [hK]
      exact enc2_loop s hl hm bx pm F hFl rest (pre ++ [⟨1, n, ls⟩]) ((pre.length : Int) + 1) _ (by simp [hs]) (by simp) (by rw [hF2]; simp [sgn])
    · simp [sgn] at hL0
      simp [L15x1, -getElem?_pos, -List.getElem?_map, hg, hlt, hc, hd, l0, l1, l2, l3, l4, l5, l6, l7, k0, k1, k2, hL0]
      rw [hK]
      exact enc2_loop s hl hm bx pm F hFl rest (pre ++ [⟨2, n, ls⟩]) ((pre.length : Int) + 1) _ (by simp [hs]) (by simp) (by rw [hF2]; simp [sgn])
    · simp [sgn] at hL0
      simp [L15x1, -getElem?_pos, -List.getElem?_map, hg, hlt, hc, hd, l0, l1, l2, l3, l4, l5, l6, l7, k0, k1, k2, hL0]
      rw [hK]
      exact enc2_loop s hl hm bx pm F hFl rest (pre ++ [⟨3, n, ls⟩]) ((pre.length : Int) + 1) _ (by simp [hs]) (by simp) (by rw [hF2]; simp [sgn])
theorem encode2_den (s : List Edit) (hl : s.length ≤ 1099511627776) (hb : (encL s).length ≤ 1099511627776) : Den Sy 15 [sE s] = some (if rightB s = true then .tup [.str (encL s), .int .i64 0] else .tup [.str [], .int .i64 1]) := by
  rw [Den_fun Sy (af := A15) rfl rfl _ rfl]
  have hrd := right2_den s (by omega)
  by_cases hr : rightB s = true
  · obtain ⟨ex, st', hL, rfl, rfl⟩ := enc2_loop s hl (rightF_may hr) (ofL []) none' (encL s) hb s [] 0 [] rfl rfl rfl
    simp [A15, hrd, hr, hL]
  · simp [A15, hrd, hr]
end Go.Proofs.YtdcgldhhdajocaaDoor.Rx
namespace Go.Proofs.YtdcgldhhdajocaaDoor.Rx
open Go
set_option linter.unusedSimpArgs false
set_option linter.unusedVariables false

def fewL : List (List UInt8) := [[97, 10], [98, 10], [99, 10], [10], [108, 111, 110, 103, 10]]
def fewF (j : Int) : List UInt8 := fewL.getD j.toNat []
theorem few_get (j : Int) (h : 0 ≤ j ∧ j < 5) : [AV.str [97, 10], AV.str [98, 10], AV.str [99, 10], AV.str [10], AV.str [108, 111, 110, 103, 10]][j.toNat]? = some (.str (fewF j)) := by
  obtain ⟨k, rfl⟩ : ∃ k : Nat, j = k := ⟨j.toNat, by omega⟩
  have : k < 5 := by omega
  simp only [Int.toNat_natCast, fewF]
  match k, this with
  | 0, _ => rfl
  | 1, _ => rfl
  | 2, _ => rfl
  | 3, _ => rfl
  | 4, _ => rfl
def lnF (raw : List Int) : List (List UInt8) := raw.map fun c => fewF (pickF c 5)
theorem strC_dead : ∀ l : List (List UInt8), deadC (l.map AV.str) = false
  | [] => rfl
  | [x] => rfl
  | x :: y :: l => deadC_cells _ _ _
theorem strC_dead2 (l : List (List UInt8)) (x : List UInt8) : deadC (l.map AV.str ++ [.str x]) = false := by
  have := strC_dead (l ++ [x])
  rwa [List.map_append, List.map_cons, List.map_nil] at this
theorem chunksS : ∀ l : List (List UInt8), chunks 1 false l.length (l.map AV.str) = some (l.map AV.str)
  | [] => rfl
  | x :: l => by
    have h := chunksS l
    simp only [List.length_cons, List.map_cons, chunks, mkp]
    simp [h]
/-- Lines in a row of the call's own. -/
def OwnS (bx : Bx) (X : AV) (l : List (List UInt8)) : Prop := (l = [] ∧ X = .sl 1 [] .nil) ∨ ∃ v, X = .own 1 false 30 v l.length ∧ l ≠ [] ∧ bx 30 = some (v, l.map .str)
def LnR (raw : List Int) (X0 : AV) (l : List (List UInt8)) (ex : Ex) (st' : St) : Prop := ex = .exit 0 ∧ st'.df = none ∧ st'.env 0 = some (iS raw) ∧ ∃ X, st'.env 6 = some X ∧ OwnS st'.bx X l
abbrev fewA : AV := .sl 1 [.str [97, 10], .str [98, 10], .str [99, 10], .str [10], .str [108, 111, 110, 103, 10]] .no
set_option maxHeartbeats 1000000 in
theorem ln_loop (raw : List Int) (hr : ∀ c ∈ raw, inR c) (q : Perm) : ∀ (k : Nat) (rest pre : List Int) (j : Int) (X : AV) (bx : Bx) (pm : Pm), raw = pre ++ rest → j = pre.length → k + pre.length = 12 → OwnS bx X (lnF pre) →
    Res (RunD Sy (.loop L20x0) ⟨ofL [(0, iS raw), (1, .int .i64 12), (5, .sl 1 [.str [97, 10], .str [98, 10], .str [99, 10], .str [10], .str [108, 111, 110, 103, 10]] q), (6, X), (7, .int .i64 j)], bx, pm, none⟩) fun ex st' => LnR raw X (lnF (raw.take 12)) ex st'
  | k, [], pre, j, X, bx, pm, hs, hj, hk, hX => by
    subst hj
    rw [List.append_nil] at hs
    subst hs
    have ht : raw.take 12 = raw := List.take_of_length_le (by omega)
    rw [RunD_loop]
    simp [L20x0]
    exact ⟨rfl, rfl, by simp, X, by simp, by rw [ht]; exact hX⟩
  | 0, c :: rest, pre, j, X, bx, pm, hs, hj, hk, hX => by
    subst hj
    have hlt : (pre.length : Int) < raw.length := by rw [hs]; simp; omega
    have h12 : ¬ (pre.length : Int) < 12 := by omega
    have ht : raw.take 12 = pre := by rw [hs, List.take_left' (by omega)]
    rw [RunD_loop]
    simp [L20x0, hlt, h12]
    exact ⟨rfl, rfl, by simp, X, by simp, by rw [ht]; exact hX⟩
  | k + 1, c :: rest, pre, j, X, bx, pm, hs, hj, hk, hX => by
    subst hj
    have hlt : (pre.length : Int) < raw.length := by rw [hs]; simp; omega
    have h12 : (pre.length : Int) < 12 := by omega
    have hg : (raw.map (AV.int .i64))[pre.length]? = some (.int .i64 c) := by rw [hs]; simp
    have hp := pick3_den c 5 (hr c (by rw [hs]; simp)) (by omega)
    have hp5 := pickF_lt c (n := 5) (by omega)
    have hf := few_get _ hp5
    obtain ⟨hp0, hp1⟩ := hp5
    have hc := chk_i64 ((pre.length : Int) + 1) (by omega)
    have hpre : lnF (pre ++ [c]) = lnF pre ++ [fewF (pickF c 5)] := by simp [lnF]
    have hln : (lnF pre).length = pre.length := by simp [lnF]
    have hsz : (pre.length + 1) * 16 ≤ 140737488355328 := by omega
    refine loop_step fun K hK => ?_
    have hd1 : deadC [AV.str (fewF (pickF c 5))] = false := rfl
    rcases hX with ⟨h0, rfl⟩ | ⟨v, rfl, hne, hb⟩
    · simp [L20x0, -deadC, hd1, strC_dead, strC_dead2, -getElem?_pos, -List.getElem?_map, hlt, h12, hg, hp, hp0, hp1, hf, hc]
      rw [hK]
      refine ln_loop raw hr q k rest (pre ++ [c]) ((pre.length : Int) + 1) _ _ _ ?_ ?_ ?_ (.inr ⟨nextB bx 30, ?_, ?_, ?_⟩)
      · simp [hs]
      · simp
      · simp; omega
      · rw [hpre, h0]; rfl
      · rw [hpre]; simp
      · rw [hpre, h0]; simp
    · simp [L20x0, -deadC, hd1, strC_dead, strC_dead2, -getElem?_pos, -List.getElem?_map, hlt, h12, hg, hp, hp0, hp1, hf, hc, hb, hln, hsz]
      rw [hK]
      refine ln_loop raw hr q k rest (pre ++ [c]) ((pre.length : Int) + 1) _ _ _ ?_ ?_ ?_ (.inr ⟨v + 1, ?_, ?_, ?_⟩)
      · simp [hs]
      · simp
      · simp; omega
      · rw [hpre, List.length_append, hln]; rfl
      · rw [hpre]; simp
      · rw [hpre]; simp
/-- Lines of few, of raw numbers, at most twelve. -/
def lines12 (raw : List Int) : List (List UInt8) :=
  if raw ≠ [] ∧ pickF ((raw.take 12).getLastD 0) 7 = 6 then (lnF (raw.take 12)).take ((raw.take 12).length - 1) ++ [[101, 110, 100]] else lnF (raw.take 12)
theorem lines12_len (raw : List Int) : (lines12 raw).length ≤ 12 := by
  unfold lines12
  split
  · simp [lnF]; omega
  · simp [lnF]; omega
set_option maxHeartbeats 1000000 in
theorem lines12_den (raw : List Int) (hr : ∀ c ∈ raw, inR c) : Den Sy 20 [iS raw, .int .i64 12] = some (sS (lines12 raw)) := by
  rw [Den_fun Sy (af := A20) rfl rfl _ rfl]
  obtain ⟨ex, st', hL, rfl, hdf, q0, X, q6, hX⟩ := ln_loop raw hr .clip 12 raw [] 0 (.sl 1 [] .nil) (ofL []) none' rfl rfl rfl (.inl ⟨rfl, rfl⟩)
  rcases hX with ⟨h0, rfl⟩ | ⟨v, rfl, hne, hb⟩
  · have hraw : raw = [] := by
      simp only [lnF, List.map_eq_nil_iff, List.take_eq_nil_iff] at h0
      rcases h0 with h | h
      · omega
      · exact h
    subst hraw
    simp [A20, hL, hdf, q0, q6, lines12, lnF]
  · obtain ⟨T, hT⟩ : ∃ T, T = raw.take 12 := ⟨_, rfl⟩
    have hTr : ∀ j, j < T.length → raw[j]? = T[j]? := fun j hj => by rw [hT, List.getElem?_take]; rw [hT, List.length_take] at hj; rw [if_pos (by omega)]
    have hTm : ∀ c ∈ T, c ∈ raw := fun c hc => List.mem_of_mem_take (hT ▸ hc)
    rw [← hT] at hne hb q6
    have hraw : raw ≠ [] := by rintro rfl; simp [hT, lnF] at hne
    rcases List.eq_nil_or_concat T with h0 | ⟨I, z, h0⟩
    · rw [h0] at hne; simp [lnF] at hne
    have hTz : T = I ++ [z] := by simpa using h0
    have hl1 : lnF T = lnF I ++ [fewF (pickF z 5)] := by rw [hTz]; simp [lnF]
    have hTl : T.length = I.length + 1 := by rw [hTz]; simp
    have hlen : (lnF T).length = I.length + 1 := by rw [← hTl]; simp [lnF]
    have hli : (lnF I).length = I.length := by simp [lnF]
    have hrl : I.length < raw.length := by rw [hT, List.length_take] at hTl; omega
    have hrl' : (I.length : Int) < raw.length := by omega
    have hi12 : I.length < 12 := by rw [hT, List.length_take] at hTl; omega
    have hgz : (raw.map (AV.int .i64))[I.length]? = some (.int .i64 z) := by
      rw [List.getElem?_map, hTr I.length (by omega), hTz]
      simp
    have hp := pick3_den z 7 (hr z (hTm z (by rw [hTz]; simp))) (by omega)
    have hc := chk_i64 (I.length : Int) (by omega)
    have hlast : T.getLastD 0 = z := by rw [hTz]; simp
    rw [hlen] at q6
    have hd := strC_dead (lnF T)
    have hd3 : deadC ((lnF I).map AV.str ++ [.str [101, 110, 100]]) = false := strC_dead2 _ _
    have hch := chunksS (lnF T)
    rw [hlen] at hch
    have hch2 : chunks 1 false (I.length + 1) ((lnF I).map AV.str ++ [.str [101, 110, 100]]) = some ((lnF I).map AV.str ++ [.str [101, 110, 100]]) := by
      have := chunksS (lnF I ++ [[101, 110, 100]])
      rwa [List.length_append, hli, List.map_append] at this
    have htk : ((lnF T).map AV.str).take I.length = (lnF I).map AV.str := by
      rw [hl1, List.map_append]
      exact List.take_left' (by simp [hli])
    have hdr : ((lnF T).map AV.str).drop (I.length + 1) = [] := List.drop_of_length_le (by simp [hlen])
    have hfin : (lnF T).take (T.length - 1) = lnF I := by
      rw [hl1, hTl]
      exact List.take_left' (by simp [hli])
    have hlt1 : (I.length : Int) < I.length + 1 := by omega
    unfold lines12
    rw [← hT, hlast]
    by_cases h6 : pickF z 7 = 6
    · rw [if_pos ⟨hraw, h6⟩, hfin]
      simp [A20, -deadC, -getElem?_pos, -List.getElem?_map, -List.map_take, -List.map_drop, hL, hdf, q0, q6, hb, hp, hc, hrl, hrl', hgz, h6, hlen, hd, hd3, htk, hdr, hch2, hlt1, hli]
    · rw [if_neg (fun k => h6 k.2)]
      simp [A20, -deadC, -getElem?_pos, -List.getElem?_map, hL, hdf, q0, q6, hb, hp, hc, hrl, hrl', hgz, eq_false h6, hlen, hd, hd3, hch]
end Go.Proofs.YtdcgldhhdajocaaDoor.Rx
namespace Go.Proofs.YtdcgldhhdajocaaDoor.Rx
open Go
set_option linter.unusedSimpArgs false
set_option linter.unusedVariables false

/-- What one edit gives back, by those beside it. -/
def invE (prev : Int) (e : Edit) (next : List Edit) (a : List (List UInt8)) : List Edit :=
  if e.op = 2 then (match next with | f :: _ => if f.op = 3 then [⟨2, f.n, []⟩] else [] | [] => []) ++ [⟨3, e.n, a.take e.n.toNat⟩]
  else if e.op = 1 then [⟨1, e.n, []⟩] else if prev = 2 then [] else [⟨2, e.n, []⟩]
def invP : Int → List Edit → List (List UInt8) → List Edit
  | _, [], _ => []
  | prev, e :: r, a => invE prev e r a ++ invP e.op r (if e.op = 3 then a else a.drop e.n.toNat)
theorem invP_eq : ∀ (s : List Edit) (last : Int) (a : List (List UInt8)), rightF last s = true → (last = 2 → headOp s ≠ 3) → invP last s a = invR s a
  | [], last, a, h, h2 => rfl
  | e :: r, last, a, h, h2 => by
    obtain ⟨hme, hne, hno, hr⟩ := rightF_cons h
    obtain ⟨hop, hn1, hn2, hn3, hn4⟩ := mayB_op hme
    rcases hop with o1 | o2 | o3
    · rw [o1] at hr
      have i := invP_eq r 1 (a.drop e.n.toNat) hr (by omega)
      simp only [invP, invE, invR, o1, if_true, show ¬ (1 : Int) = 2 by decide, show ¬ (1 : Int) = 3 by decide, if_false, i]
      rfl
    · rw [o2] at hr
      have hi : invR (e :: r) a = swp ⟨3, e.n, a.take e.n.toNat⟩ (invR r (a.drop e.n.toNat)) := by simp [invR, o2]
      by_cases hh : headOp r = 3
      · match r, hh with
        | f :: r', hh =>
          have o3 : f.op = 3 := hh
          obtain ⟨hmf, hnf, hof, hrf⟩ := rightF_cons hr
          rw [o3] at hrf
          have i := invP_eq r' 3 (a.drop e.n.toNat) hrf (by omega)
          have hi2 : invR (f :: r') (a.drop e.n.toNat) = ⟨2, f.n, []⟩ :: invR r' (a.drop e.n.toNat) := by simp [invR, o3]
          rw [hi, hi2]
          simp only [invP, invE, o2, o3, if_true, show ¬ (2 : Int) = 3 by decide, show ¬ (3 : Int) = 2 by decide, show ¬ (3 : Int) = 1 by decide, if_false, i]
          simp [swp]
        | [], hh => simp [headOp] at hh
      · have i := invP_eq r 2 (a.drop e.n.toNat) hr (fun _ => hh)
        have hsw : invR (e :: r) a = ⟨3, e.n, a.take e.n.toNat⟩ :: invR r (a.drop e.n.toNat) := by
          rw [hi]
          match r, hh, hr with
          | [], _, _ => rfl
          | f :: r', hh, hr =>
            obtain ⟨hmf, hnf, hof, hrf⟩ := rightF_cons hr
            have o1 : f.op = 1 := by
              rcases (mayB_op hmf).1 with k | k | k
              · exact k
              · exact absurd k hnf
              · exact absurd k hh
            simp [invR, o1, swp]
        rw [hsw, ← i]
        cases r with
        | nil => simp [invP, invE, o2]
        | cons f r' =>
          have hf : ¬ f.op = 3 := hh
          simp [invP, invE, o2, hf]
    · rw [o3] at hr
      have hl2 : last ≠ 2 := fun k => h2 k o3
      have i := invP_eq r 3 a hr (by omega)
      simp [invP, invE, invR, o3, hl2, i]
theorem sz_two {n : Nat} (h : n ≤ 2 * 1048576) : (n + 1) * 40 ≤ 140737488355328 ∧ (n + 1 + 1) * 40 ≤ 140737488355328 := by omega
def Inv2R (R : List AV) (ex : Ex) (st' : St) : Prop := ex = .exit 0 ∧ st'.df = none ∧ ∃ q, st'.env 7 = some (.sl 3 R q)
set_option maxHeartbeats 4000000 in
theorem inv2_loop (s : List Edit) (hl : s.length ≤ 1048576) (hm : ∀ e ∈ s, mayB e = true) (A : List (List UInt8)) (hA : A.length ≤ 1099511627776) (R : List AV) : ∀ (rest pre : List Edit) (k : Nat) (j : Int) (out : List AV) (p : Perm) (i : Int) (bx : Bx) (pm : Pm), s = pre ++ rest → i = pre.length → j = k → k + many 1 2 rest = A.length → AppOk pm p → out.length ≤ 2 * pre.length → R = out ++ (invP (lastOp pre) rest (A.drop k)).map eE →
    Res (RunD Sy (.loop L24x0) ⟨ofL [(0, sE s), (1, sS A), (7, .sl 3 out p), (8, .int .i64 j), (9, .int .i64 i)], bx, pm, none⟩) fun ex st' => Inv2R R ex st'
  | [], pre, k, j, out, p, i, bx, pm, hs, hi, hj, hk, hp, ho, hR => by
    subst hi
    rw [List.append_nil] at hs
    subst hs
    rw [RunD_loop]
    simp [L24x0]
    exact ⟨rfl, rfl, p, by rw [hR]; simp [invP]⟩
  | e :: rest, pre, k, j, out, p, i, bx, pm, hs, hi, hj, hk, hp, ho, hR => by
    have hlt : (pre.length : Int) < s.length := by rw [hs]; simp; omega
    have hg : (s.map eE)[pre.length]? = some (eE e) := by rw [hs]; simp
    have hme := hm e (by rw [hs]; simp)
    obtain ⟨hop, hn1, hn2, hn3, hn4⟩ := mayB_op hme
    have hmn := many_nn 1 2 (s := rest) (fun x hx => hm x (by rw [hs]; simp [hx]))
    simp only [eE] at hg
    subst hi hj
    have hc := chk_i64 ((pre.length : Int) + 1) (by omega)
    have hla : lastOp (pre ++ [e]) = e.op := lastOp_snoc _ _
    have hpe : s = (pre ++ [e]) ++ rest := by rw [hs]; simp
    have hpl : (pre.length : Int) + 1 = ((pre ++ [e]).length : Int) := by simp
    have hpn : (pre ++ [e]).length = pre.length + 1 := by simp
    have hps : pre.length < 1048576 := by omega
    obtain ⟨hsz, hsz2⟩ := sz_two (n := out.length) (Nat.le_trans ho (Nat.mul_le_mul_left 2 (Nat.le_of_lt hps)))
    have hs2 : s.length = pre.length + 1 + rest.length := by rw [hs]; simp; omega
    refine loop_step fun K hK => ?_
    rcases hop with o1 | o2 | o3
    · have hm1 : many 1 2 (e :: rest) = e.n + many 1 2 rest := by simp [many, o1]
      have hck := chk_i64 ((k : Int) + e.n) (by omega)
      have hR1 : invP (lastOp pre) (e :: rest) (A.drop k) = ⟨1, e.n, []⟩ :: invP 1 rest (A.drop (k + e.n.toNat)) := by simp [invP, invE, o1, List.drop_drop]
      have hls : e.ls = [] := hn4 (by omega)
      rw [hls] at hg
      rw [o1] at hla
      by_cases hye : (pre.length : Int) + 1 < s.length
      · rcases hp with rfl | ⟨t, v, rfl, hpm⟩
        · simp [L24x0, -getElem?_pos, -List.getElem?_map, hc, hlt, hg, hsz, hsz2, hck, o1, eq_true hye]
          rw [hK]
          refine inv2_loop s hl hm A hA R rest (pre ++ [e]) (k + e.n.toNat) ((k : Int) + e.n) _ _ _ _ _ hpe ?_ ?_ ?_ (AppOk.tok (by simp)) ?_ ?_
          · simp <;> omega
          · first | rfl | omega
          · omega
          · have := ho; simp only [List.length_nil, List.length_append, List.length_cons] at this ⊢; omega
          · (rw [hR, hla, hR1]) <;> simp [eE]
        · simp [L24x0, -getElem?_pos, -List.getElem?_map, hc, hlt, hg, hsz, hsz2, hck, o1, eq_true hye, hpm]
          rw [hK]
          refine inv2_loop s hl hm A hA R rest (pre ++ [e]) (k + e.n.toNat) ((k : Int) + e.n) _ _ _ _ _ hpe ?_ ?_ ?_ (AppOk.tok (by simp)) ?_ ?_
          · simp <;> omega
          · first | rfl | omega
          · omega
          · have := ho; simp only [List.length_nil, List.length_append, List.length_cons] at this ⊢; omega
          · (rw [hR, hla, hR1]) <;> simp [eE]
      · rcases hp with rfl | ⟨t, v, rfl, hpm⟩
        · simp [L24x0, -getElem?_pos, -List.getElem?_map, hc, hlt, hg, hsz, hsz2, hck, o1, eq_false hye]
          rw [hK]
          refine inv2_loop s hl hm A hA R rest (pre ++ [e]) (k + e.n.toNat) ((k : Int) + e.n) _ _ _ _ _ hpe ?_ ?_ ?_ (AppOk.tok (by simp)) ?_ ?_
          · simp <;> omega
          · first | rfl | omega
          · omega
          · have := ho; simp only [List.length_nil, List.length_append, List.length_cons] at this ⊢; omega
          · (rw [hR, hla, hR1]) <;> simp [eE]
        · simp [L24x0, -getElem?_pos, -List.getElem?_map, hc, hlt, hg, hsz, hsz2, hck, o1, eq_false hye, hpm]
          rw [hK]
          refine inv2_loop s hl hm A hA R rest (pre ++ [e]) (k + e.n.toNat) ((k : Int) + e.n) _ _ _ _ _ hpe ?_ ?_ ?_ (AppOk.tok (by simp)) ?_ ?_
          · simp <;> omega
          · first | rfl | omega
          · omega
          · have := ho; simp only [List.length_nil, List.length_append, List.length_cons] at this ⊢; omega
          · (rw [hR, hla, hR1]) <;> simp [eE]
    · have hm1 : many 1 2 (e :: rest) = e.n + many 1 2 rest := by simp [many, o2]
      have hck := chk_i64 ((k : Int) + e.n) (by omega)
      have hkn : ((k : Int) + e.n).toNat = k + e.n.toNat := by omega
      have hk0 : (k : Int) ≤ k + e.n := by omega
      have hk3 : (k : Int) ≤ k + max e.n 0 := by omega
      have hk1 : (k : Int) + e.n ≤ A.length := by omega
      have hk2 : (0 : Int) ≤ k + e.n := by omega
      have hsl : ((A.map AV.str).take (k + e.n.toNat)).drop k = ((A.drop k).take e.n.toNat).map AV.str := by
        rw [List.map_take, List.map_drop, List.drop_take]
        congr 1
        omega
      have hls : e.ls = [] := hn4 (by omega)
      rw [hls] at hg
      rw [o2] at hla
      cases rest with
      | nil =>
        have hye : ¬ (pre.length : Int) + 1 < s.length := by rw [hs2]; simp
        have hR1 : invP (lastOp pre) [e] (A.drop k) = ⟨3, e.n, (A.drop k).take e.n.toNat⟩ :: invP 2 [] (A.drop (k + e.n.toNat)) := by simp [invP, invE, o2]
        rcases hp with rfl | ⟨t, v, rfl, hpm⟩
        · simp [L24x0, -getElem?_pos, -List.getElem?_map, hc, hlt, hg, hsz, hsz2, hck, hkn, hk0, hk3, hk1, hk2, hsl, -List.map_take, -List.map_drop, o2, eq_false hye]
          rw [hK]
          refine inv2_loop s hl hm A hA R [] (pre ++ [e]) (k + e.n.toNat) ((k : Int) + e.n) _ _ _ _ _ hpe ?_ ?_ ?_ (AppOk.tok (by simp)) ?_ ?_
          · simp <;> omega
          · first | rfl | omega
          · omega
          · have := ho; simp only [List.length_nil, List.length_append, List.length_cons] at this ⊢; omega
          · (rw [hR, hla, hR1]) <;> simp [eE]
        · simp [L24x0, -getElem?_pos, -List.getElem?_map, hc, hlt, hg, hsz, hsz2, hck, hkn, hk0, hk3, hk1, hk2, hsl, -List.map_take, -List.map_drop, o2, eq_false hye, hpm]
          rw [hK]
          refine inv2_loop s hl hm A hA R [] (pre ++ [e]) (k + e.n.toNat) ((k : Int) + e.n) _ _ _ _ _ hpe ?_ ?_ ?_ (AppOk.tok (by simp)) ?_ ?_
          · simp <;> omega
          · first | rfl | omega
          · omega
          · have := ho; simp only [List.length_nil, List.length_append, List.length_cons] at this ⊢; omega
          · (rw [hR, hla, hR1]) <;> simp [eE]
      | cons f r =>
        have hye : (pre.length : Int) + 1 < s.length := by rw [hs2]; simp; omega
        have hc2 : chk .i64 ((pre.length : Int) + 1 + 1) = some (.int .i64 ((pre.length : Int) + 1 + 1)) := chk_i64 _ (by omega)
        have hgf : (s.map eE)[pre.length + 1]? = some (.agg [.int .i64 f.op, .int .i64 f.n, .sl 1 (f.ls.map .str) .no]) := by rw [hs]; simp [eE]
        by_cases hf : f.op = 3
        · have hR1 : invP (lastOp pre) (e :: f :: r) (A.drop k) = ⟨2, f.n, []⟩ :: ⟨3, e.n, (A.drop k).take e.n.toNat⟩ :: invP 2 (f :: r) (A.drop (k + e.n.toNat)) := by simp [invP, invE, o2, hf, List.drop_drop]
          rcases hp with rfl | ⟨t, v, rfl, hpm⟩
          · simp [L24x0, -getElem?_pos, -List.getElem?_map, hc, hlt, hg, hsz, hsz2, hck, hkn, hk0, hk3, hk1, hk2, hsl, -List.map_take, -List.map_drop, o2, eq_true hye, hgf, eq_true hf]
            rw [hK]
            refine inv2_loop s hl hm A hA R (f :: r) (pre ++ [e]) (k + e.n.toNat) ((k : Int) + e.n) _ _ _ _ _ hpe ?_ ?_ ?_ (AppOk.tok (by simp)) ?_ ?_
            · simp <;> omega
            · first | rfl | omega
            · omega
            · have := ho; simp only [List.length_nil, List.length_append, List.length_cons] at this ⊢; omega
            · (rw [hR, hla, hR1]) <;> simp [eE]
          · simp [L24x0, -getElem?_pos, -List.getElem?_map, hc, hlt, hg, hsz, hsz2, hck, hkn, hk0, hk3, hk1, hk2, hsl, -List.map_take, -List.map_drop, o2, eq_true hye, hgf, eq_true hf, hpm]
            rw [hK]
            refine inv2_loop s hl hm A hA R (f :: r) (pre ++ [e]) (k + e.n.toNat) ((k : Int) + e.n) _ _ _ _ _ hpe ?_ ?_ ?_ (AppOk.tok (by simp)) ?_ ?_
            · simp <;> omega
            · first | rfl | omega
            · omega
            · have := ho; simp only [List.length_nil, List.length_append, List.length_cons] at this ⊢; omega
            · (rw [hR, hla, hR1]) <;> simp [eE]
        · have hR1 : invP (lastOp pre) (e :: f :: r) (A.drop k) = ⟨3, e.n, (A.drop k).take e.n.toNat⟩ :: invP 2 (f :: r) (A.drop (k + e.n.toNat)) := by simp [invP, invE, o2, hf, List.drop_drop]
          rcases hp with rfl | ⟨t, v, rfl, hpm⟩
          · simp [L24x0, -getElem?_pos, -List.getElem?_map, hc, hlt, hg, hsz, hsz2, hck, hkn, hk0, hk3, hk1, hk2, hsl, -List.map_take, -List.map_drop, o2, eq_true hye, hgf, eq_false hf]
            rw [hK]
            refine inv2_loop s hl hm A hA R (f :: r) (pre ++ [e]) (k + e.n.toNat) ((k : Int) + e.n) _ _ _ _ _ hpe ?_ ?_ ?_ (AppOk.tok (by simp)) ?_ ?_
            · simp <;> omega
            · first | rfl | omega
            · omega
            · have := ho; simp only [List.length_nil, List.length_append, List.length_cons] at this ⊢; omega
            · (rw [hR, hla, hR1]) <;> simp [eE]
          · simp [L24x0, -getElem?_pos, -List.getElem?_map, hc, hlt, hg, hsz, hsz2, hck, hkn, hk0, hk3, hk1, hk2, hsl, -List.map_take, -List.map_drop, o2, eq_true hye, hgf, eq_false hf, hpm]
            rw [hK]
            refine inv2_loop s hl hm A hA R (f :: r) (pre ++ [e]) (k + e.n.toNat) ((k : Int) + e.n) _ _ _ _ _ hpe ?_ ?_ ?_ (AppOk.tok (by simp)) ?_ ?_
            · simp <;> omega
            · first | rfl | omega
            · omega
            · have := ho; simp only [List.length_nil, List.length_append, List.length_cons] at this ⊢; omega
            · (rw [hR, hla, hR1]) <;> simp [eE]
    · have hm1 : many 1 2 (e :: rest) = many 1 2 rest := by simp [many, o3]
      rw [o3] at hla
      rcases nil_or_last pre with rfl | ⟨l, q, rfl⟩
      · have hR1 : invP (lastOp []) (e :: rest) (A.drop k) = ⟨2, e.n, []⟩ :: invP 3 rest (A.drop k) := by simp [invP, invE, o3, lastOp]
        have hlt2 : (0 : Int) < s.length := by simpa using hlt
        have hlt3 : 0 < s.length := by omega
        have hc2 : chk .i64 1 = some (.int .i64 1) := rfl
        have hg2 : (s.map eE)[0]? = some (.agg [.int .i64 e.op, .int .i64 e.n, .sl 1 (e.ls.map .str) .no]) := by simpa only [List.length_nil] using hg
        by_cases hye : (1 : Int) < s.length
        · rcases hp with rfl | ⟨t, v, rfl, hpm⟩
          · simp [L24x0, -getElem?_pos, -List.getElem?_map, hc, hlt, hg, hsz, hsz2, hlt2, hlt3, hc2, hg2, o3, eq_true hye]
            rw [hK]
            refine inv2_loop s hl hm A hA R rest ([] ++ [e]) k k _ _ _ _ _ hpe ?_ ?_ ?_ (AppOk.tok (by simp)) ?_ ?_
            · simp <;> omega
            · first | rfl | omega
            · omega
            · have := ho; simp only [List.length_nil, List.length_append, List.length_cons] at this ⊢; omega
            · (rw [hR, hla, hR1]) <;> simp [eE]
          · simp [L24x0, -getElem?_pos, -List.getElem?_map, hc, hlt, hg, hsz, hsz2, hlt2, hlt3, hc2, hg2, o3, eq_true hye, hpm]
            rw [hK]
            refine inv2_loop s hl hm A hA R rest ([] ++ [e]) k k _ _ _ _ _ hpe ?_ ?_ ?_ (AppOk.tok (by simp)) ?_ ?_
            · simp <;> omega
            · first | rfl | omega
            · omega
            · have := ho; simp only [List.length_nil, List.length_append, List.length_cons] at this ⊢; omega
            · (rw [hR, hla, hR1]) <;> simp [eE]
        · rcases hp with rfl | ⟨t, v, rfl, hpm⟩
          · simp [L24x0, -getElem?_pos, -List.getElem?_map, hc, hlt, hg, hsz, hsz2, hlt2, hlt3, hc2, hg2, o3, eq_false hye]
            rw [hK]
            refine inv2_loop s hl hm A hA R rest ([] ++ [e]) k k _ _ _ _ _ hpe ?_ ?_ ?_ (AppOk.tok (by simp)) ?_ ?_
            · simp <;> omega
            · first | rfl | omega
            · omega
            · have := ho; simp only [List.length_nil, List.length_append, List.length_cons] at this ⊢; omega
            · (rw [hR, hla, hR1]) <;> simp [eE]
          · simp [L24x0, -getElem?_pos, -List.getElem?_map, hc, hlt, hg, hsz, hsz2, hlt2, hlt3, hc2, hg2, o3, eq_false hye, hpm]
            rw [hK]
            refine inv2_loop s hl hm A hA R rest ([] ++ [e]) k k _ _ _ _ _ hpe ?_ ?_ ?_ (AppOk.tok (by simp)) ?_ ?_
            · simp <;> omega
            · first | rfl | omega
            · omega
            · have := ho; simp only [List.length_nil, List.length_append, List.length_cons] at this ⊢; omega
            · (rw [hR, hla, hR1]) <;> simp [eE]
      · have hq : (s.map eE)[l.length]? = some (.agg [.int .i64 q.op, .int .i64 q.n, .sl 1 (q.ls.map .str) .no]) := by rw [hs]; simp [eE]
        have hcl := chk_i64 (l.length : Int) (by simp at hlt; omega)
        have hll : (l.length : Int) < s.length := by simp at hlt; omega
        have hla2 : lastOp (l ++ [q]) = q.op := lastOp_snoc _ _
        have hnz : ¬ (l.length : Int) + 1 = 0 := by omega
        have hlt2 : (l.length : Int) + 1 < s.length := by simpa using hlt
        have hc2 : chk .i64 ((l.length : Int) + 1 + 1) = some (.int .i64 ((l.length : Int) + 1 + 1)) := chk_i64 _ (by omega)
        have hg2 : (s.map eE)[l.length + 1]? = some (.agg [.int .i64 e.op, .int .i64 e.n, .sl 1 (e.ls.map .str) .no]) := by simpa only [List.length_append, List.length_cons, List.length_nil, Nat.zero_add] using hg
        by_cases hq2 : q.op = 2
        · have hR1 : invP (lastOp (l ++ [q])) (e :: rest) (A.drop k) = invP 3 rest (A.drop k) := by simp [invP, invE, o3, hla2, hq2]
          by_cases hye : (l.length : Int) + 1 + 1 < s.length
          · simp [L24x0, -getElem?_pos, -List.getElem?_map, hc, hlt, hg, hsz, hsz2, hlt2, hc2, hg2, o3, eq_true hye, hq, hcl, hll, eq_true hq2, eq_false hnz]
            rw [hK]
            refine inv2_loop s hl hm A hA R rest ((l ++ [q]) ++ [e]) k k _ _ _ _ _ hpe ?_ ?_ ?_ hp ?_ ?_
            · simp <;> omega
            · first | rfl | omega
            · omega
            · have := ho; simp only [List.length_nil, List.length_append, List.length_cons] at this ⊢; omega
            · (rw [hR, hla, hR1]) <;> simp [eE]
          · simp [L24x0, -getElem?_pos, -List.getElem?_map, hc, hlt, hg, hsz, hsz2, hlt2, hc2, hg2, o3, eq_false hye, hq, hcl, hll, eq_true hq2, eq_false hnz]
            rw [hK]
            refine inv2_loop s hl hm A hA R rest ((l ++ [q]) ++ [e]) k k _ _ _ _ _ hpe ?_ ?_ ?_ hp ?_ ?_
            · simp <;> omega
            · first | rfl | omega
            · omega
            · have := ho; simp only [List.length_nil, List.length_append, List.length_cons] at this ⊢; omega
            · (rw [hR, hla, hR1]) <;> simp [eE]
        · have hR1 : invP (lastOp (l ++ [q])) (e :: rest) (A.drop k) = ⟨2, e.n, []⟩ :: invP 3 rest (A.drop k) := by simp [invP, invE, o3, hla2, hq2]
          by_cases hye : (l.length : Int) + 1 + 1 < s.length
          · rcases hp with rfl | ⟨t, v, rfl, hpm⟩
            · simp [L24x0, -getElem?_pos, -List.getElem?_map, hc, hlt, hg, hsz, hsz2, hlt2, hc2, hg2, o3, eq_true hye, hq, hcl, hll, eq_false hq2, eq_false hnz]
              rw [hK]
              refine inv2_loop s hl hm A hA R rest ((l ++ [q]) ++ [e]) k k _ _ _ _ _ hpe ?_ ?_ ?_ (AppOk.tok (by simp)) ?_ ?_
              · simp <;> omega
              · first | rfl | omega
              · omega
              · have := ho; simp only [List.length_nil, List.length_append, List.length_cons] at this ⊢; omega
              · (rw [hR, hla, hR1]) <;> simp [eE]
            · simp [L24x0, -getElem?_pos, -List.getElem?_map, hc, hlt, hg, hsz, hsz2, hlt2, hc2, hg2, o3, eq_true hye, hq, hcl, hll, eq_false hq2, eq_false hnz, hpm]
              rw [hK]
              refine inv2_loop s hl hm A hA R rest ((l ++ [q]) ++ [e]) k k _ _ _ _ _ hpe ?_ ?_ ?_ (AppOk.tok (by simp)) ?_ ?_
              · simp <;> omega
              · first | rfl | omega
              · omega
              · have := ho; simp only [List.length_nil, List.length_append, List.length_cons] at this ⊢; omega
              · (rw [hR, hla, hR1]) <;> simp [eE]
          · rcases hp with rfl | ⟨t, v, rfl, hpm⟩
            · simp [L24x0, -getElem?_pos, -List.getElem?_map, hc, hlt, hg, hsz, hsz2, hlt2, hc2, hg2, o3, eq_false hye, hq, hcl, hll, eq_false hq2, eq_false hnz]
              rw [hK]
              refine inv2_loop s hl hm A hA R rest ((l ++ [q]) ++ [e]) k k _ _ _ _ _ hpe ?_ ?_ ?_ (AppOk.tok (by simp)) ?_ ?_
              · simp <;> omega
              · first | rfl | omega
              · omega
              · have := ho; simp only [List.length_nil, List.length_append, List.length_cons] at this ⊢; omega
              · (rw [hR, hla, hR1]) <;> simp [eE]
            · simp [L24x0, -getElem?_pos, -List.getElem?_map, hc, hlt, hg, hsz, hsz2, hlt2, hc2, hg2, o3, eq_false hye, hq, hcl, hll, eq_false hq2, eq_false hnz, hpm]
              rw [hK]
              refine inv2_loop s hl hm A hA R rest ((l ++ [q]) ++ [e]) k k _ _ _ _ _ hpe ?_ ?_ ?_ (AppOk.tok (by simp)) ?_ ?_
              · simp <;> omega
              · first | rfl | omega
              · omega
              · have := ho; simp only [List.length_nil, List.length_append, List.length_cons] at this ⊢; omega
              · (rw [hR, hla, hR1]) <;> simp [eE]
theorem invert2_den (s : List Edit) (hl : s.length ≤ 1048576) (a : List (List UInt8)) (hal : a.length ≤ 1099511627776) : Den Sy 24 [sE s, sS a] = some (.tup [sE (if fitsF s a.length = 0 then invS s [] a else []), .int .i64 (fitsF s a.length)]) := by
  rw [Den_fun Sy (af := A24) rfl rfl _ rfl]
  have h0 := fits2_den s (by omega) a
  by_cases hf : fitsF s a.length = 0
  · obtain ⟨hb, hm⟩ := fitsF_zero hf
    have hP : invP 0 s a = invR s a := invP_eq s 0 a hb (by omega)
    have hS : invS s [] a = invR s a := by simpa using invS_eq s 0 [] a hb (by omega) (by simp [lastOp])
    obtain ⟨ex, st', h, rfl, hd, q, h7⟩ := inv2_loop s hl (rightF_may hb) a hal ((invR s a).map eE) s [] 0 0 [] .nil 0 (ofL []) none' rfl rfl rfl (by rw [hm]; simp) (AppOk.nil _) (by simp) (by rw [← hP]; simp [lastOp])
    simp [A24, h0, h, hd, h7, hf, hS]
  · simp [A24, h0, hf]
end Go.Proofs.YtdcgldhhdajocaaDoor.Rx
namespace Go.Proofs.YtdcgldhhdajocaaDoor.Rx
open Go
set_option linter.unusedSimpArgs false
set_option linter.unusedVariables false

def isD (c : UInt8) : Prop := 48 ≤ c.toNat ∧ c.toNat ≤ 57
instance (c : UInt8) : Decidable (isD c) := inferInstanceAs (Decidable (_ ∧ _))
def valD (l : List UInt8) : Nat := l.foldl (fun n c => 10 * n + (c.toNat - 48)) 0
theorem valD_snoc (l : List UInt8) (c : UInt8) : valD (l ++ [c]) = 10 * valD l + (c.toNat - 48) := by simp [valD]
/-- A numeral without a 0 too many. -/
def fineD (l : List UInt8) : Bool := decide (0 < l.length) && (decide (l.length = 1) || decide (l.head? ≠ some 48))
theorem ofNat_dig {c : UInt8} (h : isD c) : UInt8.ofNat (48 + (c.toNat - 48)) = c := by
  have : 48 + (c.toNat - 48) = c.toNat := by have := h.1; omega
  rw [this]
  exact UInt8.ofNat_toNat
theorem snoc_cases (l : List UInt8) : l = [] ∨ ∃ a c, l = a ++ [c] := by
  rcases List.eq_nil_or_concat l with h | ⟨a, c, h⟩
  · exact .inl h
  · exact .inr ⟨a, c, by simpa using h⟩
theorem dec_val : ∀ (k : Nat) (l : List UInt8), l.length = k → (∀ c ∈ l, isD c) → fineD l = true → Lib.decDigits (valD l) = l ∧ valD l < 10 ^ l.length ∧ (l.head? ≠ some 48 → 1 ≤ valD l) := by
  intro k
  induction k with
  | zero =>
    intro l hl _ hf
    simp [fineD, hl] at hf
  | succ k ih =>
    intro l hl hd hf
    rcases snoc_cases l with rfl | ⟨a, c, rfl⟩
    · simp at hl
    · have hc : isD c := hd c (by simp)
      have hak : a.length = k := by simpa using hl
      have hc' := hc
      obtain ⟨hc1, hc2⟩ := hc'
      rw [valD_snoc]
      by_cases ha : a = []
      · subst ha
        have h0 : valD [] = 0 := rfl
        rw [h0]
        refine ⟨?_, by simp; omega, fun h => ?_⟩
        · rw [Lib.decDigits, dif_pos (by omega)]
          have := ofNat_dig hc
          simpa using this
        · have : c ≠ 48 := by simpa using h
          have : c.toNat ≠ 48 := fun e => this (by
            have h2 := UInt8.ofNat_toNat (x := c)
            rw [e] at h2
            exact h2.symm)
          omega
      · have hal : 0 < a.length := List.length_pos_iff.2 ha
        have hh : (a ++ [c]).head? = a.head? := by cases a with
          | nil => exact absurd rfl ha
          | cons x a => rfl
        have hne : a.head? ≠ some 48 := by
          simp only [fineD, Bool.and_eq_true, Bool.or_eq_true, decide_eq_true_eq, hh] at hf
          rcases hf.2 with h | h
          · simp at h; exact absurd h ha
          · exact h
        have hfa : fineD a = true := by simp [fineD, hal, hne]
        obtain ⟨i1, i2, i3⟩ := ih a hak (fun x hx => hd x (by simp [hx])) hfa
        have i4 := i3 hne
        refine ⟨?_, ?_, fun _ => by omega⟩
        · rw [Lib.decDigits, dif_neg (by omega)]
          have e1 : (10 * valD a + (c.toNat - 48)) / 10 = valD a := by omega
          have e2 : (10 * valD a + (c.toNat - 48)) % 10 = c.toNat - 48 := by omega
          rw [e1, e2, i1, ofNat_dig hc]
        · rw [List.length_append, List.length_cons, List.length_nil, Nat.pow_succ]
          omega
theorem val_dec : ∀ u : Nat, valD (Lib.decDigits u) = u ∧ fineD (Lib.decDigits u) = true := by
  intro u
  induction u using Nat.strongRecOn with
  | _ u ih =>
    rw [Lib.decDigits]
    by_cases h : u < 10
    · rw [dif_pos h]
      refine ⟨?_, by simp [fineD]⟩
      simp only [valD, List.foldl_cons, List.foldl_nil, dig_toNat u h]
      omega
    · rw [dif_neg h]
      obtain ⟨i1, i2⟩ := ih (u / 10) (by omega)
      refine ⟨?_, ?_⟩
      · rw [valD_snoc, i1, dig_toNat _ (by omega)]
        omega
      · cases hd : Lib.decDigits (u / 10) with
        | nil => exact absurd hd (decDigits_ne _)
        | cons x l =>
          have hx : x ≠ 48 := by
            rintro rfl
            have := (decDigits_zero _ _ hd).1
            omega
          simp [fineD, hx]
theorem dec_len9 (u : Nat) (h : (Lib.decDigits u).length ≤ 9) : u < 1000000000 := by
  have := (dec_val _ (Lib.decDigits u) rfl (decDigits_dig u) (val_dec u).2).2.1
  rw [(val_dec u).1] at this
  exact Nat.lt_of_lt_of_le this (Nat.pow_le_pow_right (by decide) h)
theorem dec_len10 : ∀ (k u : Nat), k < (Lib.decDigits u).length → 10 ^ k ≤ u ∨ k = 0
  | 0, u, h => .inr rfl
  | k + 1, u, h => by
    left
    rw [Lib.decDigits] at h
    by_cases hu : u < 10
    · rw [dif_pos hu] at h; simp at h
    · rw [dif_neg hu, List.length_append, List.length_cons, List.length_nil] at h
      rw [Nat.pow_succ]
      rcases dec_len10 k (u / 10) (by omega) with i | i
      · omega
      · subst i; omega
/-- What the document's Number reads. -/
def num2F (t : List UInt8) (c : UInt8) : List UInt8 → Nat → Nat → Int × List UInt8 × Bool
  | [], _, _ => (0, [], false)
  | x :: r, i, n => if i < 10 then (if x = c then ((n : Int), r, fineD (t.take i)) else if isD x then num2F t c r (i + 1) (10 * n + (x.toNat - 48)) else (0, [], false)) else (0, [], false)
theorem num2_sound (t : List UInt8) (c : UInt8) : ∀ (rest : List UInt8) (i n : Nat) (m : Int) (r : List UInt8), t = t.take i ++ rest → (t.take i).length = i → (∀ x ∈ t.take i, isD x) → n = valD (t.take i) → num2F t c rest i n = (m, r, true) →
    ∃ D : List UInt8, (∀ x ∈ D, isD x) ∧ D.length ≤ 9 ∧ fineD D = true ∧ t = D ++ c :: r ∧ m = valD D
  | [], i, n, m, r, ht, hi, hd, hn, h => by simp [num2F] at h
  | x :: rest, i, n, m, r, ht, hi, hd, hn, h => by
    simp only [num2F] at h
    split at h
    · rename_i h10
      split at h
      · rename_i hx
        simp only [Prod.mk.injEq] at h
        obtain ⟨rfl, rfl, h3⟩ := h
        subst hx
        exact ⟨t.take i, hd, by omega, h3, ht, by rw [hn]⟩
      · split at h
        · rename_i hxd
          have hti : t.take (i + 1) = t.take i ++ [x] := by
            conv => lhs; rw [ht]
            rw [List.take_append, hi]
            simp [List.take_of_length_le (show (t.take i).length ≤ i + 1 by omega)]
          refine num2_sound t c rest (i + 1) _ m r (by rw [hti, List.append_assoc]; exact ht) (by rw [hti]; simp [hi]) ?_ ?_ h
          · intro y hy
            rw [hti] at hy
            rcases List.mem_append.1 hy with hy | hy
            · exact hd y hy
            · rw [List.mem_singleton.1 hy]; exact hxd
          · rw [hti, valD_snoc, ← hn]
        · simp at h
    · simp at h
theorem num2_full (t : List UInt8) (c : UInt8) (r : List UInt8) (hc : ¬ isD c) : ∀ (E : List UInt8) (i n : Nat), t = t.take i ++ (E ++ c :: r) → (t.take i).length = i → n = valD (t.take i) → (∀ x ∈ E, isD x) → i + E.length ≤ 9 → num2F t c (E ++ c :: r) i n = ((valD (t.take i ++ E) : Int), r, fineD (t.take i ++ E))
  | [], i, n, ht, hi, hn, hE, h9 => by
    simp only [List.nil_append, num2F, List.append_nil]
    simp at h9
    rw [if_pos (by omega), if_pos trivial, hn]
  | x :: E, i, n, ht, hi, hn, hE, h9 => by
    have hx := hE x (by simp)
    have hxc : ¬ x = c := fun e => hc (e ▸ hx)
    simp only [List.length_cons] at h9
    simp only [List.cons_append, num2F]
    rw [if_pos (by omega), if_neg hxc, if_pos hx]
    have hti : t.take (i + 1) = t.take i ++ [x] := by
      conv => lhs; rw [ht]
      rw [List.take_append, hi]
      simp [List.take_of_length_le (show (t.take i).length ≤ i + 1 by omega)]
    have := num2_full t c r hc E (i + 1) (10 * n + (x.toNat - 48)) (by rw [hti, List.append_assoc]; exact ht) (by rw [hti]; simp [hi]) (by rw [hti, valD_snoc, ← hn]) (fun y hy => hE y (List.mem_cons_of_mem _ hy)) (by omega)
    rw [this, hti, List.append_assoc]
    rfl
/-- The document's Number and the program's. -/
theorem num2_iff (c : UInt8) (hc : 57 < c.toNat) (t : List UInt8) (m : Int) (r : List UInt8) : num2F t c t 0 0 = (m, r, true) ↔ numF c t = some (m, r) ∧ m < 1000000000 := by
  have hnd : ¬ isD c := fun h => by have := h.2; omega
  constructor
  · intro h
    obtain ⟨D, h1, h2, h3, h4, h5⟩ := num2_sound t c t 0 0 m r (by simp) (by simp) (by simp) rfl h
    obtain ⟨k1, k2, _⟩ := dec_val _ D rfl h1 h3
    have hlt : valD D < 1000000000 := Nat.lt_of_lt_of_le k2 (Nat.pow_le_pow_right (by decide) h2)
    refine ⟨?_, by omega⟩
    have := numF_itoa c hc (n := m) (by omega) (by omega) r
    rw [itoa_nn (by omega), h5, Int.toNat_natCast, k1, ← h4] at this
    rw [this, h5]
  · rintro ⟨h, hlt⟩
    have h1 := numF_eq h
    obtain ⟨h0, _, _⟩ := numF_spec h
    rw [itoa_nn h0] at h1
    have hl : (Lib.decDigits m.toNat).length ≤ 9 := by
      refine Nat.le_of_not_lt fun h9 => ?_
      rcases dec_len10 9 m.toNat h9 with i | i
      · have : (10 : Nat) ^ 9 = 1000000000 := by decide
        omega
      · simp at i
    have := num2_full t c r hnd (Lib.decDigits m.toNat) 0 0 (by simpa using h1) (by simp) rfl (decDigits_dig _) (by omega)
    rw [← h1] at this
    obtain ⟨k1, k2⟩ := val_dec m.toNat
    simp only [List.take_zero, List.nil_append, k1, k2] at this
    rw [this]
    congr 1
    omega
def Nu2R (x : Int × List UInt8 × Bool) (ex : Ex) (st' : St) : Prop := st'.df = none ∧ ((ex = .exit 0 ∧ x = (0, [], false)) ∨ (ex = .ret ∧ st'.env 4 = some (.int .i64 x.1) ∧ st'.env 5 = some (.str x.2.1) ∧ st'.env 6 = some (.bool x.2.2)))
set_option maxHeartbeats 1000000 in
theorem num2_loop (t : List UInt8) (c : UInt8) (bx : Bx) (pm : Pm) : ∀ (rest : List UInt8) (i n : Nat) (ji jn : Int), t = t.take i ++ rest → (t.take i).length = i → ji = i → jn = n → n < 10 ^ i → i ≤ 10 →
    Res (RunD Sy (.loop L58x0) ⟨ofL [(0, .str t), (1, .int .u8 c.toNat), (7, .int .i64 jn), (8, .int .i64 ji)], bx, pm, none⟩) fun ex st' => Nu2R (num2F t c rest i n) ex st'
  | [], i, n, ji, jn, ht, hi, hji, hjn, hn, h10 => by
    subst hji hjn
    have hl : t.length = i := by
      have := congrArg List.length ht
      simp [hi] at this
      rw [List.length_take] at hi
      omega
    have hlt : ¬ (i : Int) < t.length := by omega
    rw [RunD_loop]
    simp [L58x0, hlt, num2F]
    exact ⟨rfl, .inl ⟨rfl, rfl⟩⟩
  | x :: r, i, n, ji, jn, ht, hi, hji, hjn, hn, h10 => by
    subst hji hjn
    have hxi : t[i]? = some x := by
      have := List.getElem?_append_right (l₁ := t.take i) (l₂ := x :: r) (i := i) (by omega)
      rw [← ht, hi] at this
      simpa using this
    have hlt' : i < t.length := (List.getElem?_eq_some_iff.1 hxi).1
    have hlt : (i : Int) < t.length := by omega
    by_cases hi10 : i < 10
    · have hj10 : (i : Int) < 10 := by omega
      have hc := chk_i64 ((i : Int) + 1) (by omega)
      have hdr : t.drop (i + 1) = r := by
        conv => lhs; rw [ht]
        rw [List.drop_append, hi]
        simp [List.drop_of_length_le (show (t.take i).length ≤ i + 1 by omega)]
      have hle : (i : Int) + 1 ≤ t.length := by omega
      refine loop_step fun K hK => ?_
      simp only [num2F, if_pos hi10]
      by_cases hx : x = c
      · subst hx
        rw [if_pos rfl]
        by_cases h0 : 0 < i
        · by_cases h1 : (i : Int) = 1
          · have hF : fineD (t.take i) = true := by simp [fineD, hi, h0]; left; omega
            rw [hF]
            simp [L58x0, -getElem?_pos, hlt, hj10, hxi, hc, hdr, hle, eq_true h0, eq_true h1]
            exact ⟨rfl, .inr ⟨rfl, by simp, by simp, by simp⟩⟩
          · obtain ⟨y, hy⟩ : ∃ y, t[0]? = some y := ⟨t[0], by simp⟩
            have hh : (t.take i).head? = some y := by rw [List.head?_eq_getElem?, List.getElem?_take, if_pos h0, hy]
            have hi1 : ¬ i = 1 := by omega
            by_cases hy8 : y = 48
            · have hF : fineD (t.take i) = false := by simp [fineD, hi, hh, hi1, hy8]
              have hyn : (y.toNat : Int) = 48 := by rw [hy8]; rfl
              rw [hF]
              simp [L58x0, -getElem?_pos, hlt, hj10, hxi, hc, hdr, hle, eq_true h0, eq_false h1, hy, hyn]
              exact ⟨rfl, .inr ⟨rfl, by simp, by simp, by simp⟩⟩
            · have hF : fineD (t.take i) = true := by simp [fineD, hi, hh, h0, hy8]
              have hyn : ¬ (y.toNat : Int) = 48 := fun e => hy8 (UInt8.toNat_inj.1 (by
                have h48 : (48 : UInt8).toNat = 48 := rfl
                omega))
              rw [hF]
              simp [L58x0, -getElem?_pos, hlt, hj10, hxi, hc, hdr, hle, eq_true h0, eq_false h1, hy, eq_false hyn]
              exact ⟨rfl, .inr ⟨rfl, by simp, by simp, by simp⟩⟩
        · have hF : fineD (t.take i) = false := by simp [fineD, hi, h0]
          rw [hF]
          simp [L58x0, -getElem?_pos, hlt, hj10, hxi, hc, hdr, hle, eq_false h0]
          exact ⟨rfl, .inr ⟨rfl, by simp, by simp, by simp⟩⟩
      · rw [if_neg hx]
        have hx' : ¬ (x.toNat : Int) = c.toNat := fun e => hx (UInt8.toNat_inj.1 (Int.ofNat_inj.1 e))
        by_cases hd : isD x
        · rw [if_pos hd]
          obtain ⟨d1, d2⟩ := hd
          have hti : t.take (i + 1) = t.take i ++ [x] := by
            conv => lhs; rw [ht]
            rw [List.take_append, hi]
            simp [List.take_of_length_le (show (t.take i).length ≤ i + 1 by omega)]
          have hp : 10 ^ i ≤ 1000000000 := Nat.pow_le_pow_right (n := 10) (by decide) (show i ≤ 9 by omega)
          have e1 : ¬ (x.toNat : Int) < 48 := by omega
          have e2 : ¬ (57 : Int) < x.toNat := by omega
          have k1 := chk_i64 (10 * (n : Int)) (by omega)
          have k2 : chk .u8 ((x.toNat : Int) - 48) = some (.int .u8 ((x.toNat : Int) - 48)) := by
            unfold chk
            rw [if_pos (by rw [IntKind.wrap_u8]; omega)]
          have k3 := chk_i64 ((x.toNat : Int) - 48) (by omega)
          have k4 := chk_i64 (10 * (n : Int) + ((x.toNat : Int) - 48)) (by omega)
          simp [L58x0, -getElem?_pos, hlt, hj10, hxi, hc, eq_false hx', eq_false e1, eq_false e2, k1, k2, k3, k4, Rx.conv]
          rw [hK]
          refine num2_loop t c bx pm r (i + 1) (10 * n + (x.toNat - 48)) _ _ ?_ ?_ ?_ ?_ ?_ ?_
          · rw [hti, List.append_assoc]; exact ht
          · rw [hti]; simp [hi]
          · omega
          · omega
          · rw [Nat.pow_succ]; omega
          · omega
        · rw [if_neg hd]
          by_cases e1 : (x.toNat : Int) < 48
          · simp [L58x0, -getElem?_pos, hlt, hj10, hxi, hc, eq_false hx', eq_true e1]
            exact ⟨rfl, .inr ⟨rfl, by simp, by simp, by simp⟩⟩
          · have e2 : (57 : Int) < x.toNat := by unfold isD at hd; omega
            simp [L58x0, -getElem?_pos, hlt, hj10, hxi, hc, eq_false hx', eq_false e1, eq_true e2]
            exact ⟨rfl, .inr ⟨rfl, by simp, by simp, by simp⟩⟩
    · have hj10 : ¬ (i : Int) < 10 := by omega
      rw [RunD_loop]
      simp [L58x0, hlt, hj10, num2F, hi10]
      exact ⟨rfl, .inl ⟨rfl, rfl⟩⟩
theorem number2_den (c : UInt8) (t : List UInt8) : Den Sy 58 [.str t, .int .u8 c.toNat] = some (.tup [.int .i64 (num2F t c t 0 0).1, .str (num2F t c t 0 0).2.1, .bool (num2F t c t 0 0).2.2]) := by
  rw [Den_fun Sy (af := A58) rfl rfl _ rfl]
  obtain ⟨ex, st', hL, hdf, h⟩ := num2_loop t c (ofL []) none' t 0 0 0 0 (by simp) (by simp) rfl rfl (by decide) (by decide)
  rcases h with ⟨rfl, hx⟩ | ⟨rfl, h4, h5, h6⟩
  · rw [hx]
    simp [A58, hL, hdf]
  · simp [A58, hL, hdf, h4, h5, h6]
end Go.Proofs.YtdcgldhhdajocaaDoor.Rx
namespace Go.Proofs.YtdcgldhhdajocaaDoor.Rx
open Go
set_option linter.unusedSimpArgs false
set_option linter.unusedVariables false

def op2F (c : UInt8) : Int := if c = 61 then 1 else if c = 45 then 2 else if c = 43 then 3 else 0
theorem op2_opF (c : UInt8) : (0 < opF c → op2F c = opF c) ∧ (¬ 0 < opF c → op2F c = 0) := by
  by_cases h1 : c = 61
  · subst h1; exact ⟨fun _ => by decide, fun h => absurd (by decide) h⟩
  · by_cases h2 : c = 45
    · subst h2; exact ⟨fun _ => by decide, fun h => absurd (by decide) h⟩
    · by_cases h3 : c = 43
      · subst h3; exact ⟨fun _ => by decide, fun h => absurd (by decide) h⟩
      · have e : op2F c = 0 := by simp [op2F, h1, h2, h3]
        refine ⟨fun h => ?_, fun _ => e⟩
        have := opF_sgn c h
        rcases this.2 with k | k | k
        · rw [k] at this; simp [sgn] at this; exact absurd this.symm h1
        · rw [k] at this; simp [sgn] at this; exact absurd this.symm h2
        · rw [k] at this; simp [sgn] at this; exact absurd this.symm h3
def Sg (c : UInt8) (r : List UInt8) (v : Nat) (bx : Bx) (pm : Pm) (o : Int) (ex : Ex) (st' : St) : Prop := ex = .exit 0 ∧ st' = ⟨ofL [(0, .str (c :: r)), (2, .ptr 2 v 0), (5, .int .i64 o), (6, .int .i64 3), (16, .bool false)], bx, pm, none⟩
theorem sg3 (c : UInt8) (r : List UInt8) (v : Nat) (bx : Bx) (pm : Pm) (o : Int) : Res (RunD Sy (.loop L49x0) ⟨ofL [(0, .str (c :: r)), (2, .ptr 2 v 0), (5, .int .i64 o), (6, .int .i64 3)], bx, pm, none⟩) fun ex st' => Sg c r v bx pm o ex st' := by
  rw [RunD_loop]
  simp [L49x0]
  exact ⟨rfl, rfl⟩
theorem ne_nat {a c : UInt8} (h : ¬ c = a) : ¬ (a.toNat : Int) = c.toNat := fun e => h (UInt8.toNat_inj.1 (Int.ofNat_inj.1 e)).symm
theorem sg_at (c : UInt8) (r : List UInt8) (v : Nat) (bx : Bx) (pm : Pm) (o : Int) (k : Nat) (d : UInt8) (hk : k < 3) (hd : ([61, 45, 43] : List UInt8)[k]? = some d) (R : Int) (h : Res (RunD Sy (.loop L49x0) ⟨ofL [(0, .str (c :: r)), (2, .ptr 2 v 0), (5, .int .i64 (if c = d then (k : Int) + 1 else o)), (6, .int .i64 ((k : Int) + 1))], bx, pm, none⟩) fun ex st' => Sg c r v bx pm R ex st') :
    Res (RunD Sy (.loop L49x0) ⟨ofL [(0, .str (c :: r)), (2, .ptr 2 v 0), (5, .int .i64 o), (6, .int .i64 k)], bx, pm, none⟩) fun ex st' => Sg c r v bx pm R ex st' := by
  have hlt : (k : Int) < 3 := by omega
  have hc := chk_i64 ((k : Int) + 1) (by omega)
  refine loop_step fun K hK => ?_
  by_cases hcd : c = d
  · subst hcd
    rw [if_pos rfl] at h
    simp [L49x0, -getElem?_pos, List.getElem?_cons_zero, hlt, hc, hd]
    rw [hK]
    exact h
  · have hn := ne_nat hcd
    rw [if_neg hcd] at h
    simp [L49x0, -getElem?_pos, List.getElem?_cons_zero, hlt, hc, hd, eq_false hn]
    rw [hK]
    exact h
theorem sg_loop (c : UInt8) (r : List UInt8) (v : Nat) (bx : Bx) (pm : Pm) : Res (RunD Sy (.loop L49x0) ⟨ofL [(0, .str (c :: r)), (2, .ptr 2 v 0), (5, .int .i64 0), (6, .int .i64 0)], bx, pm, none⟩) fun ex st' => Sg c r v bx pm (op2F c) ex st' := by
  refine sg_at c r v bx pm 0 0 61 (by decide) rfl _ (sg_at c r v bx pm _ 1 45 (by decide) rfl _ (sg_at c r v bx pm _ 2 43 (by decide) rfl _ ?_))
  have e : (if c = 43 then ((2 : Nat) : Int) + 1 else if c = 45 then ((1 : Nat) : Int) + 1 else if c = 61 then ((0 : Nat) : Int) + 1 else 0) = op2F c := by
    unfold op2F
    by_cases h1 : c = 61
    · subst h1; decide
    · by_cases h2 : c = 45
      · subst h2; decide
      · by_cases h3 : c = 43
        · subst h3; decide
        · simp [h1, h2, h3]
  rw [e]
  exact sg3 c r v bx pm (op2F c)
/-- What the document's Number reads of few bytes is what the program's does, where it reads any. -/
theorem num2_none {c : UInt8} (hc : 57 < c.toNat) {t : List UInt8} (h : (num2F t c t 0 0).2.2 = false) : ∀ m r, numF c t = some (m, r) → 1000000000 ≤ m := by
  intro m r hm
  refine Int.not_lt.1 fun hlt => ?_
  have := (num2_iff c hc t m r).2 ⟨hm, hlt⟩
  rw [this] at h
  simp at h
theorem num2_some {c : UInt8} (hc : 57 < c.toNat) {t : List UInt8} (h : (num2F t c t 0 0).2.2 = true) : numF c t = some ((num2F t c t 0 0).1, (num2F t c t 0 0).2.1) := by
  exact ((num2_iff c hc t _ _).1 (by rw [← h])).1
/-- Where a box stands as the edit that is told. -/
abbrev zEd : List AV := [.int .i64 0, .int .i64 0, .sl 1 [] .nil]
def Li2 (n v2 v10 : Nat) (ls : List AV) (ex : Ex) (st' : St) : Option (List (List UInt8) × List UInt8) → Prop
  | some (L, r) => ex = .exit 2 ∧ ∃ bx' pm' p', st' = ⟨ofL [(2, .ptr 2 v2 0), (5, .int .i64 3), (7, .int .i64 n), (8, .str r), (10, .ptr 10 v10 0), (11, .int .i64 n), (53, .bool false)], bx', pm', none⟩ ∧ bx' 2 = some (v2, zEd) ∧ bx' 10 = some (v10, [.int .i64 3, .int .i64 n, .sl 1 (ls ++ L.map .str) p'])
  | none => ex = .ret ∧ st'.df = none ∧ st'.env 2 = some (.ptr 2 v2 0) ∧ st'.env 3 = some (.str []) ∧ st'.env 4 = some (.bool false) ∧ st'.bx 2 = some (v2, zEd)
theorem Li2.step {n v2 v10 : Nat} {ls : List AV} {x : List UInt8} {ex : Ex} {st' : St} {o : Option (List (List UInt8) × List UInt8)} (h : Li2 n v2 v10 (ls ++ [.str x]) ex st' o) : Li2 n v2 v10 ls ex st' (o.map fun p => (x :: p.1, p.2)) := by
  cases o with
  | none => exact h
  | some Lr =>
    obtain ⟨L, r⟩ := Lr
    obtain ⟨h1, bx', pm', p', h2, h3, h4⟩ := h
    exact ⟨h1, bx', pm', p', h2, h3, by rw [h4]; simp⟩
theorem num2_58 (t : List UInt8) : Den Sy 58 [.str t, .int .u8 58] = some (.tup [.int .i64 (num2F t 58 t 0 0).1, .str (num2F t 58 t 0 0).2.1, .bool (num2F t 58 t 0 0).2.2]) := number2_den 58 t
theorem num2_59 (t : List UInt8) : Den Sy 58 [.str t, .int .u8 59] = some (.tup [.int .i64 (num2F t 59 t 0 0).1, .str (num2F t 59 t 0 0).2.1, .bool (num2F t 59 t 0 0).2.2]) := number2_den 59 t
theorem linesF_none {k : Nat} {t : List UInt8} (ht : t.length < 1000000000) (h : (num2F t 58 t 0 0).2.2 = false) : linesF (k + 1) t = none := by
  unfold linesF
  cases hm : numF 58 t with
  | none => rfl
  | some mr =>
    obtain ⟨m, r⟩ := mr
    have h9 := num2_none (by decide) h m r hm
    have := (numF_spec hm).2.2
    simp only
    rw [if_neg (by omega)]
theorem linesF_some {k : Nat} {t r : List UInt8} {m : Int} (h : numF 58 t = some (m, r)) : linesF (k + 1) t = if m ≤ r.length then (linesF k (r.drop m.toNat)).map fun p => (r.take m.toNat :: p.1, p.2) else none := by
  conv => lhs; unfold linesF
  rw [h]
set_option maxHeartbeats 1000000 in
theorem lines2_loop (n v2 v10 : Nat) (hn : n ≤ 1048576) : ∀ (k i : Nat) (j : Int) (t : List UInt8) (ls : List AV) (p : Perm) (bx : Bx) (pm : Pm), j = i → i + k = n → t.length < 1000000000 → bx 2 = some (v2, zEd) → bx 10 = some (v10, [.int .i64 3, .int .i64 n, .sl 1 ls p]) → AppAt 77 pm p → ls.length = i →
    Res (RunD Sy (.loop L49x1) ⟨ofL [(2, .ptr 2 v2 0), (5, .int .i64 3), (7, .int .i64 n), (8, .str t), (10, .ptr 10 v10 0), (11, .int .i64 j)], bx, pm, none⟩) fun ex st' => Li2 n v2 v10 ls ex st' (linesF k t)
  | 0, i, j, t, ls, p, bx, pm, hj, hi, ht, hb2, hb, hp, hls => by
    have : i = n := by omega
    subst this hj
    rw [RunD_loop]
    simp [L49x1, linesF]
    exact ⟨rfl, bx, pm, p, rfl, hb2, by simpa using hb⟩
  | k + 1, i, j, t, ls, p, bx, pm, hj, hi, ht, hb2, hb, hp, hls => by
    subst hj
    have hlt : (i : Int) < n := by omega
    have hc := chk_i64 ((i : Int) + 1) (by omega)
    have hsz : (ls.length + 1) * 16 ≤ 140737488355328 := by omega
    have hnd := num2_58 t
    refine loop_step fun K hK => ?_
    cases hq : (num2F t 58 t 0 0).2.2 with
    | false =>
      rw [linesF_none ht hq]
      rw [hq] at hnd
      simp [L49x1, hlt, hnd, hb2]
      exact ⟨rfl, rfl, by simp, by simp, by simp, by simp [hb2]⟩
    | true =>
      have hsome := num2_some (by decide) hq
      rw [hq] at hnd
      generalize hm : (num2F t 58 t 0 0).1 = m at hnd hsome
      generalize hr : (num2F t 58 t 0 0).2.1 = r at hnd hsome
      rw [linesF_some hsome]
      obtain ⟨hm0, hmr, hrl⟩ := numF_spec hsome
      by_cases hle : m ≤ r.length
      · rw [if_pos hle]
        have hle' : ¬ (r.length : Int) < m := by omega
        have hlen : (ls ++ [AV.str (r.take m.toNat)]).length = i + 1 := by simp [hls]
        have hdl : (r.drop m.toNat).length < 1000000000 := by rw [List.length_drop]; omega
        rcases hp with rfl | ⟨v, rfl, hpm⟩
        · simp [L49x1, hlt, hnd, hb2, hb, hle, hle', hm0, hsz, hc]
          rw [hK]
          refine Res.eqv (fun ex st h => Li2.step h) (lines2_loop n v2 v10 hn k (i + 1) _ (r.drop m.toNat) (ls ++ [.str (r.take m.toNat)]) (.tok 77 (nextP pm 77)) _ _ ?_ ?_ hdl ?_ ?_ ?_ hlen)
          · simp
          · omega
          · simp [hb2]
          · simp
          · exact .inr ⟨_, rfl, by simp⟩
        · simp [L49x1, hlt, hnd, hb2, hb, hle, hle', hm0, hsz, hc, hpm]
          rw [hK]
          refine Res.eqv (fun ex st h => Li2.step h) (lines2_loop n v2 v10 hn k (i + 1) _ (r.drop m.toNat) (ls ++ [.str (r.take m.toNat)]) (.tok 77 (v + 1)) _ _ ?_ ?_ hdl ?_ ?_ ?_ hlen)
          · simp
          · omega
          · simp [hb2]
          · simp
          · exact .inr ⟨_, rfl, by simp⟩
      · rw [if_neg hle]
        have hle' : (r.length : Int) < m := by omega
        simp [L49x1, hlt, hnd, hb2, hb, hle']
        exact ⟨rfl, rfl, by simp, by simp, by simp, by simp [hb2]⟩
theorem lines2_skip (o : Int) (ho : ¬ o = 3) (v2 v10 : Nat) (n : Int) (u : List UInt8) (bx : Bx) (pm : Pm) : RunD Sy (.loop L49x1) ⟨ofL [(2, .ptr 2 v2 0), (5, .int .i64 o), (7, .int .i64 n), (8, .str u), (10, .ptr 10 v10 0), (11, .int .i64 0)], bx, pm, none⟩ = some (.exit 2, ⟨ofL [(2, .ptr 2 v2 0), (5, .int .i64 o), (7, .int .i64 n), (8, .str u), (10, .ptr 10 v10 0), (11, .int .i64 0), (53, .bool false)], bx, pm, none⟩) := by
  rw [RunD_loop]
  simp [L49x1, ho]
set_option maxHeartbeats 1000000 in
theorem edit2_den (c : UInt8) (r : List UInt8) (hr : r.length < 1000000000) : Den Sy 49 [.str (c :: r)] = some (match editF (c :: r) with
    | some (e, u) => .tup [eE e, .str u, .bool true]
    | none => .tup [.agg [.int .i64 0, .int .i64 0, .sl 1 [] .no], .str [], .bool false]) := by
  rw [Den_fun Sy (af := A49) rfl rfl _ rfl]
  obtain ⟨ex, st', hL, rfl, rfl⟩ := sg_loop c r 0 (upd (ofL []) 2 (0, zEd)) none'
  have hnd := num2_59 r
  have hop := op2_opF c
  simp only [editF]
  by_cases h0 : 0 < opF c
  · have ho := hop.1 h0
    have hk := (opF_sgn c h0).2
    rw [ho] at hL
    have hnz : ¬ opF c = 0 := by omega
    rw [if_pos h0]
    cases hq : (num2F r 59 r 0 0).2.2 with
    | false =>
      have hnone : ∀ n u, numF 59 r = some (n, u) → ¬ n ≤ 1048576 := fun n u h => by have := num2_none (by decide) hq n u h; omega
      rw [hq] at hnd
      cases hm : numF 59 r with
      | none => simp [A49, nextB, hL, hnd, hnz]
      | some nu =>
        obtain ⟨n, u⟩ := nu
        have := hnone n u hm
        simp [A49, nextB, hL, hnd, hnz, this]
    | true =>
      have hsome := num2_some (by decide) hq
      rw [hq] at hnd
      generalize hm : (num2F r 59 r 0 0).1 = n at hnd hsome
      generalize hu : (num2F r 59 r 0 0).2.1 = u at hnd hsome
      rw [hsome]
      obtain ⟨hn0, hnr, hul⟩ := numF_spec hsome
      by_cases hle : n ≤ 1048576
      · have hle' : ¬ 1048576 < n := by omega
        by_cases h3 : opF c = 3
        · obtain ⟨k, rfl⟩ : ∃ k : Nat, n = k := ⟨n.toNat, by omega⟩
          obtain ⟨ex2, st2, hL2, hR⟩ := lines2_loop k 0 0 (by omega) k 0 0 u [] .nil (upd (upd (upd (ofL []) 2 (0, zEd)) 10 (0, zEd)) 10 (0, [.int .i64 3, .int .i64 k, .sl 1 [] .nil])) none' rfl (by omega) (by omega) (by simp) (by simp) (.inl rfl) rfl
          rw [h3] at hL
          cases hl : linesF k u with
          | none =>
            rw [hl] at hR
            obtain ⟨rfl, hdf, e2, e3, e4, b2⟩ := hR
            simp [A49, nextB, hL, hnd, hle, hle', h3, hL2, hl, hdf, e2, e3, e4, b2]
          | some Lr =>
            obtain ⟨L, w⟩ := Lr
            rw [hl] at hR
            obtain ⟨rfl, bx', pm', p', rfl, b2, b10⟩ := hR
            simp [A49, nextB, hL, hnd, hle, hle', h3, hL2, hl, b2, b10, eE]
        · have hsk := lines2_skip (opF c) h3 0 0 n u (upd (upd (upd (ofL []) 2 (0, zEd)) 10 (0, zEd)) 10 (0, [.int .i64 (opF c), .int .i64 n, .sl 1 [] .nil])) none'
          simp [A49, nextB, hL, hnd, hle, hle', h3, hnz, hsk, eE]
      · have hle' : 1048576 < n := by omega
        simp [A49, nextB, hL, hnd, hle, hle', hnz]
  · have ho := hop.2 h0
    rw [ho] at hL
    rw [if_neg h0]
    simp [A49, nextB, hL, hnd]
def De2 (out : List AV) (ex : Ex) (st' : St) : Option (List Edit) → Prop
  | some L => ex = .exit 0 ∧ st'.df = none ∧ ∃ q, st'.env 4 = some (.sl 3 (out ++ L.map eE) q)
  | none => ex = .ret ∧ st'.df = none ∧ st'.env 2 = some (.sl 3 [] .nil) ∧ st'.env 3 = some (.int .i64 11)
theorem De2.step {out : List AV} {x : Edit} {ex : Ex} {st' : St} {o : Option (List Edit)} (h : De2 (out ++ [eE x]) ex st' o) : De2 out ex st' (o.map (x :: ·)) := by
  cases o with
  | none => exact h
  | some L =>
    obtain ⟨h1, h2, q, h3⟩ := h
    exact ⟨h1, h2, q, by rw [h3]; simp⟩
set_option maxHeartbeats 1000000 in
theorem dec2_loop : ∀ (k : Nat) (t : List UInt8) (out : List AV) (p : Perm) (bx : Bx) (pm : Pm), t.length ≤ k → k < 1000000000 → AppAt 24 pm p → out.length + k < 1000000000 →
    Res (RunD Sy (.loop L29x0) ⟨ofL [(4, .sl 3 out p), (5, .str t)], bx, pm, none⟩) fun ex st' => De2 out ex st' (decL k t)
  | k, [], out, p, bx, pm, ht, hk, hp, ho => by
    have e : decL k [] = some [] := by cases k <;> rfl
    rw [e, RunD_loop]
    simp [L29x0]
    exact ⟨rfl, rfl, p, by simp⟩
  | 0, c :: r, out, p, bx, pm, ht, hk, hp, ho => by simp at ht
  | k + 1, c :: r, out, p, bx, pm, ht, hk, hp, ho => by
    have hrl : r.length ≤ k := by simpa using ht
    have hed := edit2_den c r (by omega)
    have hsz : (out.length + 1) * 40 ≤ 140737488355328 := by omega
    refine loop_step fun K hK => ?_
    simp only [decL]
    cases he : editF (c :: r) with
    | none =>
      rw [he] at hed
      simp [L29x0, hed]
      exact ⟨rfl, rfl, by simp, by simp⟩
    | some eu =>
      obtain ⟨⟨op, n, ls⟩, u⟩ := eu
      rw [he] at hed
      simp only [eE] at hed
      have hul := editF_len he
      have hul' : u.length ≤ k := by simp only [List.length_cons] at hul; omega
      rcases hp with rfl | ⟨v, rfl, hpm⟩
      · simp [L29x0, hed, hsz]
        rw [hK]
        refine Res.eqv (fun ex st h => De2.step h) (dec2_loop k u (out ++ [eE ⟨op, n, ls⟩]) (.tok 24 (nextP pm 24)) _ _ hul' (by omega) ?_ ?_)
        · exact .inr ⟨_, rfl, by simp⟩
        · simp; omega
      · simp [L29x0, hed, hsz, hpm]
        rw [hK]
        refine Res.eqv (fun ex st h => De2.step h) (dec2_loop k u (out ++ [eE ⟨op, n, ls⟩]) (.tok 24 (v + 1)) _ _ hul' (by omega) ?_ ?_)
        · exact .inr ⟨_, rfl, by simp⟩
        · simp; omega
theorem decode2_den (t : List UInt8) (ht : t.length < 500000000) : Den Sy 29 [.str t] = some (match decF t with
      | some s => .tup [sE s, .int .i64 0]
      | none => .tup [sE [], .int .i64 11]) := by
  rw [Den_fun Sy (af := A29) rfl rfl _ rfl]
  obtain ⟨ex, st', hL, hR⟩ := dec2_loop t.length t [] .nil (ofL []) none' (Nat.le_refl _) (by omega) (.inl rfl) (by simp; omega)
  unfold decF
  cases hd : decL t.length t with
  | none =>
    rw [hd] at hR
    obtain ⟨rfl, hdf, h2, h3⟩ := hR
    simp [A29, hL, hdf, h2, h3]
  | some s =>
    rw [hd] at hR
    obtain ⟨rfl, hdf, q, h4⟩ := hR
    have hlen := decL_len hd
    have hrd := right2_den s (by omega)
    by_cases hr : rightB s = true
    · simp [A29, hL, hdf, h4, hrd, hr]
    · simp [A29, hL, hdf, h4, hrd, hr]
end Go.Proofs.YtdcgldhhdajocaaDoor.Rx
namespace Go.Proofs.YtdcgldhhdajocaaDoor.Rx
open Go
set_option linter.unusedSimpArgs false
set_option linter.unusedVariables false

def clipE (e : Edit) : Edit := ⟨e.op, e.n, e.ls.take 10⟩
def oddF (some_ : List Edit) : List Edit := (some_.take 6).map clipE
/-- What the law was handed, and what has been done ahead. -/
abbrev Td (A0 A1 A2 A3 A4 A5 A6 : AV) (l : List (Nat × AV)) : Env := ofL ((0, A0) :: (1, A1) :: (2, A2) :: (3, A3) :: (4, A4) :: (5, A5) :: (6, A6) :: (15, .bool true) :: l)
def Tl0 (sm : List Edit) (A1 A2 A3 A4 A5 A6 : AV) (R : List AV) (ex : Ex) (st' : St) : Prop := ex = .exit 0 ∧ ∃ bx pm q i, st' = ⟨Td (sE sm) A1 A2 A3 A4 A5 A6 [(16, .sl 3 R q), (17, i), (59, .bool false)], bx, pm, none⟩
set_option maxHeartbeats 1000000 in
theorem tl_loop0 (sm : List Edit) (A1 A2 A3 A4 A5 A6 : AV) (R : List AV) : ∀ (k : Nat) (rest pre : List Edit) (i : Int) (out : List AV) (p : Perm) (bx : Bx) (pm : Pm), sm = pre ++ rest → i = pre.length → k + pre.length = 6 → AppAt 77 pm p → out.length = pre.length → R = out ++ ((rest.take k).map clipE).map eE →
    Res (RunD Sy (.loop L3x0) ⟨Td (sE sm) A1 A2 A3 A4 A5 A6 [(16, .sl 3 out p), (17, .int .i64 i)], bx, pm, none⟩) fun ex st' => Tl0 sm A1 A2 A3 A4 A5 A6 R ex st'
  | k, [], pre, i, out, p, bx, pm, hs, hi, hk, hp, ho, hR => by
    subst hi
    rw [List.append_nil] at hs
    subst hs
    have hR' : R = out := by rw [hR]; simp
    subst hR'
    rw [RunD_loop]
    simp [L3x0]
    exact ⟨rfl, bx, pm, p, _, rfl⟩
  | 0, e :: rest, pre, i, out, p, bx, pm, hs, hi, hk, hp, ho, hR => by
    subst hi
    have hlt : (pre.length : Int) < sm.length := by rw [hs]; simp; omega
    have h6 : ¬ (pre.length : Int) < 6 := by omega
    have hR' : R = out := by rw [hR]; simp
    subst hR'
    rw [RunD_loop]
    simp [L3x0, hlt, h6]
    exact ⟨rfl, bx, pm, p, _, rfl⟩
  | k + 1, e :: rest, pre, i, out, p, bx, pm, hs, hi, hk, hp, ho, hR => by
    subst hi
    have hlt : (pre.length : Int) < sm.length := by rw [hs]; simp; omega
    have h6 : (pre.length : Int) < 6 := by omega
    have hg : (sm.map eE)[pre.length]? = some (eE e) := by rw [hs]; simp
    have hc := chk_i64 ((pre.length : Int) + 1) (by omega)
    have hsz : (out.length + 1) * 40 ≤ 140737488355328 := by omega
    obtain ⟨op, n, ls⟩ := e
    simp only [eE] at hg
    obtain ⟨m, hm⟩ : ∃ m : Nat, m = min ls.length 10 := ⟨_, rfl⟩
    have htk : (ls.map AV.str).take m = (ls.take 10).map AV.str := by
      rw [← List.map_take, hm]
      congr 1
      by_cases h : ls.length ≤ 10
      · rw [Nat.min_eq_left h, List.take_of_length_le (Nat.le_refl _), List.take_of_length_le h]
      · rw [Nat.min_eq_right (by omega)]
    have hmn : (m : Int) ≤ ls.length := by omega
    have hmi : (if (10 : Int) < ls.length then (10 : Int) else ls.length) = (m : Int) := by split <;> omega
    refine loop_step fun K hK => ?_
    rcases hp with rfl | ⟨v, rfl, hpm⟩
    · simp [L3x0, -getElem?_pos, -List.getElem?_map, -List.map_take, hlt, h6, hg, hc, hsz, hmi, hmn, htk]
      rw [hK]
      refine tl_loop0 sm A1 A2 A3 A4 A5 A6 R k rest (pre ++ [⟨op, n, ls⟩]) _ _ _ _ _ ?_ ?_ ?_ (.inr ⟨_, rfl, by simp⟩) ?_ ?_
      · simp [hs]
      · simp
      · simp; omega
      · simp [ho]
      · rw [hR]; simp [clipE, eE]
    · simp [L3x0, -getElem?_pos, -List.getElem?_map, -List.map_take, hlt, h6, hg, hc, hsz, hmi, hmn, htk, hpm]
      rw [hK]
      refine tl_loop0 sm A1 A2 A3 A4 A5 A6 R k rest (pre ++ [⟨op, n, ls⟩]) _ _ _ _ _ ?_ ?_ ?_ (.inr ⟨_, rfl, by simp⟩) ?_ ?_
      · simp [hs]
      · simp
      · simp; omega
      · simp [ho]
      · rw [hR]; simp [clipE, eE]
/-- A script and lines: both answers are the same. -/
theorem pair_den (x : List Edit) (hx : x.length ≤ 1048576) (y : List (List UInt8)) (hy : y.length ≤ 1099511627776) : ∃ (R : List (List UInt8)) (I : List Edit) (f : Int),
    Den Sy 21 [sE x, sS y] = some (.tup [sS R, .int .i64 f]) ∧ Den Sy 22 [sE x, sS y] = some (.tup [sS R, .int .i64 f]) ∧ Den Sy 23 [sE x, sS y] = some (.tup [sE I, .int .i64 f]) ∧ Den Sy 24 [sE x, sS y] = some (.tup [sE I, .int .i64 f]) ∧
    Den Sy 25 [sS R, sS R] = some (.bool true) ∧ Den Sy 26 [sE I, sE I] = some (.bool true) := by
  have d1 := apply_den x hx y
  have d2 := apply2_den x hx y
  have d3 := invert_den x hx y (by omega)
  have d4 := invert2_den x hx y hy
  by_cases h : fitsF x y.length = 0
  · obtain ⟨hr, hm⟩ := fitsF_zero h
    have hmay := rightF_may hr
    have hl := apply_len x y hmay hm
    have hle := (many_le 1 3 hmay).2
    have hI : invS x [] y = invR x y := by simpa using invS_eq x 0 [] y hr (by omega) (by simp [lastOp])
    have hIl := inv_len x y
    obtain ⟨b1, _, _⟩ := back_all x 0 0 y hr ⟨by omega, by omega, by omega, by omega, by omega⟩ (by omega) hm
    have hIr : rightB (invR x y) = true := b1
    have d5 := texts_den (applyB x y) (applyB x y) (by omega)
    have d6 := same_den (invR x y) (invR x y) (by omega) (small_ls (rightF_may hIr))
    simp only [applyF, h, if_true, applyA_map, hI, decide_true] at d1 d2 d3 d4 d5 d6
    exact ⟨_, _, _, d1, d2, d3, d4, d5, d6⟩
  · have d5 := texts_den [] [] (by simp)
    have d6 := same_den [] [] (by simp) (by simp)
    simp only [applyF, h, if_false, decide_true] at d1 d2 d3 d4 d5 d6
    exact ⟨[], [], _, d1, d2, d3, d4, d5, d6⟩
/-- A script: both answers are the same. -/
theorem one_den (x : List Edit) (hx : x.length ≤ 1048576) (hb : (encL x).length ≤ 1099511627776) : ∃ (r : Bool) (a b c : Int) (u : List UInt8) (e : Int),
    Den Sy 12 [sE x] = some (.tup [.int .i64 a, .int .i64 b]) ∧ Den Sy 13 [sE x] = some (.tup [.int .i64 a, .int .i64 b]) ∧ Den Sy 14 [sE x] = some (.tup [.str u, .int .i64 e]) ∧ Den Sy 15 [sE x] = some (.tup [.str u, .int .i64 e]) ∧
    Den Sy 16 [sE x] = some (.bool r) ∧ Den Sy 17 [sE x] = some (.bool r) ∧ Den Sy 18 [sE x] = some (.int .i64 c) ∧ Den Sy 19 [sE x] = some (.int .i64 c) := by
  have d1 := spans_den x (by omega)
  have d2 := spans2_den x (by omega)
  have d3 := encode_den x (by omega) hb
  have d4 := encode2_den x (by omega) hb
  have d5 := right_den x (by omega)
  have d6 := right2_den x (by omega)
  have d7 := cost_den x (by omega)
  have d8 := cost2_den x (by omega)
  by_cases hr : rightB x = true
  · rw [if_pos hr] at d3 d4
    exact ⟨_, _, _, _, _, _, d1, d2, d3, d4, d5, d6, d7, d8⟩
  · rw [if_neg hr] at d3 d4
    exact ⟨_, _, _, _, _, _, d1, d2, d3, d4, d5, d6, d7, d8⟩
abbrev T1 (A2 A3 A4 A5 A6 A19 A20 X XS I : AV) (l : List (Nat × AV)) : Env := ofL ((2, A2) :: (3, A3) :: (4, A4) :: (5, A5) :: (6, A6) :: (15, .bool true) :: (19, A19) :: (20, A20) :: (22, X) :: (90, XS) :: (91, .int .i64 3) :: (92, I) :: l)
def Tl1 (A2 A3 A4 A5 A6 A19 A20 X XS I : AV) (bx : Bx) (pm : Pm) (ex : Ex) (st' : St) : Prop := ex = .exit 4 ∧ ∃ l, st' = ⟨T1 A2 A3 A4 A5 A6 A19 A20 X XS I l, bx, pm, none⟩
set_option maxHeartbeats 1000000 in
theorem tl_loop1 (A2 A3 A4 A5 A6 A19 A20 XS I : AV) (x : List Edit) (hx : x.length ≤ 1048576) (ys : List (List (List UInt8))) (hys : ∀ y ∈ ys, y.length ≤ 1099511627776) (hl : ys.length ≤ 1048576) (q : Perm) (bx : Bx) (pm : Pm) : ∀ (rest pre : List (List (List UInt8))) (j : Int), ys = pre ++ rest → j = pre.length →
    Res (RunD Sy (.loop L3x1) ⟨T1 A2 A3 A4 A5 A6 A19 A20 (sE x) XS I [(156, .sl 1 (ys.map sS) q), (157, .int .i64 ys.length), (158, .int .i64 j)], bx, pm, none⟩) fun ex st' => Tl1 A2 A3 A4 A5 A6 A19 A20 (sE x) XS I bx pm ex st'
  | [], pre, j, hs, hj => by
    subst hj
    rw [List.append_nil] at hs
    subst hs
    rw [RunD_loop]
    simp [L3x1]
    exact ⟨rfl, _, rfl⟩
  | y :: rest, pre, j, hs, hj => by
    subst hj
    have hlt : (pre.length : Int) < ys.length := by rw [hs]; simp; omega
    have hg : (ys.map sS)[pre.length]? = some (sS y) := by rw [hs]; simp
    have hc := chk_i64 ((pre.length : Int) + 1) (by omega)
    obtain ⟨R, D, f, d1, d2, d3, d4, d5, d6⟩ := pair_den x hx y (hys y (by rw [hs]; simp))
    refine loop_step fun K hK => ?_
    simp [L3x1, -getElem?_pos, -List.getElem?_map, List.getElem?_cons_zero, List.getElem?_cons_succ, hlt, hg, hc, d1, d2, d3, d4, d5, d6]
    rw [hK]
    exact tl_loop1 A2 A3 A4 A5 A6 A19 A20 XS I x hx ys hys hl q bx pm rest (pre ++ [y]) ((pre.length : Int) + 1) (by simp [hs]) (by simp)
abbrev T2 (A2 A3 A4 A5 A6 A19 A20 XS I : AV) (l : List (Nat × AV)) : Env := ofL ((2, A2) :: (3, A3) :: (4, A4) :: (5, A5) :: (6, A6) :: (15, .bool true) :: (19, A19) :: (20, A20) :: (90, XS) :: (91, .int .i64 3) :: (92, I) :: l)
def Tl2 (A2 A3 A4 A5 A6 A19 A20 XS : AV) (bx : Bx) (pm : Pm) (ex : Ex) (st' : St) : Prop := ex = .exit 2 ∧ st' = ⟨T2 A2 A3 A4 A5 A6 A19 A20 XS (.int .i64 3) [(93, .bool false)], bx, pm, none⟩
set_option maxHeartbeats 4000000 in
set_option maxRecDepth 20000 in
theorem tl_loop2 (lines : List Int) (hli : ∀ c ∈ lines, inR c) (a : List (List UInt8)) (ha : a.length ≤ 1099511627776) (L : List (List UInt8)) (hL : L.length ≤ 1099511627776) (A4 A5 A6 A19 : AV) (xs : List (List Edit)) (hxs : ∀ x ∈ xs, x.length ≤ 1048576 ∧ (encL x).length ≤ 1099511627776) (h3 : xs.length = 3) (q : Perm) (bx : Bx) (pm : Pm) : ∀ (rest pre : List (List Edit)) (j : Int), xs = pre ++ rest → j = pre.length →
    Res (RunD Sy (.loop L3x2) ⟨T2 (iS lines) (sS a) A4 A5 A6 A19 (sS L) (.sl 1 (xs.map sE) q) (.int .i64 j) [], bx, pm, none⟩) fun ex st' => Tl2 (iS lines) (sS a) A4 A5 A6 A19 (sS L) (.sl 1 (xs.map sE) q) bx pm ex st'
  | [], pre, j, hs, hj => by
    subst hj
    rw [List.append_nil] at hs
    subst hs
    rw [RunD_loop]
    simp [L3x2, h3]
    exact ⟨rfl, rfl⟩
  | x :: rest, pre, j, hs, hj => by
    subst hj
    have hlt : (pre.length : Int) < 3 := by have := congrArg List.length hs; simp at this; omega
    have hg : (xs.map sE)[pre.length]? = some (sE x) := by rw [hs]; simp
    have hc := chk_i64 ((pre.length : Int) + 1) (by omega)
    obtain ⟨hx1, hx2⟩ := hxs x (by rw [hs]; simp)
    obtain ⟨r, m1, m2, m3, u, e, d1, d2, d3, d4, d5, d6, d7, d8⟩ := one_den x hx1 hx2
    have d9 := lines12_den lines hli
    have hl12 := lines12_len lines
    obtain ⟨m, hm⟩ : ∃ m : Nat, m = min a.length 20 := ⟨_, rfl⟩
    have hmn : (m : Int) ≤ a.length := by omega
    have hmi : (if (20 : Int) < a.length then (20 : Int) else a.length) = (m : Int) := by split <;> omega
    have htk : (a.map AV.str).take m = (a.take m).map AV.str := by rw [List.map_take]
    obtain ⟨ex, st', hL1, rfl, l, rfl⟩ := tl_loop1 (iS lines) (sS a) A4 A5 A6 A19 (sS L) (.sl 1 (xs.map sE) q) (.int .i64 pre.length) x hx1 [L, a.take m, lines12 lines] (by
      intro y hy
      rcases List.mem_cons.1 hy with rfl | hy
      · exact hL
      rcases List.mem_cons.1 hy with rfl | hy
      · rw [List.length_take]; omega
      · rw [List.mem_singleton.1 hy]; omega) (by simp) .clip bx pm [L, a.take m, lines12 lines] [] 0 rfl rfl
    have hL2 : RunD Sy (.loop L3x1) ⟨T1 (iS lines) (sS a) A4 A5 A6 A19 (sS L) (sE x) (.sl 1 (xs.map sE) q) (.int .i64 pre.length) [(156, .sl 1 [sS L, sS (a.take m), sS (lines12 lines)] .clip), (157, .int .i64 3), (158, .int .i64 0)], bx, pm, none⟩ = _ := hL1
    refine loop_step fun K hK => ?_
    simp [L3x2, -getElem?_pos, -List.getElem?_map, -List.map_take, List.getElem?_cons_zero, List.getElem?_cons_succ, hlt, hg, hc, d1, d2, d3, d4, d5, d6, d7, d8, d9, hmi, hmn, htk, eqv, hL2]
    rw [hK]
    exact tl_loop2 lines hli a ha L hL A4 A5 A6 A19 xs hxs h3 q bx pm rest (pre ++ [x]) ((pre.length : Int) + 1) (by simp [hs]) (by simp)
/-- A text: both answers are the same. -/
theorem text_den (x : List UInt8) (hx : x.length < 500000000) : ∃ (D : List Edit) (f : Int), Den Sy 28 [.str x] = some (.tup [sE D, .int .i64 f]) ∧ Den Sy 29 [.str x] = some (.tup [sE D, .int .i64 f]) ∧ Den Sy 26 [sE D, sE D] = some (.bool true) := by
  have d1 := decode_den x (by omega)
  have d2 := decode2_den x hx
  cases hd : decF x with
  | none =>
    rw [hd] at d1 d2
    have d3 := same_den [] [] (by simp) (by simp)
    simp only [decide_true] at d3
    exact ⟨[], 11, d1, d2, d3⟩
  | some d =>
    rw [hd] at d1 d2
    obtain ⟨_, hr⟩ := decF_eq hd
    have hl := decF_len hd
    have d3 := same_den d d (by omega) (small_ls (rightF_may hr))
    simp only [decide_true] at d3
    exact ⟨d, 0, d1, d2, d3⟩
def Tl3 (XS : AV) (n : Int) (bx : Bx) (pm : Pm) (ex : Ex) (st' : St) : Prop := ex = .exit 6 ∧ st' = ⟨ofL [(15, .bool true), (246, XS), (247, .int .i64 n), (248, .int .i64 n), (249, .bool false)], bx, pm, none⟩
set_option maxHeartbeats 1000000 in
theorem tl_loop3 (xs : List (List UInt8)) (hxs : ∀ x ∈ xs, x.length < 500000000) (hl : xs.length ≤ 1048576) (q : Perm) (bx : Bx) (pm : Pm) : ∀ (rest pre : List (List UInt8)) (j : Int), xs = pre ++ rest → j = pre.length →
    Res (RunD Sy (.loop L3x3) ⟨ofL [(15, .bool true), (246, .sl 1 (xs.map .str) q), (247, .int .i64 xs.length), (248, .int .i64 j)], bx, pm, none⟩) fun ex st' => Tl3 (.sl 1 (xs.map .str) q) xs.length bx pm ex st'
  | [], pre, j, hs, hj => by
    subst hj
    rw [List.append_nil] at hs
    subst hs
    rw [RunD_loop]
    simp [L3x3]
    exact ⟨rfl, rfl⟩
  | x :: rest, pre, j, hs, hj => by
    subst hj
    have hlt : (pre.length : Int) < xs.length := by rw [hs]; simp; omega
    have hg : (xs.map AV.str)[pre.length]? = some (.str x) := by rw [hs]; simp
    have hc := chk_i64 ((pre.length : Int) + 1) (by omega)
    obtain ⟨D, f, d1, d2, d3⟩ := text_den x (hxs x (by rw [hs]; simp))
    refine loop_step fun K hK => ?_
    simp [L3x3, -getElem?_pos, -List.getElem?_map, List.getElem?_cons_zero, List.getElem?_cons_succ, hlt, hg, hc, d1, d2, d3]
    rw [hK]
    exact tl_loop3 xs hxs hl q bx pm rest (pre ++ [x]) ((pre.length : Int) + 1) (by simp [hs]) (by simp)
theorem tl_eq3 (x1 x2 x3 x4 : List UInt8) (h1 : x1.length < 500000000) (h2 : x2.length < 500000000) (h3 : x3.length < 500000000) (h4 : x4.length < 500000000) (q : Perm) (bx : Bx) (pm : Pm) :
    RunD Sy (.loop L3x3) ⟨ofL [(15, .bool true), (246, .sl 1 [.str x1, .str x2, .str x3, .str x4] q), (247, .int .i64 4), (248, .int .i64 0)], bx, pm, none⟩ = some (.exit 6, ⟨ofL [(15, .bool true), (246, .sl 1 [.str x1, .str x2, .str x3, .str x4] q), (247, .int .i64 4), (248, .int .i64 4), (249, .bool false)], bx, pm, none⟩) := by
  obtain ⟨ex, st', h, rfl, rfl⟩ := tl_loop3 [x1, x2, x3, x4] (by
    intro x hx
    rcases List.mem_cons.1 hx with rfl | hx
    · exact h1
    rcases List.mem_cons.1 hx with rfl | hx
    · exact h2
    rcases List.mem_cons.1 hx with rfl | hx
    · exact h3
    · rw [List.mem_singleton.1 hx]; exact h4) (by simp) q bx pm [x1, x2, x3, x4] [] 0 rfl rfl
  exact h
theorem tl_eq2 (lines : List Int) (hli : ∀ c ∈ lines, inR c) (a : List (List UInt8)) (ha : a.length ≤ 1099511627776) (L : List (List UInt8)) (hL : L.length ≤ 1099511627776) (A4 A5 A6 A19 : AV) (x1 x2 x3 : List Edit)
    (h1 : x1.length ≤ 1048576 ∧ (encL x1).length ≤ 1099511627776) (h2 : x2.length ≤ 1048576 ∧ (encL x2).length ≤ 1099511627776) (h3 : x3.length ≤ 1048576 ∧ (encL x3).length ≤ 1099511627776) (q : Perm) (bx : Bx) (pm : Pm) :
    RunD Sy (.loop L3x2) ⟨T2 (iS lines) (sS a) A4 A5 A6 A19 (sS L) (.sl 1 [sE x1, sE x2, sE x3] q) (.int .i64 0) [], bx, pm, none⟩ = some (.exit 2, ⟨T2 (iS lines) (sS a) A4 A5 A6 A19 (sS L) (.sl 1 [sE x1, sE x2, sE x3] q) (.int .i64 3) [(93, .bool false)], bx, pm, none⟩) := by
  obtain ⟨ex, st', h, rfl, rfl⟩ := tl_loop2 lines hli a ha L hL A4 A5 A6 A19 [x1, x2, x3] (by
    intro x hx
    rcases List.mem_cons.1 hx with rfl | hx
    · exact h1
    rcases List.mem_cons.1 hx with rfl | hx
    · exact h2
    · rw [List.mem_singleton.1 hx]; exact h3) rfl q bx pm [x1, x2, x3] [] 0 rfl rfl
  exact h
set_option maxHeartbeats 4000000 in
set_option maxRecDepth 20000 in
theorem tells_den (sm : List Edit) (raw lines : List Int) (a : List (List UInt8)) (t : List UInt8) (at_ : Int) (c : UInt8) (hr : ∀ c ∈ raw, inR c) (hli : ∀ c ∈ lines, inR c) (ha : a.length ≤ 1099511627776) (hat : inR at_) (hb : (encL (oddF sm)).length ≤ 549755813888) :
    Den Sy 3 [sE sm, iS raw, iS lines, sS a, .str t, .int .i64 at_, .int .u8 c.toNat] = some (.bool true) := by
  rw [Den_fun Sy (af := A3) rfl rfl _ rfl]
  have hol : (oddF sm).length ≤ 6 := by simp [oddF]; omega
  obtain ⟨ex, st', h0, rfl, bx0, pm0, q0, i0, rfl⟩ := tl_loop0 sm (iS raw) (iS lines) (sS a) (.str t) (.int .i64 at_) (.int .u8 c.toNat) ((oddF sm).map eE) 6 sm [] 0 [] .nil (ofL []) none' rfl rfl rfl (.inl rfl) rfl rfl
  have hsd := script_den raw lines hr hli
  have hsr := scriptF_right raw
  obtain ⟨hm1, hm2, hlen⟩ := script_many raw 1 2
  obtain ⟨hse, _⟩ := script_enc raw
  have hL : (fullF lines (many 1 2 (scriptF raw)).toNat).length ≤ 1099511627776 := by rw [fullF, fullG_len]; omega
  generalize fullF lines (many 1 2 (scriptF raw)).toNat = L at hsd hL
  generalize scriptF raw = s at hsd hsr hm1 hm2 hlen hse
  generalize oddF sm = o at h0 hb hol
  have hap : (encL (s ++ o)).length ≤ 1099511627776 := by rw [encL_app, List.length_append]; omega
  have hE2 := tl_eq2 lines hli a ha L hL (.str t) (.int .i64 at_) (.int .u8 c.toNat) (sE s) o s (s ++ o) ⟨by omega, by omega⟩ ⟨by omega, by omega⟩ ⟨by rw [List.length_append]; omega, hap⟩
  simp only [sE, List.map_append] at hE2
  have hen := encode2_den s (by omega) (by omega)
  rw [if_pos hsr] at hen
  have hz1 : s.length * 40 ≤ 140737488355328 := by omega
  have hz2 : (s.length + o.length) * 40 ≤ 140737488355328 := by omega
  obtain ⟨m, hm⟩ : ∃ m : Nat, m = min t.length 100 := ⟨_, rfl⟩
  have hmn : (m : Int) ≤ t.length := by omega
  have hmi : (if (100 : Int) < t.length then (100 : Int) else t.length) = (m : Int) := by split <;> omega
  have htl : (t.take m).length ≤ 100 := by rw [List.length_take]; omega
  generalize hown : encL s = own at hen hse
  have hE3 := fun (u : List UInt8) (hu : u.length < 500000000) => tl_eq3 (t.take m) own u (own ++ t.take m) (by omega) (by omega) hu (by rw [List.length_append]; omega)
  have hz3 : own.length + min m t.length ≤ 9223372036854775807 := by omega
  by_cases ho : own = []
  · subst ho
    have h3 := hE3 [] (by simp)
    simp only [List.nil_append] at h3
    have hz3' : min m t.length ≤ 9223372036854775807 := by omega
    simp [A3, awake_den, h0, hsd, hE2, hen, hz1, hz2, hmi, hmn, hz3', h3]
  · have hpos : 0 < own.length := List.length_pos_iff.2 ho
    have hp := pick_den at_ own.length hat (by omega)
    obtain ⟨hp1, hp2⟩ := pickF_lt at_ (n := own.length) (by omega)
    obtain ⟨k, hk⟩ : ∃ k : Nat, pickF at_ own.length = k := ⟨(pickF at_ own.length).toNat, by omega⟩
    rw [hk] at hp hp1 hp2
    have hkl : k < own.length := by omega
    have hk1 : (k : Int) ≤ own.length := by omega
    have hk2 : (k : Int) + 1 ≤ own.length := by omega
    have hc := chk_i64 ((k : Int) + 1) (by omega)
    have h3 := hE3 (own.take k ++ [c] ++ own.drop (k + 1)) (by simp; omega)
    simp only [List.append_assoc, List.cons_append, List.nil_append] at h3
    have hz4 : min k own.length + 1 ≤ 9223372036854775807 := by omega
    have hz5 : min k own.length + 1 + (own.length - (k + 1)) ≤ 9223372036854775807 := by omega
    have hz6 : min k own.length + (1 + (own.length - (k + 1))) ≤ 9223372036854775807 := by omega
    have hz7 : min k own.length + (own.length - (k + 1) + 1) ≤ 9223372036854775807 := by omega
    simp [A3, awake_den, h0, hsd, hE2, hen, hz1, hz2, hmi, hmn, hz3, h3, ho, hp, hk1, hk2, hc, hz4, hz5, hz6, hz7, Rx.conv, bytesOf]
end Go.Proofs.YtdcgldhhdajocaaDoor.Rx
namespace Go.Proofs.YtdcgldhhdajocaaDoor.Rx
open Go

def tEdit : RT := .st [.int .i64, .int .i64, .sl .str]
theorem ty_edit (x : AV) (h : Ty tEdit x.cells) (hg : x.isAgg = tEdit.isSt) : ∃ e, x = eE e ∧ inR e.n := by
  cases x with
  | agg cs =>
    simp only [AV.cells, tEdit, Ty, TyL] at h
    obtain ⟨_, _, rfl, ⟨op, rfl, _⟩, _, _, rfl, ⟨n, rfl, hn⟩, a, _, rfl, ⟨xs, rfl, _, hx⟩, rfl⟩ := h
    obtain ⟨l, rfl, _⟩ := ty_row AV.str (fun _ => True) (e := .str) (fun x h1 h2 => by obtain ⟨n, rfl, _⟩ := ty_str h1 h2; exact ⟨n, rfl, trivial⟩) xs hx
    exact ⟨⟨op, n, l⟩, rfl, inR_of_wf hn⟩
  | _ => simp [AV.isAgg, tEdit, RT.isSt] at hg
theorem ty_edits {a : AV} (h : Ty (.sl tEdit) a.cells) (hg : a.isAgg = false) : ∃ l : List Edit, a = sE l ∧ l.length ≤ maxLen ∧ ∀ e ∈ l, inR e.n := ty_slice eE (fun e => inR e.n) ty_edit h hg
theorem encLs_blk : ∀ ls : List (List UInt8), (∀ l ∈ ls, l.length ≤ 1099511627776) → (encLs ls).length ≤ 22 * ls.length + blkL (ls.map .str)
  | [], _ => by simp [encLs]
  | l :: ls, h => by
    have i := encLs_blk ls (fun x hx => h x (List.mem_cons_of_mem _ hx))
    have hl := h l (by simp)
    have hi := itoa_len l.length ⟨by omega, by omega⟩
    rw [encLs_cons, List.length_append]
    simp only [encLine, List.length_append, List.length_cons, List.length_nil, List.map_cons, blkL, blk]
    omega
theorem blkL_take (n : Nat) : ∀ l : List AV, blkL (l.take n) ≤ blkL l := by
  intro l
  have : blkL (l.take n) + blkL (l.drop n) = blkL l := by rw [← blkL_app, List.take_append_drop]
  omega
theorem enc_clip (e : Edit) (hn : inR e.n) (hb : blk (eE e) ≤ 1099511627776) : (encE (clipE e)).length ≤ 250 + blk (eE e) := by
  obtain ⟨op, n, ls⟩ := e
  have hs : (sgn op).length = 1 := by unfold sgn; split <;> (try split) <;> rfl
  have hi := itoa_len n hn
  simp only [eE, blk, blkL] at hb
  have hm : ∀ l ∈ ls.take 10, l.length ≤ 1099511627776 := fun l hl => by
    have := blkL_mem (List.mem_map_of_mem (f := AV.str) (List.mem_of_mem_take hl))
    simp only [blk] at this
    omega
  have hl := encLs_blk (ls.take 10) hm
  have ht := blkL_take 10 (ls.map .str)
  rw [← List.map_take] at ht
  have h10 : (ls.take 10).length ≤ 10 := by rw [List.length_take]; omega
  simp only [encE, encHead, clipE, List.length_append, List.length_cons, List.length_nil, hs, eE, blk, blkL]
  omega
theorem enc_clips : ∀ l : List Edit, (∀ e ∈ l, inR e.n) → blkL (l.map eE) ≤ 1099511627776 → (encL (l.map clipE)).length ≤ 250 * l.length + blkL (l.map eE)
  | [], _, _ => by simp [encL]
  | e :: l, h, hb => by
    simp only [List.map_cons, blkL] at hb ⊢
    have i := enc_clips l (fun x hx => h x (List.mem_cons_of_mem _ hx)) (by omega)
    have := enc_clip e (h e (by simp)) (by omega)
    rw [encL_cons, List.length_append, List.length_cons]
    omega
theorem enc_odd (l : List Edit) (h : ∀ e ∈ l, inR e.n) (hb : blk (sE l) ≤ 1048576) : (encL (oddF l)).length ≤ 549755813888 := by
  simp only [blk] at hb
  have ht := blkL_take 6 (l.map eE)
  rw [← List.map_take] at ht
  have := enc_clips (l.take 6) (fun e he => h e (List.mem_of_mem_take he)) (by omega)
  have h6 : (l.take 6).length ≤ 6 := by rw [List.length_take]; omega
  unfold oddF
  omega
end Go.Proofs.YtdcgldhhdajocaaDoor.Rx
