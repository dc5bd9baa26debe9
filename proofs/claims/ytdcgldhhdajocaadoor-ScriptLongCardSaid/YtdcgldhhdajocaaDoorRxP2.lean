/-
  The script's laws, plain, 2: how many lines.
-/
import Derived.Test.YtdcgldhhdajocaaDoorRxP1
namespace Go.Proofs.YtdcgldhhdajocaaDoor.Rx
open Go
set_option linter.unusedSimpArgs false
set_option linter.unusedVariables false

def many (a b : Int) : List Edit → Int
  | [] => 0
  | e :: r => (if e.op = a ∨ e.op = b then e.n else 0) + many a b r
theorem rightF_may : ∀ {s : List Edit} {last : Int}, rightF last s = true → ∀ e ∈ s, mayB e = true
  | [], _, _, e, he => by simp at he
  | x :: s, last, h, e, he => by
    simp only [rightF, Bool.and_eq_true] at h
    rcases List.mem_cons.1 he with rfl | he
    · exact h.1.1.1
    · exact rightF_may h.2 e he
theorem many_le (a b : Int) : ∀ {s : List Edit}, (∀ e ∈ s, mayB e = true) → 0 ≤ many a b s ∧ many a b s ≤ 1048576 * s.length
  | [], _ => by simp [many]
  | e :: s, h => by
    have h1 := (mayB_op (h e (by simp))).2
    have h2 := many_le a b (s := s) (fun x hx => h x (by simp [hx]))
    simp only [many, List.length_cons]
    split <;> omega
theorem many_loop (s : List Edit) (hl : s.length ≤ 1099511627776) (hm : ∀ e ∈ s, mayB e = true) (a b : Int) : ∀ (rest pre : List Edit) (acc i : Int) (bx : Bx) (pm : Pm), s = pre ++ rest → i = pre.length → 0 ≤ acc ∧ acc ≤ 1048576 * pre.length →
    Res (RunD Sy (.loop L32x0) ⟨ofL [(0, sE s), (1, .int .i64 a), (2, .int .i64 b), (7, .int .i64 acc), (8, .int .i64 i)], bx, pm, none⟩) fun ex st' => ex = .exit 0 ∧ st'.df = none ∧ st'.env 7 = some (.int .i64 (acc + many a b rest))
  | [], pre, acc, i, bx, pm, hs, hi, ha => by
    subst hi
    rw [List.append_nil] at hs
    subst hs
    rw [RunD_loop]
    simp [L32x0, many]
  | e :: rest, pre, acc, i, bx, pm, hs, hi, ha => by
    have hlt : (pre.length : Int) < s.length := by rw [hs]; simp; omega
    have hg : (s.map eE)[pre.length]? = some (eE e) := by rw [hs]; simp
    have hn := (mayB_op (hm e (by rw [hs]; simp))).2
    simp only [eE] at hg
    subst hi
    have hc := chk_i64 ((pre.length : Int) + 1) (by omega)
    have hc2 := chk_i64 (acc + e.n) (by omega)
    rw [RunD_loop]
    by_cases h1 : e.op = a
    · simp [L32x0, hc, hc2, hlt, hg, many, eq_true h1, ← Int.add_assoc]
      exact many_loop s hl hm a b rest (pre ++ [e]) _ _ _ _ (by simp [hs]) (by simp) (by simp; omega)
    · by_cases h2 : e.op = b
      · simp [L32x0, hc, hc2, hlt, hg, many, eq_false h1, eq_true h2, ← Int.add_assoc]
        exact many_loop s hl hm a b rest (pre ++ [e]) _ _ _ _ (by simp [hs]) (by simp) (by simp; omega)
      · simp [L32x0, hc, hc2, hlt, hg, many, eq_false h1, eq_false h2]
        exact many_loop s hl hm a b rest (pre ++ [e]) _ _ _ _ (by simp [hs]) (by simp) (by simp; omega)
theorem many_den (s : List Edit) (hl : s.length ≤ 1099511627776) (hm : ∀ e ∈ s, mayB e = true) (a b : Int) : Den Sy 32 [sE s, .int .i64 a, .int .i64 b] = some (.int .i64 (many a b s)) := by
  rw [Den_fun Sy (af := A32) rfl rfl _ rfl]
  obtain ⟨ex, st', h, rfl, hd, hr⟩ := many_loop s hl hm a b s [] 0 0 (ofL []) none' rfl rfl (by simp)
  simp [A32, h, hd, hr]

/-- How many lines a script takes, and makes. -/
def spansF (s : List Edit) : Int × Int := if rightB s = true then (many 1 2 s, many 1 3 s) else (0, 0)
def costF (s : List Edit) : Int := if rightB s = true then many 2 3 s else 0
theorem spans2_den (s : List Edit) (hl : s.length ≤ 1099511627776) : Den Sy 13 [sE s] = some (.tup [.int .i64 (spansF s).1, .int .i64 (spansF s).2]) := by
  rw [Den_fun Sy (af := A13) rfl rfl _ rfl]
  have h0 := right2_den s hl
  by_cases hb : rightB s = true
  · have h1 := many_den s hl (rightF_may hb) 1 2
    have h2 := many_den s hl (rightF_may hb) 1 3
    simp [A13, h0, h1, h2, hb, spansF]
  · simp [A13, h0, hb, spansF]
theorem cost2_den (s : List Edit) (hl : s.length ≤ 1099511627776) : Den Sy 19 [sE s] = some (.int .i64 (costF s)) := by
  rw [Den_fun Sy (af := A19) rfl rfl _ rfl]
  have h0 := right2_den s hl
  by_cases hb : rightB s = true
  · have h1 := many_den s hl (rightF_may hb) 2 3
    simp [A19, h0, h1, hb, costF]
  · simp [A19, h0, hb, costF]
theorem spans_loop (s : List Edit) (hl : s.length ≤ 1099511627776) (hm : ∀ e ∈ s, mayB e = true) : ∀ (rest pre : List Edit) (x y i : Int) (bx : Bx) (pm : Pm), s = pre ++ rest → i = pre.length → 0 ≤ x ∧ x ≤ 1048576 * pre.length → 0 ≤ y ∧ y ≤ 1048576 * pre.length →
    Res (RunD Sy (.loop L12x0) ⟨ofL [(2, .int .i64 x), (3, .int .i64 y), (9, sE s), (10, .int .i64 s.length), (11, .int .i64 i)], bx, pm, none⟩) fun ex st' => ex = .exit 0 ∧ st'.df = none ∧ st'.env 2 = some (.int .i64 (x + many 1 2 rest)) ∧ st'.env 3 = some (.int .i64 (y + many 1 3 rest))
  | [], pre, x, y, i, bx, pm, hs, hi, hx, hy => by
    subst hi
    rw [List.append_nil] at hs
    subst hs
    rw [RunD_loop]
    simp [L12x0, many]
  | e :: rest, pre, x, y, i, bx, pm, hs, hi, hx, hy => by
    have hlt : (pre.length : Int) < s.length := by rw [hs]; simp; omega
    have hg : (s.map eE)[pre.length]? = some (eE e) := by rw [hs]; simp
    obtain ⟨ho, hn1, hn2, _⟩ := mayB_op (hm e (by rw [hs]; simp))
    simp only [eE] at hg
    subst hi
    have hc := chk_i64 ((pre.length : Int) + 1) (by omega)
    have hc2 := chk_i64 (x + e.n) (by omega)
    have hc3 := chk_i64 (y + e.n) (by omega)
    rw [RunD_loop]
    by_cases h1 : e.op = 1
    · simp [L12x0, hc, hc2, hc3, hlt, hg, many, eq_true h1, ← Int.add_assoc]
      exact spans_loop s hl hm rest (pre ++ [e]) _ _ _ _ _ (by simp [hs]) (by simp) (by simp; omega) (by simp; omega)
    · by_cases h3 : e.op = 3
      · have h2 : ¬ e.op = 2 := by omega
        simp [L12x0, hc, hc2, hc3, hlt, hg, many, eq_false h1, eq_true h3, eq_false h2, ← Int.add_assoc]
        exact spans_loop s hl hm rest (pre ++ [e]) _ _ _ _ _ (by simp [hs]) (by simp) (by simp; omega) (by simp; omega)
      · have h2 : e.op = 2 := by omega
        simp [L12x0, hc, hc2, hc3, hlt, hg, many, eq_false h1, eq_false h3, eq_true h2, ← Int.add_assoc]
        exact spans_loop s hl hm rest (pre ++ [e]) _ _ _ _ _ (by simp [hs]) (by simp) (by simp; omega) (by simp; omega)
theorem spans_den (s : List Edit) (hl : s.length ≤ 1099511627776) : Den Sy 12 [sE s] = some (.tup [.int .i64 (spansF s).1, .int .i64 (spansF s).2]) := by
  rw [Den_fun Sy (af := A12) rfl rfl _ rfl]
  have h0 := right_den s hl
  by_cases hb : rightB s = true
  · obtain ⟨ex, st', h, rfl, hd, hr, hr2⟩ := spans_loop s hl (rightF_may hb) s [] 0 0 0 (ofL []) none' rfl rfl (by simp) (by simp)
    simp [A12, h0, h, hd, hr, hr2, hb, spansF]
  · simp [A12, h0, hb, spansF]
theorem cost_loop (s : List Edit) (hl : s.length ≤ 1099511627776) (hm : ∀ e ∈ s, mayB e = true) : ∀ (rest pre : List Edit) (x i : Int) (bx : Bx) (pm : Pm), s = pre ++ rest → i = pre.length → 0 ≤ x ∧ x ≤ 1048576 * pre.length →
    Res (RunD Sy (.loop L18x0) ⟨ofL [(2, .int .i64 x), (8, sE s), (9, .int .i64 s.length), (10, .int .i64 i)], bx, pm, none⟩) fun ex st' => ex = .exit 0 ∧ st'.df = none ∧ st'.env 2 = some (.int .i64 (x + many 2 3 rest))
  | [], pre, x, i, bx, pm, hs, hi, hx => by
    subst hi
    rw [List.append_nil] at hs
    subst hs
    rw [RunD_loop]
    simp [L18x0, many]
  | e :: rest, pre, x, i, bx, pm, hs, hi, hx => by
    have hlt : (pre.length : Int) < s.length := by rw [hs]; simp; omega
    have hg : (s.map eE)[pre.length]? = some (eE e) := by rw [hs]; simp
    obtain ⟨ho, hn1, hn2, _⟩ := mayB_op (hm e (by rw [hs]; simp))
    simp only [eE] at hg
    subst hi
    have hc := chk_i64 ((pre.length : Int) + 1) (by omega)
    have hc2 := chk_i64 (x + e.n) (by omega)
    rw [RunD_loop]
    by_cases h1 : e.op = 1
    · have h2 : ¬ e.op = 2 ∧ ¬ e.op = 3 := by omega
      simp [L18x0, hc, hc2, hlt, hg, many, eq_true h1, eq_false h2.1, eq_false h2.2]
      exact cost_loop s hl hm rest (pre ++ [e]) _ _ _ _ (by simp [hs]) (by simp) (by simp; omega)
    · have h2 : e.op = 2 ∨ e.op = 3 := by omega
      simp [L18x0, hc, hc2, hlt, hg, many, eq_false h1, eq_true h2, ← Int.add_assoc]
      exact cost_loop s hl hm rest (pre ++ [e]) _ _ _ _ (by simp [hs]) (by simp) (by simp; omega)
theorem cost_den (s : List Edit) (hl : s.length ≤ 1099511627776) : Den Sy 18 [sE s] = some (.int .i64 (costF s)) := by
  rw [Den_fun Sy (af := A18) rfl rfl _ rfl]
  have h0 := right_den s hl
  by_cases hb : rightB s = true
  · obtain ⟨ex, st', h, rfl, hd, hr⟩ := cost_loop s hl (rightF_may hb) s [] 0 0 (ofL []) none' rfl rfl (by simp)
    simp [A18, h0, h, hd, hr, hb, costF]
  · simp [A18, h0, hb, costF]

/-- What is wrong with a script and lines (1: what may not be; 11: what does not fit). -/
def fitsF (s : List Edit) (n : Nat) : Int := if rightB s = true then (if many 1 2 s = n then 0 else 11) else 1
theorem fits_den (s : List Edit) (hl : s.length ≤ 1099511627776) (a : List (List UInt8)) : Den Sy 39 [sE s, sS a] = some (.int .i64 (fitsF s a.length)) := by
  rw [Den_fun Sy (af := A39) rfl rfl _ rfl]
  have h0 := right_den s hl
  have h1 := spans_den s hl
  by_cases hb : rightB s = true
  · by_cases h2 : many 1 2 s = a.length
    · simp [A39, h0, h1, hb, fitsF, spansF, eq_true h2]
    · simp [A39, h0, h1, hb, fitsF, spansF, eq_false h2]
  · simp [A39, h0, h1, hb, fitsF, spansF]
theorem fits2_den (s : List Edit) (hl : s.length ≤ 1099511627776) (a : List (List UInt8)) : Den Sy 40 [sE s, sS a] = some (.int .i64 (fitsF s a.length)) := by
  rw [Den_fun Sy (af := A40) rfl rfl _ rfl]
  have h0 := right2_den s hl
  by_cases hb : rightB s = true
  · have h1 := many_den s hl (rightF_may hb) 1 2
    by_cases h2 : many 1 2 s = a.length
    · simp [A40, h0, h1, hb, fitsF, eq_true h2]
    · simp [A40, h0, h1, hb, fitsF, eq_false h2]
  · simp [A40, h0, hb, fitsF]
end Go.Proofs.YtdcgldhhdajocaaDoor.Rx
