/-
  The script's laws, plain, 4: raw numbers' scripts and lines; when two are the same.
-/
import Derived.Test.YtdcgldhhdajocaaDoorRxP3
namespace Go.Proofs.YtdcgldhhdajocaaDoor.Rx
open Go
set_option linter.unusedSimpArgs false
set_option linter.unusedVariables false
attribute [simp] rowsOf AV.isAgg

theorem loop_step {a : ACode} {st : St} {Q : Ex → St → Prop} (h : ∀ K, K = RunD Sy (.loop a) → Res (andThen (RunD Sy a st) K) Q) : Res (RunD Sy (.loop a) st) Q := by
  rw [RunD_loop]
  exact h _ rfl
def inR (c : Int) : Prop := -9223372036854775808 ≤ c ∧ c ≤ 9223372036854775807
def pickF (c n : Int) : Int := (if c < 0 then -(c + 1) else c).tmod n
theorem pickF_lt (c : Int) {n : Int} (hn : 0 < n) : 0 ≤ pickF c n ∧ pickF c n < n := by
  unfold pickF
  split
  · exact ⟨Int.tmod_nonneg _ (by omega), Int.tmod_lt_of_pos _ hn⟩
  · exact ⟨Int.tmod_nonneg _ (by omega), Int.tmod_lt_of_pos _ hn⟩
theorem pick_den (c n : Int) (hc : inR c) (hn : 0 < n) : Den Sy 27 [.int .i64 c, .int .i64 n] = some (.int .i64 (pickF c n)) := by
  rw [Den_fun Sy (af := A27) rfl rfl _ rfl]
  obtain ⟨h1, h2⟩ := hc
  have h0 : ¬ n = 0 := by omega
  by_cases h : c < 0
  · have hc1 := chk_i64 (c + 1) (by omega)
    have hc2 := chk_i64 (0 - (c + 1)) (by omega)
    have e : (0 - (c + 1)) = -(c + 1) := by omega
    rw [e] at hc2
    simp [A27, h, hc1, hc2, h0, pickF]
  · simp [A27, h, h0, pickF]
theorem pick3_den (c n : Int) (hc : inR c) (hn : 0 < n) : Den Sy 38 [.int .i64 c, .int .i64 n] = some (.int .i64 (pickF c n)) := by
  rw [Den_fun Sy (af := A38) rfl rfl _ rfl]
  obtain ⟨h1, h2⟩ := hc
  have h0 : ¬ n = 0 := by omega
  by_cases h : c < 0
  · have hc1 := chk_i64 (c + 1) (by omega)
    have hc2 := chk_i64 (0 - (c + 1)) (by omega)
    have e : (0 - (c + 1)) = -(c + 1) := by omega
    rw [e] at hc2
    simp [A38, h, hc1, hc2, h0, pickF]
  · simp [A38, h, h0, pickF]

def kinds : List (List UInt8) := [[97, 10], [98, 10], [99, 10], [], [120, 58, 121, 59]]
def kindF (j : Int) : List UInt8 := kinds.getD j.toNat []
theorem kinds_get (j : Int) (h : 0 ≤ j ∧ j < 5) : [AV.str [97, 10], AV.str [98, 10], AV.str [99, 10], AV.str [], AV.str [120, 58, 121, 59]][j.toNat]? = some (.str (kindF j)) := by
  obtain ⟨k, rfl⟩ : ∃ k : Nat, j = k := ⟨j.toNat, by omega⟩
  have : k < 5 := by omega
  simp only [Int.toNat_natCast, kindF]
  match k, this with
  | 0, _ => rfl
  | 1, _ => rfl
  | 2, _ => rfl
  | 3, _ => rfl
  | 4, _ => rfl
abbrev iS (raw : List Int) : AV := .sl 1 (raw.map (.int .i64)) .no
/-- So many lines, of raw numbers, from the i-th on. -/
def fullG (raw : List Int) : Nat → Nat → List (List UInt8)
  | _, 0 => []
  | i, n + 1 => kindF (pickF (raw.getD i i) 5) :: fullG raw (i + 1) n
def fullF (raw : List Int) (n : Nat) : List (List UInt8) := fullG raw 0 n
theorem fullG_len (raw : List Int) : ∀ (n i : Nat), (fullG raw i n).length = n
  | 0, _ => rfl
  | n + 1, i => by simp [fullG, fullG_len raw n]
theorem full_loop (raw : List Int) (hr : ∀ c ∈ raw, inR c) (n : Nat) (hn : n ≤ 1048576) : ∀ (k i : Nat) (j : Int) (out : List AV) (p : Perm) (bx : Bx) (pm : Pm), j = i → i + k = n → AppOk pm p → out.length = i →
    Res (RunD Sy (.loop L31x0) ⟨ofL [(0, iS raw), (1, .int .i64 n), (5, .sl 1 out p), (6, .int .i64 j)], bx, pm, none⟩) fun ex st' => ex = .exit 0 ∧ st'.df = none ∧ ∃ q, st'.env 5 = some (.sl 1 (out ++ (fullG raw i k).map .str) q)
  | 0, i, j, out, p, bx, pm, hj, hi, hp, ho => by
    have : i = n := by omega
    subst this hj
    rw [RunD_loop]
    simp [L31x0, fullG]
  | k + 1, i, j, out, p, bx, pm, hj, hi, hp, ho => by
    subst hj
    have hlt : (i : Int) < n := by omega
    have hc := chk_i64 ((i : Int) + 1) (by omega)
    have hsz : (out.length + 1) * 16 ≤ 140737488355328 := by omega
    have hb := pickF_lt (raw.getD i i) (n := 5) (by omega)
    have hk := kinds_get _ hb
    have hin : inR (raw.getD i i) := by
      by_cases h : i < raw.length
      · simp only [List.getD, h, List.getElem?_eq_getElem, Option.getD_some]
        exact hr _ (List.getElem_mem h)
      · simp only [List.getD, List.getElem?_eq_none (Nat.le_of_not_lt h), Option.getD_none]
        exact ⟨by omega, by omega⟩
    have hpd := pick_den (raw.getD i i) 5 hin (by omega)
    refine loop_step fun K hK => ?_
    by_cases h : i < raw.length
    · have hg : (raw.map (AV.int .i64))[i]? = some (.int .i64 (raw.getD i i)) := by simp [h]
      have hlen : (out ++ [AV.str (kindF (pickF (raw.getD i i) 5))]).length = i + 1 := by simp [ho]
      have hlen' : (out ++ [AV.str (kindF (pickF (raw.getD i i) 5))]).length = i + 1 := by simp [ho]
      have htn := pickF_lt (raw.getD i i) (n := 5) (by omega)
      rcases hp with rfl | ⟨m, v, rfl, hpm⟩
      · simp [L31x0, -List.getD_eq_getElem?_getD, -getElem?_pos, -List.getElem?_map, hc, hlt, hg, h, hpd, hk, hb, hsz, fullG]
        rw [List.append_cons _ _ (List.map AV.str (fullG raw (i + 1) k)), hK]
        exact full_loop raw hr n hn k (i + 1) _ _ _ _ _ (by simp) (by omega) (AppOk.tok (by simp)) hlen
      · simp [L31x0, -List.getD_eq_getElem?_getD, -getElem?_pos, -List.getElem?_map, hc, hlt, hg, h, hpd, hk, hb, hsz, hpm, fullG]
        rw [List.append_cons _ _ (List.map AV.str (fullG raw (i + 1) k)), hK]
        exact full_loop raw hr n hn k (i + 1) _ _ _ _ _ (by simp) (by omega) (AppOk.tok (by simp)) hlen
    · have hd : raw.getD i i = i := by simp [List.getD, List.getElem?_eq_none (Nat.le_of_not_lt h)]
      rw [hd] at hpd hk hb
      have hlen : (out ++ [AV.str (kindF (pickF i 5))]).length = i + 1 := by simp [ho]
      rcases hp with rfl | ⟨m, v, rfl, hpm⟩
      · simp [L31x0, -List.getD_eq_getElem?_getD, -getElem?_pos, hc, hlt, h, hd, hpd, hk, hb, hsz, fullG]
        rw [List.append_cons _ _ (List.map AV.str (fullG raw (i + 1) k)), hK]
        exact full_loop raw hr n hn k (i + 1) _ _ _ _ _ (by simp) (by omega) (AppOk.tok (by simp)) hlen
      · simp [L31x0, -List.getD_eq_getElem?_getD, -getElem?_pos, hc, hlt, h, hd, hpd, hk, hb, hsz, hpm, fullG]
        rw [List.append_cons _ _ (List.map AV.str (fullG raw (i + 1) k)), hK]
        exact full_loop raw hr n hn k (i + 1) _ _ _ _ _ (by simp) (by omega) (AppOk.tok (by simp)) hlen
theorem full_den (raw : List Int) (hr : ∀ c ∈ raw, inR c) (n : Nat) (hn : n ≤ 1048576) : Den Sy 31 [iS raw, .int .i64 n] = some (sS (fullF raw n)) := by
  rw [Den_fun Sy (af := A31) rfl rfl _ rfl]
  obtain ⟨ex, st', h, rfl, hd, q, hr⟩ := full_loop raw hr n hn n 0 0 [] .nil (ofL []) none' rfl (by omega) (AppOk.nil _) rfl
  simp only [List.nil_append] at h hr
  simp [A31, h, hd, hr, fullF]
end Go.Proofs.YtdcgldhhdajocaaDoor.Rx
