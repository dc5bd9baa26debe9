/-
  The reports' laws, plain, a: paths, trees, lines, the table.
-/
import Derived.Test.YtdjgdipmjbkilaaGreatDoorRxG2
namespace Go.Proofs.YtdjgdipmjbkilaaGreatDoor.Rx
open Go
set_option linter.unusedSimpArgs false
set_option linter.unusedVariables false

theorem pick01_den (c n : Int) (hc : inR c) (hn : 0 < n) : Den Sy 106 [.int .i64 c, .int .i64 n] = some (.int .i64 (pickF c n)) := by
  rw [Den_fun Sy (af := A106) rfl rfl _ rfl]
  obtain ⟨h1, h2⟩ := hc
  have h0 : ¬ n = 0 := by omega
  by_cases h : c < 0
  · have hc1 := chk_i64 (c + 1) (by omega)
    have hc2 := chk_i64 (0 - (c + 1)) (by omega)
    have e : (0 - (c + 1)) = -(c + 1) := by omega
    rw [e] at hc2
    simp [A106, h, hc1, hc2, h0, pickF]
  · simp [A106, h, h0, pickF]
theorem pick02_den (c n : Int) (hc : inR c) (hn : 0 < n) : Den Sy 91 [.int .i64 c, .int .i64 n] = some (.int .i64 (pickF c n)) := by
  rw [Den_fun Sy (af := A91) rfl rfl _ rfl]
  obtain ⟨h1, h2⟩ := hc
  have h0 : ¬ n = 0 := by omega
  by_cases h : c < 0
  · have hc1 := chk_i64 (c + 1) (by omega)
    have hc2 := chk_i64 (0 - (c + 1)) (by omega)
    have e : (0 - (c + 1)) = -(c + 1) := by omega
    rw [e] at hc2
    simp [A91, h, hc1, hc2, h0, pickF]
  · simp [A91, h, h0, pickF]
theorem pick10_den (c n : Int) (hc : inR c) (hn : 0 < n) : Den Sy 41 [.int .i64 c, .int .i64 n] = some (.int .i64 (pickF c n)) := by
  rw [Den_fun Sy (af := A41) rfl rfl _ rfl]
  obtain ⟨h1, h2⟩ := hc
  have h0 : ¬ n = 0 := by omega
  by_cases h : c < 0
  · have hc1 := chk_i64 (c + 1) (by omega)
    have hc2 := chk_i64 (0 - (c + 1)) (by omega)
    have e : (0 - (c + 1)) = -(c + 1) := by omega
    rw [e] at hc2
    simp [A41, h, hc1, hc2, h0, pickF]
  · simp [A41, h, h0, pickF]
theorem pick11_den (c n : Int) (hc : inR c) (hn : 0 < n) : Den Sy 25 [.int .i64 c, .int .i64 n] = some (.int .i64 (pickF c n)) := by
  rw [Den_fun Sy (af := A25) rfl rfl _ rfl]
  obtain ⟨h1, h2⟩ := hc
  have h0 : ¬ n = 0 := by omega
  by_cases h : c < 0
  · have hc1 := chk_i64 (c + 1) (by omega)
    have hc2 := chk_i64 (0 - (c + 1)) (by omega)
    have e : (0 - (c + 1)) = -(c + 1) := by omega
    rw [e] at hc2
    simp [A25, h, hc1, hc2, h0, pickF]
  · simp [A25, h, h0, pickF]
theorem pick12_den (c n : Int) (hc : inR c) (hn : 0 < n) : Den Sy 16 [.int .i64 c, .int .i64 n] = some (.int .i64 (pickF c n)) := by
  rw [Den_fun Sy (af := A16) rfl rfl _ rfl]
  obtain ⟨h1, h2⟩ := hc
  have h0 : ¬ n = 0 := by omega
  by_cases h : c < 0
  · have hc1 := chk_i64 (c + 1) (by omega)
    have hc2 := chk_i64 (0 - (c + 1)) (by omega)
    have e : (0 - (c + 1)) = -(c + 1) := by omega
    rw [e] at hc2
    simp [A16, h, hc1, hc2, h0, pickF]
  · simp [A16, h, h0, pickF]

/-! ### Join, may -/
def joinF (d n : List UInt8) : List UInt8 := if d = [] then n else d ++ [47] ++ n
theorem join_den (d n : List UInt8) (h : d.length + n.length ≤ 1099511627776) : Den Sy 65 [.str d, .str n] = some (.str (joinF d n)) := by
  rw [Den_fun Sy (af := A65) rfl rfl _ rfl]
  have h1 : d.length + 1 ≤ 9223372036854775807 := by omega
  have h2 : d.length + 1 + n.length ≤ 9223372036854775807 := by omega
  have h3 : d.length + (n.length + 1) ≤ 9223372036854775807 := by omega
  by_cases hd : d = []
  · subst hd
    simp [A65, joinF]
  · simp [A65, joinF, hd, h1, h2, h3]
def may01 (s : List UInt8) : Bool := !(decide (s = []) || decide (s = [46]) || decide (s = [46, 46]) || decide (64 < s.length)) && s.all fun c => decide (c ≠ 0)
theorem u8_zero (c : UInt8) : (c.toNat = 0) ↔ c = 0 := by
  constructor
  · intro h
    exact UInt8.toNat_inj.1 h
  · rintro rfl; rfl
def May1 (b : Bool) (ex : Ex) (st' : St) : Prop := st'.df = none ∧ if b = true then ex = .exit 0 else ex = .ret ∧ st'.env 2 = some (.bool false)
theorem may01_loop (s : List UInt8) (hs : s.length ≤ 1099511627776) (bx : Bx) (pm : Pm) : ∀ (rest pre : List UInt8) (i : Int), s = pre ++ rest → i = pre.length →
    Res (RunD Sy (.loop L107x0) ⟨ofL [(0, .str s), (3, .int .i64 i)], bx, pm, none⟩) fun ex st' => May1 (rest.all fun c => decide (c ≠ 0)) ex st'
  | [], pre, i, h, hi => by
    subst hi
    rw [List.append_nil] at h
    subst h
    rw [RunD_loop]
    simp [L107x0]
    exact ⟨rfl, by simp⟩
  | c :: rest, pre, i, h, hi => by
    subst hi
    have hlt : (pre.length : Int) < s.length := by rw [h]; simp; omega
    have hg : s[pre.length]? = some c := by rw [h]; simp
    have hc := chk_i64 ((pre.length : Int) + 1) (by omega)
    refine loop_step fun K hK => ?_
    by_cases h0 : c = 0
    · have h0' := (u8_zero c).2 h0
      simp [L107x0, -getElem?_pos, hlt, hg, hc, eq_true h0', eq_true h0]
      exact ⟨rfl, by simp⟩
    · have h0' := fun e => h0 ((u8_zero c).1 e)
      simp [L107x0, -getElem?_pos, hlt, hg, hc, eq_false h0', eq_false h0]
      rw [hK]
      have := may01_loop s hs bx pm rest (pre ++ [c]) ((pre.length : Int) + 1) (by simp [h]) (by simp)
      simpa [h0] using this
theorem may01_den (s : List UInt8) (hs : s.length ≤ 1099511627776) : Den Sy 107 [.str s] = some (.bool (may01 s)) := by
  rw [Den_fun Sy (af := A107) rfl rfl _ rfl]
  by_cases h1 : s = []
  · subst h1; simp [A107, may01]
  by_cases h2 : s = [46]
  · subst h2; simp [A107, may01]
  by_cases h3 : s = [46, 46]
  · subst h3; simp [A107, may01]
  by_cases h4 : 64 < s.length
  · have h4' : (64 : Int) < s.length := by omega
    simp [A107, may01, h1, h2, h3, h4, h4']
  have h4' : ¬ (64 : Int) < s.length := by omega
  obtain ⟨ex, st', hL, hdf, hR⟩ := may01_loop s hs (ofL []) none' s [] 0 rfl rfl
  by_cases hb : (s.all fun c => decide (c ≠ 0)) = true
  · rw [if_pos hb] at hR
    subst hR
    have hm : may01 s = true := by unfold may01; rw [hb]; simp [h1, h2, h3, h4]
    simp [A107, hm, h1, h2, h3, h4', hL, hdf]
  · rw [if_neg hb] at hR
    obtain ⟨rfl, h5⟩ := hR
    have hm : may01 s = false := by unfold may01; simp only [Bool.not_eq_true] at hb; rw [hb]; simp
    simp [A107, hm, h1, h2, h3, h4', hL, hdf, h5]

/-! ### A text's parts -/
def splitG : List UInt8 → List UInt8 → List (List UInt8)
  | cur, [] => [cur]
  | cur, c :: r => if c = 47 then cur :: splitG [] r else splitG (cur ++ [c]) r
def splitP (s : List UInt8) : List (List UInt8) := splitG [] s
theorem splitG_len : ∀ (r cur : List UInt8), (splitG cur r).length ≤ r.length + 1
  | [], cur => by simp [splitG]
  | c :: r, cur => by
    unfold splitG
    split
    · have := splitG_len r []; simp; omega
    · have := splitG_len r (cur ++ [c]); simp; omega
theorem splitG_mem : ∀ (r cur x : List UInt8), x ∈ splitG cur r → x.length ≤ cur.length + r.length
  | [], cur, x, h => by simp [splitG] at h; subst h; simp
  | c :: r, cur, x, h => by
    unfold splitG at h
    split at h
    · rcases List.mem_cons.1 h with rfl | h
      · simp
      · have := splitG_mem r [] x h; simp at this ⊢; omega
    · have := splitG_mem r (cur ++ [c]) x h; simp at this ⊢; omega
theorem splitP_len (s : List UInt8) : (splitP s).length ≤ s.length + 1 := splitG_len s []
theorem splitP_mem {s x : List UInt8} (h : x ∈ splitP s) : x.length ≤ s.length := by simpa using splitG_mem s [] x h
theorem u8_47 (c : UInt8) : ((c.toNat : Int) = 47) ↔ c = 47 := by
  constructor
  · intro h
    exact UInt8.toNat_inj.1 (by have : (47 : UInt8).toNat = 47 := rfl; omega)
  · rintro rfl; rfl
def Spl (s : List UInt8) (R : List AV) (bx : Bx) (ex : Ex) (st' : St) : Prop := ex = .exit 0 ∧ ∃ (O : List AV) (q : Perm) (f : Nat) (i : AV) (pm' : Pm), st' = ⟨ofL [(0, .str s), (3, .sl 1 O q), (4, .int .i64 f), (5, i), (9, .bool false)], bx, pm', none⟩ ∧ AppOk pm' q ∧ f ≤ s.length ∧ O.length ≤ s.length ∧ R = O ++ [.str (s.drop f)]
set_option maxHeartbeats 1000000 in
theorem split_loop (s : List UInt8) (hs : s.length ≤ 1099511627776) (R : List AV) (bx : Bx) : ∀ (rest pre : List UInt8) (i f : Nat) (ji jf : Int) (O : List AV) (q : Perm) (pm : Pm), s = pre ++ rest → ji = i → jf = f → i = pre.length → f ≤ i → O.length ≤ i → AppOk pm q → R = O ++ (splitG (pre.drop f) rest).map .str →
    Res (RunD Sy (.loop L80x0) ⟨ofL [(0, .str s), (3, .sl 1 O q), (4, .int .i64 jf), (5, .int .i64 ji)], bx, pm, none⟩) fun ex st' => Spl s R bx ex st'
  | [], pre, i, f, ji, jf, O, q, pm, h, hji, hjf, hi, hf, hO, hq, hR => by
    subst hji hjf hi
    rw [List.append_nil] at h
    subst h
    rw [RunD_loop]
    simp [L80x0]
    exact ⟨rfl, O, q, f, _, pm, rfl, hq, hf, hO, by rw [hR]; simp [splitG]⟩
  | c :: rest, pre, i, f, ji, jf, O, q, pm, h, hji, hjf, hi, hf, hO, hq, hR => by
    subst hji hjf hi
    have hlt : (pre.length : Int) < s.length := by rw [h]; simp; omega
    have hg : s[pre.length]? = some c := by rw [h]; simp
    have hc := chk_i64 ((pre.length : Int) + 1) (by omega)
    have hsz : (O.length + 1) * 16 ≤ 140737488355328 := by omega
    have hle : (pre.length : Int) ≤ s.length := by omega
    have hfi : (f : Int) ≤ pre.length := by omega
    have htk : s.take pre.length = pre := by rw [h]; simp
    refine loop_step fun K hK => ?_
    by_cases h0 : c = 47
    · have h0' := (u8_47 c).2 h0
      subst h0
      have hR' : R = (O ++ [.str (pre.drop f)]) ++ (splitG ((pre ++ [47]).drop (pre.length + 1)) rest).map .str := by rw [hR]; simp [splitG]
      rcases hq with rfl | ⟨t, v, rfl, hpm⟩
      · simp [L80x0, -getElem?_pos, hlt, hg, hc, eq_true h0', hle, hfi, htk, hsz]
        rw [hK]
        refine split_loop s hs R bx rest (pre ++ [47]) (pre.length + 1) (pre.length + 1) _ _ _ _ _ ?_ ?_ ?_ ?_ ?_ ?_ (AppOk.tok (by simp)) hR'
        · simp [h]
        · simp
        · simp
        · simp
        · omega
        · simp; omega
      · simp [L80x0, -getElem?_pos, hlt, hg, hc, eq_true h0', hle, hfi, htk, hsz, hpm]
        rw [hK]
        refine split_loop s hs R bx rest (pre ++ [47]) (pre.length + 1) (pre.length + 1) _ _ _ _ _ ?_ ?_ ?_ ?_ ?_ ?_ (AppOk.tok (by simp)) hR'
        · simp [h]
        · simp
        · simp
        · simp
        · omega
        · simp; omega
    · have h0' := fun e => h0 ((u8_47 c).1 e)
      have hR' : R = O ++ (splitG ((pre ++ [c]).drop f) rest).map .str := by rw [hR, List.drop_append_of_le_length hf]; simp [splitG, h0]
      simp [L80x0, -getElem?_pos, hlt, hg, hc, eq_false h0']
      rw [hK]
      refine split_loop s hs R bx rest (pre ++ [c]) (pre.length + 1) f _ _ _ _ _ ?_ ?_ rfl ?_ ?_ ?_ hq hR'
      · simp [h]
      · simp
      · simp
      · omega
      · omega
theorem split_den (s : List UInt8) (hs : s.length ≤ 1099511627776) : Den Sy 80 [.str s] = some (sS (splitP s)) := by
  rw [Den_fun Sy (af := A80) rfl rfl _ rfl]
  obtain ⟨ex, st', hL, rfl, O, q, f, i, pm', rfl, hq, hf, hO, hR⟩ := split_loop s hs ((splitP s).map .str) (ofL []) s [] 0 0 0 0 [] .nil none' rfl rfl rfl rfl (Nat.le_refl _) (by simp) (AppOk.nil _) (by simp [splitP])
  have hsz : (O.length + 1) * 16 ≤ 140737488355328 := by omega
  have hf' : (f : Int) ≤ s.length := by omega
  have hx : s.take s.length = s := List.take_of_length_le (Nat.le_refl _)
  rcases hq with rfl | ⟨t, v, rfl, hpm⟩
  · simp [A80, hL, hsz, hf', hx, hR]
  · simp [A80, hL, hsz, hf', hx, hpm, hR]

theorem loop_eq {S : Sys} {a : ACode} {st : St} {v : Option (Ex × St)} (h : ∀ K, K = RunD S (.loop a) → andThen (RunD S a st) K = v) : RunD S (.loop a) st = v := by
  rw [RunD_loop]
  exact h _ rfl
def check01F (s : List UInt8) : Int := if (splitP s).all may01 = true then (if 16 < (splitP s).length then 3 else 0) else 2
theorem check01_loop (l : List (List UInt8)) (hl : l.length ≤ 1099511627777) (hm : ∀ x ∈ l, x.length ≤ 1099511627776) (bx : Bx) (pm : Pm) : ∀ (rest pre : List (List UInt8)) (i : Int), l = pre ++ rest → i = pre.length →
    RunD Sy (.loop L92x0) ⟨ofL [(3, sS l), (4, .int .i64 i)], bx, pm, none⟩ = some (if rest.all may01 = true then (.exit 0, ⟨ofL [(3, sS l), (4, .int .i64 l.length), (11, .bool false)], bx, pm, none⟩) else (.ret, ⟨ofL [(2, .int .i64 2)], bx, pm, none⟩))
  | [], pre, i, h, hi => by
    subst hi
    rw [List.append_nil] at h
    subst h
    rw [RunD_loop]
    simp [L92x0]
  | c :: rest, pre, i, h, hi => by
    subst hi
    have hlt : (pre.length : Int) < l.length := by rw [h]; simp; omega
    have hg : (l.map AV.str)[pre.length]? = some (.str c) := by rw [h]; simp
    have hc := chk_i64 ((pre.length : Int) + 1) (by omega)
    have hd := may01_den c (hm c (by rw [h]; simp))
    refine loop_eq fun K hK => ?_
    by_cases h0 : may01 c = true
    · have hr := check01_loop l hl hm bx pm rest (pre ++ [c]) ((pre.length : Int) + 1) (by simp [h]) (by simp)
      simp [L92x0, -getElem?_pos, -List.getElem?_map, hlt, hg, hc, hd, h0]
      rw [hK, hr]
      simp [h0]
    · simp [L92x0, -getElem?_pos, -List.getElem?_map, hlt, hg, hc, hd, h0]
theorem check01_den (s : List UInt8) (hs : s.length ≤ 1099511627776) : Den Sy 92 [.str s] = some (.int .i64 (check01F s)) := by
  rw [Den_fun Sy (af := A92) rfl rfl _ rfl]
  have hd := split_den s hs
  have hl := splitP_len s
  have hL := check01_loop (splitP s) (by omega) (fun x hx => by have := splitP_mem hx; omega) (ofL []) none' (splitP s) [] 0 rfl rfl
  by_cases h1 : (splitP s).all may01 = true
  · rw [if_pos h1] at hL
    by_cases h2 : 16 < (splitP s).length
    · have h2' : (16 : Int) < (splitP s).length := by omega
      simp [A92, hd, hL, check01F, eq_true h1, h2, h2', -List.all_eq_true]
    · have h2' : ¬ (16 : Int) < (splitP s).length := by omega
      simp [A92, hd, hL, check01F, eq_true h1, h2, h2', -List.all_eq_true]
  · rw [if_neg h1] at hL
    simp [A92, hd, hL, check01F, eq_false h1, -List.all_eq_true]
def partsF (s : List UInt8) : List (List UInt8) := if check01F s = 0 then splitP s else []
theorem parts_den (s : List UInt8) (hs : s.length ≤ 1099511627776) : Den Sy 64 [.str s] = some (sS (partsF s)) := by
  rw [Den_fun Sy (af := A64) rfl rfl _ rfl]
  have hd := split_den s hs
  have hc := check01_den s hs
  by_cases h : check01F s = 0
  · simp [A64, hd, hc, h, partsF]
  · simp [A64, hd, hc, h, partsF]
theorem partsF_len (s : List UInt8) : (partsF s).length ≤ 16 := by
  by_cases h : check01F s = 0
  · unfold partsF
    rw [if_pos h]
    unfold check01F at h
    by_cases h1 : (splitP s).all may01 = true
    · rw [if_pos h1] at h
      by_cases h2 : 16 < (splitP s).length
      · rw [if_pos h2] at h; omega
      · omega
    · rw [if_neg h1] at h; omega
  · unfold partsF
    rw [if_neg h]
    simp
theorem partsF_mem {s x : List UInt8} (h : x ∈ partsF s) : x.length ≤ 64 := by
  by_cases hc : check01F s = 0
  · unfold partsF at h
    rw [if_pos hc] at h
    unfold check01F at hc
    by_cases h1 : (splitP s).all may01 = true
    · have := List.all_eq_true.1 h1 x h
      unfold may01 at this
      simp at this
      omega
    · rw [if_neg h1] at hc; omega
  · unfold partsF at h
    rw [if_neg hc] at h
    simp at h
def dirG : List UInt8 → List (List UInt8) → List UInt8
  | out, [] => out
  | out, [_] => out
  | out, a :: b :: r => dirG (joinF out a) (b :: r)
def dirF (s : List UInt8) : List UInt8 := dirG [] (partsF s)
theorem joinF_len (d n : List UInt8) : (joinF d n).length ≤ d.length + n.length + 1 := by
  unfold joinF
  split
  · subst_vars; simp
  · simp; omega
theorem dirG_len : ∀ (l : List (List UInt8)) (out : List UInt8), (∀ x ∈ l, x.length ≤ 64) → (dirG out l).length ≤ out.length + 65 * l.length
  | [], out, _ => by simp [dirG]
  | [_], out, _ => by simp [dirG]
  | a :: b :: r, out, h => by
    have h1 := dirG_len (b :: r) (joinF out a) (fun x hx => h x (List.mem_cons_of_mem _ hx))
    have h2 := joinF_len out a
    have h3 := h a (by simp)
    unfold dirG
    simp only [List.length_cons] at h1 ⊢
    omega
theorem dirF_len (s : List UInt8) : (dirF s).length ≤ 1040 := by
  have h1 := dirG_len (partsF s) [] (fun x hx => partsF_mem hx)
  have h2 := partsF_len s
  simp only [List.length_nil] at h1
  unfold dirF
  omega
theorem dir_loop (l : List (List UInt8)) (hl : l.length ≤ 16) (hm : ∀ x ∈ l, x.length ≤ 64) (bx : Bx) (pm : Pm) : ∀ (rest pre : List (List UInt8)) (i : Int) (out : List UInt8), l = pre ++ rest → i = pre.length → out.length ≤ 65 * pre.length →
    ∃ i' : Int, RunD Sy (.loop L110x0) ⟨ofL [(3, sS l), (4, .str out), (5, .int .i64 i)], bx, pm, none⟩ = some (.exit 0, ⟨ofL [(3, sS l), (4, .str (dirG out rest)), (5, .int .i64 i'), (12, .bool false)], bx, pm, none⟩)
  | [], pre, i, out, h, hi, ho => by
    subst hi
    rw [List.append_nil] at h
    subst h
    refine ⟨l.length, ?_⟩
    rw [RunD_loop]
    have hc := chk_i64 ((l.length : Int) + 1) (by omega)
    have h2 : ¬ (l.length : Int) + 1 < l.length := by omega
    simp [L110x0, dirG, hc, h2]
  | [c], pre, i, out, h, hi, ho => by
    subst hi
    refine ⟨pre.length, ?_⟩
    rw [RunD_loop]
    have h1 : (l.length : Int) = pre.length + 1 := by rw [h]; simp
    have hc := chk_i64 ((pre.length : Int) + 1) (by omega)
    have h2 : ¬ (pre.length : Int) + 1 < l.length := by omega
    simp [L110x0, dirG, hc, h2, h1]
  | c :: d :: rest, pre, i, out, h, hi, ho => by
    subst hi
    have h1 : l.length = pre.length + (rest.length + 2) := by rw [h]; simp
    have hlt : (pre.length : Int) + 1 < l.length := by omega
    have hlt' : (pre.length : Int) < l.length := by omega
    have hg : (l.map AV.str)[pre.length]? = some (.str c) := by rw [h]; simp
    have hc := chk_i64 ((pre.length : Int) + 1) (by omega)
    have hcl := hm c (by rw [h]; simp)
    have hd := join_den out c (by omega)
    have hj := joinF_len out c
    obtain ⟨i', hr⟩ := dir_loop l hl hm bx pm (d :: rest) (pre ++ [c]) ((pre.length : Int) + 1) (joinF out c) (by simp [h]) (by simp) (by simp; omega)
    refine ⟨i', loop_eq fun K hK => ?_⟩
    simp [L110x0, -getElem?_pos, -List.getElem?_map, hlt, hlt', hg, hc, hd]
    rw [hK, hr]
    simp [dirG]
theorem dir_den (s : List UInt8) (hs : s.length ≤ 1099511627776) : Den Sy 110 [.str s] = some (.str (dirF s)) := by
  rw [Den_fun Sy (af := A110) rfl rfl _ rfl]
  have hd := parts_den s hs
  obtain ⟨i', hL⟩ := dir_loop (partsF s) (partsF_len s) (fun x hx => partsF_mem hx) (ofL []) none' (partsF s) [] 0 [] rfl rfl (by simp)
  simp [A110, hd, hL, dirF]
/-! ### The order of paths -/
def cmpQ : List (List UInt8) → List (List UInt8) → Option Int
  | a :: x, b :: y => if lessS a b = true then some (-1) else if a = b then cmpQ x y else some 1
  | _, _ => none
def cmpL (x y : List (List UInt8)) : Int := match cmpQ x y with
  | some c => c
  | none => if x.length < y.length then -1 else if y.length < x.length then 1 else 0
def cmpP (a b : List UInt8) : Int := cmpL (splitP a) (splitP b)
theorem cmp_loop (X Y : List (List UInt8)) (hX : X.length ≤ 1099511627777) (bx : Bx) (pm : Pm) : ∀ (x y px py : List (List UInt8)) (i : Int), X = px ++ x → Y = py ++ y → px.length = py.length → i = px.length →
    Res (RunD Sy (.loop L53x0) ⟨ofL [(5, sS X), (6, sS Y), (7, .int .i64 i)], bx, pm, none⟩) fun ex st' => match cmpQ x y with
      | some c => ex = .ret ∧ st' = ⟨ofL [(4, .int .i64 c)], bx, pm, none⟩
      | none => ex = .exit 0 ∧ ∃ i' : Int, st' = ⟨ofL [(5, sS X), (6, sS Y), (7, .int .i64 i'), (21, .bool false)], bx, pm, none⟩
  | [], y, px, py, i, h1, h2, h3, hi => by
    subst hi
    rw [List.append_nil] at h1
    subst h1
    refine loop_step fun K hK => ?_
    simp [L53x0, cmpQ]
    exact ⟨_, rfl⟩
  | a :: x, [], px, py, i, h1, h2, h3, hi => by
    subst hi
    rw [List.append_nil] at h2
    subst h2
    have hlt : (px.length : Int) < X.length := by rw [h1]; simp; omega
    have hn : ¬ (px.length : Int) < Y.length := by omega
    refine loop_step fun K hK => ?_
    simp [L53x0, cmpQ, hlt, hn]
    exact ⟨_, rfl⟩
  | a :: x, b :: y, px, py, i, h1, h2, h3, hi => by
    subst hi
    have hlt : (px.length : Int) < X.length := by rw [h1]; simp; omega
    have hlt2 : (px.length : Int) < Y.length := by rw [h2, h3]; simp; omega
    have hg : (X.map AV.str)[px.length]? = some (.str a) := by rw [h1]; simp
    have hg2 : (Y.map AV.str)[px.length]? = some (.str b) := by rw [h2, h3]; simp
    have hc := chk_i64 ((px.length : Int) + 1) (by omega)
    refine loop_step fun K hK => ?_
    by_cases h4 : lessS a b = true
    · simp [L53x0, cmpQ, -getElem?_pos, -List.getElem?_map, hlt, hlt2, hg, hg2, hc, h4]
    · by_cases h5 : a = b
      · subst h5
        simp [L53x0, cmpQ, -getElem?_pos, -List.getElem?_map, hlt, hlt2, hg, hg2, hc, h4]
        rw [hK]
        exact cmp_loop X Y hX bx pm x y (px ++ [a]) (py ++ [a]) ((px.length : Int) + 1) (by simp [h1]) (by simp [h2]) (by simp [h3]) (by simp)
      · simp [L53x0, cmpQ, -getElem?_pos, -List.getElem?_map, hlt, hlt2, hg, hg2, hc, h4, h5]
theorem cmpQ_none : ∀ {x y : List (List UInt8)}, cmpQ x y = none → True := fun _ => trivial
theorem cmp_den (a b : List UInt8) (ha : a.length ≤ 1099511627776) (hb : b.length ≤ 1099511627776) : Den Sy 53 [.str a, .str b] = some (.int .i64 (cmpP a b)) := by
  rw [Den_fun Sy (af := A53) rfl rfl _ rfl]
  have ha' := split_den a ha
  have hb' := split_den b hb
  have hl := splitP_len a
  obtain ⟨ex, st', hL, hR⟩ := cmp_loop (splitP a) (splitP b) (by omega) (ofL []) none' (splitP a) (splitP b) [] [] 0 rfl rfl rfl rfl
  unfold cmpP cmpL
  split at hR
  · rename_i c hc
    obtain ⟨rfl, rfl⟩ := hR
    simp [A53, ha', hb', hL, hc]
  · rename_i hc
    obtain ⟨rfl, i', rfl⟩ := hR
    by_cases h1 : (splitP a).length < (splitP b).length
    · have h1' : ((splitP a).length : Int) < (splitP b).length := by omega
      simp [A53, ha', hb', hL, hc, h1, h1']
    · have h1' : ¬ ((splitP a).length : Int) < (splitP b).length := by omega
      by_cases h2 : (splitP b).length < (splitP a).length
      · have h2' : ((splitP b).length : Int) < (splitP a).length := by omega
        simp [A53, ha', hb', hL, hc, h1, h1', h2, h2']
      · have h2' : ¬ ((splitP b).length : Int) < (splitP a).length := by omega
        simp [A53, ha', hb', hL, hc, h1, h1', h2, h2']

/-! ### Raw paths -/
def namesF : List (List UInt8) := [[97], [98], [97, 98], [97, 33], [97, 46, 98], [46, 46, 46], [90], [255]]
def nameF (c : Int) : List UInt8 := namesF.getD (pickF c 8).toNat []
def pathG (out : List UInt8) : List Int → List UInt8
  | [] => out
  | c :: r => pathG (joinF out (nameF c)) r
def pathF (raw : List Int) : List UInt8 := if pathG [] (raw.take 8) = [] then [97] else pathG [] (raw.take 8)
theorem nameF_at (c : Int) : namesF[(pickF c 8).toNat]? = some (nameF c) := by
  have h := pickF_lt c (n := 8) (by omega)
  have h2 : (pickF c 8).toNat < namesF.length := by have : namesF.length = 8 := rfl; omega
  unfold nameF
  rw [List.getD_eq_getElem?_getD, List.getElem?_eq_getElem h2]
  rfl
theorem nameF_mem (c : Int) : nameF c ∈ namesF := List.mem_of_getElem? (nameF_at c)
theorem nameF_len (c : Int) : (nameF c).length ≤ 3 := by
  have : ∀ x ∈ namesF, x.length ≤ 3 := by decide
  exact this _ (nameF_mem c)
theorem pathG_len : ∀ (l : List Int) (out : List UInt8), (pathG out l).length ≤ out.length + 4 * l.length
  | [], out => by simp [pathG]
  | c :: r, out => by
    have h1 := pathG_len r (joinF out (nameF c))
    have h2 := joinF_len out (nameF c)
    have h3 := nameF_len c
    unfold pathG
    simp only [List.length_cons]
    omega
theorem pathF_len (raw : List Int) : (pathF raw).length ≤ 32 := by
  have h1 := pathG_len (raw.take 8) []
  have h2 : (raw.take 8).length ≤ 8 := by simp; omega
  simp only [List.length_nil] at h1
  unfold pathF
  split
  · simp
  · omega
theorem path_loop (NA : List AV) (hNA : NA = namesF.map .str) (raw : List Int) (hr : ∀ c ∈ raw, inR c) (p : Perm) (bx : Bx) (pm : Pm) : ∀ (k : Nat) (rest pre : List Int) (i : Int) (out : List UInt8), k + pre.length = 8 → raw = pre ++ rest → i = pre.length → out.length ≤ 4 * pre.length →
    ∃ i' : Int, RunD Sy (.loop L90x0) ⟨ofL [(0, .sl 1 (raw.map (.int .i64)) .no), (3, .sl 1 NA p), (4, .str out), (5, .int .i64 i)], bx, pm, none⟩ = some (.exit 0, ⟨ofL [(0, .sl 1 (raw.map (.int .i64)) .no), (3, .sl 1 NA p), (4, .str (pathG out (rest.take k))), (5, .int .i64 i'), (14, .bool false)], bx, pm, none⟩)
  | k, [], pre, i, out, hk, h, hi, ho => by
    subst hi
    rw [List.append_nil] at h
    subst h
    refine ⟨raw.length, loop_eq fun K hK => ?_⟩
    simp [L90x0, pathG]
  | 0, c :: rest, pre, i, out, hk, h, hi, ho => by
    subst hi
    have hlt : (pre.length : Int) < raw.length := by rw [h]; simp; omega
    have h8 : ¬ (pre.length : Int) < 8 := by omega
    refine ⟨pre.length, loop_eq fun K hK => ?_⟩
    simp [L90x0, pathG, hlt, h8]
  | k + 1, c :: rest, pre, i, out, hk, h, hi, ho => by
    subst hi
    have hlt : (pre.length : Int) < raw.length := by rw [h]; simp; omega
    have h8 : (pre.length : Int) < 8 := by omega
    have hg : (raw.map (AV.int .i64))[pre.length]? = some (.int .i64 c) := by rw [h]; simp
    have hc := chk_i64 ((pre.length : Int) + 1) (by omega)
    have hp := pick01_den c 8 (hr c (by rw [h]; simp)) (by omega)
    obtain ⟨hp1, hp2⟩ := pickF_lt c (n := 8) (by omega)
    have hnl := nameF_len c
    have hj := join_den out (nameF c) (by omega)
    have hjl := joinF_len out (nameF c)
    have hn : NA[(pickF c 8).toNat]? = some (.str (nameF c)) := by rw [hNA, List.getElem?_map, nameF_at]; rfl
    have hnn : NA.length = 8 := by rw [hNA]; rfl
    obtain ⟨i', hr'⟩ := path_loop NA hNA raw hr p bx pm k rest (pre ++ [c]) ((pre.length : Int) + 1) (joinF out (nameF c)) (by simp; omega) (by simp [h]) (by simp) (by simp; omega)
    refine ⟨i', loop_eq fun K hK => ?_⟩
    simp [L90x0, -getElem?_pos, -List.getElem?_map, hlt, h8, hg, hc, hp, hj, hn, hnn, hp1, hp2]
    rw [hK, hr']
    simp [pathG]
theorem path_den (raw : List Int) (hr : ∀ c ∈ raw, inR c) : Den Sy 90 [.sl 1 (raw.map (.int .i64)) .no] = some (.str (pathF raw)) := by
  rw [Den_fun Sy (af := A90) rfl rfl _ rfl]
  obtain ⟨i', hL⟩ := path_loop [.str [97], .str [98], .str [97, 98], .str [97, 33], .str [97, 46, 98], .str [46, 46, 46], .str [90], .str [255]] rfl raw hr .clip (ofL []) none' 8 raw [] 0 [] rfl rfl rfl (by simp)
  by_cases h : pathG [] (raw.take 8) = []
  · simp [A90, hL, h, pathF]
  · simp [A90, hL, h, pathF]

structure It where
  path : List UInt8
  kind : Int
  data : List UInt8
  bad : Bool
  deriving DecidableEq
def iA (x : It) : AV := .agg [.str x.path, .int .i64 x.kind, .str x.data, .bool x.bad]
theorem iA_pub (x : It) : (iA x).pub = iA x := rfl
abbrev sI (t : List It) : AV := .sl 4 (t.map iA) .no
def countF (t : List It) (p : List UInt8) : Nat := (t.filter fun x => decide (x.path = p)).length
theorem count_loop (t : List It) (ht : t.length ≤ 1099511627776) (p : List UInt8) (bx : Bx) (pm : Pm) : ∀ (rest pre : List It) (i n : Int) (m : Nat), t = pre ++ rest → i = pre.length → n = m → m ≤ pre.length →
    RunD Sy (.loop L108x0) ⟨ofL [(0, sI t), (1, .str p), (5, .int .i64 n), (6, .int .i64 i)], bx, pm, none⟩ = some (.exit 0, ⟨ofL [(0, sI t), (1, .str p), (5, .int .i64 (n + countF rest p)), (6, .int .i64 t.length), (10, .bool false)], bx, pm, none⟩)
  | [], pre, i, n, m, h, hi, hn, hm => by
    subst hi hn
    rw [List.append_nil] at h
    subst h
    refine loop_eq fun K hK => ?_
    simp [L108x0, countF]
  | c :: rest, pre, i, n, m, h, hi, hn, hm => by
    subst hi hn
    have hlt : (pre.length : Int) < t.length := by rw [h]; simp; omega
    have hg : (t.map iA)[pre.length]? = some (iA c) := by rw [h]; simp
    have hc := chk_i64 ((pre.length : Int) + 1) (by omega)
    have hc2 := chk_i64 ((m : Int) + 1) (by omega)
    simp only [iA] at hg
    refine loop_eq fun K hK => ?_
    by_cases h0 : c.path = p
    · have hr := count_loop t ht p bx pm rest (pre ++ [c]) ((pre.length : Int) + 1) ((m : Int) + 1) (m + 1) (by simp [h]) (by simp) (by simp) (by simp; omega)
      have hu : ((countF (c :: rest) p : Nat) : Int) = countF rest p + 1 := by simp [countF, h0]
      have hv : (m : Int) + 1 + countF rest p = m + countF (c :: rest) p := by omega
      simp [L108x0, -getElem?_pos, -List.getElem?_map, hlt, hg, hc, hc2, h0]
      rw [hK, hr, hv]
    · have hr := count_loop t ht p bx pm rest (pre ++ [c]) ((pre.length : Int) + 1) m m (by simp [h]) (by simp) rfl (by simp; omega)
      simp [L108x0, -getElem?_pos, -List.getElem?_map, hlt, hg, hc, hc2, h0]
      rw [hK, hr]
      simp [countF, h0]
theorem countF_le (t : List It) (p : List UInt8) : countF t p ≤ t.length := List.length_filter_le _ _
theorem count_den (t : List It) (ht : t.length ≤ 1099511627776) (p : List UInt8) : Den Sy 108 [sI t, .str p] = some (.int .i64 (countF t p)) := by
  rw [Den_fun Sy (af := A108) rfl rfl _ rfl]
  have hL := count_loop t ht p (ofL []) none' t [] 0 0 0 rfl rfl rfl (by simp)
  simp [A108, hL]

def dirB (t : List It) (p : List UInt8) : Bool := t.any fun x => decide (x.path = p) && decide (x.kind = 1)
theorem dirB_loop (t : List It) (ht : t.length ≤ 1099511627776) (p : List UInt8) (bx : Bx) (pm : Pm) : ∀ (rest pre : List It) (i : Int), t = pre ++ rest → i = pre.length →
    RunD Sy (.loop L111x0) ⟨ofL [(0, sI t), (1, .str p), (5, .int .i64 i)], bx, pm, none⟩ = some (if dirB rest p = true then (.ret, ⟨ofL [(4, .bool true)], bx, pm, none⟩) else (.exit 0, ⟨ofL [(0, sI t), (1, .str p), (5, .int .i64 t.length), (9, .bool false)], bx, pm, none⟩))
  | [], pre, i, h, hi => by
    subst hi
    rw [List.append_nil] at h
    subst h
    refine loop_eq fun K hK => ?_
    simp [L111x0, dirB]
  | c :: rest, pre, i, h, hi => by
    subst hi
    have hlt : (pre.length : Int) < t.length := by rw [h]; simp; omega
    have hg : (t.map iA)[pre.length]? = some (iA c) := by rw [h]; simp
    have hc := chk_i64 ((pre.length : Int) + 1) (by omega)
    simp only [iA] at hg
    have hr := dirB_loop t ht p bx pm rest (pre ++ [c]) ((pre.length : Int) + 1) (by simp [h]) (by simp)
    have hu : dirB (c :: rest) p = ((decide (c.path = p) && decide (c.kind = 1)) || dirB rest p) := by simp [dirB]
    refine loop_eq fun K hK => ?_
    by_cases h0 : c.path = p
    · by_cases h1 : c.kind = 1
      · simp [L111x0, -getElem?_pos, -List.getElem?_map, hlt, hg, hc, h0, h1, hu]
      · simp [L111x0, -getElem?_pos, -List.getElem?_map, hlt, hg, hc, h0, h1, hu]
        rw [hK, hr]
    · simp [L111x0, -getElem?_pos, -List.getElem?_map, hlt, hg, hc, h0, hu]
      rw [hK, hr]
theorem dirB_den (t : List It) (ht : t.length ≤ 1099511627776) (p : List UInt8) : Den Sy 111 [sI t, .str p] = some (.bool (dirB t p)) := by
  rw [Den_fun Sy (af := A111) rfl rfl _ rfl]
  have hL := dirB_loop t ht p (ofL []) none' t [] 0 rfl rfl
  by_cases h : dirB t p = true
  · rw [if_pos h] at hL
    simp [A111, hL, h]
  · rw [if_neg h] at hL
    simp [A111, hL, h]

def findF (t : List It) (p : List UInt8) : Option It := t.find? fun x => decide (x.path = p)
abbrev zI : It := ⟨[], 0, [], false⟩
/-- What Find tells. -/
def fA : Option It → AV
  | some x => .tup [iA x, .bool true]
  | none => .tup [iA zI, .bool false]
theorem find_loop (t : List It) (ht : t.length ≤ 1099511627776) (p : List UInt8) (v : Nat) (bx : Bx) (pm : Pm) (hb : bx 4 = some (v, [.str [], .int .i64 0, .str [], .bool false])) : ∀ (rest pre : List It) (i : Int), t = pre ++ rest → i = pre.length →
    Res (RunD Sy (.loop L66x0) ⟨ofL [(0, sI t), (1, .str p), (4, .ptr 4 v 0), (6, .int .i64 i)], bx, pm, none⟩) fun ex st' => match findF rest p with
      | some x => ex = .ret ∧ st'.env = ofL [(4, .ptr 4 v 0), (5, .bool true)] ∧ st'.bx 4 = some (v, [.str x.path, .int .i64 x.kind, .str x.data, .bool x.bad]) ∧ st'.df = none
      | none => ex = .exit 0 ∧ ∃ i', st' = ⟨ofL [(0, sI t), (1, .str p), (4, .ptr 4 v 0), (6, i'), (10, .bool false)], bx, pm, none⟩
  | [], pre, i, h, hi => by
    subst hi
    rw [List.append_nil] at h
    subst h
    refine loop_step fun K hK => ?_
    simp [L66x0, findF]
    exact ⟨_, rfl⟩
  | c :: rest, pre, i, h, hi => by
    subst hi
    have hlt : (pre.length : Int) < t.length := by rw [h]; simp; omega
    have hg : (t.map iA)[pre.length]? = some (iA c) := by rw [h]; simp
    have hc := chk_i64 ((pre.length : Int) + 1) (by omega)
    simp only [iA] at hg
    refine loop_step fun K hK => ?_
    by_cases h0 : c.path = p
    · simp [L66x0, -getElem?_pos, -List.getElem?_map, hlt, hg, hc, h0, findF, hb]
    · simp [L66x0, -getElem?_pos, -List.getElem?_map, hlt, hg, hc, h0, findF]
      rw [hK]
      exact find_loop t ht p v bx pm hb rest (pre ++ [c]) ((pre.length : Int) + 1) (by simp [h]) (by simp)
theorem find_den (t : List It) (ht : t.length ≤ 1099511627776) (p : List UInt8) : Den Sy 66 [sI t, .str p] = some (fA (findF t p)) := by
  rw [Den_fun Sy (af := A66) rfl rfl _ rfl]
  obtain ⟨ex, st', hL, hR⟩ := find_loop t ht p (nextB (ofL []) 4) (upd (ofL []) 4 (nextB (ofL []) 4, [.str [], .int .i64 0, .str [], .bool false])) none' (by simp) t [] 0 rfl rfl
  split at hR
  · rename_i x hx
    obtain ⟨rfl, h1, h2, h3⟩ := hR
    simp [A66, hL, hx, h1, h2, h3, fA, iA]
  · rename_i hx
    obtain ⟨rfl, i', rfl⟩ := hR
    simp [A66, hL, hx, fA, iA]

def some1 (x : It) (size which : Int) : Bool := if which = 5 then decide (x.kind < 1) || decide (3 < x.kind) || (decide (x.kind = 1) && decide (x.data ≠ [])) else if which = 7 then decide (size < x.data.length) else x.bad
def someB (t : List It) (p : List UInt8) (size which : Int) : Bool := t.any fun x => decide (x.path = p) && some1 x size which
theorem some_loop (t : List It) (ht : t.length ≤ 1099511627776) (p : List UInt8) (size which : Int) (hw : which = 5 ∨ which = 7 ∨ which = 9) : ∀ (rest pre : List It) (i : Int) (bx : Bx) (pm : Pm), t = pre ++ rest → i = pre.length →
    Res (RunD Sy (.loop L109x0) ⟨ofL [(0, sI t), (1, .str p), (2, .int .i64 size), (3, .int .i64 which), (9, .int .i64 i)], bx, pm, none⟩) fun ex st' => st'.df = none ∧ if someB rest p size which = true then ex = .ret ∧ st'.env = ofL [(8, .bool true)] else ex = .exit 0
  | [], pre, i, bx, pm, h, hi => by
    subst hi
    rw [List.append_nil] at h
    subst h
    refine loop_step fun K hK => ?_
    simp [L109x0, someB]
  | c :: rest, pre, i, bx, pm, h, hi => by
    subst hi
    have hlt : (pre.length : Int) < t.length := by rw [h]; simp; omega
    have hg : (t.map iA)[pre.length]? = some (iA c) := by rw [h]; simp
    have hc := chk_i64 ((pre.length : Int) + 1) (by omega)
    simp only [iA] at hg
    have hr := fun bx pm => some_loop t ht p size which hw rest (pre ++ [c]) ((pre.length : Int) + 1) bx pm (by simp [h]) (by simp)
    have hu : someB (c :: rest) p size which = ((decide (c.path = p) && some1 c size which) || someB rest p size which) := by simp [someB]
    rw [hu]
    refine loop_step fun K hK => ?_
    by_cases h0 : c.path = p
    · rcases hw with rfl | rfl | rfl
      · by_cases h1 : c.kind < 1
        · simp [L109x0, -getElem?_pos, -List.getElem?_map, hlt, hg, hc, h0, h1, some1]
        · by_cases h2 : 3 < c.kind
          · simp [L109x0, -getElem?_pos, -List.getElem?_map, hlt, hg, hc, h0, h1, h2, some1]
          · by_cases h3 : c.kind = 1
            · by_cases h4 : c.data = []
              · simp [L109x0, -getElem?_pos, -List.getElem?_map, hlt, hg, hc, h0, h1, h2, h3, h4, some1]
                rw [hK]
                exact hr _ _
              · simp [L109x0, -getElem?_pos, -List.getElem?_map, hlt, hg, hc, h0, h1, h2, h3, h4, some1]
            · simp [L109x0, -getElem?_pos, -List.getElem?_map, hlt, hg, hc, h0, h1, h2, h3, some1]
              rw [hK]
              exact hr _ _
      · by_cases h1 : size < c.data.length
        · simp [L109x0, -getElem?_pos, -List.getElem?_map, hlt, hg, hc, h0, h1, some1]
        · simp [L109x0, -getElem?_pos, -List.getElem?_map, hlt, hg, hc, h0, h1, some1]
          rw [hK]
          exact hr _ _
      · by_cases h1 : c.bad = true
        · simp [L109x0, -getElem?_pos, -List.getElem?_map, hlt, hg, hc, h0, h1, some1]
        · simp [L109x0, -getElem?_pos, -List.getElem?_map, hlt, hg, hc, h0, h1, some1]
          rw [hK]
          exact hr _ _
    · simp [L109x0, -getElem?_pos, -List.getElem?_map, hlt, hg, hc, h0]
      rw [hK]
      exact hr _ _
theorem some_den (t : List It) (ht : t.length ≤ 1099511627776) (p : List UInt8) (size which : Int) (hw : which = 5 ∨ which = 7 ∨ which = 9) : Den Sy 109 [sI t, .str p, .int .i64 size, .int .i64 which] = some (.bool (someB t p size which)) := by
  rw [Den_fun Sy (af := A109) rfl rfl _ rfl]
  obtain ⟨ex, st', hL, hd, hR⟩ := some_loop t ht p size which hw t [] 0 (ofL []) none' rfl rfl
  by_cases h : someB t p size which = true
  · rw [if_pos h] at hR
    simp [A109, hL, h, hR, hd]
  · rw [if_neg h] at hR
    simp [A109, hL, h, hR, hd]

theorem Res.at {X Y : Option (Ex × St)} {Q : Ex → St → Prop} (h : Y = X) (k : Res Y Q) : Res X Q := h ▸ k
structure Lim where
  depth : Int
  size : Int
  count : Int
def lA (l : Lim) : AV := .agg [.int .i64 l.depth, .int .i64 l.size, .int .i64 l.count]
def faultF (t : List It) (l : Lim) (p : List UInt8) : Int :=
  if check01F p ≠ 0 then check01F p
  else if l.depth < (partsF p).length then 3
  else if 1 < countF t p then 4
  else if someB t p l.size 5 = true then 5
  else if dirF p ≠ [] ∧ dirB t (dirF p) = false then 6
  else if someB t p l.size 7 = true then 7
  else if someB t p l.size 9 = true then 9
  else 0
theorem fault_den (t : List It) (ht : t.length ≤ 1099511627776) (l : Lim) (p : List UInt8) (hp : p.length ≤ 1099511627776) : Den Sy 93 [sI t, lA l, .str p] = some (.int .i64 (faultF t l p)) := by
  rw [Den_fun Sy (af := A93) rfl rfl _ rfl]
  have h1 := check01_den p hp
  have h2 := parts_den p hp
  have h3 := count_den t ht p
  have h5 := some_den t ht p l.size 5 (by simp)
  have h7 := some_den t ht p l.size 7 (by simp)
  have h9 := some_den t ht p l.size 9 (by simp)
  have hd := dir_den p hp
  have h6 := dirB_den t ht (dirF p)
  unfold faultF
  by_cases k1 : check01F p = 0
  · by_cases k2 : l.depth < (partsF p).length
    · simp [A93, lA, h1, h2, k1, k2]
    · by_cases k3 : 1 < countF t p
      · have k3' : (1 : Int) < countF t p := by omega
        simp [A93, lA, h1, h2, h3, k1, k2, k3, k3']
      · have k3' : ¬ (1 : Int) < countF t p := by omega
        by_cases k4 : someB t p l.size 5 = true
        · simp [A93, lA, h1, h2, h3, h5, k1, k2, k3, k3', k4]
        · by_cases k5 : dirF p = []
          · by_cases k7 : someB t p l.size 7 = true
            · simp [A93, lA, h1, h2, h3, h5, h7, h9, hd, h6, k1, k2, k3, k3', k4, k5, k7]
            · by_cases k9 : someB t p l.size 9 = true
              · simp [A93, lA, h1, h2, h3, h5, h7, h9, hd, h6, k1, k2, k3, k3', k4, k5, k7, k9]
              · simp [A93, lA, h1, h2, h3, h5, h7, h9, hd, h6, k1, k2, k3, k3', k4, k5, k7, k9]
          · by_cases k6 : dirB t (dirF p) = false
            · simp [A93, lA, h1, h2, h3, h5, h7, h9, hd, h6, k1, k2, k3, k3', k4, k5, k6]
            · by_cases k7 : someB t p l.size 7 = true
              · simp [A93, lA, h1, h2, h3, h5, h7, h9, hd, h6, k1, k2, k3, k3', k4, k5, k6, k7]
              · by_cases k9 : someB t p l.size 9 = true
                · simp [A93, lA, h1, h2, h3, h5, h7, h9, hd, h6, k1, k2, k3, k3', k4, k5, k6, k7, k9]
                · simp [A93, lA, h1, h2, h3, h5, h7, h9, hd, h6, k1, k2, k3, k3', k4, k5, k6, k7, k9]
  · simp [A93, lA, h1, k1]

/-! ### What is wrong with a tree -/
def checkG (t : List It) (l : Lim) (path : List UInt8) (code : Int) : List It → List UInt8 × Int
  | [] => (path, code)
  | x :: r => if faultF t l x.path ≠ 0 ∧ (code = 0 ∨ cmpP x.path path < 0) then checkG t l x.path (faultF t l x.path) r else checkG t l path code r
def checkF (t : List It) (l : Lim) : List UInt8 × Int := if l.count < t.length then ([], 8) else checkG t l [] 0 t
def ftA (f : List UInt8 × Int) : AV := .agg [.str f.1, .int .i64 f.2]
theorem check_loop (t : List It) (ht : t.length ≤ 1099511627776) (hp : ∀ x ∈ t, x.path.length ≤ 1099511627776) (l : Lim) (v3 v4 v5 : Nat) : ∀ (rest pre : List It) (i : Int) (path : List UInt8) (code : Int) (bx : Bx) (pm : Pm), t = pre ++ rest → i = pre.length → path.length ≤ 1099511627776 → bx 3 = some (v3, [.int .i64 l.depth, .int .i64 l.size, .int .i64 l.count]) → bx 4 = some (v4, [.str [], .int .i64 0]) → bx 5 = some (v5, [.str path, .int .i64 code]) →
    Res (RunD Sy (.loop L67x0) ⟨ofL [(0, sI t), (3, .ptr 3 v3 0), (4, .ptr 4 v4 0), (5, .ptr 5 v5 0), (6, .int .i64 i)], bx, pm, none⟩) fun ex st' => ex = .exit 0 ∧ ∃ i' b, st' = ⟨ofL [(0, sI t), (3, .ptr 3 v3 0), (4, .ptr 4 v4 0), (5, .ptr 5 v5 0), (6, i'), (18, .bool false)], b, pm, none⟩ ∧ b 4 = some (v4, [.str [], .int .i64 0]) ∧ b 5 = some (v5, [.str (checkG t l path code rest).1, .int .i64 (checkG t l path code rest).2])
  | [], pre, i, path, code, bx, pm, h, hi, hl, b3, b4, b5 => by
    subst hi
    rw [List.append_nil] at h
    subst h
    refine loop_step fun K hK => ?_
    simp [L67x0, checkG]
    exact ⟨_, _, ⟨rfl, rfl⟩, b4, b5⟩
  | c :: rest, pre, i, path, code, bx, pm, h, hi, hl, b3, b4, b5 => by
    subst hi
    have hlt : (pre.length : Int) < t.length := by rw [h]; simp; omega
    have hg : (t.map iA)[pre.length]? = some (iA c) := by rw [h]; simp
    have hc := chk_i64 ((pre.length : Int) + 1) (by omega)
    have hcp := hp c (by rw [h]; simp)
    have hf := fault_den t ht l c.path hcp
    have hm := cmp_den c.path path hcp hl
    simp only [iA] at hg
    simp only [lA] at hf
    refine loop_step fun K hK => ?_
    unfold checkG
    by_cases h0 : faultF t l c.path = 0
    · simp [L67x0, -getElem?_pos, -List.getElem?_map, hlt, hg, hc, h0, b3, b4, b5, hf]
      rw [hK]
      exact check_loop t ht hp l v3 v4 v5 rest (pre ++ [c]) ((pre.length : Int) + 1) path code bx pm (by simp [h]) (by simp) hl b3 b4 b5
    · by_cases h1 : code = 0
      · simp [L67x0, -getElem?_pos, -List.getElem?_map, hlt, hg, hc, h0, h1, b3, b4, b5, hf]
        rw [hK]
        exact check_loop t ht hp l v3 v4 v5 rest (pre ++ [c]) ((pre.length : Int) + 1) c.path _ _ pm (by simp [h]) (by simp) hcp (by simp [b3]) (by simp [b4]) (by simp)
      · by_cases h2 : cmpP c.path path < 0
        · simp [L67x0, -getElem?_pos, -List.getElem?_map, hlt, hg, hc, h0, h1, h2, b3, b4, b5, hf, hm]
          rw [hK]
          exact check_loop t ht hp l v3 v4 v5 rest (pre ++ [c]) ((pre.length : Int) + 1) c.path _ _ pm (by simp [h]) (by simp) hcp (by simp [b3]) (by simp [b4]) (by simp)
        · simp [L67x0, -getElem?_pos, -List.getElem?_map, hlt, hg, hc, h0, h1, h2, b3, b4, b5, hf, hm]
          rw [hK]
          exact check_loop t ht hp l v3 v4 v5 rest (pre ++ [c]) ((pre.length : Int) + 1) path code bx pm (by simp [h]) (by simp) hl b3 b4 b5
theorem check_den (t : List It) (ht : t.length ≤ 1099511627776) (hp : ∀ x ∈ t, x.path.length ≤ 1099511627776) (l : Lim) : Den Sy 67 [sI t, lA l] = some (ftA (checkF t l)) := by
  rw [Den_fun Sy (af := A67) rfl rfl _ rfl]
  unfold checkF
  by_cases h : l.count < t.length
  · simp [A67, lA, h, ftA]
  · simp [A67, lA, h, ftA]
    generalize hX : RunD Sy (.loop L67x0) _ = X
    obtain ⟨ex, st', rfl, rfl, i', b, rfl, b4, b5⟩ := Res.at hX (check_loop t ht hp l _ _ _ t [] 0 [] 0 _ none' rfl rfl (by simp) (by simp) (by simp) (by simp))
    simp [b4, b5]

/-! ### Sorting -/
/-- Behind how many things another one stands (they are handed over from behind). -/
def atF {α : Type} (lt : α → α → Bool) (x : α) : List α → Nat
  | [] => 0
  | y :: r => if lt x y = true then atF lt x r else r.length + 1
def insF {α : Type} (lt : α → α → Bool) (x : α) (out : List α) : List α := out.take (atF lt x out.reverse) ++ x :: out.drop (atF lt x out.reverse)
def sortG {α : Type} (lt : α → α → Bool) (out : List α) : List α → List α
  | [] => out
  | x :: r => sortG lt (insF lt x out) r
def itLt (x y : It) : Bool := decide (cmpP x.path y.path < 0)
def sortF (t : List It) : List It := sortG itLt [] t
theorem atF_le {α : Type} (lt : α → α → Bool) (x : α) : ∀ l : List α, atF lt x l ≤ l.length
  | [] => by simp [atF]
  | y :: r => by
    have := atF_le lt x r
    unfold atF
    split
    · simp; omega
    · simp
theorem insF_len {α : Type} (lt : α → α → Bool) (x : α) (out : List α) : (insF lt x out).length = out.length + 1 := by
  have h := atF_le lt x out.reverse
  simp at h
  unfold insF
  simp
  omega
theorem insF_mem {α : Type} (lt : α → α → Bool) (x y : α) (out : List α) : y ∈ insF lt x out ↔ y = x ∨ y ∈ out := by
  unfold insF
  rw [List.mem_append, List.mem_cons]
  constructor
  · rintro (h | h | h)
    · exact .inr (List.mem_of_mem_take h)
    · exact .inl h
    · exact .inr (List.mem_of_mem_drop h)
  · rintro (h | h)
    · exact .inr (.inl h)
    · rw [← List.take_append_drop (atF lt x out.reverse) out, List.mem_append] at h
      rcases h with h | h
      · exact .inl h
      · exact .inr (.inr h)
theorem sort_inner (t : List It) (x : It) (out : List It) (q : Perm) (i : Nat) (hi : i < t.length) (ht : t.length ≤ 1099511627776) (hx : t[i]? = some x) (hxp : x.path.length ≤ 1099511627776) (ho : out.length ≤ 1099511627776) (hop : ∀ y ∈ out, y.path.length ≤ 1099511627776) (bx : Bx) (pm : Pm) : ∀ (r s : List It) (at_ : Int), out = r.reverse ++ s → at_ = r.length →
    RunD Sy (.loop L45x0) ⟨ofL [(0, sI t), (3, .sl 4 (out.map iA) q), (4, .int .i64 i), (5, .int .i64 at_)], bx, pm, none⟩ = some (.exit 2, ⟨ofL [(0, sI t), (3, .sl 4 (out.map iA) q), (4, .int .i64 i), (5, .int .i64 (atF itLt x r)), (30, .bool false)], bx, pm, none⟩)
  | [], s, at_, h, hat => by
    subst hat
    refine loop_eq fun K hK => ?_
    simp [L45x0, atF]
  | y :: r, s, at_, h, hat => by
    subst hat
    have hg : (t.map iA)[i]? = some (iA x) := by rw [List.getElem?_map, hx]; rfl
    have hg2 : (out.map iA)[r.length]? = some (iA y) := by rw [h]; simp
    have hlo : r.length + 1 ≤ out.length := by rw [h]; simp
    have hm := cmp_den x.path y.path hxp (hop y (by rw [h]; simp))
    have hc := chk_i64 ((r.length : Int)) (by omega)
    have hi' : (i : Int) < t.length := by omega
    have hpos : (0 : Int) < (r.length : Int) + 1 := by omega
    have hsub : (r.length : Int) + 1 - 1 = r.length := by omega
    have hlr : r.length < out.length := by omega
    simp only [iA] at hg hg2
    refine loop_eq fun K hK => ?_
    by_cases h1 : cmpP x.path y.path < 0
    · have hr := sort_inner t x out q i hi ht hx hxp ho hop bx pm r (y :: s) r.length (by rw [h]; simp) rfl
      simp [L45x0, -getElem?_pos, -List.getElem?_map, hi', hi, hg, hg2, hm, hc, hpos, hsub, h1, hlr, hlo]
      rw [hK, hr]
      simp [atF, itLt, h1]
    · simp [L45x0, -getElem?_pos, -List.getElem?_map, hi', hi, hg, hg2, hm, hc, hpos, hsub, h1, atF, itLt, hlr, hlo]

theorem sortG_mem {α : Type} (lt : α → α → Bool) (y : α) : ∀ (l out : List α), y ∈ sortG lt out l ↔ y ∈ out ∨ y ∈ l
  | [], out => by simp [sortG]
  | x :: r, out => by
    unfold sortG
    rw [sortG_mem lt y r, insF_mem, List.mem_cons]
    constructor
    · rintro ((h | h) | h)
      · exact .inr (.inl h)
      · exact .inl h
      · exact .inr (.inr h)
    · rintro (h | h | h)
      · exact .inl (.inr h)
      · exact .inl (.inl h)
      · exact .inr h
theorem sortG_len {α : Type} (lt : α → α → Bool) : ∀ (l out : List α), (sortG lt out l).length = out.length + l.length
  | [], out => by simp [sortG]
  | x :: r, out => by
    unfold sortG
    rw [sortG_len lt r, insF_len]
    simp
    omega
theorem sort_loop (t : List It) (ht : t.length ≤ 1000000000) (hp : ∀ x ∈ t, x.path.length ≤ 1099511627776) (bx : Bx) : ∀ (rest pre out : List It) (O : List AV) (i : Int) (q : Perm) (pm : Pm), t = pre ++ rest → i = pre.length → O = out.map iA → out.length ≤ pre.length → (∀ y ∈ out, y ∈ t) → AppOk pm q →
    Res (RunD Sy (.loop L45x1) ⟨ofL [(0, sI t), (3, .sl 4 O q), (4, .int .i64 i)], bx, pm, none⟩) fun ex st' => ex = .exit 0 ∧ ∃ i' q' pm', AppOk pm' q' ∧ st' = ⟨ofL [(0, sI t), (3, .sl 4 ((sortG itLt out rest).map iA) q'), (4, i'), (9, .bool false)], bx, pm', none⟩
  | [], pre, out, O, i, q, pm, h, hi, hO, hlo, hot, hq => by
    subst hi hO
    rw [List.append_nil] at h
    subst h
    refine loop_step fun K hK => ?_
    simp [L45x1, sortG]
    exact ⟨_, _, hq, rfl⟩
  | x :: rest, pre, out, O, i, q, pm, h, hi, hO, hlo, hot, hq => by
    subst hi hO
    have hltn : pre.length < t.length := by rw [h]; simp
    have hlt : (pre.length : Int) < t.length := by omega
    have hx : t[pre.length]? = some x := by rw [h]; simp
    have hg : (t.map iA)[pre.length]? = some (iA x) := by rw [h]; simp
    have hc := chk_i64 ((pre.length : Int) + 1) (by omega)
    have hin := sort_inner t x out q pre.length hltn (by omega) hx (hp x (by rw [h]; simp)) (by omega) (fun y hy => hp y (hot y hy)) bx pm out.reverse [] out.length (by simp) (by simp)
    have hat := atF_le itLt x out.reverse
    rw [List.length_reverse] at hat
    have hat' : ((atF itLt x out.reverse : Nat) : Int) ≤ out.length := by omega
    have hu : sortG itLt out (x :: rest) = sortG itLt (insF itLt x out) rest := rfl
    have hnx := fun O hO q pm hq => sort_loop t ht hp bx rest (pre ++ [x]) (insF itLt x out) O ((pre.length : Int) + 1) q pm (by simp [h]) (by simp) hO (by rw [insF_len]; simp; omega) (fun y hy => by
      rcases (insF_mem itLt x y out).1 hy with rfl | hy
      · rw [h]; simp
      · exact hot y hy) hq
    rw [hu]
    unfold insF at hnx ⊢
    generalize atF itLt x out.reverse = at_ at hin hat hat' hnx ⊢
    simp only [iA] at hg
    have s1 : at_ * 48 ≤ 140737488355328 := by omega
    have s2 : (at_ + 1) * 48 ≤ 140737488355328 := by omega
    have s3 : (at_ + 1 + (out.length - at_)) * 48 ≤ 140737488355328 := by omega
    have e : (out.map iA).take out.length = out.map iA := List.take_of_length_le (by simp)
    have s4 : min at_ out.length = at_ := by omega
    refine loop_step fun K hK => ?_
    rcases hq with rfl | ⟨tt, v, rfl, hpm⟩
    · simp [L45x1, -getElem?_pos, -List.getElem?_map, hlt, hg, hc, hin, hat, hat', s1, s2, s3, s4]
      rw [hK]
      exact hnx _ (by rw [e]; simp [iA]) _ _ (AppOk.tok (by simp))
    · simp [L45x1, -getElem?_pos, -List.getElem?_map, hlt, hg, hc, hin, hpm, hat, hat', s1, s2, s3, s4]
      rw [hK]
      exact hnx _ (by rw [e]; simp [iA]) _ _ (AppOk.tok (by simp))
theorem sort_den (t : List It) (ht : t.length ≤ 1000000000) (hp : ∀ x ∈ t, x.path.length ≤ 1099511627776) : Den Sy 45 [sI t] = some (sI (sortF t)) := by
  rw [Den_fun Sy (af := A45) rfl rfl _ rfl]
  obtain ⟨ex, st', hL, rfl, i', q', pm', hq, rfl⟩ := sort_loop t ht hp (ofL []) t [] [] [] 0 .nil none' rfl rfl rfl (by simp) (by simp) (AppOk.nil _)
  rcases hq with rfl | ⟨tt, v, rfl, hpm⟩
  · simp [A45, hL, sortF]
  · simp [A45, hL, sortF]

/-! ### Raw items, and trees of them -/
structure Raw where
  path : List Int
  kind : Int
  data : List UInt8
  bad : Int
def rA (x : Raw) : AV := .agg [.sl 1 (x.path.map (.int .i64)) .no, .int .i64 x.kind, .str x.data, .int .i64 x.bad]
abbrev sR (l : List Raw) : AV := .sl 4 (l.map rA) .no
def Raw.ok (x : Raw) : Prop := (∀ c ∈ x.path, inR c) ∧ inR x.kind ∧ inR x.bad ∧ x.data.length ≤ 281474976710656
def itemF (x : Raw) : It := ⟨pathF x.path, 1 + pickF x.kind 3, if 1 + pickF x.kind 3 = 1 then [] else x.data.take 60, decide (pickF x.bad 12 = 0)⟩
theorem item_den (x : Raw) (h : x.ok) : Den Sy 63 [rA x] = some (iA (itemF x)) := by
  obtain ⟨h1, h2, h3, h4⟩ := h
  rw [Den_fun Sy (af := A63) rfl rfl _ rfl]
  have hp := path_den x.path h1
  have hk := pick02_den x.kind 3 h2 (by omega)
  have hb := pick02_den x.bad 12 h3 (by omega)
  obtain ⟨k1, k2⟩ := pickF_lt x.kind (n := 3) (by omega)
  have hc := chk_i64 (1 + pickF x.kind 3) (by omega)
  have ht : (if (60 : Int) < x.data.length then (60 : Int) else x.data.length) = ((min x.data.length 60 : Nat) : Int) := by split <;> omega
  have hm2 : min x.data.length 60 ≤ x.data.length := by omega
  have htk : x.data.take (min x.data.length 60) = x.data.take 60 := by
    rcases Nat.le_total x.data.length 60 with h | h
    · rw [Nat.min_eq_left h, List.take_of_length_le (Nat.le_refl _), List.take_of_length_le h]
    · rw [Nat.min_eq_right h]
  unfold itemF
  generalize pickF x.kind 3 = k at *
  generalize pickF x.bad 12 = b at *
  generalize pathF x.path = P at *
  generalize hm : min x.data.length 60 = m at *
  have hm3 : (m : Int) ≤ x.data.length := by omega
  by_cases hd : k = 0
  · subst hd
    have hc1 := chk_i64 1 (by omega)
    simp [A63, rA, hc1, hp, hk, hb, hc, iA, ht, htk, hm2, hm3]
  · have hd2 : ¬ 1 + k = 1 := by omega
    simp [A63, rA, hp, hk, hb, hc, iA, hd, hd2, ht, htk, hm2, hm3]
theorem wide_den : Den Sy 22 [] = some (lA ⟨16, 1000, 200⟩) := by
  rw [Den_fun Sy (af := A22) rfl rfl _ rfl]
  simp [A22, lA]
/-- The dirs of a path, with a tree's. -/
def withG : List It → List UInt8 → List (List UInt8) → List It
  | w, _, [] => w
  | w, _, [_] => w
  | w, p, a :: b :: r => withG (if (findF w (joinF p a)).isSome = true then w else w ++ [⟨joinF p a, 1, [], false⟩]) (joinF p a) (b :: r)
def itemT (x : Raw) : It := { itemF x with bad := false }
def wide : Lim := ⟨16, 1000, 200⟩
def stepT (t : List It) (x : Raw) : List It :=
  let w := withG t [] (partsF (itemT x).path) ++ [itemT x]
  if (checkF w wide).2 = 0 then w else t
def treeG (t : List It) : List Raw → List It
  | [] => t
  | x :: r => treeG (stepT t x) r
def treeF (raw : List Raw) : List It := treeG [] (raw.take 14)
theorem withG_len : ∀ (l : List (List UInt8)) (w : List It) (p : List UInt8), (withG w p l).length ≤ w.length + (l.length - 1)
  | [], w, p => by simp [withG]
  | [_], w, p => by simp [withG]
  | a :: b :: r, w, p => by
    unfold withG
    have := withG_len (b :: r) (if (findF w (joinF p a)).isSome = true then w else w ++ [⟨joinF p a, 1, [], false⟩]) (joinF p a)
    have h2 : (if (findF w (joinF p a)).isSome = true then w else w ++ [⟨joinF p a, 1, [], false⟩]).length ≤ w.length + 1 := by split <;> simp
    simp only [List.length_cons] at this ⊢
    omega
def WQ (l : List (List UInt8)) (i4 raw T : AV) (v5 : Nat) (c5 : List AV) (R : List It) (ex : Ex) (st' : St) : Prop := ex = .exit 2 ∧ ∃ (q' : Perm) (p' k' : AV) (pm' : Pm) (bx' : Bx), AppOk pm' q' ∧ bx' 5 = some (v5, c5) ∧ st' = ⟨ofL [(0, raw), (3, T), (4, i4), (5, .ptr 5 v5 0), (6, sS l), (7, .sl 4 (R.map iA) q'), (8, p'), (9, k'), (37, .bool false)], bx', pm', none⟩
theorem with_loop (l : List (List UInt8)) (hl : l.length ≤ 16) (hm : ∀ x ∈ l, x.length ≤ 64) (i4 : AV) (raw : AV) (T : AV) (v5 : Nat) (c5 : List AV) : ∀ (rest pre : List (List UInt8)) (k : Int) (w : List It) (W : List AV) (q : Perm) (p : List UInt8) (bx : Bx) (pm : Pm), l = pre ++ rest → k = pre.length → W = w.map iA → AppOk pm q → p.length ≤ 65 * pre.length → w.length + rest.length ≤ 1000000 → bx 5 = some (v5, c5) →
    Res (RunD Sy (.loop L40x0) ⟨ofL [(0, raw), (3, T), (4, i4), (5, .ptr 5 v5 0), (6, sS l), (7, .sl 4 W q), (8, .str p), (9, .int .i64 k)], bx, pm, none⟩) fun ex st' => WQ l i4 raw T v5 c5 (withG w p rest) ex st'
  | [], pre, k, w, W, q, p, bx, pm, h, hk, hW, hq, hp, hw, b5 => by
    subst hk hW
    rw [List.append_nil] at h
    subst h
    have hc := chk_i64 ((l.length : Int) + 1) (by omega)
    have h2 : ¬ (l.length : Int) + 1 < l.length := by omega
    refine loop_step fun K hK => ?_
    simp [L40x0, hc, h2, withG]
    exact ⟨rfl, _, _, _, _, _, hq, b5, rfl⟩
  | [a], pre, k, w, W, q, p, bx, pm, h, hk, hW, hq, hp, hw, b5 => by
    subst hk hW
    have h1 : (l.length : Int) = pre.length + 1 := by rw [h]; simp
    have hc := chk_i64 ((pre.length : Int) + 1) (by omega)
    have h2 : ¬ (pre.length : Int) + 1 < l.length := by omega
    refine loop_step fun K hK => ?_
    simp [L40x0, hc, h2, h1, withG]
    exact ⟨rfl, _, _, _, _, _, hq, b5, rfl⟩
  | a :: b :: r, pre, k, w, W, q, p, bx, pm, h, hk, hW, hq, hp, hw, b5 => by
    subst hk hW
    have h1 : l.length = pre.length + (r.length + 2) := by rw [h]; simp
    have hlt : (pre.length : Int) + 1 < l.length := by omega
    have hlt' : (pre.length : Int) < l.length := by omega
    have hg : (l.map AV.str)[pre.length]? = some (.str a) := by rw [h]; simp
    have hc := chk_i64 ((pre.length : Int) + 1) (by omega)
    have hcl := hm a (by rw [h]; simp)
    have hd := join_den p a (by omega)
    have hj := joinF_len p a
    have hf := find_den w (by simp at hw; omega) (joinF p a)
    have hsz : (w.length + 1) * 48 ≤ 140737488355328 := by simp at hw; omega
    unfold withG
    refine loop_step fun K hK => ?_
    cases hx : findF w (joinF p a) with
    | some y =>
      rw [hx] at hf
      simp only [fA, iA] at hf
      simp [L40x0, -getElem?_pos, -List.getElem?_map, List.getElem?_cons_zero, List.getElem?_cons_succ, hlt, hlt', hg, hc, hd, hf]
      rw [hK]
      refine with_loop l hl hm i4 raw T v5 c5 (b :: r) (pre ++ [a]) ((pre.length : Int) + 1) w _ q (joinF p a) _ pm ?_ ?_ rfl hq ?_ ?_ ?_
      · simp [h]
      · simp
      · simp; omega
      · simp at hw ⊢; omega
      · simp [b5]
    | none =>
      rw [hx] at hf
      simp only [fA, iA] at hf
      rcases hq with rfl | ⟨tt, v, rfl, hpm⟩
      · simp [L40x0, -getElem?_pos, -List.getElem?_map, List.getElem?_cons_zero, List.getElem?_cons_succ, hlt, hlt', hg, hc, hd, hf, hsz]
        rw [hK]
        refine with_loop l hl hm i4 raw T v5 c5 (b :: r) (pre ++ [a]) ((pre.length : Int) + 1) (w ++ [⟨joinF p a, 1, [], false⟩]) _ _ (joinF p a) _ _ ?_ ?_ ?_ ?_ ?_ ?_ ?_
        · simp [h]
        · simp
        · simp [iA]
        · exact AppOk.tok (by simp)
        · simp; omega
        · simp at hw ⊢; omega
        · simp [b5]
      · simp [L40x0, -getElem?_pos, -List.getElem?_map, List.getElem?_cons_zero, List.getElem?_cons_succ, hlt, hlt', hg, hc, hd, hf, hsz, hpm]
        rw [hK]
        refine with_loop l hl hm i4 raw T v5 c5 (b :: r) (pre ++ [a]) ((pre.length : Int) + 1) (w ++ [⟨joinF p a, 1, [], false⟩]) _ _ (joinF p a) _ _ ?_ ?_ ?_ ?_ ?_ ?_ ?_
        · simp [h]
        · simp
        · simp [iA]
        · exact AppOk.tok (by simp)
        · simp; omega
        · simp at hw ⊢; omega
        · simp [b5]
theorem treeG_cons (t : List It) (x : Raw) (r : List Raw) : treeG t (x :: r) = treeG (stepT t x) r := rfl
theorem itemT_len (x : Raw) : (itemT x).path.length ≤ 32 ∧ (itemT x).data.length ≤ 60 := by
  refine ⟨pathF_len x.path, ?_⟩
  unfold itemT itemF
  simp only
  split
  · simp
  · simp; omega
theorem withG_mem : ∀ (l : List (List UInt8)) (w : List It) (p : List UInt8) (y : It), y ∈ withG w p l → y ∈ w ∨ y.kind = 1 ∧ y.data = [] ∧ y.bad = false ∧ y.path.length ≤ p.length + (l.map List.length).sum + l.length
  | [], w, p, y, h => .inl h
  | [_], w, p, y, h => .inl h
  | a :: b :: r, w, p, y, h => by
    unfold withG at h
    have hj := joinF_len p a
    rcases withG_mem (b :: r) _ _ y h with h | ⟨h1, h2, h3, h4⟩
    · split at h
      · exact .inl h
      · rcases List.mem_append.1 h with h | h
        · exact .inl h
        · simp only [List.mem_singleton] at h
          subst h
          refine .inr ⟨rfl, rfl, rfl, ?_⟩
          simp only [List.map_cons, List.sum_cons, List.length_cons]
          omega
    · refine .inr ⟨h1, h2, h3, ?_⟩
      simp only [List.map_cons, List.sum_cons, List.length_cons] at h4 ⊢
      omega
theorem treeG_take (k : Nat) (t : List It) (c : Raw) (rest : List Raw) : treeG t ((c :: rest).take (k + 1)) = treeG (stepT t c) (rest.take k) := rfl
def TQ (raw : List Raw) (R : List It) (ex : Ex) (st' : St) : Prop := ex = .exit 0 ∧ ∃ (q' : Perm) (i' : AV) (pm' : Pm) (bx' : Bx), st' = ⟨ofL [(0, sR raw), (3, .sl 4 (R.map iA) q'), (4, i'), (19, .bool false)], bx', pm', none⟩
/-- A tree within Wide: what is wrong with it is nothing. -/
theorem tree_loop (raw : List Raw) (hr : ∀ x ∈ raw, x.ok) : ∀ (k : Nat) (rest pre : List Raw) (i : Int) (t : List It) (T : List AV) (q : Perm) (bx : Bx) (pm : Pm), raw = pre ++ rest → i = pre.length → k + pre.length = 14 → T = t.map iA → t.length ≤ 16 * pre.length → (∀ x ∈ t, x.path.length ≤ 2000) →
    Res (RunD Sy (.loop L40x1) ⟨ofL [(0, sR raw), (3, .sl 4 T q), (4, .int .i64 i)], bx, pm, none⟩) fun ex st' => TQ raw (treeG t (rest.take k)) ex st'
  | k, [], pre, i, t, T, q, bx, pm, h, hi, hk, hT, hl, hp => by
    subst hi hT
    rw [List.append_nil] at h
    subst h
    refine loop_step fun K hK => ?_
    simp [L40x1, treeG]
    exact ⟨rfl, _, _, _, _, rfl⟩
  | 0, c :: rest, pre, i, t, T, q, bx, pm, h, hi, hk, hT, hl, hp => by
    subst hi hT
    have hlt : (pre.length : Int) < raw.length := by rw [h]; simp; omega
    have h8 : ¬ (pre.length : Int) < 14 := by omega
    refine loop_step fun K hK => ?_
    simp [L40x1, treeG, hlt, h8]
    exact ⟨rfl, _, _, _, _, rfl⟩
  | k + 1, c :: rest, pre, i, t, T, q, bx, pm, h, hi, hk, hT, hl, hp => by
    subst hi hT
    have hlt : (pre.length : Int) < raw.length := by rw [h]; simp; omega
    have h8 : (pre.length : Int) < 14 := by omega
    have hg : (raw.map rA)[pre.length]? = some (rA c) := by rw [h]; simp
    have hc := chk_i64 ((pre.length : Int) + 1) (by omega)
    have hit := item_den c (hr c (by rw [h]; simp))
    have hpl := itemT_len c
    have eT : itemT c = ⟨(itemF c).path, (itemF c).kind, (itemF c).data, false⟩ := rfl
    have hst : stepT t c = if (checkF (withG t [] (partsF (itemT c).path) ++ [itemT c]) wide).2 = 0 then withG t [] (partsF (itemT c).path) ++ [itemT c] else t := rfl
    rw [eT] at hpl hst
    simp only at hpl
    have hpa := parts_den (itemF c).path (by omega)
    have hpn := partsF_len (itemF c).path
    have hpm := fun x (hx : x ∈ partsF (itemF c).path) => partsF_mem hx
    have hnl := withG_len (partsF (itemF c).path) t []
    have hnm := withG_mem (partsF (itemF c).path) t []
    have hnx := fun T hT q bx pm => tree_loop raw hr k rest (pre ++ [c]) ((pre.length : Int) + 1) (stepT t c) T q bx pm (by simp [h]) (by simp) (by simp; omega) hT
    have hsum : ∀ l : List (List UInt8), (∀ x ∈ l, x.length ≤ 64) → (l.map List.length).sum ≤ 64 * l.length := by
      intro l
      induction l with
      | nil => simp
      | cons a l ih =>
        intro hl
        have h1 := hl a (by simp)
        have h2 := ih (fun x hx => hl x (List.mem_cons_of_mem _ hx))
        simp only [List.map_cons, List.sum_cons, List.length_cons]
        omega
    have hsm := hsum _ hpm
    generalize hw : withG t [] (partsF (itemF c).path) = w at hnl hnm hst
    have hwp : ∀ y ∈ w, y.path.length ≤ 2000 := fun y hy => by
      rcases hnm y hy with h | ⟨_, _, _, h4⟩
      · exact hp y h
      · simp only [List.length_nil] at h4
        omega
    have hW : ∀ y ∈ w ++ [⟨(itemF c).path, (itemF c).kind, (itemF c).data, false⟩], y.path.length ≤ 2000 := fun y hy => by
      rcases List.mem_append.1 hy with h | h
      · exact hwp y h
      · simp only [List.mem_singleton] at h
        subst h
        simp only
        omega
    have hck := check_den (w ++ [⟨(itemF c).path, (itemF c).kind, (itemF c).data, false⟩]) (by simp; omega) (fun y hy => by have := hW y hy; omega) wide
    have hwd : Den Sy 22 [] = some (lA wide) := wide_den
    have hsz2 : (w.length + 1) * 48 ≤ 140737488355328 := by omega
    have hsz : t.length * 48 ≤ 140737488355328 := by omega
    simp only [iA] at hit
    simp only [rA] at hg hit
    refine loop_step fun K hK => ?_
    simp [L40x1, -getElem?_pos, -List.getElem?_map, List.getElem?_cons_zero, List.getElem?_cons_succ, hlt, h8, hg, hc, hit, hsz, hpa]
    generalize hX : RunD Sy (.loop L40x0) _ = X
    obtain ⟨ex, st', rfl, rfl, q', p', k', pm', bx', hq', b5, rfl⟩ := Res.at hX (with_loop (partsF (itemF c).path) hpn hpm _ _ _ _ [.str (itemF c).path, .int .i64 (itemF c).kind, .str (itemF c).data, .bool false] (partsF (itemF c).path) [] 0 t _ _ [] _ _ rfl rfl rfl (AppOk.tok (by simp)) (by simp) (by omega) (by simp))
    rw [hw]
    have lw : lA wide = .agg [.int .i64 16, .int .i64 1000, .int .i64 200] := rfl
    rw [lw] at hwd hck
    have hT1 : ∀ x ∈ stepT t c, x.path.length ≤ 2000 := fun x hx => by
      rw [hst] at hx
      split at hx
      · exact hW x hx
      · exact hp x hx
    have hT2 : (stepT t c).length ≤ 16 * (pre ++ [c]).length := by
      rw [hst]
      have := partsF_len (itemF c).path
      split
      · simp
        omega
      · simp; omega
    rw [treeG_cons]
    simp only [sI, ftA, List.map_append, List.map_cons, List.map_nil, iA] at hck
    rcases hq' with rfl | ⟨tt, v, rfl, hpm'⟩
    · by_cases hc0 : (checkF (w ++ [⟨(itemF c).path, (itemF c).kind, (itemF c).data, false⟩]) wide).2 = 0
      · rw [if_pos hc0] at hst
        simp [L40x1, -getElem?_pos, -List.getElem?_map, List.getElem?_cons_zero, List.getElem?_cons_succ, b5, hsz2, hwd, hck, hc0, hc]
        rw [hK]
        refine hnx _ ?_ _ _ _ hT2 hT1
        rw [hst]
        simp [iA]
      · rw [if_neg hc0] at hst
        simp [L40x1, -getElem?_pos, -List.getElem?_map, List.getElem?_cons_zero, List.getElem?_cons_succ, b5, hsz2, hwd, hck, hc0, hc]
        rw [hK]
        refine hnx _ ?_ _ _ _ hT2 hT1
        rw [hst]
    · by_cases hc0 : (checkF (w ++ [⟨(itemF c).path, (itemF c).kind, (itemF c).data, false⟩]) wide).2 = 0
      · rw [if_pos hc0] at hst
        simp [L40x1, -getElem?_pos, -List.getElem?_map, List.getElem?_cons_zero, List.getElem?_cons_succ, b5, hsz2, hwd, hck, hc0, hc, hpm']
        rw [hK]
        refine hnx _ ?_ _ _ _ hT2 hT1
        rw [hst]
        simp [iA]
      · rw [if_neg hc0] at hst
        simp [L40x1, -getElem?_pos, -List.getElem?_map, List.getElem?_cons_zero, List.getElem?_cons_succ, b5, hsz2, hwd, hck, hc0, hc, hpm']
        rw [hK]
        refine hnx _ ?_ _ _ _ hT2 hT1
        rw [hst]
theorem tree_den (raw : List Raw) (hr : ∀ x ∈ raw, x.ok) : Den Sy 40 [sR raw] = some (sI (treeF raw)) := by
  rw [Den_fun Sy (af := A40) rfl rfl _ rfl]
  obtain ⟨ex, st', hL, rfl, q', i', pm', bx', rfl⟩ := tree_loop raw hr 14 raw [] 0 [] [] .nil (ofL []) none' rfl rfl rfl rfl (by simp) (by simp)
  simp [A40, hL, treeF]

def moreD (x : Raw) : Raw := { x with data := x.data ++ [110, 101, 119, 10] }
def stepK (kept : List Raw) (x : Raw) : Option Int → List Raw
  | none => kept ++ [x]
  | some c => if pickF c 9 = 4 then kept ++ [moreD x] else if 0 < pickF c 3 then kept ++ [x] else kept
def keptG (kept : List Raw) : List Raw → List Int → List Raw
  | [], _ => kept
  | x :: r, o => keptG (stepK kept x o.head?) r o.tail
theorem pick_93 (c : Int) (h : pickF c 9 = 4) : 0 < pickF c 3 := by
  unfold pickF at h ⊢
  split at h
  · rename_i hc
    rw [if_pos hc]
    rw [Int.tmod_eq_emod_of_nonneg (by omega)] at h ⊢
    omega
  · rename_i hc
    rw [if_neg hc]
    rw [Int.tmod_eq_emod_of_nonneg (by omega)] at h ⊢
    omega
theorem stepK_len (kept : List Raw) (x : Raw) (o : Option Int) : (stepK kept x o).length ≤ kept.length + 1 := by
  cases o with
  | none => simp [stepK]
  | some c =>
    simp only [stepK]
    repeat' split
    all_goals simp
def KQ (raw more a : AV) (out : List Int) (R : List Raw) (ex : Ex) (st' : St) : Prop := ex = .exit 0 ∧ ∃ (q' : Perm) (i' : AV) (pm' : Pm) (bx' : Bx), st' = ⟨ofL [(0, raw), (1, more), (2, .sl 1 (out.map (.int .i64)) .no), (8, a), (9, .sl 4 (R.map rA) q'), (10, i'), (21, .bool false)], bx', pm', none⟩
theorem two_loop (raw : List Raw) (hr : ∀ x ∈ raw, x.ok ∧ x.data.length ≤ 140737488355328) (more a : AV) (out : List Int) (ho : ∀ c ∈ out, inR c) : ∀ (k : Nat) (rest pre : List Raw) (i : Int) (kept : List Raw) (T : List AV) (q : Perm) (bx : Bx) (pm : Pm), raw = pre ++ rest → i = pre.length → k + pre.length = 14 → T = kept.map rA → kept.length ≤ pre.length → AppOk pm q →
    Res (RunD Sy (.loop L20x0) ⟨ofL [(0, sR raw), (1, more), (2, .sl 1 (out.map (.int .i64)) .no), (8, a), (9, .sl 4 T q), (10, .int .i64 i)], bx, pm, none⟩) fun ex st' => KQ (sR raw) more a out (keptG kept (rest.take k) (out.drop pre.length)) ex st'
  | k, [], pre, i, kept, T, q, bx, pm, h, hi, hk, hT, hl, hq => by
    subst hi hT
    rw [List.append_nil] at h
    subst h
    refine loop_step fun K hK => ?_
    simp [L20x0, keptG]
    exact ⟨rfl, _, _, _, _, rfl⟩
  | 0, x :: rest, pre, i, kept, T, q, bx, pm, h, hi, hk, hT, hl, hq => by
    subst hi hT
    have hlt : (pre.length : Int) < raw.length := by rw [h]; simp; omega
    have h8 : ¬ (pre.length : Int) < 14 := by omega
    refine loop_step fun K hK => ?_
    simp [L20x0, keptG, hlt, h8]
    exact ⟨rfl, _, _, _, _, rfl⟩
  | k + 1, x :: rest, pre, i, kept, T, q, bx, pm, h, hi, hk, hT, hl, hq => by
    subst hi hT
    have hlt : (pre.length : Int) < raw.length := by rw [h]; simp; omega
    have h8 : (pre.length : Int) < 14 := by omega
    have hg : (raw.map rA)[pre.length]? = some (rA x) := by rw [h]; simp
    have hc := chk_i64 ((pre.length : Int) + 1) (by omega)
    have hsz : (kept.length + 1) * 56 ≤ 140737488355328 := by omega
    have hxd := (hr x (by rw [h]; simp)).2
    have hdl : x.data.length + 4 ≤ 9223372036854775807 := by omega
    have hkc := chk_i64 ((kept.length : Int)) (by omega)
    have hnx := fun kept' T hT q bx pm (hl' : kept'.length ≤ pre.length + 1) hq => two_loop raw hr more a out ho k rest (pre ++ [x]) ((pre.length : Int) + 1) kept' T q bx pm (by simp [h]) (by simp) (by simp; omega) hT (by simpa using hl') hq
    have hu : keptG kept ((x :: rest).take (k + 1)) (out.drop pre.length) = keptG (stepK kept x (out[pre.length]?)) (rest.take k) (out.drop (pre.length + 1)) := by
      simp only [List.take_succ_cons, keptG, List.head?_drop, List.tail_drop]
    have e1 : (pre ++ [x]).length = pre.length + 1 := by simp
    simp only [e1] at hnx
    have hkl : (kept.length : Int) ≤ kept.length + 1 := by omega
    have htk : ∀ l : List AV, List.take kept.length (kept.map rA ++ l) = kept.map rA := fun l => by
      rw [List.take_append_of_le_length (by simp), List.take_of_length_le (by simp)]
    rw [hu]
    have hsl := stepK_len kept x (out[pre.length]?)
    have hnx' := hnx (stepK kept x (out[pre.length]?))
    simp only [rA] at hg
    have hs1 : (kept.length : Int) + 1 - 1 = kept.length := by omega
    refine loop_step fun K hK => ?_
    by_cases hol : pre.length < out.length
    · have hge : ¬ (out.length : Int) ≤ pre.length := by omega
      have hol' : (pre.length : Int) < out.length := by omega
      have hco : out[pre.length]? = some out[pre.length] := List.getElem?_eq_getElem hol
      have hcm : (out.map (AV.int .i64))[pre.length]? = some (.int .i64 out[pre.length]) := by rw [List.getElem?_map, hco]; rfl
      have hcr := ho _ (List.getElem_mem hol)
      rw [hco] at hnx' hsl ⊢
      generalize out[pre.length] = c at hco hcm hcr hnx' hsl ⊢
      have hp3 := pick10_den c 3 hcr (by omega)
      have hp9 := pick10_den c 9 hcr (by omega)
      have h93 := pick_93 c
      simp only [stepK] at hnx' hsl ⊢
      by_cases h9 : pickF c 9 = 4
      · have h3 := h93 h9
        rw [if_pos h9] at hnx' hsl ⊢
        rcases hq with rfl | ⟨tt, v, rfl, hpm⟩
        · simp [L20x0, -getElem?_pos, -List.getElem?_map, hlt, h8, hg, hc, hol, hol', hge, hcm, hp3, hp9, h9, h3, hsz, hdl, hkc, hs1, hkl, htk]
          rw [hK]
          refine hnx' _ ?_ _ _ _ (by simpa using hl) ?_
          · simp [rA, moreD]
          · exact AppOk.tok (by simp)
        · simp [L20x0, -getElem?_pos, -List.getElem?_map, hlt, h8, hg, hc, hol, hol', hge, hcm, hp3, hp9, h9, h3, hsz, hdl, hkc, hs1, hkl, htk, hpm]
          rw [hK]
          refine hnx' _ ?_ _ _ _ (by simpa using hl) ?_
          · simp [rA, moreD]
          · exact AppOk.tok (by simp)
      · rw [if_neg h9] at hnx' hsl ⊢
        by_cases h3 : 0 < pickF c 3
        · rw [if_pos h3] at hnx' hsl ⊢
          rcases hq with rfl | ⟨tt, v, rfl, hpm⟩
          · simp [L20x0, -getElem?_pos, -List.getElem?_map, hlt, h8, hg, hc, hol, hol', hge, hcm, hp3, hp9, h9, h3, hsz]
            rw [hK]
            refine hnx' _ ?_ _ _ _ (by simpa using hl) ?_
            · simp [rA]
            · exact AppOk.tok (by simp)
          · simp [L20x0, -getElem?_pos, -List.getElem?_map, hlt, h8, hg, hc, hol, hol', hge, hcm, hp3, hp9, h9, h3, hsz, hpm]
            rw [hK]
            refine hnx' _ ?_ _ _ _ (by simpa using hl) ?_
            · simp [rA]
            · exact AppOk.tok (by simp)
        · rw [if_neg h3] at hnx' hsl ⊢
          simp [L20x0, -getElem?_pos, -List.getElem?_map, hlt, h8, hg, hc, hol, hol', hge, hcm, hp3, hp9, h9, h3, hsz]
          rw [hK]
          exact hnx' _ rfl _ _ _ (by omega) hq
    · have hge : (out.length : Int) ≤ pre.length := by omega
      have hol' : ¬ (pre.length : Int) < out.length := by omega
      have hco : out[pre.length]? = none := List.getElem?_eq_none (by omega)
      rw [hco] at hnx' hsl ⊢
      simp only [stepK] at hnx' hsl ⊢
      rcases hq with rfl | ⟨tt, v, rfl, hpm⟩
      · simp [L20x0, -getElem?_pos, -List.getElem?_map, hlt, h8, hg, hc, hol, hol', hge, hsz]
        rw [hK]
        refine hnx' _ ?_ _ _ _ (by simpa using hl) ?_
        · simp [rA]
        · exact AppOk.tok (by simp)
      · simp [L20x0, -getElem?_pos, -List.getElem?_map, hlt, h8, hg, hc, hol, hol', hge, hsz, hpm]
        rw [hK]
        refine hnx' _ ?_ _ _ _ (by simpa using hl) ?_
        · simp [rA]
        · exact AppOk.tok (by simp)
def twoF (raw more : List Raw) (out : List Int) : List It × List It := (treeF raw, treeF (keptG [] (raw.take 14) out ++ more))
theorem moreD_ok {x : Raw} (h : x.ok ∧ x.data.length ≤ 140737488355328) : (moreD x).ok := by
  obtain ⟨⟨h1, h2, h3, h4⟩, h5⟩ := h
  refine ⟨h1, h2, h3, ?_⟩
  unfold moreD
  simp
  omega
theorem keptG_ok : ∀ (l kept : List Raw) (o : List Int), (∀ x ∈ l, x.ok ∧ x.data.length ≤ 140737488355328) → (∀ x ∈ kept, x.ok) → ∀ x ∈ keptG kept l o, x.ok
  | [], kept, o, _, hk => hk
  | y :: r, kept, o, hl, hk => by
    unfold keptG
    have hy := hl y (by simp)
    refine keptG_ok r _ _ (fun x hx => hl x (List.mem_cons_of_mem _ hx)) fun x hx => ?_
    have h1 : ∀ z : Raw, z.ok → x ∈ kept ++ [z] → x.ok := fun z hz hx => by
      rcases List.mem_append.1 hx with h | h
      · exact hk x h
      · simp only [List.mem_singleton] at h
        subst h
        exact hz
    cases ho : o.head? with
    | none => rw [ho] at hx; exact h1 y hy.1 hx
    | some c =>
      rw [ho] at hx
      simp only [stepK] at hx
      repeat' split at hx
      · exact h1 _ (moreD_ok hy) hx
      · exact h1 y hy.1 hx
      · exact hk x hx
theorem keptG_len : ∀ (l kept : List Raw) (o : List Int), (keptG kept l o).length ≤ kept.length + l.length
  | [], kept, o => by simp [keptG]
  | y :: r, kept, o => by
    unfold keptG
    have h1 := keptG_len r (stepK kept y o.head?) o.tail
    have h2 := stepK_len kept y o.head?
    simp only [List.length_cons]
    omega
theorem two_den (raw more : List Raw) (out : List Int) (hr : ∀ x ∈ raw, x.ok ∧ x.data.length ≤ 140737488355328) (hm : ∀ x ∈ more, x.ok) (hml : more.length ≤ 2513169434843) (ho : ∀ c ∈ out, inR c) : Den Sy 20 [sR raw, sR more, .sl 1 (out.map (.int .i64)) .no] = some (.tup [sI (twoF raw more out).1, sI (twoF raw more out).2]) := by
  rw [Den_fun Sy (af := A20) rfl rfl _ rfl]
  have h1 := tree_den raw (fun x hx => (hr x hx).1)
  obtain ⟨ex, st', hL, rfl, q', i', pm', bx', rfl⟩ := two_loop raw hr (sR more) (sI (treeF raw)) out ho 14 raw [] 0 [] [] .nil (ofL []) none' rfl rfl rfl rfl (by simp) (AppOk.nil _)
  have hkl := keptG_len (raw.take 14) [] out
  have h14 : (raw.take 14).length ≤ 14 := by simp; omega
  have hko := keptG_ok (raw.take 14) [] out (fun x hx => hr x (List.mem_of_mem_take hx)) (by simp)
  simp only [List.drop_zero, List.length_nil] at hL hkl
  unfold twoF
  generalize keptG [] (raw.take 14) out = kept at hL hkl hko ⊢
  have h2 := tree_den (kept ++ more) (fun x hx => by
    rcases List.mem_append.1 hx with h | h
    · exact hko x h
    · exact hm x h)
  have s1 : kept.length * 56 ≤ 140737488355328 := by omega
  have s2 : (kept.length + more.length) * 56 ≤ 140737488355328 := by omega
  simp only [sR, List.map_append] at h1 h2 hL
  simp [A20, hL, h1, h2, s1, s2]
/-! ### Lines -/
def linesG : List UInt8 → List UInt8 → List (List UInt8)
  | cur, [] => if cur = [] then [] else [cur]
  | cur, c :: r => if c = 10 then (cur ++ [10]) :: linesG [] r else linesG (cur ++ [c]) r
def linesS (s : List UInt8) : List (List UInt8) := linesG [] s
theorem linesG_len : ∀ (r cur : List UInt8), (linesG cur r).length ≤ r.length + (if cur = [] then 0 else 1)
  | [], cur => by
    unfold linesG
    split <;> simp
  | c :: r, cur => by
    unfold linesG
    split
    · have := linesG_len r []
      simp at this ⊢
      omega
    · have := linesG_len r (cur ++ [c])
      simp at this ⊢
      omega
theorem linesS_len (s : List UInt8) : (linesS s).length ≤ s.length := by have := linesG_len s []; simpa [linesS] using this
theorem linesG_mem : ∀ (r cur x : List UInt8), x ∈ linesG cur r → x.length ≤ cur.length + r.length
  | [], cur, x, h => by
    unfold linesG at h
    split at h
    · simp at h
    · simp at h; subst h; simp
  | c :: r, cur, x, h => by
    unfold linesG at h
    split at h
    · rcases List.mem_cons.1 h with rfl | h
      · simp
      · have := linesG_mem r [] x h; simp at this ⊢; omega
    · have := linesG_mem r (cur ++ [c]) x h; simp at this ⊢; omega
theorem linesS_mem {s x : List UInt8} (h : x ∈ linesS s) : x.length ≤ s.length := by have := linesG_mem s [] x h; simpa using this
theorem u8_10 (c : UInt8) : ((c.toNat : Int) = 10) ↔ c = 10 := by
  constructor
  · intro h
    exact UInt8.toNat_inj.1 (by have : (10 : UInt8).toNat = 10 := rfl; omega)
  · rintro rfl; rfl
def Lns (s : List UInt8) (R : List AV) (bx : Bx) (ex : Ex) (st' : St) : Prop := ex = .exit 0 ∧ ∃ (O : List AV) (q : Perm) (f : Nat) (i : AV) (pm' : Pm), st' = ⟨ofL [(0, .str s), (3, .sl 1 O q), (4, .int .i64 f), (5, i), (9, .bool false)], bx, pm', none⟩ ∧ AppOk pm' q ∧ f ≤ s.length ∧ O.length ≤ s.length ∧ R = O ++ (if f < s.length then [.str (s.drop f)] else [])
set_option maxHeartbeats 1000000 in
theorem lines_loop (s : List UInt8) (hs : s.length ≤ 1099511627776) (R : List AV) (bx : Bx) : ∀ (rest pre : List UInt8) (i f : Nat) (ji jf : Int) (O : List AV) (q : Perm) (pm : Pm), s = pre ++ rest → ji = i → jf = f → i = pre.length → f ≤ i → O.length ≤ i → AppOk pm q → R = O ++ (linesG (pre.drop f) rest).map .str →
    Res (RunD Sy (.loop L96x0) ⟨ofL [(0, .str s), (3, .sl 1 O q), (4, .int .i64 jf), (5, .int .i64 ji)], bx, pm, none⟩) fun ex st' => Lns s R bx ex st'
  | [], pre, i, f, ji, jf, O, q, pm, h, hji, hjf, hi, hf, hO, hq, hR => by
    subst hji hjf hi
    rw [List.append_nil] at h
    subst h
    rw [RunD_loop]
    simp [L96x0]
    refine ⟨rfl, O, q, f, _, pm, rfl, hq, hf, hO, ?_⟩
    rw [hR]
    unfold linesG
    by_cases h1 : f < s.length
    · have : s.drop f ≠ [] := by simp; omega
      rw [if_neg this, if_pos h1]
      rfl
    · have : s.drop f = [] := by simp; omega
      rw [if_pos this, if_neg h1]
      rfl
  | c :: rest, pre, i, f, ji, jf, O, q, pm, h, hji, hjf, hi, hf, hO, hq, hR => by
    subst hji hjf hi
    have hlt : (pre.length : Int) < s.length := by rw [h]; simp; omega
    have hlt' : (pre.length : Int) + 1 ≤ s.length := by omega
    have hg : s[pre.length]? = some c := by rw [h]; simp
    have hc := chk_i64 ((pre.length : Int) + 1) (by omega)
    have hsz : (O.length + 1) * 16 ≤ 140737488355328 := by omega
    have hfi : (f : Int) ≤ pre.length + 1 := by omega
    have htk : s.take (pre.length + 1) = pre ++ [c] := by
      have e : s = (pre ++ [c]) ++ rest := by simp [h]
      rw [e, List.take_append_of_le_length (by simp), List.take_of_length_le (by simp)]
    refine loop_step fun K hK => ?_
    by_cases h0 : c = 10
    · have h0' := (u8_10 c).2 h0
      subst h0
      have hR' : R = (O ++ [.str ((pre ++ [10]).drop f)]) ++ (linesG ((pre ++ [10]).drop (pre.length + 1)) rest).map .str := by rw [hR, List.drop_append_of_le_length hf]; simp [linesG]
      rcases hq with rfl | ⟨t, v, rfl, hpm⟩
      · simp [L96x0, -getElem?_pos, hlt, hg, hc, eq_true h0', hlt', hfi, htk, hsz]
        rw [hK]
        refine lines_loop s hs R bx rest (pre ++ [10]) (pre.length + 1) (pre.length + 1) _ _ _ _ _ ?_ ?_ ?_ ?_ ?_ ?_ ?_ hR'
        · simp [h]
        · simp
        · simp
        · simp
        · omega
        · simp; omega
        · exact AppOk.tok (by simp)
      · simp [L96x0, -getElem?_pos, hlt, hg, hc, eq_true h0', hlt', hfi, htk, hsz, hpm]
        rw [hK]
        refine lines_loop s hs R bx rest (pre ++ [10]) (pre.length + 1) (pre.length + 1) _ _ _ _ _ ?_ ?_ ?_ ?_ ?_ ?_ ?_ hR'
        · simp [h]
        · simp
        · simp
        · simp
        · omega
        · simp; omega
        · exact AppOk.tok (by simp)
    · have h0' := fun e => h0 ((u8_10 c).1 e)
      have hR' : R = O ++ (linesG ((pre ++ [c]).drop f) rest).map .str := by rw [hR, List.drop_append_of_le_length hf]; simp [linesG, h0]
      simp [L96x0, -getElem?_pos, hlt, hg, hc, eq_false h0']
      rw [hK]
      refine lines_loop s hs R bx rest (pre ++ [c]) (pre.length + 1) f _ _ _ _ _ ?_ ?_ rfl ?_ ?_ ?_ hq hR'
      · simp [h]
      · simp
      · simp
      · omega
      · omega
theorem lines_den (s : List UInt8) (hs : s.length ≤ 1099511627776) : Den Sy 96 [.str s] = some (sS (linesS s)) := by
  rw [Den_fun Sy (af := A96) rfl rfl _ rfl]
  obtain ⟨ex, st', hL, rfl, O, q, f, i, pm', rfl, hq, hf, hO, hR⟩ := lines_loop s hs ((linesS s).map .str) (ofL []) s [] 0 0 0 0 [] .nil none' rfl rfl rfl rfl (Nat.le_refl _) (by simp) (AppOk.nil _) (by simp [linesS])
  have hsz : (O.length + 1) * 16 ≤ 140737488355328 := by omega
  have hf' : (f : Int) ≤ s.length := by omega
  have hx : s.take s.length = s := List.take_of_length_le (Nat.le_refl _)
  by_cases h1 : f < s.length
  · rw [if_pos h1] at hR
    rcases hq with rfl | ⟨t, v, rfl, hpm⟩
    · simp [A96, hL, hsz, hf', hx, hR, h1]
    · simp [A96, hL, hsz, hf', hx, hpm, hR, h1]
  · rw [if_neg h1] at hR
    rcases hq with rfl | ⟨t, v, rfl, hpm⟩
    · simp [A96, hL, hsz, hf', hx, hR, h1]
    · simp [A96, hL, hsz, hf', hx, hpm, hR, h1]

def lcsF : List (List UInt8) → List (List UInt8) → Nat
  | [], _ => 0
  | _ :: _, [] => 0
  | x :: a, y :: b => if x = y then 1 + lcsF a b else max (lcsF a (y :: b)) (lcsF (x :: a) b)
termination_by a b => a.length + b.length
theorem lcsF_nil (b : List (List UInt8)) : lcsF [] b = 0 := by unfold lcsF; rfl
theorem lcsF_nil2 (a : List (List UInt8)) : lcsF a [] = 0 := by cases a <;> (unfold lcsF; rfl)
theorem lcsF_cons (x y : List UInt8) (a b : List (List UInt8)) : lcsF (x :: a) (y :: b) = if x = y then 1 + lcsF a b else max (lcsF a (y :: b)) (lcsF (x :: a) b) := by rw [lcsF]
theorem lcsF_le : ∀ (n : Nat) (a b : List (List UInt8)), a.length + b.length ≤ n → lcsF a b ≤ a.length
  | _, [], b, _ => by rw [lcsF_nil]; simp
  | _, x :: a, [], _ => by rw [lcsF_nil2]; simp
  | 0, x :: a, y :: b, h => by simp at h
  | n + 1, x :: a, y :: b, h => by
    simp only [List.length_cons] at h
    rw [lcsF_cons]
    have h1 := lcsF_le n a b (by omega)
    have h2 := lcsF_le n a (y :: b) (by simp; omega)
    have h3 := lcsF_le n (x :: a) b (by simp; omega)
    simp only [List.length_cons] at *
    split <;> omega
/-- A row of the table, as it comes to be from behind: what stands at j and behind it; zeros ahead. -/
def rowP (a b : List (List UInt8)) (j : Nat) : List AV := (List.range (b.length + 1)).map fun k => .int .i64 (if k < j then 0 else (lcsF a (b.drop k) : Nat))
theorem rowP_at (a b : List (List UInt8)) (j k : Nat) (h : k ≤ b.length) : (rowP a b j)[k]? = some (.int .i64 (if k < j then 0 else (lcsF a (b.drop k) : Nat))) := by
  unfold rowP
  rw [List.getElem?_map, List.getElem?_range (by omega)]
  rfl
theorem rowP_len (a b : List (List UInt8)) (j : Nat) : (rowP a b j).length = b.length + 1 := by simp [rowP]
/-- One more of a row. -/
theorem rowP_set (a b : List (List UInt8)) (j : Nat) (h : j ≤ b.length) : (rowP a b (j + 1)).take j ++ .int .i64 (lcsF a (b.drop j) : Nat) :: (rowP a b (j + 1)).drop (j + 1) = rowP a b j := by
  refine List.ext_getElem? fun k => ?_
  rcases Nat.lt_trichotomy k j with hk | hk | hk
  · rw [List.getElem?_append_left (by rw [List.length_take, rowP_len]; omega), List.getElem?_take_of_lt hk, rowP_at _ _ _ _ (by omega), rowP_at _ _ _ _ (by omega), if_pos (by omega), if_pos hk]
  · subst hk
    rw [List.getElem?_append_right (by rw [List.length_take, rowP_len]; omega)]
    have : k - (List.take k (rowP a b (k + 1))).length = 0 := by simp [rowP_len]; omega
    rw [this, rowP_at _ _ _ _ h, if_neg (by omega)]
    rfl
  · rw [List.getElem?_append_right (by rw [List.length_take, rowP_len]; omega)]
    have : k - (List.take j (rowP a b (j + 1))).length = (k - j - 1) + 1 := by simp [rowP_len]; omega
    rw [this, List.getElem?_cons_succ, List.getElem?_drop]
    have e : j + 1 + (k - j - 1) = k := by omega
    rw [e]
    by_cases hb : k ≤ b.length
    · rw [rowP_at _ _ _ _ hb, rowP_at _ _ _ _ hb, if_neg (by omega), if_neg (by omega)]
    · rw [List.getElem?_eq_none (by rw [rowP_len]; omega), List.getElem?_eq_none (by rw [rowP_len]; omega)]
theorem take1 {α : Type} {l : List α} {k : Nat} {x : α} (h : l[k]? = some x) : (l.drop k).take 1 = [x] := by
  obtain ⟨h1, h2⟩ := List.getElem?_eq_some_iff.1 h
  rw [List.drop_eq_getElem_cons h1, h2]
  rfl
theorem rowP_sl (a b : List (List UInt8)) (j k : Nat) (h : k ≤ b.length) (hj : j ≤ k) : ((rowP a b j).drop k).take 1 = [.int .i64 (lcsF a (b.drop k) : Nat)] := by
  rw [take1 (rowP_at a b j k h), if_neg (by omega)]
theorem rowP_dead (a b : List (List UInt8)) (j : Nat) : deadC (rowP a b j) = false := by
  unfold rowP
  cases b with
  | nil => rfl
  | cons y b => rw [List.length_cons, List.range_succ_eq_map, List.range_succ_eq_map]; rfl
theorem table_inner (a b : List (List UInt8)) (ha : a.length ≤ 900) (hb : b.length ≤ 1000000) (i s5 v5 s v s' v' : Nat) (x : List UInt8) (T : List AV) (hx : a[i]? = some x) (hT : T.length = a.length + 1) (hTi : T[i]? = some (.own 1 false s v (b.length + 1))) (hTj : T[i + 1]? = some (.own 1 false s' v' (b.length + 1))) (hs5 : s ≠ s5) (hss : s ≠ s') (hdT : deadC T = false) (pm : Pm) : ∀ (j : Nat) (jj : Int) (bx : Bx), jj = (j : Int) - 1 → j ≤ b.length → bx s5 = some (v5, T) → bx s = some (v, rowP (a.drop i) b j) → bx s' = some (v', rowP (a.drop (i + 1)) b 0) →
    RunD Sy (.loop L113x0) ⟨ofL [(0, sS a), (1, sS b), (5, .own 1 false s5 v5 (a.length + 1)), (6, .int .i64 i), (7, .int .i64 jj)], bx, pm, none⟩ = some (.exit 2, ⟨ofL [(0, sS a), (1, sS b), (5, .own 1 false s5 v5 (a.length + 1)), (6, .int .i64 i), (7, .int .i64 (-1)), (35, .bool false)], if j = 0 then bx else upd bx s (v, rowP (a.drop i) b 0), pm, none⟩)
  | 0, jj, bx, hj, hjb, b5, bs, bs' => by
    subst hj
    refine loop_eq fun K hK => ?_
    simp [L113x0]
  | j + 1, jj, bx, hj, hjb, b5, bs, bs' => by
    have hjj : jj = j := by omega
    subst hjj
    have hil : i < a.length := (List.getElem?_eq_some_iff.1 hx).1
    have hil' : (i : Int) < a.length := by omega
    have hg : (a.map AV.str)[i]? = some (.str x) := by rw [List.getElem?_map, hx]; rfl
    have hy : b[j]? = some b[j] := List.getElem?_eq_getElem (by omega)
    have hdb : b.drop j = b[j] :: b.drop (j + 1) := (List.drop_eq_getElem_cons (by omega))
    have hda : a.drop i = x :: a.drop (i + 1) := by
      rw [List.drop_eq_getElem_cons hil]
      congr 1
      exact (List.getElem?_eq_some_iff.1 hx).2
    have hg2 : (b.map AV.str)[j]? = some (.str b[j]) := by rw [List.getElem?_map, hy]; rfl
    generalize b[j] = y at hy hdb hg2
    have hjl : (j : Int) < b.length := by omega
    have hc1 := chk_i64 ((i : Int) + 1) (by omega)
    have hc2 := chk_i64 ((j : Int) + 1) (by omega)
    have hc3 := chk_i64 ((j : Int) - 1) (by omega)
    have hi1 : (i : Int) < a.length + 1 := by omega
    have hi2 : (i : Int) + 1 < a.length + 1 := by omega
    have hi3 : i + 1 ≤ a.length + 1 := by omega
    have hi4 : i + 1 + 1 ≤ a.length + 1 := by omega
    have hj1 : (j : Int) < b.length + 1 := by omega
    have hj2 : (j : Int) + 1 < b.length + 1 := by omega
    have hj3 : j + 1 + 1 ≤ b.length + 1 := by omega
    have hj4 : j + 1 ≤ b.length + 1 := by omega
    have hTi' := take1 hTi
    have hTj' := take1 hTj
    have hr' := rowP_sl (a.drop (i + 1)) b 0 (j + 1) (by omega) (by omega)
    have hr0 := rowP_sl (a.drop (i + 1)) b 0 j (by omega) (by omega)
    have hr1 := rowP_sl (a.drop i) b (j + 1) (j + 1) (by omega) (by omega)
    have hle := lcsF_le _ (a.drop (i + 1)) (b.drop (j + 1)) (Nat.le_refl _)
    have hdl : (a.drop (i + 1)).length ≤ 900 := by simp; omega
    have hcl := chk_i64 (1 + (lcsF (a.drop (i + 1)) (b.drop (j + 1)) : Nat)) (by omega)
    have hset := rowP_set (a.drop i) b j (by omega)
    have hlc := lcsF_cons x y (a.drop (i + 1)) (b.drop (j + 1))
    rw [← hda, ← hdb] at hlc
    refine loop_eq fun K hK => ?_
    by_cases hxy : x = y
    · rw [if_pos hxy] at hlc
      rw [hlc] at hset
      push_cast at hset
      simp [L113x0, -deadC, -getElem?_pos, -List.getElem?_map, hil, hil', hjl, hg, hg2, hc1, hc2, hc3, hxy, b5, bs, bs', hT, hTi', hTj', hdT, hi1, hi2, hi3, hi4, hj1, hj2, hj3, hj4, hr', hcl, rowP_dead, rowP_len, hset, hs5, hss, Ne.symm hs5, Ne.symm hss]
      rw [hK, table_inner a b ha hb i s5 v5 s v s' v' x T hx hT hTi hTj hs5 hss hdT pm j ((j : Int) - 1) _ rfl (by omega) (by simp [b5, hs5]) (by simp) (by simp [bs', hss])]
      by_cases hj0 : j = 0
      · subst hj0
        simp
      · rw [if_neg hj0, upd_upd]
    · rw [if_neg hxy] at hlc
      rw [hlc] at hset
      have hmx : ∀ A B : Nat, ((max A B : Nat) : Int) = if A < B then (B : Int) else A := fun A B => by split <;> omega
      rw [hmx] at hset
      simp [L113x0, -deadC, -getElem?_pos, -List.getElem?_map, hil, hil', hjl, hg, hg2, hc1, hc2, hc3, hxy, b5, bs, bs', hT, hTi', hTj', hdT, hi1, hi2, hi3, hi4, hj1, hj2, hj3, hj4, hr', hr0, hr1, hcl, rowP_dead, rowP_len, hset, hs5, hss, Ne.symm hs5, Ne.symm hss]
      rw [hK, table_inner a b ha hb i s5 v5 s v s' v' x T hx hT hTi hTj hs5 hss hdT pm j ((j : Int) - 1) _ rfl (by omega) (by simp [b5, hs5]) (by simp) (by simp [bs', hss])]
      by_cases hj0 : j = 0
      · subst hj0
        simp
      · rw [if_neg hj0, upd_upd]

/-- What boxes hold, rows behind i made. -/
def cellT (n m i k : Nat) : AV := if k < i then .sl 1 [] .nil else .own 1 false (rowName 23 (n - k)) 0 m
def tblT (n m i : Nat) : List AV := (List.range (n + 1)).map (cellT n m i)
theorem tblT_at (n m i k : Nat) (h : k ≤ n) : (tblT n m i)[k]? = some (cellT n m i k) := by
  unfold tblT
  rw [List.getElem?_map, List.getElem?_range (by omega)]
  rfl
theorem tblT_len (n m i : Nat) : (tblT n m i).length = n + 1 := by simp [tblT]
theorem tblT_set (n m i : Nat) (h : i ≤ n) : (tblT n m (i + 1)).take i ++ .own 1 false (rowName 23 (n - i)) 0 m :: (tblT n m (i + 1)).drop (i + 1) = tblT n m i := by
  refine List.ext_getElem? fun k => ?_
  rcases Nat.lt_trichotomy k i with hk | hk | hk
  · rw [List.getElem?_append_left (by rw [List.length_take, tblT_len]; omega), List.getElem?_take_of_lt hk, tblT_at _ _ _ _ (by omega), tblT_at _ _ _ _ (by omega)]
    unfold cellT
    rw [if_pos (by omega), if_pos hk]
  · subst hk
    rw [List.getElem?_append_right (by rw [List.length_take, tblT_len]; omega)]
    have : k - (List.take k (tblT n m (k + 1))).length = 0 := by simp [tblT_len]; omega
    rw [this, tblT_at _ _ _ _ h]
    unfold cellT
    rw [if_neg (by omega)]
    rfl
  · rw [List.getElem?_append_right (by rw [List.length_take, tblT_len]; omega)]
    have : k - (List.take i (tblT n m (i + 1))).length = (k - i - 1) + 1 := by simp [tblT_len]; omega
    rw [this, List.getElem?_cons_succ, List.getElem?_drop]
    have e : i + 1 + (k - i - 1) = k := by omega
    rw [e]
    by_cases hb : k ≤ n
    · rw [tblT_at _ _ _ _ hb, tblT_at _ _ _ _ hb]
      unfold cellT
      rw [if_neg (by omega), if_neg (by omega)]
    · rw [List.getElem?_eq_none (by rw [tblT_len]; omega), List.getElem?_eq_none (by rw [tblT_len]; omega)]
theorem cellT_tup (n m i k : Nat) (xs : List AV) : cellT n m i k ≠ .tup xs := by
  unfold cellT
  split <;> simp
theorem tblT_dead (n m i : Nat) : deadC (tblT n m i) = false := by
  unfold tblT
  cases n with
  | zero =>
    simp only [List.range_succ_eq_map, List.range_zero, List.map_cons, List.map_nil]
    unfold cellT
    split <;> rfl
  | succ n =>
    rw [List.range_succ_eq_map, List.range_succ_eq_map]
    simp only [List.map_cons]
    generalize cellT (n + 1) m i 0 = x
    generalize cellT (n + 1) m i (Nat.succ 0) = y
    cases x <;> rfl
theorem rowName_inj {d c c' : Nat} (h : rowName d c = rowName d c') : c = c' := by
  unfold rowName at h
  omega
structure TI (a b : List (List UInt8)) (i : Nat) (bx : Bx) : Prop where
  t : bx 1011 = some (0, tblT a.length (b.length + 1) i)
  r : ∀ k, i ≤ k → k ≤ a.length → bx (rowName 23 (a.length - k)) = some (0, rowP (a.drop k) b 0)
  c : nextB bx 900023 = a.length + 1 - i
  f : ∀ k, k < i → bx (rowName 23 (a.length - k)) = none
theorem rowP_zero (a b : List (List UInt8)) : rowP a b (b.length + 1) = List.replicate (b.length + 1) (.int .i64 0) := by
  refine List.ext_getElem? fun k => ?_
  by_cases h : k ≤ b.length
  · rw [rowP_at _ _ _ _ h, if_pos (by omega), List.getElem?_replicate, if_pos (by omega)]
  · rw [List.getElem?_eq_none (by rw [rowP_len]; omega), List.getElem?_eq_none (by simp; omega)]
theorem rowP_last (a b : List (List UInt8)) : rowP a b b.length = rowP a b (b.length + 1) := by
  unfold rowP
  refine List.map_congr_left fun k hk => ?_
  have := List.mem_range.1 hk
  by_cases h : k < b.length
  · rw [if_pos h, if_pos (by omega)]
  · rw [if_neg h, if_pos (by omega)]
    have : b.drop k = [] := by simp; omega
    rw [this, lcsF_nil2]
    rfl
theorem rowP_nil (b : List (List UInt8)) (j j' : Nat) : rowP [] b j = rowP [] b j' := by
  unfold rowP
  refine List.map_congr_left fun k _ => ?_
  rw [lcsF_nil]
  simp
theorem table_end (a b : List (List UInt8)) (i : Nat) (hi : i = a.length) (jj : Int) (c5 : AV) (bx : Bx) (pm : Pm) :
    RunD Sy (.loop L113x0) ⟨ofL [(0, sS a), (1, sS b), (5, c5), (6, .int .i64 i), (7, .int .i64 jj)], bx, pm, none⟩ = some (.exit 2, ⟨ofL [(0, sS a), (1, sS b), (5, c5), (6, .int .i64 i), (7, .int .i64 jj), (35, .bool false)], bx, pm, none⟩) := by
  subst hi
  refine loop_eq fun K hK => ?_
  by_cases h : 0 ≤ jj
  · simp [L113x0, h]
  · simp [L113x0, h]
theorem table_loop (a b : List (List UInt8)) (ha : a.length ≤ 900) (hb : b.length ≤ 1000000) (pm : Pm) : ∀ (i : Nat) (ii : Int) (bx : Bx), ii = (i : Int) - 1 → i ≤ a.length + 1 → TI a b i bx →
    Res (RunD Sy (.loop L113x1) ⟨ofL [(0, sS a), (1, sS b), (5, .own 1 false 1011 0 (a.length + 1)), (6, .int .i64 ii)], bx, pm, none⟩) fun ex st' => ex = .exit 0 ∧ ∃ bx', st' = ⟨ofL [(0, sS a), (1, sS b), (5, .own 1 false 1011 0 (a.length + 1)), (6, .int .i64 (-1)), (15, .bool false)], bx', pm, none⟩ ∧ TI a b 0 bx'
  | 0, ii, bx, hi, hia, hI => by
    subst hi
    refine loop_step fun K hK => ?_
    simp [L113x1]
    exact hI
  | i + 1, ii, bx, hi, hia, hI => by
    have hii : ii = i := by omega
    subst hii
    have hc1 := chk_i64 ((b.length : Int) + 1) (by omega)
    have hc2 := chk_i64 ((b.length : Int) - 1) (by omega)
    have hc3 := chk_i64 ((i : Int) - 1) (by omega)
    have hbt := hI.t
    have hbc := hI.c
    have hbf := hI.f i (by omega)
    have hni : a.length + 1 - (i + 1) = a.length - i := by omega
    rw [hni] at hbc
    have hnx : nextB bx (rowName 23 (a.length - i)) = 0 := by unfold nextB; rw [hbf]
    have hb0 : (0 : Int) < b.length + 1 := by omega
    have hb8 : ((b.length : Int) + 1) * 8 ≤ 140737488355328 := by omega
    have hnm : rowName 23 (a.length - i) < 100000 := by unfold rowName; omega
    have hrp := rowP_zero (a.drop i) b
    have htn : ((b.length : Int) + 1).toNat = b.length + 1 := by omega
    have hcnt : rowCnt 23 = 900023 := rfl
    have hts := tblT_set a.length (b.length + 1) i (by omega)
    have hne1 : ∀ c, rowName 23 c ≠ 1011 := fun c => by unfold rowName; omega
    have hne2 : ∀ c, c ≤ 900 → rowName 23 c ≠ 900023 := fun c hc => by unfold rowName; omega
    have hne3 := hne2 (a.length - i) (by omega)
    have hi1 : (i : Int) < a.length + 1 := by omega
    have hi2 : i + 1 ≤ a.length + 1 := by omega
    have hne4 := hne1 (a.length - i)
    have hI1 : ∀ bx', bx' 1011 = some (0, tblT a.length (b.length + 1) i) → bx' 900023 = some (a.length - i, gone) → bx' (rowName 23 (a.length - i)) = some (0, rowP (a.drop i) b 0) → (∀ k, k ≠ a.length - i → k ≤ a.length → bx' (rowName 23 k) = bx (rowName 23 k)) → TI a b i bx' := fun bx' h1 h2 h3 h4 => by
      refine ⟨h1, fun k hk hk2 => ?_, ?_, fun k hk => ?_⟩
      · by_cases e : k = i
        · subst e; exact h3
        · rw [h4 _ (by omega) (by omega)]
          exact hI.r k (by omega) hk2
      · unfold nextB
        rw [h2]
        show a.length - i + 1 = a.length + 1 - i
        omega
      · rw [h4 _ (by omega) (by omega)]
        exact hI.f k (by omega)
    refine loop_step fun K hK => ?_
    simp [L113x1, -deadC, -getElem?_pos, -List.getElem?_map, hc1, hc2, hc3, hbt, hb0, hb8, hcnt, hbc, hnx, hnm, htn, ← hrp, rowP_dead, tblT_len, tblT_dead, hts, hne4, Ne.symm hne4, hi1, hi2]
    by_cases hil : i < a.length
    · have hx : a[i]? = some a[i] := List.getElem?_eq_getElem hil
      have hTi : (tblT a.length (b.length + 1) i)[i]? = some (.own 1 false (rowName 23 (a.length - i)) 0 (b.length + 1)) := by
        rw [tblT_at _ _ _ _ (by omega)]; unfold cellT; rw [if_neg (by omega)]
      have hTj : (tblT a.length (b.length + 1) i)[i + 1]? = some (.own 1 false (rowName 23 (a.length - (i + 1))) 0 (b.length + 1)) := by
        rw [tblT_at _ _ _ _ (by omega)]; unfold cellT; rw [if_neg (by omega)]
      have hnn : rowName 23 (a.length - i) ≠ rowName 23 (a.length - (i + 1)) := fun e => by have := rowName_inj e; omega
      have hin := fun bx => table_inner a b ha hb i 1011 0 (rowName 23 (a.length - i)) 0 (rowName 23 (a.length - (i + 1))) 0 a[i] (tblT a.length (b.length + 1) i) hx (tblT_len _ _ _) hTi hTj (hne1 _) hnn (tblT_dead _ _ _) pm b.length ((b.length : Int) - 1) bx rfl (Nat.le_refl _)
      have hrn := hI.r (i + 1) (Nat.le_refl _) (by omega)
      have hns := Ne.symm hnn
      have hne5 := hne1 (a.length - (i + 1))
      have hne6 := hne2 (a.length - (i + 1)) (by omega)
      rw [hin _ (by simp) (by simp [Ne.symm hne4, ← rowP_last]) (by simp [Ne.symm hne5, Ne.symm hne6, hnn, hns, hrn])]
      simp [hc3]
      rw [hK]
      refine table_loop a b ha hb pm i ((i : Int) - 1) _ rfl (by omega) (hI1 _ ?_ ?_ ?_ ?_)
      · split
        · simp
        · simp [hne4]
      · split
        · simp [hne3]
        · simp [hne3]
      · split
        · rename_i hb0'
          have e : b = [] := List.eq_nil_of_length_eq_zero (by simpa using hb0')
          simp [Ne.symm hne4, e]
          have := rowP_last (a.drop i) []
          simpa using this.symm
        · simp
      · intro k hk hkn
        have k1 : rowName 23 (a.length - i) ≠ rowName 23 k := fun e => hk (rowName_inj e).symm
        have k2 := Ne.symm (hne1 k)
        have k3 := Ne.symm (hne2 k (by omega))
        split
        · simp [k1, k2, k3]
        · simp [k1, k2, k3]
    · have hie : i = a.length := by omega
      rw [table_end a b i hie]
      simp [hc3]
      rw [hK]
      refine table_loop a b ha hb pm i ((i : Int) - 1) _ rfl (by omega) (hI1 _ ?_ ?_ ?_ ?_)
      · simp
      · simp [hne3]
      · have e : a.drop i = [] := by simp; omega
        simp [Ne.symm hne4]
        rw [e]
        exact rowP_nil b _ _
      · intro k hk hkn
        have k1 : rowName 23 (a.length - i) ≠ rowName 23 k := fun e => hk (rowName_inj e).symm
        have k2 := Ne.symm (hne1 k)
        have k3 := Ne.symm (hne2 k (by omega))
        simp [k1, k2, k3]
/-- The table, as it is told. -/
def tblA (a b : List (List UInt8)) : List AV := (List.range (a.length + 1)).map fun i => .sl 1 (rowP (a.drop i) b 0) .no
theorem tblA_at (a b : List (List UInt8)) (i : Nat) (h : i ≤ a.length) : (tblA a b)[i]? = some (.sl 1 (rowP (a.drop i) b 0) .no) := by
  unfold tblA
  rw [List.getElem?_map, List.getElem?_range (by omega)]
  rfl
theorem tblA_len (a b : List (List UInt8)) : (tblA a b).length = a.length + 1 := by simp [tblA]
theorem chunks_ints : ∀ (l : List Int), chunks 1 false l.length (l.map (.int .i64)) = some (l.map (.int .i64))
  | [] => rfl
  | x :: l => by
    have h := chunks_ints l
    rw [List.length_cons, List.map_cons]
    unfold chunks
    simp only [List.take_succ_cons, List.take_zero, List.drop_succ_cons, List.drop_zero]
    rw [h]
    rfl
theorem chunks_row (a b : List (List UInt8)) : chunks 1 false (b.length + 1) (rowP a b 0) = some (rowP a b 0) := by
  have h := chunks_ints ((List.range (b.length + 1)).map fun k => ((if k < 0 then 0 else lcsF a (b.drop k) : Nat) : Int))
  simp only [List.length_map, List.length_range, List.map_map] at h
  have e : rowP a b 0 = (List.range (b.length + 1)).map (AV.int .i64 ∘ fun k => ((if k < 0 then 0 else lcsF a (b.drop k) : Nat) : Int)) := by
    unfold rowP
    refine List.map_congr_left fun k _ => ?_
    simp
  rw [e]
  exact h
theorem grid_tbl (a b : List (List UInt8)) (ha : a.length ≤ 900) (bx : Bx) (h : TI a b 0 bx) : ∀ (d i : Nat) (seen : List Nat), i + d = a.length + 1 → (∀ k, i ≤ k → k ≤ a.length → seen.contains (rowName 23 (a.length - k)) = false) →
    ∃ ts, gridR bx seen ((tblT a.length (b.length + 1) 0).drop i) = some ((tblA a b).drop i, ts)
  | 0, i, seen, hi, hs => by
    rw [List.drop_eq_nil_of_le (by rw [tblT_len]; omega), List.drop_eq_nil_of_le (by rw [tblA_len]; omega)]
    exact ⟨[], rfl⟩
  | d + 1, i, seen, hi, hs => by
    have h1 := tblT_at a.length (b.length + 1) 0 i (by omega)
    have h2 := tblA_at a b i (by omega)
    obtain ⟨l1, e1⟩ := List.getElem?_eq_some_iff.1 h1
    obtain ⟨l2, e2⟩ := List.getElem?_eq_some_iff.1 h2
    rw [List.drop_eq_getElem_cons l1, List.drop_eq_getElem_cons l2, e1, e2]
    have hc : cellT a.length (b.length + 1) 0 i = .own 1 false (rowName 23 (a.length - i)) 0 (b.length + 1) := by unfold cellT; rw [if_neg (by omega)]
    rw [hc]
    obtain ⟨ts, ht⟩ := grid_tbl a b ha bx h d (i + 1) (rowName 23 (a.length - i) :: seen) (by omega) (fun k hk hk2 => by
      have hne : rowName 23 (a.length - k) ≠ rowName 23 (a.length - i) := fun e => by have := rowName_inj e; omega
      have := hs k (by omega) hk2
      rw [List.contains_cons, this]
      simp [hne])
    have hr := h.r i (by omega) (by omega)
    refine ⟨(rowName 23 (a.length - i), 0, gone) :: ts, ?_⟩
    unfold gridR
    rw [hr, ht]
    have hnm : rowName 23 (a.length - i) < 100000 := by unfold rowName; omega
    simp only [rowP_dead, rowP_len, hs i (Nat.le_refl _) (by omega), hnm, Nat.mul_one, and_self, if_true, Nat.zero_lt_one, true_and, chunks_row]
    rfl
theorem tblT_zero (n m : Nat) : List.replicate (n + 1) (AV.sl 1 [] .nil) = tblT n m (n + 1) := by
  refine List.ext_getElem? fun k => ?_
  by_cases h : k ≤ n
  · rw [tblT_at _ _ _ _ h, List.getElem?_replicate, if_pos (by omega)]
    unfold cellT
    rw [if_pos (by omega)]
  · rw [List.getElem?_eq_none (by simp; omega), List.getElem?_eq_none (by rw [tblT_len]; omega)]
theorem table_den (a b : List (List UInt8)) (ha : a.length ≤ 900) (hb : b.length ≤ 1000000) : Den Sy 113 [sS a, sS b] = some (.sl 1 (tblA a b) .no) := by
  rw [Den_fun Sy (af := A113) rfl rfl _ rfl]
  have h1 : ((a.length : Int) + 1) * 24 ≤ 140737488355328 := by omega
  have hc := chk_i64 ((a.length : Int) + 1) (by omega)
  have h0 : (0 : Int) < a.length + 1 := by omega
  have htn : ((a.length : Int) + 1).toNat = a.length + 1 := by omega
  have hcn : rowCnt 11 = 900011 := rfl
  have hrn : rowName 11 (nextB (ofL []) 900011) = 1011 := rfl
  have hn2 : nextB (ofL []) 1011 = 0 := rfl
  have hz := tblT_zero a.length (b.length + 1)
  have hal : ((a.length : Int)) = ((a.length + 1 : Nat) : Int) - 1 := by omega
  simp [A113, -deadC, hc, h1, h0, htn, hcn, hrn, hn2, hz, tblT_dead]
  generalize hX : RunD Sy (.loop L113x1) _ = X
  obtain ⟨ex, st', rfl, rfl, bx', rfl, hI⟩ := Res.at hX (table_loop a b ha hb none' (a.length + 1) a.length _ hal (Nat.le_refl _) ⟨by simp, fun k h1 h2 => by omega, by
    have : (ofL [] : Bx) 900023 = none := rfl
    simp [nextB, this], fun k hk => by
    have h1 : rowName 23 (a.length - k) ≠ 1011 := by unfold rowName; omega
    have h2 : rowName 23 (a.length - k) ≠ 900011 := by unfold rowName; omega
    simp [Ne.symm h1, Ne.symm h2]⟩)
  obtain ⟨ts, ht⟩ := grid_tbl a b ha bx' hI (a.length + 1) 0 [1011] (by omega) (fun k _ _ => by
    have h1 : rowName 23 (a.length - k) ≠ 1011 := by unfold rowName; omega
    simp [h1])
  have hbt := hI.t
  rw [List.drop_zero, List.drop_zero] at ht
  simp [-deadC, hbt, ht, tblT_dead, tblT_len]
end Go.Proofs.YtdjgdipmjbkilaaGreatDoor.Rx
