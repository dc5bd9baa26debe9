/-
  Plain proofs: scripts: which may be, their bytes, the document's answers.
-/
import Derived.Test.YtdjgdipmjbkilaaGreatDoorRxGD
namespace Go.Proofs.YtdjgdipmjbkilaaGreatDoor.Rx
open Go
set_option linter.unusedSimpArgs false
set_option linter.unusedVariables false

theorem may_den (e : Edit) : Den Sy 76 [eE e] = some (.bool (mayB e)) := by
  rw [Den_fun Sy (af := A76) rfl rfl _ rfl]
  by_cases h1 : e.n < 1
  · have : ¬ 1 ≤ e.n := by omega
    simp [A76, eE, h1, mayB, this]
  · by_cases h2 : 1048576 < e.n
    · have : ¬ e.n ≤ 1048576 := by omega
      simp [A76, eE, h1, h2, mayB, this]
    · have : 1 ≤ e.n ∧ e.n ≤ 1048576 := by omega
      by_cases h3 : e.op = 1
      · simp [A76, eE, h1, h2, mayB, this, h3]
      · by_cases h4 : e.op = 2
        · simp [A76, eE, h1, h2, mayB, this, h3, h4]
        · by_cases h5 : e.op = 3
          · simp [A76, eE, h1, h2, mayB, this, h3, h4, h5]
          · simp [A76, eE, h1, h2, mayB, this, h3, h4, h5]
theorem right_loop (s : List Edit) (hl : s.length ≤ 1099511627776) : ∀ (rest pre : List Edit) (last i : Int) (bx : Bx) (pm : Pm), s = pre ++ rest → i = pre.length →
    Res (RunD Sy (.loop L49x0) ⟨ofL [(3, .int .i64 last), (6, .sl 3 (s.map eE) .no), (7, .int .i64 s.length), (8, .int .i64 i)], bx, pm, none⟩) fun ex st' => st'.df = none ∧ if rightF last rest = true then ex = .exit 0 else ex = .ret ∧ st'.env 2 = some (.bool false)
  | [], pre, last, i, bx, pm, hs, hi => by
    subst hi
    rw [List.append_nil] at hs
    subst hs
    rw [RunD_loop]
    simp [L49x0, rightF]
  | e :: rest, pre, last, i, bx, pm, hs, hi => by
    have hlt : (pre.length : Int) < s.length := by rw [hs]; simp; omega
    have hg : (s.map eE)[pre.length]? = some (eE e) := by rw [hs]; simp
    subst hi
    rw [RunD_loop]
    have hm := may_den e
    simp only [eE] at hm hg
    have hc := chk_i64 ((pre.length : Int) + 1) (by omega)
    by_cases h1 : mayB e = true
    · by_cases h2 : e.op = last
      · simp [L49x0, hc, hlt, hg, hm, h1, rightF, eq_true h2]
      · by_cases h3 : last = 3
        · by_cases h4 : e.op = 2
          · simp [L49x0, hc, hlt, hg, hm, h1, rightF, eq_false h2, eq_true h3, eq_true h4]
          · simp [L49x0, hc, hlt, hg, hm, h1, rightF, eq_false h2, eq_true h3, eq_false h4]
            exact right_loop s hl rest (pre ++ [e]) e.op _ _ _ (by simp [hs]) (by simp)
        · simp [L49x0, hc, hlt, hg, hm, h1, rightF, eq_false h2, eq_false h3]
          exact right_loop s hl rest (pre ++ [e]) e.op _ _ _ (by simp [hs]) (by simp)
    · simp [L49x0, hc, hlt, hg, hm, h1, rightF]
theorem right_den (s : List Edit) (hl : s.length ≤ 1099511627776) : Den Sy 49 [sE s] = some (.bool (rightB s)) := by
  rw [Den_fun Sy (af := A49) rfl rfl _ rfl]
  obtain ⟨ex, st', h, hd, hr⟩ := right_loop s hl s [] 0 0 (ofL []) none' rfl rfl
  by_cases hb : rightF 0 s = true
  · rw [if_pos hb] at hr
    subst hr
    simp [A49, h, rightB, hb, hd]
  · rw [if_neg hb] at hr
    obtain ⟨rfl, h2⟩ := hr
    simp [A49, h, rightB, hb, hd, h2]
theorem may2_den (e : Edit) : Den Sy 81 [eE e] = some (.bool (mayB e)) := by
  rw [Den_fun Sy (af := A81) rfl rfl _ rfl]
  by_cases h1 : e.op < 1
  · have : ¬ e.op = 1 ∧ ¬ e.op = 2 ∧ ¬ e.op = 3 := by omega
    simp [A81, eE, h1, mayB, this]
  · by_cases h2 : 3 < e.op
    · have : ¬ e.op = 1 ∧ ¬ e.op = 2 ∧ ¬ e.op = 3 := by omega
      simp [A81, eE, h1, h2, mayB, this]
    · by_cases h3 : e.n < 1
      · have : ¬ 1 ≤ e.n := by omega
        simp [A81, eE, h1, h2, h3, mayB, this]
      · by_cases h4 : 1048576 < e.n
        · have : ¬ e.n ≤ 1048576 := by omega
          simp [A81, eE, h1, h2, h3, h4, mayB, this]
        · have h6 : 1 ≤ e.n ∧ e.n ≤ 1048576 := by omega
          by_cases h5 : e.op = 3
          · have : ¬ e.op = 1 ∧ ¬ e.op = 2 := by omega
            simp [A81, eE, h1, h2, h3, h4, mayB, eq_true h5, this, h6]
          · have : e.op = 1 ∨ e.op = 2 := by omega
            simp [A81, eE, h1, h2, h3, h4, mayB, eq_false h5, this, h6]
theorem right2_loop (s : List Edit) (hl : s.length ≤ 1099511627776) : ∀ (rest pre : List Edit) (last i : Int) (bx : Bx) (pm : Pm), s = pre ++ rest → i = pre.length → last = lastOp pre →
    Res (RunD Sy (.loop L54x0) ⟨ofL [(0, sE s), (3, .int .i64 i)], bx, pm, none⟩) fun ex st' => st'.df = none ∧ if rightF last rest = true then ex = .exit 0 else ex = .ret ∧ st'.env 2 = some (.bool false)
  | [], pre, last, i, bx, pm, hs, hi, hla => by
    subst hi
    rw [List.append_nil] at hs
    subst hs
    rw [RunD_loop]
    simp [L54x0, rightF]
  | e :: rest, pre, last, i, bx, pm, hs, hi, hla => by
    have hlt : (pre.length : Int) < s.length := by rw [hs]; simp; omega
    have hg : (s.map eE)[pre.length]? = some (eE e) := by rw [hs]; simp
    have hm := may2_den e
    simp only [eE] at hm hg
    rcases nil_or_last pre with rfl | ⟨l, p, rfl⟩
    · have hla : last = 0 := hla
      subst hla
      have hi0 : i = 0 := by simpa using hi
      have hlt0 : 0 < s.length := by rw [hs]; simp
      subst hi0
      rw [RunD_loop]
      simp only [List.length_nil] at hg
      have hc := chk_i64 1 (by omega)
      by_cases h1 : mayB e = true
      · have h0 : ¬ e.op = 0 := by have := (mayB_op h1).1; omega
        simp [-getElem?_pos, L54x0, hc, hlt0, hg, hm, h1, rightF, h0]
        exact right2_loop s hl rest [e] e.op _ _ _ (by simp [hs]) (by simp) rfl
      · simp [-getElem?_pos, L54x0, hc, hlt0, hg, hm, h1, rightF]
    · have hla : last = p.op := by rw [hla]; simp [lastOp]
      subst hla
      have hp : (s.map eE)[l.length]? = some (eE p) := by rw [hs]; simp
      simp only [eE, List.length_append, List.length_cons, List.length_nil, Nat.zero_add] at hp hg
      have hln : (l.length : Int) + 1 < s.length := by simpa using hlt
      have hc := chk_i64 ((l.length : Int) + 1 + 1) (by omega)
      have hc2 := chk_i64 (l.length : Int) (by omega)
      subst hi
      rw [RunD_loop]
      by_cases h1 : mayB e = true
      · by_cases h2 : p.op = e.op
        · simp [L54x0, hc, hc2, hln, hg, hp, hm, h1, rightF, eq_true h2, eq_true h2.symm]
        · have h2' : ¬ e.op = p.op := fun h => h2 h.symm
          by_cases h3 : p.op = 3
          · by_cases h4 : e.op = 2
            · simp [L54x0, hc, hc2, hln, hg, hp, hm, h1, rightF, eq_false h2, eq_false h2', eq_true h3, eq_true h4]
            · simp [L54x0, hc, hc2, hln, hg, hp, hm, h1, rightF, eq_false h2, eq_false h2', eq_true h3, eq_false h4]
              exact right2_loop s hl rest (l ++ [p] ++ [e]) e.op _ _ _ (by simp [hs]) (by simp; omega) (by simp [lastOp])
          · simp [L54x0, hc, hc2, hln, hg, hp, hm, h1, rightF, eq_false h2, eq_false h2', eq_false h3]
            exact right2_loop s hl rest (l ++ [p] ++ [e]) e.op _ _ _ (by simp [hs]) (by simp; omega) (by simp [lastOp])
      · simp [L54x0, hc, hc2, hln, hg, hp, hm, h1, rightF]
theorem right2_den (s : List Edit) (hl : s.length ≤ 1099511627776) : Den Sy 54 [sE s] = some (.bool (rightB s)) := by
  rw [Den_fun Sy (af := A54) rfl rfl _ rfl]
  obtain ⟨ex, st', h, hd, hr⟩ := right2_loop s hl s [] 0 0 (ofL []) none' rfl rfl rfl
  by_cases hb : rightF 0 s = true
  · rw [if_pos hb] at hr
    subst hr
    simp [A54, h, rightB, hb, hd]
  · rw [if_neg hb] at hr
    obtain ⟨rfl, h2⟩ := hr
    simp [A54, h, rightB, hb, hd, h2]
theorem pick_den (c n : Int) (hc : inR c) (hn : 0 < n) : Den Sy 23 [.int .i64 c, .int .i64 n] = some (.int .i64 (pickF c n)) := by
  rw [Den_fun Sy (af := A23) rfl rfl _ rfl]
  obtain ⟨h1, h2⟩ := hc
  have h0 : ¬ n = 0 := by omega
  by_cases h : c < 0
  · have hc1 := chk_i64 (c + 1) (by omega)
    have hc2 := chk_i64 (0 - (c + 1)) (by omega)
    have e : (0 - (c + 1)) = -(c + 1) := by omega
    rw [e] at hc2
    simp [A23, h, hc1, hc2, h0, pickF]
  · simp [A23, h, h0, pickF]
theorem full_loop (raw : List Int) (hr : ∀ c ∈ raw, inR c) (n : Nat) (hn : n ≤ 1048576) : ∀ (k i : Nat) (j : Int) (out : List AV) (p : Perm) (bx : Bx) (pm : Pm), j = i → i + k = n → AppOk pm p → out.length = i →
    Res (RunD Sy (.loop L24x0) ⟨ofL [(0, iS raw), (1, .int .i64 n), (5, .sl 1 out p), (6, .int .i64 j)], bx, pm, none⟩) fun ex st' => ex = .exit 0 ∧ st'.df = none ∧ ∃ q, st'.env 5 = some (.sl 1 (out ++ (fullG raw i k).map .str) q)
  | 0, i, j, out, p, bx, pm, hj, hi, hp, ho => by
    have : i = n := by omega
    subst this hj
    rw [RunD_loop]
    simp [L24x0, fullG]
  | k + 1, i, j, out, p, bx, pm, hj, hi, hp, ho => by
    subst hj
    have hlt : (i : Int) < n := by omega
    have hc := chk_i64 ((i : Int) + 1) (by omega)
    have hsz : (out.length + 1) * 16 ≤ 140737488355328 := by omega
    have hb := pickF_lt (raw.getD i i) (n := 5) (by omega)
    have hk := kinds_get _ hb
    have hin : inR (raw.getD i i) := by
      by_cases h : i < raw.length
      · simp only [List.getD, h, List.getElem?_eq_getElem, Option.getD_some]
        exact hr _ (List.getElem_mem h)
      · simp only [List.getD, List.getElem?_eq_none (Nat.le_of_not_lt h), Option.getD_none]
        exact ⟨by omega, by omega⟩
    have hpd := pick_den (raw.getD i i) 5 hin (by omega)
    refine loop_step fun K hK => ?_
    by_cases h : i < raw.length
    · have hg : (raw.map (AV.int .i64))[i]? = some (.int .i64 (raw.getD i i)) := by simp [h]
      have hlen : (out ++ [AV.str (kindF (pickF (raw.getD i i) 5))]).length = i + 1 := by simp [ho]
      have hlen' : (out ++ [AV.str (kindF (pickF (raw.getD i i) 5))]).length = i + 1 := by simp [ho]
      have htn := pickF_lt (raw.getD i i) (n := 5) (by omega)
      rcases hp with rfl | ⟨m, v, rfl, hpm⟩
      · simp [L24x0, -List.getD_eq_getElem?_getD, -getElem?_pos, -List.getElem?_map, hc, hlt, hg, h, hpd, hk, hb, hsz, fullG]
        rw [List.append_cons _ _ (List.map AV.str (fullG raw (i + 1) k)), hK]
        exact full_loop raw hr n hn k (i + 1) _ _ _ _ _ (by simp) (by omega) (AppOk.tok (by simp)) hlen
      · simp [L24x0, -List.getD_eq_getElem?_getD, -getElem?_pos, -List.getElem?_map, hc, hlt, hg, h, hpd, hk, hb, hsz, hpm, fullG]
        rw [List.append_cons _ _ (List.map AV.str (fullG raw (i + 1) k)), hK]
        exact full_loop raw hr n hn k (i + 1) _ _ _ _ _ (by simp) (by omega) (AppOk.tok (by simp)) hlen
    · have hd : raw.getD i i = i := by simp [List.getD, List.getElem?_eq_none (Nat.le_of_not_lt h)]
      rw [hd] at hpd hk hb
      have hlen : (out ++ [AV.str (kindF (pickF i 5))]).length = i + 1 := by simp [ho]
      rcases hp with rfl | ⟨m, v, rfl, hpm⟩
      · simp [L24x0, -List.getD_eq_getElem?_getD, -getElem?_pos, hc, hlt, h, hd, hpd, hk, hb, hsz, fullG]
        rw [List.append_cons _ _ (List.map AV.str (fullG raw (i + 1) k)), hK]
        exact full_loop raw hr n hn k (i + 1) _ _ _ _ _ (by simp) (by omega) (AppOk.tok (by simp)) hlen
      · simp [L24x0, -List.getD_eq_getElem?_getD, -getElem?_pos, hc, hlt, h, hd, hpd, hk, hb, hsz, hpm, fullG]
        rw [List.append_cons _ _ (List.map AV.str (fullG raw (i + 1) k)), hK]
        exact full_loop raw hr n hn k (i + 1) _ _ _ _ _ (by simp) (by omega) (AppOk.tok (by simp)) hlen
theorem full_den (raw : List Int) (hr : ∀ c ∈ raw, inR c) (n : Nat) (hn : n ≤ 1048576) : Den Sy 24 [iS raw, .int .i64 n] = some (sS (fullF raw n)) := by
  rw [Den_fun Sy (af := A24) rfl rfl _ rfl]
  obtain ⟨ex, st', h, rfl, hd, q, hr⟩ := full_loop raw hr n hn n 0 0 [] .nil (ofL []) none' rfl (by omega) (AppOk.nil _) rfl
  simp only [List.nil_append] at h hr
  simp [A24, h, hd, hr, fullF]
theorem same_inner (a b : List Edit) (x y : Edit) (m : Nat) (hm : m < 1099511627776) (hga : (a.map eE)[m]? = some (eE x)) (hgb : (b.map eE)[m]? = some (eE y)) (hxy : x.ls.length = y.ls.length) (hl : x.ls.length ≤ 1099511627776) : ∀ (ra rb pa pb : List (List UInt8)) (i : Int) (bx : Bx) (pm : Pm), x.ls = pa ++ ra → y.ls = pb ++ rb → pa.length = pb.length → i = pa.length →
    Res (RunD Sy (.loop L62x0) ⟨ofL [(0, sE a), (1, sE b), (5, .int .i64 m), (6, .int .i64 i)], bx, pm, none⟩) fun ex st' => if ra = rb then ex = .exit 2 ∧ ∃ v bx' pm', st' = ⟨ofL [(0, sE a), (1, sE b), (5, .int .i64 m), (6, v), (64, .bool false)], bx', pm', none⟩ else st'.df = none ∧ ex = .ret ∧ st'.env 4 = some (.bool false)
  | [], rb, pa, pb, i, bx, pm, ha, hb, hp, hi => by
    subst hi
    have : rb = [] := by
      have h1 := congrArg List.length ha
      have h2 := congrArg List.length hb
      simp at h1 h2
      exact List.eq_nil_of_length_eq_zero (by omega)
    subst this
    rw [List.append_nil] at ha
    simp only [eE] at hga hgb
    rw [RunD_loop]
    simp [L62x0, -getElem?_pos, -List.getElem?_map, hga, ← ha]
    exact ⟨_, rfl⟩
  | u :: ra, rb, pa, pb, i, bx, pm, ha, hb, hp, hi => by
    have hlt : (pa.length : Int) < x.ls.length := by rw [ha]; simp; omega
    obtain ⟨v, rb, rfl⟩ : ∃ y r, rb = y :: r := by
      cases rb with
      | nil => have h1 := congrArg List.length ha; have h2 := congrArg List.length hb; simp at h1 h2; omega
      | cons y r => exact ⟨y, r, rfl⟩
    have hgu : (x.ls.map AV.str)[pa.length]? = some (.str u) := by rw [ha]; simp
    have hgv : (y.ls.map AV.str)[pa.length]? = some (.str v) := by rw [hb, hp]; simp
    subst hi
    have hc := chk_i64 ((pa.length : Int) + 1) (by omega)
    have hga' := hga
    have hgb' := hgb
    simp only [eE] at hga' hgb'
    refine loop_step fun K hK => ?_
    by_cases h : u = v
    · simp [L62x0, -getElem?_pos, -List.getElem?_map, hc, hlt, hga', hgb', hgu, hgv, binS, eq_true h]
      rw [hK]
      exact same_inner a b x y m hm hga hgb hxy hl ra rb (pa ++ [u]) (pb ++ [v]) _ _ _ (by simp [ha]) (by simp [hb]) (by simp [hp]) (by simp)
    · simp [L62x0, -getElem?_pos, -List.getElem?_map, hc, hlt, hga', hgb', hgu, hgv, binS, eq_false h]
theorem same_loop (a b : List Edit) (hab : a.length = b.length) (hl : a.length ≤ 1099511627776) (hls : ∀ e ∈ a, e.ls.length ≤ 1099511627776) : ∀ (ra rb pa pb : List Edit) (i : Int) (bx : Bx) (pm : Pm), a = pa ++ ra → b = pb ++ rb → pa.length = pb.length → i = pa.length →
    Res (RunD Sy (.loop L62x1) ⟨ofL [(0, sE a), (1, sE b), (5, .int .i64 i)], bx, pm, none⟩) fun ex st' => st'.df = none ∧ if ra = rb then ex = .exit 0 else ex = .ret ∧ st'.env 4 = some (.bool false)
  | [], rb, pa, pb, i, bx, pm, ha, hb, hp, hi => by
    subst hi
    have : rb = [] := by
      have h1 := congrArg List.length ha
      have h2 := congrArg List.length hb
      simp at h1 h2
      exact List.eq_nil_of_length_eq_zero (by omega)
    subst this
    rw [List.append_nil] at ha
    subst ha
    rw [RunD_loop]
    simp [L62x1]
  | x :: ra, rb, pa, pb, i, bx, pm, ha, hb, hp, hi => by
    have hlt : (pa.length : Int) < a.length := by rw [ha]; simp; omega
    obtain ⟨y, rb, rfl⟩ : ∃ y r, rb = y :: r := by
      cases rb with
      | nil => have h1 := congrArg List.length ha; have h2 := congrArg List.length hb; simp at h1 h2; omega
      | cons y r => exact ⟨y, r, rfl⟩
    have hga : (a.map eE)[pa.length]? = some (eE x) := by rw [ha]; simp
    have hgb : (b.map eE)[pa.length]? = some (eE y) := by rw [hb, hp]; simp
    subst hi
    have hc := chk_i64 ((pa.length : Int) + 1) (by omega)
    have hga' := hga
    have hgb' := hgb
    simp only [eE] at hga' hgb'
    refine loop_step fun K hK => ?_
    by_cases h1 : x.op = y.op
    · by_cases h2 : x.n = y.n
      · by_cases h3 : x.ls.length = y.ls.length
        · have h3' : (x.ls.length : Int) = y.ls.length := by omega
          have hin := same_inner a b x y pa.length (by omega) hga hgb h3 (hls x (by rw [ha]; simp)) x.ls y.ls [] [] 0 bx pm rfl rfl rfl rfl
          obtain ⟨ex, st', hi, hr⟩ := hin
          by_cases h4 : x.ls = y.ls
          · have hxy : x = y := by cases x; cases y; simp only [Edit.mk.injEq]; exact ⟨h1, h2, h4⟩
            rw [if_pos h4] at hr
            obtain ⟨rfl, v, bx', pm', rfl⟩ := hr
            simp [L62x1, -getElem?_pos, -List.getElem?_map, hc, hlt, hga', hgb', eq_true h1, eq_true h2, eq_true h3', hi, eq_true hxy]
            rw [hK]
            exact same_loop a b hab hl hls ra rb (pa ++ [x]) (pb ++ [y]) _ _ _ (by simp [ha]) (by simp [hb]) (by simp [hp]) (by simp)
          · have hxy : ¬ x = y := fun e => h4 (by rw [e])
            rw [if_neg h4] at hr
            obtain ⟨hd, rfl, h5⟩ := hr
            simp [L62x1, -getElem?_pos, -List.getElem?_map, hc, hlt, hga', hgb', eq_true h1, eq_true h2, eq_true h3', hi, eq_false hxy, hd, h5]
        · have hxy : ¬ x = y := fun e => h3 (by rw [e])
          have h3' : ¬ (x.ls.length : Int) = y.ls.length := by omega
          simp [L62x1, -getElem?_pos, -List.getElem?_map, hc, hlt, hga', hgb', eq_true h1, eq_true h2, eq_false h3', eq_false hxy]
      · have hxy : ¬ x = y := fun e => h2 (by rw [e])
        simp [L62x1, -getElem?_pos, -List.getElem?_map, hc, hlt, hga', hgb', eq_true h1, eq_false h2, eq_false hxy]
    · have hxy : ¬ x = y := fun e => h1 (by rw [e])
      simp [L62x1, -getElem?_pos, -List.getElem?_map, hc, hlt, hga', hgb', eq_false h1, eq_false hxy]
theorem same_den (a b : List Edit) (hl : a.length ≤ 1099511627776) (hls : ∀ e ∈ a, e.ls.length ≤ 1099511627776) : Den Sy 62 [sE a, sE b] = some (.bool (decide (a = b))) := by
  rw [Den_fun Sy (af := A62) rfl rfl _ rfl]
  by_cases hab : a.length = b.length
  · obtain ⟨ex, st', h, hd, hr⟩ := same_loop a b hab hl hls a b [] [] 0 (ofL []) none' rfl rfl rfl rfl
    by_cases e : a = b
    · rw [if_pos e] at hr
      subst hr
      simp [A62, h, hd, hab, eq_true e]
    · rw [if_neg e] at hr
      obtain ⟨rfl, h2⟩ := hr
      simp [A62, h, hd, h2, hab, eq_false e]
  · have : ¬ a = b := fun e => hab (by rw [e])
    have hab' : ¬ (a.length : Int) = b.length := by omega
    simp [A62, hab', this]
/-! ### Raw numbers' scripts -/
set_option maxHeartbeats 4000000 in
theorem script_loop (raw lines : List Int) (hr : ∀ c ∈ raw, inR c) : ∀ (k : Nat) (rest pre : List Int) (oe : List Edit) (out : List AV) (p : Perm) (last take i : Int) (bx : Bx) (pm : Pm), raw = pre ++ rest → i = pre.length → k + pre.length = 10 → out = oe.map eE → last = lastOp oe → AppOk pm p → oe.length ≤ pre.length → 0 ≤ take ∧ take ≤ 4 * pre.length →
    Res (RunD Sy (.loop L10x0) ⟨ofL [(0, iS raw), (1, iS lines), (6, .sl 3 out p), (7, .int .i64 take), (8, .int .i64 i)], bx, pm, none⟩) fun ex st' => ex = .exit 0 ∧ st'.df = none ∧ st'.env 1 = some (iS lines) ∧ st'.env 7 = some (.int .i64 (take + many 1 2 (scriptG k rest last))) ∧
      ∃ q, st'.env 6 = some (.sl 3 (out ++ (scriptG k rest last).map eE) q)
  | 0, rest, pre, oe, out, p, last, take, i, bx, pm, hs, hi, hk, ho, hla, hp, hol, ht => by
    subst hi
    have hpl : pre.length = 10 := by omega
    refine loop_step fun K hK => ?_
    by_cases h : (10 : Int) < raw.length
    · simp [L10x0, hpl, h, scriptG, many]
    · simp [L10x0, hpl, h, scriptG, many]
  | k + 1, [], pre, oe, out, p, last, take, i, bx, pm, hs, hi, hk, ho, hla, hp, hol, ht => by
    subst hi
    rw [List.append_nil] at hs
    subst hs
    refine loop_step fun K hK => ?_
    simp [L10x0, scriptG, many]
  | k + 1, c :: rest, pre, oe, out, p, last, take, i, bx, pm, hs, hi, hk, ho, hla, hp, hol, ht => by
    have hlt : (pre.length : Int) < raw.length := by rw [hs]; simp; omega
    have hl10 : (pre.length : Int) < 10 := by omega
    have hg : (raw.map (AV.int .i64))[pre.length]? = some (.int .i64 c) := by rw [hs]; simp
    have hcin : inR c := hr c (by rw [hs]; simp)
    have hc3 := tdiv3_in hcin
    have hp3 := pick_den c 3 hcin (by omega)
    have hp4 := pick_den (c.tdiv 3) 4 hc3 (by omega)
    have hb3 := pickF_lt c (n := 3) (by omega)
    have hb4 := pickF_lt (c.tdiv 3) (n := 4) (by omega)
    have hq := chk_i64 (c.tdiv 3) hc3
    have hdr : (raw.map (AV.int .i64)).drop pre.length = .int .i64 c :: rest.map (AV.int .i64) := by rw [hs]; simp
    have htk : (raw.map (AV.int .i64)).take raw.length = raw.map (AV.int .i64) := List.take_of_length_le (by simp)
    subst hi
    have hc := chk_i64 ((pre.length : Int) + 1) (by omega)
    obtain ⟨x, hx⟩ : ∃ x, x = mkE c rest := ⟨_, rfl⟩
    have hxo : x.op = 1 + pickF c 3 := by rw [hx]; rfl
    have hxn : x.n = 1 + pickF (c.tdiv 3) 4 := by rw [hx]; rfl
    have hxl : x.ls = if x.op = 3 then fullF (c :: rest) x.n.toNat else [] := by rw [hx]; rfl
    have ho13 : 1 ≤ x.op ∧ x.op ≤ 3 := by omega
    have hn14 : 1 ≤ x.n ∧ x.n ≤ 4 := by omega
    have hco : chk .i64 (1 + pickF c 3) = some (.int .i64 x.op) := by rw [← hxo]; exact chk_i64 _ (by omega)
    have hcm : chk .i64 (1 + pickF (c.tdiv 3) 4) = some (.int .i64 x.n) := by rw [← hxn]; exact chk_i64 _ (by omega)
    have hct := chk_i64 (take + x.n) (by omega)
    have hnn : ((x.n.toNat : Nat) : Int) = x.n := by omega
    have hfull := full_den (c :: rest) (fun x hx => hr x (by rw [hs]; exact List.mem_append_right _ hx)) x.n.toNat (by omega)
    rw [hnn] at hfull
    simp only [iS, List.map_cons] at hfull
    have hle : (pre.length : Int) ≤ raw.length := by omega
    have hsz : (out.length + 1) * 40 ≤ 140737488355328 := by rw [ho]; simp; omega
    have hsn : lastOp (oe ++ [x]) = x.op := lastOp_snoc oe x
    have ho' : out ++ [AV.agg [.int .i64 x.op, .int .i64 x.n, .sl 1 (x.ls.map AV.str) .no]] = (oe ++ [x]).map eE := by rw [ho]; simp [eE]
    have hg2 : scriptG (k + 1) (c :: rest) last = if skipB last x.op = true then scriptG k rest last else x :: scriptG k rest x.op := by rw [hx]; rfl
    refine loop_step fun K hK => ?_
    by_cases h3 : x.op = 3
    · have hl3 : x.ls = fullF (c :: rest) x.n.toNat := by rw [hxl, if_pos h3]
      rw [← hl3] at hfull
      have h12 : ¬ (x.op = 1 ∨ x.op = 2) := by omega
      have h2 : ¬ x.op = 2 := by omega
      rcases nil_or_last oe with rfl | ⟨l, p0, rfl⟩
      · have hla0 : last = 0 := hla
        subst hla0
        have ho0 : out = [] := ho
        subst ho0
        have hsk : skipB 0 x.op = false := by simp [skipB]; omega
        rcases hp with rfl | ⟨m, v, rfl, hpm⟩
        · simp [L10x0, -getElem?_pos, -List.getElem?_map, hlt, hl10, hg, hp3, hp4, hq, hc, hco, hcm, hct, eq_true h3, eq_false h12, hfull, htk, hdr, hle, hg2, many, hsk]
          rw [hK]
          exact script_loop raw lines hr k rest (pre ++ [c]) ([] ++ [x]) _ _ _ _ _ _ _ (by simp [hs]) (by simp) (by simp; omega) ho' hsn.symm (AppOk.tok (by simp)) (by simp) (by simp; omega)
        · simp [L10x0, -getElem?_pos, -List.getElem?_map, hlt, hl10, hg, hp3, hp4, hq, hc, hco, hcm, hct, eq_true h3, eq_false h12, hfull, htk, hdr, hle, hg2, many, hsk, hpm]
          rw [hK]
          exact script_loop raw lines hr k rest (pre ++ [c]) ([] ++ [x]) _ _ _ _ _ _ _ (by simp [hs]) (by simp) (by simp; omega) ho' hsn.symm (AppOk.tok (by simp)) (by simp) (by simp; omega)
      · have hla0 : last = p0.op := by rw [hla, lastOp_snoc]
        subst hla0
        have hlen : (out.length : Int) = l.length + 1 := by rw [ho]; simp
        have hll : (l.length : Int) + 1 ≤ pre.length := by simp at hol; omega
        have hc2 := chk_i64 (l.length : Int) (by omega)
        have hgp : out[l.length]? = some (.agg [.int .i64 p0.op, .int .i64 p0.n, .sl 1 (p0.ls.map AV.str) .no]) := by rw [ho]; simp [eE]
        by_cases hsame : p0.op = x.op
        · have hsk : skipB p0.op x.op = true := by simp [skipB, hsame]
          simp [L10x0, -getElem?_pos, -List.getElem?_map, hlt, hl10, hg, hp3, hp4, hq, hc, hco, hcm, hct, eq_true h3, eq_false h12, hfull, htk, hdr, hle, hg2, many, hsk, hlen, hc2, hgp, eq_true hsame]
          rw [hK]
          exact script_loop raw lines hr k rest (pre ++ [c]) (l ++ [p0]) _ _ _ _ _ _ _ (by simp [hs]) (by simp) (by simp; omega) ho (lastOp_snoc _ _).symm hp (by simp at hol ⊢; omega) (by simp; omega)
        · have h33 : ¬ p0.op = 3 := fun e => hsame (by omega)
          have hsk : skipB p0.op x.op = false := by simp [skipB, hsame, h2]
          rcases hp with rfl | ⟨m, v, rfl, hpm⟩
          · simp [L10x0, -getElem?_pos, -List.getElem?_map, hlt, hl10, hg, hp3, hp4, hq, hc, hco, hcm, hct, eq_true h3, eq_false h12, hfull, htk, hdr, hle, hg2, many, hsk, hlen, hc2, hgp, eq_false hsame, eq_false h33, hsz]
            rw [hK, List.append_cons _ _ (List.map eE (scriptG k rest x.op))]
            exact script_loop raw lines hr k rest (pre ++ [c]) (l ++ [p0] ++ [x]) _ _ _ _ _ _ _ (by simp [hs]) (by simp) (by simp; omega) ho' hsn.symm (AppOk.tok (by simp)) (by simp at hol ⊢; omega) (by simp; omega)
          · simp [L10x0, -getElem?_pos, -List.getElem?_map, hlt, hl10, hg, hp3, hp4, hq, hc, hco, hcm, hct, eq_true h3, eq_false h12, hfull, htk, hdr, hle, hg2, many, hsk, hlen, hc2, hgp, eq_false hsame, eq_false h33, hsz, hpm]
            rw [hK, List.append_cons _ _ (List.map eE (scriptG k rest x.op))]
            exact script_loop raw lines hr k rest (pre ++ [c]) (l ++ [p0] ++ [x]) _ _ _ _ _ _ _ (by simp [hs]) (by simp) (by simp; omega) ho' hsn.symm (AppOk.tok (by simp)) (by simp at hol ⊢; omega) (by simp; omega)
    · have hl3 : x.ls = [] := by rw [hxl, if_neg h3]
      have h12 : x.op = 1 ∨ x.op = 2 := by omega
      rw [hl3] at ho'
      simp only [List.map_nil] at ho'
      have hEx : eE x = .agg [.int .i64 x.op, .int .i64 x.n, .sl 1 [] .no] := by simp [eE, hl3]
      rcases nil_or_last oe with rfl | ⟨l, p0, rfl⟩
      · have hla0 : last = 0 := hla
        subst hla0
        have ho0 : out = [] := ho
        subst ho0
        have hsk : skipB 0 x.op = false := by simp [skipB]; omega
        rcases hp with rfl | ⟨m, v, rfl, hpm⟩
        · simp [L10x0, -getElem?_pos, -List.getElem?_map, hlt, hl10, hg, hp3, hp4, hq, hc, hco, hcm, hct, eq_false h3, eq_true h12, hEx, htk, hdr, hle, hg2, many, hsk, ← Int.add_assoc]
          rw [hK]
          exact script_loop raw lines hr k rest (pre ++ [c]) ([] ++ [x]) _ _ _ _ _ _ _ (by simp [hs]) (by simp) (by simp; omega) ho' hsn.symm (AppOk.tok (by simp)) (by simp) (by simp; omega)
        · simp [L10x0, -getElem?_pos, -List.getElem?_map, hlt, hl10, hg, hp3, hp4, hq, hc, hco, hcm, hct, eq_false h3, eq_true h12, hEx, htk, hdr, hle, hg2, many, hsk, hpm, ← Int.add_assoc]
          rw [hK]
          exact script_loop raw lines hr k rest (pre ++ [c]) ([] ++ [x]) _ _ _ _ _ _ _ (by simp [hs]) (by simp) (by simp; omega) ho' hsn.symm (AppOk.tok (by simp)) (by simp) (by simp; omega)
      · have hla0 : last = p0.op := by rw [hla, lastOp_snoc]
        subst hla0
        have hlen : (out.length : Int) = l.length + 1 := by rw [ho]; simp
        have hll : (l.length : Int) + 1 ≤ pre.length := by simp at hol; omega
        have hc2 := chk_i64 (l.length : Int) (by omega)
        have hgp : out[l.length]? = some (.agg [.int .i64 p0.op, .int .i64 p0.n, .sl 1 (p0.ls.map AV.str) .no]) := by rw [ho]; simp [eE]
        by_cases hsame : p0.op = x.op
        · have hsk : skipB p0.op x.op = true := by simp [skipB, hsame]
          simp [L10x0, -getElem?_pos, -List.getElem?_map, hlt, hl10, hg, hp3, hp4, hq, hc, hco, hcm, hct, eq_false h3, eq_true h12, hEx, htk, hdr, hle, hg2, many, hsk, hlen, hc2, hgp, eq_true hsame]
          rw [hK]
          exact script_loop raw lines hr k rest (pre ++ [c]) (l ++ [p0]) _ _ _ _ _ _ _ (by simp [hs]) (by simp) (by simp; omega) ho (lastOp_snoc _ _).symm hp (by simp at hol ⊢; omega) (by simp; omega)
        · by_cases hput : p0.op = 3 ∧ x.op = 2
          · have hsk : skipB p0.op x.op = true := by simp [skipB, hput]
            simp [L10x0, -getElem?_pos, -List.getElem?_map, hlt, hl10, hg, hp3, hp4, hq, hc, hco, hcm, hct, eq_false h3, eq_true h12, hEx, htk, hdr, hle, hg2, many, hsk, hlen, hc2, hgp, eq_false hsame, eq_true hput.1, eq_true hput.2]
            rw [hK]
            exact script_loop raw lines hr k rest (pre ++ [c]) (l ++ [p0]) _ _ _ _ _ _ _ (by simp [hs]) (by simp) (by simp; omega) ho (lastOp_snoc _ _).symm hp (by simp at hol ⊢; omega) (by simp; omega)
          · have hsk : skipB p0.op x.op = false := by simp only [skipB, hsame, decide_false, Bool.false_or, decide_eq_false_iff_not]; exact hput
            by_cases h33 : p0.op = 3
            · have h2 : ¬ x.op = 2 := fun e => hput ⟨h33, e⟩
              have h1 : x.op = 1 := by omega
              rcases hp with rfl | ⟨m, v, rfl, hpm⟩
              · simp [L10x0, -getElem?_pos, -List.getElem?_map, hlt, hl10, hg, hp3, hp4, hq, hc, hco, hcm, hct, eq_false h3, eq_true h12, hEx, htk, hdr, hle, hg2, many, hsk, hlen, hc2, hgp, eq_false hsame, eq_true h33, eq_false h2, eq_true h1, hsz, ← Int.add_assoc]
                rw [hK, List.append_cons _ _ (List.map eE (scriptG k rest x.op))]
                exact script_loop raw lines hr k rest (pre ++ [c]) (l ++ [p0] ++ [x]) _ _ _ _ _ _ _ (by simp [hs]) (by simp) (by simp; omega) ho' hsn.symm (AppOk.tok (by simp)) (by simp at hol ⊢; omega) (by simp; omega)
              · simp [L10x0, -getElem?_pos, -List.getElem?_map, hlt, hl10, hg, hp3, hp4, hq, hc, hco, hcm, hct, eq_false h3, eq_true h12, hEx, htk, hdr, hle, hg2, many, hsk, hlen, hc2, hgp, eq_false hsame, eq_true h33, eq_false h2, eq_true h1, hsz, hpm, ← Int.add_assoc]
                rw [hK, List.append_cons _ _ (List.map eE (scriptG k rest x.op))]
                exact script_loop raw lines hr k rest (pre ++ [c]) (l ++ [p0] ++ [x]) _ _ _ _ _ _ _ (by simp [hs]) (by simp) (by simp; omega) ho' hsn.symm (AppOk.tok (by simp)) (by simp at hol ⊢; omega) (by simp; omega)
            · rcases hp with rfl | ⟨m, v, rfl, hpm⟩
              · simp [L10x0, -getElem?_pos, -List.getElem?_map, hlt, hl10, hg, hp3, hp4, hq, hc, hco, hcm, hct, eq_false h3, eq_true h12, hEx, htk, hdr, hle, hg2, many, hsk, hlen, hc2, hgp, eq_false hsame, eq_false h33, hsz, ← Int.add_assoc]
                rw [hK, List.append_cons _ _ (List.map eE (scriptG k rest x.op))]
                exact script_loop raw lines hr k rest (pre ++ [c]) (l ++ [p0] ++ [x]) _ _ _ _ _ _ _ (by simp [hs]) (by simp) (by simp; omega) ho' hsn.symm (AppOk.tok (by simp)) (by simp at hol ⊢; omega) (by simp; omega)
              · simp [L10x0, -getElem?_pos, -List.getElem?_map, hlt, hl10, hg, hp3, hp4, hq, hc, hco, hcm, hct, eq_false h3, eq_true h12, hEx, htk, hdr, hle, hg2, many, hsk, hlen, hc2, hgp, eq_false hsame, eq_false h33, hsz, hpm, ← Int.add_assoc]
                rw [hK, List.append_cons _ _ (List.map eE (scriptG k rest x.op))]
                exact script_loop raw lines hr k rest (pre ++ [c]) (l ++ [p0] ++ [x]) _ _ _ _ _ _ _ (by simp [hs]) (by simp) (by simp; omega) ho' hsn.symm (AppOk.tok (by simp)) (by simp at hol ⊢; omega) (by simp; omega)
/-- The script of raw numbers, and the lines that it takes. -/
theorem script_den (raw lines : List Int) (hr : ∀ c ∈ raw, inR c) (hl : ∀ c ∈ lines, inR c) : Den Sy 10 [iS raw, iS lines] = some (.tup [sE (scriptF raw), sS (fullF lines (many 1 2 (scriptF raw)).toNat)]) := by
  rw [Den_fun Sy (af := A10) rfl rfl _ rfl]
  obtain ⟨ex, st', h, rfl, hd, h1, h7, q, h6⟩ := script_loop raw lines hr 10 raw [] [] [] .nil 0 0 0 (ofL []) none' rfl rfl rfl rfl rfl (AppOk.nil _) (by simp) (by simp)
  obtain ⟨hm1, hm2, hlen⟩ := script_many raw 1 2
  have e : scriptG 10 raw 0 = scriptF raw := rfl
  rw [e] at h6 h7
  have hf := full_den lines hl (many 1 2 (scriptF raw)).toNat (by omega)
  have hn : (((many 1 2 (scriptF raw)).toNat : Nat) : Int) = many 1 2 (scriptF raw) := by omega
  rw [hn] at hf
  simp only [List.nil_append, Int.zero_add] at h6 h7
  simp [A10, h, hd, h1, h6, h7, hf]
theorem index_den (t : List UInt8) (c : UInt8) : Den Sy 86 [.str t, .str [c]] = some (.int .i64 (Lib.indexByte t c)) := by rw [Den_ext Sy (F := indexF) rfl]; rfl
theorem itoa_den (v : Int) (h : inR v) : Den Sy 51 [.int .i64 v] = some (.str (Lib.itoa v)) := by
  rw [Den_ext Sy (F := itoaF) rfl]
  unfold inR at h
  simp only [itoaF]
  rw [if_pos h]
theorem atoi_den (t : List UInt8) (h : t.length ≤ 281474976710656) : Den Sy 83 [.str t] = match Lib.atoiAll t with
      | .ok v => some (.tup [.int .i64 v, .nilI])
      | .range => some (.tup [.int .i64 (Lib.atoiSat t), .ifc])
      | _ => some (.tup [.int .i64 0, .ifc]) := by
  rw [Den_ext Sy (F := atoiF) rfl]
  simp only [atoiF]
  rw [if_pos h]
  cases Lib.atoiAll t <;> rfl
theorem wr_den (bs : List UInt8) : Den Sy 50 [.str bs] = some (.wr 65 bs) := by rw [Den_ext Sy (F := wrF) rfl]; rfl
theorem str_den : Den Sy 30 [] = some (.wr 65 []) := by rw [Den_ext Sy (F := strF) rfl]; rfl
set_option maxHeartbeats 1000000 in
theorem enc_lines (a13 a14 : AV) (a12 : AV) (v t : Nat) (ls : List (List UInt8)) (hls : ls.length ≤ 1048576) : ∀ (rest pre : List (List UInt8)) (j : Int) (r : Nat) (l : List UInt8) (bx : Bx) (pm : Pm), ls = pre ++ rest → j = pre.length → Bd bx v t r l → l.length + (encLs rest).length ≤ 1099511627776 →
    Res (RunD Sy (.loop L27x0) ⟨ofL [(4, .ptr 4 v 0), (12, a12), (13, a13), (14, a14), (31, sS ls), (32, .int .i64 ls.length), (33, .int .i64 j)], bx, pm, none⟩) fun ex st' => EncLR v t a12 a13 a14 ls l pm ex st' rest
  | [], pre, j, r, l, bx, pm, hs, hj, hB, hl => by
    subst hj
    rw [List.append_nil] at hs
    subst hs
    rw [RunD_loop]
    simp [L27x0]
    exact ⟨rfl, bx, r, rfl, by simpa [encLs] using hB⟩
  | x :: rest, pre, j, r, l, bx, pm, hs, hj, hB, hl => by
    have hlt : (pre.length : Int) < ls.length := by rw [hs]; simp; omega
    have hg : (ls.map AV.str)[pre.length]? = some (.str x) := by rw [hs]; simp
    subst hj
    have hc := chk_i64 ((pre.length : Int) + 1) (by omega)
    have hel : (encLs (x :: rest)).length = (Lib.itoa x.length).length + 1 + x.length + (encLs rest).length := by simp [encLs, encLine]; omega
    rw [hel] at hl
    have hxr : inR (x.length : Int) := ⟨by omega, by omega⟩
    have hit := itoa_den x.length hxr
    have h1 : (Lib.itoa x.length).length + 1 ≤ 9223372036854775807 := by omega
    have h2 : (Lib.itoa x.length).length + 1 + x.length ≤ 9223372036854775807 := by omega
    have h2' : (Lib.itoa x.length).length + (x.length + 1) ≤ 9223372036854775807 := by omega
    have h3 : l.length + ((Lib.itoa x.length).length + (x.length + 1)) ≤ 140737488355328 := by omega
    obtain ⟨b4, bt, h200⟩ := hB
    have h4t : ¬ 4 = t := by omega
    have ht4 : ¬ t = 4 := by omega
    have hll : (encLine x).length = (Lib.itoa x.length).length + 1 + x.length := by simp [encLine]; omega
    refine loop_step fun K hK => ?_
    simp [L27x0, -deadC, byteC_dead, byteC_dead2, byteC_len, deadC_cells, asBytes_byteC, -getElem?_pos, -List.getElem?_map, hc, hlt, hg, hit, wr_den, b4, bt, h200, eq_false h4t, eq_false ht4, h1, h2, h2', h3]
    rw [hK]
    refine Res.eqv (fun ex st h => EncLR.step h) (enc_lines a13 a14 a12 v t ls hls rest (pre ++ [x]) _ (r + 1) (l ++ encLine x) _ _ ?_ ?_ ⟨?_, ?_, h200⟩ ?_)
    · simp [hs]
    · simp
    · simp [encLine]
    · simp [encLine, byteC_app, eq_false h4t, eq_false ht4]
    · rw [List.length_append, hll]; omega
set_option maxHeartbeats 2000000 in
theorem enc_loop (v : Nat) (s : List Edit) (hl : s.length ≤ 1099511627776) (hm : ∀ e ∈ s, mayB e = true) : ∀ (rest pre : List Edit) (j : Int) (l : List UInt8) (bx : Bx) (pm : Pm), s = pre ++ rest → j = pre.length → BS bx v l → l.length + (encL rest).length ≤ 1099511627776 →
    Res (RunD Sy (.loop L27x1) ⟨ofL [(4, .ptr 4 v 0), (12, sE s), (13, .int .i64 s.length), (14, .int .i64 j)], bx, pm, none⟩) fun ex st' => EncR v l ex st' rest
  | [], pre, j, l, bx, pm, hs, hj, hB, hll => by
    subst hj
    rw [List.append_nil] at hs
    subst hs
    rw [RunD_loop]
    simp [L27x1]
    exact ⟨rfl, rfl, by simp, by simpa [encL] using hB⟩
  | e :: rest, pre, j, l, bx, pm, hs, hj, hB, hll => by
    have hlt : (pre.length : Int) < s.length := by rw [hs]; simp; omega
    have hg : (s.map eE)[pre.length]? = some (eE e) := by rw [hs]; simp
    subst hj
    have hme := hm e (by rw [hs]; simp)
    obtain ⟨op, n, ls⟩ := e
    obtain ⟨hop, hn1, hn2, hn3, hn4⟩ := mayB_op hme
    simp only at hop hn1 hn2 hn3 hn4
    have hlsl : ls.length ≤ 1048576 := by
      by_cases h3 : op = 3
      · have := hn3 h3; omega
      · rw [hn4 h3]; simp
    simp only [eE] at hg
    have hc := chk_i64 ((pre.length : Int) + 1) (by omega)
    have hel : (encL (⟨op, n, ls⟩ :: rest)).length = (encHead ⟨op, n, ls⟩).length + (encLs ls).length + (encL rest).length := by simp only [encL, encE, List.flatMap_cons, List.length_append]
    rw [hel] at hll
    have hsl : (sgn op).length = 1 := by unfold sgn; split <;> (try split) <;> rfl
    have hhl : (encHead ⟨op, n, ls⟩).length = 1 + (Lib.itoa n).length + 1 := by simp [encHead, hsl]; omega
    rw [hhl] at hll
    have hit := itoa_den n ⟨by omega, by omega⟩
    have h1 : 1 + (Lib.itoa n).length ≤ 9223372036854775807 := by omega
    have h1' : (Lib.itoa n).length + 1 ≤ 9223372036854775807 := by omega
    have h2 : 1 + (Lib.itoa n).length + 1 ≤ 9223372036854775807 := by omega
    have h2' : (Lib.itoa n).length + 1 + 1 ≤ 9223372036854775807 := by omega
    have h3 : (Lib.itoa n).length + 1 + 1 ≤ 140737488355328 := by omega
    have h4 : l.length + ((Lib.itoa n).length + 1 + 1) ≤ 140737488355328 := by omega
    have k2 : chk .i64 2 = some (.int .i64 2) := rfl
    have k3 : chk .i64 3 = some (.int .i64 3) := rfl
    have k4 : chk .i64 4 = some (.int .i64 4) := rfl
    refine loop_step fun K hK => ?_
    rcases hB with ⟨rfl, b4⟩ | ⟨t, r, b4, bt, h200⟩
    · rcases hop with rfl | rfl | rfl
      · simp [L27x1, -deadC, byteC_dead, byteC_dead2, byteC_len, deadC_cells, asBytes_byteC, -getElem?_pos, -List.getElem?_map, hc, hlt, hg, hit, wr_den, b4, h1, h1', h2, h2', h3, k2, k3, k4]
        obtain ⟨ex, st', hL, rfl, bx', r', rfl, hB'⟩ := enc_lines (.int .i64 s.length) (.int .i64 pre.length) (sE s) v 200029 ls hlsl ls [] 0 (nextB (bxE bx 1 n ls) 200029) (61 :: (Lib.itoa n ++ [59])) (upd (upd (bxE bx 1 n ls) 200029 (nextB (bxE bx 1 n ls) 200029, byteC (61 :: (Lib.itoa n ++ [59])))) 4 (v, [.ptr 4 v 0, .own 1 false 200029 (nextB (bxE bx 1 n ls) 200029) ((Lib.itoa n).length + 1 + 1)])) pm rfl rfl ⟨by simp, by simp, by omega⟩ (by simp; simp at hll; omega)
        simp [hL, hc]
        rw [hK]
        refine Res.eqv (fun ex st h => EncR.step h) (enc_loop v s hl hm rest (pre ++ [⟨1, n, ls⟩]) _ _ _ _ ?_ ?_ (.inr ⟨200029, r', ?_⟩) ?_)
        · simp [hs]
        · simp
        · have e : [] ++ encE ⟨1, n, ls⟩ = 61 :: (Lib.itoa n ++ [59]) ++ encLs ls := by simp [encE, encHead, sgn]
          rw [e]
          exact hB'
        · simp only [encE, List.length_append, hhl]; omega
      · simp [L27x1, -deadC, byteC_dead, byteC_dead2, byteC_len, deadC_cells, asBytes_byteC, -getElem?_pos, -List.getElem?_map, hc, hlt, hg, hit, wr_den, b4, h1, h1', h2, h2', h3, k2, k3, k4]
        obtain ⟨ex, st', hL, rfl, bx', r', rfl, hB'⟩ := enc_lines (.int .i64 s.length) (.int .i64 pre.length) (sE s) v 200029 ls hlsl ls [] 0 (nextB (bxE bx 2 n ls) 200029) (45 :: (Lib.itoa n ++ [59])) (upd (upd (bxE bx 2 n ls) 200029 (nextB (bxE bx 2 n ls) 200029, byteC (45 :: (Lib.itoa n ++ [59])))) 4 (v, [.ptr 4 v 0, .own 1 false 200029 (nextB (bxE bx 2 n ls) 200029) ((Lib.itoa n).length + 1 + 1)])) pm rfl rfl ⟨by simp, by simp, by omega⟩ (by simp; simp at hll; omega)
        simp [hL, hc]
        rw [hK]
        refine Res.eqv (fun ex st h => EncR.step h) (enc_loop v s hl hm rest (pre ++ [⟨2, n, ls⟩]) _ _ _ _ ?_ ?_ (.inr ⟨200029, r', ?_⟩) ?_)
        · simp [hs]
        · simp
        · have e : [] ++ encE ⟨2, n, ls⟩ = 45 :: (Lib.itoa n ++ [59]) ++ encLs ls := by simp [encE, encHead, sgn]
          rw [e]
          exact hB'
        · simp only [encE, List.length_append, hhl]; omega
      · simp [L27x1, -deadC, byteC_dead, byteC_dead2, byteC_len, deadC_cells, asBytes_byteC, -getElem?_pos, -List.getElem?_map, hc, hlt, hg, hit, wr_den, b4, h1, h1', h2, h2', h3, k2, k3, k4]
        obtain ⟨ex, st', hL, rfl, bx', r', rfl, hB'⟩ := enc_lines (.int .i64 s.length) (.int .i64 pre.length) (sE s) v 200029 ls hlsl ls [] 0 (nextB (bxE bx 3 n ls) 200029) (43 :: (Lib.itoa n ++ [59])) (upd (upd (bxE bx 3 n ls) 200029 (nextB (bxE bx 3 n ls) 200029, byteC (43 :: (Lib.itoa n ++ [59])))) 4 (v, [.ptr 4 v 0, .own 1 false 200029 (nextB (bxE bx 3 n ls) 200029) ((Lib.itoa n).length + 1 + 1)])) pm rfl rfl ⟨by simp, by simp, by omega⟩ (by simp; simp at hll; omega)
        simp [hL, hc]
        rw [hK]
        refine Res.eqv (fun ex st h => EncR.step h) (enc_loop v s hl hm rest (pre ++ [⟨3, n, ls⟩]) _ _ _ _ ?_ ?_ (.inr ⟨200029, r', ?_⟩) ?_)
        · simp [hs]
        · simp
        · have e : [] ++ encE ⟨3, n, ls⟩ = 43 :: (Lib.itoa n ++ [59]) ++ encLs ls := by simp [encE, encHead, sgn]
          rw [e]
          exact hB'
        · simp only [encE, List.length_append, hhl]; omega
    · have h4t : ¬ 4 = t := by omega
      have ht4 : ¬ t = 4 := by omega
      have h6t : ¬ 6 = t := by omega
      have ht6 : ¬ t = 6 := by omega
      rcases hop with rfl | rfl | rfl
      · simp [L27x1, -deadC, byteC_dead, byteC_dead2, byteC_len, deadC_cells, asBytes_byteC, -getElem?_pos, -List.getElem?_map, hc, hlt, hg, hit, wr_den, b4, bt, h200, eq_false h4t, eq_false ht4, eq_false h6t, eq_false ht6, h1, h1', h2, h2', h3, h4, k2, k3, k4]
        obtain ⟨ex, st', hL, rfl, bx', r', rfl, hB'⟩ := enc_lines (.int .i64 s.length) (.int .i64 pre.length) (sE s) v t ls hlsl ls [] 0 (r + 1) (l ++ (61 :: (Lib.itoa n ++ [59]))) (upd (upd (bxE bx 1 n ls) t (r + 1, byteC l ++ byteC (61 :: (Lib.itoa n ++ [59])))) 4 (v, [.ptr 4 v 0, .own 1 false t (r + 1) (l.length + ((Lib.itoa n).length + 1 + 1))])) pm rfl rfl ⟨by simp, by simp [byteC_app, eq_false h4t, eq_false ht4], h200⟩ (by simp; omega)
        simp [hL, hc]
        rw [hK]
        refine Res.eqv (fun ex st h => EncR.step h) (enc_loop v s hl hm rest (pre ++ [⟨1, n, ls⟩]) _ _ _ _ ?_ ?_ (.inr ⟨t, r', ?_⟩) ?_)
        · simp [hs]
        · simp
        · have e : l ++ encE ⟨1, n, ls⟩ = l ++ (61 :: (Lib.itoa n ++ [59])) ++ encLs ls := by simp [encE, encHead, sgn]
          rw [e]
          exact hB'
        · simp only [encE, List.length_append, hhl]; omega
      · simp [L27x1, -deadC, byteC_dead, byteC_dead2, byteC_len, deadC_cells, asBytes_byteC, -getElem?_pos, -List.getElem?_map, hc, hlt, hg, hit, wr_den, b4, bt, h200, eq_false h4t, eq_false ht4, eq_false h6t, eq_false ht6, h1, h1', h2, h2', h3, h4, k2, k3, k4]
        obtain ⟨ex, st', hL, rfl, bx', r', rfl, hB'⟩ := enc_lines (.int .i64 s.length) (.int .i64 pre.length) (sE s) v t ls hlsl ls [] 0 (r + 1) (l ++ (45 :: (Lib.itoa n ++ [59]))) (upd (upd (bxE bx 2 n ls) t (r + 1, byteC l ++ byteC (45 :: (Lib.itoa n ++ [59])))) 4 (v, [.ptr 4 v 0, .own 1 false t (r + 1) (l.length + ((Lib.itoa n).length + 1 + 1))])) pm rfl rfl ⟨by simp, by simp [byteC_app, eq_false h4t, eq_false ht4], h200⟩ (by simp; omega)
        simp [hL, hc]
        rw [hK]
        refine Res.eqv (fun ex st h => EncR.step h) (enc_loop v s hl hm rest (pre ++ [⟨2, n, ls⟩]) _ _ _ _ ?_ ?_ (.inr ⟨t, r', ?_⟩) ?_)
        · simp [hs]
        · simp
        · have e : l ++ encE ⟨2, n, ls⟩ = l ++ (45 :: (Lib.itoa n ++ [59])) ++ encLs ls := by simp [encE, encHead, sgn]
          rw [e]
          exact hB'
        · simp only [encE, List.length_append, hhl]; omega
      · simp [L27x1, -deadC, byteC_dead, byteC_dead2, byteC_len, deadC_cells, asBytes_byteC, -getElem?_pos, -List.getElem?_map, hc, hlt, hg, hit, wr_den, b4, bt, h200, eq_false h4t, eq_false ht4, eq_false h6t, eq_false ht6, h1, h1', h2, h2', h3, h4, k2, k3, k4]
        obtain ⟨ex, st', hL, rfl, bx', r', rfl, hB'⟩ := enc_lines (.int .i64 s.length) (.int .i64 pre.length) (sE s) v t ls hlsl ls [] 0 (r + 1) (l ++ (43 :: (Lib.itoa n ++ [59]))) (upd (upd (bxE bx 3 n ls) t (r + 1, byteC l ++ byteC (43 :: (Lib.itoa n ++ [59])))) 4 (v, [.ptr 4 v 0, .own 1 false t (r + 1) (l.length + ((Lib.itoa n).length + 1 + 1))])) pm rfl rfl ⟨by simp, by simp [byteC_app, eq_false h4t, eq_false ht4], h200⟩ (by simp; omega)
        simp [hL, hc]
        rw [hK]
        refine Res.eqv (fun ex st h => EncR.step h) (enc_loop v s hl hm rest (pre ++ [⟨3, n, ls⟩]) _ _ _ _ ?_ ?_ (.inr ⟨t, r', ?_⟩) ?_)
        · simp [hs]
        · simp
        · have e : l ++ encE ⟨3, n, ls⟩ = l ++ (43 :: (Lib.itoa n ++ [59])) ++ encLs ls := by simp [encE, encHead, sgn]
          rw [e]
          exact hB'
        · simp only [encE, List.length_append, hhl]; omega
theorem encode_den (s : List Edit) (hl : s.length ≤ 1099511627776) (hb : (encL s).length ≤ 1099511627776) : Den Sy 27 [sE s] = some (if rightB s = true then .tup [.str (encL s), .int .i64 0] else .tup [.str [], .int .i64 1]) := by
  rw [Den_fun Sy (af := A27) rfl rfl _ rfl]
  have hrd := right_den s (by omega)
  by_cases hr : rightB s = true
  · obtain ⟨ex, st', hL, rfl, hdf, h4, hB⟩ := enc_loop (nextB (ofL []) 4) s hl (rightF_may hr) s [] 0 [] (upd (ofL []) 4 (nextB (ofL []) 4, [.bfresh 65 4 (nextB (ofL []) 4), .sl 1 [] .nil])) none' rfl rfl (.inl ⟨rfl, by simp⟩) (by simpa using hb)
    rw [List.nil_append] at hB
    rcases hB with ⟨h0, b4⟩ | ⟨t, r, b4, bt, h200⟩
    · simp [A27, hrd, hr, hL, hdf, h4, b4, str_den, h0]
    · have h4t : ¬ 4 = t := by omega
      have hb' : (encL s).length ≤ 140737488355328 := by omega
      simp [A27, -deadC, deadC_cells, byteC_dead, byteC_len, asBytes_byteC, hrd, hr, hL, hdf, h4, b4, bt, h200, eq_false h4t, str_den, hb']
  · simp [A27, hrd, hr]
theorem digits_den : ∀ u : Nat, u ≤ 9223372036854775807 → Den Sy 55 [.int .i64 u] = some (.str (Lib.decDigits u)) := by
  intro u
  induction u using Nat.strongRecOn with
  | _ u ih =>
    intro hu
    rw [Den_fun Sy (af := A55) rfl rfl _ rfl]
    by_cases h : u < 10
    · have h' : (u : Int) < 10 := by omega
      have hc := chk_i64 ((u : Int) + 1) (by omega)
      have hs := dig_slice u h
      have h9 : (u : Int) + 1 ≤ 10 := by omega
      have hle : (u : Int) ≤ u + 1 := by omega
      rw [Lib.decDigits, dif_pos h]
      simp [A55, h', hc, h9, hle]
      simpa using hs
    · have h' : ¬ (u : Int) < 10 := by omega
      have i1 := ih (u / 10) (by omega) (by omega)
      have i2 := ih (u % 10) (by omega) (by omega)
      have q1 : (u : Int).tdiv 10 = ((u / 10 : Nat) : Int) := by rw [Int.tdiv_eq_ediv_of_nonneg (by omega)]; rfl
      have q2 : (u : Int).tmod 10 = ((u % 10 : Nat) : Int) := by rw [Int.tmod_eq_emod_of_nonneg (by omega)]; rfl
      have hc := chk_i64 ((u / 10 : Nat) : Int) (by omega)
      have l1 := decDigits_len (u / 10) (by omega)
      have l2 := decDigits_len (u % 10) (by omega)
      have hl : (Lib.decDigits (u / 10)).length + (Lib.decDigits (u % 10)).length ≤ 9223372036854775807 := by omega
      have e : Lib.decDigits u = Lib.decDigits (u / 10) ++ Lib.decDigits (u % 10) := by
        rw [Lib.decDigits, dif_neg h]
        congr 1
        rw [Lib.decDigits, dif_pos (by omega)]
      rw [e]
      simp only [Int.natCast_ediv, Int.natCast_emod, show ((10 : Nat) : Int) = 10 from rfl] at q1 q2 hc i1 i2
      simp [A55, h', q1, q2, hc, i1, i2, hl]
theorem dg_den {n : Int} (h0 : 0 ≤ n) (h1 : n ≤ 9223372036854775807) : Den Sy 55 [.int .i64 n] = some (.str (Lib.itoa n)) := by
  have := digits_den n.toNat (by omega)
  rw [itoa_nn h0, ← this]
  congr 3
  omega
set_option maxHeartbeats 1000000 in
theorem enc2_lines (s : List Edit) (i : Nat) (op n : Int) (ls : List (List UInt8)) (hg0 : (s.map eE)[i]? = some (.agg [.int .i64 op, .int .i64 n, .sl 1 (ls.map .str) .no])) (hi : i < s.length) (hls : ls.length ≤ 1048576) (bx : Bx) (pm : Pm) (F : List UInt8) : ∀ (rest pre : List (List UInt8)) (j : Int) (l : List UInt8), ls = pre ++ rest → j = pre.length → F = l ++ encLs rest → F.length ≤ 1099511627776 →
    Res (RunD Sy (.loop L32x0) ⟨ofL [(0, sE s), (5, .str l), (6, .int .i64 i), (7, .int .i64 j)], bx, pm, none⟩) fun ex st' => En0 s i ls.length bx pm F ex st'
  | [], pre, j, l, hs, hj, hF, hl => by
    subst hj
    rw [List.append_nil] at hs
    subst hs
    have hi' : (i : Int) < s.length := by omega
    rw [RunD_loop]
    simp [L32x0, -getElem?_pos, -List.getElem?_map, hg0, hi']
    exact ⟨rfl, by rw [hF]; simp [encLs]⟩
  | x :: rest, pre, j, l, hs, hj, hF, hl => by
    have hlt : (pre.length : Int) < ls.length := by rw [hs]; simp; omega
    have hg : (ls.map AV.str)[pre.length]? = some (.str x) := by rw [hs]; simp
    subst hj
    have hi' : (i : Int) < s.length := by omega
    have hc := chk_i64 ((pre.length : Int) + 1) (by omega)
    have hFl : F.length = l.length + ((Lib.itoa x.length).length + 1 + x.length + (encLs rest).length) := by rw [hF, encLs_cons]; simp [encLine]; omega
    have hd := dg_den (n := x.length) (by omega) (by omega)
    generalize hD : Lib.itoa x.length = D at hd hFl
    have l1 : l.length + D.length ≤ 9223372036854775807 := by omega
    have l2 : l.length + D.length + 1 ≤ 9223372036854775807 := by omega
    have l3 : l.length + (D.length + 1) ≤ 9223372036854775807 := by omega
    have l4 : l.length + D.length + 1 + x.length ≤ 9223372036854775807 := by omega
    have l5 : l.length + (D.length + 1 + x.length) ≤ 9223372036854775807 := by omega
    have l6 : l.length + (D.length + (x.length + 1)) ≤ 9223372036854775807 := by omega
    have l7 : l.length + (D.length + 1) + x.length ≤ 9223372036854775807 := by omega
    refine loop_step fun K hK => ?_
    simp [L32x0, -getElem?_pos, -List.getElem?_map, hg0, hi', hlt, hg, hc, hd, l1, l2, l3, l4, l5, l6, l7]
    rw [hK]
    exact enc2_lines s i op n ls hg0 hi hls bx pm F rest (pre ++ [x]) ((pre.length : Int) + 1) _ (by simp [hs]) (by simp) (by rw [hF, encLs_cons, encLine, hD]; simp) hl
set_option maxHeartbeats 2000000 in
theorem enc2_loop (s : List Edit) (hl : s.length ≤ 1099511627776) (hm : ∀ e ∈ s, mayB e = true) (bx : Bx) (pm : Pm) (F : List UInt8) (hFl : F.length ≤ 1099511627776) : ∀ (rest pre : List Edit) (j : Int) (l : List UInt8), s = pre ++ rest → j = pre.length → F = l ++ encL rest →
    Res (RunD Sy (.loop L32x1) ⟨ofL [(0, sE s), (5, .str l), (6, .int .i64 j)], bx, pm, none⟩) fun ex st' => En1 s bx pm F ex st'
  | [], pre, j, l, hs, hj, hF => by
    subst hj
    rw [List.append_nil] at hs
    subst hs
    rw [RunD_loop]
    simp [L32x1]
    exact ⟨rfl, by rw [hF]; simp [encL]⟩
  | e :: rest, pre, j, l, hs, hj, hF => by
    have hlt : (pre.length : Int) < s.length := by rw [hs]; simp; omega
    have hlt' : pre.length < s.length := by omega
    have hg : (s.map eE)[pre.length]? = some (eE e) := by rw [hs]; simp
    subst hj
    have hme := hm e (by rw [hs]; simp)
    obtain ⟨op, n, ls⟩ := e
    obtain ⟨hop, hn1, hn2, hn3, hn4⟩ := mayB_op hme
    simp only at hop hn1 hn2 hn3 hn4
    have hlsl : ls.length ≤ 1048576 := by
      by_cases h3 : op = 3
      · have := hn3 h3; omega
      · rw [hn4 h3]; simp
    simp only [eE] at hg
    have hc := chk_i64 ((pre.length : Int) + 1) (by omega)
    have hsl : (sgn op).length = 1 := by unfold sgn; split <;> (try split) <;> rfl
    have hF2 : F = l ++ sgn op ++ Lib.itoa n ++ [59] ++ (encLs ls ++ encL rest) := by rw [hF, encL_cons]; simp [encE, encHead]
    have hFn : F.length = l.length + 1 + (Lib.itoa n).length + 1 + ((encLs ls).length + (encL rest).length) := by rw [hF2]; simp [hsl]; omega
    have hd := dg_den (n := n) (by omega) (by omega)
    generalize hD : Lib.itoa n = D at hd hFn hF2
    have l0 : l.length + 1 ≤ 9223372036854775807 := by omega
    have l1 : l.length + 1 + D.length ≤ 9223372036854775807 := by omega
    have l2 : l.length + 1 + D.length + 1 ≤ 9223372036854775807 := by omega
    have l3 : l.length + (D.length + 1) ≤ 9223372036854775807 := by omega
    have l4 : l.length + (1 + D.length) ≤ 9223372036854775807 := by omega
    have l5 : l.length + (D.length + 1 + 1) ≤ 9223372036854775807 := by omega
    have l6 : l.length + (1 + (D.length + 1)) ≤ 9223372036854775807 := by omega
    have l7 : l.length + (D.length + 1) + 1 ≤ 9223372036854775807 := by omega
    have k0 : chk .i64 0 = some (.int .i64 0) := rfl
    have k1 : chk .i64 1 = some (.int .i64 1) := rfl
    have k2 : chk .i64 2 = some (.int .i64 2) := rfl
    have hll : (l ++ sgn op ++ D ++ [59] ++ encLs ls).length ≤ 1099511627776 := by simp [hsl]; omega
    obtain ⟨ex0, st0, hL0, rfl, rfl⟩ := enc2_lines s pre.length op n ls hg hlt' hlsl bx pm (l ++ sgn op ++ D ++ [59] ++ encLs ls) ls [] 0 (l ++ sgn op ++ D ++ [59]) rfl rfl rfl hll
    refine loop_step fun K hK => ?_
    rcases hop with rfl | rfl | rfl
    · simp [sgn] at hL0
      simp [L32x1, -getElem?_pos, -List.getElem?_map, hg, hlt, hc, hd, l0, l1, l2, l3, l4, l5, l6, l7, k0, k1, k2, hL0]
      rw [hK]
      exact enc2_loop s hl hm bx pm F hFl rest (pre ++ [⟨1, n, ls⟩]) ((pre.length : Int) + 1) _ (by simp [hs]) (by simp) (by rw [hF2]; simp [sgn])
    · simp [sgn] at hL0
      simp [L32x1, -getElem?_pos, -List.getElem?_map, hg, hlt, hc, hd, l0, l1, l2, l3, l4, l5, l6, l7, k0, k1, k2, hL0]
      rw [hK]
      exact enc2_loop s hl hm bx pm F hFl rest (pre ++ [⟨2, n, ls⟩]) ((pre.length : Int) + 1) _ (by simp [hs]) (by simp) (by rw [hF2]; simp [sgn])
    · simp [sgn] at hL0
      simp [L32x1, -getElem?_pos, -List.getElem?_map, hg, hlt, hc, hd, l0, l1, l2, l3, l4, l5, l6, l7, k0, k1, k2, hL0]
      rw [hK]
      exact enc2_loop s hl hm bx pm F hFl rest (pre ++ [⟨3, n, ls⟩]) ((pre.length : Int) + 1) _ (by simp [hs]) (by simp) (by rw [hF2]; simp [sgn])
theorem encode2_den (s : List Edit) (hl : s.length ≤ 1099511627776) (hb : (encL s).length ≤ 1099511627776) : Den Sy 32 [sE s] = some (if rightB s = true then .tup [.str (encL s), .int .i64 0] else .tup [.str [], .int .i64 1]) := by
  rw [Den_fun Sy (af := A32) rfl rfl _ rfl]
  have hrd := right2_den s (by omega)
  by_cases hr : rightB s = true
  · obtain ⟨ex, st', hL, rfl, rfl⟩ := enc2_loop s hl (rightF_may hr) (ofL []) none' (encL s) hb s [] 0 [] rfl rfl rfl
    simp [A32, hrd, hr, hL]
  · simp [A32, hrd, hr]
set_option maxHeartbeats 1000000 in
theorem num2_loop (t : List UInt8) (c : UInt8) (bx : Bx) (pm : Pm) : ∀ (rest : List UInt8) (i n : Nat) (ji jn : Int), t = t.take i ++ rest → (t.take i).length = i → ji = i → jn = n → n < 10 ^ i → i ≤ 10 →
    Res (RunD Sy (.loop L59x0) ⟨ofL [(0, .str t), (1, .int .u8 c.toNat), (7, .int .i64 jn), (8, .int .i64 ji)], bx, pm, none⟩) fun ex st' => Nu2R (num2F t c rest i n) ex st'
  | [], i, n, ji, jn, ht, hi, hji, hjn, hn, h10 => by
    subst hji hjn
    have hl : t.length = i := by
      have := congrArg List.length ht
      simp [hi] at this
      rw [List.length_take] at hi
      omega
    have hlt : ¬ (i : Int) < t.length := by omega
    rw [RunD_loop]
    simp [L59x0, hlt, num2F]
    exact ⟨rfl, .inl ⟨rfl, rfl⟩⟩
  | x :: r, i, n, ji, jn, ht, hi, hji, hjn, hn, h10 => by
    subst hji hjn
    have hxi : t[i]? = some x := by
      have := List.getElem?_append_right (l₁ := t.take i) (l₂ := x :: r) (i := i) (by omega)
      rw [← ht, hi] at this
      simpa using this
    have hlt' : i < t.length := (List.getElem?_eq_some_iff.1 hxi).1
    have hlt : (i : Int) < t.length := by omega
    by_cases hi10 : i < 10
    · have hj10 : (i : Int) < 10 := by omega
      have hc := chk_i64 ((i : Int) + 1) (by omega)
      have hdr : t.drop (i + 1) = r := by
        conv => lhs; rw [ht]
        rw [List.drop_append, hi]
        simp [List.drop_of_length_le (show (t.take i).length ≤ i + 1 by omega)]
      have hle : (i : Int) + 1 ≤ t.length := by omega
      refine loop_step fun K hK => ?_
      simp only [num2F, if_pos hi10]
      by_cases hx : x = c
      · subst hx
        rw [if_pos rfl]
        by_cases h0 : 0 < i
        · by_cases h1 : (i : Int) = 1
          · have hF : fineD (t.take i) = true := by simp [fineD, hi, h0]; left; omega
            rw [hF]
            simp [L59x0, -getElem?_pos, hlt, hj10, hxi, hc, hdr, hle, eq_true h0, eq_true h1]
            exact ⟨rfl, .inr ⟨rfl, by simp, by simp, by simp⟩⟩
          · obtain ⟨y, hy⟩ : ∃ y, t[0]? = some y := ⟨t[0], by simp⟩
            have hh : (t.take i).head? = some y := by rw [List.head?_eq_getElem?, List.getElem?_take, if_pos h0, hy]
            have hi1 : ¬ i = 1 := by omega
            by_cases hy8 : y = 48
            · have hF : fineD (t.take i) = false := by simp [fineD, hi, hh, hi1, hy8]
              have hyn : (y.toNat : Int) = 48 := by rw [hy8]; rfl
              rw [hF]
              simp [L59x0, -getElem?_pos, hlt, hj10, hxi, hc, hdr, hle, eq_true h0, eq_false h1, hy, hyn]
              exact ⟨rfl, .inr ⟨rfl, by simp, by simp, by simp⟩⟩
            · have hF : fineD (t.take i) = true := by simp [fineD, hi, hh, h0, hy8]
              have hyn : ¬ (y.toNat : Int) = 48 := fun e => hy8 (UInt8.toNat_inj.1 (by
                have h48 : (48 : UInt8).toNat = 48 := rfl
                omega))
              rw [hF]
              simp [L59x0, -getElem?_pos, hlt, hj10, hxi, hc, hdr, hle, eq_true h0, eq_false h1, hy, eq_false hyn]
              exact ⟨rfl, .inr ⟨rfl, by simp, by simp, by simp⟩⟩
        · have hF : fineD (t.take i) = false := by simp [fineD, hi, h0]
          rw [hF]
          simp [L59x0, -getElem?_pos, hlt, hj10, hxi, hc, hdr, hle, eq_false h0]
          exact ⟨rfl, .inr ⟨rfl, by simp, by simp, by simp⟩⟩
      · rw [if_neg hx]
        have hx' : ¬ (x.toNat : Int) = c.toNat := fun e => hx (UInt8.toNat_inj.1 (Int.ofNat_inj.1 e))
        by_cases hd : isD x
        · rw [if_pos hd]
          obtain ⟨d1, d2⟩ := hd
          have hti : t.take (i + 1) = t.take i ++ [x] := by
            conv => lhs; rw [ht]
            rw [List.take_append, hi]
            simp [List.take_of_length_le (show (t.take i).length ≤ i + 1 by omega)]
          have hp : 10 ^ i ≤ 1000000000 := Nat.pow_le_pow_right (n := 10) (by decide) (show i ≤ 9 by omega)
          have e1 : ¬ (x.toNat : Int) < 48 := by omega
          have e2 : ¬ (57 : Int) < x.toNat := by omega
          have k1 := chk_i64 (10 * (n : Int)) (by omega)
          have k2 : chk .u8 ((x.toNat : Int) - 48) = some (.int .u8 ((x.toNat : Int) - 48)) := by
            unfold chk
            rw [if_pos (by rw [IntKind.wrap_u8]; omega)]
          have k3 := chk_i64 ((x.toNat : Int) - 48) (by omega)
          have k4 := chk_i64 (10 * (n : Int) + ((x.toNat : Int) - 48)) (by omega)
          simp [L59x0, -getElem?_pos, hlt, hj10, hxi, hc, eq_false hx', eq_false e1, eq_false e2, k1, k2, k3, k4, Rx.conv]
          rw [hK]
          refine num2_loop t c bx pm r (i + 1) (10 * n + (x.toNat - 48)) _ _ ?_ ?_ ?_ ?_ ?_ ?_
          · rw [hti, List.append_assoc]; exact ht
          · rw [hti]; simp [hi]
          · omega
          · omega
          · rw [Nat.pow_succ]; omega
          · omega
        · rw [if_neg hd]
          by_cases e1 : (x.toNat : Int) < 48
          · simp [L59x0, -getElem?_pos, hlt, hj10, hxi, hc, eq_false hx', eq_true e1]
            exact ⟨rfl, .inr ⟨rfl, by simp, by simp, by simp⟩⟩
          · have e2 : (57 : Int) < x.toNat := by unfold isD at hd; omega
            simp [L59x0, -getElem?_pos, hlt, hj10, hxi, hc, eq_false hx', eq_false e1, eq_true e2]
            exact ⟨rfl, .inr ⟨rfl, by simp, by simp, by simp⟩⟩
    · have hj10 : ¬ (i : Int) < 10 := by omega
      rw [RunD_loop]
      simp [L59x0, hlt, hj10, num2F, hi10]
      exact ⟨rfl, .inl ⟨rfl, rfl⟩⟩
theorem number2_den (c : UInt8) (t : List UInt8) : Den Sy 59 [.str t, .int .u8 c.toNat] = some (.tup [.int .i64 (num2F t c t 0 0).1, .str (num2F t c t 0 0).2.1, .bool (num2F t c t 0 0).2.2]) := by
  rw [Den_fun Sy (af := A59) rfl rfl _ rfl]
  obtain ⟨ex, st', hL, hdf, h⟩ := num2_loop t c (ofL []) none' t 0 0 0 0 (by simp) (by simp) rfl rfl (by decide) (by decide)
  rcases h with ⟨rfl, hx⟩ | ⟨rfl, h4, h5, h6⟩
  · rw [hx]
    simp [A59, hL, hdf]
  · simp [A59, hL, hdf, h4, h5, h6]
theorem sg3 (c : UInt8) (r : List UInt8) (v : Nat) (bx : Bx) (pm : Pm) (o : Int) : Res (RunD Sy (.loop L89x0) ⟨ofL [(0, .str (c :: r)), (2, .ptr 2 v 0), (5, .int .i64 o), (6, .int .i64 3)], bx, pm, none⟩) fun ex st' => Sg c r v bx pm o ex st' := by
  rw [RunD_loop]
  simp [L89x0]
  exact ⟨rfl, rfl⟩
theorem sg_at (c : UInt8) (r : List UInt8) (v : Nat) (bx : Bx) (pm : Pm) (o : Int) (k : Nat) (d : UInt8) (hk : k < 3) (hd : ([61, 45, 43] : List UInt8)[k]? = some d) (R : Int) (h : Res (RunD Sy (.loop L89x0) ⟨ofL [(0, .str (c :: r)), (2, .ptr 2 v 0), (5, .int .i64 (if c = d then (k : Int) + 1 else o)), (6, .int .i64 ((k : Int) + 1))], bx, pm, none⟩) fun ex st' => Sg c r v bx pm R ex st') :
    Res (RunD Sy (.loop L89x0) ⟨ofL [(0, .str (c :: r)), (2, .ptr 2 v 0), (5, .int .i64 o), (6, .int .i64 k)], bx, pm, none⟩) fun ex st' => Sg c r v bx pm R ex st' := by
  have hlt : (k : Int) < 3 := by omega
  have hc := chk_i64 ((k : Int) + 1) (by omega)
  refine loop_step fun K hK => ?_
  by_cases hcd : c = d
  · subst hcd
    rw [if_pos rfl] at h
    simp [L89x0, -getElem?_pos, List.getElem?_cons_zero, hlt, hc, hd]
    rw [hK]
    exact h
  · have hn := ne_nat hcd
    rw [if_neg hcd] at h
    simp [L89x0, -getElem?_pos, List.getElem?_cons_zero, hlt, hc, hd, eq_false hn]
    rw [hK]
    exact h
theorem sg_loop (c : UInt8) (r : List UInt8) (v : Nat) (bx : Bx) (pm : Pm) : Res (RunD Sy (.loop L89x0) ⟨ofL [(0, .str (c :: r)), (2, .ptr 2 v 0), (5, .int .i64 0), (6, .int .i64 0)], bx, pm, none⟩) fun ex st' => Sg c r v bx pm (op2F c) ex st' := by
  refine sg_at c r v bx pm 0 0 61 (by decide) rfl _ (sg_at c r v bx pm _ 1 45 (by decide) rfl _ (sg_at c r v bx pm _ 2 43 (by decide) rfl _ ?_))
  have e : (if c = 43 then ((2 : Nat) : Int) + 1 else if c = 45 then ((1 : Nat) : Int) + 1 else if c = 61 then ((0 : Nat) : Int) + 1 else 0) = op2F c := by
    unfold op2F
    by_cases h1 : c = 61
    · subst h1; decide
    · by_cases h2 : c = 45
      · subst h2; decide
      · by_cases h3 : c = 43
        · subst h3; decide
        · simp [h1, h2, h3]
  rw [e]
  exact sg3 c r v bx pm (op2F c)
theorem num2_58 (t : List UInt8) : Den Sy 59 [.str t, .int .u8 58] = some (.tup [.int .i64 (num2F t 58 t 0 0).1, .str (num2F t 58 t 0 0).2.1, .bool (num2F t 58 t 0 0).2.2]) := number2_den 58 t
theorem num2_59 (t : List UInt8) : Den Sy 59 [.str t, .int .u8 59] = some (.tup [.int .i64 (num2F t 59 t 0 0).1, .str (num2F t 59 t 0 0).2.1, .bool (num2F t 59 t 0 0).2.2]) := number2_den 59 t
set_option maxHeartbeats 1000000 in
theorem lines2_loop (n v2 v10 : Nat) (hn : n ≤ 1048576) : ∀ (k i : Nat) (j : Int) (t : List UInt8) (ls : List AV) (p : Perm) (bx : Bx) (pm : Pm), j = i → i + k = n → t.length < 1000000000 → bx 2 = some (v2, zEd) → bx 10 = some (v10, [.int .i64 3, .int .i64 n, .sl 1 ls p]) → AppAt 77 pm p → ls.length = i →
    Res (RunD Sy (.loop L89x1) ⟨ofL [(2, .ptr 2 v2 0), (5, .int .i64 3), (7, .int .i64 n), (8, .str t), (10, .ptr 10 v10 0), (11, .int .i64 j)], bx, pm, none⟩) fun ex st' => Li2 n v2 v10 ls ex st' (linesF k t)
  | 0, i, j, t, ls, p, bx, pm, hj, hi, ht, hb2, hb, hp, hls => by
    have : i = n := by omega
    subst this hj
    rw [RunD_loop]
    simp [L89x1, linesF]
    exact ⟨rfl, bx, pm, p, rfl, hb2, by simpa using hb⟩
  | k + 1, i, j, t, ls, p, bx, pm, hj, hi, ht, hb2, hb, hp, hls => by
    subst hj
    have hlt : (i : Int) < n := by omega
    have hc := chk_i64 ((i : Int) + 1) (by omega)
    have hsz : (ls.length + 1) * 16 ≤ 140737488355328 := by omega
    have hnd := num2_58 t
    refine loop_step fun K hK => ?_
    cases hq : (num2F t 58 t 0 0).2.2 with
    | false =>
      rw [linesF_none ht hq]
      rw [hq] at hnd
      simp [L89x1, hlt, hnd, hb2]
      exact ⟨rfl, rfl, by simp, by simp, by simp, by simp [hb2]⟩
    | true =>
      have hsome := num2_some (by decide) hq
      rw [hq] at hnd
      generalize hm : (num2F t 58 t 0 0).1 = m at hnd hsome
      generalize hr : (num2F t 58 t 0 0).2.1 = r at hnd hsome
      rw [linesF_some hsome]
      obtain ⟨hm0, hmr, hrl⟩ := numF_spec hsome
      by_cases hle : m ≤ r.length
      · rw [if_pos hle]
        have hle' : ¬ (r.length : Int) < m := by omega
        have hlen : (ls ++ [AV.str (r.take m.toNat)]).length = i + 1 := by simp [hls]
        have hdl : (r.drop m.toNat).length < 1000000000 := by rw [List.length_drop]; omega
        rcases hp with rfl | ⟨v, rfl, hpm⟩
        · simp [L89x1, hlt, hnd, hb2, hb, hle, hle', hm0, hsz, hc]
          rw [hK]
          refine Res.eqv (fun ex st h => Li2.step h) (lines2_loop n v2 v10 hn k (i + 1) _ (r.drop m.toNat) (ls ++ [.str (r.take m.toNat)]) (.tok 77 (nextP pm 77)) _ _ ?_ ?_ hdl ?_ ?_ ?_ hlen)
          · simp
          · omega
          · simp [hb2]
          · simp
          · exact .inr ⟨_, rfl, by simp⟩
        · simp [L89x1, hlt, hnd, hb2, hb, hle, hle', hm0, hsz, hc, hpm]
          rw [hK]
          refine Res.eqv (fun ex st h => Li2.step h) (lines2_loop n v2 v10 hn k (i + 1) _ (r.drop m.toNat) (ls ++ [.str (r.take m.toNat)]) (.tok 77 (v + 1)) _ _ ?_ ?_ hdl ?_ ?_ ?_ hlen)
          · simp
          · omega
          · simp [hb2]
          · simp
          · exact .inr ⟨_, rfl, by simp⟩
      · rw [if_neg hle]
        have hle' : (r.length : Int) < m := by omega
        simp [L89x1, hlt, hnd, hb2, hb, hle']
        exact ⟨rfl, rfl, by simp, by simp, by simp, by simp [hb2]⟩
theorem lines2_skip (o : Int) (ho : ¬ o = 3) (v2 v10 : Nat) (n : Int) (u : List UInt8) (bx : Bx) (pm : Pm) : RunD Sy (.loop L89x1) ⟨ofL [(2, .ptr 2 v2 0), (5, .int .i64 o), (7, .int .i64 n), (8, .str u), (10, .ptr 10 v10 0), (11, .int .i64 0)], bx, pm, none⟩ = some (.exit 2, ⟨ofL [(2, .ptr 2 v2 0), (5, .int .i64 o), (7, .int .i64 n), (8, .str u), (10, .ptr 10 v10 0), (11, .int .i64 0), (53, .bool false)], bx, pm, none⟩) := by
  rw [RunD_loop]
  simp [L89x1, ho]
set_option maxHeartbeats 1000000 in
theorem edit2_den (c : UInt8) (r : List UInt8) (hr : r.length < 1000000000) : Den Sy 89 [.str (c :: r)] = some (match editF (c :: r) with
    | some (e, u) => .tup [eE e, .str u, .bool true]
    | none => .tup [.agg [.int .i64 0, .int .i64 0, .sl 1 [] .no], .str [], .bool false]) := by
  rw [Den_fun Sy (af := A89) rfl rfl _ rfl]
  obtain ⟨ex, st', hL, rfl, rfl⟩ := sg_loop c r 0 (upd (ofL []) 2 (0, zEd)) none'
  have hnd := num2_59 r
  have hop := op2_opF c
  simp only [editF]
  by_cases h0 : 0 < opF c
  · have ho := hop.1 h0
    have hk := (opF_sgn c h0).2
    rw [ho] at hL
    have hnz : ¬ opF c = 0 := by omega
    rw [if_pos h0]
    cases hq : (num2F r 59 r 0 0).2.2 with
    | false =>
      have hnone : ∀ n u, numF 59 r = some (n, u) → ¬ n ≤ 1048576 := fun n u h => by have := num2_none (by decide) hq n u h; omega
      rw [hq] at hnd
      cases hm : numF 59 r with
      | none => simp [A89, nextB, hL, hnd, hnz]
      | some nu =>
        obtain ⟨n, u⟩ := nu
        have := hnone n u hm
        simp [A89, nextB, hL, hnd, hnz, this]
    | true =>
      have hsome := num2_some (by decide) hq
      rw [hq] at hnd
      generalize hm : (num2F r 59 r 0 0).1 = n at hnd hsome
      generalize hu : (num2F r 59 r 0 0).2.1 = u at hnd hsome
      rw [hsome]
      obtain ⟨hn0, hnr, hul⟩ := numF_spec hsome
      by_cases hle : n ≤ 1048576
      · have hle' : ¬ 1048576 < n := by omega
        by_cases h3 : opF c = 3
        · obtain ⟨k, rfl⟩ : ∃ k : Nat, n = k := ⟨n.toNat, by omega⟩
          obtain ⟨ex2, st2, hL2, hR⟩ := lines2_loop k 0 0 (by omega) k 0 0 u [] .nil (upd (upd (upd (ofL []) 2 (0, zEd)) 10 (0, zEd)) 10 (0, [.int .i64 3, .int .i64 k, .sl 1 [] .nil])) none' rfl (by omega) (by omega) (by simp) (by simp) (.inl rfl) rfl
          rw [h3] at hL
          cases hl : linesF k u with
          | none =>
            rw [hl] at hR
            obtain ⟨rfl, hdf, e2, e3, e4, b2⟩ := hR
            simp [A89, nextB, hL, hnd, hle, hle', h3, hL2, hl, hdf, e2, e3, e4, b2]
          | some Lr =>
            obtain ⟨L, w⟩ := Lr
            rw [hl] at hR
            obtain ⟨rfl, bx', pm', p', rfl, b2, b10⟩ := hR
            simp [A89, nextB, hL, hnd, hle, hle', h3, hL2, hl, b2, b10, eE]
        · have hsk := lines2_skip (opF c) h3 0 0 n u (upd (upd (upd (ofL []) 2 (0, zEd)) 10 (0, zEd)) 10 (0, [.int .i64 (opF c), .int .i64 n, .sl 1 [] .nil])) none'
          simp [A89, nextB, hL, hnd, hle, hle', h3, hnz, hsk, eE]
      · have hle' : 1048576 < n := by omega
        simp [A89, nextB, hL, hnd, hle, hle', hnz]
  · have ho := hop.2 h0
    rw [ho] at hL
    rw [if_neg h0]
    simp [A89, nextB, hL, hnd]
set_option maxHeartbeats 1000000 in
theorem dec2_loop : ∀ (k : Nat) (t : List UInt8) (out : List AV) (p : Perm) (bx : Bx) (pm : Pm), t.length ≤ k → k < 1000000000 → AppAt 24 pm p → out.length + k < 1000000000 →
    Res (RunD Sy (.loop L61x0) ⟨ofL [(4, .sl 3 out p), (5, .str t)], bx, pm, none⟩) fun ex st' => De2 out ex st' (decL k t)
  | k, [], out, p, bx, pm, ht, hk, hp, ho => by
    have e : decL k [] = some [] := by cases k <;> rfl
    rw [e, RunD_loop]
    simp [L61x0]
    exact ⟨rfl, rfl, p, by simp⟩
  | 0, c :: r, out, p, bx, pm, ht, hk, hp, ho => by simp at ht
  | k + 1, c :: r, out, p, bx, pm, ht, hk, hp, ho => by
    have hrl : r.length ≤ k := by simpa using ht
    have hed := edit2_den c r (by omega)
    have hsz : (out.length + 1) * 40 ≤ 140737488355328 := by omega
    refine loop_step fun K hK => ?_
    simp only [decL]
    cases he : editF (c :: r) with
    | none =>
      rw [he] at hed
      simp [L61x0, hed]
      exact ⟨rfl, rfl, by simp, by simp⟩
    | some eu =>
      obtain ⟨⟨op, n, ls⟩, u⟩ := eu
      rw [he] at hed
      simp only [eE] at hed
      have hul := editF_len he
      have hul' : u.length ≤ k := by simp only [List.length_cons] at hul; omega
      rcases hp with rfl | ⟨v, rfl, hpm⟩
      · simp [L61x0, hed, hsz]
        rw [hK]
        refine Res.eqv (fun ex st h => De2.step h) (dec2_loop k u (out ++ [eE ⟨op, n, ls⟩]) (.tok 24 (nextP pm 24)) _ _ hul' (by omega) ?_ ?_)
        · exact .inr ⟨_, rfl, by simp⟩
        · simp; omega
      · simp [L61x0, hed, hsz, hpm]
        rw [hK]
        refine Res.eqv (fun ex st h => De2.step h) (dec2_loop k u (out ++ [eE ⟨op, n, ls⟩]) (.tok 24 (v + 1)) _ _ hul' (by omega) ?_ ?_)
        · exact .inr ⟨_, rfl, by simp⟩
        · simp; omega
theorem decode2_den (t : List UInt8) (ht : t.length < 500000000) : Den Sy 61 [.str t] = some (match decF t with
      | some s => .tup [sE s, .int .i64 0]
      | none => .tup [sE [], .int .i64 11]) := by
  rw [Den_fun Sy (af := A61) rfl rfl _ rfl]
  obtain ⟨ex, st', hL, hR⟩ := dec2_loop t.length t [] .nil (ofL []) none' (Nat.le_refl _) (by omega) (.inl rfl) (by simp; omega)
  unfold decF
  cases hd : decL t.length t with
  | none =>
    rw [hd] at hR
    obtain ⟨rfl, hdf, h2, h3⟩ := hR
    simp [A61, hL, hdf, h2, h3]
  | some s =>
    rw [hd] at hR
    obtain ⟨rfl, hdf, q, h4⟩ := hR
    have hlen := decL_len hd
    have hrd := right2_den s (by omega)
    by_cases hr : rightB s = true
    · simp [A61, hL, hdf, h4, hrd, hr]
    · simp [A61, hL, hdf, h4, hrd, hr]
theorem decode_den (t : List UInt8) (ht : t.length ≤ 549755813888) : Den Sy 58 [.str t] = some (match decF t with
      | some s => .tup [sE s, .int .i64 0]
      | none => .tup [sE [], .int .i64 11]) := by
  rw [Den_ext Sy (F := decodeF) rfl]
  unfold decodeF
  rw [D.decode_den t ht]
  cases decF t <;> rfl
end Go.Proofs.YtdjgdipmjbkilaaGreatDoor.Rx
