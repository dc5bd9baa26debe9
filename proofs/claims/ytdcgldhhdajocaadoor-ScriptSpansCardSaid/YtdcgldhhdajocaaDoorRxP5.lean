/-
  The script's laws, plain, 5: when two are the same; raw numbers' scripts.
-/
import Derived.Test.YtdcgldhhdajocaaDoorRxP4
namespace Go.Proofs.YtdcgldhhdajocaaDoor.Rx
open Go
set_option linter.unusedSimpArgs false
set_option linter.unusedVariables false

theorem texts_loop (a b : List (List UInt8)) (hab : a.length = b.length) (hl : a.length ≤ 1099511627776) : ∀ (ra rb pa pb : List (List UInt8)) (i : Int) (bx : Bx) (pm : Pm), a = pa ++ ra → b = pb ++ rb → pa.length = pb.length → i = pa.length →
    Res (RunD Sy (.loop L25x0) ⟨ofL [(0, sS a), (1, sS b), (5, .int .i64 i)], bx, pm, none⟩) fun ex st' => st'.df = none ∧ if ra = rb then ex = .exit 0 else ex = .ret ∧ st'.env 4 = some (.bool false)
  | [], rb, pa, pb, i, bx, pm, ha, hb, hp, hi => by
    subst hi
    have : rb = [] := by
      have h1 := congrArg List.length ha
      have h2 := congrArg List.length hb
      simp at h1 h2
      exact List.eq_nil_of_length_eq_zero (by omega)
    subst this
    rw [List.append_nil] at ha
    subst ha
    rw [RunD_loop]
    simp [L25x0]
  | x :: ra, rb, pa, pb, i, bx, pm, ha, hb, hp, hi => by
    have hlt : (pa.length : Int) < a.length := by rw [ha]; simp; omega
    obtain ⟨y, rb, rfl⟩ : ∃ y r, rb = y :: r := by
      cases rb with
      | nil => have h1 := congrArg List.length ha; have h2 := congrArg List.length hb; simp at h1 h2; omega
      | cons y r => exact ⟨y, r, rfl⟩
    have hga : (a.map AV.str)[pa.length]? = some (.str x) := by rw [ha]; simp
    have hgb : (b.map AV.str)[pa.length]? = some (.str y) := by rw [hb, hp]; simp
    subst hi
    have hc := chk_i64 ((pa.length : Int) + 1) (by omega)
    refine loop_step fun K hK => ?_
    by_cases h : x = y
    · simp [L25x0, -getElem?_pos, -List.getElem?_map, hc, hlt, hga, hgb, binS, eq_true h]
      rw [hK]
      exact texts_loop a b hab hl ra rb (pa ++ [x]) (pb ++ [y]) _ _ _ (by simp [ha]) (by simp [hb]) (by simp [hp]) (by simp)
    · simp [L25x0, -getElem?_pos, -List.getElem?_map, hc, hlt, hga, hgb, binS, eq_false h]
theorem texts_den (a b : List (List UInt8)) (hl : a.length ≤ 1099511627776) : Den Sy 25 [sS a, sS b] = some (.bool (decide (a = b))) := by
  rw [Den_fun Sy (af := A25) rfl rfl _ rfl]
  by_cases hab : a.length = b.length
  · obtain ⟨ex, st', h, hd, hr⟩ := texts_loop a b hab hl a b [] [] 0 (ofL []) none' rfl rfl rfl rfl
    by_cases e : a = b
    · rw [if_pos e] at hr
      subst hr
      simp [A25, h, hd, hab, eq_true e]
    · rw [if_neg e] at hr
      obtain ⟨rfl, h2⟩ := hr
      simp [A25, h, hd, h2, hab, eq_false e]
  · have : ¬ a = b := fun e => hab (by rw [e])
    have hab' : ¬ (a.length : Int) = b.length := by omega
    simp [A25, hab', this]

theorem same_inner (a b : List Edit) (x y : Edit) (m : Nat) (hm : m < 1099511627776) (hga : (a.map eE)[m]? = some (eE x)) (hgb : (b.map eE)[m]? = some (eE y)) (hxy : x.ls.length = y.ls.length) (hl : x.ls.length ≤ 1099511627776) : ∀ (ra rb pa pb : List (List UInt8)) (i : Int) (bx : Bx) (pm : Pm), x.ls = pa ++ ra → y.ls = pb ++ rb → pa.length = pb.length → i = pa.length →
    Res (RunD Sy (.loop L26x0) ⟨ofL [(0, sE a), (1, sE b), (5, .int .i64 m), (6, .int .i64 i)], bx, pm, none⟩) fun ex st' => if ra = rb then ex = .exit 2 ∧ ∃ v bx' pm', st' = ⟨ofL [(0, sE a), (1, sE b), (5, .int .i64 m), (6, v), (64, .bool false)], bx', pm', none⟩ else st'.df = none ∧ ex = .ret ∧ st'.env 4 = some (.bool false)
  | [], rb, pa, pb, i, bx, pm, ha, hb, hp, hi => by
    subst hi
    have : rb = [] := by
      have h1 := congrArg List.length ha
      have h2 := congrArg List.length hb
      simp at h1 h2
      exact List.eq_nil_of_length_eq_zero (by omega)
    subst this
    rw [List.append_nil] at ha
    simp only [eE] at hga hgb
    rw [RunD_loop]
    simp [L26x0, -getElem?_pos, -List.getElem?_map, hga, ← ha]
    exact ⟨_, rfl⟩
  | u :: ra, rb, pa, pb, i, bx, pm, ha, hb, hp, hi => by
    have hlt : (pa.length : Int) < x.ls.length := by rw [ha]; simp; omega
    obtain ⟨v, rb, rfl⟩ : ∃ y r, rb = y :: r := by
      cases rb with
      | nil => have h1 := congrArg List.length ha; have h2 := congrArg List.length hb; simp at h1 h2; omega
      | cons y r => exact ⟨y, r, rfl⟩
    have hgu : (x.ls.map AV.str)[pa.length]? = some (.str u) := by rw [ha]; simp
    have hgv : (y.ls.map AV.str)[pa.length]? = some (.str v) := by rw [hb, hp]; simp
    subst hi
    have hc := chk_i64 ((pa.length : Int) + 1) (by omega)
    have hga' := hga
    have hgb' := hgb
    simp only [eE] at hga' hgb'
    refine loop_step fun K hK => ?_
    by_cases h : u = v
    · simp [L26x0, -getElem?_pos, -List.getElem?_map, hc, hlt, hga', hgb', hgu, hgv, binS, eq_true h]
      rw [hK]
      exact same_inner a b x y m hm hga hgb hxy hl ra rb (pa ++ [u]) (pb ++ [v]) _ _ _ (by simp [ha]) (by simp [hb]) (by simp [hp]) (by simp)
    · simp [L26x0, -getElem?_pos, -List.getElem?_map, hc, hlt, hga', hgb', hgu, hgv, binS, eq_false h]
theorem same_loop (a b : List Edit) (hab : a.length = b.length) (hl : a.length ≤ 1099511627776) (hls : ∀ e ∈ a, e.ls.length ≤ 1099511627776) : ∀ (ra rb pa pb : List Edit) (i : Int) (bx : Bx) (pm : Pm), a = pa ++ ra → b = pb ++ rb → pa.length = pb.length → i = pa.length →
    Res (RunD Sy (.loop L26x1) ⟨ofL [(0, sE a), (1, sE b), (5, .int .i64 i)], bx, pm, none⟩) fun ex st' => st'.df = none ∧ if ra = rb then ex = .exit 0 else ex = .ret ∧ st'.env 4 = some (.bool false)
  | [], rb, pa, pb, i, bx, pm, ha, hb, hp, hi => by
    subst hi
    have : rb = [] := by
      have h1 := congrArg List.length ha
      have h2 := congrArg List.length hb
      simp at h1 h2
      exact List.eq_nil_of_length_eq_zero (by omega)
    subst this
    rw [List.append_nil] at ha
    subst ha
    rw [RunD_loop]
    simp [L26x1]
  | x :: ra, rb, pa, pb, i, bx, pm, ha, hb, hp, hi => by
    have hlt : (pa.length : Int) < a.length := by rw [ha]; simp; omega
    obtain ⟨y, rb, rfl⟩ : ∃ y r, rb = y :: r := by
      cases rb with
      | nil => have h1 := congrArg List.length ha; have h2 := congrArg List.length hb; simp at h1 h2; omega
      | cons y r => exact ⟨y, r, rfl⟩
    have hga : (a.map eE)[pa.length]? = some (eE x) := by rw [ha]; simp
    have hgb : (b.map eE)[pa.length]? = some (eE y) := by rw [hb, hp]; simp
    subst hi
    have hc := chk_i64 ((pa.length : Int) + 1) (by omega)
    have hga' := hga
    have hgb' := hgb
    simp only [eE] at hga' hgb'
    refine loop_step fun K hK => ?_
    by_cases h1 : x.op = y.op
    · by_cases h2 : x.n = y.n
      · by_cases h3 : x.ls.length = y.ls.length
        · have h3' : (x.ls.length : Int) = y.ls.length := by omega
          have hin := same_inner a b x y pa.length (by omega) hga hgb h3 (hls x (by rw [ha]; simp)) x.ls y.ls [] [] 0 bx pm rfl rfl rfl rfl
          obtain ⟨ex, st', hi, hr⟩ := hin
          by_cases h4 : x.ls = y.ls
          · have hxy : x = y := by cases x; cases y; simp only [Edit.mk.injEq]; exact ⟨h1, h2, h4⟩
            rw [if_pos h4] at hr
            obtain ⟨rfl, v, bx', pm', rfl⟩ := hr
            simp [L26x1, -getElem?_pos, -List.getElem?_map, hc, hlt, hga', hgb', eq_true h1, eq_true h2, eq_true h3', hi, eq_true hxy]
            rw [hK]
            exact same_loop a b hab hl hls ra rb (pa ++ [x]) (pb ++ [y]) _ _ _ (by simp [ha]) (by simp [hb]) (by simp [hp]) (by simp)
          · have hxy : ¬ x = y := fun e => h4 (by rw [e])
            rw [if_neg h4] at hr
            obtain ⟨hd, rfl, h5⟩ := hr
            simp [L26x1, -getElem?_pos, -List.getElem?_map, hc, hlt, hga', hgb', eq_true h1, eq_true h2, eq_true h3', hi, eq_false hxy, hd, h5]
        · have hxy : ¬ x = y := fun e => h3 (by rw [e])
          have h3' : ¬ (x.ls.length : Int) = y.ls.length := by omega
          simp [L26x1, -getElem?_pos, -List.getElem?_map, hc, hlt, hga', hgb', eq_true h1, eq_true h2, eq_false h3', eq_false hxy]
      · have hxy : ¬ x = y := fun e => h2 (by rw [e])
        simp [L26x1, -getElem?_pos, -List.getElem?_map, hc, hlt, hga', hgb', eq_true h1, eq_false h2, eq_false hxy]
    · have hxy : ¬ x = y := fun e => h1 (by rw [e])
      simp [L26x1, -getElem?_pos, -List.getElem?_map, hc, hlt, hga', hgb', eq_false h1, eq_false hxy]
theorem same_den (a b : List Edit) (hl : a.length ≤ 1099511627776) (hls : ∀ e ∈ a, e.ls.length ≤ 1099511627776) : Den Sy 26 [sE a, sE b] = some (.bool (decide (a = b))) := by
  rw [Den_fun Sy (af := A26) rfl rfl _ rfl]
  by_cases hab : a.length = b.length
  · obtain ⟨ex, st', h, hd, hr⟩ := same_loop a b hab hl hls a b [] [] 0 (ofL []) none' rfl rfl rfl rfl
    by_cases e : a = b
    · rw [if_pos e] at hr
      subst hr
      simp [A26, h, hd, hab, eq_true e]
    · rw [if_neg e] at hr
      obtain ⟨rfl, h2⟩ := hr
      simp [A26, h, hd, h2, hab, eq_false e]
  · have : ¬ a = b := fun e => hab (by rw [e])
    have hab' : ¬ (a.length : Int) = b.length := by omega
    simp [A26, hab', this]
/-! ### Raw numbers' scripts -/
def mkE (c : Int) (r : List Int) : Edit := ⟨1 + pickF c 3, 1 + pickF (c.tdiv 3) 4, if 1 + pickF c 3 = 3 then fullF (c :: r) (1 + pickF (c.tdiv 3) 4).toNat else []⟩
def skipB (last op : Int) : Bool := decide (last = op) || decide (last = 3 ∧ op = 2)
def scriptG : Nat → List Int → Int → List Edit
  | 0, _, _ => []
  | _ + 1, [], _ => []
  | k + 1, c :: r, last => if skipB last (mkE c r).op = true then scriptG k r last else mkE c r :: scriptG k r (mkE c r).op
def scriptF (raw : List Int) : List Edit := scriptG 10 raw 0
theorem mkE_may (c : Int) (r : List Int) : mayB (mkE c r) = true := by
  have h1 := pickF_lt c (n := 3) (by omega)
  have h2 := pickF_lt (c.tdiv 3) (n := 4) (by omega)
  have e1 : (mkE c r).op = 1 + pickF c 3 := rfl
  have e2 : (mkE c r).n = 1 + pickF (c.tdiv 3) 4 := rfl
  unfold mayB
  simp only [Bool.and_eq_true, decide_eq_true_eq]
  refine ⟨by omega, ?_⟩
  by_cases h3 : 1 + pickF c 3 = 3
  · rw [if_neg (by omega), if_pos (by omega)]
    simp only [mkE, if_pos h3, decide_eq_true_eq, fullF, fullG_len]
    omega
  · rw [if_pos (by omega)]
    simp [mkE, if_neg h3]
theorem scriptG_right : ∀ (k : Nat) (r : List Int) (last : Int), rightF last (scriptG k r last) = true
  | 0, _, _ => rfl
  | _ + 1, [], _ => rfl
  | k + 1, c :: r, last => by
    unfold scriptG
    split
    · exact scriptG_right k r last
    · rename_i h
      simp only [skipB, Bool.or_eq_true, decide_eq_true_eq, not_or] at h
      simp only [rightF, mkE_may, scriptG_right k r, Bool.and_true, Bool.true_and, Bool.and_eq_true, decide_eq_true_eq, Bool.not_eq_true', decide_eq_false_iff_not]
      exact ⟨fun e => h.1 e.symm, h.2⟩
theorem scriptF_right (raw : List Int) : rightB (scriptF raw) = true := scriptG_right _ _ _
theorem scriptG_len : ∀ (k : Nat) (r : List Int) (last : Int), (scriptG k r last).length ≤ k
  | 0, _, _ => by simp [scriptG]
  | _ + 1, [], _ => by simp [scriptG]
  | k + 1, c :: r, last => by
    unfold scriptG
    split
    · have := scriptG_len k r last; omega
    · have := scriptG_len k r (mkE c r).op
      simp
      omega
theorem scriptG_small : ∀ (k : Nat) (r : List Int) (last : Int), ∀ e ∈ scriptG k r last, e.n ≤ 4
  | 0, _, _, e, he => by simp [scriptG] at he
  | _ + 1, [], _, e, he => by simp [scriptG] at he
  | k + 1, c :: r, last, e, he => by
    unfold scriptG at he
    split at he
    · exact scriptG_small k r last e he
    · rcases List.mem_cons.1 he with rfl | he
      · have h2 := pickF_lt (c.tdiv 3) (n := 4) (by omega)
        have e2 : (mkE c r).n = 1 + pickF (c.tdiv 3) 4 := rfl
        omega
      · exact scriptG_small k r _ e he
end Go.Proofs.YtdcgldhhdajocaaDoor.Rx
