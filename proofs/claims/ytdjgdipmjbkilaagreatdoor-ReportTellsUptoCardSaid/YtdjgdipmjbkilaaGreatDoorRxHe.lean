/-
  The reports' laws, plain, c (without ReportForms): entries, and their bytes.
-/
import Derived.Test.YtdjgdipmjbkilaaGreatDoorRxHb
import Derived.Test.YtdjgdipmjbkilaaGreatDoorRxY2
namespace Go.Proofs.YtdjgdipmjbkilaaGreatDoor.Rx
open Go
set_option linter.unusedSimpArgs false
set_option linter.unusedVariables false

def kindB (k : Int) : Bool := decide (1 ≤ k ∧ k ≤ 3)
theorem kindP_den (k : Int) : Den Sy 73 [.int .i64 k] = some (.bool (kindB k)) := by
  rw [Den_fun Sy (af := A73) rfl rfl _ rfl]
  by_cases h1 : 1 ≤ k
  · simp [A73, h1, kindB]
  · simp [A73, h1, kindB]
theorem kindR_den (k : Int) : Den Sy 79 [.int .i64 k] = some (.bool (kindB k)) := by
  rw [Den_fun Sy (af := A79) rfl rfl _ rfl]
  by_cases h1 : 1 ≤ k
  · simp [A79, h1, kindB]
  · simp [A79, h1, kindB]
def plainE (e : En) : Bool := decide (e.src = []) && decide (e.score = 0)
def mayE (e : En) : Bool :=
  if e.op = 1 then plainE e && kindB e.new && decide (e.old = 0) && decide (e.script = [])
  else if e.op = 2 then plainE e && kindB e.old && decide (e.new = 0) && decide (e.data = []) && decide (e.script = [])
  else if e.op = 4 then plainE e && kindB e.old && kindB e.new && decide (e.script = [])
  else if e.op = 5 then decide (1 ≤ e.score) && decide (e.score ≤ 100) && decide (e.old = 2) && decide (e.new = 2) && decide (e.data = []) && rightB e.script
  else if e.op = 3 then plainE e && decide (e.old = 2) && decide (e.new = 2) && decide (e.data = []) && rightB e.script
  else false
set_option maxHeartbeats 2000000 in
theorem mayP_den (e : En) (hl : e.script.length ≤ 1099511627776) : Den Sy 47 [nA e] = some (.bool (mayE e)) := by
  rw [Den_fun Sy (af := A47) rfl rfl _ rfl]
  have hr := right_den e.script hl
  have k1 := kindP_den e.new
  have k2 := kindP_den e.old
  obtain ⟨op, path, src, old, new, data, score, script⟩ := e
  simp only at hr k1 k2
  unfold mayE plainE
  simp only
  by_cases o1 : op = 1
  · by_cases a1 : src = []
    · by_cases a2 : score = 0
      · cases a3 : kindB new
        · simp [A47, nA, o1, a1, a2, a3, k1]
        · by_cases a4 : old = 0
          · simp [A47, nA, o1, a1, a2, a3, a4, k1]
          · simp [A47, nA, o1, a1, a2, a3, a4, k1]
      · simp [A47, nA, o1, a1, a2]
    · simp [A47, nA, o1, a1]
  · by_cases o2 : op = 2
    · by_cases a1 : src = []
      · by_cases a2 : score = 0
        · cases a3 : kindB old
          · simp [A47, nA, o2, a1, a2, a3, k2]
          · by_cases a4 : new = 0
            · by_cases a5 : data = []
              · simp [A47, nA, o2, a1, a2, a3, a4, a5, k2]
              · simp [A47, nA, o2, a1, a2, a3, a4, a5, k2]
            · simp [A47, nA, o2, a1, a2, a3, a4, k2]
        · simp [A47, nA, o2, a1, a2]
      · simp [A47, nA, o2, a1]
    · by_cases o4 : op = 4
      · by_cases a1 : src = []
        · by_cases a2 : score = 0
          · cases a3 : kindB old
            · simp [A47, nA, o4, a1, a2, a3, k2]
            · cases a4 : kindB new
              · simp [A47, nA, o4, a1, a2, a3, a4, k1, k2]
              · simp [A47, nA, o4, a1, a2, a3, a4, k1, k2]
          · simp [A47, nA, o4, a1, a2]
        · simp [A47, nA, o4, a1]
      · by_cases o5 : op = 5
        · have pl : ∃ b : Bool, True := ⟨true, trivial⟩
          by_cases a1 : src = []
          · by_cases a2 : 1 ≤ score
            · by_cases a3 : score ≤ 100
              · by_cases a4 : old = 2
                · by_cases a5 : new = 2
                  · by_cases a6 : data = []
                    · simp [A47, nA, o5, a1, a2, a3, a4, a5, a6, hr]
                    · simp [A47, nA, o5, a1, a2, a3, a4, a5, a6]
                  · simp [A47, nA, o5, a1, a2, a3, a4, a5]
                · simp [A47, nA, o5, a1, a2, a3, a4]
              · simp [A47, nA, o5, a1, a2, a3]
            · simp [A47, nA, o5, a1, a2]
          · by_cases a2 : 1 ≤ score
            · by_cases a3 : score ≤ 100
              · by_cases a4 : old = 2
                · by_cases a5 : new = 2
                  · by_cases a6 : data = []
                    · simp [A47, nA, o5, a1, a2, a3, a4, a5, a6, hr]
                    · simp [A47, nA, o5, a1, a2, a3, a4, a5, a6]
                  · simp [A47, nA, o5, a1, a2, a3, a4, a5]
                · simp [A47, nA, o5, a1, a2, a3, a4]
              · simp [A47, nA, o5, a1, a2, a3]
            · simp [A47, nA, o5, a1, a2]
        · by_cases o3 : op = 3
          · by_cases a1 : src = []
            · by_cases a2 : score = 0
              · by_cases a4 : old = 2
                · by_cases a5 : new = 2
                  · by_cases a6 : data = []
                    · simp [A47, nA, o3, a1, a2, a4, a5, a6, hr]
                    · simp [A47, nA, o3, a1, a2, a4, a5, a6]
                  · simp [A47, nA, o3, a1, a2, a4, a5]
                · simp [A47, nA, o3, a1, a2, a4]
              · simp [A47, nA, o3, a1, a2]
            · simp [A47, nA, o3, a1]
          · by_cases a1 : src = []
            · simp [A47, nA, o1, o2, o4, o5, o3, a1]
            · simp [A47, nA, o1, o2, o4, o5, o3, a1]
set_option maxHeartbeats 2000000 in
theorem mayR_den (e : En) (hl : e.script.length ≤ 1099511627776) : Den Sy 52 [nA e] = some (.bool (mayE e)) := by
  rw [Den_fun Sy (af := A52) rfl rfl _ rfl]
  have hr := right2_den e.script hl
  have k1 := kindR_den e.new
  have k2 := kindR_den e.old
  obtain ⟨op, path, src, old, new, data, score, script⟩ := e
  simp only at hr k1 k2
  unfold mayE plainE
  simp only
  generalize hR : rightB script = R at hr ⊢
  by_cases o1 : op = 1
  · by_cases a1 : src = []
    · by_cases a2 : score = 0
      · by_cases a0 : script = []
        · cases a3 : kindB new
          · simp [A52, nA, o1, a1, a2, a3, k1, hr, eq_true a0]
          · simp [A52, nA, o1, a1, a2, a3, k1, hr, eq_true a0]
        · simp [A52, nA, o1, a1, a2, hr, a0]
      · simp [A52, nA, o1, a1, a2, hr]
    · simp [A52, nA, o1, a1, hr]
  · by_cases o2 : op = 2
    · by_cases a1 : src = []
      · by_cases a2 : score = 0
        · by_cases a0 : script = []
          · cases a3 : kindB old
            · simp [A52, nA, o2, a1, a2, a3, k2, hr, eq_true a0]
            · by_cases a4 : new = 0
              · simp [A52, nA, o2, a1, a2, a3, a4, k2, hr, eq_true a0]
              · simp [A52, nA, o2, a1, a2, a3, a4, k2, hr, eq_true a0]
          · simp [A52, nA, o2, a1, a2, hr, a0]
        · simp [A52, nA, o2, a1, a2, hr]
      · simp [A52, nA, o2, a1, hr]
    · by_cases o4 : op = 4
      · by_cases a1 : src = []
        · by_cases a2 : score = 0
          · by_cases a0 : script = []
            · cases a3 : kindB old
              · simp [A52, nA, o4, a1, a2, a3, k2, hr, eq_true a0]
              · simp [A52, nA, o4, a1, a2, a3, k1, k2, hr, eq_true a0]
            · simp [A52, nA, o4, a1, a2, hr, a0]
          · simp [A52, nA, o4, a1, a2, hr]
        · simp [A52, nA, o4, a1, hr]
      · by_cases o5 : op = 5
        · by_cases a1 : src = []
          · cases R
            · simp [A52, nA, o5, a1, hr]
            · by_cases a2 : 1 ≤ score
              · by_cases a3 : score ≤ 100
                · by_cases a4 : old = 2
                  · by_cases a5 : new = 2
                    · simp [A52, nA, o5, a1, a2, a3, a4, a5, hr]
                    · simp [A52, nA, o5, a1, a2, a3, a4, a5, hr]
                  · simp [A52, nA, o5, a1, a2, a3, a4, hr]
                · simp [A52, nA, o5, a1, a2, a3, hr]
              · simp [A52, nA, o5, a1, a2, hr]
          · cases R
            · simp [A52, nA, o5, a1, hr]
            · by_cases a2 : 1 ≤ score
              · by_cases a3 : score ≤ 100
                · by_cases a4 : old = 2
                  · by_cases a5 : new = 2
                    · simp [A52, nA, o5, a1, a2, a3, a4, a5, hr]
                    · simp [A52, nA, o5, a1, a2, a3, a4, a5, hr]
                  · simp [A52, nA, o5, a1, a2, a3, a4, hr]
                · simp [A52, nA, o5, a1, a2, a3, hr]
              · simp [A52, nA, o5, a1, a2, hr]
        · by_cases o3 : op = 3
          · by_cases a1 : src = []
            · by_cases a2 : score = 0
              · cases R
                · simp [A52, nA, o3, a1, a2, hr]
                · by_cases a4 : old = 2
                  · by_cases a5 : new = 2
                    · simp [A52, nA, o3, a1, a2, a4, a5, hr]
                    · simp [A52, nA, o3, a1, a2, a4, a5, hr]
                  · simp [A52, nA, o3, a1, a2, a4, hr]
              · simp [A52, nA, o3, a1, a2, hr]
            · simp [A52, nA, o3, a1, hr]
          · by_cases a1 : src = []
            · simp [A52, nA, o1, o2, o4, o5, o3, a1, hr]
            · simp [A52, nA, o1, o2, o4, o5, o3, a1, hr]


/-! ### The program's order of paths -/
def rk1 (c : UInt8) : Int := if c = 47 then 1 else 2 + c.toNat
def rkF (s : List UInt8) (i : Nat) : Int := match s[i]? with
  | none => 0
  | some c => rk1 c
theorem rk1_pos (c : UInt8) : 0 < rk1 c := by unfold rk1; split <;> omega
theorem rank_den (s : List UInt8) (hs : s.length ≤ 1099511627776) (i : Nat) (hi : i ≤ 1099511627777) : Den Sy 75 [.str s, .int .i64 i] = some (.int .i64 (rkF s i)) := by
  rw [Den_fun Sy (af := A75) rfl rfl _ rfl]
  by_cases h : s.length ≤ i
  · have h' : (s.length : Int) ≤ i := by omega
    have hg : s[i]? = none := List.getElem?_eq_none h
    simp [A75, h, h', rkF, hg, -getElem?_pos]
  · have h' : ¬ (s.length : Int) ≤ i := by omega
    have hg : s[i]? = some s[i] := List.getElem?_eq_getElem (by omega)
    unfold rkF
    rw [hg]
    generalize s[i] = c at hg
    have hlt := c.toNat_lt
    have hc := chk_i64 (2 + (c.toNat : Int)) (by omega)
    have hcv : conv (Cv.toInt .i64) (.int .u8 c.toNat) = some (.int .i64 c.toNat) := by
      unfold conv
      exact chk_i64 _ (by omega)
    by_cases h0 : c = 47
    · have h0' := (u8_47 c).2 h0
      simp [A75, h, h', hg, -getElem?_pos, List.getElem?_cons_zero, h0', rk1, eq_true h0]
    · have h0' := fun e => h0 ((u8_47 c).1 e)
      simp [A75, h, h', hg, -getElem?_pos, List.getElem?_cons_zero, eq_false h0', rk1, h0, hc, hcv]
theorem cmpI_den (a b : Int) : Den Sy 74 [.int .i64 a, .int .i64 b] = some (.int .i64 (if a < b then -1 else if b < a then 1 else 0)) := by
  have hn : ∀ x : Int, Den Sy 98 [.int .i64 x] = some (.bool false) := fun x => by
    rw [Den_fun Sy (af := A98) rfl rfl _ rfl]
    simp [A98]
  rw [Den_fun Sy (af := A74) rfl rfl _ rfl]
  by_cases h1 : a < b
  · simp [A74, hn, h1]
  · by_cases h2 : b < a
    · simp [A74, hn, h1, h2]
    · simp [A74, hn, h1, h2]
/-- The program's order. -/
def cmpS : List UInt8 → List UInt8 → Int
  | [], [] => 0
  | [], _ :: _ => -1
  | _ :: _, [] => 1
  | x :: a, y :: b => if rk1 x < rk1 y then -1 else if rk1 y < rk1 x then 1 else cmpS a b
theorem rkF_end (s : List UInt8) (i : Nat) (h : s.length ≤ i) : rkF s i = 0 := by unfold rkF; rw [List.getElem?_eq_none h]
theorem rkF_at (p r : List UInt8) (x : UInt8) : rkF (p ++ x :: r) p.length = rk1 x := by unfold rkF; simp
theorem cmpS_loop (a b : List UInt8) (ha : a.length ≤ 1099511627776) (hb : b.length ≤ 1099511627776) (n : Nat) (hn : n = max a.length b.length) (bx : Bx) (pm : Pm) : ∀ (x y px py : List UInt8) (i : Int), a = px ++ x → b = py ++ y → px.length = py.length → i = px.length →
    Res (RunD Sy (.loop L48x0) ⟨ofL [(0, .str a), (1, .str b), (11, .int .i64 n), (12, .int .i64 i)], bx, pm, none⟩) fun ex st' => st'.df = none ∧ if cmpS x y = 0 then ex = .exit 0 else ex = .ret ∧ st'.env = ofL [(4, .int .i64 (cmpS x y))]
  | [], [], px, py, i, h1, h2, h3, hi => by
    subst hi
    have hlt : ¬ (px.length : Int) < n := by rw [hn, h1, h2]; simp; omega
    refine loop_step fun K hK => ?_
    simp [L48x0, hlt, cmpS]
  | [], c :: y, px, py, i, h1, h2, h3, hi => by
    subst hi
    have l1 : a.length = px.length := by rw [h1]; simp
    have l2 : b.length = py.length + (y.length + 1) := by rw [h2]; simp
    have hlt : (px.length : Int) < n := by omega
    have r1 := rank_den a ha px.length (by omega)
    have r2 := rank_den b hb px.length (by omega)
    rw [rkF_end a px.length (by omega)] at r1
    have e2 : rkF b px.length = rk1 c := by rw [h2, h3, rkF_at]
    rw [e2] at r2
    have hp := rk1_pos c
    have hc := cmpI_den 0 (rk1 c)
    rw [if_pos hp] at hc
    refine loop_step fun K hK => ?_
    simp [L48x0, hlt, r1, r2, hc, cmpS]
  | c :: x, [], px, py, i, h1, h2, h3, hi => by
    subst hi
    have l1 : a.length = px.length + (x.length + 1) := by rw [h1]; simp
    have l2 : b.length = py.length := by rw [h2]; simp
    have hlt : (px.length : Int) < n := by omega
    have r1 := rank_den a ha px.length (by omega)
    have r2 := rank_den b hb px.length (by omega)
    rw [rkF_end b px.length (by omega)] at r2
    have e2 : rkF a px.length = rk1 c := by rw [h1, rkF_at]
    rw [e2] at r1
    have hp := rk1_pos c
    have hc := cmpI_den (rk1 c) 0
    rw [if_neg (by omega), if_pos hp] at hc
    refine loop_step fun K hK => ?_
    simp [L48x0, hlt, r1, r2, hc, cmpS]
  | c :: x, d :: y, px, py, i, h1, h2, h3, hi => by
    subst hi
    have l1 : a.length = px.length + (x.length + 1) := by rw [h1]; simp
    have l2 : b.length = py.length + (y.length + 1) := by rw [h2]; simp
    have hlt : (px.length : Int) < n := by omega
    have r1 := rank_den a ha px.length (by omega)
    have r2 := rank_den b hb px.length (by omega)
    have e1 : rkF a px.length = rk1 c := by rw [h1, rkF_at]
    have e2 : rkF b px.length = rk1 d := by rw [h2, h3, rkF_at]
    rw [e1] at r1
    rw [e2] at r2
    have hc := cmpI_den (rk1 c) (rk1 d)
    have hk := chk_i64 ((px.length : Int) + 1) (by omega)
    have hnx := cmpS_loop a b ha hb n hn bx pm x y (px ++ [c]) (py ++ [d]) ((px.length : Int) + 1) (by simp [h1]) (by simp [h2]) (by simp [h3]) (by simp)
    unfold cmpS
    refine loop_step fun K hK => ?_
    by_cases k1 : rk1 c < rk1 d
    · rw [if_pos k1] at hc
      simp [L48x0, hlt, r1, r2, hc, k1]
    · rw [if_neg k1] at hc
      by_cases k2 : rk1 d < rk1 c
      · rw [if_pos k2] at hc
        simp [L48x0, hlt, r1, r2, hc, k1, k2]
      · rw [if_neg k2] at hc
        simp [L48x0, hlt, r1, r2, hc, k1, k2, hk]
        rw [hK]
        exact hnx
theorem cmpS_den (a b : List UInt8) (ha : a.length ≤ 1099511627776) (hb : b.length ≤ 1099511627776) : Den Sy 48 [.str a, .str b] = some (.int .i64 (cmpS a b)) := by
  rw [Den_fun Sy (af := A48) rfl rfl _ rfl]
  have hmx : (if a.length < b.length then (b.length : Int) else a.length) = ((max a.length b.length : Nat) : Int) := by split <;> omega
  obtain ⟨ex, st', hL, hd, hR⟩ := cmpS_loop a b ha hb _ rfl (ofL []) none' a b [] [] 0 rfl rfl rfl rfl
  by_cases h : cmpS a b = 0
  · rw [if_pos h] at hR
    subst hR
    simp [A48, hmx, hL, hd, h]
  · rw [if_neg h] at hR
    obtain ⟨rfl, h2⟩ := hR
    simp [A48, hmx, hL, hd, h2]

/-- Each may be, alone, and behind the one ahead, in an order. -/
def okG (cmp : List UInt8 → List UInt8 → Int) : Option (List UInt8) → List En → Bool
  | _, [] => true
  | prev, e :: r => mayE e && (match prev with | none => true | some p => decide (cmp p e.path < 0)) && okG cmp (some e.path) r
/-- None of what is renamed has been told. -/
def srcG (told : List (List UInt8)) : List En → Bool
  | [] => true
  | e :: r => if e.op = 5 then (if e.src ∈ told then false else srcG (e.src :: told) r) else srcG told r
def rightE (l : List En) : Bool := okG cmpS none l && srcG (l.map En.path) l
theorem kget_kput (k k' : List UInt8) : ∀ l : List (List UInt8 × Bool), kget k (kput k' true l) = (decide (k' = k) || kget k l)
  | [] => by
    simp only [kput, kget]
    by_cases h : k' = k <;> simp [h]
  | p :: l => by
    unfold kput
    by_cases h1 : p.1 = k'
    · rw [if_pos h1]
      unfold kget
      by_cases h2 : k' = k
      · simp [h2]
      · have : ¬ p.1 = k := by rw [h1]; exact h2
        simp [h2, this]
    · rw [if_neg h1]
      unfold kget
      by_cases h2 : p.1 = k
      · have : ¬ k' = k := by rw [← h2]; exact fun e => h1 e.symm
        simp [h2, this]
      · simp only [if_neg h2]
        exact kget_kput k k' l
/-- What has been told, as a map. -/
def ToldM (T : List (List UInt8 × Bool)) (S : List (List UInt8)) : Prop := ∀ k, kget k T = decide (k ∈ S)
theorem ToldM.put {T : List (List UInt8 × Bool)} {S : List (List UInt8)} (h : ToldM T S) (k : List UInt8) : ToldM (kput k true T) (k :: S) := fun x => by
  rw [kget_kput, h x]
  by_cases h1 : k = x
  · simp [h1]
  · have : ¬ x = k := fun e => h1 e.symm
    simp [h1, this]
def ZQ (l : List En) (v : Nat) (R : Bool) (S : List (List UInt8)) (ex : Ex) (st' : St) : Prop := st'.df = none ∧ if R = true then ex = .exit 0 ∧ ∃ (i : AV) (T : List (List UInt8 × Bool)), ToldM T S ∧ st'.bx 8 = some (v, mapC T) ∧ st'.env = ofL [(0, sN l), (3, .mp 8 v), (9, sN l), (10, .int .i64 l.length), (11, i), (12, .bool false)] else ex = .ret ∧ st'.env = ofL [(2, .bool false)]
def En.ok (e : En) : Prop := e.path.length ≤ 1099511627776 ∧ e.script.length ≤ 1099511627776
theorem ok_loop (l : List En) (hl : l.length ≤ 1099511627776) (ho : ∀ e ∈ l, e.ok) (v : Nat) : ∀ (rest pre : List En) (i : Int) (S : List (List UInt8)) (T : List (List UInt8 × Bool)) (bx : Bx) (pm : Pm), l = pre ++ rest → i = pre.length → ToldM T S → bx 8 = some (v, mapC T) →
    Res (RunD Sy (.loop L26x0) ⟨ofL [(0, sN l), (3, .mp 8 v), (9, sN l), (10, .int .i64 l.length), (11, .int .i64 i)], bx, pm, none⟩) fun ex st' => ZQ l v (okG cmpS (pre.getLast?.map En.path) rest) ((rest.map En.path).reverse ++ S) ex st'
  | [], pre, i, S, T, bx, pm, h, hi, hS, hb => by
    subst hi
    rw [List.append_nil] at h
    subst h
    refine loop_step fun K hK => ?_
    simp [L26x0, okG]
    exact ⟨rfl, by simp; exact ⟨_, T, hS, hb, rfl⟩⟩
  | e :: rest, pre, i, S, T, bx, pm, h, hi, hS, hb => by
    subst hi
    have hlt : (pre.length : Int) < l.length := by rw [h]; simp; omega
    have hg : (l.map nA)[pre.length]? = some (nA e) := by rw [h]; simp
    have hc := chk_i64 ((pre.length : Int) + 1) (by omega)
    have heo := ho e (by rw [h]; simp)
    have hm := mayP_den e heo.2
    have hnx := fun T hT bx pm hb => ok_loop l hl ho v rest (pre ++ [e]) ((pre.length : Int) + 1) (e.path :: S) T bx pm (by simp [h]) (by simp) hT hb
    have hlast : (pre ++ [e]).getLast?.map En.path = some e.path := by simp
    rw [hlast] at hnx
    have hr : ((e :: rest).map En.path).reverse ++ S = (rest.map En.path).reverse ++ e.path :: S := by simp
    rw [hr]
    simp only [nA, eC] at hg hm
    refine loop_step fun K hK => ?_
    unfold okG
    by_cases h1 : mayE e = true
    · rcases nil_or_snoc pre with rfl | ⟨pre', d, rfl⟩
      · simp only [List.length_nil] at hlt hg hc
        have hl0 : 0 < l.length := by omega
        have hc1 := chk_i64 1 (by omega)
        simp [L26x0, -getElem?_pos, -List.getElem?_map, hl0, hg, hc1, hm, h1, hb, mputK, mapOf_mapC]
        rw [hK]
        exact hnx _ (hS.put e.path) _ _ (by simp)
      · have hg2 : (l.map nA)[pre'.length]? = some (nA d) := by rw [h]; simp
        have hdo := ho d (by rw [h]; simp)
        have hcp := cmpS_den d.path e.path hdo.1 heo.1
        simp only [nA, eC] at hg2
        have hpos : (0 : Int) < ((pre' ++ [d]).length : Nat) := by simp
        have hposn : 0 < (pre' ++ [d]).length := by simp
        have hsub : (((pre' ++ [d]).length : Nat) : Int) - 1 = pre'.length := by simp
        have hcs := chk_i64 (pre'.length : Int) (by simp at hlt; omega)
        have hlt2 : (pre'.length : Int) < l.length := by simp at hlt; omega
        have hl1 : (pre' ++ [d]).getLast?.map En.path = some d.path := by simp
        rw [hl1]
        generalize (pre' ++ [d]).length = n at *
        by_cases h2 : cmpS d.path e.path < 0
        · have h2' : ¬ 0 ≤ cmpS d.path e.path := by omega
          simp [L26x0, -getElem?_pos, -List.getElem?_map, hlt, hlt2, hg, hg2, hc, hcs, hm, h1, hpos, hposn, hsub, hb, mputK, mapOf_mapC, hcp, h2, h2']
          rw [hK]
          exact hnx _ (hS.put e.path) _ _ (by simp)
        · have h2' : 0 ≤ cmpS d.path e.path := by omega
          simp [L26x0, -getElem?_pos, -List.getElem?_map, hlt, hlt2, hg, hg2, hc, hcs, hm, h1, hpos, hposn, hsub, hb, mputK, mapOf_mapC, hcp, h2, h2']
          exact ⟨rfl, by simp⟩
    · simp [L26x0, -getElem?_pos, -List.getElem?_map, hlt, hg, hc, hm, h1]
      exact ⟨rfl, by simp⟩
def YQ (R : Bool) (ex : Ex) (st' : St) : Prop := st'.df = none ∧ if R = true then ex = .exit 2 else ex = .ret ∧ st'.env = ofL [(2, .bool false)]
theorem src_loop (l : List En) (hl : l.length ≤ 1099511627776) (v : Nat) : ∀ (rest pre : List En) (i : Int) (S : List (List UInt8)) (T : List (List UInt8 × Bool)) (bx : Bx) (pm : Pm), l = pre ++ rest → i = pre.length → ToldM T S → bx 8 = some (v, mapC T) →
    Res (RunD Sy (.loop L26x1) ⟨ofL [(3, .mp 8 v), (39, sN l), (40, .int .i64 l.length), (41, .int .i64 i)], bx, pm, none⟩) fun ex st' => YQ (srcG S rest) ex st'
  | [], pre, i, S, T, bx, pm, h, hi, hS, hb => by
    subst hi
    rw [List.append_nil] at h
    subst h
    refine loop_step fun K hK => ?_
    simp [L26x1, srcG]
    exact ⟨rfl, by simp⟩
  | e :: rest, pre, i, S, T, bx, pm, h, hi, hS, hb => by
    subst hi
    have hlt : (pre.length : Int) < l.length := by rw [h]; simp; omega
    have hg : (l.map nA)[pre.length]? = some (nA e) := by rw [h]; simp
    have hc := chk_i64 ((pre.length : Int) + 1) (by omega)
    have hnx := fun S T hT bx pm hb => src_loop l hl v rest (pre ++ [e]) ((pre.length : Int) + 1) S T bx pm (by simp [h]) (by simp) hT hb
    have hk := hS e.src
    simp only [nA, eC] at hg
    refine loop_step fun K hK => ?_
    unfold srcG
    by_cases h1 : e.op = 5
    · rw [if_pos h1]
      by_cases h2 : e.src ∈ S
      · rw [if_pos h2]
        have hk' : kget e.src T = true := by rw [hk]; simp [h2]
        simp [L26x1, -getElem?_pos, -List.getElem?_map, hlt, hg, hc, h1, hb, mgetK, mputK, mapOf_mapC, hk']
        exact ⟨rfl, by simp⟩
      · rw [if_neg h2]
        have hk' : kget e.src T = false := by rw [hk]; simp [h2]
        simp [L26x1, -getElem?_pos, -List.getElem?_map, hlt, hg, hc, h1, hb, mgetK, mputK, mapOf_mapC, hk']
        rw [hK]
        exact hnx _ _ (hS.put e.src) _ _ (by simp)
    · rw [if_neg h1]
      simp [L26x1, -getElem?_pos, -List.getElem?_map, hlt, hg, hc, h1, hb]
      rw [hK]
      exact hnx _ _ hS _ _ (by simp [hb])
theorem srcG_congr : ∀ (l : List En) (S S' : List (List UInt8)), (∀ k, k ∈ S ↔ k ∈ S') → srcG S l = srcG S' l
  | [], S, S', h => rfl
  | e :: r, S, S', h => by
    unfold srcG
    rw [srcG_congr r S S' h, srcG_congr r (e.src :: S) (e.src :: S') (fun k => by simp [h k])]
    simp only [h e.src]
theorem rightP_den (l : List En) (hl : l.length ≤ 1099511627776) (ho : ∀ e ∈ l, e.ok) : Den Sy 26 [sN l] = some (.bool (rightE l)) := by
  rw [Den_fun Sy (af := A26) rfl rfl _ rfl]
  have hl1 := fun v bx pm hb => ok_loop l hl ho v l [] 0 [] [] bx pm rfl rfl (fun k => rfl) hb
  have hl2 := fun v S T bx pm hT hb => src_loop l hl v l [] 0 S T bx pm rfl rfl hT hb
  simp [A26]
  generalize hX : RunD Sy (.loop L26x0) _ = X
  obtain ⟨ex, st', rfl, hd, hR⟩ := Res.at hX (hl1 _ _ _ (by simp))
  rw [List.append_nil] at hR
  unfold rightE
  by_cases h1 : okG cmpS none l = true
  · rw [if_pos (by simpa using h1)] at hR
    obtain ⟨rfl, i, T, hT, hb, he⟩ := hR
    obtain ⟨env, bx, pm, df⟩ := st'
    simp only at hd hb he
    subst hd he
    simp
    generalize hZ : RunD Sy (.loop L26x1) _ = Z
    obtain ⟨ex, st', rfl, hd2, hR2⟩ := Res.at hZ (hl2 _ _ T _ _ hT hb)
    rw [srcG_congr l _ (l.map En.path) (fun k => by simp)] at hR2
    by_cases h2 : srcG (l.map En.path) l = true
    · rw [if_pos h2] at hR2
      subst hR2
      simp [hd2, h1, h2]
    · rw [if_neg h2] at hR2
      obtain ⟨rfl, h3⟩ := hR2
      simp [hd2, h1, h2, h3]
  · rw [if_neg (by simpa using h1)] at hR
    obtain ⟨rfl, h3⟩ := hR
    simp [hd, h1, h3]

def badB (e d : En) (i k : Nat) : Bool := decide (e.op = 5) && (decide (d.path = e.src) || (decide (k ≠ i) && decide (d.op = 5) && decide (d.src = e.src)))
def innG (e : En) (i : Nat) : Nat → List En → Bool
  | _, [] => true
  | k, d :: r => !badB e d i k && innG e i (k + 1) r
def rrG (l : List En) : Nat → Option (List UInt8) → List En → Bool
  | _, _, [] => true
  | i, prev, e :: r => (mayE e && (match prev with | none => true | some p => decide (cmpP p e.path < 0))) && innG e i 0 l && rrG l (i + 1) (some e.path) r
def rightR (l : List En) : Bool := rrG l 0 none l
def IQ (l : List En) (i3 : AV) (R : Bool) (ex : Ex) (st' : St) (bx : Bx) (pm : Pm) : Prop := if R = true then ex = .exit 2 ∧ ∃ k, st' = ⟨ofL [(0, sN l), (3, i3), (5, k), (41, .bool false)], bx, pm, none⟩ else ex = .ret ∧ st' = ⟨ofL [(2, .bool false)], bx, pm, none⟩
theorem inn_loop (l : List En) (hl : l.length ≤ 1099511627776) (e : En) (i : Nat) (hi : l[i]? = some e) (bx : Bx) (pm : Pm) : ∀ (rest pre : List En) (k : Nat), l = pre ++ rest → k = pre.length →
    Res (RunD Sy (.loop L31x0) ⟨ofL [(0, sN l), (3, .int .i64 i), (5, .int .i64 k)], bx, pm, none⟩) fun ex st' => IQ l (.int .i64 i) (innG e i k rest) ex st' bx pm
  | [], pre, k, h, hk => by
    subst hk
    rw [List.append_nil] at h
    subst h
    refine loop_step fun K hK => ?_
    simp [L31x0, innG]
    unfold IQ
    simp
    exact ⟨_, rfl⟩
  | d :: rest, pre, k, h, hk => by
    subst hk
    have hltn : pre.length < l.length := by rw [h]; simp
    have hlt : (pre.length : Int) < l.length := by omega
    have hiln : i < l.length := (List.getElem?_eq_some_iff.1 hi).1
    have hil : (i : Int) < l.length := by omega
    have hg : (l.map nA)[pre.length]? = some (nA d) := by rw [h]; simp
    have hg2 : (l.map nA)[i]? = some (nA e) := by rw [List.getElem?_map, hi]; rfl
    have hc := chk_i64 ((pre.length : Int) + 1) (by omega)
    have hnx := inn_loop l hl e i hi bx pm rest (pre ++ [d]) (pre.length + 1) (by simp [h]) (by simp)
    have hcast : ((pre.length + 1 : Nat) : Int) = (pre.length : Int) + 1 := by omega
    rw [hcast] at hnx
    simp only [nA, eC] at hg hg2
    unfold innG badB
    refine loop_step fun K hK => ?_
    by_cases h1 : e.op = 5
    · by_cases h2 : d.path = e.src
      · simp [L31x0, -getElem?_pos, -List.getElem?_map, hlt, hil, hg, hg2, hc, h1, h2]
        simp [IQ]
      · by_cases h3 : pre.length = i
        · have h3i : (pre.length : Int) = i := by omega
          simp [L31x0, -getElem?_pos, -List.getElem?_map, hlt, hil, hg, hg2, hc, h1, h2, eq_true h3, eq_true h3i]
          rw [hK]
          exact hnx
        · have h3i : ¬ (pre.length : Int) = i := by omega
          by_cases h4 : d.op = 5
          · by_cases h5 : d.src = e.src
            · simp [L31x0, -getElem?_pos, -List.getElem?_map, hlt, hil, hg, hg2, hc, h1, h2, h3, h3i, h4, h5]
              simp [IQ]
            · simp [L31x0, -getElem?_pos, -List.getElem?_map, hlt, hil, hg, hg2, hc, h1, h2, h3, h3i, h4, h5]
              rw [hK]
              exact hnx
          · simp [L31x0, -getElem?_pos, -List.getElem?_map, hlt, hil, hg, hg2, hc, h1, h2, h3, h3i, h4]
            rw [hK]
            exact hnx
    · simp [L31x0, -getElem?_pos, -List.getElem?_map, hlt, hil, hg, hg2, hc, h1]
      rw [hK]
      exact hnx
def OQ (R : Bool) (ex : Ex) (st' : St) : Prop := st'.df = none ∧ if R = true then ex = .exit 0 else ex = .ret ∧ st'.env = ofL [(2, .bool false)]
theorem rr_loop (l : List En) (hl : l.length ≤ 1099511627776) (ho : ∀ e ∈ l, e.ok) (bx : Bx) (pm : Pm) : ∀ (rest pre : List En) (i : Nat), l = pre ++ rest → i = pre.length →
    Res (RunD Sy (.loop L31x1) ⟨ofL [(0, sN l), (3, .int .i64 i)], bx, pm, none⟩) fun ex st' => OQ (rrG l i (pre.getLast?.map En.path) rest) ex st'
  | [], pre, i, h, hi => by
    subst hi
    rw [List.append_nil] at h
    subst h
    refine loop_step fun K hK => ?_
    simp [L31x1, rrG]
    simp [OQ]
  | e :: rest, pre, i, h, hi => by
    subst hi
    have hltn : pre.length < l.length := by rw [h]; simp
    have hlt : (pre.length : Int) < l.length := by omega
    have hge : l[pre.length]? = some e := by rw [h]; simp
    have hg : (l.map nA)[pre.length]? = some (nA e) := by rw [h]; simp
    have hc := chk_i64 ((pre.length : Int) + 1) (by omega)
    have heo := ho e (by rw [h]; simp)
    have hm := mayR_den e heo.2
    have hin := inn_loop l hl e pre.length hge bx pm l [] 0 rfl rfl
    have hnx := rr_loop l hl ho bx pm rest (pre ++ [e]) (pre.length + 1) (by simp [h]) (by simp)
    have hcast : ((pre.length + 1 : Nat) : Int) = (pre.length : Int) + 1 := by omega
    have hlast : (pre ++ [e]).getLast?.map En.path = some e.path := by simp
    rw [hlast, hcast] at hnx
    have hz : ((0 : Nat) : Int) = 0 := rfl
    rw [hz] at hin
    simp only [nA, eC] at hg hm
    unfold rrG
    obtain ⟨exi, sti, hLi, hRi⟩ := hin
    refine loop_step fun K hK => ?_
    by_cases h1 : mayE e = true
    · rcases nil_or_snoc pre with rfl | ⟨pre', d, rfl⟩
      · simp only [List.length_nil] at *
        simp only [hz] at *
        by_cases h3 : innG e 0 0 l = true
        · rw [h3] at hRi
          obtain ⟨rfl, k, rfl⟩ := (show exi = .exit 2 ∧ ∃ k, sti = _ from hRi)
          have hl0 : 0 < l.length := by omega
          have hc1 := chk_i64 1 (by omega)
          simp [L31x1, -getElem?_pos, -List.getElem?_map, hl0, hg, hc1, hm, h1, hLi, h3]
          rw [hK]
          simpa using hnx
        · simp only [Bool.not_eq_true] at h3
          rw [h3] at hRi
          obtain ⟨rfl, rfl⟩ := (show exi = .ret ∧ sti = _ from hRi)
          have hl0 : 0 < l.length := by omega
          simp [L31x1, -getElem?_pos, -List.getElem?_map, hl0, hg, hm, h1, hLi, h3]
          simp [OQ]
      · have hg2 : (l.map nA)[pre'.length]? = some (nA d) := by rw [h]; simp
        have hdo := ho d (by rw [h]; simp)
        have hcp := cmp_den d.path e.path hdo.1 heo.1
        simp only [nA, eC] at hg2
        have hpos : (0 : Int) < ((pre' ++ [d]).length : Nat) := by simp
        have hposn : 0 < (pre' ++ [d]).length := by simp
        have hsub : (((pre' ++ [d]).length : Nat) : Int) - 1 = pre'.length := by simp
        have hcs := chk_i64 (pre'.length : Int) (by simp at hlt; omega)
        have hlt2 : (pre'.length : Int) < l.length := by simp at hlt; omega
        have hl1 : (pre' ++ [d]).getLast?.map En.path = some d.path := by simp
        rw [hl1]
        generalize (pre' ++ [d]).length = n at *
        by_cases h2 : cmpP d.path e.path < 0
        · have h2' : ¬ 0 ≤ cmpP d.path e.path := by omega
          by_cases h3 : innG e n 0 l = true
          · rw [h3] at hRi
            obtain ⟨rfl, k, rfl⟩ := (show exi = .exit 2 ∧ ∃ k, sti = _ from hRi)
            simp [L31x1, -getElem?_pos, -List.getElem?_map, hlt, hlt2, hg, hg2, hc, hcs, hm, h1, hpos, hposn, hsub, hcp, h2, h2', hLi, h3]
            rw [hK]
            exact hnx
          · simp only [Bool.not_eq_true] at h3
            rw [h3] at hRi
            obtain ⟨rfl, rfl⟩ := (show exi = .ret ∧ sti = _ from hRi)
            simp [L31x1, -getElem?_pos, -List.getElem?_map, hlt, hlt2, hg, hg2, hc, hcs, hm, h1, hpos, hposn, hsub, hcp, h2, h2', hLi, h3]
            simp [OQ]
        · have h2' : 0 ≤ cmpP d.path e.path := by omega
          simp [L31x1, -getElem?_pos, -List.getElem?_map, hlt, hlt2, hg, hg2, hc, hcs, hm, h1, hpos, hposn, hsub, hcp, h2, h2']
          simp [OQ]
    · simp [L31x1, -getElem?_pos, -List.getElem?_map, hlt, hg, hc, hm, h1]
      simp [OQ]
theorem rightR_den (l : List En) (hl : l.length ≤ 1099511627776) (ho : ∀ e ∈ l, e.ok) : Den Sy 31 [sN l] = some (.bool (rightR l)) := by
  rw [Den_fun Sy (af := A31) rfl rfl _ rfl]
  obtain ⟨ex, st', hL, hd, hR⟩ := rr_loop l hl ho (ofL []) none' l [] 0 rfl rfl
  have hz : ((0 : Nat) : Int) = 0 := rfl
  rw [hz] at hL
  unfold rightR
  by_cases h1 : rrG l 0 none l = true
  · rw [if_pos (by simpa using h1)] at hR
    subst hR
    simp [A31, hL, hd, h1]
  · rw [if_neg (by simpa using h1)] at hR
    obtain ⟨rfl, h3⟩ := hR
    simp [A31, hL, hd, h1, h3]

def numN (n : Int) : List UInt8 := Lib.itoa n ++ [59]
def txtN (s : List UInt8) : List UInt8 := Lib.itoa s.length ++ [58] ++ s
def encN (e : En) : List UInt8 := numN e.op ++ (txtN e.path ++ (txtN e.src ++ (numN e.old ++ (numN e.new ++ (txtN e.data ++ (numN e.score ++ txtN (encL e.script)))))))
def encNL (l : List En) : List UInt8 := l.flatMap encN
theorem numw_den (k : Int) (h : inR k) : Den Sy 28 [.int .i64 k] = some (.wr 67 (numN k)) := by
  rw [Den_ext Sy (F := numberF) rfl]
  unfold inR at h
  simp only [numberF]
  rw [if_pos h]
  rfl
theorem txtw_den (s : List UInt8) (h : s.length ≤ 140737488355328) : Den Sy 29 [.str s] = some (.wr 67 (txtN s)) := by
  rw [Den_ext Sy (F := textF) rfl]
  simp only [textF]
  rw [if_pos h]
  rfl
/-- The report's writer, behind some bytes. -/
def WS (bx : Bx) (v : Nat) (l : List UInt8) : Prop := (l = [] ∧ bx 4 = some (v, [.bfresh 67 4 v, .sl 1 [] .nil])) ∨ ∃ t r, Bd bx v t r l
theorem wstep {bx : Bx} {v : Nat} {l : List UInt8} (h : WS bx v l) (d : Nat) (bs : List UInt8) (hn : bs ≠ []) (hl : l.length + bs.length ≤ 1099511627776) : ∃ b' bx', (∀ env pm df, wrsK (200000 + d) ⟨env, bx, pm, df⟩ 4 v (some (.wr 67 bs)) = some ⟨.opq, b', [], false⟩) ∧ updL bx b' = bx' ∧ WS bx' v (l ++ bs) ∧ ∀ k, k < 100000 → k ≠ 4 → bx' k = bx k := by
  rcases h with ⟨rfl, b4⟩ | ⟨t, r, b4, bt, h200⟩
  · have h3 : bs.length ≤ 140737488355328 := by simp at hl; omega
    have h4 : ¬ 4 = 200000 + d := by omega
    refine ⟨[(200000 + d, nextB bx (200000 + d), byteC bs), (4, v, [.ptr 4 v 0, .own 1 false (200000 + d) (nextB bx (200000 + d)) bs.length])], upd (upd bx (200000 + d) (nextB bx (200000 + d), byteC bs)) 4 (v, [.ptr 4 v 0, .own 1 false (200000 + d) (nextB bx (200000 + d)) bs.length]), fun env pm df => ?_, rfl, .inr ⟨200000 + d, nextB bx (200000 + d), ⟨by simp, ?_, by omega⟩⟩, fun k hk hk4 => ?_⟩
    · simp [wrsK, b4, selfP, wrsB, hn, h3, h4, byteC_dead, -deadC]
    · have : ¬ 200000 + d = 4 := by omega
      simp [this, h4]
    · have h1 : ¬ 4 = k := fun e => hk4 e.symm
      have h2 : ¬ 200000 + d = k := by omega
      simp [h1, h2, hk4]
  · have h3 : l.length + bs.length ≤ 140737488355328 := by omega
    have h4 : ¬ 4 = t := by omega
    refine ⟨[(t, r + 1, byteC l ++ byteC bs), (4, v, [.ptr 4 v 0, .own 1 false t (r + 1) (l.length + bs.length)])], upd (upd bx t (r + 1, byteC l ++ byteC bs)) 4 (v, [.ptr 4 v 0, .own 1 false t (r + 1) (l.length + bs.length)]), fun env pm df => ?_, rfl, .inr ⟨t, r + 1, ⟨by simp, ?_, h200⟩⟩, fun k hk hk4 => ?_⟩
    · simp [wrsK, b4, bt, selfP, wrsB, h3, h4, h200, byteC_dead, byteC_dead2, byteC_len, asBytes_byteC, -deadC]
    · have : ¬ t = 4 := by omega
      simp [this, h4, byteC_app]
    · have h1 : ¬ 4 = k := fun e => hk4 e.symm
      have h2 : ¬ t = k := by omega
      simp [h1, h2, hk4]
theorem mayE_num {e : En} (h : mayE e = true) : 0 ≤ e.op ∧ e.op ≤ 5 ∧ 0 ≤ e.old ∧ e.old ≤ 3 ∧ 0 ≤ e.new ∧ e.new ≤ 3 ∧ 0 ≤ e.score ∧ e.score ≤ 100 ∧ rightB e.script = true := by
  unfold mayE plainE kindB at h
  have hn : e.script = [] → rightB e.script = true := fun h => by rw [h]; rfl
  repeat' split at h
  all_goals try simp only [Bool.and_eq_true, decide_eq_true_eq] at h
  · exact ⟨by omega, by omega, by omega, by omega, by omega, by omega, by omega, by omega, hn h.2⟩
  · exact ⟨by omega, by omega, by omega, by omega, by omega, by omega, by omega, by omega, hn h.2⟩
  · exact ⟨by omega, by omega, by omega, by omega, by omega, by omega, by omega, by omega, hn h.2⟩
  · exact ⟨by omega, by omega, by omega, by omega, by omega, by omega, by omega, by omega, h.2⟩
  · exact ⟨by omega, by omega, by omega, by omega, by omega, by omega, by omega, by omega, h.2⟩
  · simp at h
theorem numN_ne (n : Int) : numN n ≠ [] := by simp [numN]
theorem txtN_ne (s : List UInt8) : txtN s ≠ [] := by simp [txtN]
def NQ (l : List En) (v : Nat) (L : List UInt8) (ex : Ex) (st' : St) : Prop := ex = .exit 0 ∧ st'.df = none ∧ st'.env 4 = some (.ptr 4 v 0) ∧ WS st'.bx v L
set_option maxHeartbeats 2000000 in
theorem encN_loop (l : List En) (hl : l.length ≤ 1099511627776) (hm : ∀ e ∈ l, mayE e = true) (ho : ∀ e ∈ l, e.ok) (v : Nat) : ∀ (rest pre : List En) (i : Int) (L : List UInt8) (bx : Bx) (pm : Pm), l = pre ++ rest → i = pre.length → WS bx v L → L.length + (encNL rest).length ≤ 1099511627776 →
    Res (RunD Sy (.loop L12x0) ⟨ofL [(4, .ptr 4 v 0), (12, sN l), (13, .int .i64 l.length), (14, .int .i64 i)], bx, pm, none⟩) fun ex st' => NQ l v (L ++ encNL rest) ex st'
  | [], pre, i, L, bx, pm, h, hi, hW, hL => by
    subst hi
    rw [List.append_nil] at h
    subst h
    refine loop_step fun K hK => ?_
    simp [L12x0, encNL]
    exact ⟨rfl, rfl, by simp, hW⟩
  | e :: rest, pre, i, L, bx, pm, h, hi, hW, hL => by
    subst hi
    have hlt : (pre.length : Int) < l.length := by rw [h]; simp; omega
    have hg : (l.map nA)[pre.length]? = some (nA e) := by rw [h]; simp
    have hc := chk_i64 ((pre.length : Int) + 1) (by omega)
    obtain ⟨m1, m2, m3, m4, m5, m6, m7, m8, m9⟩ := mayE_num (hm e (by rw [h]; simp))
    have heo := ho e (by rw [h]; simp)
    have hel : (encNL (e :: rest)).length = (encN e).length + (encNL rest).length := by simp [encNL]
    have hel2 : (encN e).length = (numN e.op).length + (txtN e.path).length + (txtN e.src).length + (numN e.old).length + (numN e.new).length + (txtN e.data).length + (numN e.score).length + (txtN (encL e.script)).length := by simp only [encN, List.length_append]; omega
    have ht : ∀ s : List UInt8, s.length ≤ (txtN s).length := fun s => by simp only [txtN, List.length_append]; omega
    have t1 := ht e.path
    have t2 := ht e.src
    have t3 := ht e.data
    have t4 := ht (encL e.script)
    have hs := encode_den e.script heo.2 (by omega)
    rw [if_pos m9] at hs
    have d1 := numw_den e.op ⟨by omega, by omega⟩
    have d2 := txtw_den e.path (by omega)
    have d3 := txtw_den e.src (by omega)
    have d4 := numw_den e.old ⟨by omega, by omega⟩
    have d5 := numw_den e.new ⟨by omega, by omega⟩
    have d6 := txtw_den e.data (by omega)
    have d7 := numw_den e.score ⟨by omega, by omega⟩
    have d8 := txtw_den (encL e.script) (by omega)
    simp only [nA, eC] at hg
    refine loop_step fun K hK => ?_
    generalize hbx0 : upd (upd bx 6 (nextB bx 6, [AV.int IntKind.i64 0, AV.str [], AV.str [], AV.int IntKind.i64 0, AV.int IntKind.i64 0, AV.str [], AV.int IntKind.i64 0, AV.sl 3 [] Perm.nil])) 6 (nextB bx 6, [AV.int IntKind.i64 e.op, AV.str e.path, AV.str e.src, AV.int IntKind.i64 e.old, AV.int IntKind.i64 e.new, AV.str e.data, AV.int IntKind.i64 e.score, sE e.script]) = bx0
    have hW0 : WS bx0 v L := by
      subst hbx0
      rcases hW with ⟨h1, h2⟩ | ⟨t, r, h1, h2, h3⟩
      · exact .inl ⟨h1, by simp [h2]⟩
      · have : ¬ 6 = t := by omega
        exact .inr ⟨t, r, ⟨by simp [h1], by simp [this, h2], h3⟩⟩
    have h60 : bx0 6 = some (nextB bx 6, [AV.int IntKind.i64 e.op, AV.str e.path, AV.str e.src, AV.int IntKind.i64 e.old, AV.int IntKind.i64 e.new, AV.str e.data, AV.int IntKind.i64 e.score, sE e.script]) := by subst hbx0; simp
    obtain ⟨b1, bx1, w1, u1, W1, f1⟩ := wstep hW0 26 (numN e.op) (numN_ne _) (by omega)
    obtain ⟨b2, bx2, w2, u2, W2, f2⟩ := wstep W1 29 (txtN e.path) (txtN_ne _) (by simp only [List.length_append]; omega)
    obtain ⟨b3, bx3, w3, u3, W3, f3⟩ := wstep W2 32 (txtN e.src) (txtN_ne _) (by simp only [List.length_append]; omega)
    obtain ⟨b4, bx4, w4, u4, W4, f4⟩ := wstep W3 35 (numN e.old) (numN_ne _) (by simp only [List.length_append]; omega)
    obtain ⟨b5, bx5, w5, u5, W5, f5⟩ := wstep W4 38 (numN e.new) (numN_ne _) (by simp only [List.length_append]; omega)
    obtain ⟨b6, bx6, w6, u6, W6, f6⟩ := wstep W5 41 (txtN e.data) (txtN_ne _) (by simp only [List.length_append]; omega)
    obtain ⟨b7, bx7, w7, u7, W7, f7⟩ := wstep W6 44 (numN e.score) (numN_ne _) (by simp only [List.length_append]; omega)
    obtain ⟨b8, bx8, w8, u8, W8, f8⟩ := wstep W7 46 (txtN (encL e.script)) (txtN_ne _) (by simp only [List.length_append]; omega)
    have h61 : bx1 6 = _ := (f1 6 (by omega) (by omega)).trans h60
    have h62 : bx2 6 = _ := (f2 6 (by omega) (by omega)).trans h61
    have h63 : bx3 6 = _ := (f3 6 (by omega) (by omega)).trans h62
    have h64 : bx4 6 = _ := (f4 6 (by omega) (by omega)).trans h63
    have h65 : bx5 6 = _ := (f5 6 (by omega) (by omega)).trans h64
    have h66 : bx6 6 = _ := (f6 6 (by omega) (by omega)).trans h65
    have hnx := encN_loop l hl hm ho v rest (pre ++ [e]) ((pre.length : Int) + 1) (L ++ encN e) bx8 pm (by simp [h]) (by simp) (by
      have e2 : L ++ encN e = L ++ numN e.op ++ txtN e.path ++ txtN e.src ++ numN e.old ++ numN e.new ++ txtN e.data ++ numN e.score ++ txtN (encL e.script) := by simp only [encN, List.append_assoc]
      rw [e2]
      exact W8) (by rw [List.length_append]; omega)
    have e3 : L ++ encN e ++ encNL rest = L ++ encNL (e :: rest) := by simp [encNL]
    rw [e3] at hnx
    simp [L12x0, -getElem?_pos, -List.getElem?_map, -wrsK, List.getElem?_cons_zero, List.getElem?_cons_succ, hlt, hg, hc, hbx0, h60, h61, h62, h63, h64, h65, h66, hs, d1, d2, d3, d4, d5, d6, d7, d8, w1, w2, w3, w4, w5, w6, w7, w8, u1, u2, u3, u4, u5, u6, u7, u8]
    rw [hK]
    exact hnx

theorem okG_may {cmp : List UInt8 → List UInt8 → Int} : ∀ {l : List En} {p : Option (List UInt8)}, okG cmp p l = true → ∀ e ∈ l, mayE e = true
  | [], p, h => by simp
  | e :: r, p, h => by
    unfold okG at h
    simp only [Bool.and_eq_true] at h
    intro x hx
    rcases List.mem_cons.1 hx with rfl | hx
    · exact h.1.1
    · exact okG_may h.2 x hx
theorem rightE_may {l : List En} (h : rightE l = true) : ∀ e ∈ l, mayE e = true := by
  unfold rightE at h
  simp only [Bool.and_eq_true] at h
  exact okG_may h.1
theorem rrG_may (L : List En) : ∀ {l : List En} {i : Nat} {p : Option (List UInt8)}, rrG L i p l = true → ∀ e ∈ l, mayE e = true
  | [], i, p, h => by simp
  | e :: r, i, p, h => by
    unfold rrG at h
    simp only [Bool.and_eq_true] at h
    intro x hx
    rcases List.mem_cons.1 hx with rfl | hx
    · exact h.1.1.1
    · exact rrG_may L h.2 x hx
def encA (b : Bool) (l : List En) : AV := if b = true then .tup [.str (encNL l), .int .i64 0] else .tup [.str [], .int .i64 1]
theorem encP_den (l : List En) (hl : l.length ≤ 1099511627776) (ho : ∀ e ∈ l, e.ok) (hb : (encNL l).length ≤ 1099511627776) : Den Sy 12 [sN l] = some (encA (rightE l) l) := by
  rw [Den_fun Sy (af := A12) rfl rfl _ rfl]
  have hrd := rightP_den l hl ho
  unfold encA
  by_cases hr : rightE l = true
  · obtain ⟨ex, st', hL, rfl, hdf, h4, hB⟩ := encN_loop l hl (rightE_may hr) ho (nextB (ofL []) 4) l [] 0 [] (upd (ofL []) 4 (nextB (ofL []) 4, [.bfresh 67 4 (nextB (ofL []) 4), .sl 1 [] .nil])) none' rfl rfl (.inl ⟨rfl, by simp⟩) (by simpa using hb)
    rw [List.nil_append] at hB
    rcases hB with ⟨h0, b4⟩ | ⟨t, r, b4, bt, h200⟩
    · simp [A12, hrd, hr, hL, hdf, h4, b4, str_den, h0]
    · have h4t : ¬ 4 = t := by omega
      have hb' : (encNL l).length ≤ 140737488355328 := by omega
      simp [A12, -deadC, deadC_cells, byteC_dead, byteC_len, asBytes_byteC, hrd, hr, hL, hdf, h4, b4, bt, h200, eq_false h4t, str_den, hb']
  · simp [A12, hrd, hr]
theorem num12_den (n : Int) (h0 : 0 ≤ n) (h1 : n ≤ 9223372036854775807) : Den Sy 33 [.int .i64 n] = some (.str (numN n)) := by
  rw [Den_fun Sy (af := A33) rfl rfl _ rfl]
  have hd := dg_den h0 h1
  have hl := itoa_len n ⟨by omega, h1⟩
  have h2 : (Lib.itoa n).length + 1 ≤ 9223372036854775807 := by omega
  simp [A33, hd, h2, numN]
theorem txt12_den (s : List UInt8) (hs : s.length ≤ 1099511627776) : Den Sy 34 [.str s] = some (.str (txtN s)) := by
  rw [Den_fun Sy (af := A34) rfl rfl _ rfl]
  have hd := dg_den (n := s.length) (by omega) (by omega)
  have hl := itoa_len (s.length : Int) ⟨by omega, by omega⟩
  have h2 : (Lib.itoa s.length).length + 1 ≤ 9223372036854775807 := by omega
  have h3 : (Lib.itoa s.length).length + 1 + s.length ≤ 9223372036854775807 := by omega
  have h4 : (Lib.itoa s.length).length + (s.length + 1) ≤ 9223372036854775807 := by omega
  simp [A34, hd, h2, h3, h4, txtN]
def MQ (L : List UInt8) (ex : Ex) (st' : St) : Prop := ex = .exit 0 ∧ st'.df = none ∧ st'.env 5 = some (.str L)
set_option maxHeartbeats 2000000 in
theorem enc12_loop (l : List En) (hl : l.length ≤ 1099511627776) (hm : ∀ e ∈ l, mayE e = true) (ho : ∀ e ∈ l, e.ok) (bx : Bx) (pm : Pm) : ∀ (rest pre : List En) (i : Int) (L : List UInt8), l = pre ++ rest → i = pre.length → L.length + (encNL rest).length ≤ 1099511627776 →
    Res (RunD Sy (.loop L13x0) ⟨ofL [(0, sN l), (5, .str L), (6, .int .i64 i)], bx, pm, none⟩) fun ex st' => MQ (L ++ encNL rest) ex st'
  | [], pre, i, L, h, hi, hL => by
    subst hi
    rw [List.append_nil] at h
    subst h
    refine loop_step fun K hK => ?_
    simp [L13x0, encNL]
    exact ⟨rfl, rfl, by simp⟩
  | e :: rest, pre, i, L, h, hi, hL => by
    subst hi
    have hlt : (pre.length : Int) < l.length := by rw [h]; simp; omega
    have hg : (l.map nA)[pre.length]? = some (nA e) := by rw [h]; simp
    have hc := chk_i64 ((pre.length : Int) + 1) (by omega)
    obtain ⟨m1, m2, m3, m4, m5, m6, m7, m8, m9⟩ := mayE_num (hm e (by rw [h]; simp))
    have heo := ho e (by rw [h]; simp)
    have hel : (encNL (e :: rest)).length = (encN e).length + (encNL rest).length := by simp [encNL]
    have hel2 : (encN e).length = (numN e.op).length + (txtN e.path).length + (txtN e.src).length + (numN e.old).length + (numN e.new).length + (txtN e.data).length + (numN e.score).length + (txtN (encL e.script)).length := by simp only [encN, List.length_append]; omega
    have ht : ∀ s : List UInt8, s.length ≤ (txtN s).length := fun s => by simp only [txtN, List.length_append]; omega
    have t1 := ht e.path
    have t2 := ht e.src
    have t3 := ht e.data
    have t4 := ht (encL e.script)
    have hs := encode2_den e.script heo.2 (by omega)
    rw [if_pos m9] at hs
    have d1 := num12_den e.op (by omega) (by omega)
    have d2 := txt12_den e.path (by omega)
    have d3 := txt12_den e.src (by omega)
    have d4 := num12_den e.old (by omega) (by omega)
    have d5 := num12_den e.new (by omega) (by omega)
    have d6 := txt12_den e.data (by omega)
    have d7 := num12_den e.score (by omega) (by omega)
    have d8 := txt12_den (encL e.script) (by omega)
    have e3 : L ++ encN e ++ encNL rest = L ++ encNL (e :: rest) := by simp [encNL]
    have hnx := enc12_loop l hl hm ho bx pm rest (pre ++ [e]) ((pre.length : Int) + 1) (L ++ encN e) (by simp [h]) (by simp) (by rw [List.length_append]; omega)
    rw [e3] at hnx
    rw [hel2] at hel
    clear hel2
    unfold encN at hnx
    generalize numN e.op = x1 at *
    generalize txtN e.path = x2 at *
    generalize txtN e.src = x3 at *
    generalize numN e.old = x4 at *
    generalize numN e.new = x5 at *
    generalize txtN e.data = x6 at *
    generalize numN e.score = x7 at *
    generalize txtN (encL e.script) = x8 at *
    simp only [nA, eC] at hg
    have s1 : L.length + x1.length ≤ 9223372036854775807 := by omega
    have s2 : L.length + (x1.length + x2.length) ≤ 9223372036854775807 := by omega
    have s3 : L.length + (x1.length + (x2.length + x3.length)) ≤ 9223372036854775807 := by omega
    have s4 : L.length + (x1.length + (x2.length + (x3.length + x4.length))) ≤ 9223372036854775807 := by omega
    have s5 : L.length + (x1.length + (x2.length + (x3.length + (x4.length + x5.length)))) ≤ 9223372036854775807 := by omega
    have s6 : L.length + (x1.length + (x2.length + (x3.length + (x4.length + (x5.length + x6.length))))) ≤ 9223372036854775807 := by omega
    have s7 : L.length + (x1.length + (x2.length + (x3.length + (x4.length + (x5.length + (x6.length + x7.length)))))) ≤ 9223372036854775807 := by omega
    have s8 : L.length + (x1.length + (x2.length + (x3.length + (x4.length + (x5.length + (x6.length + (x7.length + x8.length))))))) ≤ 9223372036854775807 := by omega
    refine loop_step fun K hK => ?_
    simp [L13x0, -getElem?_pos, -List.getElem?_map, List.getElem?_cons_zero, List.getElem?_cons_succ, hlt, hg, hc, hs, d1, d2, d3, d4, d5, d6, d7, d8, Nat.add_assoc, s1, s2, s3, s4, s5, s6, s7, s8]
    rw [hK]
    exact hnx
theorem enc12_den (l : List En) (hl : l.length ≤ 1099511627776) (ho : ∀ e ∈ l, e.ok) (hb : rightR l = true → (encNL l).length ≤ 1099511627776) : Den Sy 13 [sN l] = some (encA (rightR l) l) := by
  rw [Den_fun Sy (af := A13) rfl rfl _ rfl]
  have hrd := rightR_den l hl ho
  unfold encA
  by_cases hr : rightR l = true
  · obtain ⟨ex, st', hL, rfl, hdf, h5⟩ := enc12_loop l hl (rrG_may l hr) ho (ofL []) none' l [] 0 [] rfl rfl (by simpa using hb hr)
    simp [A13, hrd, hr, hL, hdf, h5]
  · simp [A13, hrd, hr]

theorem orR_den (b : Bool) : Den Sy 37 [.bool b] = some (if b = true then .tup [] else .out true .opq []) := by rw [Den_ext Sy (F := orF) rfl]; cases b <;> rfl
theorem orR_true : Den Sy 37 [.bool true] = some (.tup []) := orR_den true
theorem orR_false : Den Sy 37 [.bool false] = some (.out true .opq []) := orR_den false
theorem litIndex_den (t : List UInt8) (c : UInt8) : Den Sy 104 [.str t, .str [c]] = some (.int .i64 (Lib.indexByte t c)) := by rw [Den_ext Sy (F := indexF) rfl]; rfl
def cutF (t : List UInt8) (c : UInt8) : AV := if 0 ≤ Lib.indexByte t c then .tup [.str (t.take (Lib.indexByte t c).toNat), .str (t.drop ((Lib.indexByte t c).toNat + 1)), .bool true] else .tup [.str t, .str [], .bool false]
theorem cut101_den (t : List UInt8) (c : UInt8) (ht : t.length ≤ 1099511627776) : Den Sy 101 [.str t, .str [c]] = some (cutF t c) := by
  rw [Den_fun Sy (af := A101) rfl rfl _ rfl]
  have hx := litIndex_den t c
  have hb := idx_lt t c
  unfold cutF
  generalize Lib.indexByte t c = a at hx hb ⊢
  by_cases h : 0 ≤ a
  · have hle : a ≤ t.length := by omega
    have hle1 : a + 1 ≤ t.length := by omega
    have hc := chk_i64 (a + 1) (by omega)
    have h1 : 0 ≤ a + 1 := by omega
    have htn : (a + 1).toNat = a.toNat + 1 := by omega
    simp [A101, hx, h, hle, hc, h1, hle1, htn]
  · simp [A101, hx, h]
theorem cut_den (t : List UInt8) (c : UInt8) (ht : t.length ≤ 1099511627776) : Den Sy 82 [.str t, .str [c]] = some (cutF t c) := by
  rw [Den_fun Sy (af := A82) rfl rfl _ rfl]
  have hx := cut101_den t c ht
  unfold cutF at hx ⊢
  by_cases h : 0 ≤ Lib.indexByte t c
  · rw [if_pos h] at hx ⊢
    simp [A82, List.getElem?_cons_zero, List.getElem?_cons_succ, -getElem?_pos, hx]
  · rw [if_neg h] at hx ⊢
    simp [A82, List.getElem?_cons_zero, List.getElem?_cons_succ, -getElem?_pos, hx]
theorem atoi_empty : (∀ v, Lib.atoiAll [] ≠ .ok v) ∧ Lib.atoiAll [] ≠ .range := ⟨fun v h => (by cases h), fun h => (by cases h)⟩
theorem upTo_den (c : UInt8) (t : List UInt8) (ht : t.length ≤ 1099511627776) : Den Sy 56 [.ref 0 [.str t], .str [c]] = some (match numF c t with
      | some (v, r) => .out false (.int .i64 v) [[.str r]]
      | none => .out true .opq [[.str t]]) := by
  rw [Den_fun Sy (af := A56) rfl rfl _ rfl]
  have hx := cut_den t c ht
  have hb := idx_lt t c
  unfold numF
  unfold cutF at hx
  generalize hat : Lib.indexByte t c = at_ at hx hb ⊢
  by_cases h0 : 0 ≤ at_
  · rw [if_pos h0] at hx
    have had := atoi_den (t.take at_.toNat) (by rw [List.length_take]; omega)
    by_cases h1 : 0 < at_
    · rw [if_pos h1]
      cases he : Lib.atoiAll (t.take at_.toNat) with
      | ok v =>
        rw [he] at had
        have hv := atoi_in he
        have hit := itoa_den v hv
        by_cases hv0 : 0 ≤ v
        · by_cases heq : Lib.itoa v = t.take at_.toNat
          · simp [A56, handed, List.getElem?_cons_zero, List.getElem?_cons_succ, -getElem?_pos, hx, had, hit, hv0, eq_true heq, orR_true]
          · simp [A56, handed, List.getElem?_cons_zero, List.getElem?_cons_succ, -getElem?_pos, hx, had, hit, hv0, eq_false heq, orR_false]
        · simp [A56, handed, List.getElem?_cons_zero, List.getElem?_cons_succ, -getElem?_pos, hx, had, hit, hv0, orR_false]
      | range =>
        rw [he] at had
        simp [A56, handed, List.getElem?_cons_zero, List.getElem?_cons_succ, -getElem?_pos, hx, had, orR_false]
      | _ =>
        rw [he] at had
        simp [A56, handed, List.getElem?_cons_zero, List.getElem?_cons_succ, -getElem?_pos, hx, had, orR_false]
    · have hz : at_ = 0 := by omega
      subst hz
      rw [if_neg (by omega)]
      have e : t.take (0 : Int).toNat = [] := by simp
      rw [e] at had hx
      cases he : Lib.atoiAll [] with
      | ok v => exact absurd he (atoi_empty.1 v)
      | range => exact absurd he atoi_empty.2
      | _ =>
        rw [he] at had
        simp [A56, handed, List.getElem?_cons_zero, List.getElem?_cons_succ, -getElem?_pos, hx, had, orR_false]
  · rw [if_neg h0] at hx
    rw [if_neg (by omega)]
    have had := atoi_den t (by omega)
    cases he : Lib.atoiAll t with
    | ok v =>
      rw [he] at had
      simp [A56, handed, List.getElem?_cons_zero, List.getElem?_cons_succ, -getElem?_pos, hx, had, orR_false]
    | range =>
      rw [he] at had
      simp [A56, handed, List.getElem?_cons_zero, List.getElem?_cons_succ, -getElem?_pos, hx, had, orR_false]
    | _ =>
      rw [he] at had
      simp [A56, handed, List.getElem?_cons_zero, List.getElem?_cons_succ, -getElem?_pos, hx, had, orR_false]
/-- The text with which bytes begin, and what stands behind it. -/
def takeF (t : List UInt8) : Option (List UInt8 × List UInt8) := match numF 58 t with
  | some (n, r) => if n ≤ r.length then some (r.take n.toNat, r.drop n.toNat) else none
  | none => none
theorem text_den (t : List UInt8) (ht : t.length ≤ 1099511627776) : ∃ t' : List UInt8, Den Sy 57 [.ref 0 [.str t]] = some (match takeF t with
      | some (s, r) => .out false (.str s) [[.str r]]
      | none => .out true .opq [[.str t']]) := by
  rw [Den_fun Sy (af := A57) rfl rfl _ rfl]
  have hu := upTo_den 58 t ht
  unfold takeF
  cases hn : numF 58 t with
  | none =>
    rw [hn] at hu
    exact ⟨t, by simp [A57, handed, hu]⟩
  | some p =>
    obtain ⟨n, r⟩ := p
    rw [hn] at hu
    obtain ⟨h1, h2, h3⟩ := numF_spec hn
    by_cases hl : n ≤ r.length
    · exact ⟨t, by simp [A57, handed, hu, hl, h1, orR_true]⟩
    · exact ⟨r, by simp [A57, handed, hu, hl, h1, orR_false]⟩

theorem takeF_spec {t s r : List UInt8} (h : takeF t = some (s, r)) : s.length < t.length ∧ r.length < t.length := by
  unfold takeF at h
  cases hn : numF 58 t with
  | none => rw [hn] at h; simp at h
  | some p =>
    obtain ⟨n, u⟩ := p
    rw [hn] at h
    obtain ⟨h1, h2, h3⟩ := numF_spec hn
    simp only at h
    split at h
    · simp only [Option.some.injEq, Prod.mk.injEq] at h
      obtain ⟨rfl, rfl⟩ := h
      simp
      omega
    · simp at h
def entF (t : List UInt8) : Option (En × List UInt8) :=
  match numF 59 t with
  | none => none
  | some (a, t1) => match takeF t1 with
    | none => none
    | some (b, t2) => match takeF t2 with
      | none => none
      | some (c, t3) => match numF 59 t3 with
        | none => none
        | some (d, t4) => match numF 59 t4 with
          | none => none
          | some (e, t5) => match takeF t5 with
            | none => none
            | some (f, t6) => match numF 59 t6 with
              | none => none
              | some (g, t7) => match takeF t7 with
                | none => none
                | some (w, t8) => match decF w with
                  | none => none
                  | some s => some (⟨a, b, c, d, e, f, g, s⟩, t8)
theorem entF_spec {t r : List UInt8} {e : En} (h : entF t = some (e, r)) : r.length < t.length := by
  unfold entF at h
  repeat' split at h
  all_goals first | (simp at h; done) | skip
  rename_i h1 _ _ _ h2 _ _ _ h3 _ _ _ h4 _ _ _ h5 _ _ _ h6 _ _ _ h7 _ _ _ h8 _ _ h9
  simp only [Option.some.injEq, Prod.mk.injEq] at h
  obtain ⟨rfl, rfl⟩ := h
  have k1 := numF_spec h1
  have k2 := takeF_spec h2
  have k3 := takeF_spec h3
  have k4 := numF_spec h4
  have k5 := numF_spec h5
  have k6 := takeF_spec h6
  have k7 := numF_spec h7
  have k8 := takeF_spec h8
  omega
set_option maxHeartbeats 4000000 in
theorem entry_den (t : List UInt8) (ht : t.length ≤ 549755813888) : ∃ t' : List UInt8, Den Sy 36 [.ref 0 [.str t]] = some (match entF t with
      | some (e, r) => .out false (nA e) [[.str r]]
      | none => .out true .opq [[.str t']]) := by
  rw [Den_fun Sy (af := A36) rfl rfl _ rfl]
  have u1 := upTo_den 59 t (by omega)
  unfold entF
  cases h1 : numF 59 t with
  | none => rw [h1] at u1; exact ⟨t, by simp [A36, handed, u1, h1]⟩
  | some p1 =>
    obtain ⟨a, t1⟩ := p1
    have k1 := numF_spec h1
    rw [h1] at u1
    obtain ⟨x2, u2⟩ := text_den t1 (by omega)
    cases h2 : takeF t1 with
    | none => rw [h2] at u2; exact ⟨x2, by simp [A36, handed, u1, u2, h1, h2]⟩
    | some p2 =>
      obtain ⟨b, t2⟩ := p2
      have k2 := takeF_spec h2
      rw [h2] at u2
      obtain ⟨x3, u3⟩ := text_den t2 (by omega)
      cases h3 : takeF t2 with
      | none => rw [h3] at u3; exact ⟨x3, by simp [A36, handed, u1, u2, u3, h1, h2, h3]⟩
      | some p3 =>
        obtain ⟨c, t3⟩ := p3
        have k3 := takeF_spec h3
        rw [h3] at u3
        have u4 := upTo_den 59 t3 (by omega)
        cases h4 : numF 59 t3 with
        | none => rw [h4] at u4; exact ⟨t3, by simp [A36, handed, u1, u2, u3, u4, h1, h2, h3, h4]⟩
        | some p4 =>
          obtain ⟨d, t4⟩ := p4
          have k4 := numF_spec h4
          rw [h4] at u4
          have u5 := upTo_den 59 t4 (by omega)
          cases h5 : numF 59 t4 with
          | none => rw [h5] at u5; exact ⟨t4, by simp [A36, handed, u1, u2, u3, u4, u5, h1, h2, h3, h4, h5]⟩
          | some p5 =>
            obtain ⟨e, t5⟩ := p5
            have k5 := numF_spec h5
            rw [h5] at u5
            obtain ⟨x6, u6⟩ := text_den t5 (by omega)
            cases h6 : takeF t5 with
            | none => rw [h6] at u6; exact ⟨x6, by simp [A36, handed, u1, u2, u3, u4, u5, u6, h1, h2, h3, h4, h5, h6]⟩
            | some p6 =>
              obtain ⟨f, t6⟩ := p6
              have k6 := takeF_spec h6
              rw [h6] at u6
              have u7 := upTo_den 59 t6 (by omega)
              cases h7 : numF 59 t6 with
              | none => rw [h7] at u7; exact ⟨t6, by simp [A36, handed, u1, u2, u3, u4, u5, u6, u7, h1, h2, h3, h4, h5, h6, h7]⟩
              | some p7 =>
                obtain ⟨g, t7⟩ := p7
                have k7 := numF_spec h7
                rw [h7] at u7
                obtain ⟨x8, u8⟩ := text_den t7 (by omega)
                cases h8 : takeF t7 with
                | none => rw [h8] at u8; exact ⟨x8, by simp [A36, handed, u1, u2, u3, u4, u5, u6, u7, u8, h1, h2, h3, h4, h5, h6, h7, h8]⟩
                | some p8 =>
                  obtain ⟨w, t8⟩ := p8
                  have k8 := takeF_spec h8
                  rw [h8] at u8
                  have u9 := decode_den w (by omega)
                  cases h9 : decF w with
                  | none =>
                    rw [h9] at u9
                    exact ⟨t8, by simp [A36, handed, List.getElem?_cons_zero, List.getElem?_cons_succ, -getElem?_pos, u1, u2, u3, u4, u5, u6, u7, u8, u9, orR_false, h1, h2, h3, h4, h5, h6, h7, h8, h9]⟩
                  | some s =>
                    rw [h9] at u9
                    exact ⟨t8, by simp [A36, handed, List.getElem?_cons_zero, List.getElem?_cons_succ, -getElem?_pos, u1, u2, u3, u4, u5, u6, u7, u8, u9, orR_true, nA, h1, h2, h3, h4, h5, h6, h7, h8, h9]⟩

def entsG : Nat → List UInt8 → Option (List En)
  | _, [] => some []
  | 0, _ :: _ => none
  | k + 1, c :: t => match entF (c :: t) with
    | some (e, r) => (entsG k r).map (e :: ·)
    | none => none
def entsF (t : List UInt8) : Option (List En) := match entsG t.length t with
  | some l => if rightE l = true then some l else none
  | none => none
abbrev dfE : Option (Nat × List AV) := some (35, [.ptr 2 0 0, .ptr 3 0 0])
structure FellE (ex : Ex) (st' : St) : Prop where
  pan : ex = .pan
  df : st'.df = dfE
  b2 : ∃ xs p, st'.bx 2 = some (0, [.sl 8 xs p])
  b3 : ∃ n, st'.bx 3 = some (0, [.int .i64 n])
  e2 : st'.env 2 = some (.ptr 2 0 0)
  e3 : st'.env 3 = some (.ptr 3 0 0)
def DecE (out : List En) (ex : Ex) (st' : St) : Option (List En) → Prop
  | some L => ex = .exit 0 ∧ ∃ bx' pm' p', st' = ⟨ofL [(2, .ptr 2 0 0), (3, .ptr 3 0 0), (4, .ptr 4 0 0), (12, .bool false)], bx', pm', dfE⟩ ∧ bx' 2 = some (0, [.sl 8 ((out ++ L).map nA) p']) ∧ bx' 3 = some (0, [.int .i64 0])
  | none => FellE ex st'
theorem DecE.step {out : List En} {ex : Ex} {st' : St} {e : En} {o : Option (List En)} (h : DecE (out ++ [e]) ex st' o) : DecE out ex st' (o.map (e :: ·)) := by
  cases o with
  | none => exact h
  | some L =>
    obtain ⟨h1, bx', pm', p', h2, h3, h4⟩ := h
    exact ⟨h1, bx', pm', p', h2, by simpa using h3, h4⟩
set_option maxHeartbeats 1000000 in
theorem ents_loop : ∀ (k : Nat) (t : List UInt8) (out : List En) (O : List AV) (p : Perm) (bx : Bx) (pm : Pm), t.length ≤ k → k ≤ 549755813888 → O = out.map nA → bx 2 = some (0, [.sl 8 O p]) → bx 3 = some (0, [.int .i64 0]) → bx 4 = some (0, [.str t]) → AppAt 16 pm p → out.length + k ≤ 1000000000000 →
    Res (RunD Sy (.loop L17x0) ⟨ofL [(2, .ptr 2 0 0), (3, .ptr 3 0 0), (4, .ptr 4 0 0)], bx, pm, dfE⟩) fun ex st' => DecE out ex st' (entsG k t)
  | k, [], out, O, p, bx, pm, ht, hk, hO, b2, b3, b4, hp, ho => by
    subst hO
    have e : entsG k [] = some [] := by cases k <;> rfl
    rw [e]
    refine loop_step fun K hK => ?_
    simp [L17x0, b4]
    exact ⟨rfl, bx, pm, p, rfl, by simpa using b2, b3⟩
  | 0, c :: r, out, O, p, bx, pm, ht, hk, hO, b2, b3, b4, hp, ho => by simp at ht
  | k + 1, c :: t, out, O, p, bx, pm, ht, hk, hO, b2, b3, b4, hp, ho => by
    subst hO
    obtain ⟨t', he⟩ := entry_den (c :: t) (by omega)
    have hsz : (out.length + 1) * 104 ≤ 140737488355328 := by omega
    unfold entsG
    cases hx : entF (c :: t) with
    | none =>
      rw [hx] at he
      refine loop_step fun K hK => ?_
      simp [L17x0, b2, b3, b4, he]
      exact ⟨rfl, rfl, ⟨out.map nA, p, by simp [b2]⟩, ⟨0, by simp [b3]⟩, by simp, by simp⟩
    | some q =>
      obtain ⟨e, r⟩ := q
      have hr := entF_spec hx
      rw [hx] at he
      simp only [nA, eC] at he
      refine loop_step fun K hK => ?_
      have hnx := fun O hO p bx pm b2 b3 b4 hp => ents_loop k r (out ++ [e]) O p bx pm (by simp at ht hr; omega) (by omega) hO b2 b3 b4 hp (by simp; omega)
      rcases hp with rfl | ⟨v, rfl, hpm⟩
      · simp [L17x0, b2, b3, b4, he, hsz]
        rw [hK]
        refine Res.eqv (fun ex st h => DecE.step h) (hnx (out.map nA ++ [.agg (eC e)]) ?_ (.tok 16 (nextP pm 16)) _ _ (by simp) (by simp [b3]) (by simp) ?_)
        · simp [nA]
        · exact .inr ⟨_, rfl, by simp⟩
      · simp [L17x0, b2, b3, b4, he, hsz, hpm]
        rw [hK]
        refine Res.eqv (fun ex st h => DecE.step h) (hnx (out.map nA ++ [.agg (eC e)]) ?_ (.tok 16 (v + 1)) _ _ (by simp) (by simp [b3]) (by simp) ?_)
        · simp [nA]
        · exact .inr ⟨_, rfl, by simp⟩
theorem catchR_true (xs : List AV) (p : Perm) (n : Int) : Den Sy 35 [.bool true, .ref 0 [.sl 8 xs p], .ref 0 [.int .i64 n]] = some (.rcv [[.sl 8 [] .nil], [.int .i64 11]]) := by rw [Den_ext Sy (F := catchFR) rfl]; rfl
theorem catchR_false (xs : List AV) (p : Perm) (n : Int) : Den Sy 35 [.bool false, .ref 0 [.sl 8 xs p], .ref 0 [.int .i64 n]] = some (.rcv [[.sl 8 xs p], [.int .i64 n]]) := by rw [Den_ext Sy (F := catchFR) rfl]; rfl
theorem takeF_eq {t s r : List UInt8} (h : takeF t = some (s, r)) : t = txtN s ++ r := by
  unfold takeF at h
  cases hn : numF 58 t with
  | none => rw [hn] at h; simp at h
  | some p =>
    obtain ⟨n, u⟩ := p
    rw [hn] at h
    obtain ⟨h1, h2, h3⟩ := numF_spec hn
    have he := numF_eq hn
    simp only at h
    split at h
    · rename_i hl
      simp only [Option.some.injEq, Prod.mk.injEq] at h
      obtain ⟨rfl, rfl⟩ := h
      have hln : ((u.take n.toNat).length : Int) = n := by simp; omega
      unfold txtN
      rw [hln, he]
      simp
    · simp at h
theorem numN_eq {t r : List UInt8} {v : Int} (h : numF 59 t = some (v, r)) : t = numN v ++ r := by
  rw [numF_eq h]
  simp [numN]
theorem entF_eq {t r : List UInt8} {e : En} (h : entF t = some (e, r)) : t = encN e ++ r := by
  unfold entF at h
  repeat' split at h
  all_goals first | (simp at h; done) | skip
  rename_i h1 _ _ _ h2 _ _ _ h3 _ _ _ h4 _ _ _ h5 _ _ _ h6 _ _ _ h7 _ _ _ h8 _ _ h9
  simp only [Option.some.injEq, Prod.mk.injEq] at h
  obtain ⟨rfl, rfl⟩ := h
  have k1 := numN_eq h1
  have k2 := takeF_eq h2
  have k3 := takeF_eq h3
  have k4 := numN_eq h4
  have k5 := numN_eq h5
  have k6 := takeF_eq h6
  have k7 := numN_eq h7
  have k8 := takeF_eq h8
  have k9 := (decF_eq h9).1
  unfold encN
  rw [← k9]
  simp only [List.append_assoc]
  rw [← k8, ← k7, ← k6, ← k5, ← k4, ← k3, ← k2, ← k1]
theorem entsG_eq : ∀ (k : Nat) (t : List UInt8) (l : List En), entsG k t = some l → encNL l = t
  | k, [], l, h => by
    have e : entsG k [] = some [] := by cases k <;> rfl
    rw [e, Option.some.injEq] at h
    subst h
    rfl
  | 0, c :: t, l, h => by simp [entsG] at h
  | k + 1, c :: t, l, h => by
    unfold entsG at h
    cases hx : entF (c :: t) with
    | none => rw [hx] at h; simp at h
    | some q =>
      obtain ⟨e, r⟩ := q
      rw [hx] at h
      simp only [Option.map_eq_some_iff] at h
      obtain ⟨L, hL, rfl⟩ := h
      have := entsG_eq k r L hL
      rw [entF_eq hx]
      simp only [encNL, List.flatMap_cons] at this ⊢
      rw [this]
theorem encN_pos (e : En) : 0 < (encN e).length := by
  unfold encN numN
  simp
  omega
theorem encNL_len : ∀ (l : List En), l.length ≤ (encNL l).length
  | [] => by simp [encNL]
  | e :: l => by
    have := encNL_len l
    have h2 := encN_pos e
    simp only [encNL, List.flatMap_cons, List.length_append, List.length_cons] at this ⊢
    omega
theorem encN_ok {e : En} {n : Nat} (h : (encN e).length ≤ n) : e.path.length ≤ n ∧ (encL e.script).length ≤ n := by
  unfold encN txtN at h
  simp only [List.length_append] at h
  omega
theorem encE_pos' (e : Edit) : 0 < (encE e).length := by
  unfold encE encHead
  simp
  omega
theorem encL_len : ∀ (s : List Edit), s.length ≤ (encL s).length
  | [] => by simp
  | e :: l => by
    have := encL_len l
    have h2 := encE_pos' e
    simp only [encL, List.flatMap_cons, List.length_append, List.length_cons] at this ⊢
    omega
theorem enc_ok {l : List En} {t : List UInt8} (h : encNL l = t) (ht : t.length ≤ 1099511627776) : l.length ≤ t.length ∧ ∀ e ∈ l, e.ok := by
  subst h
  refine ⟨encNL_len l, fun e he => ?_⟩
  have h1 : (encN e).length ≤ (encNL l).length := by
    clear ht
    induction l with
    | nil => simp at he
    | cons x l ih =>
      simp only [encNL, List.flatMap_cons, List.length_append] at ih ⊢
      rcases List.mem_cons.1 he with rfl | he
      · omega
      · have := ih he; omega
  obtain ⟨h2, h3⟩ := encN_ok (Nat.le_refl (encN e).length)
  have h4 := encL_len e.script
  exact ⟨by omega, by omega⟩
def decA : Option (List En) → AV
  | some l => .tup [sN l, .int .i64 0]
  | none => .tup [sN [], .int .i64 11]
theorem decP_den (t : List UInt8) (ht : t.length ≤ 500000000000) : Den Sy 17 [.str t] = some (decA (entsF t)) := by
  rw [Den_fun Sy (af := A17) rfl rfl _ rfl]
  have hlp := fun bx b2 b3 b4 => ents_loop t.length t [] [] .nil bx none' (Nat.le_refl _) (by omega) rfl b2 b3 b4 (.inl rfl) (by simp; omega)
  unfold entsF
  simp [A17, nextB, RunD_dfr']
  generalize hX : RunD Sy (.loop L17x0) _ = X
  obtain ⟨ex, st', rfl, hR⟩ := Res.at hX (hlp _ (by simp) (by simp) (by simp))
  cases hd : entsG t.length t with
  | none =>
    rw [hd] at hR
    obtain ⟨rfl, hdf, ⟨xs, p, hb2⟩, ⟨n, hb3⟩, he2, he3⟩ := hR
    simp [hdf, hb2, hb3, he2, he3, catchR_true, decA]
  | some l =>
    rw [hd] at hR
    obtain ⟨rfl, bx', pm', p', rfl, c2, c3⟩ := hR
    have heq := entsG_eq _ _ _ hd
    obtain ⟨hl, ho⟩ := enc_ok heq (by omega)
    have hrd := rightP_den l (by omega) ho
    rw [List.nil_append] at c2
    by_cases hr : rightE l = true
    · simp [c2, c3, hrd, hr, orR_true, catchR_false, decA]
    · simp [c2, c3, hrd, hr, orR_false, catchR_true, decA]

def En.ok2 (e : En) : Prop := e.script.length ≤ 1099511627776 ∧ ∀ d ∈ e.script, d.ls.length ≤ 1099511627776
set_option maxHeartbeats 1000000 in
theorem sameE_den (a b : En) (ha : a.ok2) : Den Sy 39 [nA a, nA b] = some (.bool (decide (a = b))) := by
  rw [Den_fun Sy (af := A39) rfl rfl _ rfl]
  have hs := same_den a.script b.script ha.1 ha.2
  obtain ⟨a1, a2, a3, a4, a5, a6, a7, a8⟩ := a
  obtain ⟨b1, b2, b3, b4, b5, b6, b7, b8⟩ := b
  simp only at hs
  simp only [En.mk.injEq]
  by_cases k8 : a8 = b8
  · by_cases k1 : a1 = b1
    · by_cases k2 : a2 = b2
      · by_cases k3 : a3 = b3
        · by_cases k4 : a4 = b4
          · by_cases k5 : a5 = b5
            · by_cases k6 : a6 = b6
              · by_cases k7 : a7 = b7
                · simp [A39, nA, hs, eq_true k8, eq_true k1, eq_true k2, eq_true k3, eq_true k4, eq_true k5, eq_true k6, eq_true k7]
                · simp [A39, nA, hs, eq_true k8, eq_true k1, eq_true k2, eq_true k3, eq_true k4, eq_true k5, eq_true k6, k7]
              · simp [A39, nA, hs, eq_true k8, eq_true k1, eq_true k2, eq_true k3, eq_true k4, eq_true k5, k6]
            · simp [A39, nA, hs, eq_true k8, eq_true k1, eq_true k2, eq_true k3, eq_true k4, k5]
          · simp [A39, nA, hs, eq_true k8, eq_true k1, eq_true k2, eq_true k3, k4]
        · simp [A39, nA, hs, eq_true k8, eq_true k1, eq_true k2, k3]
      · simp [A39, nA, hs, eq_true k8, eq_true k1, k2]
    · simp [A39, nA, hs, eq_true k8, k1]
  · simp [A39, nA, hs, k8]
def SQ (R : Bool) (ex : Ex) (st' : St) : Prop := st'.df = none ∧ if R = true then ex = .exit 0 else ex = .ret ∧ st'.env = ofL [(4, .bool false)]
theorem sameN_loop (a b : List En) (hab : a.length = b.length) (hl : a.length ≤ 1099511627776) (ho : ∀ e ∈ a, e.ok2) (bx : Bx) (pm : Pm) : ∀ (ra rb pa pb : List En) (i : Int), a = pa ++ ra → b = pb ++ rb → pa.length = pb.length → i = pa.length →
    Res (RunD Sy (.loop L19x0) ⟨ofL [(0, sN a), (1, sN b), (5, .int .i64 i)], bx, pm, none⟩) fun ex st' => SQ (decide (ra = rb)) ex st'
  | [], rb, pa, pb, i, h1, h2, h3, hi => by
    subst hi
    have hrb : rb = [] := by
      rw [h1, h2] at hab
      simp at hab
      exact List.eq_nil_of_length_eq_zero (by omega)
    subst hrb
    have hlt : ¬ (pa.length : Int) < a.length := by rw [h1]; simp
    refine loop_step fun K hK => ?_
    simp [L19x0, hlt]
    exact ⟨rfl, by simp⟩
  | x :: ra, [], pa, pb, i, h1, h2, h3, hi => by
    rw [h1, h2] at hab
    simp at hab
    omega
  | x :: ra, y :: rb, pa, pb, i, h1, h2, h3, hi => by
    subst hi
    have hlt : (pa.length : Int) < a.length := by rw [h1]; simp; omega
    have hltb : (pa.length : Int) < b.length := by omega
    have hg : (a.map nA)[pa.length]? = some (nA x) := by rw [h1]; simp
    have hg2 : (b.map nA)[pa.length]? = some (nA y) := by rw [h2, h3]; simp
    have hc := chk_i64 ((pa.length : Int) + 1) (by omega)
    have hs := sameE_den x y (ho x (by rw [h1]; simp))
    have hnx := sameN_loop a b hab hl ho bx pm ra rb (pa ++ [x]) (pb ++ [y]) ((pa.length : Int) + 1) (by simp [h1]) (by simp [h2]) (by simp [h3]) (by simp)
    have hu : decide (x :: ra = y :: rb) = (decide (x = y) && decide (ra = rb)) := by by_cases k1 : x = y <;> by_cases k2 : ra = rb <;> simp [k1, k2]
    rw [hu]
    simp only [nA, eC] at hg hg2 hs
    refine loop_step fun K hK => ?_
    by_cases h : x = y
    · simp only [eq_true h, decide_true] at hs
      simp [L19x0, -getElem?_pos, -List.getElem?_map, hlt, hltb, hg, hg2, hc, hs, eq_true h]
      rw [hK]
      exact hnx
    · simp only [eq_false h, decide_false] at hs
      simp [L19x0, -getElem?_pos, -List.getElem?_map, hlt, hltb, hg, hg2, hc, hs, eq_false h]
      exact ⟨rfl, by simp⟩
theorem sameN_den (a b : List En) (hl : a.length ≤ 1099511627776) (ho : ∀ e ∈ a, e.ok2) : Den Sy 19 [sN a, sN b] = some (.bool (decide (a = b))) := by
  rw [Den_fun Sy (af := A19) rfl rfl _ rfl]
  by_cases hab : a.length = b.length
  · obtain ⟨ex, st', hL, hd, hR⟩ := sameN_loop a b hab hl ho (ofL []) none' a b [] [] 0 rfl rfl rfl rfl
    by_cases h : a = b
    · rw [if_pos (by simp [h])] at hR
      subst hR
      simp [A19, hab, hL, hd, eq_true h]
    · rw [if_neg (by simp [h])] at hR
      obtain ⟨rfl, h2⟩ := hR
      simp [A19, hab, hL, hd, h, h2]
  · have hab' : ¬ (a.length : Int) = b.length := by omega
    have h : ¬ a = b := fun e => hab (by rw [e])
    simp [A19, hab, hab', h]

/-! ### How many there are -/
def cntK (l : List En) (k : Int) : Nat := (l.filter fun e => decide (e.op = k)).length
theorem cntK_snoc (l : List En) (e : En) (k : Int) : cntK (l ++ [e]) k = cntK l k + if e.op = k then 1 else 0 := by
  unfold cntK
  rw [List.filter_append, List.length_append]
  by_cases h : e.op = k <;> simp [h]
theorem cntK_le (l : List En) (k : Int) : cntK l k ≤ l.length := List.length_filter_le _ _
abbrev cnt6 (l : List En) : List AV := [.int .i64 (cntK l 0), .int .i64 (cntK l 1), .int .i64 (cntK l 2), .int .i64 (cntK l 3), .int .i64 (cntK l 4), .int .i64 (cntK l 5)]
def UQ (l : List En) (v : Nat) (ex : Ex) (st' : St) : Prop := ex = .exit 0 ∧ st'.df = none ∧ st'.env 2 = some (.ptr 2 v 0) ∧ st'.bx 2 = some (v, cnt6 l)
set_option maxHeartbeats 1000000 in
theorem cntN_loop (l : List En) (hl : l.length ≤ 1099511627776) (v : Nat) : ∀ (rest pre : List En) (i : Int) (bx : Bx) (pm : Pm), l = pre ++ rest → i = pre.length → bx 2 = some (v, cnt6 pre) →
    Res (RunD Sy (.loop L14x0) ⟨ofL [(2, .ptr 2 v 0), (5, sN l), (6, .int .i64 l.length), (7, .int .i64 i)], bx, pm, none⟩) fun ex st' => UQ l v ex st'
  | [], pre, i, bx, pm, h, hi, hb => by
    subst hi
    rw [List.append_nil] at h
    subst h
    refine loop_step fun K hK => ?_
    simp [L14x0]
    exact ⟨rfl, rfl, by simp, hb⟩
  | e :: rest, pre, i, bx, pm, h, hi, hb => by
    subst hi
    have hlt : (pre.length : Int) < l.length := by rw [h]; simp; omega
    have hg : (l.map nA)[pre.length]? = some (nA e) := by rw [h]; simp
    have hc := chk_i64 ((pre.length : Int) + 1) (by omega)
    have hnx := fun bx pm hb => cntN_loop l hl v rest (pre ++ [e]) ((pre.length : Int) + 1) bx pm (by simp [h]) (by simp) hb
    have hq := fun k => chk_i64 ((cntK pre k : Int) + 1) (by have := cntK_le pre k; omega)
    have hsn := cntK_snoc pre e
    simp only [nA, eC] at hg
    simp only [cnt6, hsn] at hnx
    refine loop_step fun K hK => ?_
    by_cases h0 : 0 ≤ e.op
    · by_cases h6 : e.op < 6
      · have h6' : e.op = 0 ∨ e.op = 1 ∨ e.op = 2 ∨ e.op = 3 ∨ e.op = 4 ∨ e.op = 5 := by omega
        rcases h6' with hop | hop | hop | hop | hop | hop
        all_goals
          simp only [hop] at hg hnx
          simp [L14x0, -getElem?_pos, -List.getElem?_map, hlt, hg, hc, hb, hq]
          rw [hK]
          exact hnx _ _ (by simp)
      · have hne : ∀ k : Int, k < 6 → ¬ e.op = k := fun k hk => by omega
        simp only [if_neg (hne 0 (by omega)), if_neg (hne 1 (by omega)), if_neg (hne 2 (by omega)), if_neg (hne 3 (by omega)), if_neg (hne 4 (by omega)), if_neg (hne 5 (by omega))] at hnx
        simp [L14x0, -getElem?_pos, -List.getElem?_map, hlt, hg, hc, hb, h0, h6]
        rw [hK]
        exact hnx _ _ (by simp [hb])
    · have hne : ∀ k : Int, 0 ≤ k → ¬ e.op = k := fun k hk => by omega
      simp only [if_neg (hne 0 (by omega)), if_neg (hne 1 (by omega)), if_neg (hne 2 (by omega)), if_neg (hne 3 (by omega)), if_neg (hne 4 (by omega)), if_neg (hne 5 (by omega))] at hnx
      simp [L14x0, -getElem?_pos, -List.getElem?_map, hlt, hg, hc, hb, h0]
      rw [hK]
      exact hnx _ _ (by simp [hb])
theorem cntN_den (l : List En) (hl : l.length ≤ 1099511627776) : Den Sy 14 [sN l] = some (.agg (cnt6 l)) := by
  rw [Den_fun Sy (af := A14) rfl rfl _ rfl]
  have hlp := fun v bx pm hb => cntN_loop l hl v l [] 0 bx pm rfl rfl hb
  simp [A14]
  generalize hX : RunD Sy (.loop L14x0) _ = X
  obtain ⟨ex, st', rfl, rfl, hd, h2, hb⟩ := Res.at hX (hlp _ _ _ (by simp [cntK]))
  simp [hd, h2, hb]
/-! ### There and back again -/
theorem takeF_txt (s r : List UInt8) (h : s.length ≤ 9223372036854775807) : takeF (txtN s ++ r) = some (s, r) := by
  unfold takeF txtN
  have hn := numF_itoa 58 (by decide) (n := (s.length : Int)) (by omega) (by omega) (s ++ r)
  have e : Lib.itoa s.length ++ [58] ++ s ++ r = Lib.itoa s.length ++ 58 :: (s ++ r) := by simp
  rw [e, hn]
  have hle : (s.length : Int) ≤ s.length + r.length := by omega
  simp [hle]
theorem numF_num (n : Int) (h : 0 ≤ n) (h2 : n ≤ 9223372036854775807) (r : List UInt8) : numF 59 (numN n ++ r) = some (n, r) := by
  have hn := numF_itoa 59 (by decide) h h2 r
  have e : numN n ++ r = Lib.itoa n ++ 59 :: r := by simp [numN]
  rw [e, hn]
theorem entF_enc (e : En) (r : List UInt8) (hm : mayE e = true) (hl : (encN e).length ≤ 1099511627776) (hs : ∀ d ∈ e.script, ∀ l ∈ d.ls, l.length ≤ 9223372036854775807) : entF (encN e ++ r) = some (e, r) := by
  obtain ⟨m1, m2, m3, m4, m5, m6, m7, m8, m9⟩ := mayE_num hm
  have hx : ∀ s : List UInt8, s.length ≤ (txtN s).length := fun s => by simp only [txtN, List.length_append]; omega
  have hel2 : (encN e).length = (numN e.op).length + (txtN e.path).length + (txtN e.src).length + (numN e.old).length + (numN e.new).length + (txtN e.data).length + (numN e.score).length + (txtN (encL e.script)).length := by simp only [encN, List.length_append]; omega
  have t1 := hx e.path
  have t2 := hx e.src
  have t3 := hx e.data
  have t4 := hx (encL e.script)
  have k1 := numF_num e.op m1 (by omega) (txtN e.path ++ (txtN e.src ++ (numN e.old ++ (numN e.new ++ (txtN e.data ++ (numN e.score ++ (txtN (encL e.script) ++ r)))))))
  have k2 := takeF_txt e.path (txtN e.src ++ (numN e.old ++ (numN e.new ++ (txtN e.data ++ (numN e.score ++ (txtN (encL e.script) ++ r)))))) (by omega)
  have k3 := takeF_txt e.src (numN e.old ++ (numN e.new ++ (txtN e.data ++ (numN e.score ++ (txtN (encL e.script) ++ r))))) (by omega)
  have k4 := numF_num e.old m3 (by omega) (numN e.new ++ (txtN e.data ++ (numN e.score ++ (txtN (encL e.script) ++ r))))
  have k5 := numF_num e.new m5 (by omega) (txtN e.data ++ (numN e.score ++ (txtN (encL e.script) ++ r)))
  have k6 := takeF_txt e.data (numN e.score ++ (txtN (encL e.script) ++ r)) (by omega)
  have k7 := numF_num e.score m7 (by omega) (txtN (encL e.script) ++ r)
  have k8 := takeF_txt (encL e.script) r (by omega)
  have k9 := decF_enc m9 hs
  unfold entF encN
  simp only [List.append_assoc]
  rw [k1]
  simp only [k2, k3, k4, k5, k6, k7, k8, k9]
theorem encN_ne (e : En) : ∃ c t, encN e = c :: t := by
  have := encN_pos e
  cases h : encN e with
  | nil => rw [h] at this; simp at this
  | cons c t => exact ⟨c, t, rfl⟩
/-- Lines that are not too long. -/
def En.ln (e : En) : Prop := ∀ d ∈ e.script, ∀ l ∈ d.ls, l.length ≤ 9223372036854775807
theorem entsG_enc : ∀ (l : List En) (k : Nat), (∀ e ∈ l, mayE e = true ∧ (encN e).length ≤ 1099511627776 ∧ e.ln) → (encNL l).length ≤ k → entsG k (encNL l) = some l
  | [], k, h, hk => by cases k <;> rfl
  | e :: r, k, h, hk => by
    obtain ⟨h1, h2, h3⟩ := h e (by simp)
    obtain ⟨c, t, hct⟩ := encN_ne e
    have hu : encNL (e :: r) = encN e ++ encNL r := by simp [encNL]
    have hp := encN_pos e
    rw [hu, List.length_append] at hk
    cases k with
    | zero => omega
    | succ k =>
      have hr := entsG_enc r k (fun x hx => h x (List.mem_cons_of_mem _ hx)) (by omega)
      have he := entF_enc e (encNL r) h1 h2 h3
      rw [hu]
      rw [hct] at he ⊢
      rw [List.cons_append] at he ⊢
      unfold entsG
      rw [he]
      show (entsG k (encNL r)).map (e :: ·) = _
      rw [hr]
      rfl
theorem entsF_enc (l : List En) (hr : rightE l = true) (h : ∀ e ∈ l, (encN e).length ≤ 1099511627776 ∧ e.ln) : entsF (encNL l) = some l := by
  have hm := rightE_may hr
  unfold entsF
  rw [entsG_enc l _ (fun e he => ⟨hm e he, h e he⟩) (Nat.le_refl _)]
  simp [hr]

def e1 : En := ⟨1, [97], [], 0, 1, [], 0, []⟩
def b1 : List UInt8 := [49, 59, 49, 58, 97, 48, 58, 48, 59, 49, 59, 48, 58, 48, 59, 48, 58]
theorem e1_ok : e1.ok := ⟨by decide, by decide⟩
theorem itoa0 : Lib.itoa 0 = [48] := by simp [Lib.itoa, Lib.decDigits]
theorem itoa1 : Lib.itoa 1 = [49] := by simp [Lib.itoa, Lib.decDigits]
theorem b1_eq : encNL [e1] = b1 := by
  simp only [encNL, List.flatMap_cons, List.flatMap_nil, List.append_nil, encN, numN, txtN, e1, encL, List.length_nil, List.length_cons]
  have h1 : ((0 : Nat) : Int) = 0 := rfl
  have h2 : ((0 + 1 : Nat) : Int) = 1 := rfl
  simp only [h1, h2, itoa0, itoa1]
  rfl
theorem z_enc : encNL [zN] = [48, 59, 48, 58, 48, 58, 48, 59, 48, 59, 48, 58, 48, 59, 48, 58] := by
  simp only [encNL, List.flatMap_cons, List.flatMap_nil, List.append_nil, encN, numN, txtN, zN, encL, List.length_nil, List.length_cons]
  have h1 : ((0 : Nat) : Int) = 0 := rfl
  simp only [h1, itoa0]
  rfl
theorem e1_right : rightE [e1] = true := by decide
theorem z_right : rightE [zN] = false := by decide
theorem one_dec : entsF [49] = none := by rfl
theorem nil_dec : entsF [] = some [] := by rfl
theorem awake_den : Den Sy 8 [] = some (.bool true) := by
  rw [Den_fun Sy (af := A8) rfl rfl _ rfl]
  have d1 := encP_den [e1] (by simp) (by simp; exact e1_ok) (by rw [b1_eq]; decide)
  unfold encA at d1
  rw [e1_right, b1_eq] at d1
  have d2 := decP_den b1 (by decide)
  rw [← b1_eq, entsF_enc [e1] e1_right (by intro e he; simp at he; subst he; exact ⟨by have := b1_eq; simp [encNL] at this; rw [this]; decide, by intro d hd; simp [e1] at hd⟩), b1_eq] at d2
  have d3 := encP_den [zN] (by simp) (by simp; exact ⟨by decide, by decide⟩) (by rw [z_enc]; decide)
  unfold encA at d3
  rw [z_right] at d3
  have d4 := decP_den [49] (by simp)
  rw [one_dec] at d4
  have d5 := decP_den [] (by simp)
  rw [nil_dec] at d5
  have d6 := sameN_den [e1] [e1] (by simp) (by simp; exact ⟨by decide, by simp [e1]⟩)
  have d7 := cntN_den [e1] (by simp)
  have c7 : cnt6 [e1] = [.int .i64 0, .int .i64 1, .int .i64 0, .int .i64 0, .int .i64 0, .int .i64 0] := by
    have h0 : cntK [e1] 0 = 0 := by decide
    have h1 : cntK [e1] 1 = 1 := by decide
    have h2 : cntK [e1] 2 = 0 := by decide
    have h3 : cntK [e1] 3 = 0 := by decide
    have h4 : cntK [e1] 4 = 0 := by decide
    have h5 : cntK [e1] 5 = 0 := by decide
    simp only [cnt6, h0, h1, h2, h3, h4, h5]
    rfl
  rw [c7] at d7
  have hq : eqv (some [1, 1, 1, 1, 1, 1]) (.agg [.int .i64 0, .int .i64 1, .int .i64 0, .int .i64 0, .int .i64 0, .int .i64 0]) (.agg [.int .i64 0, .int .i64 1, .int .i64 0, .int .i64 0, .int .i64 0, .int .i64 0]) = some true := by rfl
  simp only [sN, List.map_cons, List.map_nil, nA, eC, e1, zN, encA, decA, b1, if_true, Bool.false_eq_true, if_false, sE] at d1 d2 d3 d4 d5 d6 d7
  simp [A8, List.getElem?_cons_zero, List.getElem?_cons_succ, -getElem?_pos, d1, d2, d3, d4, d5, d6, d7, hq]

theorem Few.mono {n m : Nat} {s : List Edit} (h : Few n s) (hn : n ≤ m) : Few m s := ⟨by have := h.1; omega, fun e he => by have := h.2 e he; omega⟩
theorem diffG_few : ∀ (n : Nat) (a b : List (List UInt8)) (out : List Edit) (m : Nat), a.length + b.length ≤ n → Few m out → Few (m + n) (diffG out a b)
  | n, [], [], out, m, _, h => by rw [diffG_nn]; exact h.mono (by omega)
  | 0, [], y :: b, out, m, hn, h => by simp at hn
  | 0, x :: a, b, out, m, hn, h => by simp at hn
  | n + 1, [], y :: b, out, m, hn, h => by
    rw [diffG_nc]
    have := diffG_few n [] b (withE out 3 [y]) (m + 1) (by simp at hn ⊢; omega) (h.with 3 [y] (by simp))
    exact this.mono (by omega)
  | n + 1, x :: a, [], out, m, hn, h => by
    rw [diffG_cn]
    have := diffG_few n a [] (withE out 2 []) (m + 1) (by simp at hn ⊢; omega) (h.with 2 [] (by simp))
    exact this.mono (by omega)
  | n + 1, x :: a, y :: b, out, m, hn, h => by
    rw [diffG_cc]
    simp only [List.length_cons] at hn
    split
    · have := diffG_few n a b (withE out 1 []) (m + 1) (by omega) (h.with 1 [] (by simp))
      exact this.mono (by omega)
    · split
      · have := diffG_few n a (y :: b) (withE out 2 []) (m + 1) (by simp; omega) (h.with 2 [] (by simp))
        exact this.mono (by omega)
      · have := diffG_few n (x :: a) b (withE out 3 [y]) (m + 1) (by simp; omega) (h.with 3 [y] (by simp))
        exact this.mono (by omega)
/-- Each line of a script is one of some. -/
def Of (b : List (List UInt8)) (s : List Edit) : Prop := ∀ e ∈ s, ∀ l ∈ e.ls, l ∈ b
theorem Of.with {b : List (List UInt8)} {s : List Edit} (h : Of b s) (op : Int) (ls : List (List UInt8)) (hl : ∀ l ∈ ls, l ∈ b) : Of b (withE s op ls) := by
  rcases nil_or_snoc s with rfl | ⟨s, e, rfl⟩
  · rw [withE_nil]
    intro e he
    simp only [List.mem_singleton] at he
    subst he
    exact hl
  · rw [withE_snoc]
    split
    · intro x hx
      rcases List.mem_append.1 hx with hx | hx
      · exact h x (by simp [hx])
      · simp only [List.mem_singleton] at hx
        subst hx
        intro l hl'
        rcases List.mem_append.1 hl' with h1 | h1
        · exact h e (by simp) l h1
        · exact hl l h1
    · intro x hx
      rcases List.mem_append.1 hx with hx | hx
      · exact h x hx
      · simp only [List.mem_singleton] at hx
        subst hx
        exact hl
theorem diffG_of (B : List (List UInt8)) : ∀ (n : Nat) (a b : List (List UInt8)) (out : List Edit), a.length + b.length ≤ n → (∀ y ∈ b, y ∈ B) → Of B out → Of B (diffG out a b)
  | n, [], [], out, _, _, h => by rw [diffG_nn]; exact h
  | 0, [], y :: b, out, hn, _, h => by simp at hn
  | 0, x :: a, b, out, hn, _, h => by simp at hn
  | n + 1, [], y :: b, out, hn, hb, h => by
    rw [diffG_nc]
    exact diffG_of B n [] b _ (by simp at hn ⊢; omega) (fun z hz => hb z (List.mem_cons_of_mem _ hz)) (h.with 3 [y] (by simpa using hb y (by simp)))
  | n + 1, x :: a, [], out, hn, hb, h => by
    rw [diffG_cn]
    exact diffG_of B n a [] _ (by simp at hn ⊢; omega) (by simp) (h.with 2 [] (by simp))
  | n + 1, x :: a, y :: b, out, hn, hb, h => by
    rw [diffG_cc]
    simp only [List.length_cons] at hn
    split
    · exact diffG_of B n a b _ (by omega) (fun z hz => hb z (List.mem_cons_of_mem _ hz)) (h.with 1 [] (by simp))
    · split
      · exact diffG_of B n a (y :: b) _ (by simp; omega) hb (h.with 2 [] (by simp))
      · exact diffG_of B n (x :: a) b _ (by simp; omega) (fun z hz => hb z (List.mem_cons_of_mem _ hz)) (h.with 3 [y] (by simpa using hb y (by simp)))
/-- What scripts of small data are. -/
def SmS (s : List Edit) : Prop := Few 120 s ∧ ∀ e ∈ s, ∀ l ∈ e.ls, l.length ≤ 60
theorem scriptI_sm (x y : It) (hx : x.data.length ≤ 60) (hy : y.data.length ≤ 60) : SmS (scriptI x y) := by
  have l1 := linesS_len x.data
  have l2 := linesS_len y.data
  have h1 := diffG_few 120 (linesS x.data) (linesS y.data) [] 0 (by omega) ⟨by simp, by simp⟩
  have h2 := diffG_of (linesS y.data) 120 (linesS x.data) (linesS y.data) [] (by omega) (fun _ h => h) (fun e he => by simp at he)
  refine ⟨by simpa [scriptI, diffF] using h1, fun e he l hl => ?_⟩
  have := linesS_mem (h2 e he l hl)
  omega
theorem encLs_sm : ∀ (ls : List (List UInt8)), (∀ l ∈ ls, l.length ≤ 60) → (encLs ls).length ≤ 82 * ls.length
  | [], _ => by simp [encLs]
  | x :: r, h => by
    have h1 := h x (by simp)
    have h2 := encLs_sm r (fun l hl => h l (List.mem_cons_of_mem _ hl))
    have h3 := itoa_len (x.length : Int) ⟨by omega, by omega⟩
    simp only [encLs, List.flatMap_cons, encLine, List.length_append, List.length_cons, List.length_nil] at h2 ⊢
    omega
theorem encE_sm {e : Edit} (h1 : 0 ≤ e.n ∧ e.n ≤ 120 ∧ e.ls.length ≤ 120) (h2 : ∀ l ∈ e.ls, l.length ≤ 60) : (encE e).length ≤ 9863 := by
  have h3 := encLs_sm e.ls h2
  have h4 := itoa_len e.n ⟨by omega, by omega⟩
  have h5 : (sgn e.op).length ≤ 1 := by unfold sgn; repeat' split
                                        all_goals simp
  simp only [encE, encHead, List.length_append, List.length_cons, List.length_nil]
  omega
theorem encL_sm' : ∀ (s : List Edit), (∀ e ∈ s, (encE e).length ≤ 9863) → (encL s).length ≤ 9863 * s.length
  | [], _ => by simp [encL]
  | e :: r, h => by
    have h1 := h e (by simp)
    have h2 := encL_sm' r (fun x hx => h x (List.mem_cons_of_mem _ hx))
    simp only [encL, List.flatMap_cons, List.length_append, List.length_cons] at h2 ⊢
    omega
theorem encL_sm {s : List Edit} (h : SmS s) : (encL s).length ≤ 1183560 := by
  have h1 := encL_sm' s (fun e he => encE_sm (by have := h.1.2 e he; omega) (h.2 e he))
  have h2 := h.1.1
  omega
/-- What entries of small trees are. -/
def SmE (e : En) : Prop := e.path.length ≤ 2000 ∧ e.src.length ≤ 2000 ∧ e.data.length ≤ 60 ∧ SmS e.script
theorem txtN_len (s : List UInt8) (h : s.length ≤ 1099511627776) : (txtN s).length ≤ s.length + 22 := by
  have := itoa_len (s.length : Int) ⟨by omega, by omega⟩
  simp only [txtN, List.length_append, List.length_cons, List.length_nil]
  omega
theorem numN_len (n : Int) (h : inR n) : (numN n).length ≤ 22 := by
  have := itoa_len n h
  simp only [numN, List.length_append, List.length_cons, List.length_nil]
  omega
theorem encN_sm {e : En} (h : SmE e) (hm : mayE e = true) : (encN e).length ≤ 1200000 := by
  obtain ⟨m1, m2, m3, m4, m5, m6, m7, m8, m9⟩ := mayE_num hm
  obtain ⟨h1, h2, h3, h4⟩ := h
  have hs := encL_sm h4
  have k1 := numN_len e.op ⟨by omega, by omega⟩
  have k2 := txtN_len e.path (by omega)
  have k3 := txtN_len e.src (by omega)
  have k4 := numN_len e.old ⟨by omega, by omega⟩
  have k5 := numN_len e.new ⟨by omega, by omega⟩
  have k6 := txtN_len e.data (by omega)
  have k7 := numN_len e.score ⟨by omega, by omega⟩
  have k8 := txtN_len (encL e.script) (by omega)
  simp only [encN, List.length_append]
  omega
theorem encNL_sm : ∀ (l : List En), (∀ e ∈ l, (encN e).length ≤ 1200000) → (encNL l).length ≤ 1200000 * l.length
  | [], _ => by simp [encNL]
  | e :: r, h => by
    have h1 := h e (by simp)
    have h2 := encNL_sm r (fun x hx => h x (List.mem_cons_of_mem _ hx))
    simp only [encNL, List.flatMap_cons, List.length_append, List.length_cons] at h2 ⊢
    omega
theorem SmE.ok {e : En} (h : SmE e) : e.ok := ⟨by have := h.1; omega, by have := h.2.2.2.1.1; omega⟩
theorem SmE.ok2 {e : En} (h : SmE e) : e.ok2 := ⟨by have := h.2.2.2.1.1; omega, fun d hd => by have := h.2.2.2.1.2 d hd; omega⟩
/-- What is known of trees of raw items. -/
def SmT (t : List It) : Prop := t.length ≤ 224 ∧ ∀ x ∈ t, x.path.length ≤ 2000 ∧ x.data.length ≤ 60
theorem treeF_smT (raw : List Raw) : SmT (treeF raw) := by
  have h := treeG_sm (raw.take 14) [] 0 ⟨by simp, by simp⟩
  have h14 : (raw.take 14).length ≤ 14 := by simp; omega
  unfold treeF
  exact ⟨by omega, h.2⟩
theorem fD_smT {t : List It} (h : SmT t) (p : List UInt8) : (fD (findF t p)).data.length ≤ 60 := by
  cases hx : findF t p with
  | none => simp [fD]
  | some x => exact (h.2 x (findF_mem hx).1).2
theorem smS_nil : SmS [] := ⟨⟨by simp, by simp⟩, by simp⟩
theorem rowL_mem : ∀ {l : List Pr} {p : List UInt8} {x : Pr}, rowL p l = some (some x) → x ∈ l ∧ x.dst = p
  | [], p, x, h => by simp [rowL] at h
  | y :: r, p, x, h => by
    unfold rowL at h
    split at h
    · rename_i hy
      simp only [Option.some.injEq] at h
      subst h
      exact ⟨by simp, hy⟩
    · split at h
      · simp at h
      · have := rowL_mem h
        exact ⟨List.mem_cons_of_mem _ this.1, this.2⟩
theorem rowF_sm {a b : List It} {l : List Pr} {p : List UInt8} {e : En} (ha : SmT a) (hb : SmT b) (hp : p.length ≤ 2000) (hl : ∀ x ∈ l, x.src.length ≤ 2000) (h : rowF a b l p = some e) : SmE e := by
  unfold rowF at h
  split at h
  · rename_i x hx
    simp only [Option.some.injEq] at h
    subst h
    exact ⟨hp, hl x (rowL_mem hx).1, by simp [renE], scriptI_sm _ _ (fD_smT ha _) (fD_smT hb _)⟩
  · simp at h
  · split at h
    · simp only [Option.some.injEq] at h
      subst h
      exact ⟨hp, by simp, fD_smT hb _, smS_nil⟩
    · split at h
      · simp only [Option.some.injEq] at h
        subst h
        exact ⟨hp, by simp, by simp, smS_nil⟩
      · unfold bothE at h
        split at h
        · simp only [Option.some.injEq] at h
          subst h
          exact ⟨hp, by simp, fD_smT hb _, smS_nil⟩
        · split at h
          · simp only [Option.some.injEq] at h
            subst h
            exact ⟨hp, by simp, by simp, scriptI_sm _ _ (fD_smT ha _) (fD_smT hb _)⟩
          · simp at h
theorem rowsG_sm {a b : List It} {l : List Pr} (ha : SmT a) (hb : SmT b) (hl : ∀ x ∈ l, x.src.length ≤ 2000) : ∀ (r : List It), (∀ x ∈ r, x.path.length ≤ 2000) → ∀ e ∈ rowsG a b l r, SmE e
  | [], _ => by simp [rowsG]
  | x :: r, h => by
    intro e he
    unfold rowsG at he
    rcases List.mem_append.1 he with he | he
    · cases hx : rowF a b l x.path with
      | none => rw [hx] at he; simp at he
      | some d =>
        rw [hx] at he
        simp only [Option.toList_some, List.mem_singleton] at he
        subst he
        exact rowF_sm ha hb (h x (by simp)) hl hx
    · exact rowsG_sm ha hb hl r (fun y hy => h y (List.mem_cons_of_mem _ hy)) e he
theorem aloneF_mem {l other : List It} {y : It} (h : y ∈ aloneF l other) : y ∈ l ∧ (findF other y.path).isSome = false := by
  rcases (aloneG_mem other l [] y).1 h with h | h
  · simp at h
  · exact h
theorem allF_mem {a b : List It} {x : It} (h : x ∈ allF a b) : x ∈ a ∨ x ∈ b ∧ (findF a x.path).isSome = false := by
  unfold allF sortF at h
  rcases (sortG_mem itLt x _ _).1 h with h | h
  · simp at h
  · rcases List.mem_append.1 h with h | h
    · exact .inl h
    · exact .inr (aloneF_mem h)
theorem compF_sm {a b : List It} (ha : SmT a) (hb : SmT b) (l : Lim) (th : Int) : (compF a b l th).length ≤ 448 ∧ ∀ e ∈ compF a b l th, SmE e := by
  unfold compF
  split
  · simp
  · have hal : (aloneF b a).length ≤ b.length := by
      have := aloneG_len a b []
      simpa [aloneF] using this
    have hlen : (allF a b).length ≤ 448 := by
      unfold allF sortF
      rw [sortG_len]
      have := ha.1
      have := hb.1
      simp
      omega
    have h1 := rowsG_len a b (pairsF (aloneF a b) (aloneF b a) th) (allF a b)
    refine ⟨by omega, rowsG_sm ha hb (fun p hp => ?_) _ fun x hx => ?_⟩
    · obtain ⟨x, hx, y, hy, rfl, _⟩ := candF_mem (pairsF_mem hp)
      exact (ha.2 x (aloneF_mem hx).1).1
    · rcases allF_mem hx with h | h
      · exact (ha.2 x h).1
      · exact (hb.2 x h.1).1
theorem entriesF_sm (raw more : List Raw) (out : List Int) (th : Int) : (entriesF raw more out th).length ≤ 448 ∧ ∀ e ∈ entriesF raw more out th, SmE e := compF_sm (treeF_smT _) (treeF_smT _) _ _
theorem enc_small {l : List En} (h : l.length ≤ 448 ∧ ∀ e ∈ l, SmE e) (hm : ∀ e ∈ l, mayE e = true) : (encNL l).length ≤ 537600000 := by
  have := encNL_sm l (fun e he => encN_sm (h.2 e he) (hm e he))
  omega

theorem entsF_spec {t : List UInt8} {l : List En} (h : entsF t = some l) : rightE l = true ∧ encNL l = t := by
  unfold entsF at h
  cases hx : entsG t.length t with
  | none => rw [hx] at h; simp at h
  | some m =>
    rw [hx] at h
    simp only at h
    split at h
    · rename_i hr
      simp only [Option.some.injEq] at h
      subst h
      exact ⟨hr, entsG_eq _ _ _ hx⟩
    · simp at h
end Go.Proofs.YtdjgdipmjbkilaaGreatDoor.Rx
namespace Go.Proofs.YtdjgdipmjbkilaaGreatDoor.Rx
open Go Go.RowKit Go.ChangeShapes Go.WideShapes

def tRaw : RT := .st [.sl (.int .i64), .int .i64, .str, .int .i64]
/-- What shapes alone say of a raw item; what is not too large for a machine, besides. -/
def Raw.well (x : Raw) : Prop := (∀ c ∈ x.path, inR c) ∧ inR x.kind ∧ inR x.bad
def Raw.fit (x : Raw) : Prop := x.data.length ≤ 140737488355328
theorem Raw.well.ok {x : Raw} (h : x.well) (k : x.fit) : x.ok := ⟨h.1, h.2.1, h.2.2, by unfold Raw.fit at k; omega⟩
theorem ty_raw (x : AV) (h : Ty tRaw x.cells) (hg : x.isAgg = tRaw.isSt) : ∃ e, x = rA e ∧ e.well := by
  cases x with
  | agg cs =>
    simp only [AV.cells, tRaw, Ty, TyL] at h
    obtain ⟨_, _, rfl, ⟨xs, rfl, _, hx⟩, _, _, rfl, ⟨k, rfl, hk⟩, _, _, rfl, ⟨s, rfl, hs⟩, _, _, rfl, ⟨b, rfl, hb⟩, rfl⟩ := h
    obtain ⟨l, rfl, hl⟩ := ty_row (AV.int .i64) (fun c => inR c) (e := .int .i64) (fun x h1 h2 => by obtain ⟨n, rfl, hw⟩ := ty_int h1 h2; exact ⟨n, rfl, inR_of_wf hw⟩) xs hx
    exact ⟨⟨l, k, s, b⟩, rfl, hl, inR_of_wf hk, inR_of_wf hb⟩
  | _ => simp [AV.isAgg, tRaw, RT.isSt] at hg
theorem ty_raws {a : AV} (h : Ty (.sl tRaw) a.cells) (hg : a.isAgg = false) : ∃ l : List Raw, a = sR l ∧ l.length ≤ maxLen ∧ ∀ e ∈ l, e.well := ty_slice rA Raw.well ty_raw h hg
theorem fit_raws {l : List Raw} (h : Fit reachBytes (.sl tRaw) (sR l).cells) : l.length ≤ 2513169434843 ∧ ∀ x ∈ l, x.fit := by
  have hr : reachBytes = 140737488351232 := rfl
  obtain ⟨h1, h2⟩ := (show ∀ k xs p, (sR l).cells = [.sl k xs p] → xs.length * RT.bytes tRaw ≤ reachBytes ∧ ∀ x ∈ xs, Fit reachBytes tRaw x.cells from by simpa only [Fit] using h) 4 (l.map rA) .no rfl
  have hb : RT.bytes tRaw = 56 := rfl
  rw [hb, List.length_map, hr] at h1
  refine ⟨by omega, fun x hx => ?_⟩
  have := h2 (rA x) (List.mem_map_of_mem hx)
  simp only [tRaw, Fit, FitL, rA, AV.cells, RT.size, List.take_succ_cons, List.take_zero, List.drop_succ_cons, List.drop_zero, true_and, and_true] at this
  have h3 := this.2 x.data rfl
  unfold Raw.fit
  omega
end Go.Proofs.YtdjgdipmjbkilaaGreatDoor.Rx
