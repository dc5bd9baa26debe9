/-
  The paths' own plain program.
-/
import Derived.Test.YtpkeiffclipjmaaGreatDoorRxFa
import Derived.Test.YtpkeiffclipjmaaGreatDoorRxTabB
import Derived.Lib.LastIndexByte
namespace Go.Proofs.YtpkeiffclipjmaaGreatDoor.Rx
open Go Go.RowKit
set_option linter.unusedSimpArgs false
set_option linter.unusedVariables false

theorem get_mem {α : Type} : ∀ {l : List (Nat × α)} {i : Nat} {a : α}, get l i = some a → (i, a) ∈ l
  | [], i, a, h => by simp [get] at h
  | (k, v) :: l, i, a, h => by
    simp only [get] at h
    split at h
    · rename_i e
      simp only [Option.some.injEq] at h
      subst e h
      simp
    · exact List.mem_cons_of_mem _ (get_mem h)
theorem lessS_self : ∀ a : List UInt8, lessS a a = false
  | [] => rfl
  | x :: a => by simp [lessS, lessS_self a]
theorem lessS_pre (p : List UInt8) (y : UInt8) (v : List UInt8) : lessS p (p ++ y :: v) = true := by
  induction p with
  | nil => rfl
  | cons x p ih => simp [lessS, ih]
theorem lessS_pre' (p : List UInt8) (y : UInt8) (v : List UInt8) : lessS (p ++ y :: v) p = false := by
  induction p with
  | nil => rfl
  | cons x p ih => simp [lessS, ih]
theorem lessS_at (p : List UInt8) (x y : UInt8) (u v : List UInt8) (h : x ≠ y) : lessS (p ++ x :: u) (p ++ y :: v) = decide (x < y) := by
  induction p with
  | nil => simp [lessS, h]
  | cons z p ih => simp [lessS, ih]
theorem splitG_head : ∀ (r p : List UInt8), ∃ w t, splitG p r = (p ++ w) :: t
  | [], p => ⟨[], [], by simp [splitG]⟩
  | c :: r, p => by
    unfold splitG
    split
    · exact ⟨[], splitG [] r, by simp⟩
    · obtain ⟨w, t, h⟩ := splitG_head r (p ++ [c])
      exact ⟨c :: w, t, by rw [h]; simp⟩
theorem cmpL_head {a b : List UInt8} {x y : List (List UInt8)} (h : a ≠ b) : cmpL (a :: x) (b :: y) = if lessS a b = true then -1 else 1 := by
  have hq : cmpQ (a :: x) (b :: y) = if lessS a b = true then some (-1) else if a = b then cmpQ x y else some 1 := rfl
  unfold cmpL
  rw [hq]
  by_cases h1 : lessS a b = true
  · rw [if_pos h1, if_pos h1]
  · rw [if_neg h1, if_neg h, if_neg h1]
theorem cmpL_same (a : List UInt8) (x y : List (List UInt8)) : cmpL (a :: x) (a :: y) = cmpL x y := by
  unfold cmpL
  have : cmpQ (a :: x) (a :: y) = cmpQ x y := by
    rw [cmpQ]
    rw [if_neg (by rw [lessS_self]; simp), if_pos rfl]
  rw [this]
  simp
theorem u8_ne_rk {x y : UInt8} (hx : x ≠ 47) (hy : y ≠ 47) : rk1 x < rk1 y ↔ x < y := by
  unfold rk1
  rw [if_neg hx, if_neg hy, UInt8.lt_iff_toNat_lt]
  omega
theorem app_ne (p : List UInt8) (y : UInt8) (v : List UInt8) : p ≠ p ++ y :: v := fun e => by
  have := congrArg List.length e
  simp at this
theorem app_ne2 (p : List UInt8) (x y : UInt8) (u v : List UInt8) (h : x ≠ y) : p ++ x :: u ≠ p ++ y :: v := fun e => by
  have := List.append_cancel_left e
  simp only [List.cons.injEq] at this
  exact h this.1
theorem rk1_47 (y : UInt8) (hy : y ≠ 47) : rk1 47 < rk1 y ∧ ¬ rk1 y < rk1 47 := by
  have h1 : rk1 47 = 1 := rfl
  unfold rk1 at *
  rw [if_neg hy]
  have := y.toNat_lt
  omega
theorem cmp_split : ∀ (a b p : List UInt8), cmpL (splitG p a) (splitG p b) = cmpS a b
  | [], [], p => by
    simp only [splitG, cmpL_same, cmpS]
    rfl
  | [], c :: b, p => by
    by_cases hc : c = 47
    · subst hc
      simp only [splitG, if_true, cmpL_same, cmpS]
      obtain ⟨w, t, h⟩ := splitG_head b []
      rw [h]
      rfl
    · obtain ⟨w, t, h⟩ := splitG_head b (p ++ [c])
      simp only [splitG, if_neg hc, h, cmpS]
      have e : p ++ [c] ++ w = p ++ c :: w := by simp
      rw [e, cmpL_head (app_ne p c w), if_pos (lessS_pre p c w)]
  | c :: a, [], p => by
    by_cases hc : c = 47
    · subst hc
      simp only [splitG, if_true, cmpL_same, cmpS]
      obtain ⟨w, t, h⟩ := splitG_head a []
      rw [h]
      rfl
    · obtain ⟨w, t, h⟩ := splitG_head a (p ++ [c])
      simp only [splitG, if_neg hc, h, cmpS]
      have e : p ++ [c] ++ w = p ++ c :: w := by simp
      rw [e, cmpL_head (Ne.symm (app_ne p c w)), if_neg (by rw [lessS_pre']; simp)]
  | x :: a, y :: b, p => by
    by_cases hx : x = 47
    · subst hx
      by_cases hy : y = 47
      · subst hy
        simp only [splitG, if_true, cmpL_same, cmpS, Int.lt_irrefl, if_false]
        exact cmp_split a b []
      · obtain ⟨w, t, h⟩ := splitG_head b (p ++ [y])
        obtain ⟨k1, k2⟩ := rk1_47 y hy
        simp only [splitG, if_true, if_neg hy, h, cmpS, if_pos k1]
        have e : p ++ [y] ++ w = p ++ y :: w := by simp
        rw [e, cmpL_head (app_ne p y w), if_pos (lessS_pre p y w)]
    · by_cases hy : y = 47
      · subst hy
        obtain ⟨w, t, h⟩ := splitG_head a (p ++ [x])
        obtain ⟨k1, k2⟩ := rk1_47 x hx
        simp only [splitG, if_true, if_neg hx, h, cmpS, if_neg k2, if_pos k1]
        have e : p ++ [x] ++ w = p ++ x :: w := by simp
        rw [e, cmpL_head (Ne.symm (app_ne p x w)), if_neg (by rw [lessS_pre']; simp)]
      · by_cases hxy : x = y
        · subst hxy
          simp only [splitG, if_neg hx, cmpS, Int.lt_irrefl, if_false]
          exact cmp_split a b (p ++ [x])
        · obtain ⟨w, t, h⟩ := splitG_head a (p ++ [x])
          obtain ⟨w', t', h'⟩ := splitG_head b (p ++ [y])
          simp only [splitG, if_neg hx, if_neg hy, h, h', cmpS]
          have e : p ++ [x] ++ w = p ++ x :: w := by simp
          have e' : p ++ [y] ++ w' = p ++ y :: w' := by simp
          rw [e, e', cmpL_head (app_ne2 p x y w w' hxy), lessS_at p x y w w' hxy]
          by_cases hlt : x < y
          · rw [if_pos (by simpa using hlt), if_pos ((u8_ne_rk hx hy).2 hlt)]
          · have hgt : y < x := by
              rw [UInt8.lt_iff_toNat_lt] at hlt ⊢
              have : x.toNat ≠ y.toNat := fun e => hxy (UInt8.toNat_inj.1 e)
              omega
            rw [if_neg (by simpa using hlt), if_neg (fun h => hlt ((u8_ne_rk hx hy).1 h)), if_pos ((u8_ne_rk hy hx).2 hgt)]
/-- The document's order is the program's. -/
theorem cmp_eq (a b : List UInt8) : cmpP a b = cmpS a b := cmp_split a b []
theorem rk1_inj {x y : UInt8} (h1 : ¬ rk1 x < rk1 y) (h2 : ¬ rk1 y < rk1 x) : x = y := by
  unfold rk1 at h1 h2
  have hx := x.toNat_lt
  have hy := y.toNat_lt
  by_cases k1 : x = 47
  · by_cases k2 : y = 47
    · rw [k1, k2]
    · rw [if_pos k1, if_neg k2] at h1; omega
  · by_cases k2 : y = 47
    · rw [if_neg k1, if_pos k2] at h2; omega
    · rw [if_neg k1, if_neg k2] at h1 h2
      exact UInt8.toNat_inj.1 (by omega)
theorem cmpS_self : ∀ a : List UInt8, cmpS a a = 0
  | [] => rfl
  | x :: a => by simp [cmpS, cmpS_self a]
theorem cmpS_zero : ∀ {a b : List UInt8}, cmpS a b = 0 → a = b
  | [], [], _ => rfl
  | [], c :: b, h => by simp [cmpS] at h
  | c :: a, [], h => by simp [cmpS] at h
  | x :: a, y :: b, h => by
    unfold cmpS at h
    split at h
    · simp at h
    · split at h
      · simp at h
      · rename_i h1 h2
        rw [rk1_inj h1 h2, cmpS_zero h]
theorem cmpS_anti : ∀ a b : List UInt8, cmpS b a = - cmpS a b
  | [], [] => rfl
  | [], c :: b => rfl
  | c :: a, [] => rfl
  | x :: a, y :: b => by
    unfold cmpS
    by_cases h1 : rk1 x < rk1 y
    · rw [if_neg (by omega), if_pos h1, if_pos h1]; rfl
    · by_cases h2 : rk1 y < rk1 x
      · rw [if_pos h2, if_neg h1, if_pos h2]
      · rw [if_neg h2, if_neg h1, if_neg h1, if_neg h2]
        exact cmpS_anti a b
theorem cmpS_trans : ∀ {a b c : List UInt8}, cmpS a b < 0 → cmpS b c < 0 → cmpS a c < 0
  | [], [], c, h1, h2 => by simp [cmpS] at h1
  | [], y :: b, [], h1, h2 => by simp [cmpS] at h2
  | [], y :: b, z :: c, h1, h2 => by simp [cmpS]
  | x :: a, [], c, h1, h2 => by simp [cmpS] at h1
  | x :: a, y :: b, [], h1, h2 => by simp [cmpS] at h2
  | x :: a, y :: b, z :: c, h1, h2 => by
    unfold cmpS at h1 h2 ⊢
    by_cases k1 : rk1 x < rk1 y
    · by_cases k2 : rk1 y < rk1 z
      · rw [if_pos (by omega)]; omega
      · rw [if_neg k2] at h2
        by_cases k3 : rk1 z < rk1 y
        · rw [if_pos k3] at h2; omega
        · rw [if_pos (by omega)]; omega
    · rw [if_neg k1] at h1
      by_cases k4 : rk1 y < rk1 x
      · rw [if_pos k4] at h1; omega
      · rw [if_neg k4] at h1
        by_cases k2 : rk1 y < rk1 z
        · rw [if_pos (by omega)]; omega
        · rw [if_neg k2] at h2
          by_cases k3 : rk1 z < rk1 y
          · rw [if_pos k3] at h2; omega
          · rw [if_neg k3] at h2
            rw [if_neg (by omega), if_neg (by omega)]
            exact cmpS_trans h1 h2
namespace P
def extL : List (Nat × (List AV → Option AV)) := [(62, splitF), (85, lastF), (84, indexByteF)]
def tblL : List (Nat × AFunc) := [(47, A47), (48, A48), (53, A53), (63, A63), (64, A64), (72, A72), (73, A73), (98, A98), (99, A99)]
def Sy : Sys := ⟨get extL, get tblL⟩
theorem ext_all : ∀ p ∈ extL, ∀ args r, p.2 args = some r → Says C4 p.1 args r := by
  unfold extL
  refine List.forall_mem_cons.2 ⟨split_says, ?_⟩
  refine List.forall_mem_cons.2 ⟨last_says, ?_⟩
  refine List.forall_mem_cons.2 ⟨indexByte_says, ?_⟩
  exact fun _ h => absurd h List.not_mem_nil
theorem tbl_all : ∀ p ∈ tblL, ∃ K fn ks, Tryz.prog.funcs[p.1]? = some fn ∧ cmpF Tryz.prog K fn ks = some p.2 := by
  unfold tblL
  refine List.forall_mem_cons.2 ⟨⟨_, _, K47, Tryz.func47, c47⟩, ?_⟩
  refine List.forall_mem_cons.2 ⟨⟨_, _, K48, Tryz.func48, c48⟩, ?_⟩
  refine List.forall_mem_cons.2 ⟨⟨_, _, K53, Tryz.func53, c53⟩, ?_⟩
  refine List.forall_mem_cons.2 ⟨⟨_, _, K63, Tryz.func63, c63⟩, ?_⟩
  refine List.forall_mem_cons.2 ⟨⟨_, _, K64, Tryz.func64, c64⟩, ?_⟩
  refine List.forall_mem_cons.2 ⟨⟨_, _, K72, Tryz.func72, c72⟩, ?_⟩
  refine List.forall_mem_cons.2 ⟨⟨_, _, K73, Tryz.func73, c73⟩, ?_⟩
  refine List.forall_mem_cons.2 ⟨⟨_, _, K98, Tryz.func98, c98⟩, ?_⟩
  refine List.forall_mem_cons.2 ⟨⟨_, _, K99, Tryz.func99, c99⟩, ?_⟩
  exact fun _ h => absurd h List.not_mem_nil
set_option maxRecDepth 100000 in
theorem fits : Fits C4 Sy := {
  mix := by kernel_rfl
  fine := fine4
  ext := fun _ _ h => ext_all _ (get_mem h)
  tbl := fun _ _ h => tbl_all _ (get_mem h) }
theorem rank_den (s : List UInt8) (hs : s.length ≤ 1099511627776) (i : Nat) (hi : i ≤ 1099511627777) : Den Sy 73 [.str s, .int .i64 i] = some (.int .i64 (rkF s i)) := by
  rw [Den_fun Sy (af := A73) rfl rfl _ rfl]
  by_cases h : s.length ≤ i
  · have h' : (s.length : Int) ≤ i := by omega
    have hg : s[i]? = none := List.getElem?_eq_none h
    simp [A73, h, h', rkF, hg, -getElem?_pos]
  · have h' : ¬ (s.length : Int) ≤ i := by omega
    have hg : s[i]? = some s[i] := List.getElem?_eq_getElem (by omega)
    unfold rkF
    rw [hg]
    generalize s[i] = c at hg
    have hlt := c.toNat_lt
    have hc := chk_i64 (2 + (c.toNat : Int)) (by omega)
    have hcv : conv (Cv.toInt .i64) (.int .u8 c.toNat) = some (.int .i64 c.toNat) := by
      unfold conv
      exact chk_i64 _ (by omega)
    by_cases h0 : c = 47
    · have h0' := (u8_47 c).2 h0
      simp [A73, h, h', hg, -getElem?_pos, List.getElem?_cons_zero, h0', rk1, eq_true h0]
    · have h0' := fun e => h0 ((u8_47 c).1 e)
      simp [A73, h, h', hg, -getElem?_pos, List.getElem?_cons_zero, eq_false h0', rk1, h0, hc, hcv]
theorem cmpI_den (a b : Int) : Den Sy 72 [.int .i64 a, .int .i64 b] = some (.int .i64 (if a < b then -1 else if b < a then 1 else 0)) := by
  have hn : ∀ x : Int, Den Sy 98 [.int .i64 x] = some (.bool false) := fun x => by
    rw [Den_fun Sy (af := A98) rfl rfl _ rfl]
    simp [A98]
  rw [Den_fun Sy (af := A72) rfl rfl _ rfl]
  by_cases h1 : a < b
  · simp [A72, hn, h1]
  · by_cases h2 : b < a
    · simp [A72, hn, h1, h2]
    · simp [A72, hn, h1, h2]
theorem cmpS_loop (a b : List UInt8) (ha : a.length ≤ 1099511627776) (hb : b.length ≤ 1099511627776) (n : Nat) (hn : n = max a.length b.length) (bx : Bx) (pm : Pm) : ∀ (x y px py : List UInt8) (i : Int), a = px ++ x → b = py ++ y → px.length = py.length → i = px.length →
    Res (RunD Sy (.loop L53x0) ⟨ofL [(0, .str a), (1, .str b), (11, .int .i64 n), (12, .int .i64 i)], bx, pm, none⟩) fun ex st' => st'.df = none ∧ if cmpS x y = 0 then ex = .exit 0 else ex = .ret ∧ st'.env = ofL [(4, .int .i64 (cmpS x y))]
  | [], [], px, py, i, h1, h2, h3, hi => by
    subst hi
    have hlt : ¬ (px.length : Int) < n := by rw [hn, h1, h2]; simp; omega
    refine loop_step fun K hK => ?_
    simp [L53x0, hlt, cmpS]
  | [], c :: y, px, py, i, h1, h2, h3, hi => by
    subst hi
    have l1 : a.length = px.length := by rw [h1]; simp
    have l2 : b.length = py.length + (y.length + 1) := by rw [h2]; simp
    have hlt : (px.length : Int) < n := by omega
    have r1 := rank_den a ha px.length (by omega)
    have r2 := rank_den b hb px.length (by omega)
    rw [rkF_end a px.length (by omega)] at r1
    have e2 : rkF b px.length = rk1 c := by rw [h2, h3, rkF_at]
    rw [e2] at r2
    have hp := rk1_pos c
    have hc := cmpI_den 0 (rk1 c)
    rw [if_pos hp] at hc
    refine loop_step fun K hK => ?_
    simp [L53x0, hlt, r1, r2, hc, cmpS]
  | c :: x, [], px, py, i, h1, h2, h3, hi => by
    subst hi
    have l1 : a.length = px.length + (x.length + 1) := by rw [h1]; simp
    have l2 : b.length = py.length := by rw [h2]; simp
    have hlt : (px.length : Int) < n := by omega
    have r1 := rank_den a ha px.length (by omega)
    have r2 := rank_den b hb px.length (by omega)
    rw [rkF_end b px.length (by omega)] at r2
    have e2 : rkF a px.length = rk1 c := by rw [h1, rkF_at]
    rw [e2] at r1
    have hp := rk1_pos c
    have hc := cmpI_den (rk1 c) 0
    rw [if_neg (by omega), if_pos hp] at hc
    refine loop_step fun K hK => ?_
    simp [L53x0, hlt, r1, r2, hc, cmpS]
  | c :: x, d :: y, px, py, i, h1, h2, h3, hi => by
    subst hi
    have l1 : a.length = px.length + (x.length + 1) := by rw [h1]; simp
    have l2 : b.length = py.length + (y.length + 1) := by rw [h2]; simp
    have hlt : (px.length : Int) < n := by omega
    have r1 := rank_den a ha px.length (by omega)
    have r2 := rank_den b hb px.length (by omega)
    have e1 : rkF a px.length = rk1 c := by rw [h1, rkF_at]
    have e2 : rkF b px.length = rk1 d := by rw [h2, h3, rkF_at]
    rw [e1] at r1
    rw [e2] at r2
    have hc := cmpI_den (rk1 c) (rk1 d)
    have hk := chk_i64 ((px.length : Int) + 1) (by omega)
    have hnx := cmpS_loop a b ha hb n hn bx pm x y (px ++ [c]) (py ++ [d]) ((px.length : Int) + 1) (by simp [h1]) (by simp [h2]) (by simp [h3]) (by simp)
    unfold cmpS
    refine loop_step fun K hK => ?_
    by_cases k1 : rk1 c < rk1 d
    · rw [if_pos k1] at hc
      simp [L53x0, hlt, r1, r2, hc, k1]
    · rw [if_neg k1] at hc
      by_cases k2 : rk1 d < rk1 c
      · rw [if_pos k2] at hc
        simp [L53x0, hlt, r1, r2, hc, k1, k2]
      · rw [if_neg k2] at hc
        simp [L53x0, hlt, r1, r2, hc, k1, k2, hk]
        rw [hK]
        exact hnx
theorem cmpS_den (a b : List UInt8) (ha : a.length ≤ 1099511627776) (hb : b.length ≤ 1099511627776) : Den Sy 53 [.str a, .str b] = some (.int .i64 (cmpS a b)) := by
  rw [Den_fun Sy (af := A53) rfl rfl _ rfl]
  have hmx : (if a.length < b.length then (b.length : Int) else a.length) = ((max a.length b.length : Nat) : Int) := by split <;> omega
  obtain ⟨ex, st', hL, hd, hR⟩ := cmpS_loop a b ha hb _ rfl (ofL []) none' a b [] [] 0 rfl rfl rfl rfl
  by_cases h : cmpS a b = 0
  · rw [if_pos h] at hR
    subst hR
    simp [A53, hmx, hL, hd, h]
  · rw [if_neg h] at hR
    obtain ⟨rfl, h2⟩ := hR
    simp [A53, hmx, hL, hd, h2]
end P
end Go.Proofs.YtpkeiffclipjmaaGreatDoor.Rx
namespace Go.Proofs.YtpkeiffclipjmaaGreatDoor.Rx
open Go Go.RowKit
set_option linter.unusedSimpArgs false
set_option linter.unusedVariables false

abbrev bigT : Nat := 4294967280
theorem idx0 : ∀ s : List UInt8, (0 ≤ Lib.indexByte s 0) ↔ (s.all fun c => decide (c ≠ 0)) = false
  | [] => by simp [Lib.indexByte]
  | c :: s => by
    have ih := idx0 s
    have hge := Lib.indexByte_ge s 0
    by_cases h : c = 0
    · subst h
      simp [Lib.indexByte]
    · have hc : (c == 0) = false := by simpa using h
      unfold Lib.indexByte
      simp only [hc, Bool.false_eq_true, if_false, List.all_cons, h, ne_eq, not_false_eq_true, decide_true, Bool.true_and] at ih ⊢
      rw [← ih]
      split
      · rename_i e
        have e' : Lib.indexByte s 0 = -1 := by simpa using e
        rw [e']
      · rename_i e
        have e' : ¬ Lib.indexByte s 0 = -1 := by simpa using e
        omega
namespace P
theorem odd_den (s : List UInt8) (hs : s.length ≤ bigT) : Den Sy 63 [.str s] = some (.bool (!may01 s)) := by
  rw [Den_fun Sy (af := A63) rfl rfl _ rfl]
  have hix : Den Sy 84 [.str s, .int .u8 0] = some (.int .i64 (Lib.indexByte s 0)) := Den_ext Sy (F := indexByteF) rfl _
  by_cases h1 : s = []
  · subst h1
    simp [A63, may01]
  · by_cases h2 : s = [46]
    · subst h2
      simp [A63, may01]
    · by_cases h3 : s = [46, 46]
      · subst h3
        simp [A63, may01]
      · by_cases h4 : 64 < s.length
        · have h4' : (64 : Int) < s.length := by omega
          have hm : may01 s = false := by unfold may01; simp [h4]
          simp [A63, h1, h2, h3, h4', hm]
        · have h4' : ¬ (64 : Int) < s.length := by omega
          have hx := idx0 s
          by_cases h5 : 0 ≤ Lib.indexByte s 0
          · have hm : may01 s = false := by unfold may01; rw [hx.1 h5]; simp
            simp [A63, h1, h2, h3, h4', hm, hix, h5]
          · have hb : (s.all fun c => decide (c ≠ 0)) = true := by
              cases hc : (s.all fun c => decide (c ≠ 0)) with
              | true => rfl
              | false => exact absurd (hx.2 hc) h5
            have hm : may01 s = true := by unfold may01; rw [hb]; simp [h1, h2, h3, h4]
            simp [A63, h1, h2, h3, h4', hm, hix, h5]
theorem check_loop (l : List (List UInt8)) (hl : l.length ≤ 1099511627777) (hm : ∀ x ∈ l, x.length ≤ bigT) (bx : Bx) (pm : Pm) : ∀ (rest pre : List (List UInt8)) (i : Int), l = pre ++ rest → i = pre.length →
    Res (RunD Sy (.loop L47x0) ⟨ofL [(3, sS l), (8, sS l), (9, .int .i64 l.length), (10, .int .i64 i)], bx, pm, none⟩) fun ex st' => st'.df = none ∧ if rest.all may01 = true then ex = .exit 0 ∧ st'.env 3 = some (sS l) else ex = .ret ∧ st'.env 2 = some (.int .i64 2)
  | [], pre, i, h, hi => by
    subst hi
    rw [List.append_nil] at h
    subst h
    rw [RunD_loop]
    simp [L47x0]
  | c :: rest, pre, i, h, hi => by
    subst hi
    have hlt : (pre.length : Int) < l.length := by rw [h]; simp; omega
    have hg : (l.map AV.str)[pre.length]? = some (.str c) := by rw [h]; simp
    have hc := chk_i64 ((pre.length : Int) + 1) (by omega)
    have hd := odd_den c (hm c (by rw [h]; simp))
    refine loop_step fun K hK => ?_
    by_cases h0 : may01 c = true
    · have hr := check_loop l hl hm bx pm rest (pre ++ [c]) ((pre.length : Int) + 1) (by simp [h]) (by simp)
      simp [L47x0, -getElem?_pos, -List.getElem?_map, hlt, hg, hc, hd, h0]
      rw [hK]
      simpa using hr
    · simp [L47x0, -getElem?_pos, -List.getElem?_map, hlt, hg, hc, hd, h0]
theorem split_den (s : List UInt8) (hs : s.length ≤ bigT) : Den Sy 62 [.str s, .str [47]] = some (sS (splitP s)) := by
  rw [Den_ext Sy (F := splitF) rfl _]
  have : s.length < 4294967281 := by have : bigT = 4294967280 := rfl; omega
  simp [splitF, this]
theorem check_den (s : List UInt8) (hs : s.length ≤ bigT) : Den Sy 47 [.str s] = some (.int .i64 (check01F s)) := by
  rw [Den_fun Sy (af := A47) rfl rfl _ rfl]
  have hd := split_den s hs
  have hl := splitP_len s
  have hbt : bigT = 4294967280 := rfl
  obtain ⟨ex, st', hL, hdf, hR⟩ := check_loop (splitP s) (by omega) (fun x hx => by have := splitP_mem hx; omega) (ofL []) none' (splitP s) [] 0 rfl rfl
  by_cases h1 : (splitP s).all may01 = true
  · rw [if_pos h1] at hR
    obtain ⟨rfl, h3⟩ := hR
    by_cases h2 : 16 < (splitP s).length
    · have h2' : (16 : Int) < (splitP s).length := by omega
      simp [A47, hd, hL, hdf, h3, check01F, eq_true h1, h2, h2', -List.all_eq_true]
    · have h2' : ¬ (16 : Int) < (splitP s).length := by omega
      simp [A47, hd, hL, hdf, h3, check01F, eq_true h1, h2, h2', -List.all_eq_true]
  · rw [if_neg h1] at hR
    obtain ⟨rfl, h3⟩ := hR
    simp [A47, hd, hL, hdf, h3, check01F, eq_false h1, -List.all_eq_true]
theorem parts_den (s : List UInt8) (hs : s.length ≤ bigT) : Den Sy 99 [.str s] = some (sS (partsF s)) := by
  rw [Den_fun Sy (af := A99) rfl rfl _ rfl]
  have hd := split_den s hs
  have hc := check_den s hs
  by_cases h : check01F s = 0
  · simp [A99, hd, hc, h, partsF]
  · simp [A99, hd, hc, h, partsF]
end P
end Go.Proofs.YtpkeiffclipjmaaGreatDoor.Rx
namespace Go.Proofs.YtpkeiffclipjmaaGreatDoor.Rx
open Go Go.RowKit
set_option linter.unusedSimpArgs false
set_option linter.unusedVariables false

theorem dirG_fold : ∀ (l : List (List UInt8)) (out z : List UInt8), dirG out (l ++ [z]) = l.foldl joinF out
  | [], out, z => rfl
  | a :: l, out, z => by
    have ih := dirG_fold l (joinF out a) z
    rw [List.cons_append]
    cases hl : l ++ [z] with
    | nil => simp at hl
    | cons b r =>
      rw [hl] at ih
      rw [dirG, ih]
      rfl
theorem fold_join : ∀ (r cur out : List UInt8), out ≠ [] → (splitG cur r).foldl joinF out = out ++ [47] ++ cur ++ r
  | [], cur, out, h => by simp [splitG, joinF, h]
  | c :: r, cur, out, h => by
    unfold splitG
    split
    · rename_i hc
      have hj : joinF out cur = out ++ [47] ++ cur := by simp [joinF, h]
      rw [List.foldl_cons, fold_join r [] _ (by rw [hj]; simp), hj, hc]
      simp
    · rw [fold_join r (cur ++ [c]) out h]
      simp
theorem fold_join0 : ∀ (r cur : List UInt8), (∀ x l, splitG cur r = x :: l → x ≠ []) → (splitG cur r).foldl joinF [] = cur ++ r
  | [], cur, h => by simp [splitG, joinF]
  | c :: r, cur, h => by
    unfold splitG at h ⊢
    split
    · rename_i hc
      rw [if_pos hc] at h
      have hne := h cur _ rfl
      have hj : joinF [] cur = cur := by simp [joinF]
      rw [List.foldl_cons, hj, fold_join r [] cur hne, hc]
      simp
    · rename_i hc
      rw [if_neg hc] at h
      rw [fold_join0 r (cur ++ [c]) h]
      simp
theorem splitG_no : ∀ (r cur : List UInt8), 47 ∉ r → splitG cur r = [cur ++ r]
  | [], cur, h => by simp [splitG]
  | c :: r, cur, h => by
    have h1 : c ≠ 47 := fun e => h (by simp [e])
    have h2 : 47 ∉ r := fun e => h (List.mem_cons_of_mem _ e)
    unfold splitG
    rw [if_neg h1, splitG_no r _ h2]
    simp
theorem splitG_last : ∀ (pre cur post : List UInt8), 47 ∉ post → splitG cur (pre ++ 47 :: post) = splitG cur pre ++ [post]
  | [], cur, post, h => by simp [splitG, splitG_no post [] h]
  | c :: pre, cur, post, h => by
    rw [List.cons_append]
    unfold splitG
    split
    · rw [splitG_last pre [] post h]; rfl
    · exact splitG_last pre _ post h
/-- The last slash. -/
theorem last_cases (s : List UInt8) : (Lib.lastIndexByte ⟨s.toArray⟩ 47 = -1 ∧ 47 ∉ s) ∨ ∃ pre post, s = pre ++ 47 :: post ∧ 47 ∉ post ∧ Lib.lastIndexByte ⟨s.toArray⟩ 47 = pre.length := by
  have hsz : (⟨s.toArray⟩ : ByteArray).size = s.length := by simp [ByteArray.size]
  have hg : ∀ j, j < s.length → (⟨s.toArray⟩ : ByteArray).data[j]! = s[j]! := fun j hj => by simp
  rcases Lib.lastIndexByte_spec ⟨s.toArray⟩ 47 with ⟨h1, h2⟩ | ⟨i, h1, h2, h3, h4⟩
  · refine .inl ⟨h1, fun hm => ?_⟩
    obtain ⟨j, hj, e⟩ := List.getElem_of_mem hm
    refine h2 j (by rw [hsz]; exact hj) ?_
    rw [hg j hj, getElem!_pos s j hj, e]
    rfl
  · rw [hsz] at h1 h4
    refine .inr ⟨s.take i, s.drop (i + 1), ?_, ?_, ?_⟩
    · have e : s[i] = 47 := by
        rw [hg i h1, getElem!_pos s i h1] at h3
        exact (u8_47 _).1 h3
      rw [← e, ← List.drop_eq_getElem_cons h1, List.take_append_drop]
    · intro hm
      obtain ⟨j, hj, e⟩ := List.getElem_of_mem hm
      have hj' : i + 1 + j < s.length := by simp at hj; omega
      refine h4 (i + 1 + j) (by omega) hj' ?_
      rw [hg _ hj', getElem!_pos s _ hj']
      rw [List.getElem_drop] at e
      rw [e]
      rfl
    · rw [h2]
      simp
      omega
theorem dir_eq (s : List UInt8) : dirF s = if check01F s = 0 ∧ 0 ≤ Lib.lastIndexByte ⟨s.toArray⟩ 47 then s.take (Lib.lastIndexByte ⟨s.toArray⟩ 47).toNat else [] := by
  unfold dirF partsF
  by_cases hc : check01F s = 0
  · rw [if_pos hc]
    rcases last_cases s with ⟨h1, h2⟩ | ⟨pre, post, rfl, h2, h3⟩
    · rw [h1, if_neg (by omega), splitP, splitG_no s [] h2]
      rfl
    · rw [h3, if_pos ⟨hc, by omega⟩, splitP, splitG_last pre [] post h2, dirG_fold]
      have hall : (splitP (pre ++ 47 :: post)).all may01 = true := by
        unfold check01F at hc
        split at hc
        · assumption
        · omega
      rw [splitP, splitG_last pre [] post h2] at hall
      rw [fold_join0 pre [] (fun x l e hx => ?_)]
      · simp
      · rw [e, hx] at hall
        simp [may01] at hall
  · rw [if_neg hc, if_neg (fun h => hc h.1)]
    rfl
namespace P
theorem dir_den (s : List UInt8) (hs : s.length ≤ bigT) : Den Sy 48 [.str s] = some (.str (dirF s)) := by
  have hl : Den Sy 85 [.str s, .str [47]] = some (.int .i64 (Lib.lastIndexByte ⟨s.toArray⟩ 47)) := by
    rw [Den_ext Sy (F := lastF) rfl _]
    have : s.length < 4611686018427387904 := by have : bigT = 4294967280 := rfl; omega
    simp [lastF, this]
  have hc := check_den s hs
  have hcut : Den Sy 64 [.str s] = some (.tup [.int .i64 (Lib.lastIndexByte ⟨s.toArray⟩ 47), .bool (decide (check01F s = 0))]) := by
    rw [Den_fun Sy (af := A64) rfl rfl _ rfl]
    simp [A64, hl, hc]
  rw [Den_fun Sy (af := A48) rfl rfl _ rfl, dir_eq]
  by_cases h1 : check01F s = 0
  · by_cases h2 : 0 ≤ Lib.lastIndexByte ⟨s.toArray⟩ 47
    · have h3 : ¬ Lib.lastIndexByte ⟨s.toArray⟩ 47 < 0 := by omega
      have h4 : Lib.lastIndexByte ⟨s.toArray⟩ 47 ≤ s.length := by
        rcases last_cases s with ⟨e, _⟩ | ⟨pre, post, e1, _, e2⟩
        · omega
        · rw [e2]
          have := congrArg List.length e1
          simp at this
          omega
      simp [A48, hcut, h1, h2, h3, h4]
    · have h3 : Lib.lastIndexByte ⟨s.toArray⟩ 47 < 0 := by omega
      simp [A48, hcut, h1, h2, h3]
  · simp [A48, hcut, h1]
end P
end Go.Proofs.YtpkeiffclipjmaaGreatDoor.Rx
