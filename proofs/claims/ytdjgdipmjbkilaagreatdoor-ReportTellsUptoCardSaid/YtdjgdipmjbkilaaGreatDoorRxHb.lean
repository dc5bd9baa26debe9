/-
  The reports' laws, plain, b: what has become of trees, by the document.
-/
import Derived.Test.YtdjgdipmjbkilaaGreatDoorRxHa
namespace Go.Proofs.YtdjgdipmjbkilaaGreatDoor.Rx
open Go
set_option linter.unusedSimpArgs false
set_option linter.unusedVariables false

def withE (s : List Edit) (op : Int) (ls : List (List UInt8)) : List Edit := match s.getLast? with
  | some e => if e.op = op then s.dropLast ++ [⟨op, e.n + 1, e.ls ++ ls⟩] else s ++ [⟨op, 1, ls⟩]
  | none => s ++ [⟨op, 1, ls⟩]
theorem z40 {n : Nat} (h : n ≤ 2000000) : n * 40 ≤ 140737488355328 := by omega
theorem z16 {n : Nat} (h : n ≤ 2000000) : n * 16 ≤ 140737488355328 := by omega
theorem withE_nil (op : Int) (ls : List (List UInt8)) : withE [] op ls = [⟨op, 1, ls⟩] := rfl
theorem withE_snoc (s : List Edit) (e : Edit) (op : Int) (ls : List (List UInt8)) : withE (s ++ [e]) op ls = if e.op = op then s ++ [⟨op, e.n + 1, e.ls ++ ls⟩] else (s ++ [e]) ++ [⟨op, 1, ls⟩] := by
  unfold withE
  rw [List.getLast?_append]
  simp
theorem nil_or_snoc {α : Type} (l : List α) : l = [] ∨ ∃ s e, l = s ++ [e] := by
  rcases List.eq_nil_or_concat l with h | ⟨s, e, h⟩
  · exact .inl h
  · exact .inr ⟨s, e, by rw [h]; simp⟩
set_option maxHeartbeats 2000000 in
theorem with_den (s : List Edit) (op : Int) (ls : List (List UInt8)) (hs : s.length ≤ 1000000) (hn : ∀ e ∈ s, 0 ≤ e.n ∧ e.n ≤ 1000000 ∧ e.ls.length ≤ 1000000) (hl : ls.length ≤ 1000000) : Den Sy 114 [sE s, .int .i64 op, sS ls] = some (sE (withE s op ls)) := by
  rw [Den_fun Sy (af := A114) rfl rfl _ rfl]
  rcases nil_or_snoc s with rfl | ⟨s, e, rfl⟩
  · rw [withE_nil]
    simp [A114, eE]
  · have he := hn e (by simp)
    simp only [List.length_append, List.length_cons, List.length_nil] at hs
    have hc1 := chk_i64 ((s.length : Int)) (by omega)
    have hc2 := chk_i64 (e.n + 1) (by omega)
    have hk1 : (s.length : Int) + 1 - 1 = s.length := by omega
    have hg : (s.map eE ++ [eE e])[s.length]? = some (eE e) := by simp
    have z1 : s.length * 40 ≤ 140737488355328 := z40 (by omega)
    have z2 : (s.length + 1) * 40 ≤ 140737488355328 := z40 (by omega)
    have z3 : (s.length + 1 + 1) * 40 ≤ 140737488355328 := z40 (by omega)
    have z4 : e.ls.length * 16 ≤ 140737488355328 := z16 (by omega)
    have z5 : (e.ls.length + ls.length) * 16 ≤ 140737488355328 := z16 (by omega)
    have hkl : (s.length : Int) ≤ s.length + 1 := by omega
    have htk : ∀ l : List AV, List.take s.length (s.map eE ++ l) = s.map eE := fun l => by
      rw [List.take_append_of_le_length (by simp), List.take_of_length_le (by simp)]
    have hp : (0 : Int) < s.length + 1 := by omega
    have hlt : (s.length : Int) < s.length + 1 := by omega
    rw [withE_snoc]
    simp only [eE] at hg
    by_cases h : e.op = op
    · subst h
      rw [if_pos rfl]
      simp [A114, -getElem?_pos, -List.getElem?_map, eE, hc1, hc2, hk1, hg, z1, z2, z3, z4, z5, hkl, htk, hp, hlt]
    · rw [if_neg h]
      simp [A114, -getElem?_pos, -List.getElem?_map, eE, hc1, hc2, hk1, hg, h, z1, z2, z3, z4, z5, hkl, htk, hp, hlt]
/-- Scripts of lines, as Diff has them, from behind some. -/
def diffG (out : List Edit) : List (List UInt8) → List (List UInt8) → List Edit
  | [], [] => out
  | [], y :: b => diffG (withE out 3 [y]) [] b
  | x :: a, [] => diffG (withE out 2 []) a []
  | x :: a, y :: b => if x = y then diffG (withE out 1 []) a b else if lcsF (x :: a) b ≤ lcsF a (y :: b) then diffG (withE out 2 []) a (y :: b) else diffG (withE out 3 [y]) (x :: a) b
termination_by a b => a.length + b.length
theorem diffG_nn (out : List Edit) : diffG out [] [] = out := by rw [diffG]
theorem diffG_nc (out : List Edit) (y : List UInt8) (b : List (List UInt8)) : diffG out [] (y :: b) = diffG (withE out 3 [y]) [] b := by rw [diffG]
theorem diffG_cn (out : List Edit) (x : List UInt8) (a : List (List UInt8)) : diffG out (x :: a) [] = diffG (withE out 2 []) a [] := by rw [diffG]
theorem diffG_cc (out : List Edit) (x y : List UInt8) (a b : List (List UInt8)) : diffG out (x :: a) (y :: b) = if x = y then diffG (withE out 1 []) a b else if lcsF (x :: a) b ≤ lcsF a (y :: b) then diffG (withE out 2 []) a (y :: b) else diffG (withE out 3 [y]) (x :: a) b := by rw [diffG]
def diffF (a b : List (List UInt8)) : List Edit := diffG [] a b
/-- No more edits, numbers and lines than steps. -/
def Few (n : Nat) (s : List Edit) : Prop := s.length ≤ n ∧ ∀ e ∈ s, 0 ≤ e.n ∧ e.n ≤ n ∧ e.ls.length ≤ n
theorem Few.with {n : Nat} {s : List Edit} (h : Few n s) (op : Int) (ls : List (List UInt8)) (hl : ls.length ≤ 1) : Few (n + 1) (withE s op ls) := by
  obtain ⟨h1, h2⟩ := h
  have ht : ∀ e : Edit, e ∈ s → 0 ≤ e.n ∧ e.n ≤ ((n + 1 : Nat) : Int) ∧ e.ls.length ≤ n + 1 := fun e he => by
    have := h2 e he
    omega
  rcases nil_or_snoc s with rfl | ⟨s, e, rfl⟩
  · rw [withE_nil]
    refine ⟨by simp, fun e he => ?_⟩
    simp only [List.mem_singleton] at he
    subst he
    simp only
    omega
  · have he := h2 e (by simp)
    rw [withE_snoc]
    simp only [List.length_append, List.length_cons, List.length_nil] at h1
    split
    · refine ⟨by simp; omega, fun x hx => ?_⟩
      rcases List.mem_append.1 hx with hx | hx
      · exact ht x (by simp [hx])
      · simp only [List.mem_singleton] at hx
        subst hx
        simp only [List.length_append]
        omega
    · refine ⟨by simp; omega, fun x hx => ?_⟩
      rcases List.mem_append.1 hx with hx | hx
      · exact ht x hx
      · simp only [List.mem_singleton] at hx
        subst hx
        simp only
        omega
def DQ (a b : List (List UInt8)) (bx : Bx) (pm : Pm) (R : List Edit) (ex : Ex) (st' : St) : Prop := ex = .exit 0 ∧ ∃ (i j : AV) (q : Perm), st' = ⟨ofL [(0, sS a), (1, sS b), (5, .sl 1 (tblA a b) .no), (6, .sl 3 (R.map eE) q), (7, i), (8, j), (21, .bool false)], bx, pm, none⟩ ∧ (q = .no ∨ q = .nil)
theorem diff_loop (a b : List (List UInt8)) (ha : a.length ≤ 900) (hb : b.length ≤ 900) (bx : Bx) (pm : Pm) : ∀ (n : Nat) (i j : Nat) (ra rb : List (List UInt8)) (out : List Edit) (q : Perm), ra.length + rb.length ≤ n → a.drop i = ra → b.drop j = rb → i ≤ a.length → j ≤ b.length → Few (i + j) out → (q = .no ∨ q = .nil) →
    Res (RunD Sy (.loop L97x0) ⟨ofL [(0, sS a), (1, sS b), (5, .sl 1 (tblA a b) .no), (6, .sl 3 (out.map eE) q), (7, .int .i64 i), (8, .int .i64 j)], bx, pm, none⟩) fun ex st' => DQ a b bx pm (diffG out ra rb) ex st' := by
  intro n
  induction n with
  | zero =>
    intro i j ra rb out q hn hra hrb hi hj hf hq
    have e1 : ra = [] := List.eq_nil_of_length_eq_zero (by omega)
    have e2 : rb = [] := List.eq_nil_of_length_eq_zero (by omega)
    subst e1 e2
    have l1 := List.drop_eq_nil_iff.1 hra
    have l2 := List.drop_eq_nil_iff.1 hrb
    have n1 : ¬ (i : Int) < a.length := by omega
    have n2 : ¬ (j : Int) < b.length := by omega
    rw [diffG_nn]
    refine loop_step fun K hK => ?_
    simp [L97x0, n1, n2]
    exact ⟨rfl, _, _, q, rfl, hq⟩
  | succ n ih =>
    intro i j ra rb out q hn hra hrb hi hj hf hq
    have hc1 := chk_i64 ((i : Int) + 1) (by omega)
    have hc2 := chk_i64 ((j : Int) + 1) (by omega)
    have hfl := hf.1
    have hfe : ∀ e ∈ out, 0 ≤ e.n ∧ e.n ≤ 1000000 ∧ e.ls.length ≤ 1000000 := fun e he => by
      have := hf.2 e he
      omega
    have hw1 := with_den out 1 [] (by omega) hfe (by simp)
    have hw2 := with_den out 2 [] (by omega) hfe (by simp)
    have hw3 := fun y => with_den out 3 [y] (by omega) hfe (by simp)
    simp only [List.map_nil, sS, List.map_cons] at hw1 hw2 hw3
    cases ra with
    | nil =>
      have l1 := List.drop_eq_nil_iff.1 hra
      have n1 : ¬ (i : Int) < a.length := by omega
      cases rb with
      | nil =>
        have l2 := List.drop_eq_nil_iff.1 hrb
        have n2 : ¬ (j : Int) < b.length := by omega
        rw [diffG_nn]
        refine loop_step fun K hK => ?_
        simp [L97x0, n1, n2]
        exact ⟨rfl, _, _, q, rfl, hq⟩
      | cons y rb =>
        have hjl : j < b.length := by
          rcases Nat.lt_or_ge j b.length with h | h
          · exact h
          · rw [List.drop_eq_nil_of_le h] at hrb; simp at hrb
        have n2 : (j : Int) < b.length := by omega
        rw [List.drop_eq_getElem_cons hjl, List.cons.injEq] at hrb
        have hy : (b.map AV.str)[j]? = some (.str y) := by rw [List.getElem?_map, List.getElem?_eq_getElem hjl, hrb.1]; rfl
        rw [diffG_nc]
        have hnx := ih i (j + 1) [] rb (withE out 3 [y]) .no (by simp at hn ⊢; omega) hra hrb.2 hi (by omega) (hf.with 3 [y] (by simp)) (.inl rfl)
        refine loop_step fun K hK => ?_
        simp [L97x0, -getElem?_pos, -List.getElem?_map, n1, n2, hy, hw3, hc2]
        rw [hK]
        simpa using hnx
    | cons x ra =>
      have hil : i < a.length := by
        rcases Nat.lt_or_ge i a.length with h | h
        · exact h
        · rw [List.drop_eq_nil_of_le h] at hra; simp at hra
      have n1 : (i : Int) < a.length := by omega
      have hra' := hra
      rw [List.drop_eq_getElem_cons hil, List.cons.injEq] at hra
      have hx : (a.map AV.str)[i]? = some (.str x) := by rw [List.getElem?_map, List.getElem?_eq_getElem hil, hra.1]; rfl
      cases rb with
      | nil =>
        have l2 := List.drop_eq_nil_iff.1 hrb
        have n2 : ¬ (j : Int) < b.length := by omega
        have n3 : (j : Int) = b.length := by omega
        rw [diffG_cn]
        have hnx := ih (i + 1) j ra [] (withE out 2 []) .no (by simp at hn ⊢; omega) hra.2 hrb (by omega) hj (by have := hf.with 2 [] (by simp); rwa [show i + 1 + j = i + j + 1 by omega]) (.inl rfl)
        refine loop_step fun K hK => ?_
        simp [L97x0, -getElem?_pos, -List.getElem?_map, n1, n2, eq_true n3, hx, hw2, hc1]
        rw [hK]
        simpa using hnx
      | cons y rb =>
        have hjl : j < b.length := by
          rcases Nat.lt_or_ge j b.length with h | h
          · exact h
          · rw [List.drop_eq_nil_of_le h] at hrb; simp at hrb
        have n2 : (j : Int) < b.length := by omega
        have n3 : ¬ (j : Int) = b.length := by omega
        have hrb' := hrb
        rw [List.drop_eq_getElem_cons hjl, List.cons.injEq] at hrb
        have hy : (b.map AV.str)[j]? = some (.str y) := by rw [List.getElem?_map, List.getElem?_eq_getElem hjl, hrb.1]; rfl
        have t1 := tblA_at a b (i + 1) (by omega)
        have t2 := tblA_at a b i (by omega)
        have r1 := rowP_at (a.drop (i + 1)) b 0 j (by omega)
        have r2 := rowP_at (a.drop i) b 0 (j + 1) (by omega)
        rw [if_neg (by omega), hra.2, hrb'] at r1
        rw [if_neg (by omega), hra', hrb.2] at r2
        rw [hra.2] at t1
        rw [hra'] at t2
        rw [diffG_cc]
        by_cases h1 : x = y
        · rw [if_pos h1]
          subst h1
          have hnx := ih (i + 1) (j + 1) ra rb (withE out 1 []) .no (by simp at hn ⊢; omega) hra.2 hrb.2 (by omega) (by omega) (by
            obtain ⟨k1, k2⟩ := hf.with 1 [] (by simp)
            exact ⟨by omega, fun e he => by have := k2 e he; omega⟩) (.inl rfl)
          refine loop_step fun K hK => ?_
          simp [L97x0, -getElem?_pos, -List.getElem?_map, n1, n2, hx, hy, hw1, hc1, hc2]
          rw [hK]
          simpa using hnx
        · rw [if_neg h1]
          by_cases h2 : lcsF (x :: ra) rb ≤ lcsF ra (y :: rb)
          · rw [if_pos h2]
            have h2' : (lcsF (x :: ra) rb : Int) ≤ lcsF ra (y :: rb) := by omega
            have hnx := ih (i + 1) j ra (y :: rb) (withE out 2 []) .no (by simp at hn ⊢; omega) hra.2 hrb' (by omega) hj (by have := hf.with 2 [] (by simp); rwa [show i + 1 + j = i + j + 1 by omega]) (.inl rfl)
            refine loop_step fun K hK => ?_
            simp [L97x0, -getElem?_pos, -List.getElem?_map, n1, n2, n3, hx, hy, h1, hw2, hc1, hc2, t1, t2, r1, r2, h2, h2']
            rw [hK]
            simpa using hnx
          · rw [if_neg h2]
            have h2' : ¬ (lcsF (x :: ra) rb : Int) ≤ lcsF ra (y :: rb) := by omega
            have hnx := ih i (j + 1) (x :: ra) rb (withE out 3 [y]) .no (by simp at hn ⊢; omega) hra' hrb.2 hi (by omega) (hf.with 3 [y] (by simp)) (.inl rfl)
            refine loop_step fun K hK => ?_
            simp [L97x0, -getElem?_pos, -List.getElem?_map, n1, n2, n3, hx, hy, h1, hw3, hc1, hc2, t1, t2, r1, r2, h2, h2']
            rw [hK]
            simpa using hnx
theorem diff_den (a b : List (List UInt8)) (ha : a.length ≤ 900) (hb : b.length ≤ 900) : Den Sy 97 [sS a, sS b] = some (sE (diffF a b)) := by
  rw [Den_fun Sy (af := A97) rfl rfl _ rfl]
  have ht := table_den a b ha (by omega)
  obtain ⟨ex, st', hL, rfl, i, j, q, rfl, hq⟩ := diff_loop a b ha hb (ofL []) none' (a.length + b.length) 0 0 a b [] .nil (Nat.le_refl _) rfl rfl (by omega) (by omega) ⟨by simp, by simp⟩ (.inr rfl)
  have z : ((0 : Nat) : Int) = 0 := rfl
  rw [z, List.map_nil] at hL
  rcases hq with rfl | rfl
  · simp [A97, ht, hL, diffF]
  · simp [A97, ht, hL, diffF]

def cntF (l : List (List UInt8)) (s : List UInt8) : Nat := (l.filter fun x => decide (x = s)).length
theorem cntF_le (l : List (List UInt8)) (s : List UInt8) : cntF l s ≤ l.length := List.length_filter_le _ _
theorem cnt_loop (t : List (List UInt8)) (ht : t.length ≤ 1099511627776) (p : List UInt8) (bx : Bx) (pm : Pm) : ∀ (rest pre : List (List UInt8)) (i n : Int) (m : Nat), t = pre ++ rest → i = pre.length → n = m → m ≤ pre.length →
    RunD Sy (.loop L128x0) ⟨ofL [(0, sS t), (1, .str p), (5, .int .i64 n), (6, .int .i64 i)], bx, pm, none⟩ = some (.exit 0, ⟨ofL [(0, sS t), (1, .str p), (5, .int .i64 (n + cntF rest p)), (6, .int .i64 t.length), (10, .bool false)], bx, pm, none⟩)
  | [], pre, i, n, m, h, hi, hn, hm => by
    subst hi hn
    rw [List.append_nil] at h
    subst h
    refine loop_eq fun K hK => ?_
    simp [L128x0, cntF]
  | c :: rest, pre, i, n, m, h, hi, hn, hm => by
    subst hi hn
    have hlt : (pre.length : Int) < t.length := by rw [h]; simp; omega
    have hg : (t.map AV.str)[pre.length]? = some (.str c) := by rw [h]; simp
    have hc := chk_i64 ((pre.length : Int) + 1) (by omega)
    have hc2 := chk_i64 ((m : Int) + 1) (by omega)
    refine loop_eq fun K hK => ?_
    by_cases h0 : c = p
    · have hr := cnt_loop t ht p bx pm rest (pre ++ [c]) ((pre.length : Int) + 1) ((m : Int) + 1) (m + 1) (by simp [h]) (by simp) (by simp) (by simp; omega)
      have hu : ((cntF (c :: rest) p : Nat) : Int) = cntF rest p + 1 := by simp [cntF, h0]
      have hv : (m : Int) + 1 + cntF rest p = m + cntF (c :: rest) p := by omega
      simp [L128x0, -getElem?_pos, -List.getElem?_map, hlt, hg, hc, hc2, h0]
      rw [hK, hr, hv, h0]
    · have hr := cnt_loop t ht p bx pm rest (pre ++ [c]) ((pre.length : Int) + 1) m m (by simp [h]) (by simp) rfl (by simp; omega)
      simp [L128x0, -getElem?_pos, -List.getElem?_map, hlt, hg, hc, hc2, h0]
      rw [hK, hr]
      simp [cntF, h0]
theorem cnt_den (t : List (List UInt8)) (ht : t.length ≤ 1099511627776) (p : List UInt8) : Den Sy 128 [sS t, .str p] = some (.int .i64 (cntF t p)) := by
  rw [Den_fun Sy (af := A128) rfl rfl _ rfl]
  have hL := cnt_loop t ht p (ofL []) none' t [] 0 0 0 rfl rfl rfl (by simp)
  simp [A128, hL]

/-- How many lines of the one, from behind some of it, are the other one's too. -/
def comG (b pre : List (List UInt8)) : List (List UInt8) → Nat
  | [] => 0
  | x :: r => (if cntF pre x < cntF b x then 1 else 0) + comG b (pre ++ [x]) r
def comF (a b : List (List UInt8)) : Nat := comG b [] a
theorem comG_le (b : List (List UInt8)) : ∀ (l pre : List (List UInt8)), comG b pre l ≤ l.length
  | [], _ => by simp [comG]
  | x :: r, pre => by
    have := comG_le b r (pre ++ [x])
    unfold comG
    simp only [List.length_cons]
    split <;> omega
theorem com_loop (a b : List (List UInt8)) (ha : a.length ≤ 1099511627776) (hb : b.length ≤ 1099511627776) (bx : Bx) (pm : Pm) : ∀ (rest pre : List (List UInt8)) (i n : Int) (m : Nat), a = pre ++ rest → i = pre.length → n = m → m ≤ pre.length →
    RunD Sy (.loop L112x0) ⟨ofL [(0, sS a), (1, sS b), (5, .int .i64 n), (6, .int .i64 i)], bx, pm, none⟩ = some (.exit 0, ⟨ofL [(0, sS a), (1, sS b), (5, .int .i64 (n + comG b pre rest)), (6, .int .i64 a.length), (11, .bool false)], bx, pm, none⟩)
  | [], pre, i, n, m, h, hi, hn, hm => by
    subst hi hn
    rw [List.append_nil] at h
    subst h
    refine loop_eq fun K hK => ?_
    simp [L112x0, comG]
  | c :: rest, pre, i, n, m, h, hi, hn, hm => by
    subst hi hn
    have hlt : (pre.length : Int) < a.length := by rw [h]; simp; omega
    have hle : (pre.length : Int) ≤ a.length := by omega
    have hg : (a.map AV.str)[pre.length]? = some (.str c) := by rw [h]; simp
    have hc := chk_i64 ((pre.length : Int) + 1) (by omega)
    have hc2 := chk_i64 ((m : Int) + 1) (by omega)
    have htk : List.take pre.length (a.map AV.str) = pre.map .str := by rw [h]; simp
    have h1 := cnt_den pre (by omega) c
    have h2 := cnt_den b hb c
    refine loop_eq fun K hK => ?_
    by_cases h0 : cntF pre c < cntF b c
    · have h0' : (cntF pre c : Int) < cntF b c := by omega
      have hr := com_loop a b ha hb bx pm rest (pre ++ [c]) ((pre.length : Int) + 1) ((m : Int) + 1) (m + 1) (by simp [h]) (by simp) (by simp) (by simp; omega)
      have hu : ((comG b pre (c :: rest) : Nat) : Int) = comG b (pre ++ [c]) rest + 1 := by
        have : comG b pre (c :: rest) = comG b (pre ++ [c]) rest + 1 := by
          show (if cntF pre c < cntF b c then 1 else 0) + comG b (pre ++ [c]) rest = _
          rw [if_pos h0]
          omega
        omega
      have hv : (m : Int) + 1 + comG b (pre ++ [c]) rest = m + comG b pre (c :: rest) := by omega
      simp [L112x0, -getElem?_pos, -List.getElem?_map, hlt, hle, hg, hc, hc2, htk, h1, h2, h0, h0']
      rw [hK, hr, hv]
    · have h0' : ¬ (cntF pre c : Int) < cntF b c := by omega
      have hr := com_loop a b ha hb bx pm rest (pre ++ [c]) ((pre.length : Int) + 1) m m (by simp [h]) (by simp) rfl (by simp; omega)
      have hu : comG b pre (c :: rest) = comG b (pre ++ [c]) rest := by
        show (if cntF pre c < cntF b c then 1 else 0) + comG b (pre ++ [c]) rest = _
        rw [if_neg h0]
        omega
      simp [L112x0, -getElem?_pos, -List.getElem?_map, hlt, hle, hg, hc, hc2, htk, h1, h2, h0, h0']
      rw [hK, hr, hu]
theorem com_den (a b : List (List UInt8)) (ha : a.length ≤ 1099511627776) (hb : b.length ≤ 1099511627776) : Den Sy 112 [sS a, sS b] = some (.int .i64 (comF a b)) := by
  rw [Den_fun Sy (af := A112) rfl rfl _ rfl]
  have hL := com_loop a b ha hb (ofL []) none' a [] 0 0 0 rfl rfl rfl (by simp)
  simp [A112, hL, comF]
def scoreF (a b : List (List UInt8)) : Int := if a = [] ∧ b = [] then 100 else ((200 * comF a b / (a.length + b.length) : Nat) : Int)
set_option maxRecDepth 4000 in
theorem score_den (a b : List (List UInt8)) (ha : a.length ≤ 1099511627776) (hb : b.length ≤ 1099511627776) : Den Sy 95 [sS a, sS b] = some (.int .i64 (scoreF a b)) := by
  rw [Den_fun Sy (af := A95) rfl rfl _ rfl]
  have h1 := com_den a b ha hb
  have h2 : comF a b ≤ a.length := comG_le b a []
  have hc1 := chk_i64 (200 * (comF a b : Int)) (by omega)
  have hc2 := chk_i64 ((a.length : Int) + b.length) (by omega)
  by_cases h : a = [] ∧ b = []
  · unfold scoreF
    rw [if_pos h]
    simp [A95, eq_true h.1, eq_true h.2]
  · have hne : ¬ ((a.length : Int) + b.length = 0) := fun e => h ⟨List.eq_nil_of_length_eq_zero (by omega), List.eq_nil_of_length_eq_zero (by omega)⟩
    have hq : (200 * (comF a b : Int)).tdiv (a.length + b.length) = ((200 * comF a b / (a.length + b.length) : Nat) : Int) := by
      rw [Int.tdiv_eq_ediv_of_nonneg (by omega)]
      push_cast
      rfl
    have hql : 200 * comF a b / (a.length + b.length) ≤ 200 * comF a b := Nat.div_le_self _ _
    unfold scoreF
    rw [if_neg h]
    generalize 200 * comF a b / (a.length + b.length) = Q at hq hql ⊢
    have hc3 := chk_i64 (Q : Int) (by omega)
    by_cases ha0 : a = []
    · have hb0 : ¬ b = [] := fun e => h ⟨ha0, e⟩
      simp [A95, eq_true ha0, hb0, h1, hc1, hc2, hc3, hne, hq]
    · simp [A95, ha0, h1, hc1, hc2, hc3, hne, hq]

def isFile (out : List It) (x : It) : Bool := decide (x.kind = 2) && (findF out x.path).isNone
def filesG (out : List It) : List It → List It
  | [] => out
  | x :: r => filesG (if isFile out x = true then out ++ [x] else out) r
def filesF (t : List It) : List It := filesG [] t
theorem filesG_mem : ∀ (l out : List It) (y : It), y ∈ filesG out l → y ∈ out ∨ y ∈ l
  | [], out, y, h => .inl h
  | x :: r, out, y, h => by
    unfold filesG at h
    rcases filesG_mem r _ y h with h | h
    · split at h
      · rcases List.mem_append.1 h with h | h
        · exact .inl h
        · simp only [List.mem_singleton] at h
          exact .inr (by rw [h]; simp)
      · exact .inl h
    · exact .inr (List.mem_cons_of_mem _ h)
theorem filesG_len : ∀ (l out : List It), (filesG out l).length ≤ out.length + l.length
  | [], out => by simp [filesG]
  | x :: r, out => by
    unfold filesG
    have := filesG_len r (if isFile out x = true then out ++ [x] else out)
    have h2 : (if isFile out x = true then out ++ [x] else out).length ≤ out.length + 1 := by split <;> simp
    simp only [List.length_cons]
    omega
def FQ (t : List It) (R : List It) (ex : Ex) (st' : St) : Prop := ex = .exit 0 ∧ ∃ (q : Perm) (i : AV) (bx' : Bx) (pm' : Pm), st' = ⟨ofL [(0, sI t), (3, .sl 4 (R.map iA) q), (4, i), (10, .bool false)], bx', pm', none⟩
theorem files_loop (t : List It) (ht : t.length ≤ 1000000) : ∀ (rest pre out : List It) (O : List AV) (i : Int) (q : Perm) (bx : Bx) (pm : Pm), t = pre ++ rest → i = pre.length → O = out.map iA → out.length ≤ pre.length → AppOk pm q →
    Res (RunD Sy (.loop L94x0) ⟨ofL [(0, sI t), (3, .sl 4 O q), (4, .int .i64 i)], bx, pm, none⟩) fun ex st' => FQ t (filesG out rest) ex st'
  | [], pre, out, O, i, q, bx, pm, h, hi, hO, hl, hq => by
    subst hi hO
    rw [List.append_nil] at h
    subst h
    refine loop_step fun K hK => ?_
    simp [L94x0, filesG]
    exact ⟨rfl, _, _, _, _, rfl⟩
  | x :: rest, pre, out, O, i, q, bx, pm, h, hi, hO, hl, hq => by
    subst hi hO
    have hlt : (pre.length : Int) < t.length := by rw [h]; simp; omega
    have hg : (t.map iA)[pre.length]? = some (iA x) := by rw [h]; simp
    have hc := chk_i64 ((pre.length : Int) + 1) (by omega)
    have hf := find_den out (by omega) x.path
    have hsz : (out.length + 1) * 48 ≤ 140737488355328 := by omega
    have hu : filesG out (x :: rest) = filesG (if isFile out x = true then out ++ [x] else out) rest := rfl
    have hnx := fun out' O hO q bx pm (hl' : out'.length ≤ pre.length + 1) hq => files_loop t ht rest (pre ++ [x]) out' O ((pre.length : Int) + 1) q bx pm (by simp [h]) (by simp) hO (by simpa using hl') hq
    rw [hu]
    unfold isFile
    simp only [iA] at hg
    refine loop_step fun K hK => ?_
    cases hx : findF out x.path with
    | some y =>
      rw [hx] at hf
      simp only [fA, iA] at hf
      by_cases hk : x.kind = 2
      · simp [L94x0, -getElem?_pos, -List.getElem?_map, List.getElem?_cons_zero, List.getElem?_cons_succ, hlt, hg, hc, hf, hk]
        rw [hK]
        exact hnx out _ rfl _ _ _ (by omega) hq
      · simp [L94x0, -getElem?_pos, -List.getElem?_map, List.getElem?_cons_zero, List.getElem?_cons_succ, hlt, hg, hc, hf, hk]
        rw [hK]
        exact hnx out _ rfl _ _ _ (by omega) hq
    | none =>
      rw [hx] at hf
      simp only [fA, iA] at hf
      by_cases hk : x.kind = 2
      · rcases hq with rfl | ⟨tt, v, rfl, hpm⟩
        · simp [L94x0, -getElem?_pos, -List.getElem?_map, List.getElem?_cons_zero, List.getElem?_cons_succ, hlt, hg, hc, hf, eq_true hk, hsz]
          rw [hK]
          refine hnx (out ++ [x]) _ ?_ _ _ _ (by simp; omega) ?_
          · simp [iA]
          · exact AppOk.tok (by simp)
        · simp [L94x0, -getElem?_pos, -List.getElem?_map, List.getElem?_cons_zero, List.getElem?_cons_succ, hlt, hg, hc, hf, eq_true hk, hsz, hpm]
          rw [hK]
          refine hnx (out ++ [x]) _ ?_ _ _ _ (by simp; omega) ?_
          · simp [iA]
          · exact AppOk.tok (by simp)
      · simp [L94x0, -getElem?_pos, -List.getElem?_map, List.getElem?_cons_zero, List.getElem?_cons_succ, hlt, hg, hc, hf, hk]
        rw [hK]
        exact hnx out _ rfl _ _ _ (by omega) hq
theorem files_den (t : List It) (ht : t.length ≤ 1000000) : Den Sy 94 [sI t] = some (sI (filesF t)) := by
  rw [Den_fun Sy (af := A94) rfl rfl _ rfl]
  obtain ⟨ex, st', hL, rfl, q, i, bx', pm', rfl⟩ := files_loop t ht t [] [] [] 0 .nil (ofL []) none' rfl rfl rfl (by simp) (AppOk.nil _)
  simp [A94, hL, filesF]

structure Pr where
  src : List UInt8
  dst : List UInt8
  score : Int
  deriving DecidableEq
def pA (p : Pr) : AV := .agg [.str p.src, .str p.dst, .int .i64 p.score]
abbrev sP (l : List Pr) : AV := .sl 3 (l.map pA) .no
def scoreI (x y : It) : Int := scoreF (linesS x.data) (linesS y.data)
def candO (th : Int) (x y : It) : List Pr := if 1 ≤ scoreI x y ∧ th ≤ scoreI x y then [⟨x.path, y.path, scoreI x y⟩] else []
def candR (th : Int) (x : It) (l : List It) : List Pr := l.flatMap (candO th x)
def candF (old fresh : List It) (th : Int) : List Pr := (filesF old).flatMap fun x => candR th x (filesF fresh)
theorem candR_len (th : Int) (x : It) (l : List It) : (candR th x l).length ≤ l.length := by
  induction l with
  | nil => simp [candR]
  | cons y l ih =>
    unfold candR at *
    rw [List.flatMap_cons, List.length_append, List.length_cons]
    have : (candO th x y).length ≤ 1 := by unfold candO; split <;> simp
    omega
def CQ (th : AV) (X Y : List It) (i : AV) (R : List Pr) (ex : Ex) (st' : St) : Prop := ex = .exit 2 ∧ ∃ (q : Perm) (k : AV) (bx' : Bx) (pm' : Pm), AppOk pm' q ∧ st' = ⟨ofL [(2, th), (7, sI X), (8, sI Y), (9, .sl 3 (R.map pA) q), (10, i), (11, k), (26, .bool false)], bx', pm', none⟩
theorem cand_inner (X Y : List It) (hX : X.length ≤ 1000) (hY : Y.length ≤ 1000) (hYd : ∀ y ∈ Y, y.data.length ≤ 1000000) (th : Int) (i : Nat) (x : It) (hx : X[i]? = some x) (hxd : x.data.length ≤ 1000000) : ∀ (rest pre : List It) (out : List Pr) (O : List AV) (k : Int) (q : Perm) (bx : Bx) (pm : Pm), Y = pre ++ rest → k = pre.length → O = out.map pA → out.length ≤ 1001000 - rest.length → AppOk pm q →
    Res (RunD Sy (.loop L68x0) ⟨ofL [(2, .int .i64 th), (7, sI X), (8, sI Y), (9, .sl 3 O q), (10, .int .i64 i), (11, .int .i64 k)], bx, pm, none⟩) fun ex st' => CQ (.int .i64 th) X Y (.int .i64 i) (out ++ candR th x rest) ex st'
  | [], pre, out, O, k, q, bx, pm, h, hk, hO, hl, hq => by
    subst hk hO
    rw [List.append_nil] at h
    subst h
    refine loop_step fun K hK => ?_
    simp [L68x0, candR]
    exact ⟨rfl, _, _, _, _, hq, rfl⟩
  | y :: rest, pre, out, O, k, q, bx, pm, h, hk, hO, hl, hq => by
    subst hk hO
    have hil : i < X.length := (List.getElem?_eq_some_iff.1 hx).1
    have hil' : (i : Int) < X.length := by omega
    have hlt : (pre.length : Int) < Y.length := by rw [h]; simp; omega
    have hg : (Y.map iA)[pre.length]? = some (iA y) := by rw [h]; simp
    have hg2 : (X.map iA)[i]? = some (iA x) := by rw [List.getElem?_map, hx]; rfl
    have hyd := hYd y (by rw [h]; simp)
    have hpl : pre.length + rest.length + 1 = Y.length := by rw [h]; simp; omega
    have hc := chk_i64 ((pre.length : Int) + 1) (by omega)
    have h1 := lines_den x.data (by omega)
    have h2 := lines_den y.data (by omega)
    have l1 := linesS_len x.data
    have l2 := linesS_len y.data
    have h3 := score_den (linesS x.data) (linesS y.data) (by omega) (by omega)
    simp only [List.length_cons] at hl
    have hsz : (out.length + 1) * 40 ≤ 140737488355328 := z40 (by omega)
    have hnx := fun out' O hO q bx pm (hl' : out'.length ≤ out.length + 1) hq => cand_inner X Y hX hY hYd th i x hx hxd rest (pre ++ [y]) out' O ((pre.length : Int) + 1) q bx pm (by simp [h]) (by simp) hO (by omega) hq
    have hu : candR th x (y :: rest) = candO th x y ++ candR th x rest := by simp [candR]
    rw [hu]
    unfold candO scoreI
    simp only [iA] at hg hg2
    generalize scoreF (linesS x.data) (linesS y.data) = s at h3 ⊢
    refine loop_step fun K hK => ?_
    by_cases s1 : 1 ≤ s
    · by_cases s2 : th ≤ s
      · rw [if_pos ⟨s1, s2⟩]
        rcases hq with rfl | ⟨tt, v, rfl, hpm⟩
        · simp [L68x0, -getElem?_pos, -List.getElem?_map, hlt, hil', hg, hg2, hc, h1, h2, h3, s1, s2, hsz]
          rw [hK]
          have := hnx (out ++ [⟨x.path, y.path, s⟩])
          rw [List.append_assoc] at this
          refine this _ ?_ _ _ _ (by simp) ?_
          · simp [pA]
          · exact AppOk.tok (by simp)
        · simp [L68x0, -getElem?_pos, -List.getElem?_map, hlt, hil', hg, hg2, hc, h1, h2, h3, s1, s2, hsz, hpm]
          rw [hK]
          have := hnx (out ++ [⟨x.path, y.path, s⟩])
          rw [List.append_assoc] at this
          refine this _ ?_ _ _ _ (by simp) ?_
          · simp [pA]
          · exact AppOk.tok (by simp)
      · rw [if_neg (fun e => s2 e.2), List.nil_append]
        simp [L68x0, -getElem?_pos, -List.getElem?_map, hlt, hil', hg, hg2, hc, h1, h2, h3, s1, s2, hsz]
        rw [hK]
        exact hnx out _ rfl _ _ _ (by omega) hq
    · rw [if_neg (fun e => s1 e.1), List.nil_append]
      simp [L68x0, -getElem?_pos, -List.getElem?_map, hlt, hil', hg, hg2, hc, h1, h2, h3, s1, hsz]
      rw [hK]
      exact hnx out _ rfl _ _ _ (by omega) hq

def CR (th : AV) (X Y : List It) (R : List Pr) (ex : Ex) (st' : St) : Prop := ex = .exit 0 ∧ ∃ (q : Perm) (k : AV) (bx' : Bx) (pm' : Pm), AppOk pm' q ∧ st' = ⟨ofL [(2, th), (7, sI X), (8, sI Y), (9, .sl 3 (R.map pA) q), (10, k), (20, .bool false)], bx', pm', none⟩
theorem cand_outer (X Y : List It) (hX : X.length ≤ 1000) (hY : Y.length ≤ 1000) (hXd : ∀ y ∈ X, y.data.length ≤ 1000000) (hYd : ∀ y ∈ Y, y.data.length ≤ 1000000) (th : Int) : ∀ (rest pre : List It) (out : List Pr) (O : List AV) (k : Int) (q : Perm) (bx : Bx) (pm : Pm), X = pre ++ rest → k = pre.length → O = out.map pA → out.length ≤ 1000 * pre.length → AppOk pm q →
    Res (RunD Sy (.loop L68x1) ⟨ofL [(2, .int .i64 th), (7, sI X), (8, sI Y), (9, .sl 3 O q), (10, .int .i64 k)], bx, pm, none⟩) fun ex st' => CR (.int .i64 th) X Y (out ++ rest.flatMap fun x => candR th x Y) ex st'
  | [], pre, out, O, k, q, bx, pm, h, hk, hO, hl, hq => by
    subst hk hO
    rw [List.append_nil] at h
    subst h
    refine loop_step fun K hK => ?_
    simp [L68x1]
    exact ⟨rfl, _, _, _, _, hq, rfl⟩
  | x :: rest, pre, out, O, k, q, bx, pm, h, hk, hO, hl, hq => by
    subst hk hO
    have hpl : pre.length + rest.length + 1 = X.length := by rw [h]; simp; omega
    have hlt : (pre.length : Int) < X.length := by omega
    have hx : X[pre.length]? = some x := by rw [h]; simp
    have hc := chk_i64 ((pre.length : Int) + 1) (by omega)
    have hcl := candR_len th x Y
    have hnx := fun q bx pm hq => cand_outer X Y hX hY hXd hYd th rest (pre ++ [x]) (out ++ candR th x Y) _ ((pre.length : Int) + 1) q bx pm (by simp [h]) (by simp) rfl (by simp; omega) hq
    have hu : out ++ (x :: rest).flatMap (fun x => candR th x Y) = out ++ candR th x Y ++ rest.flatMap fun x => candR th x Y := by simp
    rw [hu]
    refine loop_step fun K hK => ?_
    simp [L68x1, hlt, hc]
    generalize hZ : RunD Sy (.loop L68x0) _ = Z
    obtain ⟨ex, st', rfl, rfl, q', k', bx', pm', hq', rfl⟩ := Res.at hZ (cand_inner X Y hX hY hYd th pre.length x hx (hXd x (by rw [h]; simp)) Y [] out _ 0 q _ pm rfl rfl rfl (by omega) hq)
    simp [hc]
    rw [hK]
    have := hnx q' bx' pm' hq'
    simpa using this
theorem cand_den (old fresh : List It) (th : Int) (h1 : old.length ≤ 1000) (h2 : fresh.length ≤ 1000) (h3 : ∀ y ∈ old, y.data.length ≤ 1000000) (h4 : ∀ y ∈ fresh, y.data.length ≤ 1000000) : Den Sy 68 [sI old, sI fresh, .int .i64 th] = some (sP (candF old fresh th)) := by
  rw [Den_fun Sy (af := A68) rfl rfl _ rfl]
  have f1 := files_den old (by omega)
  have f2 := files_den fresh (by omega)
  have l1 := filesG_len old []
  have l2 := filesG_len fresh []
  simp only [List.length_nil, Nat.zero_add] at l1 l2
  have d1 : ∀ y ∈ filesF old, y.data.length ≤ 1000000 := fun y hy => by
    rcases filesG_mem old [] y hy with h | h
    · simp at h
    · exact h3 y h
  have d2 : ∀ y ∈ filesF fresh, y.data.length ≤ 1000000 := fun y hy => by
    rcases filesG_mem fresh [] y hy with h | h
    · simp at h
    · exact h4 y h
  obtain ⟨ex, st', hL, rfl, q, k, bx', pm', hq, rfl⟩ := cand_outer (filesF old) (filesF fresh) (by unfold filesF; omega) (by unfold filesF; omega) d1 d2 th (filesF old) [] [] [] 0 .nil (ofL []) none' rfl rfl rfl (by simp) (AppOk.nil _)
  simp [A68, f1, f2, hL, candF]

def touchB (l : List Pr) (p : Pr) : Bool := l.any fun x => decide (x.src = p.src) || decide (x.dst = p.dst)
theorem touch_loop (l : List Pr) (hl : l.length ≤ 1099511627776) (p : Pr) (v : Nat) (pm : Pm) (bx : Bx) (hb : bx 3 = some (v, [.str p.src, .str p.dst, .int .i64 p.score])) : ∀ (rest pre : List Pr) (i : Int), l = pre ++ rest → i = pre.length →
    RunD Sy (.loop L69x0) ⟨ofL [(0, sP l), (3, .ptr 3 v 0), (5, .int .i64 i)], bx, pm, none⟩ = some (if touchB rest p = true then (.ret, ⟨ofL [(4, .bool true)], bx, pm, none⟩) else (.exit 0, ⟨ofL [(0, sP l), (3, .ptr 3 v 0), (5, .int .i64 l.length), (9, .bool false)], bx, pm, none⟩))
  | [], pre, i, h, hi => by
    subst hi
    rw [List.append_nil] at h
    subst h
    refine loop_eq fun K hK => ?_
    simp [L69x0, touchB]
  | x :: rest, pre, i, h, hi => by
    subst hi
    have hlt : (pre.length : Int) < l.length := by rw [h]; simp; omega
    have hg : (l.map pA)[pre.length]? = some (pA x) := by rw [h]; simp
    have hc := chk_i64 ((pre.length : Int) + 1) (by omega)
    have hr := touch_loop l hl p v pm bx hb rest (pre ++ [x]) ((pre.length : Int) + 1) (by simp [h]) (by simp)
    have hu : touchB (x :: rest) p = ((decide (x.src = p.src) || decide (x.dst = p.dst)) || touchB rest p) := by simp [touchB]
    rw [hu]
    simp only [pA] at hg
    refine loop_eq fun K hK => ?_
    by_cases s1 : x.src = p.src
    · simp [L69x0, -getElem?_pos, -List.getElem?_map, hlt, hg, hc, hb, s1]
    · by_cases s2 : x.dst = p.dst
      · simp [L69x0, -getElem?_pos, -List.getElem?_map, hlt, hg, hc, hb, s1, s2]
      · simp [L69x0, -getElem?_pos, -List.getElem?_map, hlt, hg, hc, hb, s1, s2]
        rw [hK, hr]
theorem touch_den (l : List Pr) (hl : l.length ≤ 1099511627776) (p : Pr) : Den Sy 69 [sP l, pA p] = some (.bool (touchB l p)) := by
  rw [Den_fun Sy (af := A69) rfl rfl _ rfl]
  have hL := touch_loop l hl p (nextB (ofL []) 3) none' (upd (ofL []) 3 (nextB (ofL []) 3, [.str p.src, .str p.dst, .int .i64 p.score])) (by simp) l [] 0 rfl rfl
  by_cases h : touchB l p = true
  · rw [if_pos h] at hL
    simp [A69, pA, hL, h]
  · rw [if_neg h] at hL
    simp [A69, pA, hL, h]
def betterB (a b : Pr) : Bool := if a.score ≠ b.score then decide (b.score < a.score) else if a.src ≠ b.src then decide (cmpP a.src b.src < 0) else decide (cmpP a.dst b.dst < 0)
def Pr.ok (p : Pr) : Prop := p.src.length ≤ 1000000 ∧ p.dst.length ≤ 1000000
theorem better_den (a b : Pr) (ha : a.ok) (hb : b.ok) : Den Sy 70 [pA a, pA b] = some (.bool (betterB a b)) := by
  rw [Den_fun Sy (af := A70) rfl rfl _ rfl]
  have h1 := cmp_den a.src b.src (by have := ha.1; omega) (by have := hb.1; omega)
  have h2 := cmp_den a.dst b.dst (by have := ha.2; omega) (by have := hb.2; omega)
  unfold betterB
  by_cases s1 : a.score = b.score
  · by_cases s2 : a.src = b.src
    · simp [A70, pA, s1, eq_true s2, h2]
    · simp [A70, pA, s1, s2, h1]
  · simp [A70, pA, s1]
def prLt (x y : Pr) : Bool := decide (cmpP x.dst y.dst < 0)
theorem psort_inner (t : List Pr) (x : Pr) (out : List Pr) (q : Perm) (i : Nat) (hi : i < t.length) (ht : t.length ≤ 1099511627776) (hx : t[i]? = some x) (hxp : x.ok) (ho : out.length ≤ 1099511627776) (hop : ∀ y ∈ out, y.ok) (bx : Bx) (pm : Pm) : ∀ (r s : List Pr) (at_ : Int), out = r.reverse ++ s → at_ = r.length →
    RunD Sy (.loop L71x0) ⟨ofL [(0, sP t), (3, .sl 3 (out.map pA) q), (4, .int .i64 i), (5, .int .i64 at_)], bx, pm, none⟩ = some (.exit 2, ⟨ofL [(0, sP t), (3, .sl 3 (out.map pA) q), (4, .int .i64 i), (5, .int .i64 (atF prLt x r)), (30, .bool false)], bx, pm, none⟩)
  | [], s, at_, h, hat => by
    subst hat
    refine loop_eq fun K hK => ?_
    simp [L71x0, atF]
  | y :: r, s, at_, h, hat => by
    subst hat
    have hg : (t.map pA)[i]? = some (pA x) := by rw [List.getElem?_map, hx]; rfl
    have hg2 : (out.map pA)[r.length]? = some (pA y) := by rw [h]; simp
    have hlo : r.length + 1 ≤ out.length := by rw [h]; simp
    have hm := cmp_den x.dst y.dst (by have := hxp.2; omega) (by have := (hop y (by rw [h]; simp)).2; omega)
    have hc := chk_i64 ((r.length : Int)) (by omega)
    have hi' : (i : Int) < t.length := by omega
    have hpos : (0 : Int) < (r.length : Int) + 1 := by omega
    have hsub : (r.length : Int) + 1 - 1 = r.length := by omega
    have hlr : r.length < out.length := by omega
    simp only [pA] at hg hg2
    refine loop_eq fun K hK => ?_
    by_cases h1 : cmpP x.dst y.dst < 0
    · have hr := psort_inner t x out q i hi ht hx hxp ho hop bx pm r (y :: s) r.length (by rw [h]; simp) rfl
      simp [L71x0, -getElem?_pos, -List.getElem?_map, hi', hi, hg, hg2, hm, hc, hpos, hsub, h1, hlr, hlo]
      rw [hK, hr]
      simp [atF, prLt, h1]
    · simp [L71x0, -getElem?_pos, -List.getElem?_map, hi', hi, hg, hg2, hm, hc, hpos, hsub, h1, atF, prLt, hlr, hlo]
def PQ (t : List Pr) (bx : Bx) (R : List Pr) (ex : Ex) (st' : St) : Prop := ex = .exit 0 ∧ ∃ (i' : AV) (q' : Perm) (pm' : Pm), AppOk pm' q' ∧ st' = ⟨ofL [(0, sP t), (3, .sl 3 (R.map pA) q'), (4, i'), (9, .bool false)], bx, pm', none⟩
theorem psort_loop (t : List Pr) (ht : t.length ≤ 2000000) (hp : ∀ x ∈ t, x.ok) (bx : Bx) : ∀ (rest pre out : List Pr) (O : List AV) (i : Int) (q : Perm) (pm : Pm), t = pre ++ rest → i = pre.length → O = out.map pA → out.length ≤ pre.length → (∀ y ∈ out, y ∈ t) → AppOk pm q →
    Res (RunD Sy (.loop L71x1) ⟨ofL [(0, sP t), (3, .sl 3 O q), (4, .int .i64 i)], bx, pm, none⟩) fun ex st' => PQ t bx (sortG prLt out rest) ex st'
  | [], pre, out, O, i, q, pm, h, hi, hO, hlo, hot, hq => by
    subst hi hO
    rw [List.append_nil] at h
    subst h
    refine loop_step fun K hK => ?_
    simp [L71x1, sortG]
    exact ⟨rfl, _, _, _, hq, rfl⟩
  | x :: rest, pre, out, O, i, q, pm, h, hi, hO, hlo, hot, hq => by
    subst hi hO
    have hpl : pre.length + rest.length + 1 = t.length := by rw [h]; simp; omega
    have hltn : pre.length < t.length := by omega
    have hlt : (pre.length : Int) < t.length := by omega
    have hx : t[pre.length]? = some x := by rw [h]; simp
    have hg : (t.map pA)[pre.length]? = some (pA x) := by rw [h]; simp
    have hc := chk_i64 ((pre.length : Int) + 1) (by omega)
    have hin := psort_inner t x out q pre.length hltn (by omega) hx (hp x (by rw [h]; simp)) (by omega) (fun y hy => hp y (hot y hy)) bx pm out.reverse [] out.length (by simp) (by simp)
    have hat := atF_le prLt x out.reverse
    rw [List.length_reverse] at hat
    have hat' : ((atF prLt x out.reverse : Nat) : Int) ≤ out.length := by omega
    have hu : sortG prLt out (x :: rest) = sortG prLt (insF prLt x out) rest := rfl
    have hnx := fun O hO q pm hq => psort_loop t ht hp bx rest (pre ++ [x]) (insF prLt x out) O ((pre.length : Int) + 1) q pm (by simp [h]) (by simp) hO (by rw [insF_len]; simp; omega) (fun y hy => by
      rcases (insF_mem prLt x y out).1 hy with rfl | hy
      · rw [h]; simp
      · exact hot y hy) hq
    rw [hu]
    unfold insF at hnx ⊢
    generalize atF prLt x out.reverse = at_ at hin hat hat' hnx ⊢
    simp only [pA] at hg
    have s1 : at_ * 40 ≤ 140737488355328 := z40 (by omega)
    have s2 : (at_ + 1) * 40 ≤ 140737488355328 := z40 (by omega)
    have s3 : (at_ + 1 + (out.length - at_)) * 40 ≤ 140737488355328 := z40 (by omega)
    have e : (out.map pA).take out.length = out.map pA := List.take_of_length_le (by simp)
    have s4 : min at_ out.length = at_ := by omega
    refine loop_step fun K hK => ?_
    rcases hq with rfl | ⟨tt, v, rfl, hpm⟩
    · simp [L71x1, -getElem?_pos, -List.getElem?_map, hlt, hg, hc, hin, hat, hat', s1, s2, s3, s4]
      rw [hK]
      exact hnx _ (by rw [e]; simp [pA]) _ _ (AppOk.tok (by simp))
    · simp [L71x1, -getElem?_pos, -List.getElem?_map, hlt, hg, hc, hin, hpm, hat, hat', s1, s2, s3, s4]
      rw [hK]
      exact hnx _ (by rw [e]; simp [pA]) _ _ (AppOk.tok (by simp))
theorem psort_den (t : List Pr) (ht : t.length ≤ 2000000) (hp : ∀ x ∈ t, x.ok) : Den Sy 71 [sP t] = some (sP (sortG prLt [] t)) := by
  rw [Den_fun Sy (af := A71) rfl rfl _ rfl]
  obtain ⟨ex, st', hL, rfl, i', q', pm', hq, rfl⟩ := psort_loop t ht hp (ofL []) t [] [] [] 0 .nil none' rfl rfl rfl (by simp) (by simp) (AppOk.nil _)
  simp [A71, hL]

/-! ### Taking the best -/
def pickB (taken : List Pr) (b : Option Pr) (x : Pr) : Option Pr := if touchB taken x = true then b else match b with
  | none => some x
  | some y => if betterB x y = true then some x else some y
def bestG (taken : List Pr) (b : Option Pr) : List Pr → Option Pr
  | [] => b
  | x :: r => bestG taken (pickB taken b x) r
/-- Where the best of some stands. -/
def AtB (l : List Pr) (b : Option Pr) (i : Int) : Prop := match b with
  | none => i = -1
  | some p => ∃ k : Nat, i = k ∧ l[k]? = some p
def BQ (l : List Pr) (T : AV) (bx : Bx) (pm : Pm) (b : Option Pr) (ex : Ex) (st' : St) : Prop := ex = .exit 2 ∧ ∃ (i : Int) (k : AV), AtB l b i ∧ st' = ⟨ofL [(7, sP l), (8, T), (9, .int .i64 i), (10, k), (19, .bool false)], bx, pm, none⟩
theorem best_loop (l taken : List Pr) (hl : l.length ≤ 2000000) (ht : taken.length ≤ 2000000) (hp : ∀ x ∈ l, x.ok) (q : Perm) (bx : Bx) (pm : Pm) : ∀ (rest pre : List Pr) (i best : Int) (b : Option Pr), l = pre ++ rest → i = pre.length → AtB l b best →
    Res (RunD Sy (.loop L43x0) ⟨ofL [(7, sP l), (8, .sl 3 (taken.map pA) q), (9, .int .i64 best), (10, .int .i64 i)], bx, pm, none⟩) fun ex st' => BQ l (.sl 3 (taken.map pA) q) bx pm (bestG taken b rest) ex st'
  | [], pre, i, best, b, h, hi, hb => by
    subst hi
    rw [List.append_nil] at h
    subst h
    refine loop_step fun K hK => ?_
    simp [L43x0, bestG]
    exact ⟨rfl, _, _, hb, rfl⟩
  | x :: rest, pre, i, best, b, h, hi, hb => by
    subst hi
    have hpl : pre.length + rest.length + 1 = l.length := by rw [h]; simp; omega
    have hlt : (pre.length : Int) < l.length := by omega
    have hgx : l[pre.length]? = some x := by rw [h]; simp
    have hg : (l.map pA)[pre.length]? = some (pA x) := by rw [h]; simp
    have hc := chk_i64 ((pre.length : Int) + 1) (by omega)
    have htd := touch_den taken (by omega) x
    have hnx := fun best b hb => best_loop l taken hl ht hp q bx pm rest (pre ++ [x]) ((pre.length : Int) + 1) best b (by simp [h]) (by simp) hb
    have hu : bestG taken b (x :: rest) = bestG taken (pickB taken b x) rest := rfl
    rw [hu]
    unfold pickB
    have hxo := hp x (by rw [h]; simp)
    simp only [pA] at hg htd
    refine loop_step fun K hK => ?_
    by_cases h1 : touchB taken x = true
    · simp [L43x0, -getElem?_pos, -List.getElem?_map, hlt, hg, hc, htd, h1]
      rw [hK]
      exact hnx best b hb
    · cases b with
      | none =>
        have hb' : best = -1 := hb
        subst hb'
        simp [L43x0, -getElem?_pos, -List.getElem?_map, hlt, hg, hc, htd, h1]
        rw [hK]
        exact hnx _ (some x) ⟨pre.length, rfl, hgx⟩
      | some p =>
        obtain ⟨k, rfl, hk⟩ := hb
        have hkl : k < l.length := (List.getElem?_eq_some_iff.1 hk).1
        have hkl' : (k : Int) < l.length := by omega
        have hkn : ¬ (k : Int) < 0 := by omega
        have hgk : (l.map pA)[k]? = some (pA p) := by rw [List.getElem?_map, hk]; rfl
        have hbt := better_den x p hxo (hp p (List.mem_of_getElem? hk))
        simp only [pA] at hgk hbt
        by_cases h2 : betterB x p = true
        · simp [L43x0, -getElem?_pos, -List.getElem?_map, hlt, hg, hc, htd, h1, hkl, hkl', hkn, hgk, hbt, h2]
          rw [hK]
          exact hnx _ (some x) ⟨pre.length, rfl, hgx⟩
        · simp [L43x0, -getElem?_pos, -List.getElem?_map, hlt, hg, hc, htd, h1, hkl, hkl', hkn, hgk, hbt, h2]
          rw [hK]
          exact hnx _ (some p) ⟨k, rfl, hk⟩
def takeG : Nat → List Pr → List Pr → List Pr
  | 0, _, taken => taken
  | n + 1, l, taken => match bestG taken none l with
    | none => taken
    | some p => takeG n l (taken ++ [p])
def pairsF (old fresh : List It) (th : Int) : List Pr := sortG prLt [] (takeG ((candF old fresh th).length + 1) (candF old fresh th) [])
theorem bestG_mem (taken : List Pr) : ∀ (l : List Pr) (b : Option Pr) (p : Pr), bestG taken b l = some p → b = some p ∨ p ∈ l ∧ touchB taken p = false
  | [], b, p, h => .inl h
  | x :: r, b, p, h => by
    unfold bestG at h
    rcases bestG_mem taken r _ p h with h | h
    · unfold pickB at h
      split at h
      · exact .inl h
      · rename_i ht
        simp only [Bool.not_eq_true] at ht
        cases b with
        | none =>
          simp only [Option.some.injEq] at h
          subst h
          exact .inr ⟨by simp, ht⟩
        | some y =>
          simp only at h
          split at h
          · simp only [Option.some.injEq] at h
            subst h
            exact .inr ⟨by simp, ht⟩
          · exact .inl h
    · exact .inr ⟨List.mem_cons_of_mem _ h.1, h.2⟩
/-- How many may still be taken. -/
def leftN (taken l : List Pr) : Nat := (l.filter fun p => !touchB taken p).length
theorem leftN_lt (taken l : List Pr) (p : Pr) (hp : p ∈ l) (ht : touchB taken p = false) : leftN (taken ++ [p]) l < leftN taken l := by
  have hsub : ∀ x, touchB (taken ++ [p]) x = (touchB taken x || touchB [p] x) := fun x => by simp [touchB]
  have hpp : touchB [p] p = true := by simp [touchB]
  unfold leftN
  induction l with
  | nil => simp at hp
  | cons y l ih =>
    have hle : ∀ l : List Pr, (l.filter fun x => !touchB (taken ++ [p]) x).length ≤ (l.filter fun x => !touchB taken x).length := fun l => by
      induction l with
      | nil => simp
      | cons z l ih2 =>
        rw [List.filter_cons, List.filter_cons, hsub]
        cases h1 : touchB taken z <;> cases h2 : touchB [p] z <;> simp <;> omega
    rw [List.filter_cons, List.filter_cons, hsub]
    rcases List.mem_cons.1 hp with rfl | hp
    · rw [ht, hpp]
      have := hle l
      simp
      omega
    · have := ih hp
      cases h1 : touchB taken y <;> cases h2 : touchB [p] y <;> simp <;> omega
theorem takeG_mem : ∀ (n : Nat) (l taken : List Pr) (p : Pr), p ∈ takeG n l taken → p ∈ taken ∨ p ∈ l
  | 0, l, taken, p, h => .inl h
  | n + 1, l, taken, p, h => by
    unfold takeG at h
    split at h
    · exact .inl h
    · rename_i x hx
      rcases takeG_mem n l _ p h with h | h
      · rcases List.mem_append.1 h with h | h
        · exact .inl h
        · simp only [List.mem_singleton] at h
          subst h
          rcases bestG_mem taken l none p hx with h | h
          · simp at h
          · exact .inr h.1
      · exact .inr h

def RQ (R : List Pr) (ex : Ex) (st' : St) : Prop := ex = .ret ∧ st'.env = ofL [(6, .sl 3 (R.map pA) .no)] ∧ st'.df = none
theorem pairs_loop (l : List Pr) (hl : l.length ≤ 1000000) (hp : ∀ x ∈ l, x.ok) (bx : Bx) : ∀ (n : Nat) (taken : List Pr) (T : List AV) (q : Perm) (pm : Pm), T = taken.map pA → leftN taken l < n → taken.length + leftN taken l ≤ 1000000 → (∀ x ∈ taken, x ∈ l) → AppOk pm q →
    Res (RunD Sy (.loop L43x1) ⟨ofL [(7, sP l), (8, .sl 3 T q)], bx, pm, none⟩) fun ex st' => RQ (sortG prLt [] (takeG n l taken)) ex st'
  | 0, taken, T, q, pm, hT, hn, hb, hm, hq => absurd hn (by omega)
  | n + 1, taken, T, q, pm, hT, hn, hb, hm, hq => by
    subst hT
    have htk : taken.length ≤ 1000000 := by omega
    have hsd := psort_den taken (by omega) (fun x hx => hp x (hm x hx))
    have hu : takeG (n + 1) l taken = match bestG taken none l with
      | none => taken
      | some p => takeG n l (taken ++ [p]) := rfl
    have hsz : (taken.length + 1) * 40 ≤ 140737488355328 := z40 (by omega)
    rw [hu]
    refine loop_step fun K hK => ?_
    simp [L43x1]
    generalize hZ : RunD Sy (.loop L43x0) _ = Z
    obtain ⟨ex, st', rfl, rfl, i, k, hb', rfl⟩ := Res.at hZ (best_loop l taken (by omega) (by omega) hp q bx pm l [] 0 (-1) none rfl rfl rfl)
    cases hx : bestG taken none l with
    | none =>
      rw [hx] at hb'
      have hi : i = -1 := hb'
      subst hi
      simp [hsd]
      exact ⟨rfl, rfl, rfl⟩
    | some p =>
      rw [hx] at hb'
      obtain ⟨k', rfl, hk⟩ := hb'
      have hkl : k' < l.length := (List.getElem?_eq_some_iff.1 hk).1
      have hkl' : (k' : Int) < l.length := by omega
      have hkn : ¬ (k' : Int) < 0 := by omega
      have hgk : (l.map pA)[k']? = some (pA p) := by rw [List.getElem?_map, hk]; rfl
      have hpl := List.mem_of_getElem? hk
      have hpt : touchB taken p = false := by
        rcases bestG_mem taken l none p hx with h | h
        · simp at h
        · exact h.2
      have hlt := leftN_lt taken l p hpl hpt
      have hnx := fun T hT q pm hq => pairs_loop l hl hp bx n (taken ++ [p]) T q pm hT (by omega) (by simp; omega) (fun x hx => by
        rcases List.mem_append.1 hx with h | h
        · exact hm x h
        · simp only [List.mem_singleton] at h
          rw [h]; exact hpl) hq
      simp only [pA] at hgk
      rcases hq with rfl | ⟨tt, v, rfl, hpm⟩
      · simp [-getElem?_pos, -List.getElem?_map, hkl, hkl', hkn, hgk, hsz]
        rw [hK]
        refine hnx _ ?_ _ _ ?_
        · simp [pA]
        · exact AppOk.tok (by simp)
      · simp [-getElem?_pos, -List.getElem?_map, hkl, hkl', hkn, hgk, hsz, hpm]
        rw [hK]
        refine hnx _ ?_ _ _ ?_
        · simp [pA]
        · exact AppOk.tok (by simp)
theorem flatMap_len {α β : Type} (f : α → List β) (k : Nat) : ∀ l : List α, (∀ x ∈ l, (f x).length ≤ k) → (l.flatMap f).length ≤ l.length * k
  | [], _ => by simp
  | x :: l, h => by
    have h1 := h x (by simp)
    have h2 := flatMap_len f k l (fun y hy => h y (List.mem_cons_of_mem _ hy))
    rw [List.flatMap_cons, List.length_append, List.length_cons, Nat.add_mul]
    omega
theorem filesF_len (t : List It) : (filesF t).length ≤ t.length := by
  have := filesG_len t []
  simpa [filesF] using this
theorem filesF_mem {t : List It} {y : It} (h : y ∈ filesF t) : y ∈ t := by
  rcases filesG_mem t [] y h with h | h
  · simp at h
  · exact h
theorem candF_len (old fresh : List It) (th : Int) (h1 : old.length ≤ 1000) (h2 : fresh.length ≤ 1000) : (candF old fresh th).length ≤ 1000000 := by
  have h := flatMap_len (fun x => candR th x (filesF fresh)) 1000 (filesF old) (fun x _ => by
    have := candR_len th x (filesF fresh)
    have := filesF_len fresh
    omega)
  have := filesF_len old
  unfold candF
  omega
theorem candF_mem {old fresh : List It} {th : Int} {p : Pr} (h : p ∈ candF old fresh th) : ∃ x ∈ old, ∃ y ∈ fresh, p = ⟨x.path, y.path, scoreI x y⟩ ∧ x.kind = x.kind ∧ 1 ≤ scoreI x y := by
  unfold candF candR candO at h
  rw [List.mem_flatMap] at h
  obtain ⟨x, hx, h⟩ := h
  rw [List.mem_flatMap] at h
  obtain ⟨y, hy, h⟩ := h
  split at h
  · rename_i hs
    simp only [List.mem_singleton] at h
    exact ⟨x, filesF_mem hx, y, filesF_mem hy, h, rfl, hs.1⟩
  · simp at h
/-- What is known of a tree's items here. -/
def Sm (t : List It) : Prop := t.length ≤ 1000 ∧ ∀ x ∈ t, x.path.length ≤ 2000 ∧ x.data.length ≤ 800
theorem pairs_den (old fresh : List It) (th : Int) (ho : Sm old) (hf : Sm fresh) : Den Sy 43 [sI old, sI fresh, .int .i64 th] = some (sP (pairsF old fresh th)) := by
  rw [Den_fun Sy (af := A43) rfl rfl _ rfl]
  have hc := cand_den old fresh th ho.1 hf.1 (fun y hy => by have := (ho.2 y hy).2; omega) (fun y hy => by have := (hf.2 y hy).2; omega)
  have hl := candF_len old fresh th ho.1 hf.1
  have hle : leftN [] (candF old fresh th) ≤ (candF old fresh th).length := List.length_filter_le _ _
  have hok : ∀ x ∈ candF old fresh th, x.ok := fun p hp => by
    obtain ⟨x, hx, y, hy, rfl, _⟩ := candF_mem hp
    have h1 := (ho.2 x hx).1
    have h2 := (hf.2 y hy).1
    unfold Pr.ok
    simp only
    omega
  obtain ⟨ex, st', hL, rfl, h6, hdf⟩ := pairs_loop (candF old fresh th) hl hok (ofL []) ((candF old fresh th).length + 1) [] [] .nil none' rfl (by omega) (by simp; omega) (by simp) (AppOk.nil _)
  simp [A43, hc, hL, h6, hdf, pairsF]

/-! ### Faults, scripts, what is there alone -/
theorem lines_few {x : It} (h : x.data.length ≤ 800) : (linesS x.data).length ≤ 800 := Nat.le_trans (linesS_len _) h
def scriptI (x y : It) : List Edit := diffF (linesS x.data) (linesS y.data)
theorem scriptI_den (x y : It) (hx : x.data.length ≤ 800) (hy : y.data.length ≤ 800) : Den Sy 72 [iA x, iA y] = some (sE (scriptI x y)) := by
  rw [Den_fun Sy (af := A72) rfl rfl _ rfl]
  have h1 := lines_den x.data (by omega)
  have h2 := lines_den y.data (by omega)
  have h3 := diff_den (linesS x.data) (linesS y.data) (by have := lines_few hx; omega) (by have := lines_few hy; omega)
  simp [A72, iA, h1, h2, h3, scriptI]
theorem checkG_path (t : List It) (l : Lim) : ∀ (r : List It) (path : List UInt8) (code : Int) (n : Nat), path.length ≤ n → (∀ x ∈ r, x.path.length ≤ n) → (checkG t l path code r).1.length ≤ n
  | [], path, code, n, h, _ => h
  | x :: r, path, code, n, h, hr => by
    unfold checkG
    split
    · exact checkG_path t l r _ _ n (hr x (by simp)) (fun y hy => hr y (List.mem_cons_of_mem _ hy))
    · exact checkG_path t l r _ _ n h (fun y hy => hr y (List.mem_cons_of_mem _ hy))
theorem checkF_path (t : List It) (l : Lim) (h : Sm t) : (checkF t l).1.length ≤ 2000 := by
  unfold checkF
  split
  · simp
  · exact checkG_path t l t _ _ 2000 (by simp) (fun x hx => (h.2 x hx).1)
def fault10 (a b : List It) (l : Lim) : List UInt8 × Int :=
  if (checkF a l).2 = 0 then checkF b l else if (checkF b l).2 = 0 ∨ cmpP (checkF a l).1 (checkF b l).1 ≤ 0 then checkF a l else checkF b l
theorem fault10_den (a b : List It) (l : Lim) (ha : Sm a) (hb : Sm b) : Den Sy 42 [sI a, sI b, lA l] = some (ftA (fault10 a b l)) := by
  rw [Den_fun Sy (af := A42) rfl rfl _ rfl]
  have h1 := check_den a (by have := ha.1; omega) (fun x hx => by have := (ha.2 x hx).1; omega) l
  have h2 := check_den b (by have := hb.1; omega) (fun x hx => by have := (hb.2 x hx).1; omega) l
  have p1 := checkF_path a l ha
  have p2 := checkF_path b l hb
  unfold fault10
  generalize checkF a l = f at h1 p1 ⊢
  generalize checkF b l = g at h2 p2 ⊢
  obtain ⟨fp, fc⟩ := f
  obtain ⟨gp, gc⟩ := g
  have hm := cmp_den fp gp (by simp only at p1; omega) (by simp only at p2; omega)
  simp only [ftA, lA] at h1 h2 ⊢
  by_cases k1 : fc = 0
  · simp [A42, lA, h1, h2, k1]
  · by_cases k2 : gc = 0
    · simp [A42, lA, h1, h2, k1, k2]
    · by_cases k3 : cmpP fp gp ≤ 0
      · simp [A42, lA, h1, h2, k1, k2, k3, hm]
      · simp [A42, lA, h1, h2, k1, k2, k3, hm]
def aloneG (other out : List It) : List It → List It
  | [] => out
  | x :: r => aloneG other (if (findF other x.path).isSome = true then out else out ++ [x]) r
def aloneF (l other : List It) : List It := aloneG other [] l
theorem aloneG_mem (other : List It) : ∀ (l out : List It) (y : It), y ∈ aloneG other out l ↔ y ∈ out ∨ y ∈ l ∧ (findF other y.path).isSome = false
  | [], out, y => by simp [aloneG]
  | x :: r, out, y => by
    unfold aloneG
    rw [aloneG_mem other r]
    cases hx : (findF other x.path).isSome
    · rw [if_neg (by simp), List.mem_append, List.mem_singleton, List.mem_cons]
      constructor
      · rintro ((h | h) | h)
        · exact .inl h
        · exact .inr ⟨.inl h, by rw [h]; exact hx⟩
        · exact .inr ⟨.inr h.1, h.2⟩
      · rintro (h | ⟨h | h, h2⟩)
        · exact .inl (.inl h)
        · exact .inl (.inr h)
        · exact .inr ⟨h, h2⟩
    · simp only [if_true, List.mem_cons]
      constructor
      · rintro (h | h)
        · exact .inl h
        · exact .inr ⟨.inr h.1, h.2⟩
      · rintro (h | ⟨h | h, h2⟩)
        · exact .inl h
        · subst h; rw [hx] at h2; exact absurd h2 (by simp)
        · exact .inr ⟨h, h2⟩
theorem aloneG_len (other : List It) : ∀ (l out : List It), (aloneG other out l).length ≤ out.length + l.length
  | [], out => by simp [aloneG]
  | x :: r, out => by
    unfold aloneG
    have := aloneG_len other r (if (findF other x.path).isSome = true then out else out ++ [x])
    have h2 : (if (findF other x.path).isSome = true then out else out ++ [x]).length ≤ out.length + 1 := by split <;> simp
    simp only [List.length_cons]
    omega
def AQ (t other : List It) (R : List It) (ex : Ex) (st' : St) : Prop := ex = .exit 0 ∧ ∃ (q : Perm) (i : AV) (bx' : Bx) (pm' : Pm), st' = ⟨ofL [(0, sI t), (1, sI other), (5, .sl 4 (R.map iA) q), (6, i), (12, .bool false)], bx', pm', none⟩
theorem alone_loop (t other : List It) (ht : t.length ≤ 1000000) (ho : other.length ≤ 1000000) : ∀ (rest pre out : List It) (O : List AV) (i : Int) (q : Perm) (bx : Bx) (pm : Pm), t = pre ++ rest → i = pre.length → O = out.map iA → out.length ≤ pre.length → AppOk pm q →
    Res (RunD Sy (.loop L44x0) ⟨ofL [(0, sI t), (1, sI other), (5, .sl 4 O q), (6, .int .i64 i)], bx, pm, none⟩) fun ex st' => AQ t other (aloneG other out rest) ex st'
  | [], pre, out, O, i, q, bx, pm, h, hi, hO, hl, hq => by
    subst hi hO
    rw [List.append_nil] at h
    subst h
    refine loop_step fun K hK => ?_
    simp [L44x0, aloneG]
    exact ⟨rfl, _, _, _, _, rfl⟩
  | x :: rest, pre, out, O, i, q, bx, pm, h, hi, hO, hl, hq => by
    subst hi hO
    have hlt : (pre.length : Int) < t.length := by rw [h]; simp; omega
    have hpt : pre.length ≤ t.length := by omega
    have hg : (t.map iA)[pre.length]? = some (iA x) := by rw [h]; simp
    have hc := chk_i64 ((pre.length : Int) + 1) (by omega)
    have hf := find_den other (by omega) x.path
    have hsz : (out.length + 1) * 48 ≤ 140737488355328 := by omega
    have hu : aloneG other out (x :: rest) = aloneG other (if (findF other x.path).isSome = true then out else out ++ [x]) rest := rfl
    have hnx := fun out' O hO q bx pm (hl' : out'.length ≤ pre.length + 1) hq => alone_loop t other ht ho rest (pre ++ [x]) out' O ((pre.length : Int) + 1) q bx pm (by simp [h]) (by simp) hO (by simpa using hl') hq
    rw [hu]
    simp only [iA] at hg
    refine loop_step fun K hK => ?_
    cases hx : findF other x.path with
    | some y =>
      rw [hx] at hf
      simp only [fA, iA] at hf
      simp [L44x0, -getElem?_pos, -List.getElem?_map, List.getElem?_cons_zero, List.getElem?_cons_succ, hlt, hg, hc, hf]
      rw [hK]
      exact hnx out _ rfl _ _ _ (by omega) hq
    | none =>
      rw [hx] at hf
      simp only [fA, iA] at hf
      rcases hq with rfl | ⟨tt, v, rfl, hpm⟩
      · simp [L44x0, -getElem?_pos, -List.getElem?_map, List.getElem?_cons_zero, List.getElem?_cons_succ, hlt, hg, hc, hf, hsz]
        rw [hK]
        refine hnx (out ++ [x]) _ ?_ _ _ _ (by simp; omega) ?_
        · simp [iA]
        · exact AppOk.tok (by simp)
      · simp [L44x0, -getElem?_pos, -List.getElem?_map, List.getElem?_cons_zero, List.getElem?_cons_succ, hlt, hg, hc, hf, hsz, hpm]
        rw [hK]
        refine hnx (out ++ [x]) _ ?_ _ _ _ (by simp; omega) ?_
        · simp [iA]
        · exact AppOk.tok (by simp)
theorem alone_den (t other : List It) (ht : t.length ≤ 1000000) (ho : other.length ≤ 1000000) : Den Sy 44 [sI t, sI other] = some (sI (aloneF t other)) := by
  rw [Den_fun Sy (af := A44) rfl rfl _ rfl]
  obtain ⟨ex, st', hL, rfl, q, i, bx', pm', rfl⟩ := alone_loop t other ht ho t [] [] [] 0 .nil (ofL []) none' rfl rfl rfl (by simp) (AppOk.nil _)
  simp [A44, hL, aloneF]
theorem aloneF_sm {l other : List It} (h : Sm l) : Sm (aloneF l other) := by
  have h1 := aloneG_len other l []
  simp only [List.length_nil, Nat.zero_add] at h1
  refine ⟨by have := h.1; unfold aloneF; omega, fun x hx => ?_⟩
  rcases (aloneG_mem other l [] x).1 hx with h2 | h2
  · simp at h2
  · exact h.2 x h2.1

structure En where
  op : Int
  path : List UInt8
  src : List UInt8
  old : Int
  new : Int
  data : List UInt8
  score : Int
  script : List Edit
  deriving DecidableEq
abbrev eC (e : En) : List AV := [.int .i64 e.op, .str e.path, .str e.src, .int .i64 e.old, .int .i64 e.new, .str e.data, .int .i64 e.score, sE e.script]
def nA (e : En) : AV := .agg (eC e)
abbrev sN (l : List En) : AV := .sl 8 (l.map nA) .no
def zN : En := ⟨0, [], [], 0, 0, [], 0, []⟩
abbrev itC (x : It) : List AV := [.str x.path, .int .i64 x.kind, .str x.data, .bool x.bad]
def rowL (p : List UInt8) : List Pr → Option (Option Pr)
  | [] => none
  | x :: r => if x.dst = p then some (some x) else if x.src = p then some none else rowL p r
def fD (o : Option It) : It := o.getD zI
theorem fA_eq (o : Option It) : fA o = .tup [.agg (itC (fD o)), .bool o.isSome] := by cases o <;> rfl
def renE (a b : List It) (p : List UInt8) (x : Pr) : En := ⟨5, p, x.src, 2, 2, [], x.score, scriptI (fD (findF a x.src)) (fD (findF b p))⟩
def bothE (p : List UInt8) (x y : It) : Option En := if x.kind ≠ y.kind ∨ y.kind = 3 ∧ x.data ≠ y.data then some ⟨4, p, [], x.kind, y.kind, y.data, 0, []⟩ else if y.kind = 2 ∧ x.data ≠ y.data then some ⟨3, p, [], x.kind, y.kind, [], 0, scriptI x y⟩ else none
def rowF (a b : List It) (l : List Pr) (p : List UInt8) : Option En := match rowL p l with
  | some (some x) => some (renE a b p x)
  | some none => none
  | none => if (findF a p).isSome = false then some ⟨1, p, [], 0, (fD (findF b p)).kind, (fD (findF b p)).data, 0, []⟩
    else if (findF b p).isSome = false then some ⟨2, p, [], (fD (findF a p)).kind, 0, [], 0, []⟩
    else bothE p (fD (findF a p)) (fD (findF b p))
theorem findF_mem {t : List It} {p : List UInt8} {x : It} (h : findF t p = some x) : x ∈ t ∧ x.path = p := by
  unfold findF at h
  exact ⟨List.mem_of_find?_eq_some h, by simpa using List.find?_some h⟩
theorem fD_sm {t : List It} (h : Sm t) (p : List UInt8) : (fD (findF t p)).data.length ≤ 800 ∧ (fD (findF t p)).path.length ≤ 2000 := by
  cases hx : findF t p with
  | none => simp [fD]
  | some x => exact ⟨(h.2 x (findF_mem hx).1).2, (h.2 x (findF_mem hx).1).1⟩
def WR (a : List It) (l : List Pr) (p : List UInt8) (v8 v10 v12 : Nat) (was is_ : Bool) (bx : Bx) (pm : Pm) (E : Pr → En) (R : Option (Option Pr)) (ex : Ex) (st' : St) : Prop := match R with
  | none => ex = .exit 0 ∧ ∃ i', st' = ⟨ofL [(0, sI a), (2, sP l), (3, .str p), (8, .ptr 8 v8 0), (10, .ptr 10 v10 0), (11, .bool was), (12, .ptr 12 v12 0), (13, .bool is_), (14, i'), (32, .bool false)], bx, pm, none⟩
  | some none => ex = .ret ∧ st'.df = none ∧ st'.env = ofL [(8, .ptr 8 v8 0), (9, .bool false)] ∧ st'.bx 8 = some (v8, [.int .i64 0, .str [], .str [], .int .i64 0, .int .i64 0, .str [], .int .i64 0, .sl 3 [] .nil])
  | some (some x) => ex = .ret ∧ st'.df = none ∧ st'.env = ofL [(8, .ptr 8 v8 0), (9, .bool true)] ∧ st'.bx 8 = some (v8, eC (E x))
theorem row_loop (a b : List It) (l : List Pr) (p : List UInt8) (ha : Sm a) (hb : Sm b) (hl : l.length ≤ 2000000) (v8 v10 v12 : Nat) (was is_ : Bool) (bx : Bx) (pm : Pm) (b8 : bx 8 = some (v8, [.int .i64 0, .str [], .str [], .int .i64 0, .int .i64 0, .str [], .int .i64 0, .sl 3 [] .nil])) (b12 : bx 12 = some (v12, itC (fD (findF b p)))) : ∀ (rest pre : List Pr) (i : Int), l = pre ++ rest → i = pre.length →
    Res (RunD Sy (.loop L46x0) ⟨ofL [(0, sI a), (2, sP l), (3, .str p), (8, .ptr 8 v8 0), (10, .ptr 10 v10 0), (11, .bool was), (12, .ptr 12 v12 0), (13, .bool is_), (14, .int .i64 i)], bx, pm, none⟩) fun ex st' => WR a l p v8 v10 v12 was is_ bx pm (renE a b p) (rowL p rest) ex st'
  | [], pre, i, h, hi => by
    subst hi
    rw [List.append_nil] at h
    subst h
    refine loop_step fun K hK => ?_
    simp [L46x0, rowL]
    exact ⟨rfl, _, rfl⟩
  | x :: rest, pre, i, h, hi => by
    subst hi
    have hlt : (pre.length : Int) < l.length := by rw [h]; simp; omega
    have hg : (l.map pA)[pre.length]? = some (pA x) := by rw [h]; simp
    have hc := chk_i64 ((pre.length : Int) + 1) (by omega)
    have hf := find_den a (by have := ha.1; omega) x.src
    have hnx := row_loop a b l p ha hb hl v8 v10 v12 was is_ bx pm b8 b12 rest (pre ++ [x]) ((pre.length : Int) + 1) (by simp [h]) (by simp)
    have hs := scriptI_den (fD (findF a x.src)) (fD (findF b p)) (fD_sm ha _).1 (fD_sm hb _).1
    have hR : renE a b p x = ⟨5, p, x.src, 2, 2, [], x.score, scriptI (fD (findF a x.src)) (fD (findF b p))⟩ := rfl
    rw [fA_eq] at hf
    simp only [iA] at hs
    simp only [itC] at hf b12
    simp only [pA] at hg
    have hu : rowL p (x :: rest) = if x.dst = p then some (some x) else if x.src = p then some none else rowL p rest := rfl
    rw [hu]
    refine loop_step fun K hK => ?_
    by_cases s1 : x.dst = p
    · rw [if_pos s1]
      generalize scriptI (fD (findF a x.src)) (fD (findF b p)) = S at hs hR
      generalize fD (findF a x.src) = o at hf hs
      generalize fD (findF b p) = y at hs b12
      simp [L46x0, -getElem?_pos, -List.getElem?_map, List.getElem?_cons_zero, List.getElem?_cons_succ, hlt, hg, hc, hf, b8, b12, eq_true s1, hs]
      refine ⟨rfl, rfl, rfl, ?_⟩
      rw [hR]
      simp
    · rw [if_neg s1]
      by_cases s2 : x.src = p
      · rw [if_pos s2]
        simp [L46x0, -getElem?_pos, -List.getElem?_map, hlt, hg, hc, b8, b12, s1, eq_true s2]
        exact ⟨rfl, rfl, rfl, by simp⟩
      · rw [if_neg s2]
        simp [L46x0, -getElem?_pos, -List.getElem?_map, hlt, hg, hc, b8, b12, s1, s2]
        rw [hK]
        exact hnx
/-- What a row tells. -/
def wA : Option En → AV
  | some e => .tup [nA e, .bool true]
  | none => .tup [nA zN, .bool false]
theorem row_den (a b : List It) (l : List Pr) (p : List UInt8) (ha : Sm a) (hb : Sm b) (hl : l.length ≤ 2000000) : Den Sy 46 [sI a, sI b, sP l, .str p] = some (wA (rowF a b l p)) := by
  rw [Den_fun Sy (af := A46) rfl rfl _ rfl]
  have f1 := find_den a (by have := ha.1; omega) p
  have f2 := find_den b (by have := hb.1; omega) p
  have hs := scriptI_den (fD (findF a p)) (fD (findF b p)) (fD_sm ha _).1 (fD_sm hb _).1
  have hlp := fun v8 v10 v12 was is_ bx pm b8 b12 => row_loop a b l p ha hb hl v8 v10 v12 was is_ bx pm b8 b12 l [] 0 rfl rfl
  rw [fA_eq] at f1 f2
  simp only [itC] at f1 f2
  simp only [iA] at hs
  simp [A46, List.getElem?_cons_zero, List.getElem?_cons_succ, -getElem?_pos, f1, f2]
  generalize hZ : RunD Sy (.loop L46x0) _ = Z
  obtain ⟨ex, st', rfl, hR⟩ := Res.at hZ (hlp _ _ _ _ _ _ _ (by simp) (by simp))
  unfold rowF
  cases hr : rowL p l with
  | some o =>
    rw [hr] at hR
    cases o with
    | none =>
      obtain ⟨rfl, h1, h2, h3⟩ := hR
      simp [h1, h2, h3, wA, nA, zN]
    | some x =>
      obtain ⟨rfl, h1, h2, h3⟩ := hR
      simp [h1, h2, h3, wA, nA, zN]
  | none =>
    rw [hr] at hR
    obtain ⟨rfl, i', rfl⟩ := hR
    cases k1 : (findF a p).isSome
    · simp [wA, nA, k1]
    · cases k2 : (findF b p).isSome
      · simp [wA, nA, k1, k2]
      · unfold bothE
        generalize scriptI (fD (findF a p)) (fD (findF b p)) = S at hs ⊢
        generalize fD (findF a p) = x at hs ⊢
        generalize fD (findF b p) = y at hs ⊢
        by_cases s1 : x.kind = y.kind
        · by_cases s2 : y.kind = 3
          · by_cases s3 : x.data = y.data
            · simp [wA, nA, zN, k1, k2, s1, s2, s3]
            · simp [wA, nA, zN, k1, k2, s1, s2, s3]
          · by_cases s3 : y.kind = 2
            · by_cases s4 : x.data = y.data
              · simp [wA, nA, zN, k1, k2, s1, s2, s3, s4]
              · rw [s1, s3] at hs
                simp [wA, nA, zN, k1, k2, s1, s2, s3, s4, hs]
            · simp [wA, nA, zN, k1, k2, s1, s2, s3]
        · simp [wA, nA, zN, k1, k2, s1]
def rowsG (a b : List It) (l : List Pr) : List It → List En
  | [] => []
  | x :: r => (rowF a b l x.path).toList ++ rowsG a b l r
/-- What has become of the tree a, by the document. -/
def allF (a b : List It) : List It := sortF (a ++ aloneF b a)
def compF (a b : List It) (l : Lim) (th : Int) : List En := if (fault10 a b l).2 ≠ 0 then [] else rowsG a b (pairsF (aloneF a b) (aloneF b a) th) (allF a b)
def compFt (a b : List It) (l : Lim) (th : Int) : List UInt8 × Int := if (fault10 a b l).2 ≠ 0 then fault10 a b l else ([], 0)
theorem rowsG_len (a b : List It) (l : List Pr) : ∀ r : List It, (rowsG a b l r).length ≤ r.length
  | [] => by simp [rowsG]
  | x :: r => by
    have := rowsG_len a b l r
    unfold rowsG
    have h2 : (rowF a b l x.path).toList.length ≤ 1 := by cases rowF a b l x.path <;> simp
    simp only [List.length_append, List.length_cons]
    omega
def XQ (a b all : List It) (l : List Pr) (v9 : Nat) (R : List En) (ex : Ex) (st' : St) : Prop := ex = .exit 0 ∧ ∃ (q : Perm) (i : AV) (bx' : Bx) (pm' : Pm), bx' 9 = some (v9, [.str [], .int .i64 0]) ∧ st' = ⟨ofL [(0, sI a), (1, sI b), (9, .ptr 9 v9 0), (11, sP l), (12, sI all), (13, .sl 8 (R.map nA) q), (14, i), (43, .bool false)], bx', pm', none⟩
theorem comp_loop (a b all : List It) (l : List Pr) (ha : Sm a) (hb : Sm b) (hl : l.length ≤ 2000000) (hal : all.length ≤ 2000) (v9 : Nat) : ∀ (rest pre : List It) (out : List En) (O : List AV) (i : Int) (q : Perm) (bx : Bx) (pm : Pm), all = pre ++ rest → i = pre.length → O = out.map nA → out.length ≤ pre.length → AppOk pm q → bx 9 = some (v9, [.str [], .int .i64 0]) →
    Res (RunD Sy (.loop L21x0) ⟨ofL [(0, sI a), (1, sI b), (9, .ptr 9 v9 0), (11, sP l), (12, sI all), (13, .sl 8 O q), (14, .int .i64 i)], bx, pm, none⟩) fun ex st' => XQ a b all l v9 (out ++ rowsG a b l rest) ex st'
  | [], pre, out, O, i, q, bx, pm, h, hi, hO, hlo, hq, b9 => by
    subst hi hO
    rw [List.append_nil] at h
    subst h
    refine loop_step fun K hK => ?_
    simp [L21x0, rowsG]
    exact ⟨rfl, _, _, _, _, b9, rfl⟩
  | x :: rest, pre, out, O, i, q, bx, pm, h, hi, hO, hlo, hq, b9 => by
    subst hi hO
    have hpl : pre.length + rest.length + 1 = all.length := by rw [h]; simp; omega
    have hlt : (pre.length : Int) < all.length := by omega
    have hg : (all.map iA)[pre.length]? = some (iA x) := by rw [h]; simp
    have hc := chk_i64 ((pre.length : Int) + 1) (by omega)
    have hw := row_den a b l x.path ha hb hl
    have hsz : (out.length + 1) * 104 ≤ 140737488355328 := by omega
    have hu : rowsG a b l (x :: rest) = (rowF a b l x.path).toList ++ rowsG a b l rest := rfl
    have hnx := fun out' O hO q bx pm (hl' : out'.length ≤ pre.length + 1) hq b9 => comp_loop a b all l ha hb hl hal v9 rest (pre ++ [x]) out' O ((pre.length : Int) + 1) q bx pm (by simp [h]) (by simp) hO (by simpa using hl') hq b9
    rw [hu]
    simp only [iA] at hg
    refine loop_step fun K hK => ?_
    cases hx : rowF a b l x.path with
    | none =>
      rw [hx] at hw
      simp only [wA, nA, eC] at hw
      simp [L21x0, -getElem?_pos, -List.getElem?_map, List.getElem?_cons_zero, List.getElem?_cons_succ, hlt, hg, hc, hw]
      rw [hK]
      exact hnx out _ rfl _ _ _ (by omega) hq (by simp [b9])
    | some e =>
      rw [hx] at hw
      simp only [wA, nA, eC] at hw
      have he : out ++ ((some e).toList ++ rowsG a b l rest) = (out ++ [e]) ++ rowsG a b l rest := by simp
      rw [he]
      rcases hq with rfl | ⟨tt, v, rfl, hpm⟩
      · simp [L21x0, -getElem?_pos, -List.getElem?_map, List.getElem?_cons_zero, List.getElem?_cons_succ, hlt, hg, hc, hw, hsz]
        rw [hK]
        have := hnx (out ++ [e])
        simp only [List.append_assoc] at this
        refine this _ ?_ _ _ _ (by simp; omega) ?_ ?_
        · simp [nA]
        · exact AppOk.tok (by simp)
        · simp [b9]
      · simp [L21x0, -getElem?_pos, -List.getElem?_map, List.getElem?_cons_zero, List.getElem?_cons_succ, hlt, hg, hc, hw, hsz, hpm]
        rw [hK]
        have := hnx (out ++ [e])
        simp only [List.append_assoc] at this
        refine this _ ?_ _ _ _ (by simp; omega) ?_ ?_
        · simp [nA]
        · exact AppOk.tok (by simp)
        · simp [b9]

theorem pairsF_mem {old fresh : List It} {th : Int} {p : Pr} (h : p ∈ pairsF old fresh th) : p ∈ candF old fresh th := by
  unfold pairsF at h
  rcases (sortG_mem prLt p _ _).1 h with h | h
  · simp at h
  · rcases takeG_mem _ _ _ p h with h | h
    · simp at h
    · exact h
theorem takeG_len : ∀ (n : Nat) (l taken : List Pr), (takeG n l taken).length ≤ taken.length + n
  | 0, l, taken => by simp [takeG]
  | n + 1, l, taken => by
    unfold takeG
    split
    · omega
    · rename_i p _
      have := takeG_len n l (taken ++ [p])
      simp at this
      omega
theorem pairsF_len (old fresh : List It) (th : Int) (h1 : old.length ≤ 1000) (h2 : fresh.length ≤ 1000) : (pairsF old fresh th).length ≤ 1000001 := by
  have h3 := candF_len old fresh th h1 h2
  have h4 := takeG_len ((candF old fresh th).length + 1) (candF old fresh th) []
  unfold pairsF
  rw [sortG_len]
  simp at h4 ⊢
  omega
theorem comp_den (a b : List It) (l : Lim) (th : Int) (ha : Sm a) (hb : Sm b) : Den Sy 21 [sI a, sI b, lA l, .int .i64 th] = some (.tup [sN (compF a b l th), ftA (compFt a b l th)]) := by
  rw [Den_fun Sy (af := A21) rfl rfl _ rfl]
  have hf := fault10_den a b l ha hb
  have a1 := alone_den a b (by have := ha.1; omega) (by have := hb.1; omega)
  have a2 := alone_den b a (by have := hb.1; omega) (by have := ha.1; omega)
  have m1 := aloneF_sm (other := b) ha
  have m2 := aloneF_sm (other := a) hb
  have hp := pairs_den (aloneF a b) (aloneF b a) th m1 m2
  have hpl := pairsF_len (aloneF a b) (aloneF b a) th m1.1 m2.1
  have hso := sort_den (a ++ aloneF b a) (by have := ha.1; have := m2.1; simp; omega) (fun x hx => by
    rcases List.mem_append.1 hx with h | h
    · have := (ha.2 x h).1; omega
    · have := (m2.2 x h).1; omega)
  have hal : (allF a b).length ≤ 2000 := by
    unfold allF sortF
    rw [sortG_len]
    have := ha.1
    have := m2.1
    simp
    omega
  have hlp := fun v9 q bx pm => comp_loop a b (allF a b) (pairsF (aloneF a b) (aloneF b a) th) ha hb (by omega) hal v9 (allF a b) [] [] [] 0 q bx pm rfl rfl rfl (by simp)
  have z1 : a.length * 48 ≤ 140737488355328 := by have := ha.1; omega
  have z2 : (a.length + (aloneF b a).length) * 48 ≤ 140737488355328 := by have := ha.1; have := m2.1; omega
  have hu : sortF (a ++ aloneF b a) = allF a b := rfl
  rw [hu] at hso
  unfold compF compFt
  generalize fault10 a b l = f at hf ⊢
  obtain ⟨fp, fc⟩ := f
  simp only [ftA, lA] at hf ⊢
  simp only [sI, List.map_append] at hso
  by_cases k1 : fc = 0
  · subst k1
    simp [A21, lA, hf, a1, a2, hp, z1, z2, hso]
    generalize hZ : RunD Sy (.loop L21x0) _ = Z
    obtain ⟨ex, st', rfl, rfl, q, i, bx', pm', b9, rfl⟩ := Res.at hZ (hlp _ .nil _ _ (AppOk.nil _) (by simp))
    simp [b9]
  · simp [A21, lA, hf, k1]
/-- What trees of raw items are. -/
theorem stepT_sm (t : List It) (x : Raw) (n : Nat) (h : t.length ≤ 16 * n ∧ ∀ y ∈ t, y.path.length ≤ 2000 ∧ y.data.length ≤ 60) : (stepT t x).length ≤ 16 * (n + 1) ∧ ∀ y ∈ stepT t x, y.path.length ≤ 2000 ∧ y.data.length ≤ 60 := by
  have hpn := partsF_len (itemT x).path
  have hpm := fun y (hy : y ∈ partsF (itemT x).path) => partsF_mem hy
  have hnl := withG_len (partsF (itemT x).path) t []
  have hnm := withG_mem (partsF (itemT x).path) t []
  have hil := itemT_len x
  have hsum : ∀ l : List (List UInt8), (∀ x ∈ l, x.length ≤ 64) → (l.map List.length).sum ≤ 64 * l.length := by
    intro l
    induction l with
    | nil => simp
    | cons a l ih =>
      intro hl
      have h1 := hl a (by simp)
      have h2 := ih (fun x hx => hl x (List.mem_cons_of_mem _ hx))
      simp only [List.map_cons, List.sum_cons, List.length_cons]
      omega
  have hsm := hsum _ hpm
  unfold stepT
  simp only
  split
  · refine ⟨by simp; omega, fun y hy => ?_⟩
    rcases List.mem_append.1 hy with hy | hy
    · rcases hnm y hy with hy | ⟨_, h2, _, h4⟩
      · exact h.2 y hy
      · simp only [List.length_nil] at h4
        rw [h2]
        simp
        omega
    · simp only [List.mem_singleton] at hy
      subst hy
      omega
  · exact ⟨by omega, h.2⟩
theorem treeG_sm : ∀ (l : List Raw) (t : List It) (n : Nat), (t.length ≤ 16 * n ∧ ∀ y ∈ t, y.path.length ≤ 2000 ∧ y.data.length ≤ 60) → (treeG t l).length ≤ 16 * (n + l.length) ∧ ∀ y ∈ treeG t l, y.path.length ≤ 2000 ∧ y.data.length ≤ 60
  | [], t, n, h => by simpa [treeG] using h
  | x :: r, t, n, h => by
    have := treeG_sm r (stepT t x) (n + 1) (stepT_sm t x n h)
    rw [treeG_cons]
    refine ⟨?_, this.2⟩
    have := this.1
    simp only [List.length_cons]
    omega
theorem treeF_sm (raw : List Raw) : Sm (treeF raw) := by
  have h := treeG_sm (raw.take 14) [] 0 ⟨by simp, by simp⟩
  have h14 : (raw.take 14).length ≤ 14 := by simp; omega
  unfold treeF
  refine ⟨by omega, fun x hx => ?_⟩
  have := h.2 x hx
  omega
def entriesF (raw more : List Raw) (out : List Int) (th : Int) : List En := compF (twoF raw more out).1 (twoF raw more out).2 wide (pickF th 102)
theorem entries_den (raw more : List Raw) (out : List Int) (th : Int) (hr : ∀ x ∈ raw, x.ok ∧ x.data.length ≤ 140737488355328) (hm : ∀ x ∈ more, x.ok) (hml : more.length ≤ 2513169434843) (ho : ∀ c ∈ out, inR c) (hth : inR th) : Den Sy 9 [sR raw, sR more, .sl 1 (out.map (.int .i64)) .no, .int .i64 th] = some (sN (entriesF raw more out th)) := by
  rw [Den_fun Sy (af := A9) rfl rfl _ rfl]
  have h1 := two_den raw more out hr hm hml ho
  have h2 : Den Sy 22 [] = some (lA wide) := wide_den
  have h3 := pick12_den th 102 hth (by omega)
  have h4 := comp_den (twoF raw more out).1 (twoF raw more out).2 wide (pickF th 102) (treeF_sm _) (treeF_sm _)
  unfold entriesF
  generalize compF (twoF raw more out).1 (twoF raw more out).2 wide (pickF th 102) = E at h4 ⊢
  generalize compFt (twoF raw more out).1 (twoF raw more out).2 wide (pickF th 102) = F at h4 ⊢
  generalize twoF raw more out = T at h1 h4
  obtain ⟨fp, fc⟩ := F
  have lw : lA wide = .agg [.int .i64 16, .int .i64 1000, .int .i64 200] := rfl
  rw [lw] at h2 h4
  simp only [ftA] at h4
  simp [A9, List.getElem?_cons_zero, List.getElem?_cons_succ, -getElem?_pos, h1, h2, h3, h4]
end Go.Proofs.YtdjgdipmjbkilaaGreatDoor.Rx
