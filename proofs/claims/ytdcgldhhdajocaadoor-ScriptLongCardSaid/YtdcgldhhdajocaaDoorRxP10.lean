/-
  The script's laws, plain, 10: a script's bytes.
-/
import Derived.Test.YtdcgldhhdajocaaDoorRxP9
namespace Go.Proofs.YtdcgldhhdajocaaDoor.Rx
open Go
set_option linter.unusedSimpArgs false
set_option linter.unusedVariables false
attribute [simp] wrsK wrsB selfP bstrK bstrB

def sgn (op : Int) : List UInt8 := if op = 1 then [61] else if op = 2 then [45] else [43]
def encLine (l : List UInt8) : List UInt8 := Lib.itoa l.length ++ [58] ++ l
def encLs (ls : List (List UInt8)) : List UInt8 := ls.flatMap encLine
def encHead (e : Edit) : List UInt8 := sgn e.op ++ Lib.itoa e.n ++ [59]
def encE (e : Edit) : List UInt8 := encHead e ++ encLs e.ls
def encL (s : List Edit) : List UInt8 := s.flatMap encE
theorem byteC_len (l : List UInt8) : (byteC l).length = l.length := by simp [byteC]
theorem byteC_app (a b : List UInt8) : byteC a ++ byteC b = byteC (a ++ b) := by simp [byteC]
theorem byteC_dead (l : List UInt8) : deadC (byteC l) = false := by
  cases l with
  | nil => rfl
  | cons c l => cases l <;> rfl
theorem byteC_dead2 (a b : List UInt8) : deadC (byteC a ++ byteC b) = false := by rw [byteC_app]; exact byteC_dead _
theorem asBytes_byteC (l : List UInt8) : asBytes (byteC l) = some l := by
  induction l with
  | nil => rfl
  | cons c l ih =>
    have h : c.toNat < 256 := c.toNat_lt
    simp only [byteC, List.map_cons, asBytes] at ih ⊢
    rw [if_pos (by omega), ih]
    simp
/-- What a builder has. -/
structure Bd (bx : Bx) (v t r : Nat) (l : List UInt8) : Prop where
  b4 : bx 4 = some (v, [.ptr 4 v 0, .own 1 false t r l.length])
  bt : bx t = some (r, byteC l)
  h : 200000 ≤ t
theorem wr_den (bs : List UInt8) : Den Sy 33 [.str bs] = some (.wr 59 bs) := by rw [Den_ext Sy (F := wrF) rfl]; rfl
theorem str_den : Den Sy 35 [] = some (.wr 59 []) := by rw [Den_ext Sy (F := strF) rfl]; rfl
theorem itoa_len (n : Int) (h : inR n) : (Lib.itoa n).length ≤ 21 := Lib.itoa_length_le n h.1 h.2
def EnvT (v : Nat) (a12 a13 a14 : AV) (ls : List (List UInt8)) (j : Int) : Env := ofL [(4, .ptr 4 v 0), (12, a12), (13, a13), (14, a14), (31, sS ls), (32, .int .i64 ls.length), (33, .int .i64 j)]
def EncLR (v t : Nat) (a12 a13 a14 : AV) (ls : List (List UInt8)) (l : List UInt8) (pm : Pm) (ex : Ex) (st' : St) (rest : List (List UInt8)) : Prop :=
  ex = .exit 2 ∧ ∃ bx' r', st' = ⟨ofL [(4, .ptr 4 v 0), (12, a12), (13, a13), (14, a14), (31, sS ls), (32, .int .i64 ls.length), (33, .int .i64 ls.length), (34, .bool false)], bx', pm, none⟩ ∧ Bd bx' v t r' (l ++ encLs rest)
theorem EncLR.step {v t : Nat} {a12 a13 a14 : AV} {ls : List (List UInt8)} {l : List UInt8} {pm : Pm} {ex : Ex} {st' : St} {x : List UInt8} {rest : List (List UInt8)} (h : EncLR v t a12 a13 a14 ls (l ++ encLine x) pm ex st' rest) : EncLR v t a12 a13 a14 ls l pm ex st' (x :: rest) := by
  obtain ⟨h1, bx', r', h2, h3⟩ := h
  refine ⟨h1, bx', r', h2, ?_⟩
  have e : l ++ encLs (x :: rest) = l ++ encLine x ++ encLs rest := by simp [encLs]
  rw [e]
  exact h3
set_option maxHeartbeats 1000000 in
theorem enc_lines (a13 a14 : AV) (a12 : AV) (v t : Nat) (ls : List (List UInt8)) (hls : ls.length ≤ 1048576) : ∀ (rest pre : List (List UInt8)) (j : Int) (r : Nat) (l : List UInt8) (bx : Bx) (pm : Pm), ls = pre ++ rest → j = pre.length → Bd bx v t r l → l.length + (encLs rest).length ≤ 1099511627776 →
    Res (RunD Sy (.loop L14x0) ⟨ofL [(4, .ptr 4 v 0), (12, a12), (13, a13), (14, a14), (31, sS ls), (32, .int .i64 ls.length), (33, .int .i64 j)], bx, pm, none⟩) fun ex st' => EncLR v t a12 a13 a14 ls l pm ex st' rest
  | [], pre, j, r, l, bx, pm, hs, hj, hB, hl => by
    subst hj
    rw [List.append_nil] at hs
    subst hs
    rw [RunD_loop]
    simp [L14x0]
    exact ⟨rfl, bx, r, rfl, by simpa [encLs] using hB⟩
  | x :: rest, pre, j, r, l, bx, pm, hs, hj, hB, hl => by
    have hlt : (pre.length : Int) < ls.length := by rw [hs]; simp; omega
    have hg : (ls.map AV.str)[pre.length]? = some (.str x) := by rw [hs]; simp
    subst hj
    have hc := chk_i64 ((pre.length : Int) + 1) (by omega)
    have hel : (encLs (x :: rest)).length = (Lib.itoa x.length).length + 1 + x.length + (encLs rest).length := by simp [encLs, encLine]; omega
    rw [hel] at hl
    have hxr : inR (x.length : Int) := ⟨by omega, by omega⟩
    have hit := itoa_den x.length hxr
    have h1 : (Lib.itoa x.length).length + 1 ≤ 9223372036854775807 := by omega
    have h2 : (Lib.itoa x.length).length + 1 + x.length ≤ 9223372036854775807 := by omega
    have h2' : (Lib.itoa x.length).length + (x.length + 1) ≤ 9223372036854775807 := by omega
    have h3 : l.length + ((Lib.itoa x.length).length + (x.length + 1)) ≤ 140737488355328 := by omega
    obtain ⟨b4, bt, h200⟩ := hB
    have h4t : ¬ 4 = t := by omega
    have ht4 : ¬ t = 4 := by omega
    have hll : (encLine x).length = (Lib.itoa x.length).length + 1 + x.length := by simp [encLine]; omega
    refine loop_step fun K hK => ?_
    simp [L14x0, -deadC, byteC_dead, byteC_dead2, byteC_len, deadC_cells, asBytes_byteC, -getElem?_pos, -List.getElem?_map, hc, hlt, hg, hit, wr_den, b4, bt, h200, eq_false h4t, eq_false ht4, h1, h2, h2', h3]
    rw [hK]
    refine Res.eqv (fun ex st h => EncLR.step h) (enc_lines a13 a14 a12 v t ls hls rest (pre ++ [x]) _ (r + 1) (l ++ encLine x) _ _ ?_ ?_ ⟨?_, ?_, h200⟩ ?_)
    · simp [hs]
    · simp
    · simp [encLine]
    · simp [encLine, byteC_app, eq_false h4t, eq_false ht4]
    · rw [List.length_append, hll]; omega
def BS (bx : Bx) (v : Nat) (l : List UInt8) : Prop := (l = [] ∧ bx 4 = some (v, [.bfresh 59 4 v, .sl 1 [] .nil])) ∨ ∃ t r, Bd bx v t r l
def EncR (v : Nat) (l : List UInt8) (ex : Ex) (st' : St) (rest : List Edit) : Prop := ex = .exit 0 ∧ st'.df = none ∧ st'.env 4 = some (.ptr 4 v 0) ∧ BS st'.bx v (l ++ encL rest)
theorem EncR.step {v : Nat} {l : List UInt8} {ex : Ex} {st' : St} {x : Edit} {rest : List Edit} (h : EncR v (l ++ encE x) ex st' rest) : EncR v l ex st' (x :: rest) := by
  obtain ⟨h1, h2, h3, h4⟩ := h
  refine ⟨h1, h2, h3, ?_⟩
  have e : l ++ encL (x :: rest) = l ++ encE x ++ encL rest := by simp [encL]
  rw [e]
  exact h4
abbrev bxE (bx : Bx) (op n : Int) (ls : List (List UInt8)) : Bx := upd (upd bx 6 (nextB bx 6, [AV.int IntKind.i64 0, AV.int IntKind.i64 0, AV.sl 1 [] Perm.nil])) 6 (nextB bx 6, [AV.int IntKind.i64 op, AV.int IntKind.i64 n, AV.sl 1 (List.map AV.str ls) Perm.no])
set_option maxHeartbeats 2000000 in
theorem enc_loop (v : Nat) (s : List Edit) (hl : s.length ≤ 1099511627776) (hm : ∀ e ∈ s, mayB e = true) : ∀ (rest pre : List Edit) (j : Int) (l : List UInt8) (bx : Bx) (pm : Pm), s = pre ++ rest → j = pre.length → BS bx v l → l.length + (encL rest).length ≤ 1099511627776 →
    Res (RunD Sy (.loop L14x1) ⟨ofL [(4, .ptr 4 v 0), (12, sE s), (13, .int .i64 s.length), (14, .int .i64 j)], bx, pm, none⟩) fun ex st' => EncR v l ex st' rest
  | [], pre, j, l, bx, pm, hs, hj, hB, hll => by
    subst hj
    rw [List.append_nil] at hs
    subst hs
    rw [RunD_loop]
    simp [L14x1]
    exact ⟨rfl, rfl, by simp, by simpa [encL] using hB⟩
  | e :: rest, pre, j, l, bx, pm, hs, hj, hB, hll => by
    have hlt : (pre.length : Int) < s.length := by rw [hs]; simp; omega
    have hg : (s.map eE)[pre.length]? = some (eE e) := by rw [hs]; simp
    subst hj
    have hme := hm e (by rw [hs]; simp)
    obtain ⟨op, n, ls⟩ := e
    obtain ⟨hop, hn1, hn2, hn3, hn4⟩ := mayB_op hme
    simp only at hop hn1 hn2 hn3 hn4
    have hlsl : ls.length ≤ 1048576 := by
      by_cases h3 : op = 3
      · have := hn3 h3; omega
      · rw [hn4 h3]; simp
    simp only [eE] at hg
    have hc := chk_i64 ((pre.length : Int) + 1) (by omega)
    have hel : (encL (⟨op, n, ls⟩ :: rest)).length = (encHead ⟨op, n, ls⟩).length + (encLs ls).length + (encL rest).length := by simp only [encL, encE, List.flatMap_cons, List.length_append]
    rw [hel] at hll
    have hsl : (sgn op).length = 1 := by unfold sgn; split <;> (try split) <;> rfl
    have hhl : (encHead ⟨op, n, ls⟩).length = 1 + (Lib.itoa n).length + 1 := by simp [encHead, hsl]; omega
    rw [hhl] at hll
    have hit := itoa_den n ⟨by omega, by omega⟩
    have h1 : 1 + (Lib.itoa n).length ≤ 9223372036854775807 := by omega
    have h1' : (Lib.itoa n).length + 1 ≤ 9223372036854775807 := by omega
    have h2 : 1 + (Lib.itoa n).length + 1 ≤ 9223372036854775807 := by omega
    have h2' : (Lib.itoa n).length + 1 + 1 ≤ 9223372036854775807 := by omega
    have h3 : (Lib.itoa n).length + 1 + 1 ≤ 140737488355328 := by omega
    have h4 : l.length + ((Lib.itoa n).length + 1 + 1) ≤ 140737488355328 := by omega
    have k2 : chk .i64 2 = some (.int .i64 2) := rfl
    have k3 : chk .i64 3 = some (.int .i64 3) := rfl
    have k4 : chk .i64 4 = some (.int .i64 4) := rfl
    refine loop_step fun K hK => ?_
    rcases hB with ⟨rfl, b4⟩ | ⟨t, r, b4, bt, h200⟩
    · rcases hop with rfl | rfl | rfl
      · simp [L14x1, -deadC, byteC_dead, byteC_dead2, byteC_len, deadC_cells, asBytes_byteC, -getElem?_pos, -List.getElem?_map, hc, hlt, hg, hit, wr_den, b4, h1, h1', h2, h2', h3, k2, k3, k4]
        obtain ⟨ex, st', hL, rfl, bx', r', rfl, hB'⟩ := enc_lines (.int .i64 s.length) (.int .i64 pre.length) (sE s) v 200029 ls hlsl ls [] 0 (nextB (bxE bx 1 n ls) 200029) (61 :: (Lib.itoa n ++ [59])) (upd (upd (bxE bx 1 n ls) 200029 (nextB (bxE bx 1 n ls) 200029, byteC (61 :: (Lib.itoa n ++ [59])))) 4 (v, [.ptr 4 v 0, .own 1 false 200029 (nextB (bxE bx 1 n ls) 200029) ((Lib.itoa n).length + 1 + 1)])) pm rfl rfl ⟨by simp, by simp, by omega⟩ (by simp; simp at hll; omega)
        simp [hL, hc]
        rw [hK]
        refine Res.eqv (fun ex st h => EncR.step h) (enc_loop v s hl hm rest (pre ++ [⟨1, n, ls⟩]) _ _ _ _ ?_ ?_ (.inr ⟨200029, r', ?_⟩) ?_)
        · simp [hs]
        · simp
        · have e : [] ++ encE ⟨1, n, ls⟩ = 61 :: (Lib.itoa n ++ [59]) ++ encLs ls := by simp [encE, encHead, sgn]
          rw [e]
          exact hB'
        · simp only [encE, List.length_append, hhl]; omega
      · simp [L14x1, -deadC, byteC_dead, byteC_dead2, byteC_len, deadC_cells, asBytes_byteC, -getElem?_pos, -List.getElem?_map, hc, hlt, hg, hit, wr_den, b4, h1, h1', h2, h2', h3, k2, k3, k4]
        obtain ⟨ex, st', hL, rfl, bx', r', rfl, hB'⟩ := enc_lines (.int .i64 s.length) (.int .i64 pre.length) (sE s) v 200029 ls hlsl ls [] 0 (nextB (bxE bx 2 n ls) 200029) (45 :: (Lib.itoa n ++ [59])) (upd (upd (bxE bx 2 n ls) 200029 (nextB (bxE bx 2 n ls) 200029, byteC (45 :: (Lib.itoa n ++ [59])))) 4 (v, [.ptr 4 v 0, .own 1 false 200029 (nextB (bxE bx 2 n ls) 200029) ((Lib.itoa n).length + 1 + 1)])) pm rfl rfl ⟨by simp, by simp, by omega⟩ (by simp; simp at hll; omega)
        simp [hL, hc]
        rw [hK]
        refine Res.eqv (fun ex st h => EncR.step h) (enc_loop v s hl hm rest (pre ++ [⟨2, n, ls⟩]) _ _ _ _ ?_ ?_ (.inr ⟨200029, r', ?_⟩) ?_)
        · simp [hs]
        · simp
        · have e : [] ++ encE ⟨2, n, ls⟩ = 45 :: (Lib.itoa n ++ [59]) ++ encLs ls := by simp [encE, encHead, sgn]
          rw [e]
          exact hB'
        · simp only [encE, List.length_append, hhl]; omega
      · simp [L14x1, -deadC, byteC_dead, byteC_dead2, byteC_len, deadC_cells, asBytes_byteC, -getElem?_pos, -List.getElem?_map, hc, hlt, hg, hit, wr_den, b4, h1, h1', h2, h2', h3, k2, k3, k4]
        obtain ⟨ex, st', hL, rfl, bx', r', rfl, hB'⟩ := enc_lines (.int .i64 s.length) (.int .i64 pre.length) (sE s) v 200029 ls hlsl ls [] 0 (nextB (bxE bx 3 n ls) 200029) (43 :: (Lib.itoa n ++ [59])) (upd (upd (bxE bx 3 n ls) 200029 (nextB (bxE bx 3 n ls) 200029, byteC (43 :: (Lib.itoa n ++ [59])))) 4 (v, [.ptr 4 v 0, .own 1 false 200029 (nextB (bxE bx 3 n ls) 200029) ((Lib.itoa n).length + 1 + 1)])) pm rfl rfl ⟨by simp, by simp, by omega⟩ (by simp; simp at hll; omega)
        simp [hL, hc]
        rw [hK]
        refine Res.eqv (fun ex st h => EncR.step h) (enc_loop v s hl hm rest (pre ++ [⟨3, n, ls⟩]) _ _ _ _ ?_ ?_ (.inr ⟨200029, r', ?_⟩) ?_)
        · simp [hs]
        · simp
        · have e : [] ++ encE ⟨3, n, ls⟩ = 43 :: (Lib.itoa n ++ [59]) ++ encLs ls := by simp [encE, encHead, sgn]
          rw [e]
          exact hB'
        · simp only [encE, List.length_append, hhl]; omega
    · have h4t : ¬ 4 = t := by omega
      have ht4 : ¬ t = 4 := by omega
      have h6t : ¬ 6 = t := by omega
      have ht6 : ¬ t = 6 := by omega
      rcases hop with rfl | rfl | rfl
      · simp [L14x1, -deadC, byteC_dead, byteC_dead2, byteC_len, deadC_cells, asBytes_byteC, -getElem?_pos, -List.getElem?_map, hc, hlt, hg, hit, wr_den, b4, bt, h200, eq_false h4t, eq_false ht4, eq_false h6t, eq_false ht6, h1, h1', h2, h2', h3, h4, k2, k3, k4]
        obtain ⟨ex, st', hL, rfl, bx', r', rfl, hB'⟩ := enc_lines (.int .i64 s.length) (.int .i64 pre.length) (sE s) v t ls hlsl ls [] 0 (r + 1) (l ++ (61 :: (Lib.itoa n ++ [59]))) (upd (upd (bxE bx 1 n ls) t (r + 1, byteC l ++ byteC (61 :: (Lib.itoa n ++ [59])))) 4 (v, [.ptr 4 v 0, .own 1 false t (r + 1) (l.length + ((Lib.itoa n).length + 1 + 1))])) pm rfl rfl ⟨by simp, by simp [byteC_app, eq_false h4t, eq_false ht4], h200⟩ (by simp; omega)
        simp [hL, hc]
        rw [hK]
        refine Res.eqv (fun ex st h => EncR.step h) (enc_loop v s hl hm rest (pre ++ [⟨1, n, ls⟩]) _ _ _ _ ?_ ?_ (.inr ⟨t, r', ?_⟩) ?_)
        · simp [hs]
        · simp
        · have e : l ++ encE ⟨1, n, ls⟩ = l ++ (61 :: (Lib.itoa n ++ [59])) ++ encLs ls := by simp [encE, encHead, sgn]
          rw [e]
          exact hB'
        · simp only [encE, List.length_append, hhl]; omega
      · simp [L14x1, -deadC, byteC_dead, byteC_dead2, byteC_len, deadC_cells, asBytes_byteC, -getElem?_pos, -List.getElem?_map, hc, hlt, hg, hit, wr_den, b4, bt, h200, eq_false h4t, eq_false ht4, eq_false h6t, eq_false ht6, h1, h1', h2, h2', h3, h4, k2, k3, k4]
        obtain ⟨ex, st', hL, rfl, bx', r', rfl, hB'⟩ := enc_lines (.int .i64 s.length) (.int .i64 pre.length) (sE s) v t ls hlsl ls [] 0 (r + 1) (l ++ (45 :: (Lib.itoa n ++ [59]))) (upd (upd (bxE bx 2 n ls) t (r + 1, byteC l ++ byteC (45 :: (Lib.itoa n ++ [59])))) 4 (v, [.ptr 4 v 0, .own 1 false t (r + 1) (l.length + ((Lib.itoa n).length + 1 + 1))])) pm rfl rfl ⟨by simp, by simp [byteC_app, eq_false h4t, eq_false ht4], h200⟩ (by simp; omega)
        simp [hL, hc]
        rw [hK]
        refine Res.eqv (fun ex st h => EncR.step h) (enc_loop v s hl hm rest (pre ++ [⟨2, n, ls⟩]) _ _ _ _ ?_ ?_ (.inr ⟨t, r', ?_⟩) ?_)
        · simp [hs]
        · simp
        · have e : l ++ encE ⟨2, n, ls⟩ = l ++ (45 :: (Lib.itoa n ++ [59])) ++ encLs ls := by simp [encE, encHead, sgn]
          rw [e]
          exact hB'
        · simp only [encE, List.length_append, hhl]; omega
      · simp [L14x1, -deadC, byteC_dead, byteC_dead2, byteC_len, deadC_cells, asBytes_byteC, -getElem?_pos, -List.getElem?_map, hc, hlt, hg, hit, wr_den, b4, bt, h200, eq_false h4t, eq_false ht4, eq_false h6t, eq_false ht6, h1, h1', h2, h2', h3, h4, k2, k3, k4]
        obtain ⟨ex, st', hL, rfl, bx', r', rfl, hB'⟩ := enc_lines (.int .i64 s.length) (.int .i64 pre.length) (sE s) v t ls hlsl ls [] 0 (r + 1) (l ++ (43 :: (Lib.itoa n ++ [59]))) (upd (upd (bxE bx 3 n ls) t (r + 1, byteC l ++ byteC (43 :: (Lib.itoa n ++ [59])))) 4 (v, [.ptr 4 v 0, .own 1 false t (r + 1) (l.length + ((Lib.itoa n).length + 1 + 1))])) pm rfl rfl ⟨by simp, by simp [byteC_app, eq_false h4t, eq_false ht4], h200⟩ (by simp; omega)
        simp [hL, hc]
        rw [hK]
        refine Res.eqv (fun ex st h => EncR.step h) (enc_loop v s hl hm rest (pre ++ [⟨3, n, ls⟩]) _ _ _ _ ?_ ?_ (.inr ⟨t, r', ?_⟩) ?_)
        · simp [hs]
        · simp
        · have e : l ++ encE ⟨3, n, ls⟩ = l ++ (43 :: (Lib.itoa n ++ [59])) ++ encLs ls := by simp [encE, encHead, sgn]
          rw [e]
          exact hB'
        · simp only [encE, List.length_append, hhl]; omega
theorem encode_den (s : List Edit) (hl : s.length ≤ 1099511627776) (hb : (encL s).length ≤ 1099511627776) : Den Sy 14 [sE s] = some (if rightB s = true then .tup [.str (encL s), .int .i64 0] else .tup [.str [], .int .i64 1]) := by
  rw [Den_fun Sy (af := A14) rfl rfl _ rfl]
  have hrd := right_den s (by omega)
  by_cases hr : rightB s = true
  · obtain ⟨ex, st', hL, rfl, hdf, h4, hB⟩ := enc_loop (nextB (ofL []) 4) s hl (rightF_may hr) s [] 0 [] (upd (ofL []) 4 (nextB (ofL []) 4, [.bfresh 59 4 (nextB (ofL []) 4), .sl 1 [] .nil])) none' rfl rfl (.inl ⟨rfl, by simp⟩) (by simpa using hb)
    rw [List.nil_append] at hB
    rcases hB with ⟨h0, b4⟩ | ⟨t, r, b4, bt, h200⟩
    · simp [A14, hrd, hr, hL, hdf, h4, b4, str_den, h0]
    · have h4t : ¬ 4 = t := by omega
      have hb' : (encL s).length ≤ 140737488355328 := by omega
      simp [A14, -deadC, deadC_cells, byteC_dead, byteC_len, asBytes_byteC, hrd, hr, hL, hdf, h4, b4, bt, h200, eq_false h4t, str_den, hb']
  · simp [A14, hrd, hr]
end Go.Proofs.YtdcgldhhdajocaaDoor.Rx
