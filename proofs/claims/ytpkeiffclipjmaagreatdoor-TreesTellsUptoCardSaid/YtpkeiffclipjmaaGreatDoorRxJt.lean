/-
  TreesTells: the references Read and List, its loops, the whole.
-/
import Derived.Test.YtpkeiffclipjmaaGreatDoorRxJ8
import Derived.Test.YtpkeiffclipjmaaGreatDoorRxX1
namespace Go.Proofs.YtpkeiffclipjmaaGreatDoor.Rx
open Go
set_option linter.unusedSimpArgs false
set_option linter.unusedVariables false
set_option maxRecDepth 100000

theorem pl11 (a : List UInt8) (b : Int) (c : List UInt8) (d : Bool) : place [.str [], .int .i64 0, .str [], .bool false] 0 4 (.agg [.str a, .int .i64 b, .str c, .bool d]) = some [.str a, .int .i64 b, .str c, .bool d] := rfl
theorem dd5 (a : List UInt8) (b : Int) (c : List UInt8) (d : Bool) : deadC [.str a, .int .i64 b, .str c, .bool d] = false := rfl
theorem read24_den (t : List It) (p : List UInt8) (ht : t.length ≤ 1099511627776) : Den Sy 24 [sI t, .str p] = some (.tup [.str (readF t p).1, .int .i64 (readF t p).2]) := by
  have hF := find_den t ht p
  rw [Den_fun Sy (af := A24) rfl rfl _ rfl]
  unfold readF
  cases hf : findF t p with
  | none =>
    rw [hf] at hF
    simp only [fA, iA] at hF
    simp [A24, hF, tgz, pl11, dd5, -place, -deadC]
  | some x =>
    rw [hf] at hF
    simp only [fA, iA] at hF
    by_cases hk : x.kind = 2
    · by_cases hb : x.bad = true
      · simp [A24, hF, tgz, pl11, dd5, hk, hb, -place, -deadC]
      · have hb' : x.bad = false := by simpa using hb
        simp [A24, hF, tgz, pl11, dd5, hk, hb', -place, -deadC]
    · simp [A24, hF, tgz, pl11, dd5, hk, -place, -deadC]
def keepF (d : List UInt8) (t : List It) : List It := t.filter fun x => !outF d x
theorem list26_loop (t : List It) (ht : t.length ≤ 1000000) (hp : ∀ x ∈ t, x.path.length ≤ 1099511627776) (d : List UInt8) (bx : Bx) (R : List It) : ∀ (rest pre : List It) (i : Int) (T : List It) (O : List AV) (q : Perm) (pm : Pm), t = pre ++ rest → i = pre.length → T.length ≤ pre.length → O = T.map iA → R = T ++ keepF d rest → AppOk pm q →
    Res (RunD Sy (.loop L26x0) ⟨ofL [(0, sI t), (1, .str d), (5, .sl 4 O q), (6, .int .i64 i)], bx, pm, none⟩) fun ex st' => ex = .exit 0 ∧ ∃ (q' : Perm) (i' : AV) (pm' : Pm), st' = ⟨ofL [(0, sI t), (1, .str d), (5, .sl 4 (R.map iA) q'), (6, i'), (11, .bool false)], bx, pm', none⟩
  | [], pre, i, T, O, q, pm, h, hi, hT, hO, hR, hq => by
    subst hi hO
    rw [List.append_nil] at h
    subst h
    obtain rfl : R = T := by rw [hR]; simp [keepF]
    refine loop_step fun K hK => ?_
    simp [L26x0]
    exact ⟨_, _, rfl⟩
  | x :: rest, pre, i, T, O, q, pm, h, hi, hT, hO, hR, hq => by
    subst hi hO
    have hlt : (pre.length : Int) < t.length := by rw [h]; simp; omega
    have hg : (t.map iA)[pre.length]? = some (iA x) := by rw [h]; simp
    have hc := chk_i64 ((pre.length : Int) + 1) (by omega)
    have hxl := hp x (by rw [h]; simp)
    have hck := check01_den x.path hxl
    have hdr := dir_den x.path hxl
    have hsz : (T.length + 1) * 48 ≤ 140737488355328 := by omega
    simp only [iA] at hg
    by_cases h1 : check01F x.path = 0
    · rw [h1] at hck
      by_cases h2 : dirF x.path = d
      · have hk : keepF d (x :: rest) = x :: keepF d rest := List.filter_cons_of_pos (by simp [outF, h1, h2])
        rw [hk] at hR
        have hnx := fun O hO q pm => list26_loop t ht hp d bx R rest (pre ++ [x]) ((pre.length : Int) + 1) (T ++ [x]) O q pm (by simp [h]) (by simp) (by simp; omega) hO (by rw [hR]; simp)
        refine loop_step fun K hK => ?_
        rcases hq with rfl | ⟨tt, v, rfl, hpm⟩
        · simp [L26x0, -getElem?_pos, -List.getElem?_map, hlt, hg, hc, hck, hdr, h2, hsz]
          rw [hK]
          exact hnx _ (by simp [iA]) _ _ (AppOk.tok (by simp))
        · simp [L26x0, -getElem?_pos, -List.getElem?_map, hlt, hg, hc, hck, hdr, h2, hsz, hpm]
          rw [hK]
          exact hnx _ (by simp [iA]) _ _ (AppOk.tok (by simp))
      · have hk : keepF d (x :: rest) = keepF d rest := List.filter_cons_of_neg (by simp [outF, h1, h2])
        rw [hk] at hR
        have hnx := list26_loop t ht hp d bx R rest (pre ++ [x]) ((pre.length : Int) + 1) T (T.map iA) q pm (by simp [h]) (by simp) (by simp; omega) rfl hR hq
        refine loop_step fun K hK => ?_
        simp [L26x0, -getElem?_pos, -List.getElem?_map, hlt, hg, hc, hck, hdr, h2]
        rw [hK]
        exact hnx
    · have hk : keepF d (x :: rest) = keepF d rest := List.filter_cons_of_neg (by simp [outF, h1])
      rw [hk] at hR
      have hnx := list26_loop t ht hp d bx R rest (pre ++ [x]) ((pre.length : Int) + 1) T (T.map iA) q pm (by simp [h]) (by simp) (by simp; omega) rfl hR hq
      refine loop_step fun K hK => ?_
      simp [L26x0, -getElem?_pos, -List.getElem?_map, hlt, hg, hc, hck, h1]
      rw [hK]
      exact hnx
theorem list26_den (t : List It) (d : List UInt8) (ht : t.length ≤ 1000000) (hp : ∀ x ∈ t, x.path.length ≤ 1099511627776) : Den Sy 26 [sI t, .str d] = some (sI (listF t d)) := by
  have hl : (keepF d t).length ≤ t.length := List.length_filter_le _ _
  have hS := sort_den (keepF d t) (by omega) (fun x hx => hp x (List.mem_filter.1 hx).1)
  rw [Den_fun Sy (af := A26) rfl rfl _ rfl]
  obtain ⟨ex, st', hL, rfl, q', i', pm', rfl⟩ := list26_loop t ht hp d (ofL []) (keepF d t) t [] 0 [] [] .nil none' rfl rfl (by simp) rfl rfl (AppOk.nil _)
  have e : listF t d = sortF (keepF d t) := rfl
  rw [e]
  generalize keepF d t = u at *
  generalize sortF u = s at *
  simp [A26, hL, hS]
set_option maxRecDepth 100000

theorem pl12 (a b c : Int) : place [.int .i64 0, .int .i64 0, .int .i64 0] 0 3 (.agg [.int .i64 a, .int .i64 b, .int .i64 c]) = some [.int .i64 a, .int .i64 b, .int .i64 c] := rfl
theorem dd6 (a b c : Int) : deadC [.int .i64 a, .int .i64 b, .int .i64 c] = false := rfl
theorem eqvb2 (a : Bool) : eqv none (.bool a) (.bool a) = some true := by cases a <;> rfl
/-- What may be told of: so many items, of so long paths. -/
structure Sml (x : List It) : Prop where
  len : x.length ≤ 1000000
  path : ∀ y ∈ x, y.path.length ≤ 4194304
theorem Sml.bN {x : List It} (h : Sml x) : x.length ≤ bigN := by have : bigN = 1099511627776 := rfl; have := h.len; omega
theorem Sml.bP {x : List It} (h : Sml x) : x.length ≤ bigP := by have : bigP = 1099511627776 := rfl; have := h.len; omega
theorem Sml.bT {x : List It} (h : Sml x) : ∀ y ∈ x, y.path.length ≤ bigT := fun y hy => by have : bigT = 4294967280 := rfl; have := h.path y hy; omega
theorem Sml.b40 {x : List It} (h : Sml x) : ∀ y ∈ x, y.path.length ≤ 1099511627776 := fun y hy => by have := h.path y hy; omega
theorem tells_limits (x : List It) (hx : Sml x) (Ls : List Lim) (hn : Ls.length ≤ 1000) (v4 v5 v9 v13 v14 v62 v63 v64 : AV) (q : Perm) (b9 b14 : Option (Nat × List AV)) (pm : Pm) : ∀ (rest pre : List Lim) (i : Int) (bx : Bx), Ls = pre ++ rest → i = pre.length → bx 9 = b9 → bx 14 = b14 →
    Res (RunD Sy (.loop L3x0) ⟨ofL [(4, v4), (5, v5), (9, v9), (13, v13), (14, v14), (18, sI x), (62, v62), (63, v63), (64, v64), (71, .sl 3 (Ls.map lA) q), (72, .int .i64 Ls.length), (73, .int .i64 i)], bx, pm, none⟩) fun ex st' => ex = .exit 2 ∧ ∃ (bx' : Bx), bx' 9 = b9 ∧ bx' 14 = b14 ∧ st' = ⟨ofL [(4, v4), (5, v5), (9, v9), (13, v13), (14, v14), (18, sI x), (62, v62), (63, v63), (64, v64), (71, .sl 3 (Ls.map lA) q), (72, .int .i64 Ls.length), (73, .int .i64 Ls.length), (74, .bool false)], bx', pm, none⟩
  | [], pre, i, bx, h, hi, h9, h14 => by
    subst hi
    rw [List.append_nil] at h
    subst h
    refine loop_step fun K hK => ?_
    simp [L3x0]
    exact ⟨h9, h14⟩
  | l :: rest, pre, i, bx, h, hi, h9, h14 => by
    subst hi
    have hlt : (pre.length : Int) < Ls.length := by rw [h]; simp; omega
    have hlt2 : pre.length < Ls.length := by omega
    have hg : (Ls.map lA)[pre.length]? = some (lA l) := by rw [h]; simp
    have hc := chk_i64 ((pre.length : Int) + 1) (by omega)
    have c1 := check15_den x l hx.bP hx.bT
    have c2 := check_den x (by have := hx.len; omega) hx.b40 l
    have he := eqv_ft (checkF x l) (checkF x l)
    rw [decide_eq_true rfl] at he
    have hnx := fun bx h9 h14 => tells_limits x hx Ls hn v4 v5 v9 v13 v14 v62 v63 v64 q b9 b14 pm rest (pre ++ [l]) ((pre.length : Int) + 1) bx (by simp [h]) (by simp) h9 h14
    simp only [lA, ftA] at hg c1 c2 he
    refine loop_step fun K hK => ?_
    simp [L3x0, -getElem?_pos, -List.getElem?_map, hlt, hlt2, hg, hc, c1, c2, he, pl12, dd6, -place, -deadC]
    rw [hK]
    exact hnx _ (by simp [h9]) (by simp [h14])
theorem tells_names (x : List It) (hx : Sml x) (Qs : List (List UInt8)) (hn : Qs.length ≤ 1000) (v4 v5 v9 v13 v14 v62 v63 v64 : AV) (q : Perm) (b9 b14 : Option (Nat × List AV)) (pm : Pm) : ∀ (rest pre : List (List UInt8)) (i : Int) (bx : Bx), Qs = pre ++ rest → i = pre.length → bx 9 = b9 → bx 14 = b14 →
    Res (RunD Sy (.loop L3x1) ⟨ofL [(4, v4), (5, v5), (9, v9), (13, v13), (14, v14), (18, sI x), (62, v62), (63, v63), (64, v64), (94, .sl 1 (Qs.map .str) q), (95, .int .i64 Qs.length), (96, .int .i64 i)], bx, pm, none⟩) fun ex st' => ex = .exit 4 ∧ ∃ (bx' : Bx), bx' 9 = b9 ∧ bx' 14 = b14 ∧ st' = ⟨ofL [(4, v4), (5, v5), (9, v9), (13, v13), (14, v14), (18, sI x), (62, v62), (63, v63), (64, v64), (94, .sl 1 (Qs.map .str) q), (95, .int .i64 Qs.length), (96, .int .i64 Qs.length), (97, .bool false)], bx', pm, none⟩
  | [], pre, i, bx, h, hi, h9, h14 => by
    subst hi
    rw [List.append_nil] at h
    subst h
    refine loop_step fun K hK => ?_
    simp [L3x1]
    exact ⟨h9, h14⟩
  | s :: rest, pre, i, bx, h, hi, h9, h14 => by
    subst hi
    have hlt : (pre.length : Int) < Qs.length := by rw [h]; simp; omega
    have hlt2 : pre.length < Qs.length := by omega
    have hg : (Qs.map AV.str)[pre.length]? = some (.str s) := by rw [h]; simp
    have hc := chk_i64 ((pre.length : Int) + 1) (by omega)
    have f1 := find21_den x s hx.bN
    have f2 := find_den x (by have := hx.len; omega) s
    have r1 := read23_den x s hx.bN
    have r2 := read24_den x s (by have := hx.len; omega)
    have l1 := list25_den x s hx.bN hx.bT
    have l2 := list26_den x s hx.len hx.b40
    have sl : (listF x s).length ≤ 1099511627776 := by
      have : (listF x s).length ≤ x.length := by unfold listF; rw [(sortF_perm _).length_eq]; exact List.length_filter_le _ _
      have := hx.len
      omega
    have hsm := same_den (listF x s) (listF x s) sl
    rw [decide_eq_true rfl] at hsm
    have hnx := fun bx h9 h14 => tells_names x hx Qs hn v4 v5 v9 v13 v14 v62 v63 v64 q b9 b14 pm rest (pre ++ [s]) ((pre.length : Int) + 1) bx (by simp [h]) (by simp) h9 h14
    have hf : ∃ (y : It) (b : Bool), fA (findF x s) = .tup [iA y, .bool b] := by
      cases findF x s with
      | none => exact ⟨zI, false, rfl⟩
      | some y => exact ⟨y, true, rfl⟩
    obtain ⟨y, b, hf⟩ := hf
    rw [hf] at f1 f2
    have he := eqv_it y y
    rw [decide_eq_true rfl] at he
    simp only [iA] at f1 f2 he
    clear sl hf
    generalize listF x s = L at *
    generalize readF x s = rd at *
    refine loop_step fun K hK => ?_
    simp [L3x1, -getElem?_pos, -List.getElem?_map, hlt, hlt2, hg, hc, f1, f2, r1, r2, l1, l2, hsm, he, tgz, eqvb2, pl11, dd5, -place, -deadC]
    rw [hK]
    exact hnx _ (by simp [h9]) (by simp [h14])
end Go.Proofs.YtpkeiffclipjmaaGreatDoor.Rx
namespace Go.Proofs.YtpkeiffclipjmaaGreatDoor.Rx
open Go Go.ChangeShapes Go.WideShapes
set_option linter.unusedSimpArgs false
set_option linter.unusedVariables false
set_option maxRecDepth 100000

theorem sort18_t (t : List It) (ht : t.length ≤ sortN) (hp : ∀ x ∈ t, x.path.length ≤ bigT) : Den Sy 18 [sI t] = some (sI (sortF t)) := by
  rw [Den_ext Sy (F := sortEx) rfl]
  simp only [sortEx, itsOf_its]
  rw [if_pos ⟨ht, hp⟩]
theorem tells_trees (Xs : List (List It)) (hX : ∀ x ∈ Xs, Sml x) (hn : Xs.length ≤ 1000) (l m : Lim) (s : List UInt8) (raw : List Int) (hr : ∀ c ∈ raw, inR c) (v13 : AV) (n9 n14 : Nat) (q : Perm) (pm : Pm) : ∀ (rest pre : List (List It)) (i : Int) (bx : Bx), Xs = pre ++ rest → i = pre.length → bx 9 = some (n9, [.int .i64 l.depth, .int .i64 l.size, .int .i64 l.count]) → bx 14 = some (n14, [.int .i64 m.depth, .int .i64 m.size, .int .i64 m.count]) →
    Res (RunD Sy (.loop L3x2) ⟨ofL [(4, .str s), (5, .sl 1 (raw.map (.int .i64)) .no), (9, .ptr 9 n9 0), (13, v13), (14, .ptr 14 n14 0), (62, .sl 1 (Xs.map sI) q), (63, .int .i64 Xs.length), (64, .int .i64 i)], bx, pm, none⟩) fun ex st' => ex = .exit 0 ∧ st'.df = none ∧ st'.env 13 = some v13
  | [], pre, i, bx, h, hi, h9, h14 => by
    subst hi
    rw [List.append_nil] at h
    subst h
    refine loop_step fun K hK => ?_
    simp [L3x2]
  | x :: rest, pre, i, bx, h, hi, h9, h14 => by
    subst hi
    have hx := hX x (by rw [h]; simp)
    have hlt : (pre.length : Int) < Xs.length := by rw [h]; simp; omega
    have hlt2 : pre.length < Xs.length := by omega
    have hg : (Xs.map sI)[pre.length]? = some (sI x) := by rw [h]; simp
    have hc := chk_i64 ((pre.length : Int) + 1) (by omega)
    have hsn : sortN = 1099511627776 := rfl
    have hxl := hx.len
    have s1 := sort18_t x (by omega) hx.bT
    have s2 := sort_den x (by omega) hx.b40
    have hsm := same_den (sortF x) (sortF x) (by rw [(sortF_perm x).length_eq]; omega)
    rw [decide_eq_true rfl] at hsm
    have hp := path_den raw hr
    have hw := wide_den
    have hA := fun bx' h9 h14 => tells_limits x hx [l, m, wide] (by simp) (.str s) (.sl 1 (raw.map (.int .i64)) .no) (.ptr 9 n9 0) v13 (.ptr 14 n14 0) (.sl 1 (Xs.map sI) q) (.int .i64 Xs.length) (.int .i64 pre.length) .clip (some (n9, [.int .i64 l.depth, .int .i64 l.size, .int .i64 l.count])) (some (n14, [.int .i64 m.depth, .int .i64 m.size, .int .i64 m.count])) pm [l, m, wide] [] 0 bx' rfl rfl h9 h14
    obtain ⟨ex1, st1, hA1, rfl, bx1, k9, k14, rfl⟩ := hA bx h9 h14
    have hB := fun bx' h9 h14 => tells_names x hx [s, pathF raw, [], [97]] (by simp) (.str s) (.sl 1 (raw.map (.int .i64)) .no) (.ptr 9 n9 0) v13 (.ptr 14 n14 0) (.sl 1 (Xs.map sI) q) (.int .i64 Xs.length) (.int .i64 pre.length) .clip (some (n9, [.int .i64 l.depth, .int .i64 l.size, .int .i64 l.count])) (some (n14, [.int .i64 m.depth, .int .i64 m.size, .int .i64 m.count])) pm [s, pathF raw, [], [97]] [] 0 bx' rfl rfl h9 h14
    obtain ⟨ex2, st2, hB1, rfl, bx2, m9, m14, rfl⟩ := hB bx1 k9 k14
    have hnx := tells_trees Xs hX hn l m s raw hr v13 n9 n14 q pm rest (pre ++ [x]) ((pre.length : Int) + 1) bx2 (by simp [h]) (by simp) m9 m14
    simp only [List.map_cons, List.map_nil, lA, wide, List.length_cons, List.length_nil] at hA1 hw
    simp only [List.map_cons, List.map_nil, List.length_cons, List.length_nil] at hB1
    have z3 : (((0 + 1 + 1 + 1 : Nat) : Int)) = 3 := rfl
    have z4 : (((0 + 1 + 1 + 1 + 1 : Nat) : Int)) = 4 := rfl
    rw [z3] at hA1
    rw [z4] at hB1
    clear hA hB
    generalize sortF x = X at *
    generalize pathF raw = P at *
    refine loop_step fun K hK => ?_
    simp [L3x2, -getElem?_pos, -List.getElem?_map, hlt, hlt2, hg, hc, h9, h14, hw, dd6, hA1, s1, s2, hsm, hp, hB1, -place, -deadC]
    rw [hK]
    exact hnx
end Go.Proofs.YtpkeiffclipjmaaGreatDoor.Rx
namespace Go.Proofs.YtpkeiffclipjmaaGreatDoor.Rx
open Go Go.RowKit Go.ChangeShapes Go.WideShapes
set_option linter.unusedSimpArgs false
set_option linter.unusedVariables false
set_option maxRecDepth 100000

/-! ### How items read -/
def tItem : RT := .st [.str, .int .i64, .str, .bool]
theorem ty_item (x : AV) (h : Ty tItem x.cells) (hg : x.isAgg = tItem.isSt) : ∃ e : It, x = iA e ∧ e.path.length ≤ maxLen := by
  cases x with
  | agg cs =>
    simp only [AV.cells, tItem, Ty, TyL] at h
    obtain ⟨_, _, rfl, ⟨p, rfl, hp⟩, _, _, rfl, ⟨k, rfl, hk⟩, _, _, rfl, ⟨d, rfl, hd⟩, _, _, rfl, ⟨b, rfl⟩, rfl⟩ := h
    exact ⟨⟨p, k, d, b⟩, rfl, hp⟩
  | _ => simp [AV.isAgg, tItem, RT.isSt] at hg
theorem ty_items {a : AV} (h : Ty (.sl tItem) a.cells) (hg : a.isAgg = false) : ∃ l : List It, a = sI l ∧ l.length ≤ maxLen ∧ ∀ e ∈ l, e.path.length ≤ maxLen := ty_slice iA (fun e => e.path.length ≤ maxLen) ty_item h hg
theorem bulk_items {l : List It} (h : blk (sI l) ≤ 1048576) : l.length ≤ 1000000000 ∧ ∀ x ∈ l, x.path.length ≤ 1048576 := by
  simp only [sI, blk] at h
  have h1 := blkL_len (l.map iA)
  rw [List.length_map] at h1
  refine ⟨by omega, fun x hx => ?_⟩
  have h2 := blkL_mem (List.mem_map_of_mem (f := iA) hx)
  simp only [iA, blk, blkL] at h2
  omega
theorem bulk_raws {l : List Raw} (h : blk (sR l) ≤ 1048576) (hw : ∀ x ∈ l, x.well) : ∀ x ∈ l, x.ok := fun x hx => (hw x hx).ok (by
  simp only [sR, blk] at h
  have h2 := blkL_mem (List.mem_map_of_mem (f := rA) hx)
  simp only [rA, blk, blkL] at h2
  unfold Raw.fit
  omega)
theorem pq1 (a b c d : Int) : place [.int .i64 a, .int .i64 b, .int .i64 c] 0 1 (.int .i64 d) = some [.int .i64 d, .int .i64 b, .int .i64 c] := rfl
theorem pq2 (a b c d : Int) : place [.int .i64 a, .int .i64 b, .int .i64 c] 1 1 (.int .i64 d) = some [.int .i64 a, .int .i64 d, .int .i64 c] := rfl
theorem pq3 (a b c d : Int) : place [.int .i64 a, .int .i64 b, .int .i64 c] 2 1 (.int .i64 d) = some [.int .i64 a, .int .i64 b, .int .i64 d] := rfl
theorem tells_law (wild : List It) (one two' : List Raw) (l : Lim) (p : List UInt8) (raw : List Int) (hw : ∀ x ∈ wild, x.path.length ≤ 1048576) (hwl : wild.length ≤ 1000000000) (h1 : ∀ x ∈ one, x.ok) (h2 : ∀ x ∈ two', x.ok) (hl : inR l.depth ∧ inR l.size ∧ inR l.count) (hr : ∀ c ∈ raw, inR c) :
    Den Sy 3 [sI wild, sR one, sR two', lA l, .str p, .sl 1 (raw.map (.int .i64)) .no] = some (.bool true) := by
  have hA := any_den one h1
  have hT := tree_den two' h2
  have na := anyF_len one
  have nt := treeF_len two'
  have pa := anyF_path one
  have pt := treeF_path two'
  generalize anyF one = a at hA na pa
  generalize treeF two' = t at hT nt pt
  have p1 := pick02_den l.depth 6 hl.1 (by omega)
  have p2 := pick02_den l.size 10 hl.2.1 (by omega)
  have p3 := pick02_den l.count 14 hl.2.2 (by omega)
  have q3 := pickF_lt l.count (n := 14) (by omega)
  generalize pickF l.depth 6 = d1 at p1
  generalize pickF l.size 10 = d2 at p2
  generalize pickF l.count 14 = d3 at p3 q3
  have c3 := chk_i64 (3 + d3) (by omega)
  obtain ⟨k, hk, hk2, hk3⟩ : ∃ k : Nat, (if (10 : Int) < wild.length then (10 : Int) else wild.length) = k ∧ k ≤ 10 ∧ k ≤ wild.length := by
    by_cases h : (10 : Int) < wild.length
    · exact ⟨10, by rw [if_pos h]; rfl, by omega, by omega⟩
    · exact ⟨wild.length, by rw [if_neg h], by omega, by omega⟩
  have hk4 : (k : Int) ≤ wild.length := by omega
  have hsW : Sml (wild.take k) := ⟨by simp; omega, fun y hy => by have := hw y (List.mem_of_mem_take hy); omega⟩
  have hsA : Sml a := ⟨by omega, fun y hy => by have := pa y hy; omega⟩
  have hsM : Sml (a ++ wild.take k) := ⟨by simp; omega, fun y hy => (List.mem_append.1 hy).elim (fun h => hsA.path y h) (fun h => hsW.path y h)⟩
  have hsT : Sml t := ⟨by omega, fun y hy => by have := pt y hy; omega⟩
  have hX : ∀ x ∈ [wild.take k, a, a ++ wild.take k, t], Sml x := fun x hx => by
    simp only [List.mem_cons, List.not_mem_nil, or_false] at hx
    rcases hx with rfl | rfl | rfl | rfl <;> assumption
  have s1 : a.length * 48 ≤ 140737488355328 := by omega
  have s2 : (a.length + k) * 48 ≤ 140737488355328 := by omega
  have s3 : min k wild.length = k := by omega
  have hL : ∀ n9 n14 bx pm, bx 9 = some (n9, [.int .i64 l.depth, .int .i64 l.size, .int .i64 l.count]) → bx 14 = some (n14, [.int .i64 d1, .int .i64 d2, .int .i64 (3 + d3)]) →
      Res (RunD Sy (.loop L3x2) ⟨ofL [(4, .str p), (5, .sl 1 (raw.map (.int .i64)) .no), (9, .ptr 9 n9 0), (13, .bool true), (14, .ptr 14 n14 0), (62, .sl 1 [.sl 4 ((wild.map iA).take k) .no, .sl 4 (a.map iA) .no, .sl 4 (a.map iA ++ (wild.map iA).take k) .no, .sl 4 (t.map iA) .no] .clip), (63, .int .i64 4), (64, .int .i64 0)], bx, pm, none⟩) fun ex st' => ex = .exit 0 ∧ st'.df = none ∧ st'.env 13 = some (.bool true) := fun n9 n14 bx pm h9 h14 => by
    have := tells_trees [wild.take k, a, a ++ wild.take k, t] hX (by simp) l ⟨d1, d2, 3 + d3⟩ p raw hr (.bool true) n9 n14 .clip pm [wild.take k, a, a ++ wild.take k, t] [] 0 bx rfl rfl h9 h14
    simp only [List.map_cons, List.map_nil, sI, List.map_append, List.map_take] at this
    exact this
  obtain ⟨bx, hbx⟩ : ∃ bx : Bx, bx = upd (upd (upd (ofL []) 9 (nextB (ofL []) 9, [.int .i64 l.depth, .int .i64 l.size, .int .i64 l.count])) 14 (nextB (upd (ofL []) 9 (nextB (ofL []) 9, [.int .i64 l.depth, .int .i64 l.size, .int .i64 l.count])) 14, [.int .i64 0, .int .i64 0, .int .i64 0])) 14
      (nextB (upd (ofL []) 9 (nextB (ofL []) 9, [.int .i64 l.depth, .int .i64 l.size, .int .i64 l.count])) 14, [.int .i64 d1, .int .i64 d2, .int .i64 (3 + d3)]) := ⟨_, rfl⟩
  obtain ⟨pm, hpm⟩ : ∃ pm : Pm, pm = upd (upd (upd none' 46 (nextP none' 46, true)) 46 (nextP none' 46, false)) 52 (nextP (upd none' 46 (nextP none' 46, true)) 52, true) := ⟨_, rfl⟩
  obtain ⟨ex, st', hR, rfl, hdf, h13⟩ := hL (nextB (ofL []) 9) (nextB (upd (ofL []) 9 (nextB (ofL []) 9, [.int .i64 l.depth, .int .i64 l.size, .int .i64 l.count])) 14) bx pm (by rw [hbx]; rfl) (by rw [hbx]; rfl)
  rw [hbx, hpm] at hR
  clear hL hbx hpm
  rw [Den_fun Sy (af := A3) rfl rfl _ rfl]
  simp only [lA]
  simp [A3, awake_den, hA, hT, p1, p2, p3, c3, hk, hk2, hk3, hk4, s1, s2, s3, pq1, pq2, pq3, pl12, dd6, hR, hdf, h13, -place, -deadC]
theorem tells02_law_den (wild : List It) (one two' : List Raw) (l : Lim) (p : List UInt8) (raw : List Int) (bw : blk (sI wild) ≤ 1048576) (h1 : ∀ x ∈ one, x.well) (b1 : blk (sR one) ≤ 1048576) (h2 : ∀ x ∈ two', x.well) (b2 : blk (sR two') ≤ 1048576) (hl : inR l.depth ∧ inR l.size ∧ inR l.count) (hr : ∀ c ∈ raw, -9223372036854775808 ≤ c ∧ c ≤ 9223372036854775807) :
    Den Sy 3 [sI wild, sR one, sR two', lA l, .str p, .sl 1 (raw.map (.int .i64)) .no] = some (.bool true) :=
  tells_law wild one two' l p raw (bulk_items bw).2 (bulk_items bw).1 (bulk_raws b1 h1) (bulk_raws b2 h2) hl hr
end Go.Proofs.YtpkeiffclipjmaaGreatDoor.Rx
