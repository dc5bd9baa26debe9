/-
  The script's laws, plain, 7: a script back.
-/
import Derived.Test.YtdcgldhhdajocaaDoorRxP6
namespace Go.Proofs.YtdcgldhhdajocaaDoor.Rx
open Go
set_option linter.unusedSimpArgs false
set_option linter.unusedVariables false
attribute [simp] insN

def cellsE (oe : List Edit) : List AV := (oe.map eE).flatMap AV.cells
theorem cellsE_app (a b : List Edit) : cellsE (a ++ b) = cellsE a ++ cellsE b := by simp [cellsE]
theorem cellsE_one (x : Edit) : cellsE [x] = [.int .i64 x.op, .int .i64 x.n, .sl 1 (x.ls.map .str) .no] := by simp [cellsE, eE]
theorem cellsE_cons (x : Edit) (l : List Edit) : cellsE (x :: l) = [.int .i64 x.op, .int .i64 x.n, .sl 1 (x.ls.map .str) .no] ++ cellsE l := by simp [cellsE, eE]
theorem cellsE_len : ∀ oe : List Edit, (cellsE oe).length = oe.length * 3
  | [] => rfl
  | x :: l => by rw [cellsE_cons, List.length_append, cellsE_len l]; simp; omega
theorem deadC_cells (x y : AV) (l : List AV) : deadC (x :: y :: l) = false := by simp [deadC]
theorem cellsE_dead : ∀ oe : List Edit, deadC (cellsE oe) = false
  | [] => rfl
  | x :: l => by rw [cellsE_cons]; exact deadC_cells _ _ _
theorem cellsE_dead2 (oe : List Edit) (x y z : AV) : deadC (cellsE oe ++ [x, y, z]) = false := by
  cases oe with
  | nil => exact deadC_cells _ _ _
  | cons a l => rw [cellsE_cons]; exact deadC_cells _ _ _
theorem chunksE : ∀ oe : List Edit, chunks 3 true oe.length (cellsE oe) = some (oe.map eE)
  | [] => rfl
  | x :: l => by
    rw [cellsE_cons]
    have h := chunksE l
    simp only [List.length_cons, chunks, mkp]
    simp [h, eE]
def OutOk (bx : Bx) (X : AV) (oe : List Edit) : Prop := (oe = [] ∧ X = .sl 3 [] .nil) ∨ ∃ s v, X = .own 3 true s v oe.length ∧ oe ≠ [] ∧ bx s = some (v, cellsE oe) ∧ ¬ 8 = s ∧ ¬ 9 = s ∧ s < 100000
theorem OutOk.own {bx : Bx} {s v n : Nat} {oe : List Edit} (hn : n = oe.length) (h0 : oe ≠ []) (hb : bx s = some (v, cellsE oe)) (h8 : ¬ 8 = s) (h9 : ¬ 9 = s) (h : s < 100000) : OutOk bx (.own 3 true s v n) oe := by
  subst hn
  exact .inr ⟨s, v, rfl, h0, hb, h8, h9, h⟩
theorem clone_den (l : List AV) (hs : (strsOf l).isSome = true) (hl : l.length * 16 ≤ 140737488355328) : Den Sy 41 [.sl 1 l .no] = some (.sl 1 l .no) := by
  rw [Den_ext Sy (F := cloneF) rfl]
  simp only [cloneF]
  rw [if_pos ⟨hl, hs⟩]
theorem strsOf_map (a : List (List UInt8)) : strsOf (a.map AV.str) = some a := by
  induction a with
  | nil => rfl
  | cons x a ih => simp [strsOf, ih]
theorem okC_eE (x : Edit) : (eE x).okC = true ∧ (eE x).cells.length = 3 := ⟨rfl, rfl⟩
theorem ins_den (oe : List Edit) (i : Int) (x : Edit) (h0 : 0 ≤ i) (hi : i ≤ oe.length) (hl : oe.length ≤ 1099511627776) : Den Sy 42 [.sl 3 (oe.map eE) .no, .int .i64 i, .sl 3 [eE x] .no] = some (.ins ((oe.take i.toNat ++ [x] ++ oe.drop i.toNat).map eE)) := by
  rw [Den_ext Sy (F := insF) rfl]
  have hok : insOk (oe.map eE) i (eE x) = true := by
    simp only [insOk, Bool.and_eq_true, List.all_eq_true, decide_eq_true_eq, List.length_map, List.mem_cons, List.mem_map, beq_iff_eq]
    refine ⟨⟨⟨?_, h0⟩, hi⟩, hl⟩
    rintro y (rfl | ⟨z, _, rfl⟩)
    · exact okC_eE x
    · exact okC_eE z
  simp only [insF]
  rw [if_pos hok]
  simp
theorem ins_den0 (x : Edit) : Den Sy 42 [.sl 3 [] .nil, .int .i64 0, .sl 3 [eE x] .no] = some (.ins [eE x]) := by
  rw [Den_ext Sy (F := insF) rfl]
  rfl

theorem insK_ok {t v : Nat} (L : List Edit) (ht : t < 200000) : insK 3 true t v (some (.ins (L.map eE))) = some ⟨.own 3 true t (v + 1) L.length, [(t, v + 1, cellsE L)], [], false⟩ := by
  unfold insK
  have h1 : ((L.map eE).all fun y => y.okC && y.cells.length == 3) = true := by simp [eE]
  have h2 : deadC ((L.map eE).flatMap AV.cells) = false := cellsE_dead L
  simp only
  rw [if_pos ⟨h1, h2, ht⟩, List.length_map]
  rfl
/-- What the program makes back, from its left. -/
def invStep (out : List Edit) (e : Edit) (a : List (List UInt8)) : List Edit :=
  if e.op = 1 then out ++ [⟨1, e.n, []⟩] else if e.op = 2 then out ++ [⟨3, e.n, a.take e.n.toNat⟩] else
    if lastOp out = 3 then out.take (out.length - 1) ++ [⟨2, e.n, []⟩] ++ out.drop (out.length - 1) else out ++ [⟨2, e.n, []⟩]
def invS : List Edit → List Edit → List (List UInt8) → List Edit
  | [], out, _ => out
  | e :: r, out, a => invS r (invStep out e a) (if e.op = 3 then a else a.drop e.n.toNat)
theorem invStep_len (out : List Edit) (e : Edit) (a : List (List UInt8)) : (invStep out e a).length = out.length + 1 := by
  unfold invStep
  split
  · simp
  · split
    · simp
    · split
      · rename_i h
        have : out ≠ [] := by rintro rfl; simp [lastOp] at h
        have := List.length_pos_iff.2 this
        simp
        omega
      · simp
set_option maxHeartbeats 2000000 in
theorem inv_loop (s : List Edit) (hl : s.length ≤ 1048576) (hm : ∀ e ∈ s, mayB e = true) : ∀ (rest pre : List Edit) (a : List (List UInt8)) (X : AV) (oe : List Edit) (i : Int) (bx : Bx) (pm : Pm), s = pre ++ rest → i = pre.length → many 1 2 rest = a.length → a.length ≤ 8796093022208 → OutOk bx X oe → oe.length = pre.length →
    Res (RunD Sy (.loop L23x0) ⟨ofL [(1, sS a), (4, X), (17, sE s), (18, .int .i64 s.length), (19, .int .i64 i)], bx, pm, none⟩) fun ex st' => ex = .exit 0 ∧ st'.df = none ∧ ∃ X', st'.env 4 = some X' ∧ OutOk st'.bx X' (invS rest oe a)
  | [], pre, a, X, oe, i, bx, pm, hs, hi, ha, hal, ho, hol => by
    subst hi
    rw [List.append_nil] at hs
    subst hs
    rw [RunD_loop]
    simp [L23x0, invS]
    exact ho
  | e :: rest, pre, a, X, oe, i, bx, pm, hs, hi, ha, hal, ho, hol => by
    have hlt : (pre.length : Int) < s.length := by rw [hs]; simp; omega
    have hg : (s.map eE)[pre.length]? = some (eE e) := by rw [hs]; simp
    have hme := hm e (by rw [hs]; simp)
    obtain ⟨hop, hn1, hn2, hn3, _⟩ := mayB_op hme
    have hrest : ∀ x ∈ rest, mayB x = true := fun x hx => hm x (by rw [hs]; simp [hx])
    have hmn := many_nn 1 2 hrest
    simp only [eE] at hg
    subst hi
    have hc := chk_i64 ((pre.length : Int) + 1) (by omega)
    have hn0 : 0 ≤ e.n := by omega
    have hsz : (oe.length + 1) * 40 ≤ 140737488355328 := by omega
    have htk : (a.map AV.str).take a.length = a.map AV.str := List.take_of_length_le (by simp)
    refine loop_step fun K hK => ?_
    by_cases h1 : e.op = 1
    · have hle : e.n ≤ a.length := by simp only [many, h1] at ha; simp at ha; omega
      have ha' : many 1 2 rest = (a.drop e.n.toNat).length := by simp only [many, h1] at ha; simp at ha ⊢; omega
      have h3 : ¬ e.op = 3 := by omega
      have hst : invStep oe e a = oe ++ [⟨1, e.n, []⟩] := by simp [invStep, h1]
      have hdm : (a.map AV.str).drop e.n.toNat = (a.drop e.n.toNat).map AV.str := List.map_drop.symm
      rcases ho with ⟨rfl, rfl⟩ | ⟨t, v, rfl, hne, hb, h8, h9, hth⟩
      · simp [L23x0, -deadC, deadC_cells, htk, -getElem?_pos, -List.getElem?_map, hc, hlt, hg, eq_true h1, hn0, hle, invS, hst, eq_false h3]
        rw [hK, hdm]
        exact inv_loop s hl hm rest (pre ++ [e]) (a.drop e.n.toNat) _ [⟨1, e.n, []⟩] _ _ _ (by simp [hs]) (by simp) ha' (by rw [List.length_drop]; omega) (OutOk.own rfl (by simp) (by simp [cellsE_one]) (by simp) (by simp) (by omega)) (by rw [List.length_append, ← hol]; rfl)
      · have hcl := cellsE_len oe
        have h8' : ¬ t = 8 := fun e => h8 e.symm
        have hd := cellsE_dead oe
        have hd2 := cellsE_dead2 oe
        have ht2 : t < 200000 := by omega
        simp [L23x0, -deadC, deadC_cells, htk, -getElem?_pos, -List.getElem?_map, hc, hlt, hg, eq_true h1, hn0, hle, hb, eq_false h8, eq_false h8', hcl, hd, hd2, ht2, invS, hst, eq_false h3, hsz]
        rw [hK, hdm]
        refine inv_loop s hl hm rest (pre ++ [e]) (a.drop e.n.toNat) _ (oe ++ [⟨1, e.n, []⟩]) _ _ _ ?_ ?_ ha' ?_ ?_ ?_
        · simp [hs]
        · simp
        · rw [List.length_drop]; omega
        · exact OutOk.own (by simp) (by simp) (by simp [cellsE_app, cellsE_one]) h8 h9 hth
        · simp at hol ⊢; omega
    · by_cases h2 : e.op = 2
      · have hle : e.n ≤ a.length := by simp only [many, h2] at ha; simp at ha; omega
        have ha' : many 1 2 rest = (a.drop e.n.toNat).length := by simp only [many, h2] at ha; simp at ha ⊢; omega
        have h3 : ¬ e.op = 3 := by omega
        have hst : invStep oe e a = oe ++ [⟨3, e.n, a.take e.n.toNat⟩] := by simp [invStep, h2]
        have hdm : (a.map AV.str).drop e.n.toNat = (a.drop e.n.toNat).map AV.str := List.map_drop.symm
        have hcd := clone_den ((a.map AV.str).take e.n.toNat) (by rw [← List.map_take, strsOf_map]; rfl) (by rw [List.length_take, List.length_map]; omega)
        rcases ho with ⟨rfl, rfl⟩ | ⟨t, v, rfl, hne, hb, h8, h9, hth⟩
        · simp [L23x0, -deadC, deadC_cells, htk, -getElem?_pos, -List.getElem?_map, hc, hlt, hg, eq_false h1, eq_true h2, hn0, hle, invS, hst, eq_false h3, hcd]
          rw [hK, hdm]
          exact inv_loop s hl hm rest (pre ++ [e]) (a.drop e.n.toNat) _ [⟨3, e.n, a.take e.n.toNat⟩] _ _ _ (by simp [hs]) (by simp) ha' (by rw [List.length_drop]; omega) (OutOk.own rfl (by simp) (by simp [cellsE_one]) (by simp) (by simp) (by omega)) (by rw [List.length_append, ← hol]; rfl)
        · have hcl := cellsE_len oe
          have h8' : ¬ t = 8 := fun e => h8 e.symm
          have hd := cellsE_dead oe
          have hd2 := cellsE_dead2 oe
          have ht2 : t < 200000 := by omega
          simp [L23x0, -deadC, deadC_cells, htk, -getElem?_pos, -List.getElem?_map, hc, hlt, hg, eq_false h1, eq_true h2, hn0, hle, hb, eq_false h8, eq_false h8', hcl, hd, hd2, ht2, invS, hst, eq_false h3, hsz, hcd]
          rw [hK, hdm]
          refine inv_loop s hl hm rest (pre ++ [e]) (a.drop e.n.toNat) _ (oe ++ [⟨3, e.n, a.take e.n.toNat⟩]) _ _ _ ?_ ?_ ha' ?_ ?_ ?_
          · simp [hs]
          · simp
          · rw [List.length_drop]; omega
          · exact OutOk.own (by simp) (by simp) (by simp [cellsE_app, cellsE_one]) h8 h9 hth
          · simp at hol ⊢; omega
      · have h3 : e.op = 3 := by omega
        have ha' : many 1 2 rest = a.length := by simp only [many] at ha; simpa [h1, h2] using ha
        rcases ho with ⟨rfl, rfl⟩ | ⟨t, v, rfl, hne, hb, h8, h9, hth⟩
        · have hst : invStep [] e a = [⟨2, e.n, []⟩] := by simp [invStep, h1, h2, lastOp]
          have hi0 := ins_den0 ⟨2, e.n, []⟩
          simp only [eE, List.map_nil] at hi0
          simp [L23x0, -deadC, deadC_cells, -getElem?_pos, -List.getElem?_map, hc, hlt, hg, eq_false h1, eq_false h2, eq_true h3, invS, hst, hi0]
          rw [hK]
          exact inv_loop s hl hm rest (pre ++ [e]) a _ [⟨2, e.n, []⟩] _ _ _ (by simp [hs]) (by simp) ha' hal (OutOk.own rfl (by simp) (by simp [cellsE_one]) (by simp) (by simp) (by omega)) (by rw [List.length_append, ← hol]; rfl)
        · obtain ⟨l, p, rfl⟩ : ∃ l p, oe = l ++ [p] := by
            rcases nil_or_last oe with h | h
            · exact absurd h hne
            · exact h
          have hcl := cellsE_len (l ++ [p])
          have hd := cellsE_dead (l ++ [p])
          have hch := chunksE (l ++ [p])
          have ht2 : t < 200000 := by omega
          have h8' : ¬ t = 8 := fun e => h8 e.symm
          have h9' : ¬ t = 9 := fun e => h9 e.symm
          have hlen : ((l ++ [p]).length : Int) = l.length + 1 := by simp
          have hll : l.length + 1 = pre.length := by simpa using hol
          have hc2 := chk_i64 (l.length : Int) (by omega)
          have hdr : (cellsE (l ++ [p])).drop (l.length * 3) = [.int .i64 p.op, .int .i64 p.n, .sl 1 (p.ls.map .str) .no] := by
            rw [cellsE_app, cellsE_one]
            exact List.drop_left' (cellsE_len l)
          have hnlt : (l.length : Int) < l.length + 1 := by omega
          have hle3 : l.length * 3 + 1 ≤ (l ++ [p]).length * 3 := by simp; omega
          obtain ⟨oe, hoe⟩ : ∃ oe, oe = l ++ [p] := ⟨_, rfl⟩
          rw [← hoe] at hb hcl hd hch hlen hdr hle3 hsz
          by_cases hp3 : p.op = 3
          · obtain ⟨L, hL⟩ : ∃ L, L = l ++ [⟨2, e.n, []⟩, p] := ⟨_, rfl⟩
            have hst : invStep (l ++ [p]) e a = L := by simp [invStep, h1, h2, lastOp, hp3, hL]
            have hi0 := ins_den oe l.length ⟨2, e.n, []⟩ (by omega) (by omega) (by omega)
            have hLe : oe.take ((l.length : Int)).toNat ++ [⟨2, e.n, []⟩] ++ oe.drop ((l.length : Int)).toNat = L := by rw [hoe, hL]; simp
            rw [hLe] at hi0
            simp only [eE, List.map_nil] at hi0
            rw [← hoe] at hst
            have hiK := insK_ok (v := v) L ht2
            rw [← hoe]
            simp [L23x0, -deadC, deadC_cells, -getElem?_pos, -List.getElem?_map, hc, hlt, hg, eq_false h1, eq_false h2, eq_true h3, invS, hst, hb, hlen, hc2, hd, hcl, hdr, hle3, eq_true hp3, eq_false h8, eq_false h8', eq_false h9, eq_false h9', hch, hi0, hiK, hnlt]
            rw [hK]
            refine inv_loop s hl hm rest (pre ++ [e]) a _ L _ _ _ ?_ ?_ ha' hal ?_ ?_
            · simp [hs]
            · simp
            · exact OutOk.own rfl (by rw [hL]; simp) (by simp) h8 h9 hth
            · rw [hL]; simp at hol ⊢; omega
          · obtain ⟨L, hL⟩ : ∃ L, L = l ++ [p] ++ [⟨2, e.n, []⟩] := ⟨_, rfl⟩
            have hst : invStep (l ++ [p]) e a = L := by simp [invStep, h1, h2, lastOp, hp3, hL]
            have hi0 := ins_den oe oe.length ⟨2, e.n, []⟩ (by omega) (by omega) (by omega)
            have hLe : oe.take ((oe.length : Int)).toNat ++ [⟨2, e.n, []⟩] ++ oe.drop ((oe.length : Int)).toNat = L := by rw [List.take_of_length_le (by simp), List.drop_of_length_le (by simp), hoe, hL]; simp
            rw [hLe] at hi0
            simp only [eE, List.map_nil] at hi0
            rw [← hoe] at hst
            have hiK := insK_ok (v := v) L ht2
            rw [hlen] at hi0
            rw [← hoe]
            simp [L23x0, -deadC, deadC_cells, -getElem?_pos, -List.getElem?_map, hc, hlt, hg, eq_false h1, eq_false h2, eq_true h3, invS, hst, hb, hlen, hc2, hd, hcl, hdr, hle3, eq_false hp3, eq_false h8, eq_false h8', eq_false h9, eq_false h9', hch, hi0, hiK, hnlt]
            rw [hK]
            refine inv_loop s hl hm rest (pre ++ [e]) a _ L _ _ _ ?_ ?_ ha' hal ?_ ?_
            · simp [hs]
            · simp
            · exact OutOk.own rfl (by rw [hL]; simp) (by simp) h8 h9 hth
            · rw [hL]; simp at hol ⊢; omega
theorem invert_den (s : List Edit) (hl : s.length ≤ 1048576) (a : List (List UInt8)) (hal : a.length ≤ 8796093022208) : Den Sy 23 [sE s, sS a] = some (.tup [sE (if fitsF s a.length = 0 then invS s [] a else []), .int .i64 (fitsF s a.length)]) := by
  rw [Den_fun Sy (af := A23) rfl rfl _ rfl]
  have h0 := fits_den s (by omega) a
  by_cases hf : fitsF s a.length = 0
  · obtain ⟨hb, hm⟩ := fitsF_zero hf
    obtain ⟨ex, st', h, rfl, hd, X', h4, hok⟩ := inv_loop s hl (rightF_may hb) s [] a (.sl 3 [] .nil) [] 0 (ofL []) none' rfl rfl hm hal (.inl ⟨rfl, rfl⟩) rfl
    rcases hok with ⟨hoe, rfl⟩ | ⟨t, v, rfl, hne, hbx, h8, h9, hth⟩
    · simp [A23, h0, h, hd, h4, hf, hoe]
    · simp [A23, h0, h, hd, h4, hf, hbx, -deadC, cellsE_dead, cellsE_len, chunksE, hth]
  · simp [A23, h0, hf]
end Go.Proofs.YtdcgldhhdajocaaDoor.Rx
