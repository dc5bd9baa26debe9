/-
  The script's laws, plain, 6: raw numbers' scripts, as they are made.
-/
import Derived.Test.YtdcgldhhdajocaaDoorRxP5
namespace Go.Proofs.YtdcgldhhdajocaaDoor.Rx
open Go
set_option linter.unusedSimpArgs false
set_option linter.unusedVariables false
attribute [simp] build

theorem lastOp_snoc (l : List Edit) (p : Edit) : lastOp (l ++ [p]) = p.op := by simp [lastOp]
theorem tdiv3_in {c : Int} (h : inR c) : inR (c.tdiv 3) := by
  obtain ⟨h1, h2⟩ := h
  rcases Int.lt_or_le c 0 with h | h
  · have e : c.tdiv 3 = -((-c).tdiv 3) := by rw [Int.neg_tdiv, Int.neg_neg]
    have e2 : (-c).tdiv 3 = (-c) / 3 := Int.tdiv_eq_ediv_of_nonneg (by omega)
    constructor <;> omega
  · have e2 : c.tdiv 3 = c / 3 := Int.tdiv_eq_ediv_of_nonneg h
    constructor <;> omega
set_option maxHeartbeats 4000000 in
theorem script_loop (raw lines : List Int) (hr : ∀ c ∈ raw, inR c) : ∀ (k : Nat) (rest pre : List Int) (oe : List Edit) (out : List AV) (p : Perm) (last take i : Int) (bx : Bx) (pm : Pm), raw = pre ++ rest → i = pre.length → k + pre.length = 10 → out = oe.map eE → last = lastOp oe → AppOk pm p → oe.length ≤ pre.length → 0 ≤ take ∧ take ≤ 4 * pre.length →
    Res (RunD Sy (.loop L11x0) ⟨ofL [(0, iS raw), (1, iS lines), (6, .sl 3 out p), (7, .int .i64 take), (8, .int .i64 i)], bx, pm, none⟩) fun ex st' => ex = .exit 0 ∧ st'.df = none ∧ st'.env 1 = some (iS lines) ∧ st'.env 7 = some (.int .i64 (take + many 1 2 (scriptG k rest last))) ∧
      ∃ q, st'.env 6 = some (.sl 3 (out ++ (scriptG k rest last).map eE) q)
  | 0, rest, pre, oe, out, p, last, take, i, bx, pm, hs, hi, hk, ho, hla, hp, hol, ht => by
    subst hi
    have hpl : pre.length = 10 := by omega
    refine loop_step fun K hK => ?_
    by_cases h : (10 : Int) < raw.length
    · simp [L11x0, hpl, h, scriptG, many]
    · simp [L11x0, hpl, h, scriptG, many]
  | k + 1, [], pre, oe, out, p, last, take, i, bx, pm, hs, hi, hk, ho, hla, hp, hol, ht => by
    subst hi
    rw [List.append_nil] at hs
    subst hs
    refine loop_step fun K hK => ?_
    simp [L11x0, scriptG, many]
  | k + 1, c :: rest, pre, oe, out, p, last, take, i, bx, pm, hs, hi, hk, ho, hla, hp, hol, ht => by
    have hlt : (pre.length : Int) < raw.length := by rw [hs]; simp; omega
    have hl10 : (pre.length : Int) < 10 := by omega
    have hg : (raw.map (AV.int .i64))[pre.length]? = some (.int .i64 c) := by rw [hs]; simp
    have hcin : inR c := hr c (by rw [hs]; simp)
    have hc3 := tdiv3_in hcin
    have hp3 := pick_den c 3 hcin (by omega)
    have hp4 := pick_den (c.tdiv 3) 4 hc3 (by omega)
    have hb3 := pickF_lt c (n := 3) (by omega)
    have hb4 := pickF_lt (c.tdiv 3) (n := 4) (by omega)
    have hq := chk_i64 (c.tdiv 3) hc3
    have hdr : (raw.map (AV.int .i64)).drop pre.length = .int .i64 c :: rest.map (AV.int .i64) := by rw [hs]; simp
    have htk : (raw.map (AV.int .i64)).take raw.length = raw.map (AV.int .i64) := List.take_of_length_le (by simp)
    subst hi
    have hc := chk_i64 ((pre.length : Int) + 1) (by omega)
    obtain ⟨x, hx⟩ : ∃ x, x = mkE c rest := ⟨_, rfl⟩
    have hxo : x.op = 1 + pickF c 3 := by rw [hx]; rfl
    have hxn : x.n = 1 + pickF (c.tdiv 3) 4 := by rw [hx]; rfl
    have hxl : x.ls = if x.op = 3 then fullF (c :: rest) x.n.toNat else [] := by rw [hx]; rfl
    have ho13 : 1 ≤ x.op ∧ x.op ≤ 3 := by omega
    have hn14 : 1 ≤ x.n ∧ x.n ≤ 4 := by omega
    have hco : chk .i64 (1 + pickF c 3) = some (.int .i64 x.op) := by rw [← hxo]; exact chk_i64 _ (by omega)
    have hcm : chk .i64 (1 + pickF (c.tdiv 3) 4) = some (.int .i64 x.n) := by rw [← hxn]; exact chk_i64 _ (by omega)
    have hct := chk_i64 (take + x.n) (by omega)
    have hnn : ((x.n.toNat : Nat) : Int) = x.n := by omega
    have hfull := full_den (c :: rest) (fun x hx => hr x (by rw [hs]; exact List.mem_append_right _ hx)) x.n.toNat (by omega)
    rw [hnn] at hfull
    simp only [iS, List.map_cons] at hfull
    have hle : (pre.length : Int) ≤ raw.length := by omega
    have hsz : (out.length + 1) * 40 ≤ 140737488355328 := by rw [ho]; simp; omega
    have hsn : lastOp (oe ++ [x]) = x.op := lastOp_snoc oe x
    have ho' : out ++ [AV.agg [.int .i64 x.op, .int .i64 x.n, .sl 1 (x.ls.map AV.str) .no]] = (oe ++ [x]).map eE := by rw [ho]; simp [eE]
    have hg2 : scriptG (k + 1) (c :: rest) last = if skipB last x.op = true then scriptG k rest last else x :: scriptG k rest x.op := by rw [hx]; rfl
    refine loop_step fun K hK => ?_
    by_cases h3 : x.op = 3
    · have hl3 : x.ls = fullF (c :: rest) x.n.toNat := by rw [hxl, if_pos h3]
      rw [← hl3] at hfull
      have h12 : ¬ (x.op = 1 ∨ x.op = 2) := by omega
      have h2 : ¬ x.op = 2 := by omega
      rcases nil_or_last oe with rfl | ⟨l, p0, rfl⟩
      · have hla0 : last = 0 := hla
        subst hla0
        have ho0 : out = [] := ho
        subst ho0
        have hsk : skipB 0 x.op = false := by simp [skipB]; omega
        rcases hp with rfl | ⟨m, v, rfl, hpm⟩
        · simp [L11x0, -getElem?_pos, -List.getElem?_map, hlt, hl10, hg, hp3, hp4, hq, hc, hco, hcm, hct, eq_true h3, eq_false h12, hfull, htk, hdr, hle, hg2, many, hsk]
          rw [hK]
          exact script_loop raw lines hr k rest (pre ++ [c]) ([] ++ [x]) _ _ _ _ _ _ _ (by simp [hs]) (by simp) (by simp; omega) ho' hsn.symm (AppOk.tok (by simp)) (by simp) (by simp; omega)
        · simp [L11x0, -getElem?_pos, -List.getElem?_map, hlt, hl10, hg, hp3, hp4, hq, hc, hco, hcm, hct, eq_true h3, eq_false h12, hfull, htk, hdr, hle, hg2, many, hsk, hpm]
          rw [hK]
          exact script_loop raw lines hr k rest (pre ++ [c]) ([] ++ [x]) _ _ _ _ _ _ _ (by simp [hs]) (by simp) (by simp; omega) ho' hsn.symm (AppOk.tok (by simp)) (by simp) (by simp; omega)
      · have hla0 : last = p0.op := by rw [hla, lastOp_snoc]
        subst hla0
        have hlen : (out.length : Int) = l.length + 1 := by rw [ho]; simp
        have hll : (l.length : Int) + 1 ≤ pre.length := by simp at hol; omega
        have hc2 := chk_i64 (l.length : Int) (by omega)
        have hgp : out[l.length]? = some (.agg [.int .i64 p0.op, .int .i64 p0.n, .sl 1 (p0.ls.map AV.str) .no]) := by rw [ho]; simp [eE]
        by_cases hsame : p0.op = x.op
        · have hsk : skipB p0.op x.op = true := by simp [skipB, hsame]
          simp [L11x0, -getElem?_pos, -List.getElem?_map, hlt, hl10, hg, hp3, hp4, hq, hc, hco, hcm, hct, eq_true h3, eq_false h12, hfull, htk, hdr, hle, hg2, many, hsk, hlen, hc2, hgp, eq_true hsame]
          rw [hK]
          exact script_loop raw lines hr k rest (pre ++ [c]) (l ++ [p0]) _ _ _ _ _ _ _ (by simp [hs]) (by simp) (by simp; omega) ho (lastOp_snoc _ _).symm hp (by simp at hol ⊢; omega) (by simp; omega)
        · have h33 : ¬ p0.op = 3 := fun e => hsame (by omega)
          have hsk : skipB p0.op x.op = false := by simp [skipB, hsame, h2]
          rcases hp with rfl | ⟨m, v, rfl, hpm⟩
          · simp [L11x0, -getElem?_pos, -List.getElem?_map, hlt, hl10, hg, hp3, hp4, hq, hc, hco, hcm, hct, eq_true h3, eq_false h12, hfull, htk, hdr, hle, hg2, many, hsk, hlen, hc2, hgp, eq_false hsame, eq_false h33, hsz]
            rw [hK, List.append_cons _ _ (List.map eE (scriptG k rest x.op))]
            exact script_loop raw lines hr k rest (pre ++ [c]) (l ++ [p0] ++ [x]) _ _ _ _ _ _ _ (by simp [hs]) (by simp) (by simp; omega) ho' hsn.symm (AppOk.tok (by simp)) (by simp at hol ⊢; omega) (by simp; omega)
          · simp [L11x0, -getElem?_pos, -List.getElem?_map, hlt, hl10, hg, hp3, hp4, hq, hc, hco, hcm, hct, eq_true h3, eq_false h12, hfull, htk, hdr, hle, hg2, many, hsk, hlen, hc2, hgp, eq_false hsame, eq_false h33, hsz, hpm]
            rw [hK, List.append_cons _ _ (List.map eE (scriptG k rest x.op))]
            exact script_loop raw lines hr k rest (pre ++ [c]) (l ++ [p0] ++ [x]) _ _ _ _ _ _ _ (by simp [hs]) (by simp) (by simp; omega) ho' hsn.symm (AppOk.tok (by simp)) (by simp at hol ⊢; omega) (by simp; omega)
    · have hl3 : x.ls = [] := by rw [hxl, if_neg h3]
      have h12 : x.op = 1 ∨ x.op = 2 := by omega
      rw [hl3] at ho'
      simp only [List.map_nil] at ho'
      have hEx : eE x = .agg [.int .i64 x.op, .int .i64 x.n, .sl 1 [] .no] := by simp [eE, hl3]
      rcases nil_or_last oe with rfl | ⟨l, p0, rfl⟩
      · have hla0 : last = 0 := hla
        subst hla0
        have ho0 : out = [] := ho
        subst ho0
        have hsk : skipB 0 x.op = false := by simp [skipB]; omega
        rcases hp with rfl | ⟨m, v, rfl, hpm⟩
        · simp [L11x0, -getElem?_pos, -List.getElem?_map, hlt, hl10, hg, hp3, hp4, hq, hc, hco, hcm, hct, eq_false h3, eq_true h12, hEx, htk, hdr, hle, hg2, many, hsk, ← Int.add_assoc]
          rw [hK]
          exact script_loop raw lines hr k rest (pre ++ [c]) ([] ++ [x]) _ _ _ _ _ _ _ (by simp [hs]) (by simp) (by simp; omega) ho' hsn.symm (AppOk.tok (by simp)) (by simp) (by simp; omega)
        · simp [L11x0, -getElem?_pos, -List.getElem?_map, hlt, hl10, hg, hp3, hp4, hq, hc, hco, hcm, hct, eq_false h3, eq_true h12, hEx, htk, hdr, hle, hg2, many, hsk, hpm, ← Int.add_assoc]
          rw [hK]
          exact script_loop raw lines hr k rest (pre ++ [c]) ([] ++ [x]) _ _ _ _ _ _ _ (by simp [hs]) (by simp) (by simp; omega) ho' hsn.symm (AppOk.tok (by simp)) (by simp) (by simp; omega)
      · have hla0 : last = p0.op := by rw [hla, lastOp_snoc]
        subst hla0
        have hlen : (out.length : Int) = l.length + 1 := by rw [ho]; simp
        have hll : (l.length : Int) + 1 ≤ pre.length := by simp at hol; omega
        have hc2 := chk_i64 (l.length : Int) (by omega)
        have hgp : out[l.length]? = some (.agg [.int .i64 p0.op, .int .i64 p0.n, .sl 1 (p0.ls.map AV.str) .no]) := by rw [ho]; simp [eE]
        by_cases hsame : p0.op = x.op
        · have hsk : skipB p0.op x.op = true := by simp [skipB, hsame]
          simp [L11x0, -getElem?_pos, -List.getElem?_map, hlt, hl10, hg, hp3, hp4, hq, hc, hco, hcm, hct, eq_false h3, eq_true h12, hEx, htk, hdr, hle, hg2, many, hsk, hlen, hc2, hgp, eq_true hsame]
          rw [hK]
          exact script_loop raw lines hr k rest (pre ++ [c]) (l ++ [p0]) _ _ _ _ _ _ _ (by simp [hs]) (by simp) (by simp; omega) ho (lastOp_snoc _ _).symm hp (by simp at hol ⊢; omega) (by simp; omega)
        · by_cases hput : p0.op = 3 ∧ x.op = 2
          · have hsk : skipB p0.op x.op = true := by simp [skipB, hput]
            simp [L11x0, -getElem?_pos, -List.getElem?_map, hlt, hl10, hg, hp3, hp4, hq, hc, hco, hcm, hct, eq_false h3, eq_true h12, hEx, htk, hdr, hle, hg2, many, hsk, hlen, hc2, hgp, eq_false hsame, eq_true hput.1, eq_true hput.2]
            rw [hK]
            exact script_loop raw lines hr k rest (pre ++ [c]) (l ++ [p0]) _ _ _ _ _ _ _ (by simp [hs]) (by simp) (by simp; omega) ho (lastOp_snoc _ _).symm hp (by simp at hol ⊢; omega) (by simp; omega)
          · have hsk : skipB p0.op x.op = false := by simp only [skipB, hsame, decide_false, Bool.false_or, decide_eq_false_iff_not]; exact hput
            by_cases h33 : p0.op = 3
            · have h2 : ¬ x.op = 2 := fun e => hput ⟨h33, e⟩
              have h1 : x.op = 1 := by omega
              rcases hp with rfl | ⟨m, v, rfl, hpm⟩
              · simp [L11x0, -getElem?_pos, -List.getElem?_map, hlt, hl10, hg, hp3, hp4, hq, hc, hco, hcm, hct, eq_false h3, eq_true h12, hEx, htk, hdr, hle, hg2, many, hsk, hlen, hc2, hgp, eq_false hsame, eq_true h33, eq_false h2, eq_true h1, hsz, ← Int.add_assoc]
                rw [hK, List.append_cons _ _ (List.map eE (scriptG k rest x.op))]
                exact script_loop raw lines hr k rest (pre ++ [c]) (l ++ [p0] ++ [x]) _ _ _ _ _ _ _ (by simp [hs]) (by simp) (by simp; omega) ho' hsn.symm (AppOk.tok (by simp)) (by simp at hol ⊢; omega) (by simp; omega)
              · simp [L11x0, -getElem?_pos, -List.getElem?_map, hlt, hl10, hg, hp3, hp4, hq, hc, hco, hcm, hct, eq_false h3, eq_true h12, hEx, htk, hdr, hle, hg2, many, hsk, hlen, hc2, hgp, eq_false hsame, eq_true h33, eq_false h2, eq_true h1, hsz, hpm, ← Int.add_assoc]
                rw [hK, List.append_cons _ _ (List.map eE (scriptG k rest x.op))]
                exact script_loop raw lines hr k rest (pre ++ [c]) (l ++ [p0] ++ [x]) _ _ _ _ _ _ _ (by simp [hs]) (by simp) (by simp; omega) ho' hsn.symm (AppOk.tok (by simp)) (by simp at hol ⊢; omega) (by simp; omega)
            · rcases hp with rfl | ⟨m, v, rfl, hpm⟩
              · simp [L11x0, -getElem?_pos, -List.getElem?_map, hlt, hl10, hg, hp3, hp4, hq, hc, hco, hcm, hct, eq_false h3, eq_true h12, hEx, htk, hdr, hle, hg2, many, hsk, hlen, hc2, hgp, eq_false hsame, eq_false h33, hsz, ← Int.add_assoc]
                rw [hK, List.append_cons _ _ (List.map eE (scriptG k rest x.op))]
                exact script_loop raw lines hr k rest (pre ++ [c]) (l ++ [p0] ++ [x]) _ _ _ _ _ _ _ (by simp [hs]) (by simp) (by simp; omega) ho' hsn.symm (AppOk.tok (by simp)) (by simp at hol ⊢; omega) (by simp; omega)
              · simp [L11x0, -getElem?_pos, -List.getElem?_map, hlt, hl10, hg, hp3, hp4, hq, hc, hco, hcm, hct, eq_false h3, eq_true h12, hEx, htk, hdr, hle, hg2, many, hsk, hlen, hc2, hgp, eq_false hsame, eq_false h33, hsz, hpm, ← Int.add_assoc]
                rw [hK, List.append_cons _ _ (List.map eE (scriptG k rest x.op))]
                exact script_loop raw lines hr k rest (pre ++ [c]) (l ++ [p0] ++ [x]) _ _ _ _ _ _ _ (by simp [hs]) (by simp) (by simp; omega) ho' hsn.symm (AppOk.tok (by simp)) (by simp at hol ⊢; omega) (by simp; omega)
theorem many_le4 (a b : Int) : ∀ {s : List Edit}, (∀ e ∈ s, e.n ≤ 4) → many a b s ≤ 4 * s.length
  | [], _ => by simp [many]
  | e :: s, h => by
    have h1 := h e (by simp)
    have h2 := many_le4 a b (s := s) (fun x hx => h x (by simp [hx]))
    simp only [many, List.length_cons]
    split <;> omega
theorem script_many (raw : List Int) (a b : Int) : 0 ≤ many a b (scriptF raw) ∧ many a b (scriptF raw) ≤ 40 ∧ (scriptF raw).length ≤ 10 := by
  have h1 := many_nn a b (rightF_may (scriptF_right raw))
  have h2 := many_le4 a b (scriptG_small 10 raw 0)
  have h3 := scriptG_len 10 raw 0
  have e : scriptG 10 raw 0 = scriptF raw := rfl
  rw [e] at h2 h3
  exact ⟨h1, by omega, h3⟩
/-- The script of raw numbers, and the lines that it takes. -/
theorem script_den (raw lines : List Int) (hr : ∀ c ∈ raw, inR c) (hl : ∀ c ∈ lines, inR c) : Den Sy 11 [iS raw, iS lines] = some (.tup [sE (scriptF raw), sS (fullF lines (many 1 2 (scriptF raw)).toNat)]) := by
  rw [Den_fun Sy (af := A11) rfl rfl _ rfl]
  obtain ⟨ex, st', h, rfl, hd, h1, h7, q, h6⟩ := script_loop raw lines hr 10 raw [] [] [] .nil 0 0 0 (ofL []) none' rfl rfl rfl rfl rfl (AppOk.nil _) (by simp) (by simp)
  obtain ⟨hm1, hm2, hlen⟩ := script_many raw 1 2
  have e : scriptG 10 raw 0 = scriptF raw := rfl
  rw [e] at h6 h7
  have hf := full_den lines hl (many 1 2 (scriptF raw)).toNat (by omega)
  have hn : (((many 1 2 (scriptF raw)).toNat : Nat) : Int) = many 1 2 (scriptF raw) := by omega
  rw [hn] at hf
  simp only [List.nil_append, Int.zero_add] at h6 h7
  simp [A11, h, hd, h1, h6, h7, hf]
end Go.Proofs.YtdcgldhhdajocaaDoor.Rx
