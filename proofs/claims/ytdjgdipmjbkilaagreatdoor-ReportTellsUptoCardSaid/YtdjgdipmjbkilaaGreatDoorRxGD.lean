/-
  Plain proofs: script.Decode's answer.
-/
import Derived.Test.YtdjgdipmjbkilaaGreatDoorRxG1
namespace Go.Proofs.YtdjgdipmjbkilaaGreatDoor.Rx.D
open Go Go.Proofs.YtdjgdipmjbkilaaGreatDoor.Rx
set_option linter.unusedSimpArgs false
set_option linter.unusedVariables false

theorem may_den (e : Edit) : Den Sy 76 [eE e] = some (.bool (mayB e)) := by
  rw [Den_fun Sy (af := A76) rfl rfl _ rfl]
  by_cases h1 : e.n < 1
  · have : ¬ 1 ≤ e.n := by omega
    simp [A76, eE, h1, mayB, this]
  · by_cases h2 : 1048576 < e.n
    · have : ¬ e.n ≤ 1048576 := by omega
      simp [A76, eE, h1, h2, mayB, this]
    · have : 1 ≤ e.n ∧ e.n ≤ 1048576 := by omega
      by_cases h3 : e.op = 1
      · simp [A76, eE, h1, h2, mayB, this, h3]
      · by_cases h4 : e.op = 2
        · simp [A76, eE, h1, h2, mayB, this, h3, h4]
        · by_cases h5 : e.op = 3
          · simp [A76, eE, h1, h2, mayB, this, h3, h4, h5]
          · simp [A76, eE, h1, h2, mayB, this, h3, h4, h5]
theorem right_loop (s : List Edit) (hl : s.length ≤ 1099511627776) : ∀ (rest pre : List Edit) (last i : Int) (bx : Bx) (pm : Pm), s = pre ++ rest → i = pre.length →
    Res (RunD Sy (.loop L49x0) ⟨ofL [(3, .int .i64 last), (6, .sl 3 (s.map eE) .no), (7, .int .i64 s.length), (8, .int .i64 i)], bx, pm, none⟩) fun ex st' => st'.df = none ∧ if rightF last rest = true then ex = .exit 0 else ex = .ret ∧ st'.env 2 = some (.bool false)
  | [], pre, last, i, bx, pm, hs, hi => by
    subst hi
    rw [List.append_nil] at hs
    subst hs
    rw [RunD_loop]
    simp [L49x0, rightF]
  | e :: rest, pre, last, i, bx, pm, hs, hi => by
    have hlt : (pre.length : Int) < s.length := by rw [hs]; simp; omega
    have hg : (s.map eE)[pre.length]? = some (eE e) := by rw [hs]; simp
    subst hi
    rw [RunD_loop]
    have hm := may_den e
    simp only [eE] at hm hg
    have hc := chk_i64 ((pre.length : Int) + 1) (by omega)
    by_cases h1 : mayB e = true
    · by_cases h2 : e.op = last
      · simp [L49x0, hc, hlt, hg, hm, h1, rightF, eq_true h2]
      · by_cases h3 : last = 3
        · by_cases h4 : e.op = 2
          · simp [L49x0, hc, hlt, hg, hm, h1, rightF, eq_false h2, eq_true h3, eq_true h4]
          · simp [L49x0, hc, hlt, hg, hm, h1, rightF, eq_false h2, eq_true h3, eq_false h4]
            exact right_loop s hl rest (pre ++ [e]) e.op _ _ _ (by simp [hs]) (by simp)
        · simp [L49x0, hc, hlt, hg, hm, h1, rightF, eq_false h2, eq_false h3]
          exact right_loop s hl rest (pre ++ [e]) e.op _ _ _ (by simp [hs]) (by simp)
    · simp [L49x0, hc, hlt, hg, hm, h1, rightF]
theorem right_den (s : List Edit) (hl : s.length ≤ 1099511627776) : Den Sy 49 [sE s] = some (.bool (rightB s)) := by
  rw [Den_fun Sy (af := A49) rfl rfl _ rfl]
  obtain ⟨ex, st', h, hd, hr⟩ := right_loop s hl s [] 0 0 (ofL []) none' rfl rfl
  by_cases hb : rightF 0 s = true
  · rw [if_pos hb] at hr
    subst hr
    simp [A49, h, rightB, hb, hd]
  · rw [if_neg hb] at hr
    obtain ⟨rfl, h2⟩ := hr
    simp [A49, h, rightB, hb, hd, h2]
theorem index_den (t : List UInt8) (c : UInt8) : Den Sy 86 [.str t, .str [c]] = some (.int .i64 (Lib.indexByte t c)) := by rw [Den_ext Sy (F := indexF) rfl]; rfl
theorem indexByte_den (t : List UInt8) (c : UInt8) : Den Sy 88 [.str t, .int .u8 c.toNat] = some (.int .i64 (Lib.indexByte t c)) := by
  rw [Den_ext Sy (F := indexByteF) rfl]
  simp [indexByteF]
theorem or_den (b : Bool) : Den Sy 87 [.bool b] = some (if b = true then .tup [] else .out true .opq []) := by rw [Den_ext Sy (F := orF) rfl]; cases b <;> rfl
theorem or_true_den : Den Sy 87 [.bool true] = some (.tup []) := or_den true
theorem or_false_den : Den Sy 87 [.bool false] = some (.out true .opq []) := or_den false
theorem itoa_den (v : Int) (h : inR v) : Den Sy 51 [.int .i64 v] = some (.str (Lib.itoa v)) := by
  rw [Den_ext Sy (F := itoaF) rfl]
  unfold inR at h
  simp only [itoaF]
  rw [if_pos h]
theorem atoi_den (t : List UInt8) (h : t.length ≤ 281474976710656) : Den Sy 83 [.str t] = match Lib.atoiAll t with
      | .ok v => some (.tup [.int .i64 v, .nilI])
      | .range => some (.tup [.int .i64 (Lib.atoiSat t), .ifc])
      | _ => some (.tup [.int .i64 0, .ifc]) := by
  rw [Den_ext Sy (F := atoiF) rfl]
  simp only [atoiF]
  rw [if_pos h]
  cases Lib.atoiAll t <;> rfl
theorem number_den (c : UInt8) (t : List UInt8) (ht : t.length ≤ 1099511627776) : Den Sy 85 [.str [c], .ref 0 [.str t]] = some (match numF c t with
      | some (v, r) => .out false (.int .i64 v) [[.str r]]
      | none => .out true .opq [[.str t]]) := by
  rw [Den_fun Sy (af := A85) rfl rfl _ rfl]
  have hix := index_den t c
  have hb := idx_lt t c
  unfold numF
  generalize hat : Lib.indexByte t c = at_ at hix hb ⊢
  by_cases h0 : 0 < at_
  · have h00 : 0 ≤ at_ := by omega
    have hle : at_ ≤ t.length := by omega
    have hc := chk_i64 (at_ + 1) (by omega)
    have h1 : 0 ≤ at_ + 1 := by omega
    have hle1 : at_ + 1 ≤ t.length := by omega
    have htn : (at_ + 1).toNat = at_.toNat + 1 := by omega
    have had := atoi_den (t.take at_.toNat) (by rw [List.length_take]; omega)
    rw [if_pos h0]
    cases he : Lib.atoiAll (t.take at_.toNat) with
    | ok v =>
      rw [he] at had
      have hv := atoi_in he
      have hit := itoa_den v hv
      by_cases hv0 : 0 ≤ v
      · by_cases heq : Lib.itoa v = t.take at_.toNat
        · simp [A85, handed, hix, or_true_den, h0, h00, hle, had, hit, hv0, eq_true heq, hc, h1, hle1, htn]
        · simp [A85, handed, hix, or_true_den, or_false_den, h0, h00, hle, had, hit, hv0, eq_false heq, hc, h1, hle1, htn]
      · simp [A85, handed, hix, or_true_den, or_false_den, h0, h00, hle, had, hit, hv0, hc, h1, hle1, htn]
    | range =>
      rw [he] at had
      simp [A85, handed, hix, or_true_den, or_false_den, h0, h00, hle, had, hc, h1, hle1, htn]
    | _ =>
      rw [he] at had
      simp [A85, handed, hix, or_true_den, or_false_den, h0, h00, hle, had, hc, h1, hle1, htn]
  · simp [A85, handed, hix, or_false_den, h0]
set_option maxHeartbeats 1000000 in
theorem lines_loop (n v6 : Nat) (hn : n ≤ 1048576) (out : List AV) (p2 : Perm) : ∀ (k i : Nat) (j : Int) (t : List UInt8) (ls : List AV) (p6 : Perm) (bx : Bx) (pm : Pm), j = i → i + k = n → t.length ≤ 1099511627776 → Boxes bx t out p2 → bx 6 = some (v6, [.int .i64 3, .int .i64 n, .sl 1 ls p6]) → AppAt 52 pm p6 → ls.length = i →
    Res (RunD Sy (.loop L58x0) ⟨envD [(5, .int .i64 3), (6, .ptr 6 v6 0), (7, .int .i64 j)], bx, pm, dfD⟩) fun ex st' => LinesR n v6 out p2 t ls pm ex st' (linesF k t)
  | 0, i, j, t, ls, p6, bx, pm, hj, hi, ht, hB, hb6, hp, hls => by
    have : i = n := by omega
    subst this hj
    rw [RunD_loop]
    simp [L58x0, hb6, linesF]
    exact ⟨rfl, bx, pm, p6, rfl, hB, by simpa using hb6, rfl, Nat.le_refl _⟩
  | k + 1, i, j, t, ls, p6, bx, pm, hj, hi, ht, hB, hb6, hp, hls => by
    subst hj
    have hlt : (i : Int) < n := by omega
    have hc := chk_i64 ((i : Int) + 1) (by omega)
    have hsz : (ls.length + 1) * 16 ≤ 140737488355328 := by omega
    have hnd := number_den 58 t ht
    obtain ⟨b1, b2, b3⟩ := hB
    unfold linesF
    refine loop_step fun K hK => ?_
    cases hq : numF 58 t with
    | none =>
      rw [hq] at hnd
      simp [L58x0, hb6, b1, hlt, hnd]
      exact ⟨rfl, rfl, ⟨out, p2, by simp [b2]⟩, ⟨0, by simp [b3]⟩, by simp, by simp⟩
    | some mr =>
      obtain ⟨m, r⟩ := mr
      rw [hq] at hnd
      obtain ⟨hm0, hmr, hrl⟩ := numF_spec hq
      by_cases hle : m ≤ r.length
      · have hlen : (ls ++ [AV.str (r.take m.toNat)]).length = i + 1 := by simp [hls]
        have hdl : (r.drop m.toNat).length ≤ 1099511627776 := by rw [List.length_drop]; omega
        have hdl2 : (r.drop m.toNat).length ≤ t.length := by rw [List.length_drop]; omega
        rcases hp with rfl | ⟨v, rfl, hpm⟩
        · simp [L58x0, hb6, b1, b2, b3, hlt, hnd, hle, or_true_den, hm0, hsz, hc]
          rw [hK]
          refine Res.eqv (fun ex st h => LinesR.step h ?_ hdl2) (lines_loop n v6 hn out p2 k (i + 1) _ (r.drop m.toNat) (ls ++ [.str (r.take m.toNat)]) (.tok 52 (nextP pm 52)) _ _ ?_ ?_ hdl ⟨?_, ?_, ?_⟩ ?_ ?_ hlen)
          · simp
          · simp
          · omega
          · simp
          · simp [b2]
          · simp [b3]
          · simp
          · exact .inr ⟨_, rfl, by simp⟩
        · simp [L58x0, hb6, b1, b2, b3, hlt, hnd, hle, or_true_den, hm0, hsz, hc, hpm]
          rw [hK]
          refine Res.eqv (fun ex st h => LinesR.step h ?_ hdl2) (lines_loop n v6 hn out p2 k (i + 1) _ (r.drop m.toNat) (ls ++ [.str (r.take m.toNat)]) (.tok 52 (v + 1)) _ _ ?_ ?_ hdl ⟨?_, ?_, ?_⟩ ?_ ?_ hlen)
          · simp
          · simp
          · omega
          · simp
          · simp [b2]
          · simp [b3]
          · simp
          · exact .inr ⟨_, rfl, by simp⟩
      · simp [L58x0, hb6, b1, b2, b3, hlt, hnd, hle, or_false_den]
        exact ⟨rfl, rfl, ⟨out, p2, by simp [b2]⟩, ⟨0, by simp [b3]⟩, by simp, by simp⟩
theorem lines_skip (o : Int) (ho : ¬ o = 3) (v6 : Nat) (bx : Bx) (pm : Pm) (df : Option (Nat × List AV)) : RunD Sy (.loop L58x0) ⟨envD [(5, .int .i64 o), (6, .ptr 6 v6 0), (7, .int .i64 0)], bx, pm, df⟩ = some (.exit 2, ⟨envD [(5, .int .i64 o), (6, .ptr 6 v6 0), (7, .int .i64 0), (36, .bool false)], bx, pm, df⟩) := by
  rw [RunD_loop]
  simp [L58x0, ho]
set_option maxHeartbeats 2000000 in
theorem dec_loop : ∀ (k : Nat) (t : List UInt8) (out : List AV) (p : Perm) (bx : Bx) (pm : Pm), t.length ≤ k → k ≤ 1099511627776 → Boxes bx t out p → AppAt 60 pm p → out.length + k ≤ 1099511627776 →
    Res (RunD Sy (.loop L58x1) ⟨envD [], bx, pm, dfD⟩) fun ex st' => DecR out ex st' (decL k t)
  | k, [], out, p, bx, pm, ht, hk, hB, hp, ho => by
    have e : decL k [] = some [] := by cases k <;> rfl
    rw [e, RunD_loop]
    obtain ⟨b1, b2, b3⟩ := hB
    simp [L58x1, b1]
    exact ⟨rfl, _, bx, pm, p, rfl, by simp, by simp, b1, by simpa using b2, b3⟩
  | 0, c :: r, out, p, bx, pm, ht, hk, hB, hp, ho => by simp at ht
  | k + 1, c :: r, out, p, bx, pm, ht, hk, hB, hp, ho => by
    have hrl : r.length ≤ k := by simpa using ht
    have hnd := number_den 59 r (by omega)
    have hop := indexByte_den [63, 61, 45, 43] c
    have hsz : (out.length + 1) * 40 ≤ 140737488355328 := by omega
    have hoe : Lib.indexByte [63, 61, 45, 43] c = opF c := rfl
    rw [hoe] at hop
    obtain ⟨b1, b2, b3⟩ := hB
    refine loop_step fun K hK => ?_
    by_cases h0 : 0 < opF c
    · cases hq : numF 59 r with
      | none =>
        have hd : decL (k + 1) (c :: r) = none := by simp [decL, editF, h0, hq]
        rw [hq] at hnd
        rw [hd]
        simp [L58x1, b1, b2, b3, hop, h0, or_true_den, hnd]
        exact ⟨rfl, rfl, ⟨out, p, by simp [b2]⟩, ⟨0, by simp [b3]⟩, by simp, by simp⟩
      | some nu =>
        obtain ⟨n, u⟩ := nu
        obtain ⟨hn0, hnr, hul⟩ := numF_spec hq
        by_cases hle : n ≤ 1048576
        · by_cases h3 : opF c = 3
          · obtain ⟨m, rfl⟩ : ∃ m : Nat, n = m := ⟨n.toNat, by omega⟩
            obtain ⟨ex, st', hL, hR⟩ := lines_loop m (nextB (upd (upd bx 1 (0, [AV.str r])) 1 (0, [AV.str u])) 6) (by omega) out p m 0 0 u [] .nil (upd (upd (upd (upd bx 1 (0, [AV.str r])) 1 (0, [AV.str u])) 6 (nextB (upd (upd bx 1 (0, [AV.str r])) 1 (0, [AV.str u])) 6, [AV.int .i64 0, AV.int .i64 0, AV.sl 1 [] .nil])) 6 (nextB (upd (upd bx 1 (0, [AV.str r])) 1 (0, [AV.str u])) 6, [AV.int .i64 3, AV.int .i64 m, AV.sl 1 [] .nil])) pm rfl (by omega) (by omega) ⟨by simp, by simp [b2], by simp [b3]⟩ (by simp) (.inl rfl) rfl
            rw [hq] at hnd
            cases hlf : linesF m u with
            | none =>
              have hd : decL (k + 1) (c :: r) = none := by simp [decL, editF, h0, hq, hle, h3, hlf]
              rw [hlf] at hR
              obtain ⟨rfl, hdf, hb2, hb3, he2, he3⟩ := hR
              rw [hd]
              simp [L58x1, b1, b2, b3, hop, h0, or_true_den, hnd, hle, h3, hL]
              exact ⟨rfl, hdf, hb2, hb3, he2, he3⟩
            | some Lw =>
              obtain ⟨L, w⟩ := Lw
              have hd : decL (k + 1) (c :: r) = (decL k w).map ((⟨3, m, L⟩ : Edit) :: ·) := by simp [decL, editF, h0, hq, hle, h3, hlf]
              rw [hlf] at hR
              obtain ⟨rfl, bx', pm', p', rfl, ⟨c1, c2, c3⟩, c6, hpm60, hwl⟩ := hR
              have hwk : w.length ≤ k := by omega
              rw [hd]
              have hol : (out ++ [eE ⟨3, m, L⟩]).length + k ≤ 1099511627776 := by simp; omega
              rcases hp with rfl | ⟨v, rfl, hpm⟩
              · simp [L58x1, b1, b2, b3, hop, h0, or_true_den, hnd, hle, h3, hL, c1, c2, c3, c6, hsz]
                rw [hK]
                refine Res.eqv (fun ex st h => DecR.step h) (dec_loop k w (out ++ [eE ⟨3, m, L⟩]) (.tok 60 (nextP pm' 60)) _ _ hwk (by omega) ⟨?_, ?_, ?_⟩ ?_ hol)
                · simp [c1]
                · simp [eE]
                · simp [c3]
                · exact .inr ⟨_, rfl, by simp⟩
              · simp [L58x1, b1, b2, b3, hop, h0, or_true_den, hnd, hle, h3, hL, c1, c2, c3, c6, hsz, hpm60, hpm]
                rw [hK]
                refine Res.eqv (fun ex st h => DecR.step h) (dec_loop k w (out ++ [eE ⟨3, m, L⟩]) (.tok 60 (v + 1)) _ _ hwk (by omega) ⟨?_, ?_, ?_⟩ ?_ hol)
                · simp [c1]
                · simp [eE]
                · simp [c3]
                · exact .inr ⟨_, rfl, by simp⟩
          · have hsk := lines_skip (opF c) h3 (nextB (upd (upd bx 1 (0, [AV.str r])) 1 (0, [AV.str u])) 6) (upd (upd (upd (upd bx 1 (0, [AV.str r])) 1 (0, [AV.str u])) 6 (nextB (upd (upd bx 1 (0, [AV.str r])) 1 (0, [AV.str u])) 6, [AV.int .i64 0, AV.int .i64 0, AV.sl 1 [] .nil])) 6 (nextB (upd (upd bx 1 (0, [AV.str r])) 1 (0, [AV.str u])) 6, [AV.int .i64 (opF c), AV.int .i64 n, AV.sl 1 [] .nil])) pm dfD
            have hd : decL (k + 1) (c :: r) = (decL k u).map ((⟨opF c, n, []⟩ : Edit) :: ·) := by simp [decL, editF, h0, hq, hle, h3]
            rw [hq] at hnd
            rw [hd]
            have hwk : u.length ≤ k := by omega
            have hol : (out ++ [eE ⟨opF c, n, []⟩]).length + k ≤ 1099511627776 := by simp; omega
            rcases hp with rfl | ⟨v, rfl, hpm⟩
            · simp [L58x1, b1, b2, b3, hop, h0, or_true_den, hnd, hle, h3, hsk, hsz]
              rw [hK]
              refine Res.eqv (fun ex st h => DecR.step h) (dec_loop k u (out ++ [eE ⟨opF c, n, []⟩]) (.tok 60 (nextP pm 60)) _ _ hwk (by omega) ⟨?_, ?_, ?_⟩ ?_ hol)
              · simp
              · simp [eE]
              · simp [b3]
              · exact .inr ⟨_, rfl, by simp⟩
            · simp [L58x1, b1, b2, b3, hop, h0, or_true_den, hnd, hle, h3, hsk, hsz, hpm]
              rw [hK]
              refine Res.eqv (fun ex st h => DecR.step h) (dec_loop k u (out ++ [eE ⟨opF c, n, []⟩]) (.tok 60 (v + 1)) _ _ hwk (by omega) ⟨?_, ?_, ?_⟩ ?_ hol)
              · simp
              · simp [eE]
              · simp [b3]
              · exact .inr ⟨_, rfl, by simp⟩
        · have hd : decL (k + 1) (c :: r) = none := by simp [decL, editF, h0, hq, hle]
          rw [hq] at hnd
          rw [hd]
          simp [L58x1, b1, b2, b3, hop, h0, or_true_den, or_false_den, hnd, hle]
          exact ⟨rfl, rfl, ⟨out, p, by simp [b2]⟩, ⟨0, by simp [b3]⟩, by simp, by simp⟩
    · have hd : decL (k + 1) (c :: r) = none := by simp [decL, editF, h0]
      rw [hd]
      simp [L58x1, b1, b2, b3, hop, h0, or_false_den]
      exact ⟨rfl, rfl, ⟨out, p, by simp [b2]⟩, ⟨0, by simp [b3]⟩, by simp, by simp⟩
theorem catch_true (xs : List AV) (p : Perm) (n : Int) : Den Sy 84 [.bool true, .ref 0 [.sl 3 xs p], .ref 0 [.int .i64 n]] = some (.rcv [[.sl 3 [] .nil], [.int .i64 11]]) := by rw [Den_ext Sy (F := catchFS) rfl]; rfl
theorem catch_false (xs : List AV) (p : Perm) (n : Int) : Den Sy 84 [.bool false, .ref 0 [.sl 3 xs p], .ref 0 [.int .i64 n]] = some (.rcv [[.sl 3 xs p], [.int .i64 n]]) := by rw [Den_ext Sy (F := catchFS) rfl]; rfl
theorem decode_den (t : List UInt8) (ht : t.length ≤ 549755813888) : Den Sy 58 [.str t] = some (match decF t with
      | some s => .tup [sE s, .int .i64 0]
      | none => .tup [sE [], .int .i64 11]) := by
  rw [Den_fun Sy (af := A58) rfl rfl _ rfl]
  obtain ⟨ex, st', hL, hR⟩ := dec_loop t.length t [] .nil (upd (upd (upd (ofL []) 1 (0, [AV.str t])) 2 (0, [AV.sl 3 [] .nil])) 3 (0, [AV.int .i64 0])) none' (Nat.le_refl _) (by omega) ⟨by simp, by simp, by simp⟩ (.inl rfl) (by simp; omega)
  unfold decF
  cases hd : decL t.length t with
  | none =>
    rw [hd] at hR
    obtain ⟨rfl, hdf, ⟨xs, p, hb2⟩, ⟨n, hb3⟩, he2, he3⟩ := hR
    simp [A58, nextB, RunD_dfr', hL, hdf, hb2, hb3, he2, he3, catch_true]
  | some s =>
    rw [hd] at hR
    obtain ⟨rfl, e, bx', pm', p', rfl, h2, h3, ⟨c1, c2, c3⟩⟩ := hR
    have hlen := decL_len hd
    have hrd := right_den s (by omega)
    by_cases hr : rightB s = true
    · simp [A58, nextB, RunD_dfr', hL, h2, h3, c2, c3, hrd, hr, or_true_den, catch_false]
    · simp [A58, nextB, RunD_dfr', hL, h2, h3, c2, c3, hrd, hr, or_false_den, catch_true]
end Go.Proofs.YtdjgdipmjbkilaaGreatDoor.Rx.D
