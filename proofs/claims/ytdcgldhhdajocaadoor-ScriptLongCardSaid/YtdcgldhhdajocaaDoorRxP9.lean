/-
  The script's laws, plain, 9: the script of bytes.
-/
import Derived.Test.YtdcgldhhdajocaaDoorRxP8
namespace Go.Proofs.YtdcgldhhdajocaaDoor.Rx
open Go
set_option linter.unusedSimpArgs false
set_option linter.unusedVariables false

theorem nn5 (n : Nat) : 1 ≤ (n : Int) + 1 := by omega
attribute [simp] nn5
theorem numF_spec {c : UInt8} {t r : List UInt8} {m : Int} (h : numF c t = some (m, r)) : 0 ≤ m ∧ inR m ∧ r.length < t.length := by
  unfold numF at h
  have hb := idx_lt t c
  split at h
  · split at h
    · rename_i hv
      split at h
      · rename_i h2
        simp only [Option.some.injEq, Prod.mk.injEq] at h
        obtain ⟨rfl, rfl⟩ := h
        exact ⟨h2.1, atoi_in hv, by rw [List.length_drop]; omega⟩
      · simp at h
    · simp at h
  · simp at h
def linesF : Nat → List UInt8 → Option (List (List UInt8) × List UInt8)
  | 0, t => some ([], t)
  | n + 1, t => match numF 58 t with
    | some (m, r) => if m ≤ r.length then (linesF n (r.drop m.toNat)).map fun p => (r.take m.toNat :: p.1, p.2) else none
    | none => none
def opF (c : UInt8) : Int := Lib.indexByte [63, 61, 45, 43] c
/-- The edit with which bytes begin, and what stands behind it. -/
def editF : List UInt8 → Option (Edit × List UInt8)
  | [] => none
  | c :: r => if 0 < opF c then match numF 59 r with
      | some (n, u) => if n ≤ 1048576 then (if opF c = 3 then match linesF n.toNat u with
            | some (ls, v) => some (⟨3, n, ls⟩, v)
            | none => none
          else some (⟨opF c, n, []⟩, u)) else none
      | none => none
    else none
def decL : Nat → List UInt8 → Option (List Edit)
  | _, [] => some []
  | 0, _ :: _ => none
  | k + 1, c :: r => match editF (c :: r) with
    | some (e, t) => (decL k t).map (e :: ·)
    | none => none
def decF (t : List UInt8) : Option (List Edit) := match decL t.length t with
  | some s => if rightB s = true then some s else none
  | none => none

/-- What may be appended to, by the one mark. -/
def AppAt (d : Nat) (pm : Pm) (p : Perm) : Prop := p = .nil ∨ ∃ v, p = .tok d v ∧ pm d = some (v, true)
abbrev envD (l : List (Nat × AV)) : Env := ofL ((1, .ptr 1 0 0) :: (2, .ptr 2 0 0) :: (3, .ptr 3 0 0) :: (4, .clo 44 [.ptr 1 0 0]) :: l)
abbrev dfD : Option (Nat × List AV) := some (43, [.ptr 2 0 0, .ptr 3 0 0])
/-- It has gone up: what is put off finds its boxes. -/
structure Fell (ex : Ex) (st' : St) : Prop where
  pan : ex = .pan
  df : st'.df = dfD
  b2 : ∃ xs p, st'.bx 2 = some (0, [.sl 3 xs p])
  b3 : ∃ n, st'.bx 3 = some (0, [.int .i64 n])
  e2 : st'.env 2 = some (.ptr 2 0 0)
  e3 : st'.env 3 = some (.ptr 3 0 0)
structure Boxes (bx : Bx) (t : List UInt8) (out : List AV) (p : Perm) : Prop where
  b1 : bx 1 = some (0, [.str t])
  b2 : bx 2 = some (0, [.sl 3 out p])
  b3 : bx 3 = some (0, [.int .i64 0])
def LinesR (n v6 : Nat) (out : List AV) (p2 : Perm) (t : List UInt8) (ls : List AV) (pm : Pm) (ex : Ex) (st' : St) : Option (List (List UInt8) × List UInt8) → Prop
  | some (L, r) => ex = .exit 2 ∧ ∃ bx' pm' p', st' = ⟨envD [(5, .int .i64 3), (6, .ptr 6 v6 0), (7, .int .i64 n), (36, .bool false)], bx', pm', dfD⟩ ∧ Boxes bx' r out p2 ∧ bx' 6 = some (v6, [.int .i64 3, .int .i64 n, .sl 1 (ls ++ L.map .str) p']) ∧ pm' 60 = pm 60 ∧ r.length ≤ t.length
  | none => Fell ex st'
theorem LinesR.step {n v6 : Nat} {out : List AV} {p2 : Perm} {t t' : List UInt8} {ls : List AV} {pm pm' : Pm} {ex : Ex} {st' : St} {x : List UInt8} {o : Option (List (List UInt8) × List UInt8)} (h : LinesR n v6 out p2 t' (ls ++ [.str x]) pm' ex st' o) (hpm : pm' 60 = pm 60) (ht : t'.length ≤ t.length) :
    LinesR n v6 out p2 t ls pm ex st' (o.map fun p => (x :: p.1, p.2)) := by
  cases o with
  | none => exact h
  | some Lr =>
    obtain ⟨L, r⟩ := Lr
    obtain ⟨h1, bx', pm2, p', h2, h3, h4, h5, h6⟩ := h
    exact ⟨h1, bx', pm2, p', h2, h3, by rw [h4]; simp, h5.trans hpm, Nat.le_trans h6 ht⟩
theorem Res.eqv {x : Option (Ex × St)} {Q Q' : Ex → St → Prop} (h : ∀ ex st, Q ex st → Q' ex st) (k : Res x Q) : Res x Q' := by
  obtain ⟨ex, st, h1, h2⟩ := k
  exact ⟨ex, st, h1, h ex st h2⟩
set_option maxHeartbeats 1000000 in
theorem lines_loop (n v6 : Nat) (hn : n ≤ 1048576) (out : List AV) (p2 : Perm) : ∀ (k i : Nat) (j : Int) (t : List UInt8) (ls : List AV) (p6 : Perm) (bx : Bx) (pm : Pm), j = i → i + k = n → t.length ≤ 1099511627776 → Boxes bx t out p2 → bx 6 = some (v6, [.int .i64 3, .int .i64 n, .sl 1 ls p6]) → AppAt 52 pm p6 → ls.length = i →
    Res (RunD Sy (.loop L28x0) ⟨envD [(5, .int .i64 3), (6, .ptr 6 v6 0), (7, .int .i64 j)], bx, pm, dfD⟩) fun ex st' => LinesR n v6 out p2 t ls pm ex st' (linesF k t)
  | 0, i, j, t, ls, p6, bx, pm, hj, hi, ht, hB, hb6, hp, hls => by
    have : i = n := by omega
    subst this hj
    rw [RunD_loop]
    simp [L28x0, hb6, linesF]
    exact ⟨rfl, bx, pm, p6, rfl, hB, by simpa using hb6, rfl, Nat.le_refl _⟩
  | k + 1, i, j, t, ls, p6, bx, pm, hj, hi, ht, hB, hb6, hp, hls => by
    subst hj
    have hlt : (i : Int) < n := by omega
    have hc := chk_i64 ((i : Int) + 1) (by omega)
    have hsz : (ls.length + 1) * 16 ≤ 140737488355328 := by omega
    have hnd := number_den 58 t ht
    obtain ⟨b1, b2, b3⟩ := hB
    unfold linesF
    refine loop_step fun K hK => ?_
    cases hq : numF 58 t with
    | none =>
      rw [hq] at hnd
      simp [L28x0, hb6, b1, hlt, hnd]
      exact ⟨rfl, rfl, ⟨out, p2, by simp [b2]⟩, ⟨0, by simp [b3]⟩, by simp, by simp⟩
    | some mr =>
      obtain ⟨m, r⟩ := mr
      rw [hq] at hnd
      obtain ⟨hm0, hmr, hrl⟩ := numF_spec hq
      by_cases hle : m ≤ r.length
      · have hlen : (ls ++ [AV.str (r.take m.toNat)]).length = i + 1 := by simp [hls]
        have hdl : (r.drop m.toNat).length ≤ 1099511627776 := by rw [List.length_drop]; omega
        have hdl2 : (r.drop m.toNat).length ≤ t.length := by rw [List.length_drop]; omega
        rcases hp with rfl | ⟨v, rfl, hpm⟩
        · simp [L28x0, hb6, b1, b2, b3, hlt, hnd, hle, or_true_den, hm0, hsz, hc]
          rw [hK]
          refine Res.eqv (fun ex st h => LinesR.step h ?_ hdl2) (lines_loop n v6 hn out p2 k (i + 1) _ (r.drop m.toNat) (ls ++ [.str (r.take m.toNat)]) (.tok 52 (nextP pm 52)) _ _ ?_ ?_ hdl ⟨?_, ?_, ?_⟩ ?_ ?_ hlen)
          · simp
          · simp
          · omega
          · simp
          · simp [b2]
          · simp [b3]
          · simp
          · exact .inr ⟨_, rfl, by simp⟩
        · simp [L28x0, hb6, b1, b2, b3, hlt, hnd, hle, or_true_den, hm0, hsz, hc, hpm]
          rw [hK]
          refine Res.eqv (fun ex st h => LinesR.step h ?_ hdl2) (lines_loop n v6 hn out p2 k (i + 1) _ (r.drop m.toNat) (ls ++ [.str (r.take m.toNat)]) (.tok 52 (v + 1)) _ _ ?_ ?_ hdl ⟨?_, ?_, ?_⟩ ?_ ?_ hlen)
          · simp
          · simp
          · omega
          · simp
          · simp [b2]
          · simp [b3]
          · simp
          · exact .inr ⟨_, rfl, by simp⟩
      · simp [L28x0, hb6, b1, b2, b3, hlt, hnd, hle, or_false_den]
        exact ⟨rfl, rfl, ⟨out, p2, by simp [b2]⟩, ⟨0, by simp [b3]⟩, by simp, by simp⟩
theorem linesF_len : ∀ {n : Nat} {t r : List UInt8} {L : List (List UInt8)}, linesF n t = some (L, r) → L.length = n ∧ r.length ≤ t.length
  | 0, t, r, L, h => by
    simp only [linesF, Option.some.injEq, Prod.mk.injEq] at h
    obtain ⟨rfl, rfl⟩ := h
    exact ⟨rfl, Nat.le_refl _⟩
  | n + 1, t, r, L, h => by
    unfold linesF at h
    split at h
    · rename_i m u hq
      obtain ⟨_, _, hl⟩ := numF_spec hq
      split at h
      · obtain ⟨⟨L', r'⟩, h1, h2⟩ := Option.map_eq_some_iff.1 h
        simp only [Prod.mk.injEq] at h2
        obtain ⟨rfl, rfl⟩ := h2
        obtain ⟨h3, h4⟩ := linesF_len h1
        rw [List.length_drop] at h4
        exact ⟨by simp [h3], by omega⟩
      · simp at h
    · simp at h
theorem editF_len {t r : List UInt8} {e : Edit} (h : editF t = some (e, r)) : r.length < t.length := by
  unfold editF at h
  split at h
  · simp at h
  · split at h
    · split at h
      · rename_i c u n v hq
        obtain ⟨_, _, hl⟩ := numF_spec hq
        split at h
        · split at h
          · split at h
            · rename_i ls w hw
              simp only [Option.some.injEq, Prod.mk.injEq] at h
              obtain ⟨rfl, rfl⟩ := h
              have := (linesF_len hw).2
              simp only [List.length_cons]
              omega
            · simp at h
          · simp only [Option.some.injEq, Prod.mk.injEq] at h
            obtain ⟨rfl, rfl⟩ := h
            simp only [List.length_cons]
            omega
        · simp at h
      · simp at h
    · simp at h

def DecR (out : List AV) (ex : Ex) (st' : St) : Option (List Edit) → Prop
  | some L => ex = .exit 0 ∧ ∃ e bx' pm' p', st' = ⟨e, bx', pm', dfD⟩ ∧ e 2 = some (.ptr 2 0 0) ∧ e 3 = some (.ptr 3 0 0) ∧ Boxes bx' [] (out ++ L.map eE) p'
  | none => Fell ex st'
theorem DecR.step {out : List AV} {x : Edit} {ex : Ex} {st' : St} {o : Option (List Edit)} (h : DecR (out ++ [eE x]) ex st' o) : DecR out ex st' (o.map (x :: ·)) := by
  cases o with
  | none => exact h
  | some L =>
    obtain ⟨h1, e, bx', pm', p', h2, h3, h4, h5⟩ := h
    exact ⟨h1, e, bx', pm', p', h2, h3, h4, by simpa using h5⟩
theorem lines_skip (o : Int) (ho : ¬ o = 3) (v6 : Nat) (bx : Bx) (pm : Pm) (df : Option (Nat × List AV)) : RunD Sy (.loop L28x0) ⟨envD [(5, .int .i64 o), (6, .ptr 6 v6 0), (7, .int .i64 0)], bx, pm, df⟩ = some (.exit 2, ⟨envD [(5, .int .i64 o), (6, .ptr 6 v6 0), (7, .int .i64 0), (36, .bool false)], bx, pm, df⟩) := by
  rw [RunD_loop]
  simp [L28x0, ho]
set_option maxHeartbeats 2000000 in
theorem dec_loop : ∀ (k : Nat) (t : List UInt8) (out : List AV) (p : Perm) (bx : Bx) (pm : Pm), t.length ≤ k → k ≤ 1099511627776 → Boxes bx t out p → AppAt 60 pm p → out.length + k ≤ 1099511627776 →
    Res (RunD Sy (.loop L28x1) ⟨envD [], bx, pm, dfD⟩) fun ex st' => DecR out ex st' (decL k t)
  | k, [], out, p, bx, pm, ht, hk, hB, hp, ho => by
    have e : decL k [] = some [] := by cases k <;> rfl
    rw [e, RunD_loop]
    obtain ⟨b1, b2, b3⟩ := hB
    simp [L28x1, b1]
    exact ⟨rfl, _, bx, pm, p, rfl, by simp, by simp, b1, by simpa using b2, b3⟩
  | 0, c :: r, out, p, bx, pm, ht, hk, hB, hp, ho => by simp at ht
  | k + 1, c :: r, out, p, bx, pm, ht, hk, hB, hp, ho => by
    have hrl : r.length ≤ k := by simpa using ht
    have hnd := number_den 59 r (by omega)
    have hop := indexByte_den [63, 61, 45, 43] c
    have hsz : (out.length + 1) * 40 ≤ 140737488355328 := by omega
    have hoe : Lib.indexByte [63, 61, 45, 43] c = opF c := rfl
    rw [hoe] at hop
    obtain ⟨b1, b2, b3⟩ := hB
    refine loop_step fun K hK => ?_
    by_cases h0 : 0 < opF c
    · cases hq : numF 59 r with
      | none =>
        have hd : decL (k + 1) (c :: r) = none := by simp [decL, editF, h0, hq]
        rw [hq] at hnd
        rw [hd]
        simp [L28x1, b1, b2, b3, hop, h0, or_true_den, hnd]
        exact ⟨rfl, rfl, ⟨out, p, by simp [b2]⟩, ⟨0, by simp [b3]⟩, by simp, by simp⟩
      | some nu =>
        obtain ⟨n, u⟩ := nu
        obtain ⟨hn0, hnr, hul⟩ := numF_spec hq
        by_cases hle : n ≤ 1048576
        · by_cases h3 : opF c = 3
          · obtain ⟨m, rfl⟩ : ∃ m : Nat, n = m := ⟨n.toNat, by omega⟩
            obtain ⟨ex, st', hL, hR⟩ := lines_loop m (nextB (upd (upd bx 1 (0, [AV.str r])) 1 (0, [AV.str u])) 6) (by omega) out p m 0 0 u [] .nil (upd (upd (upd (upd bx 1 (0, [AV.str r])) 1 (0, [AV.str u])) 6 (nextB (upd (upd bx 1 (0, [AV.str r])) 1 (0, [AV.str u])) 6, [AV.int .i64 0, AV.int .i64 0, AV.sl 1 [] .nil])) 6 (nextB (upd (upd bx 1 (0, [AV.str r])) 1 (0, [AV.str u])) 6, [AV.int .i64 3, AV.int .i64 m, AV.sl 1 [] .nil])) pm rfl (by omega) (by omega) ⟨by simp, by simp [b2], by simp [b3]⟩ (by simp) (.inl rfl) rfl
            rw [hq] at hnd
            cases hlf : linesF m u with
            | none =>
              have hd : decL (k + 1) (c :: r) = none := by simp [decL, editF, h0, hq, hle, h3, hlf]
              rw [hlf] at hR
              obtain ⟨rfl, hdf, hb2, hb3, he2, he3⟩ := hR
              rw [hd]
              simp [L28x1, b1, b2, b3, hop, h0, or_true_den, hnd, hle, h3, hL]
              exact ⟨rfl, hdf, hb2, hb3, he2, he3⟩
            | some Lw =>
              obtain ⟨L, w⟩ := Lw
              have hd : decL (k + 1) (c :: r) = (decL k w).map ((⟨3, m, L⟩ : Edit) :: ·) := by simp [decL, editF, h0, hq, hle, h3, hlf]
              rw [hlf] at hR
              obtain ⟨rfl, bx', pm', p', rfl, ⟨c1, c2, c3⟩, c6, hpm60, hwl⟩ := hR
              have hwk : w.length ≤ k := by omega
              rw [hd]
              have hol : (out ++ [eE ⟨3, m, L⟩]).length + k ≤ 1099511627776 := by simp; omega
              rcases hp with rfl | ⟨v, rfl, hpm⟩
              · simp [L28x1, b1, b2, b3, hop, h0, or_true_den, hnd, hle, h3, hL, c1, c2, c3, c6, hsz]
                rw [hK]
                refine Res.eqv (fun ex st h => DecR.step h) (dec_loop k w (out ++ [eE ⟨3, m, L⟩]) (.tok 60 (nextP pm' 60)) _ _ hwk (by omega) ⟨?_, ?_, ?_⟩ ?_ hol)
                · simp [c1]
                · simp [eE]
                · simp [c3]
                · exact .inr ⟨_, rfl, by simp⟩
              · simp [L28x1, b1, b2, b3, hop, h0, or_true_den, hnd, hle, h3, hL, c1, c2, c3, c6, hsz, hpm60, hpm]
                rw [hK]
                refine Res.eqv (fun ex st h => DecR.step h) (dec_loop k w (out ++ [eE ⟨3, m, L⟩]) (.tok 60 (v + 1)) _ _ hwk (by omega) ⟨?_, ?_, ?_⟩ ?_ hol)
                · simp [c1]
                · simp [eE]
                · simp [c3]
                · exact .inr ⟨_, rfl, by simp⟩
          · have hsk := lines_skip (opF c) h3 (nextB (upd (upd bx 1 (0, [AV.str r])) 1 (0, [AV.str u])) 6) (upd (upd (upd (upd bx 1 (0, [AV.str r])) 1 (0, [AV.str u])) 6 (nextB (upd (upd bx 1 (0, [AV.str r])) 1 (0, [AV.str u])) 6, [AV.int .i64 0, AV.int .i64 0, AV.sl 1 [] .nil])) 6 (nextB (upd (upd bx 1 (0, [AV.str r])) 1 (0, [AV.str u])) 6, [AV.int .i64 (opF c), AV.int .i64 n, AV.sl 1 [] .nil])) pm dfD
            have hd : decL (k + 1) (c :: r) = (decL k u).map ((⟨opF c, n, []⟩ : Edit) :: ·) := by simp [decL, editF, h0, hq, hle, h3]
            rw [hq] at hnd
            rw [hd]
            have hwk : u.length ≤ k := by omega
            have hol : (out ++ [eE ⟨opF c, n, []⟩]).length + k ≤ 1099511627776 := by simp; omega
            rcases hp with rfl | ⟨v, rfl, hpm⟩
            · simp [L28x1, b1, b2, b3, hop, h0, or_true_den, hnd, hle, h3, hsk, hsz]
              rw [hK]
              refine Res.eqv (fun ex st h => DecR.step h) (dec_loop k u (out ++ [eE ⟨opF c, n, []⟩]) (.tok 60 (nextP pm 60)) _ _ hwk (by omega) ⟨?_, ?_, ?_⟩ ?_ hol)
              · simp
              · simp [eE]
              · simp [b3]
              · exact .inr ⟨_, rfl, by simp⟩
            · simp [L28x1, b1, b2, b3, hop, h0, or_true_den, hnd, hle, h3, hsk, hsz, hpm]
              rw [hK]
              refine Res.eqv (fun ex st h => DecR.step h) (dec_loop k u (out ++ [eE ⟨opF c, n, []⟩]) (.tok 60 (v + 1)) _ _ hwk (by omega) ⟨?_, ?_, ?_⟩ ?_ hol)
              · simp
              · simp [eE]
              · simp [b3]
              · exact .inr ⟨_, rfl, by simp⟩
        · have hd : decL (k + 1) (c :: r) = none := by simp [decL, editF, h0, hq, hle]
          rw [hq] at hnd
          rw [hd]
          simp [L28x1, b1, b2, b3, hop, h0, or_true_den, or_false_den, hnd, hle]
          exact ⟨rfl, rfl, ⟨out, p, by simp [b2]⟩, ⟨0, by simp [b3]⟩, by simp, by simp⟩
    · have hd : decL (k + 1) (c :: r) = none := by simp [decL, editF, h0]
      rw [hd]
      simp [L28x1, b1, b2, b3, hop, h0, or_false_den]
      exact ⟨rfl, rfl, ⟨out, p, by simp [b2]⟩, ⟨0, by simp [b3]⟩, by simp, by simp⟩
theorem catch_true (xs : List AV) (p : Perm) (n : Int) : Den Sy 43 [.bool true, .ref 0 [.sl 3 xs p], .ref 0 [.int .i64 n]] = some (.rcv [[.sl 3 [] .nil], [.int .i64 11]]) := by rw [Den_ext Sy (F := catchF) rfl]; rfl
theorem catch_false (xs : List AV) (p : Perm) (n : Int) : Den Sy 43 [.bool false, .ref 0 [.sl 3 xs p], .ref 0 [.int .i64 n]] = some (.rcv [[.sl 3 xs p], [.int .i64 n]]) := by rw [Den_ext Sy (F := catchF) rfl]; rfl
theorem decL_len : ∀ {k : Nat} {t : List UInt8} {s : List Edit}, decL k t = some s → s.length ≤ t.length
  | k, [], s, h => by
    have e : decL k [] = some [] := by cases k <;> rfl
    rw [e] at h
    simp only [Option.some.injEq] at h
    subst h
    simp
  | 0, c :: r, s, h => by simp [decL] at h
  | k + 1, c :: r, s, h => by
    simp only [decL] at h
    split at h
    · rename_i e t he
      obtain ⟨l, h1, rfl⟩ := Option.map_eq_some_iff.1 h
      have h2 := decL_len h1
      have h3 := editF_len he
      simp only [List.length_cons] at h3 ⊢
      omega
    · simp at h
theorem RunD_dfr' (S : Sys) (d f : Nat) (caps : List Opd) (st : St) : RunD S (.dfr d f caps) st = match st.df, evos st.env caps with
    | none, some l => some (.nrm, { st with env := upd st.env d .opq, df := some (f, l) })
    | _, _ => none := by rw [RunD_dfr]; rfl
theorem decode_den (t : List UInt8) (ht : t.length ≤ 549755813888) : Den Sy 28 [.str t] = some (match decF t with
      | some s => .tup [sE s, .int .i64 0]
      | none => .tup [sE [], .int .i64 11]) := by
  rw [Den_fun Sy (af := A28) rfl rfl _ rfl]
  obtain ⟨ex, st', hL, hR⟩ := dec_loop t.length t [] .nil (upd (upd (upd (ofL []) 1 (0, [AV.str t])) 2 (0, [AV.sl 3 [] .nil])) 3 (0, [AV.int .i64 0])) none' (Nat.le_refl _) (by omega) ⟨by simp, by simp, by simp⟩ (.inl rfl) (by simp; omega)
  unfold decF
  cases hd : decL t.length t with
  | none =>
    rw [hd] at hR
    obtain ⟨rfl, hdf, ⟨xs, p, hb2⟩, ⟨n, hb3⟩, he2, he3⟩ := hR
    simp [A28, nextB, RunD_dfr', hL, hdf, hb2, hb3, he2, he3, catch_true]
  | some s =>
    rw [hd] at hR
    obtain ⟨rfl, e, bx', pm', p', rfl, h2, h3, ⟨c1, c2, c3⟩⟩ := hR
    have hlen := decL_len hd
    have hrd := right_den s (by omega)
    by_cases hr : rightB s = true
    · simp [A28, nextB, RunD_dfr', hL, h2, h3, c2, c3, hrd, hr, or_true_den, catch_false]
    · simp [A28, nextB, RunD_dfr', hL, h2, h3, c2, c3, hrd, hr, or_false_den, catch_true]
end Go.Proofs.YtdcgldhhdajocaaDoor.Rx
