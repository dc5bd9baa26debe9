/-
  The script's laws, plain, 3: what a script makes of lines.
-/
import Derived.Test.YtdcgldhhdajocaaDoorRxP2
namespace Go.Proofs.YtdcgldhhdajocaaDoor.Rx
open Go
set_option linter.unusedSimpArgs false
set_option linter.unusedVariables false
attribute [simp] slc bnd optv

/-- What may be appended to. -/
def AppOk (pm : Pm) (p : Perm) : Prop := p = .nil ∨ ∃ s v, p = .tok s v ∧ pm s = some (v, true)
theorem AppOk.tok {pm : Pm} {s v : Nat} (h : pm s = some (v, true)) : AppOk pm (.tok s v) := .inr ⟨s, v, rfl, h⟩
theorem AppOk.nil (pm : Pm) : AppOk pm .nil := .inl rfl
theorem isSl_pub (k : Nat) (xs : List AV) (p : Perm) : (AV.sl k xs p).pub = .sl k xs .no := rfl

def applyA : List Edit → List AV → List AV
  | [], _ => []
  | e :: r, a => if e.op = 1 then a.take e.n.toNat ++ applyA r (a.drop e.n.toNat) else if e.op = 2 then applyA r (a.drop e.n.toNat) else e.ls.map .str ++ applyA r a
def applyF (s : List Edit) (n : Nat) (a : List AV) : List AV := if fitsF s n = 0 then applyA s a else []
theorem many_nn (a b : Int) {s : List Edit} (h : ∀ e ∈ s, mayB e = true) : 0 ≤ many a b s := (many_le a b h).1
theorem apply_loop (s : List Edit) (hl : s.length ≤ 1048576) (hm : ∀ e ∈ s, mayB e = true) : ∀ (rest pre : List Edit) (a out : List AV) (p : Perm) (i : Int) (bx : Bx) (pm : Pm), s = pre ++ rest → i = pre.length → many 1 2 rest = a.length → AppOk pm p → out.length ≤ 1048576 * pre.length →
    Res (RunD Sy (.loop L21x0) ⟨ofL [(1, .sl 1 a .no), (4, .sl 1 out p), (15, sE s), (16, .int .i64 s.length), (17, .int .i64 i)], bx, pm, none⟩) fun ex st' => ex = .exit 0 ∧ st'.df = none ∧ ∃ q, st'.env 4 = some (.sl 1 (out ++ applyA rest a) q)
  | [], pre, a, out, p, i, bx, pm, hs, hi, ha, hp, ho => by
    subst hi
    rw [List.append_nil] at hs
    subst hs
    rw [RunD_loop]
    simp [L21x0, applyA]
  | e :: rest, pre, a, out, p, i, bx, pm, hs, hi, ha, hp, ho => by
    have hlt : (pre.length : Int) < s.length := by rw [hs]; simp; omega
    have hg : (s.map eE)[pre.length]? = some (eE e) := by rw [hs]; simp
    have hme := hm e (by rw [hs]; simp)
    obtain ⟨hop, hn1, hn2, hn3, _⟩ := mayB_op hme
    have hrest : ∀ x ∈ rest, mayB x = true := fun x hx => hm x (by rw [hs]; simp [hx])
    have hmn := many_nn 1 2 hrest
    simp only [eE] at hg
    subst hi
    have hc := chk_i64 ((pre.length : Int) + 1) (by omega)
    have hpl : pre.length < 1048576 := by omega
    have hn0 : 0 ≤ e.n := by omega
    rw [RunD_loop]
    have hnn : (e.n.toNat : Int) = e.n := by omega
    by_cases h1 : e.op = 1
    · have hle : e.n ≤ a.length := by simp only [many, h1] at ha; simp at ha; omega
      have hsz : (out.length + e.n.toNat) * 16 ≤ 140737488355328 := by omega
      have ha' : many 1 2 rest = (a.drop e.n.toNat).length := by simp only [many, h1] at ha; simp at ha ⊢; omega
      have hlen : (out ++ a.take e.n.toNat).length ≤ 1048576 * (pre ++ [e]).length := by simp; omega
      rcases hp with rfl | ⟨t, v, rfl, hpm⟩
      · simp [L21x0, hc, hlt, hg, applyA, eq_true h1, hn0, hle, hsz, ← List.append_assoc]
        exact apply_loop s hl hm rest (pre ++ [e]) _ _ _ _ _ _ (by simp [hs]) (by simp) ha' (AppOk.tok (by simp)) hlen
      · simp [L21x0, hc, hlt, hg, applyA, eq_true h1, hn0, hle, hsz, hpm, ← List.append_assoc]
        exact apply_loop s hl hm rest (pre ++ [e]) _ _ _ _ _ _ (by simp [hs]) (by simp) ha' (AppOk.tok (by simp)) hlen
    · by_cases h2 : e.op = 2
      · have hle : e.n ≤ a.length := by simp only [many, h2] at ha; simp at ha; omega
        have ha' : many 1 2 rest = (a.drop e.n.toNat).length := by simp only [many, h2] at ha; simp at ha ⊢; omega
        simp [L21x0, hc, hlt, hg, applyA, eq_false h1, eq_true h2, hn0, hle]
        exact apply_loop s hl hm rest (pre ++ [e]) _ _ _ _ _ _ (by simp [hs]) (by simp) ha' hp (by simp; omega)
      · have h3 : e.op = 3 := by omega
        have ha' : many 1 2 rest = a.length := by simp only [many] at ha; simpa [h1, h2] using ha
        have hel : (e.ls.length : Int) = e.n := hn3 h3
        have hsz : (out.length + e.ls.length) * 16 ≤ 140737488355328 := by omega
        have hlen : (out ++ e.ls.map AV.str).length ≤ 1048576 * (pre ++ [e]).length := by simp; omega
        rcases hp with rfl | ⟨t, v, rfl, hpm⟩
        · simp [L21x0, hc, hlt, hg, applyA, eq_false h1, eq_false h2, hsz, ← List.append_assoc]
          exact apply_loop s hl hm rest (pre ++ [e]) _ _ _ _ _ _ (by simp [hs]) (by simp) ha' (AppOk.tok (by simp)) hlen
        · simp [L21x0, hc, hlt, hg, applyA, eq_false h1, eq_false h2, hsz, hpm, ← List.append_assoc]
          exact apply_loop s hl hm rest (pre ++ [e]) _ _ _ _ _ _ (by simp [hs]) (by simp) ha' (AppOk.tok (by simp)) hlen
theorem fitsF_zero {s : List Edit} {n : Nat} (h : fitsF s n = 0) : rightB s = true ∧ many 1 2 s = n := by
  unfold fitsF at h
  split at h
  · rename_i h1
    split at h
    · rename_i h2; exact ⟨h1, h2⟩
    · simp at h
  · simp at h
theorem apply_den (s : List Edit) (hl : s.length ≤ 1048576) (a : List (List UInt8)) : Den Sy 21 [sE s, sS a] = some (.tup [.sl 1 (applyF s a.length (a.map .str)) .no, .int .i64 (fitsF s a.length)]) := by
  rw [Den_fun Sy (af := A21) rfl rfl _ rfl]
  have h0 := fits_den s (by omega) a
  by_cases hf : fitsF s a.length = 0
  · obtain ⟨hb, hm⟩ := fitsF_zero hf
    obtain ⟨ex, st', h, rfl, hd, q, hr⟩ := apply_loop s hl (rightF_may hb) s [] (a.map .str) [] .nil 0 (ofL []) none' rfl rfl (by simpa using hm) (AppOk.nil _) (by simp)
    simp [A21, h0, h, hd, hr, hf, applyF]
  · simp [A21, h0, hf, applyF]
theorem apply2_loop (s : List Edit) (hl : s.length ≤ 1048576) (hm : ∀ e ∈ s, mayB e = true) (a : List AV) (ha0 : many 1 2 s = a.length) : ∀ (rest pre : List Edit) (out : List AV) (p : Perm) (t : Nat) (i : Int) (bx : Bx) (pm : Pm), s = pre ++ rest → i = pre.length → t + many 1 2 rest = a.length → AppOk pm p → out.length ≤ 1048576 * pre.length →
    Res (RunD Sy (.loop L22x0) ⟨ofL [(0, sE s), (1, .sl 1 a .no), (7, .sl 1 out p), (8, .int .i64 t), (9, .int .i64 i)], bx, pm, none⟩) fun ex st' => ex = .exit 0 ∧ st'.df = none ∧ ∃ q, st'.env 7 = some (.sl 1 (out ++ applyA rest (a.drop t)) q)
  | [], pre, out, p, t, i, bx, pm, hs, hi, ha, hp, ho => by
    subst hi
    rw [List.append_nil] at hs
    subst hs
    rw [RunD_loop]
    simp [L22x0, applyA]
  | e :: rest, pre, out, p, t, i, bx, pm, hs, hi, ha, hp, ho => by
    have hlt : (pre.length : Int) < s.length := by rw [hs]; simp; omega
    have hg : (s.map eE)[pre.length]? = some (eE e) := by rw [hs]; simp
    have hme := hm e (by rw [hs]; simp)
    obtain ⟨hop, hn1, hn2, hn3, _⟩ := mayB_op hme
    have hrest : ∀ x ∈ rest, mayB x = true := fun x hx => hm x (by rw [hs]; simp [hx])
    have hmn := many_nn 1 2 hrest
    have hml := (many_le 1 2 hm).2
    simp only [eE] at hg
    subst hi
    have hc := chk_i64 ((pre.length : Int) + 1) (by omega)
    have hpl : pre.length < 1048576 := by omega
    obtain ⟨k, hk⟩ : ∃ k : Nat, e.n = k := ⟨e.n.toNat, by omega⟩
    rw [RunD_loop]
    by_cases h3 : e.op = 3
    · have h1 : ¬ e.op = 1 ∧ ¬ e.op = 2 := by omega
      have ha' : t + many 1 2 rest = a.length := by simp only [many] at ha; simpa [h1] using ha
      have hel : (e.ls.length : Int) = e.n := hn3 h3
      have hsz : (out.length + e.ls.length) * 16 ≤ 140737488355328 := by omega
      have hlen : (out ++ e.ls.map AV.str).length ≤ 1048576 * (pre ++ [e]).length := by simp; omega
      rcases hp with rfl | ⟨m, v, rfl, hpm⟩
      · simp [L22x0, hc, hlt, hg, applyA, eq_true h3, eq_false h1.1, eq_false h1.2, hsz, ← List.append_assoc]
        exact apply2_loop s hl hm a ha0 rest (pre ++ [e]) _ _ _ _ _ _ (by simp [hs]) (by simp) ha' (AppOk.tok (by simp)) hlen
      · simp [L22x0, hc, hlt, hg, applyA, eq_true h3, eq_false h1.1, eq_false h1.2, hsz, hpm, ← List.append_assoc]
        exact apply2_loop s hl hm a ha0 rest (pre ++ [e]) _ _ _ _ _ _ (by simp [hs]) (by simp) ha' (AppOk.tok (by simp)) hlen
    · have ho12 : e.op = 1 ∨ e.op = 2 := by omega
      have ha' : ((t + k : Nat) : Int) + many 1 2 rest = a.length := by simp only [many, eq_true ho12, if_true] at ha; omega
      have hc2 := chk_i64 ((t : Int) + k) (by omega)
      have htn : ((t : Int) + k).toNat = t + k := by omega
      by_cases h1 : e.op = 1
      · have hb1 : 0 ≤ (t : Int) + k := by omega
        have hb2 : (t : Int) + k ≤ a.length := by omega
        have hb3 : (t : Int) ≤ (t : Int) + k := by omega
        have hta : (a.take (t + k)).drop t = (a.drop t).take k := by rw [List.drop_take]; congr 1; omega
        have htl : ((a.drop t).take k).length = k := by simp; omega
        have hsz : (out.length + k) * 16 ≤ 140737488355328 := by omega
        have hmin : min k (a.length - t) = k := by omega
        have hlen : (out ++ (a.drop t).take k).length ≤ 1048576 * (pre ++ [e]).length := by rw [List.length_append, htl]; simp; omega
        rcases hp with rfl | ⟨m, v, rfl, hpm⟩
        · simp [L22x0, hc, hc2, hlt, hg, applyA, eq_false h3, eq_true h1, hk, htn, hb1, hb2, hb3, hta, hsz, hmin, ← List.append_assoc]
          exact apply2_loop s hl hm a ha0 rest (pre ++ [e]) _ _ (t + k) _ _ _ (by simp [hs]) (by simp) ha' (AppOk.tok (by simp)) hlen
        · simp [L22x0, hc, hc2, hlt, hg, applyA, eq_false h3, eq_true h1, hk, htn, hb1, hb2, hb3, hta, hsz, hmin, hpm, ← List.append_assoc]
          exact apply2_loop s hl hm a ha0 rest (pre ++ [e]) _ _ (t + k) _ _ _ (by simp [hs]) (by simp) ha' (AppOk.tok (by simp)) hlen
      · have h2 : e.op = 2 := by omega
        simp [L22x0, hc, hc2, hlt, hg, applyA, eq_false h3, eq_false h1, eq_true h2, hk]
        exact apply2_loop s hl hm a ha0 rest (pre ++ [e]) _ _ (t + k) _ _ _ (by simp [hs]) (by simp) ha' hp (by simp; omega)
theorem apply2_den (s : List Edit) (hl : s.length ≤ 1048576) (a : List (List UInt8)) : Den Sy 22 [sE s, sS a] = some (.tup [.sl 1 (applyF s a.length (a.map .str)) .no, .int .i64 (fitsF s a.length)]) := by
  rw [Den_fun Sy (af := A22) rfl rfl _ rfl]
  have h0 := fits2_den s (by omega) a
  by_cases hf : fitsF s a.length = 0
  · obtain ⟨hb, hm⟩ := fitsF_zero hf
    obtain ⟨ex, st', h, rfl, hd, q, hr⟩ := apply2_loop s hl (rightF_may hb) (a.map .str) (by simpa using hm) s [] [] .nil 0 0 (ofL []) none' rfl rfl (by simpa using hm) (AppOk.nil _) (by simp)
    simp only [Int.natCast_zero, List.nil_append, List.drop_zero] at h hr
    simp [A22, h0, h, hd, hr, hf, applyF]
  · simp [A22, h0, hf, applyF]
end Go.Proofs.YtdcgldhhdajocaaDoor.Rx
