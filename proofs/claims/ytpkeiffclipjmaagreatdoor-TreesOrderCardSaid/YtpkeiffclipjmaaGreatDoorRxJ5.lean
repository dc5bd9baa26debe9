/-
  The laws of layer 2, 5: TreesOrder.
-/
import Derived.Test.YtpkeiffclipjmaaGreatDoorRxJ4
import Derived.Test.YtpkeiffclipjmaaGreatDoorRxX1
namespace Go.Proofs.YtpkeiffclipjmaaGreatDoor.Rx
open Go
set_option linter.unusedSimpArgs false
set_option linter.unusedVariables false

theorem sort18_den (t : List It) (ht : t.length ≤ sortN) (hp : ∀ x ∈ t, x.path.length ≤ bigT) : Den Sy 18 [sI t] = some (sI (sortF t)) := by
  rw [Den_ext Sy (F := sortEx) rfl]
  simp only [sortEx, itsOf_its]
  rw [if_pos ⟨ht, hp⟩]
theorem order_loop (t s : List It) (ht : t.length ≤ 1099511627776) (hs : s.length ≤ 1099511627776) (hp : ∀ x ∈ s, x.path.length ≤ 1099511627776) (hperm : s.Perm t) (hsort : s.Pairwise LeI) (bx : Bx) (pm : Pm) : ∀ (rest pre : List It) (i : Int), s = pre ++ rest → i = pre.length →
    Res (RunD Sy (.loop L4x0) ⟨ofL [(5, .bool true), (6, sI t), (9, sI s), (10, .int .i64 i)], bx, pm, none⟩) fun ex st' => ex = .exit 0 ∧ st' = ⟨ofL [(5, .bool true), (6, sI t), (9, sI s), (10, .int .i64 s.length), (55, .bool false)], bx, pm, none⟩
  | [], pre, i, h, hi => by
    subst hi
    rw [List.append_nil] at h
    subst h
    refine loop_step fun K hK => ?_
    simp [L4x0]
  | x :: rest, pre, i, h, hi => by
    subst hi
    have hlt : (pre.length : Int) < s.length := by rw [h]; simp; omega
    have hg : (s.map iA)[pre.length]? = some (iA x) := by rw [h]; simp
    have hc := chk_i64 ((pre.length : Int) + 1) (by omega)
    have hts := times_den s hs x
    have htt := times_den t ht x
    rw [← timesF_perm hperm] at htt
    have hnx := order_loop t s ht hs hp hperm hsort bx pm rest (pre ++ [x]) ((pre.length : Int) + 1) (by simp [h]) (by simp)
    simp only [iA] at hg hts htt
    refine loop_step fun K hK => ?_
    rcases nil_or_last pre with rfl | ⟨pre', y, rfl⟩
    · simp only [List.length_nil] at hlt hg hc hnx ⊢
      have hlt' : (0 : Int) < s.length := hlt
      have hlt0 : 0 < s.length := by omega
      have hc' : chk .i64 1 = some (.int .i64 1) := hc
      simp [L4x0, -getElem?_pos, -List.getElem?_map, hlt0, hg, hc', hts, htt]
      rw [hK]
      simpa using hnx
    · have hg2 : (s.map iA)[pre'.length]? = some (iA y) := by rw [h]; simp
      have hle : LeI y x := by
        rw [h, List.pairwise_append] at hsort
        exact hsort.2.2 y (by simp) x (by simp)
      have hcm := cmp_den y.path x.path (hp y (by rw [h]; simp)) (hp x (by rw [h]; simp))
      have hle' : ¬ 0 < cmpP y.path x.path := by rw [cmp_eq]; unfold LeI at hle; omega
      have hlen : (pre' ++ [y]).length = pre'.length + 1 := by simp
      rw [hlen] at hlt hg hc hnx ⊢
      have hlt2 : (pre'.length : Int) < s.length := by omega
      have ck := chk_i64 (pre'.length : Int) (by omega)
      have hlt' : (pre'.length : Int) + 1 < s.length := by omega
      have hc' : chk .i64 ((pre'.length : Int) + 1 + 1) = some (.int .i64 ((pre'.length : Int) + 1 + 1)) := chk_i64 _ (by omega)
      simp only [iA] at hg2
      simp [L4x0, -getElem?_pos, -List.getElem?_map, hlt', hlt2, hg, hg2, hc', ck, hts, htt, hcm, hle']
      rw [hK]
      simpa using hnx
theorem order_den (raw : List Raw) (hr : ∀ x ∈ raw, x.ok) (turn : Int) (ht : inR turn) : Den Sy 4 [sR raw, .int .i64 turn] = some (.bool true) := by
  have hA := any_den raw hr
  have hn := anyF_len raw
  have hp := anyF_path raw
  generalize anyF raw = t at hA hn hp
  have p1 := pick02_den turn ((t.length : Int) + 1) ht (by omega)
  have q1 := pickF_lt turn (n := (t.length : Int) + 1) (by omega)
  obtain ⟨k, hk⟩ : ∃ k : Nat, pickF turn ((t.length : Int) + 1) = k := ⟨(pickF turn ((t.length : Int) + 1)).toNat, by omega⟩
  rw [hk] at p1 q1
  have hkl : k ≤ t.length := by omega
  have hkl' : (k : Int) ≤ t.length := by omega
  have ck := chk_i64 ((t.length : Int) + 1) (by omega)
  have hB : t.length ≤ bigP := by have : bigP = 1099511627776 := rfl; omega
  have hT : ∀ x ∈ t, x.path.length ≤ bigT := fun x hx => by have := hp x hx; have : bigT = 4294967280 := rfl; omega
  have hS := sort18_den t (by have : sortN = 19 := rfl; omega) hT
  have hperm := sortF_perm t
  have hsl := hperm.length_eq
  have hsp : ∀ x ∈ sortF t, x.path.length ≤ bigT := fun x hx => hT x (hperm.mem_iff.1 hx)
  have hsort := sortF_sorted t
  have hS2 := sort18_den (sortF t) (by have : sortN = 19 := rfl; omega) hsp
  rw [sortF_done _ hsort] at hS2
  have hu : (t.drop k ++ t.take k).Perm t := List.perm_append_comm.trans (by rw [List.take_append_drop])
  have c1 := check15_den t wide hB hT
  have c2 := check15_den (t.drop k ++ t.take k) wide (by rw [hu.length_eq]; exact hB) (fun x hx => hT x (hu.mem_iff.1 hx))
  have c3 := check15_den (sortF t) wide (by rw [hsl]; exact hB) hsp
  rw [checkF_perm hu] at c2
  rw [checkF_perm hperm] at c3
  have e1 := eqv_ft (checkF t wide) (checkF t wide)
  rw [decide_eq_true rfl] at e1
  have hsame := same_den (sortF t) (sortF t) (by rw [hsl]; have : bigP = 1099511627776 := rfl; omega)
  rw [decide_eq_true rfl] at hsame
  have hL : ∀ bx pm, RunD Sy (.loop L4x0) ⟨ofL [(5, .bool true), (6, sI t), (9, sI (sortF t)), (10, .int .i64 0)], bx, pm, none⟩ = some (.exit 0, ⟨ofL [(5, .bool true), (6, sI t), (9, sI (sortF t)), (10, .int .i64 (sortF t).length), (55, .bool false)], bx, pm, none⟩) := fun bx pm => by
    obtain ⟨ex, st, h1, rfl, rfl⟩ := order_loop t (sortF t) (by omega) (by omega) (fun x hx => by have := hsp x hx; have : bigT = 4294967280 := rfl; omega) hperm hsort bx pm (sortF t) [] 0 rfl rfl
    exact h1
  have htl : (t.map iA).take t.length = t.map iA := List.take_of_length_le (by simp)
  have hsz : t.length * 48 ≤ 140737488355328 := by omega
  have hsz1 : (t.length - k) * 48 ≤ 140737488355328 := by omega
  have hsz2 : (t.length - k + k) * 48 ≤ 140737488355328 := by omega
  have hmin : min k t.length = k := by omega
  have htk : t.length - k + k = t.length := by omega
  have hw := wide_den
  simp only [sI, List.map_append, List.map_drop, List.map_take] at c2
  simp only [wide, lA, ftA] at c1 c2 c3 hw e1
  rw [Den_fun Sy (af := A4) rfl rfl _ rfl]
  generalize checkF t _ = f at c1 c2 c3 e1
  generalize sortF t = s at *
  obtain ⟨f1, f2⟩ := f
  simp [A4, awake_den, hA, p1, ck, hkl, hkl', hmin, hsz, hsz1, hsz2, hS, hS2, hw, c1, c2, c3, e1, hsl, htl, hL, hsame]
theorem order_law_den (raw : List Raw) (turn : Int) (hr : ∀ x ∈ raw, x.well) (fr : ∀ x ∈ raw, x.fit) (ht : (Lit.int .i64 turn).wf = true) : Den Sy 4 [sR raw, .int .i64 turn] = some (.bool true) := order_den raw (raws_ok hr fr) turn (inR_of_wf ht)
end Go.Proofs.YtpkeiffclipjmaaGreatDoor.Rx
