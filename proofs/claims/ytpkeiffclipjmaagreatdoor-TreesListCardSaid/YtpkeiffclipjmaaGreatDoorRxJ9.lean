/-
  The laws of layer 2, 9: TreesList.
-/
import Derived.Test.YtpkeiffclipjmaaGreatDoorRxJ8
namespace Go.Proofs.YtpkeiffclipjmaaGreatDoor.Rx
open Go
set_option linter.unusedSimpArgs false
set_option linter.unusedVariables false
set_option maxRecDepth 100000

theorem list_inner (t s : List It) (x0 : It) (k0 : Nat) (hx0 : t[k0]? = some x0) (ht : t.length ≤ 1099511627776) (hs : s.length ≤ 1099511627776) (hm : ∀ y ∈ s, dirF y.path = x0.path ∧ timesF t y = 1 ∧ y.path.length ≤ 1099511627776) (hst : s.Pairwise fun a b => cmpS a.path b.path < 0) (which all : AV) (bx : Bx) (pm : Pm) : ∀ (rest pre : List It) (i : Int), s = pre ++ rest → i = pre.length →
    Res (RunD Sy (.loop L7x0) ⟨ofL [(1, which), (5, .bool true), (6, sI t), (7, all), (8, .int .i64 k0), (9, sI s), (10, .int .i64 i)], bx, pm, none⟩) fun ex st' => ex = .exit 2 ∧ st' = ⟨ofL [(1, which), (5, .bool true), (6, sI t), (7, all), (8, .int .i64 k0), (9, sI s), (10, .int .i64 s.length), (53, .bool false)], bx, pm, none⟩
  | [], pre, i, h, hi => by
    subst hi
    rw [List.append_nil] at h
    subst h
    refine loop_step fun K hK => ?_
    simp [L7x0]
  | x :: rest, pre, i, h, hi => by
    subst hi
    have hlt : (pre.length : Int) < s.length := by rw [h]; simp; omega
    have hg : (s.map iA)[pre.length]? = some (iA x) := by rw [h]; simp
    have hg0 : (t.map iA)[k0]? = some (iA x0) := by rw [List.getElem?_map, hx0]; rfl
    have hk0 : k0 < t.length := (List.getElem?_eq_some_iff.1 hx0).1
    have hc := chk_i64 ((pre.length : Int) + 1) (by omega)
    obtain ⟨m1, m2, m3⟩ := hm x (by rw [h]; simp)
    have hd := dir_den x.path m3
    have htt := times_den t ht x
    rw [m2] at htt
    rw [m1] at hd
    have hnx := list_inner t s x0 k0 hx0 ht hs hm hst which all bx pm rest (pre ++ [x]) ((pre.length : Int) + 1) (by simp [h]) (by simp)
    simp only [iA] at hg hg0 htt
    refine loop_step fun K hK => ?_
    rcases nil_or_last pre with rfl | ⟨pre', y, rfl⟩
    · simp only [List.length_nil] at hlt hg hc hnx ⊢
      have hlt' : (0 : Int) < s.length := hlt
      have hlt0 : 0 < s.length := by omega
      have hc' : chk .i64 1 = some (.int .i64 1) := hc
      simp [L7x0, -getElem?_pos, -List.getElem?_map, hlt0, hg, hg0, hk0, hc', hd, htt]
      rw [hK]
      simpa using hnx
    · have hg2 : (s.map iA)[pre'.length]? = some (iA y) := by rw [h]; simp
      have hle : cmpS y.path x.path < 0 := by
        rw [h, List.pairwise_append] at hst
        exact hst.2.2 y (by simp) x (by simp)
      have hcm := cmp_den y.path x.path (hm y (by rw [h]; simp)).2.2 m3
      have hle' : ¬ 0 ≤ cmpP y.path x.path := by rw [cmp_eq]; omega
      have hlen : (pre' ++ [y]).length = pre'.length + 1 := by simp
      rw [hlen] at hlt hg hc hnx ⊢
      have hlt2 : (pre'.length : Int) < s.length := by omega
      have ck := chk_i64 (pre'.length : Int) (by omega)
      have hlt' : (pre'.length : Int) + 1 < s.length := by omega
      have hc' : chk .i64 ((pre'.length : Int) + 1 + 1) = some (.int .i64 ((pre'.length : Int) + 1 + 1)) := chk_i64 _ (by omega)
      simp only [iA] at hg2
      simp [L7x0, -getElem?_pos, -List.getElem?_map, hlt', hlt2, hg, hg0, hk0, hg2, hc', ck, hd, htt, hcm, hle']
      rw [hK]
      simpa using hnx
theorem list_outer (t : List It) (h : Good t) (ht : t.length ≤ 112) (hp : ∀ x ∈ t, x.path.length ≤ 1039) (which : AV) (bx : Bx) (pm : Pm) : ∀ (rest pre : List It) (i : Int) (n : Nat), t = pre ++ rest → i = pre.length → n + (rest.map fun x => (listF t x.path).length).sum = t.length →
    Res (RunD Sy (.loop L7x1) ⟨ofL [(1, which), (5, .bool true), (6, sI t), (7, .int .i64 n), (8, .int .i64 i)], bx, pm, none⟩) fun ex st' => ex = .exit 0 ∧ st' = ⟨ofL [(1, which), (5, .bool true), (6, sI t), (7, .int .i64 t.length), (8, .int .i64 t.length), (25, .bool false)], bx, pm, none⟩
  | [], pre, i, n, e, hi, hn => by
    subst hi
    rw [List.append_nil] at e
    subst e
    obtain rfl : n = t.length := by simpa using hn
    refine loop_step fun K hK => ?_
    simp [L7x1]
  | x :: rest, pre, i, n, e, hi, hn => by
    subst hi
    rw [List.map_cons, List.sum_cons] at hn
    have hlt : (pre.length : Int) < t.length := by rw [e]; simp; omega
    have hlt2 : pre.length < t.length := by omega
    have hx0 : t[pre.length]? = some x := by rw [e]; simp
    have hxt := List.mem_of_getElem? hx0
    have hg : (t.map iA)[pre.length]? = some (iA x) := by rw [List.getElem?_map, hx0]; rfl
    have hc := chk_i64 ((pre.length : Int) + 1) (by omega)
    have hL := list25_den t x.path (by have : bigN = 1099511627776 := rfl; omega) (fun y hy => by have := hp y hy; have : bigT = 4294967280 := rfl; omega)
    have hmem : ∀ y ∈ listF t x.path, dirF y.path = x.path ∧ timesF t y = 1 ∧ y.path.length ≤ 1099511627776 := fun y hy => by
      obtain ⟨h1, h2⟩ := (mem_listF (fun x hx => (h.no x hx).path)).1 hy
      exact ⟨h2, h.times h1, by have := hp y h1; omega⟩
    have hfile := fun hk => h.file hxt hk
    obtain ⟨ex, st, hI, rfl, rfl⟩ := list_inner t (listF t x.path) x pre.length hx0 (by omega) (by omega) hmem (listF_strict h x.path) which (.int .i64 ((n + (listF t x.path).length : Nat) : Int)) bx pm (listF t x.path) [] 0 rfl rfl
    have hnx := list_outer t h ht hp which bx pm rest (pre ++ [x]) ((pre.length : Int) + 1) (n + (listF t x.path).length) (by simp [e]) (by simp) (by omega)
    have ha : chk .i64 ((n : Int) + (listF t x.path).length) = some (.int .i64 ((n + (listF t x.path).length : Nat) : Int)) := by
      rw [← Int.natCast_add]
      exact chk_i64 _ (by omega)
    clear hmem hn
    generalize listF t x.path = s at *
    generalize ((n + s.length : Nat) : Int) = n2 at *
    simp only [iA] at hg
    refine loop_step fun K hK => ?_
    by_cases hk : x.kind = 1
    · simp [L7x1, -getElem?_pos, -List.getElem?_map, hlt, hlt2, hg, hL, ha, hk, hI, hc]
      rw [hK]
      simpa using hnx
    · obtain rfl := hfile hk
      simp only [sI, List.map_nil, List.length_nil, show ((0 : Nat) : Int) = 0 from rfl, Int.add_zero] at ha hI hL
      simp [L7x1, -getElem?_pos, -List.getElem?_map, hlt, hlt2, hg, hL, ha, hk, hI, hc]
      rw [hK]
      simpa using hnx
theorem eqvb (a b : Bool) : eqv none (.bool a) (.bool b) = some (a == b) := rfl
theorem pl4 (a : List UInt8) (b : Int) (c : List UInt8) (d : Bool) : place [.str [], .int .i64 0, .str [], .bool false] 0 4 (.agg [.str a, .int .i64 b, .str c, .bool d]) = some [.str a, .int .i64 b, .str c, .bool d] := rfl
theorem list_law (raw : List Raw) (hr : ∀ x ∈ raw, x.ok) (which : Int) (h1 : inR which) : Den Sy 7 [sR raw, .int .i64 which] = some (.bool true) := by
  have hA := tree_den raw hr
  have hn := treeF_len raw
  have hp := treeF_path raw
  have hG := good_of (tree_ok raw)
  generalize treeF raw = t at hA hn hp hG
  have hB : t.length ≤ bigN := by have : bigN = 1099511627776 := rfl; omega
  have hT : ∀ x ∈ t, x.path.length ≤ bigT := fun x hx => by have := hp x hx; have : bigT = 4294967280 := rfl; omega
  have hL0 := list25_den t [] hB hT
  have hsum := hG.sum
  have hO : ∀ bx pm, RunD Sy (.loop L7x1) ⟨ofL [(1, .int .i64 which), (5, .bool true), (6, sI t), (7, .int .i64 (listF t []).length), (8, .int .i64 0)], bx, pm, none⟩ = some (.exit 0, ⟨ofL [(1, .int .i64 which), (5, .bool true), (6, sI t), (7, .int .i64 t.length), (8, .int .i64 t.length), (25, .bool false)], bx, pm, none⟩) := fun bx pm => by
    obtain ⟨ex, st, k1, rfl, rfl⟩ := list_outer t hG hn hp (.int .i64 which) bx pm t [] 0 (listF t []).length rfl rfl hsum
    exact k1
  rw [Den_fun Sy (af := A7) rfl rfl _ rfl]
  by_cases ht0 : t = []
  · subst ht0
    have e : listF ([] : List It) [] = [] := rfl
    rw [e] at hL0 hO
    simp only [sI, List.map_nil, List.length_nil, show ((0 : Nat) : Int) = 0 from rfl] at hA hL0 hO
    simp [A7, awake_den, hA, hL0, hO]
  · have hpos : 0 < t.length := List.length_pos_iff.2 ht0
    have p1 := pick02_den which (t.length : Int) h1 (by omega)
    have q1 := pickF_lt which (n := (t.length : Int)) (by omega)
    obtain ⟨k, hk⟩ : ∃ k : Nat, pickF which (t.length : Int) = k := ⟨(pickF which (t.length : Int)).toNat, by omega⟩
    rw [hk] at p1 q1
    have hkl : k < t.length := by omega
    have hkl' : (k : Int) < t.length := by omega
    obtain ⟨x, hx⟩ : ∃ x, t[k]? = some x := ⟨_, List.getElem?_eq_getElem hkl⟩
    have hxt := List.mem_of_getElem? hx
    have hg : (t.map iA)[k]? = some (iA x) := by rw [List.getElem?_map, hx]; rfl
    have hF := find21_den t x.path hB
    have hR := read23_den t x.path hB
    rw [hG.find hxt] at hF
    rw [hG.read hxt] at hR
    have he := eqv_it x x
    rw [decide_eq_true rfl] at he
    simp only [iA, fA] at hg hF he
    have hne0 : ¬ (t.length : Int) = 0 := by omega
    clear hsum
    generalize listF t [] = s at *
    by_cases h2 : x.kind = 2
    · rw [if_neg (by simp [h2])] at hR
      rw [h2] at he
      simp [A7, -getElem?_pos, -List.getElem?_map, awake_den, hA, hL0, hO, hne0, ht0, p1, hkl, hkl', hg, hF, hR, he, h2, pl4, tgz, eqvb, -place]
    · rw [if_pos h2] at hR
      simp [A7, -getElem?_pos, -List.getElem?_map, awake_den, hA, hL0, hO, hne0, ht0, p1, hkl, hkl', hg, hF, hR, he, h2, pl4, tgz, eqvb, -place]
theorem list_law_den (raw : List Raw) (which : Int) (hr : ∀ x ∈ raw, x.well) (fr : ∀ x ∈ raw, x.fit) (h1 : (Lit.int .i64 which).wf = true) : Den Sy 7 [sR raw, .int .i64 which] = some (.bool true) :=
  list_law raw (raws_ok hr fr) which (inR_of_wf h1)
end Go.Proofs.YtpkeiffclipjmaaGreatDoor.Rx
