/-
  The laws of layer 2, 10: TreesLeaf.
-/
import Derived.Test.YtpkeiffclipjmaaGreatDoorRxJ8
namespace Go.Proofs.YtpkeiffclipjmaaGreatDoor.Rx
open Go
set_option linter.unusedSimpArgs false
set_option linter.unusedVariables false
set_option maxRecDepth 100000

theorem checkF_none {t : List It} {l : Lim} (hc : (t.length : Int) ≤ l.count) (h : ∀ x ∈ t, faultF t l x.path = 0) : checkF t l = ([], 0) := by
  unfold checkF
  rw [if_neg (by omega)]
  rcases check_minof t l with ⟨e, _⟩ | ⟨h1, h2, _, _⟩
  · exact e
  · obtain ⟨x, hx, e⟩ := List.mem_map.1 h1
    rw [← e] at h2
    exact absurd (h x hx) h2
theorem countF_cut (A B : List It) (x : It) (p : List UInt8) : countF (A ++ B) p ≤ countF (A ++ x :: B) p := by
  unfold countF
  rw [List.filter_append, List.filter_append, List.length_append, List.length_append, List.filter_cons]
  split
  · rw [List.length_cons]; omega
  · omega
theorem someB_cut {A B : List It} {x : It} {p : List UInt8} {s w : Int} (h : ¬ someB (A ++ x :: B) p s w = true) : ¬ someB (A ++ B) p s w = true := by
  rw [someB_false] at h ⊢
  intro z hz
  refine h z ?_
  rcases List.mem_append.1 hz with hz | hz
  · exact List.mem_append_left _ hz
  · exact List.mem_append_right _ (List.mem_cons_of_mem _ hz)
theorem cut_mem {A B : List It} {x z : It} (h : z ∈ A ++ B) : z ∈ A ++ x :: B := by
  rcases List.mem_append.1 h with h | h
  · exact List.mem_append_left _ h
  · exact List.mem_append_right _ (List.mem_cons_of_mem _ h)
theorem cut_not {A B : List It} {x z : It} (h : z ∈ A ++ x :: B) (hx : z ≠ x) : z ∈ A ++ B := by
  rcases List.mem_append.1 h with h | h
  · exact List.mem_append_left _ h
  · rcases List.mem_cons.1 h with h | h
    · exact absurd h hx
    · exact List.mem_append_right _ h
/-- What is at fault without one item: what is in it. -/
theorem leaf_fault (A B : List It) (x z : It) (h : Good (A ++ x :: B)) (hz : z ∈ A ++ B) (hd : dirF z.path ≠ x.path) : faultF (A ++ B) wide z.path = 0 := by
  have hzt := cut_mem (x := x) hz
  have n := h.no z hzt
  refine fault_of_no ⟨n.path, n.depth, by have := countF_cut A B x z.path; have := n.once; omega, someB_cut n.kind, fun ⟨h1, h2⟩ => ?_, someB_cut n.long, someB_cut n.read⟩
  obtain ⟨y, hy, hyp, hyk⟩ := h.dir hzt h1
  have hyx : y ≠ x := fun e => hd (by rw [← hyp, e])
  have : dirB (A ++ B) (dirF z.path) = true := dirB_true.2 ⟨y, cut_not hy hyx, hyp, hyk⟩
  rw [this] at h2
  exact absurd h2 (by simp)
theorem leaf_none (A B : List It) (x : It) (h : Good (A ++ x :: B)) (hc : ((A ++ B).length : Int) ≤ wide.count) (hl : listF (A ++ x :: B) x.path = []) : checkF (A ++ B) wide = ([], 0) := by
  refine checkF_none hc fun z hz => leaf_fault A B x z h hz fun hd => ?_
  have : z ∈ listF (A ++ x :: B) x.path := (mem_listF (fun x hx => (h.no x hx).path)).2 ⟨cut_mem hz, hd⟩
  rw [hl] at this
  simp at this
theorem leaf_some (A B : List It) (x y : It) (l : List It) (h : Good (A ++ x :: B)) (hc : ((A ++ B).length : Int) ≤ wide.count) (hl : listF (A ++ x :: B) x.path = y :: l) : checkF (A ++ B) wide = (y.path, 6) := by
  have hmem := fun z => (mem_listF (t := A ++ x :: B) (d := x.path) (y := z) (fun x hx => (h.no x hx).path))
  rw [hl] at hmem
  have hst := listF_strict h x.path
  rw [hl, List.pairwise_cons] at hst
  have hx : x ∈ A ++ x :: B := by simp
  obtain ⟨hy, hyd⟩ := (hmem y).1 (by simp)
  have hxn := path_ne (h.no x hx).path
  have hyx : y ≠ x := fun e => by
    have := dir_lt y.path (by rw [hyd]; exact hxn)
    rw [hyd, e, cmpS_self] at this
    omega
  have hyu : y ∈ A ++ B := cut_not hy hyx
  have n := h.no y hy
  have hno : dirB (A ++ B) x.path = false := by
    cases hb : dirB (A ++ B) x.path with
    | false => rfl
    | true =>
      exfalso
      obtain ⟨z, hz, hzp, _⟩ := dirB_true.1 hb
      have hnd := h.nd
      rw [List.map_append, List.map_cons, List.nodup_append] at hnd
      obtain ⟨_, h2, h3⟩ := hnd
      rw [List.nodup_cons] at h2
      rcases List.mem_append.1 hz with hz | hz
      · exact h3 _ (List.mem_map_of_mem hz) _ (List.mem_cons_self ..) hzp
      · exact h2.1 (by rw [← hzp]; exact List.mem_map_of_mem hz)
  have hf : faultF (A ++ B) wide y.path = 6 := by
    unfold faultF
    rw [if_neg (by simp [n.path]), if_neg n.depth, if_neg (by have := countF_cut A B x y.path; have := n.once; omega), if_neg (someB_cut n.kind), if_pos ⟨by rw [hyd]; exact hxn, by rw [hyd]; exact hno⟩]
  unfold checkF
  rw [if_neg (by omega)]
  refine (check_minof (A ++ B) wide).uniq (.inr ⟨List.mem_map_of_mem hyu, by rw [hf]; decide, hf.symm, fun p hp hpf => ?_⟩)
  obtain ⟨z, hz, rfl⟩ := List.mem_map.1 hp
  by_cases hd : dirF z.path = x.path
  · have := (hmem z).2 ⟨cut_mem hz, hd⟩
    rcases List.mem_cons.1 this with rfl | hz'
    · exact Int.le_of_eq (cmpS_self _)
    · exact Int.le_of_lt (hst.1 z hz')
  · exact absurd (leaf_fault A B x z h hz hd) hpf
theorem pl5 (p : List UInt8) (e : Int) : place [.str [], .int .i64 0] 0 2 (.agg [.str p, .int .i64 e]) = some [.str p, .int .i64 e] := rfl
theorem leaf_law (raw : List Raw) (hr : ∀ x ∈ raw, x.ok) (which : Int) (h1 : inR which) : Den Sy 8 [sR raw, .int .i64 which] = some (.bool true) := by
  have hA := tree_den raw hr
  have hn := treeF_len raw
  have hp := treeF_path raw
  have hG := good_of (tree_ok raw)
  generalize treeF raw = t at hA hn hp hG
  have hB : t.length ≤ bigN := by have : bigN = 1099511627776 := rfl; omega
  have hT : ∀ x ∈ t, x.path.length ≤ bigT := fun x hx => by have := hp x hx; have : bigT = 4294967280 := rfl; omega
  rw [Den_fun Sy (af := A8) rfl rfl _ rfl]
  by_cases ht0 : t = []
  · subst ht0
    simp [A8, awake_den, hA]
  · have hpos : 0 < t.length := List.length_pos_iff.2 ht0
    have p1 := pick02_den which (t.length : Int) h1 (by omega)
    have q1 := pickF_lt which (n := (t.length : Int)) (by omega)
    obtain ⟨k, hk⟩ : ∃ k : Nat, pickF which (t.length : Int) = k := ⟨(pickF which (t.length : Int)).toNat, by omega⟩
    rw [hk] at p1 q1
    have hkl : k < t.length := by omega
    have hkl' : (k : Int) < t.length := by omega
    obtain ⟨x, hx⟩ : ∃ x, t[k]? = some x := ⟨_, List.getElem?_eq_getElem hkl⟩
    have hxt := List.mem_of_getElem? hx
    have hg : (t.map iA)[k]? = some (iA x) := by rw [List.getElem?_map, hx]; rfl
    have hL := list25_den t x.path hB hT
    have hcut : t = t.take k ++ x :: t.drop (k + 1) := by
      obtain ⟨h1, h2⟩ := List.getElem?_eq_some_iff.1 hx
      rw [← h2]
      simp
    have hul : (t.take k ++ t.drop (k + 1)).length + 1 = t.length := by simp; omega
    have hwc : (((t.take k ++ t.drop (k + 1)).length : Nat) : Int) ≤ wide.count := by simp only [wide]; omega
    have hum : ∀ z ∈ t.take k ++ t.drop (k + 1), z.path.length ≤ bigT := fun z hz => hT z (by rw [hcut]; exact cut_mem hz)
    have cU := check15_den (t.take k ++ t.drop (k + 1)) wide (by have : bigP = 1099511627776 := rfl; omega) hum
    have hw := wide_den
    have hne0 : ¬ (t.length : Int) = 0 := by omega
    have ck := chk_i64 ((k : Int) + 1) (by omega)
    have hk1 : ((k : Int) + 1).toNat = k + 1 := by omega
    have hkl2 : (k : Int) + 1 ≤ t.length := by omega
    have hkl3 : (k : Int) ≤ t.length := by omega
    have hkl4 : k + 1 ≤ t.length := by omega
    have hkl5 : k ≤ t.length := by omega
    have hmin : min k t.length = k := by omega
    have htl : (t.map iA).take t.length = t.map iA := List.take_of_length_le (by simp)
    have hsz : t.length * 48 ≤ 140737488355328 := by omega
    have hsz1 : k * 48 ≤ 140737488355328 := by omega
    have hsz2 : (k + (t.length - (k + 1))) * 48 ≤ 140737488355328 := by omega
    cases hl : listF t x.path with
    | nil =>
      have hU := leaf_none (t.take k) (t.drop (k + 1)) x (by rw [← hcut]; exact hG) hwc (by rw [← hcut]; exact hl)
      rw [hU] at cU
      rw [hl] at hL
      have e0 := eqv_ft ([], 0) ([], 0)
      rw [decide_eq_true rfl] at e0
      simp only [sI, List.map_append, List.map_drop, List.map_take] at cU
      simp only [wide, lA, ftA] at cU hw e0
      simp only [iA] at hg
      simp [A8, -getElem?_pos, awake_den, hA, hL, hw, hne0, ht0, p1, hkl, hkl', hg, ck, hk1, hkl2, hkl3, hkl4, hkl5, hmin, htl, hsz, hsz1, hsz2, cU, e0, pl2, -place]
    | cons y l =>
      have hU := leaf_some (t.take k) (t.drop (k + 1)) x y l (by rw [← hcut]; exact hG) hwc (by rw [← hcut]; exact hl)
      rw [hU] at cU
      rw [hl] at hL
      have e0 := eqv_ft (y.path, 6) (y.path, 6)
      rw [decide_eq_true rfl] at e0
      simp only [sI, List.map_append, List.map_drop, List.map_take] at cU
      simp only [wide, lA, ftA] at cU hw e0
      simp only [iA] at hg
      simp only [sI, List.map_cons, iA] at hL
      have hl0 : ¬ ((l.length : Int) + 1 = 0) := by omega
      have hl1 : (0 : Int) < (l.length : Int) + 1 := by omega
      simp [A8, -getElem?_pos, awake_den, hA, hL, hw, hne0, ht0, p1, hkl, hkl', hg, ck, hk1, hkl2, hkl3, hkl4, hkl5, hmin, htl, hsz, hsz1, hsz2, hl0, hl1, cU, e0, pl1, pl5, pl3, tgz, -place]
theorem leaf_law_den (raw : List Raw) (which : Int) (hr : ∀ x ∈ raw, x.well) (fr : ∀ x ∈ raw, x.fit) (h1 : (Lit.int .i64 which).wf = true) : Den Sy 8 [sR raw, .int .i64 which] = some (.bool true) :=
  leaf_law raw (raws_ok hr fr) which (inR_of_wf h1)
end Go.Proofs.YtpkeiffclipjmaaGreatDoor.Rx
