/-
  The laws of layer 2, 8: what is in a tree's dirs (plain); Find, Read, List.
-/
import Derived.Test.YtpkeiffclipjmaaGreatDoorRxJ7
namespace Go.Proofs.YtpkeiffclipjmaaGreatDoor.Rx
open Go
set_option linter.unusedSimpArgs false
set_option linter.unusedVariables false

/-! ### Functions told by hand -/
theorem find21_den (t : List It) (p : List UInt8) (ht : t.length ≤ bigN) : Den Sy 21 [sI t, .str p] = some (fA (findF t p)) := by
  rw [Den_ext Sy (F := findE) rfl]
  simp only [findE, itsOf_its]
  rw [if_pos ht]
theorem read23_den (t : List It) (p : List UInt8) (ht : t.length ≤ bigN) : Den Sy 23 [sI t, .str p] = some (.tup [.str (readF t p).1, .int .i64 (readF t p).2]) := by
  rw [Den_ext Sy (F := readE) rfl]
  simp only [readE, itsOf_its]
  rw [if_pos ht]
theorem list25_den (t : List It) (p : List UInt8) (ht : t.length ≤ bigN) (hp : ∀ x ∈ t, x.path.length ≤ bigT) : Den Sy 25 [sI t, .str p] = some (sI (listF t p)) := by
  rw [Den_ext Sy (F := listEx) rfl]
  simp only [listEx, itsOf_its]
  rw [if_pos ⟨ht, Nat.le_trans (List.length_filter_le _ _) ht, hp⟩]

theorem tgz (a : AV) (l : List AV) : (a :: l)[0]? = some a := rfl
/-! ### A tree's items -/
/-- A tree in which nothing is wrong. -/
structure Good (t : List It) : Prop where
  no : ∀ x ∈ t, NoFault t wide x.path
  nd : (t.map It.path).Nodup
theorem good_of {t : List It} (h : checkF t wide = ([], 0)) : Good t := by
  have h1 := (ok_faults (by rw [h] : (checkF t wide).2 = 0)).2
  refine ⟨fun x hx => noFault_of (h1 x hx), ?_⟩
  rw [List.nodup_iff_count]
  intro p
  rw [← countF_map]
  by_cases hp : p ∈ t.map It.path
  · obtain ⟨x, hx, rfl⟩ := List.mem_map.1 hp
    have := (noFault_of (h1 x hx)).once
    omega
  · rw [countF_map, List.count_eq_zero_of_not_mem hp]
    omega
theorem Good.inj {t : List It} (h : Good t) {x y : It} (hx : x ∈ t) (hy : y ∈ t) (e : x.path = y.path) : x = y := by
  have h1 := h.nd
  rw [List.Nodup, List.pairwise_map] at h1
  obtain ⟨i, hi, rfl⟩ := List.getElem_of_mem hx
  obtain ⟨j, hj, rfl⟩ := List.getElem_of_mem hy
  rw [List.pairwise_iff_getElem] at h1
  rcases Nat.lt_trichotomy i j with k | k | k
  · exact absurd e (h1 i j hi hj k)
  · subst k; rfl
  · exact absurd e.symm (h1 j i hj hi k)
theorem path_ne {p : List UInt8} (h : check01F p = 0) : p ≠ [] := fun e => by rw [e] at h; exact absurd h (by decide)
theorem mem_listF {t : List It} (h : ∀ x ∈ t, check01F x.path = 0) {d : List UInt8} {y : It} : y ∈ listF t d ↔ y ∈ t ∧ dirF y.path = d := by
  unfold listF
  rw [(sortF_perm _).mem_iff, List.mem_filter]
  constructor
  · rintro ⟨h1, h2⟩
    refine ⟨h1, ?_⟩
    simp [outF] at h2
    exact h2.2
  · rintro ⟨h1, h2⟩
    refine ⟨h1, ?_⟩
    simp [outF, h y h1, h2]
theorem listF_len {t : List It} (h : ∀ x ∈ t, check01F x.path = 0) (d : List UInt8) : (listF t d).length = (t.filter fun x => decide (dirF x.path = d)).length := by
  unfold listF
  rw [(sortF_perm _).length_eq]
  congr 1
  refine List.filter_congr fun x hx => ?_
  simp [outF, h x hx]
theorem listF_strict {t : List It} (h : Good t) (d : List UInt8) : (listF t d).Pairwise fun a b => cmpS a.path b.path < 0 := by
  have h1 : (listF t d).Pairwise LeI := sortF_sorted _
  have h2 : ((listF t d).map It.path).Nodup := by
    unfold listF
    rw [((sortF_perm _).map It.path).nodup_iff]
    exact h.nd.sublist (List.filter_sublist.map It.path)
  rw [List.Nodup, List.pairwise_map] at h2
  exact (h1.and h2).imp fun {a b} ⟨k1, k2⟩ => by
    have : cmpS a.path b.path ≠ 0 := fun e => k2 (cmpS_zero e)
    unfold LeI at k1
    omega
theorem Good.times {t : List It} (h : Good t) {x : It} (hx : x ∈ t) : timesF t x = 1 := by
  have h1 : timesF t x ≤ countF t x.path := by
    unfold timesF countF
    rw [← List.countP_eq_length_filter, ← List.countP_eq_length_filter]
    refine List.countP_mono_left fun y _ hy => ?_
    have := of_decide_eq_true hy
    subst this
    simp
  have h2 : 0 < timesF t x := List.length_pos_of_mem (List.mem_filter.2 ⟨hx, by simp⟩)
  have := (h.no x hx).once
  omega
theorem Good.find {t : List It} (h : Good t) {x : It} (hx : x ∈ t) : findF t x.path = some x := by
  unfold findF
  cases hf : t.find? fun y => decide (y.path = x.path) with
  | none =>
    have := List.find?_eq_none.1 hf x hx
    simp at this
  | some y =>
    have h1 := List.mem_of_find?_eq_some hf
    have h2 := List.find?_some hf
    rw [h.inj h1 hx (of_decide_eq_true h2)]
theorem Good.read {t : List It} (h : Good t) {x : It} (hx : x ∈ t) : readF t x.path = if x.kind ≠ 2 then ([], 5) else (x.data, 0) := by
  unfold readF
  rw [h.find hx]
  have hb : ¬ x.bad = true := by
    have := someB_false.1 (h.no x hx).read x hx rfl
    simpa [some1] using this
  simp only [if_neg hb]
theorem Good.dir {t : List It} (h : Good t) {y : It} (hy : y ∈ t) (hd : dirF y.path ≠ []) : ∃ x ∈ t, x.path = dirF y.path ∧ x.kind = 1 := by
  refine dirB_true.1 ?_
  cases hb : dirB t (dirF y.path) with
  | true => rfl
  | false => exact absurd ⟨hd, hb⟩ (h.no y hy).parent
/-- In what is no dir is nothing. -/
theorem Good.file {t : List It} (h : Good t) {x : It} (hx : x ∈ t) (hk : x.kind ≠ 1) : listF t x.path = [] := by
  rw [List.eq_nil_iff_forall_not_mem]
  intro y hy
  obtain ⟨h1, h2⟩ := (mem_listF (fun x hx => (h.no x hx).path)).1 hy
  obtain ⟨z, hz, hp, hzk⟩ := h.dir h1 (by rw [h2]; exact path_ne (h.no x hx).path)
  rw [h2] at hp
  rw [h.inj hz hx hp] at hzk
  exact hk hzk
/-! ### Each item is in one dir -/
theorem sum_step (y : It) : ∀ (ys t : List It), (t.map fun x => ((y :: ys).filter fun z => decide (dirF z.path = x.path)).length).sum = (t.map fun x => (ys.filter fun z => decide (dirF z.path = x.path)).length).sum + countF t (dirF y.path)
  | ys, [] => by simp [countF]
  | ys, x :: t => by
    have ih := sum_step y ys t
    rw [List.map_cons, List.sum_cons, ih, List.map_cons, List.sum_cons]
    unfold countF
    by_cases h : dirF y.path = x.path
    · have h' : (x :: t).filter (fun x => decide (x.path = dirF y.path)) = x :: t.filter (fun x => decide (x.path = dirF y.path)) := List.filter_cons_of_pos (by simp [h])
      rw [List.filter_cons_of_pos (by simp [h]), h', List.length_cons, List.length_cons]
      omega
    · have h' : (x :: t).filter (fun x => decide (x.path = dirF y.path)) = t.filter (fun x => decide (x.path = dirF y.path)) := List.filter_cons_of_neg (by simp; exact fun e => h e.symm)
      rw [List.filter_cons_of_neg (by simp [h]), h']
      omega
theorem sum_all (t : List It) : ∀ (ys : List It), (∀ y ∈ ys, (if dirF y.path = [] then 1 else 0) + countF t (dirF y.path) = 1) → (ys.filter fun z => decide (dirF z.path = [])).length + (t.map fun x => (ys.filter fun z => decide (dirF z.path = x.path)).length).sum = ys.length
  | [], _ => by
    simp only [List.filter_nil, List.length_nil, Nat.zero_add]
    induction t with
    | nil => rfl
    | cons x t ih => simpa using ih
  | y :: ys, h => by
    have ih := sum_all t ys (fun z hz => h z (List.mem_cons_of_mem _ hz))
    have h1 := h y (by simp)
    rw [sum_step, List.length_cons]
    by_cases hd : dirF y.path = []
    · rw [if_pos hd] at h1
      rw [List.filter_cons_of_pos (by simp [hd]), List.length_cons]
      omega
    · rw [if_neg hd] at h1
      rw [List.filter_cons_of_neg (by simp [hd])]
      omega
theorem Good.sum {t : List It} (h : Good t) : (listF t []).length + (t.map fun x => (listF t x.path).length).sum = t.length := by
  have hc : ∀ x ∈ t, check01F x.path = 0 := fun x hx => (h.no x hx).path
  simp only [listF_len hc]
  refine sum_all t t fun y hy => ?_
  by_cases hd : dirF y.path = []
  · rw [if_pos hd, hd, countF_map, List.count_eq_zero_of_not_mem]
    intro hm
    obtain ⟨x, hx, e⟩ := List.mem_map.1 hm
    exact path_ne (hc x hx) e
  · rw [if_neg hd]
    obtain ⟨x, hx, hp, _⟩ := h.dir hy hd
    rw [← hp]
    have h1 := (h.no x hx).once
    have h2 : 1 ≤ countF t x.path := List.length_pos_of_mem (List.mem_filter.2 ⟨hx, by simp⟩)
    omega
end Go.Proofs.YtpkeiffclipjmaaGreatDoor.Rx
