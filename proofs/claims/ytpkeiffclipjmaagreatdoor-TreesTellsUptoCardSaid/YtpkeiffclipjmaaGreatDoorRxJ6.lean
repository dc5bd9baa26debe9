/-
  The laws of layer 2, 6: what one thing done to a tree brings about (plain).
-/
import Derived.Test.YtpkeiffclipjmaaGreatDoorRxJ4
namespace Go.Proofs.YtpkeiffclipjmaaGreatDoor.Rx
open Go
set_option linter.unusedSimpArgs false
set_option linter.unusedVariables false

theorem checkF_ok_of {t : List It} {l : Lim} (h : (checkF t l).2 = 0) : checkF t l = ([], 0) := by
  unfold checkF at h ⊢
  split at h
  · simp at h
  · rename_i hc
    rw [if_neg hc]
    rcases check_minof t l with ⟨e, _⟩ | ⟨h1, h2, h3, _⟩
    · exact e
    · exact absurd (h3.symm.trans h) h2
theorem ok_faults {t : List It} {l : Lim} (h : (checkF t l).2 = 0) : (t.length : Int) ≤ l.count ∧ ∀ x ∈ t, faultF t l x.path = 0 := by
  unfold checkF at h
  split at h
  · simp at h
  · rename_i hc
    refine ⟨by omega, fun x hx => ?_⟩
    rcases check_minof t l with ⟨_, h1⟩ | ⟨h1, h2, h3, _⟩
    · exact h1 _ (List.mem_map_of_mem hx)
    · exact absurd (h3.symm.trans h) h2
theorem treeG_ok : ∀ (raw : List Raw) (t : List It), (checkF t wide).2 = 0 → (checkF (treeG t raw) wide).2 = 0
  | [], t, h => h
  | x :: r, t, h => by
    rw [treeG]
    refine treeG_ok r _ ?_
    unfold stepT
    simp only
    split
    · rename_i h2; exact h2
    · exact h
theorem tree_ok (raw : List Raw) : checkF (treeF raw) wide = ([], 0) := checkF_ok_of (treeG_ok _ [] rfl)

/-! ### How many items there are -/
def slashes (s : List UInt8) : Nat := s.count 47
theorem splitG_count : ∀ (r cur : List UInt8), (splitG cur r).length = slashes r + 1
  | [], cur => by simp [splitG, slashes]
  | c :: r, cur => by
    unfold splitG
    by_cases h : c = 47
    · subst h
      rw [if_pos rfl, List.length_cons, splitG_count r []]
      simp [slashes]
    · rw [if_neg h, splitG_count r (cur ++ [c])]
      have : (c == 47) = false := by simpa using h
      simp [slashes, List.count_cons, this]
theorem slashes_join (d n : List UInt8) : slashes (joinF d n) = slashes d + slashes n + (if d = [] then 0 else 1) := by
  unfold joinF slashes
  split
  · rename_i h; subst h; simp
  · simp; omega
theorem name_slash (c : Int) : slashes (nameF c) = 0 := by
  have : ∀ x ∈ namesF, slashes x = 0 := by decide
  exact this _ (nameF_mem c)
theorem pathG_slash : ∀ (l : List Int) (out : List UInt8), slashes (pathG out l) ≤ slashes out + l.length
  | [], out => by simp [pathG]
  | c :: r, out => by
    have h1 := pathG_slash r (joinF out (nameF c))
    have h2 := slashes_join out (nameF c)
    have h3 := name_slash c
    unfold pathG
    simp only [List.length_cons]
    split at h2 <;> omega
theorem pathF_slash (raw : List Int) : slashes (pathF raw) ≤ 7 := by
  have key : slashes (pathG [] (raw.take 8)) ≤ 7 := by
    cases hr : raw.take 8 with
    | nil => simp [pathG, slashes]
    | cons c r =>
      have hl : r.length ≤ 7 := by
        have : (raw.take 8).length ≤ 8 := by simp; omega
        rw [hr] at this
        simp at this
        omega
      have h1 := pathG_slash r (joinF [] (nameF c))
      have h2 := slashes_join [] (nameF c)
      have h3 := name_slash c
      have h4 : slashes ([] : List UInt8) = 0 := rfl
      rw [if_pos rfl] at h2
      unfold pathG
      omega
  unfold pathF
  split
  · decide
  · exact key
theorem partsF_path (raw : List Int) : (partsF (pathF raw)).length ≤ 8 := by
  have := splitG_count (pathF raw) []
  have h2 := pathF_slash raw
  unfold partsF
  split
  · unfold splitP; omega
  · simp
theorem treeG_len : ∀ (raw : List Raw) (t : List It), (treeG t raw).length ≤ t.length + 8 * raw.length
  | [], t => by simp [treeG]
  | x :: r, t => by
    have h1 := treeG_len r (stepT t x)
    have h2 : (stepT t x).length ≤ t.length + 8 := by
      have h3 := withG_len (partsF (itemT x).path) t []
      have h4 : (partsF (itemT x).path).length ≤ 8 := partsF_path x.path
      unfold stepT
      simp only
      split
      · simp; omega
      · omega
    rw [treeG]
    simp only [List.length_cons]
    omega
theorem treeF_len (raw : List Raw) : (treeF raw).length ≤ 112 := by
  have h1 := treeG_len (raw.take 14) []
  have h2 : (raw.take 14).length ≤ 14 := by simp; omega
  unfold treeF
  simp only [List.length_nil] at h1
  omega

/-! ### A dir is less than what is in it -/
theorem cmpS_pre : ∀ (a b : List UInt8) (c : UInt8), cmpS a (a ++ c :: b) < 0
  | [], b, c => by simp [cmpS]
  | x :: a, b, c => by
    have h : ¬ rk1 x < rk1 x := by omega
    rw [List.cons_append, cmpS, if_neg h, if_neg h]
    exact cmpS_pre a b c
theorem dir_lt (p : List UInt8) (h : dirF p ≠ []) : cmpS (dirF p) p < 0 := by
  rw [dir_eq] at h ⊢
  rcases last_cases p with ⟨h1, _⟩ | ⟨pre, post, h1, _, h2⟩
  · rw [if_neg (by rw [h1]; omega)] at h
    exact absurd rfl h
  · by_cases hc : check01F p = 0
    · rw [if_pos ⟨hc, by omega⟩, h2]
      have : p.take pre.length = pre := by rw [h1]; simp
      rw [Int.toNat_natCast, this, h1]
      exact cmpS_pre pre post 47
    · rw [if_neg (fun k => hc k.1)] at h
      exact absurd rfl h
/-! ### What no fault means -/
structure NoFault (t : List It) (l : Lim) (p : List UInt8) : Prop where
  path : check01F p = 0
  depth : ¬ l.depth < (partsF p).length
  once : ¬ 1 < countF t p
  kind : ¬ someB t p l.size 5 = true
  parent : ¬ (dirF p ≠ [] ∧ dirB t (dirF p) = false)
  long : ¬ someB t p l.size 7 = true
  read : ¬ someB t p l.size 9 = true
theorem noFault_of {t : List It} {l : Lim} {p : List UInt8} (h : faultF t l p = 0) : NoFault t l p := by
  unfold faultF at h
  by_cases c1 : check01F p = 0
  · rw [if_neg (by simp [c1])] at h
    by_cases c2 : l.depth < (partsF p).length
    · rw [if_pos c2] at h; omega
    · rw [if_neg c2] at h
      by_cases c3 : 1 < countF t p
      · rw [if_pos c3] at h; omega
      · rw [if_neg c3] at h
        by_cases c4 : someB t p l.size 5 = true
        · rw [if_pos c4] at h; omega
        · rw [if_neg c4] at h
          by_cases c5 : dirF p ≠ [] ∧ dirB t (dirF p) = false
          · rw [if_pos c5] at h; omega
          · rw [if_neg c5] at h
            by_cases c6 : someB t p l.size 7 = true
            · rw [if_pos c6] at h; omega
            · rw [if_neg c6] at h
              by_cases c7 : someB t p l.size 9 = true
              · rw [if_pos c7] at h; omega
              · exact ⟨c1, c2, c3, c4, c5, c6, c7⟩
  · rw [if_pos c1] at h
    exact absurd h c1
theorem fault_of_no {t : List It} {l : Lim} {p : List UInt8} (h : NoFault t l p) : faultF t l p = 0 := by
  unfold faultF
  rw [if_neg (by simp [h.path]), if_neg h.depth, if_neg h.once, if_neg h.kind, if_neg h.parent, if_neg h.long, if_neg h.read]
theorem someB_false {t : List It} {p : List UInt8} {s k : Int} : ¬ someB t p s k = true ↔ ∀ x ∈ t, x.path = p → ¬ some1 x s k = true := by
  unfold someB
  rw [List.any_eq_true]
  constructor
  · intro h x hx hp hs
    exact h ⟨x, hx, by simp [hp, hs]⟩
  · rintro h ⟨x, hx, hs⟩
    simp only [Bool.and_eq_true, decide_eq_true_eq] at hs
    exact h x hx hs.1 hs.2
theorem dirB_true {t : List It} {p : List UInt8} : dirB t p = true ↔ ∃ x ∈ t, x.path = p ∧ x.kind = 1 := by
  unfold dirB
  rw [List.any_eq_true]
  simp
/-- One thing is done at a path: that is told. -/
theorem least_gen (t u : List It) (p0 : List UInt8) (e : Int) (h0 : ∀ x ∈ t, faultF t wide x.path = 0) (hu : ∀ z ∈ u, z.path = p0 ∨ z ∈ t) (hsub : ∀ z ∈ t, z.path ≠ p0 → z ∈ u) (hcnt : ∀ p, p ≠ p0 → countF u p ≤ countF t p)
    (he : faultF u wide p0 = e) (hne : e ≠ 0) (hp0 : p0 ≠ []) (hmem : p0 ∈ u.map It.path) (hlen : (u.length : Int) ≤ wide.count) : checkF u wide = (p0, e) := by
  unfold checkF
  rw [if_neg (by omega)]
  refine (check_minof u wide).uniq (.inr ⟨hmem, by rw [he]; exact hne, he.symm, fun p hp hf => ?_⟩)
  by_cases hpp : p = p0
  · subst hpp
    exact Int.le_of_eq (cmpS_self _)
  · by_cases hd : dirF p = p0
    · have := dir_lt p (by rw [hd]; exact hp0)
      rw [hd] at this
      exact Int.le_of_lt this
    · exfalso
      apply hf
      obtain ⟨z, hz, rfl⟩ := List.mem_map.1 hp
      have hzt : z ∈ t := (hu z hz).resolve_left hpp
      have n := noFault_of (h0 z hzt)
      have other : ∀ {k : Int}, ¬ someB t z.path wide.size k = true → ¬ someB u z.path wide.size k = true := fun {k} hk => by
        rw [someB_false] at hk ⊢
        intro x hx hxp
        exact hk x ((hu x hx).resolve_left (by rw [hxp]; exact hpp)) hxp
      refine fault_of_no ⟨n.path, n.depth, by have := hcnt _ hpp; have := n.once; omega, other n.kind, fun ⟨h1, h2⟩ => ?_, other n.long, other n.read⟩
      refine n.parent ⟨h1, ?_⟩
      cases hb : dirB t (dirF z.path) with
      | false => rfl
      | true =>
        obtain ⟨y, hy, hyp, hyk⟩ := dirB_true.1 hb
        have : dirB u (dirF z.path) = true := dirB_true.2 ⟨y, hsub y hy (by rw [hyp]; exact hd), hyp, hyk⟩
        rw [this] at h2
        exact absurd h2 (by simp)
theorem mem_set_or {α : Type} {l : List α} {k : Nat} {y z : α} (h : z ∈ l.set k y) : z = y ∨ z ∈ l := by
  rcases List.mem_or_eq_of_mem_set h with h | h
  · exact .inr h
  · exact .inl h
theorem countF_map (t : List It) (p : List UInt8) : countF t p = (t.map It.path).count p := by
  unfold countF
  induction t with
  | nil => rfl
  | cons x t ih =>
    rw [List.filter_cons, List.map_cons, List.count_cons, ← ih]
    by_cases h : x.path = p <;> simp [h]
theorem map_set_path (t : List It) (k : Nat) (x y : It) (h : t[k]? = some x) (hp : y.path = x.path) : (t.set k y).map It.path = t.map It.path := by
  rw [List.map_set, hp]
  obtain ⟨hk, rfl⟩ := List.getElem?_eq_some_iff.1 h
  apply List.ext_getElem?
  intro i
  rw [List.getElem?_set]
  split
  · rename_i hi
    subst hi
    simp [hk]
  · rfl
/-- An item is changed, but for its path: what is told is what is at fault there. -/
theorem least_set (t : List It) (k : Nat) (x y : It) (h : t[k]? = some x) (hp : y.path = x.path) (h0 : ∀ x ∈ t, faultF t wide x.path = 0) (hlen : (t.length : Int) ≤ wide.count) (e : Int) (he : faultF (t.set k y) wide x.path = e) (hne : e ≠ 0) :
    checkF (t.set k y) wide = (x.path, e) := by
  have hx := List.mem_of_getElem? h
  have hk := (List.getElem?_eq_some_iff.1 h).1
  have n := noFault_of (h0 x hx)
  have hm := map_set_path t k x y h hp
  refine least_gen t (t.set k y) x.path e h0 (fun z hz => ?_) (fun z hz hzp => ?_) (fun p _ => by rw [countF_map, countF_map, hm]; exact Nat.le_refl _) he hne (fun e0 => by have := n.path; rw [e0] at this; exact absurd this (by decide)) (by rw [hm]; exact List.mem_map_of_mem hx) (by rw [List.length_set]; exact hlen)
  · rcases mem_set_or hz with rfl | hz
    · exact .inl hp
    · exact .inr hz
  · obtain ⟨j, hj, rfl⟩ := List.getElem_of_mem hz
    have hjk : j ≠ k := fun e1 => hzp (by
      subst e1
      rw [List.getElem?_eq_getElem hj] at h
      rw [Option.some.inj h])
    exact List.mem_iff_getElem?.2 ⟨j, by rw [List.getElem?_set_ne (fun e => hjk e.symm)]; exact List.getElem?_eq_getElem hj⟩
/-- The faults at the path of an item that is changed. -/
theorem set_fault (t : List It) (k : Nat) (x y : It) (h : t[k]? = some x) (hp : y.path = x.path) (h0 : faultF t wide x.path = 0) (e : Int)
    (hq : (some1 y wide.size 5 = true ∧ e = 5) ∨ (¬ some1 y wide.size 5 = true ∧ ((some1 y wide.size 7 = true ∧ e = 7) ∨ (¬ some1 y wide.size 7 = true ∧ some1 y wide.size 9 = true ∧ e = 9)))) : faultF (t.set k y) wide x.path = e := by
  have hx := List.mem_of_getElem? h
  have hk := (List.getElem?_eq_some_iff.1 h).1
  have n := noFault_of h0
  have hm := map_set_path t k x y h hp
  have hy : y ∈ t.set k y := List.mem_iff_getElem?.2 ⟨k, List.getElem?_set_self hk⟩
  have hc : countF (t.set k y) x.path = countF t x.path := by rw [countF_map, countF_map, hm]
  have yes : ∀ {w : Int}, some1 y wide.size w = true → someB (t.set k y) x.path wide.size w = true := fun {w} hw => by
    cases hb : someB (t.set k y) x.path wide.size w with
    | true => rfl
    | false => exact absurd hw (someB_false.1 (by rw [hb]; simp) y hy hp)
  have no : ∀ {w : Int}, ¬ some1 y wide.size w = true → ¬ someB t x.path wide.size w = true → ¬ someB (t.set k y) x.path wide.size w = true := fun {w} hw ht => by
    rw [someB_false] at ht ⊢
    intro z hz hzp
    rcases mem_set_or hz with rfl | hz
    · exact hw
    · exact ht z hz hzp
  have hpar : ¬ (dirF x.path ≠ [] ∧ dirB (t.set k y) (dirF x.path) = false) := fun ⟨h1, h2⟩ => by
    refine n.parent ⟨h1, ?_⟩
    cases hb : dirB t (dirF x.path) with
    | false => rfl
    | true =>
      obtain ⟨z, hz, hzp, hzk⟩ := dirB_true.1 hb
      have hlt := dir_lt x.path h1
      have hzx : z.path ≠ x.path := fun e1 => by rw [← hzp, e1, cmpS_self] at hlt; omega
      obtain ⟨j, hj, rfl⟩ := List.getElem_of_mem hz
      have hjk : j ≠ k := fun e1 => hzx (by
        subst e1
        rw [List.getElem?_eq_getElem hj] at h
        rw [Option.some.inj h])
      have : dirB (t.set k y) (dirF x.path) = true := dirB_true.2 ⟨_, List.mem_iff_getElem?.2 ⟨j, by rw [List.getElem?_set_ne (fun e => hjk e.symm)]; exact List.getElem?_eq_getElem hj⟩, hzp, hzk⟩
      rw [this] at h2
      exact absurd h2 (by simp)
  unfold faultF
  rw [if_neg (by simp [n.path]), if_neg n.depth, if_neg (by rw [hc]; exact n.once)]
  rcases hq with ⟨h5, rfl⟩ | ⟨h5, ⟨h7, rfl⟩ | ⟨h7, h9, rfl⟩⟩
  · rw [if_pos (yes h5)]
  · rw [if_neg (no h5 n.kind), if_neg hpar, if_pos (yes h7)]
  · rw [if_neg (no h5 n.kind), if_neg hpar, if_neg (no h7 n.long), if_pos (yes h9)]
/-- An item is there twice. -/
theorem least_twice (t : List It) (x : It) (hx : x ∈ t) (h0 : ∀ x ∈ t, faultF t wide x.path = 0) (hlen : ((t ++ [x]).length : Int) ≤ wide.count) : checkF (t ++ [x]) wide = (x.path, 4) := by
  have n := noFault_of (h0 x hx)
  have hc1 : 1 ≤ countF t x.path := by
    unfold countF
    exact List.length_pos_of_mem (List.mem_filter.2 ⟨hx, by simp⟩)
  have hc : countF (t ++ [x]) x.path = countF t x.path + 1 := by simp [countF]
  refine least_gen t (t ++ [x]) x.path 4 h0 (fun z hz => ?_) (fun z hz _ => List.mem_append_left _ hz) (fun p hp => ?_) ?_ (by omega) (fun e0 => by have := n.path; rw [e0] at this; exact absurd this (by decide)) (List.mem_map_of_mem (List.mem_append_left _ hx)) hlen
  · rcases List.mem_append.1 hz with hz | hz
    · exact .inr hz
    · exact .inl (by rw [List.mem_singleton.1 hz])
  · have : ¬ x.path = p := fun e => hp e.symm
    simp [countF, this]
  · unfold faultF
    rw [if_neg (by simp [n.path]), if_neg n.depth, if_pos (by omega)]
end Go.Proofs.YtpkeiffclipjmaaGreatDoor.Rx
