/-
  TreesUnder: plain, its loops, the whole.
-/
import Derived.Test.YtpkeiffclipjmaaGreatDoorRxJ10
namespace Go.Proofs.YtpkeiffclipjmaaGreatDoor.Rx
open Go
set_option linter.unusedSimpArgs false
set_option linter.unusedVariables false

/-! ### Dirs of paths that are put together -/
theorem dirF_no (s : List UInt8) (h : 47 ∉ s) : dirF s = [] := by
  rw [dir_eq]
  rcases last_cases s with ⟨h1, _⟩ | ⟨pre, post, e, _, _⟩
  · rw [if_neg (by rw [h1]; omega)]
  · exact absurd (by rw [e]; simp) h
theorem dirF_last (pre post : List UInt8) (h : 47 ∉ post) (hc : check01F (pre ++ 47 :: post) = 0) : dirF (pre ++ 47 :: post) = pre := by
  unfold dirF partsF
  rw [if_pos hc, splitP, splitG_last pre [] post h, dirG_fold]
  have hall : (splitP (pre ++ 47 :: post)).all may01 = true := by
    unfold check01F at hc
    split at hc
    · assumption
    · omega
  rw [splitP, splitG_last pre [] post h] at hall
  rw [fold_join0 pre [] (fun x l e hx => ?_)]
  · simp
  · rw [e, hx] at hall
    simp [may01] at hall
theorem split_up (c : UInt8) (hc : c ≠ 47) (p : List UInt8) : splitP (c :: 47 :: p) = [c] :: splitP p := by simp [splitP, splitG, hc]
theorem check_up (c : UInt8) (hc : c = 120 ∨ c = 121) (p : List UInt8) (h : check01F p = 0) (hl : (splitP p).length ≤ 15) : check01F (c :: 47 :: p) = 0 := by
  have h47 : c ≠ 47 := by rcases hc with rfl | rfl <;> decide
  have hm : may01 [c] = true := by rcases hc with rfl | rfl <;> decide
  unfold check01F at h ⊢
  rw [split_up c h47]
  by_cases ha : (splitP p).all may01 = true
  · rw [if_pos (by simp [hm]; simpa using ha), if_neg (by rw [List.length_cons]; omega)]
  · rw [if_neg ha] at h
    omega
theorem dir_up (c : UInt8) (hc : c = 120 ∨ c = 121) (p : List UInt8) (h : check01F p = 0) (hl : (splitP p).length ≤ 15) : dirF (c :: 47 :: p) = if dirF p = [] then [c] else c :: 47 :: dirF p := by
  have h2 := check_up c hc p h hl
  rcases last_cases p with ⟨_, h1⟩ | ⟨pre, post, rfl, h1, _⟩
  · rw [dirF_no p h1, if_pos rfl]
    exact dirF_last [c] p h1 h2
  · have e : c :: 47 :: (pre ++ 47 :: post) = (c :: 47 :: pre) ++ 47 :: post := rfl
    have hd := dirF_last pre post h1 h
    have hne : pre ≠ [] := by
      rintro rfl
      have hall : (splitP ([] ++ 47 :: post)).all may01 = true := by
        unfold check01F at h
        split at h
        · assumption
        · omega
      rw [splitP, splitG_last [] [] post h1] at hall
      simp [splitG, may01] at hall
    rw [hd, if_neg hne, e]
    rw [e] at h2
    exact dirF_last _ post h1 h2

/-! ### Paths of a tree have few parts -/
theorem splitG_no47 : ∀ (r cur : List UInt8), 47 ∉ cur → ∀ x ∈ splitG cur r, slashes x = 0
  | [], cur, h, x, hx => by
    rw [splitG, List.mem_singleton] at hx
    subst hx
    exact List.count_eq_zero_of_not_mem h
  | c :: r, cur, h, x, hx => by
    unfold splitG at hx
    split at hx
    · rcases List.mem_cons.1 hx with rfl | hx
      · exact List.count_eq_zero_of_not_mem h
      · exact splitG_no47 r [] (by simp) x hx
    · rename_i hc
      refine splitG_no47 r (cur ++ [c]) ?_ x hx
      simp only [List.mem_append, List.mem_singleton, not_or]
      exact ⟨h, fun e => hc e.symm⟩
theorem parts_no47 (p x : List UInt8) (h : x ∈ partsF p) : slashes x = 0 := by
  unfold partsF at h
  split at h
  · exact splitG_no47 p [] (by simp) x h
  · simp at h
theorem withG_sl : ∀ (l : List (List UInt8)) (w : List It) (p : List UInt8), (∀ x ∈ l, slashes x = 0) → ∀ y ∈ withG w p l, y ∈ w ∨ slashes y.path ≤ slashes p + l.length
  | [], w, p, hl, y, h => .inl h
  | [_], w, p, hl, y, h => .inl h
  | a :: b :: r, w, p, hl, y, h => by
    unfold withG at h
    have hj := slashes_join p a
    have ha := hl a (by simp)
    have hj2 : slashes (joinF p a) ≤ slashes p + 1 := by
      rw [hj, ha]
      split <;> omega
    rcases withG_sl (b :: r) _ _ (fun x hx => hl x (List.mem_cons_of_mem _ hx)) y h with h | h
    · split at h
      · exact .inl h
      · rcases List.mem_append.1 h with h | h
        · exact .inl h
        · rw [List.mem_singleton.1 h]
          right
          simp only [List.length_cons]
          omega
    · right
      simp only [List.length_cons] at h ⊢
      omega
theorem treeG_sl : ∀ (raw : List Raw) (t : List It), (∀ y ∈ t, slashes y.path ≤ 8) → ∀ y ∈ treeG t raw, slashes y.path ≤ 8
  | [], t, h => h
  | x :: r, t, h => by
    rw [treeG]
    refine treeG_sl r (stepT t x) fun y hy => ?_
    unfold stepT at hy
    simp only at hy
    split at hy
    · rcases List.mem_append.1 hy with hy | hy
      · rcases withG_sl _ t [] (fun x hx => parts_no47 _ x hx) y hy with hy | hy
        · exact h y hy
        · have h4 : (partsF (itemT x).path).length ≤ 8 := partsF_path x.path
          have h0 : slashes ([] : List UInt8) = 0 := rfl
          omega
      · rw [List.mem_singleton.1 hy]
        have : slashes (itemT x).path ≤ 7 := pathF_slash x.path
        omega
    · exact h y hy
theorem treeF_parts (raw : List Raw) : ∀ y ∈ treeF raw, (splitP y.path).length ≤ 15 := fun y hy => by
  have h1 := treeG_sl (raw.take 14) [] (by simp) y hy
  have h2 := splitG_count y.path []
  unfold splitP
  omega

/-! ### What is in order, each path once, is what Sort tells -/
theorem sortF_strict {t : List It} (h : (t.map It.path).Nodup) : (sortF t).Pairwise fun a b => cmpS a.path b.path < 0 := by
  have h1 : (sortF t).Pairwise LeI := sortF_sorted _
  have h2 : ((sortF t).map It.path).Nodup := by rw [((sortF_perm _).map It.path).nodup_iff]; exact h
  rw [List.Nodup, List.pairwise_map] at h2
  exact (h1.and h2).imp fun {a b} ⟨k1, k2⟩ => by
    have : cmpS a.path b.path ≠ 0 := fun e => k2 (cmpS_zero e)
    unfold LeI at k1
    omega
theorem strict_nd {t : List It} (h : t.Pairwise fun a b => cmpS a.path b.path < 0) : (t.map It.path).Nodup := by
  rw [List.Nodup, List.pairwise_map]
  exact h.imp fun {a b} k e => by rw [e, cmpS_self] at k; omega
theorem sorted_of_perm {X T : List It} (hX : X.Pairwise fun a b => cmpS a.path b.path < 0) (hp : X.Perm T) : sortF T = X := by
  refine sorted_uniq _ _ (sortF_sorted T) (hX.imp fun {a b} k => Int.le_of_lt k) fun p => ?_
  rw [sortF_at]
  have h1 : (atP X p).Perm (atP T p) := hp.filter _
  have h2 : (atP X p).length ≤ 1 := by
    have h3 : (atP X p).Pairwise fun a b => cmpS a.path b.path < 0 := hX.filter _
    have h4 : ∀ z ∈ atP X p, z.path = p := fun z hz => of_decide_eq_true (List.mem_filter.1 hz).2
    generalize atP X p = Y at h3 h4
    rcases Y with _ | ⟨a, _ | ⟨b, Y⟩⟩
    · simp
    · simp
    · rw [List.pairwise_cons] at h3
      have := h3.1 b (by simp)
      rw [h4 a (by simp), h4 b (by simp), cmpS_self] at this
      omega
  generalize atP X p = Y at h1 h2
  rcases Y with _ | ⟨a, _ | ⟨b, Y⟩⟩
  · exact List.nil_perm.1 h1
  · exact (List.singleton_perm.1 h1).symm
  · simp only [List.length_cons] at h2; omega
theorem inj_nd {t : List It} (h1 : (t.map It.path).Nodup) {x y : It} (hx : x ∈ t) (hy : y ∈ t) (e : x.path = y.path) : x = y := by
  rw [List.Nodup, List.pairwise_map] at h1
  obtain ⟨i, hi, rfl⟩ := List.getElem_of_mem hx
  obtain ⟨j, hj, rfl⟩ := List.getElem_of_mem hy
  rw [List.pairwise_iff_getElem] at h1
  rcases Nat.lt_trichotomy i j with k | k | k
  · exact absurd e (h1 i j hi hj k)
  · subst k; rfl
  · exact absurd e.symm (h1 j i hj hi k)

/-! ### Two trees under dirs of their own -/
def up (c : UInt8) (x : It) : It := { x with path := c :: 47 :: x.path }
def dC (c : UInt8) : It := ⟨[c], 1, [], false⟩
def unB (c : UInt8) (a : List It) : List It := dC c :: (sortF a).map (up c)
theorem blk_strict (c : UInt8) {a : List It} (h : (a.map It.path).Nodup) : (unB c a).Pairwise fun a b => cmpS a.path b.path < 0 := by
  have hr : ¬ rk1 c < rk1 c := by omega
  have hr2 : ¬ rk1 47 < rk1 47 := by omega
  unfold unB
  rw [List.pairwise_cons, List.pairwise_map]
  refine ⟨fun z hz => ?_, (sortF_strict h).imp fun {x y} k => ?_⟩
  · obtain ⟨x, _, rfl⟩ := List.mem_map.1 hz
    simp [dC, up, cmpS, hr]
  · simp [up, cmpS, hr, hr2, k]
theorem blk_mem {c : UInt8} {a : List It} {z : It} : z ∈ unB c a ↔ z = dC c ∨ ∃ x ∈ a, z = up c x := by
  unfold unB
  rw [List.mem_cons, List.mem_map]
  constructor
  · rintro (h | ⟨x, hx, rfl⟩)
    · exact .inl h
    · exact .inr ⟨x, (sortF_perm a).mem_iff.1 hx, rfl⟩
  · rintro (h | ⟨x, hx, rfl⟩)
    · exact .inl h
    · exact .inr ⟨x, (sortF_perm a).mem_iff.2 hx, rfl⟩
def two (a b : List It) : List It := unB 120 a ++ unB 121 b
theorem two_strict {a b : List It} (ha : (a.map It.path).Nodup) (hb : (b.map It.path).Nodup) : (two a b).Pairwise fun a b => cmpS a.path b.path < 0 := by
  unfold two
  rw [List.pairwise_append]
  refine ⟨blk_strict 120 ha, blk_strict 121 hb, fun x hx y hy => ?_⟩
  have hx' : ∃ s, x.path = 120 :: s := by
    rcases blk_mem.1 hx with rfl | ⟨z, _, rfl⟩
    · exact ⟨_, rfl⟩
    · exact ⟨_, rfl⟩
  have hy' : ∃ s, y.path = 121 :: s := by
    rcases blk_mem.1 hy with rfl | ⟨z, _, rfl⟩
    · exact ⟨_, rfl⟩
    · exact ⟨_, rfl⟩
  obtain ⟨s, hs⟩ := hx'
  obtain ⟨u, hu⟩ := hy'
  rw [hs, hu, cmpS, if_pos (by decide)]
  decide
/-- The two, by turns. -/
def weave : List It → List It → List It
  | [], [] => []
  | x :: a, [] => up 120 x :: weave a []
  | [], y :: b => up 121 y :: weave [] b
  | x :: a, y :: b => up 121 y :: up 120 x :: weave a b
theorem weave_perm : ∀ a b : List It, (weave a b).Perm (a.map (up 120) ++ b.map (up 121))
  | [], [] => by rw [weave]; exact .nil
  | x :: a, [] => by rw [weave]; exact (weave_perm a []).cons _
  | [], y :: b => by rw [weave]; exact (weave_perm [] b).cons _
  | x :: a, y :: b => by
    have ih := weave_perm a b
    rw [weave, List.map_cons, List.map_cons]
    refine ((ih.cons (up 120 x)).cons (up 121 y)).trans ?_
    exact (List.perm_middle (l₁ := up 120 x :: a.map (up 120))).symm
theorem weave_len (a b : List It) : (weave a b).length = a.length + b.length := by rw [(weave_perm a b).length_eq]; simp
def both (a b : List It) : List It := dC 121 :: dC 120 :: weave a b
theorem two_perm (a b : List It) : (two a b).Perm (both a b) := by
  unfold two both unB
  have h1 : ((sortF a).map (up 120)).Perm (a.map (up 120)) := (sortF_perm a).map _
  have h2 : ((sortF b).map (up 121)).Perm (b.map (up 121)) := (sortF_perm b).map _
  refine List.perm_middle.trans (List.Perm.cons _ ?_)
  rw [List.cons_append]
  exact ((h1.append h2).trans (weave_perm a b).symm).cons _
theorem sort_both {a b : List It} (ha : (a.map It.path).Nodup) (hb : (b.map It.path).Nodup) : sortF (both a b) = two a b := sorted_of_perm (two_strict ha hb) (two_perm a b)
def wide3 : Lim := ⟨16, 1000, 300⟩
theorem count_nd {X : List It} (h : (X.map It.path).Nodup) (p : List UInt8) : ¬ 1 < countF X p := by
  rw [countF_map]
  have := List.nodup_iff_count.1 h p
  omega
theorem under_dir {X : List It} (nd : (X.map It.path).Nodup) (c : UInt8) (hc : c = 120 ∨ c = 121) (hm : dC c ∈ X) : NoFault X wide3 [c] := by
  have one : ∀ {k : Int}, ¬ some1 (dC c) wide3.size k = true → ¬ someB X [c] wide3.size k = true := fun {k} hk => by
    rw [someB_false]
    intro z hz hzp
    rw [inj_nd nd hz hm hzp]
    exact hk
  have hd : dirF [c] = [] := by rcases hc with rfl | rfl <;> decide
  have h1 : check01F [c] = 0 := by rcases hc with rfl | rfl <;> decide
  have h2 : ¬ wide3.depth < (partsF [c]).length := by rcases hc with rfl | rfl <;> decide
  refine ⟨h1, h2, count_nd nd _, one ?_, fun h => h.1 hd, one ?_, one ?_⟩ <;> (simp [some1, dC, wide3])
theorem under_item {X a : List It} (nd : (X.map It.path).Nodup) (c : UInt8) (hc : c = 120 ∨ c = 121) (hm : dC c ∈ X) (ha : ∀ x ∈ a, up c x ∈ X) (hG : Good a) (hs : ∀ x ∈ a, (splitP x.path).length ≤ 15) (x : It) (hx : x ∈ a) : NoFault X wide3 (c :: 47 :: x.path) := by
  have h47 : c ≠ 47 := by rcases hc with rfl | rfl <;> decide
  have n := hG.no x hx
  have hck := check_up c hc x.path n.path (hs x hx)
  have one : ∀ {k : Int}, ¬ someB a x.path wide.size k = true → ¬ someB X (c :: 47 :: x.path) wide3.size k = true := fun {k} hk => by
    rw [someB_false] at hk ⊢
    intro z hz hzp
    rw [inj_nd nd hz (ha x hx) hzp]
    exact hk x hx rfl
  refine ⟨hck, ?_, count_nd nd _, one n.kind, fun ⟨h1, h2⟩ => ?_, one n.long, one n.read⟩
  · have : (partsF (c :: 47 :: x.path)).length ≤ 16 := partsF_len _
    simp only [wide3]
    omega
  · rw [dir_up c hc x.path n.path (hs x hx)] at h2
    have : dirB X (if dirF x.path = [] then [c] else c :: 47 :: dirF x.path) = true := by
      by_cases hd : dirF x.path = []
      · rw [if_pos hd]
        exact dirB_true.2 ⟨dC c, hm, rfl, rfl⟩
      · rw [if_neg hd]
        obtain ⟨y, hy, hyp, hyk⟩ := hG.dir hx hd
        exact dirB_true.2 ⟨up c y, ha y hy, by rw [up, hyp], hyk⟩
    rw [this] at h2
    exact absurd h2 (by simp)
theorem check_both {a b : List It} (hA : Good a) (hB : Good b) (sa : ∀ x ∈ a, (splitP x.path).length ≤ 15) (sb : ∀ x ∈ b, (splitP x.path).length ≤ 15) (hl : a.length + b.length ≤ 298) : checkF (both a b) wide3 = ([], 0) := by
  rw [← checkF_perm (two_perm a b)]
  have nd := strict_nd (two_strict hA.nd hB.nd)
  have mx : dC 120 ∈ two a b := List.mem_append_left _ (blk_mem.2 (.inl rfl))
  have my : dC 121 ∈ two a b := List.mem_append_right _ (blk_mem.2 (.inl rfl))
  have ux : ∀ x ∈ a, up 120 x ∈ two a b := fun x hx => List.mem_append_left _ (blk_mem.2 (.inr ⟨x, hx, rfl⟩))
  have uy : ∀ x ∈ b, up 121 x ∈ two a b := fun x hx => List.mem_append_right _ (blk_mem.2 (.inr ⟨x, hx, rfl⟩))
  refine checkF_none ?_ fun z hz => fault_of_no ?_
  · rw [(two_perm a b).length_eq]
    simp only [both, List.length_cons, weave_len, wide3]
    omega
  · rcases List.mem_append.1 hz with hz | hz
    · rcases blk_mem.1 hz with rfl | ⟨x, hx, rfl⟩
      · exact under_dir nd 120 (.inl rfl) mx
      · exact under_item nd 120 (.inl rfl) mx ux hA sa x hx
    · rcases blk_mem.1 hz with rfl | ⟨x, hx, rfl⟩
      · exact under_dir nd 121 (.inr rfl) my
      · exact under_item nd 121 (.inr rfl) my uy hB sb x hx
theorem list_both {a b : List It} (hA : Good a) (hB : Good b) (sa : ∀ x ∈ a, (splitP x.path).length ≤ 15) (sb : ∀ x ∈ b, (splitP x.path).length ≤ 15) : (listF (both a b) []).length = 2 := by
  have key : ∀ (c : UInt8), c = 120 ∨ c = 121 → ∀ (t : List It), Good t → (∀ x ∈ t, (splitP x.path).length ≤ 15) → (t.map (up c)).filter (fun x => !outF [] x) = [] := fun c hc t hG hs => by
    rw [List.filter_eq_nil_iff]
    intro z hz
    obtain ⟨x, hx, rfl⟩ := List.mem_map.1 hz
    have n := hG.no x hx
    have h1 := dir_up c hc x.path n.path (hs x hx)
    have h2 : dirF (up c x).path ≠ [] := by
      show dirF (c :: 47 :: x.path) ≠ []
      rw [h1]
      split <;> simp
    simp [outF, h2]
  unfold listF
  rw [(sortF_perm _).length_eq, both, List.filter_cons_of_pos (by decide), List.filter_cons_of_pos (by decide), List.length_cons, List.length_cons, ((weave_perm a b).filter _).length_eq, List.filter_append, key 120 (.inl rfl) a hA sa, key 121 (.inr rfl) b hB sb]
  rfl
set_option maxRecDepth 100000

theorem pl7 (a : List UInt8) (b : Int) (c : List UInt8) (d : Bool) : place [.str [], .int .i64 0, .str [], .bool false] 0 4 (.agg [.str a, .int .i64 b, .str c, .bool d]) = some [.str a, .int .i64 b, .str c, .bool d] := rfl
theorem pl8 (z a : List UInt8) (b : Int) (c : List UInt8) (d : Bool) : place [.str a, .int .i64 b, .str c, .bool d] 0 1 (.str z) = some [.str z, .int .i64 b, .str c, .bool d] := rfl
theorem pl9 (z a : List UInt8) (b : Int) (c : List UInt8) (d : Bool) : place [.str [], .int .i64 0, .str [], .bool false] 0 1 (.str z) = some [.str z, .int .i64 0, .str [], .bool false] := rfl
theorem pl10 (z : List UInt8) (k : Int) : place [.str z, .int .i64 0, .str [], .bool false] 1 1 (.int .i64 k) = some [.str z, .int .i64 k, .str [], .bool false] := rfl
theorem dd4 (a : List UInt8) (b : Int) (c : List UInt8) (d : Bool) : deadC [.str a, .int .i64 b, .str c, .bool d] = false := rfl
def ClipOk (pm : Pm) (p : Perm) : Prop := p = .clip ∨ ∃ s v, p = .tok s v ∧ pm s = some (v, true)
theorem ClipOk.tok {pm : Pm} {s v : Nat} (h : pm s = some (v, true)) : ClipOk pm (.tok s v) := .inr ⟨s, v, rfl, h⟩
def UQ (a b R : List It) (ex : Ex) (st' : St) : Prop := ex = .exit 0 ∧ ∃ (q' : Perm) (i' : AV) (pm' : Pm) (bx' : Bx), st' = ⟨ofL [(5, .bool true), (6, sI a), (7, sI b), (8, .sl 4 (R.map iA) q'), (9, i'), (30, .bool false)], bx', pm', none⟩
theorem drop_cases (a : List It) (i : Nat) : (a.drop i = [] ∧ ¬ i < a.length) ∨ ∃ x, a[i]? = some x ∧ i < a.length ∧ a.drop i = x :: a.drop (i + 1) := by
  by_cases h : i < a.length
  · exact .inr ⟨a[i], List.getElem?_eq_getElem h, h, List.drop_eq_getElem_cons h⟩
  · exact .inl ⟨List.drop_eq_nil_of_le (by omega), h⟩
theorem us_y_clip (a b T : List It) (i : Nat) (hi : i ≤ 112) (hT : T.length ≤ 226) (a1 : ¬ i < a.length) (y : It) (y0 : b[i]? = some y) (y1 : i < b.length) (hyl : y.path.length ≤ 1039) (bx : Bx) (pm : Pm) (Q : Ex → St → Prop) (hnx : ∀ O q bx pm, O = (T ++ [up 121 y]).map iA → ClipOk pm q → Res (RunD Sy (.loop L9x0) ⟨ofL [(5, .bool true), (6, sI a), (7, sI b), (8, .sl 4 O q), (9, .int .i64 ((i + 1 : Nat) : Int))], bx, pm, none⟩) Q) :
    Res (RunD Sy (.loop L9x0) ⟨ofL [(5, .bool true), (6, sI a), (7, sI b), (8, .sl 4 (T.map iA) .clip), (9, .int .i64 i)], bx, pm, none⟩) Q := by
  obtain ⟨m, hm⟩ : ∃ m : Int, (if a.length < b.length then (b.length : Int) else (a.length : Int)) = m := ⟨_, rfl⟩
  have h3 : (i : Int) < m := by rw [← hm]; split <;> omega
  have h1 : ¬ (i : Int) < a.length := by omega
  have g2 : (b.map iA)[i]? = some (iA y) := by rw [List.getElem?_map, y0]; rfl
  have l3 : y.path.length + 2 ≤ 9223372036854775807 := by omega
  have l4 : 2 + y.path.length ≤ 9223372036854775807 := by omega
  have h2 : (i : Int) < b.length := by omega
  have hc := chk_i64 ((i : Int) + 1) (by omega)
  have s1 : (T.length + 1) * 48 ≤ 140737488355328 := by omega
  simp only [iA] at g2
  refine loop_step fun K hK => ?_
  simp [L9x0, -getElem?_pos, -List.getElem?_map, hm, h3, a1, h1, y1, g2, l3, l4, h2, hc, s1, pl7, pl8, dd4, -place, -deadC]
  rw [hK]
  refine hnx _ _ _ _ ?_ (ClipOk.tok (upd_same _ _ _))
  simp [iA, up]
theorem us_y_tok (a b T : List It) (i : Nat) (hi : i ≤ 112) (hT : T.length ≤ 226) (a1 : ¬ i < a.length) (y : It) (y0 : b[i]? = some y) (y1 : i < b.length) (hyl : y.path.length ≤ 1039) (bx : Bx) (pm : Pm) (tt v : Nat) (hpm : pm tt = some (v, true)) (Q : Ex → St → Prop) (hnx : ∀ O q bx pm, O = (T ++ [up 121 y]).map iA → ClipOk pm q → Res (RunD Sy (.loop L9x0) ⟨ofL [(5, .bool true), (6, sI a), (7, sI b), (8, .sl 4 O q), (9, .int .i64 ((i + 1 : Nat) : Int))], bx, pm, none⟩) Q) :
    Res (RunD Sy (.loop L9x0) ⟨ofL [(5, .bool true), (6, sI a), (7, sI b), (8, .sl 4 (T.map iA) (.tok tt v)), (9, .int .i64 i)], bx, pm, none⟩) Q := by
  obtain ⟨m, hm⟩ : ∃ m : Int, (if a.length < b.length then (b.length : Int) else (a.length : Int)) = m := ⟨_, rfl⟩
  have h3 : (i : Int) < m := by rw [← hm]; split <;> omega
  have h1 : ¬ (i : Int) < a.length := by omega
  have g2 : (b.map iA)[i]? = some (iA y) := by rw [List.getElem?_map, y0]; rfl
  have l3 : y.path.length + 2 ≤ 9223372036854775807 := by omega
  have l4 : 2 + y.path.length ≤ 9223372036854775807 := by omega
  have h2 : (i : Int) < b.length := by omega
  have hc := chk_i64 ((i : Int) + 1) (by omega)
  have s1 : (T.length + 1) * 48 ≤ 140737488355328 := by omega
  simp only [iA] at g2
  refine loop_step fun K hK => ?_
  simp [L9x0, -getElem?_pos, -List.getElem?_map, hm, h3, a1, h1, y1, g2, l3, l4, h2, hc, s1, hpm, pl7, pl8, dd4, -place, -deadC]
  rw [hK]
  refine hnx _ _ _ _ ?_ (ClipOk.tok (upd_same _ _ _))
  simp [iA, up]
theorem us_x_clip (a b T : List It) (i : Nat) (hi : i ≤ 112) (hT : T.length ≤ 226) (x : It) (x0 : a[i]? = some x) (x1 : i < a.length) (hxl : x.path.length ≤ 1039) (b1 : ¬ i < b.length) (bx : Bx) (pm : Pm) (Q : Ex → St → Prop) (hnx : ∀ O q bx pm, O = (T ++ [up 120 x]).map iA → ClipOk pm q → Res (RunD Sy (.loop L9x0) ⟨ofL [(5, .bool true), (6, sI a), (7, sI b), (8, .sl 4 O q), (9, .int .i64 ((i + 1 : Nat) : Int))], bx, pm, none⟩) Q) :
    Res (RunD Sy (.loop L9x0) ⟨ofL [(5, .bool true), (6, sI a), (7, sI b), (8, .sl 4 (T.map iA) .clip), (9, .int .i64 i)], bx, pm, none⟩) Q := by
  obtain ⟨m, hm⟩ : ∃ m : Int, (if a.length < b.length then (b.length : Int) else (a.length : Int)) = m := ⟨_, rfl⟩
  have h3 : (i : Int) < m := by rw [← hm]; split <;> omega
  have g1 : (a.map iA)[i]? = some (iA x) := by rw [List.getElem?_map, x0]; rfl
  have l1 : x.path.length + 2 ≤ 9223372036854775807 := by omega
  have l2 : 2 + x.path.length ≤ 9223372036854775807 := by omega
  have h1 : (i : Int) < a.length := by omega
  have h2 : ¬ (i : Int) < b.length := by omega
  have hc := chk_i64 ((i : Int) + 1) (by omega)
  have s1 : (T.length + 1) * 48 ≤ 140737488355328 := by omega
  simp only [iA] at g1
  refine loop_step fun K hK => ?_
  simp [L9x0, -getElem?_pos, -List.getElem?_map, hm, h3, x1, g1, l1, l2, h1, b1, h2, hc, s1, pl7, pl8, dd4, -place, -deadC]
  rw [hK]
  refine hnx _ _ _ _ ?_ (ClipOk.tok (upd_same _ _ _))
  simp [iA, up]
theorem us_x_tok (a b T : List It) (i : Nat) (hi : i ≤ 112) (hT : T.length ≤ 226) (x : It) (x0 : a[i]? = some x) (x1 : i < a.length) (hxl : x.path.length ≤ 1039) (b1 : ¬ i < b.length) (bx : Bx) (pm : Pm) (tt v : Nat) (hpm : pm tt = some (v, true)) (Q : Ex → St → Prop) (hnx : ∀ O q bx pm, O = (T ++ [up 120 x]).map iA → ClipOk pm q → Res (RunD Sy (.loop L9x0) ⟨ofL [(5, .bool true), (6, sI a), (7, sI b), (8, .sl 4 O q), (9, .int .i64 ((i + 1 : Nat) : Int))], bx, pm, none⟩) Q) :
    Res (RunD Sy (.loop L9x0) ⟨ofL [(5, .bool true), (6, sI a), (7, sI b), (8, .sl 4 (T.map iA) (.tok tt v)), (9, .int .i64 i)], bx, pm, none⟩) Q := by
  obtain ⟨m, hm⟩ : ∃ m : Int, (if a.length < b.length then (b.length : Int) else (a.length : Int)) = m := ⟨_, rfl⟩
  have h3 : (i : Int) < m := by rw [← hm]; split <;> omega
  have g1 : (a.map iA)[i]? = some (iA x) := by rw [List.getElem?_map, x0]; rfl
  have l1 : x.path.length + 2 ≤ 9223372036854775807 := by omega
  have l2 : 2 + x.path.length ≤ 9223372036854775807 := by omega
  have h1 : (i : Int) < a.length := by omega
  have h2 : ¬ (i : Int) < b.length := by omega
  have hc := chk_i64 ((i : Int) + 1) (by omega)
  have s1 : (T.length + 1) * 48 ≤ 140737488355328 := by omega
  simp only [iA] at g1
  refine loop_step fun K hK => ?_
  simp [L9x0, -getElem?_pos, -List.getElem?_map, hm, h3, x1, g1, l1, l2, h1, b1, h2, hc, s1, hpm, pl7, pl8, dd4, -place, -deadC]
  rw [hK]
  refine hnx _ _ _ _ ?_ (ClipOk.tok (upd_same _ _ _))
  simp [iA, up]
set_option maxHeartbeats 2000000 in
theorem us_xy_clip (a b T : List It) (i : Nat) (hi : i ≤ 112) (hT : T.length ≤ 226) (x : It) (x0 : a[i]? = some x) (x1 : i < a.length) (hxl : x.path.length ≤ 1039) (y : It) (y0 : b[i]? = some y) (y1 : i < b.length) (hyl : y.path.length ≤ 1039) (bx : Bx) (pm : Pm) (Q : Ex → St → Prop) (hnx : ∀ O q bx pm, O = (T ++ [up 121 y, up 120 x]).map iA → ClipOk pm q → Res (RunD Sy (.loop L9x0) ⟨ofL [(5, .bool true), (6, sI a), (7, sI b), (8, .sl 4 O q), (9, .int .i64 ((i + 1 : Nat) : Int))], bx, pm, none⟩) Q) :
    Res (RunD Sy (.loop L9x0) ⟨ofL [(5, .bool true), (6, sI a), (7, sI b), (8, .sl 4 (T.map iA) .clip), (9, .int .i64 i)], bx, pm, none⟩) Q := by
  obtain ⟨m, hm⟩ : ∃ m : Int, (if a.length < b.length then (b.length : Int) else (a.length : Int)) = m := ⟨_, rfl⟩
  have h3 : (i : Int) < m := by rw [← hm]; split <;> omega
  have g1 : (a.map iA)[i]? = some (iA x) := by rw [List.getElem?_map, x0]; rfl
  have l1 : x.path.length + 2 ≤ 9223372036854775807 := by omega
  have l2 : 2 + x.path.length ≤ 9223372036854775807 := by omega
  have h1 : (i : Int) < a.length := by omega
  have g2 : (b.map iA)[i]? = some (iA y) := by rw [List.getElem?_map, y0]; rfl
  have l3 : y.path.length + 2 ≤ 9223372036854775807 := by omega
  have l4 : 2 + y.path.length ≤ 9223372036854775807 := by omega
  have h2 : (i : Int) < b.length := by omega
  have hc := chk_i64 ((i : Int) + 1) (by omega)
  have s1 : (T.length + 1) * 48 ≤ 140737488355328 := by omega
  have s2 : (T.length + 1 + 1) * 48 ≤ 140737488355328 := Nat.le_trans (Nat.mul_le_mul_right 48 (show T.length + 1 + 1 ≤ 228 from Nat.succ_le_succ (Nat.succ_le_succ hT))) (by decide)
  simp only [iA] at g1 g2
  refine loop_step fun K hK => ?_
  simp [L9x0, -getElem?_pos, -List.getElem?_map, hm, h3, x1, g1, l1, l2, h1, y1, g2, l3, l4, h2, hc, s1, s2, pl7, pl8, dd4, -place, -deadC]
  rw [hK]
  refine hnx _ _ _ _ ?_ (ClipOk.tok (upd_same _ _ _))
  simp [iA, up]
set_option maxHeartbeats 2000000 in
theorem us_xy_tok (a b T : List It) (i : Nat) (hi : i ≤ 112) (hT : T.length ≤ 226) (x : It) (x0 : a[i]? = some x) (x1 : i < a.length) (hxl : x.path.length ≤ 1039) (y : It) (y0 : b[i]? = some y) (y1 : i < b.length) (hyl : y.path.length ≤ 1039) (bx : Bx) (pm : Pm) (tt v : Nat) (hpm : pm tt = some (v, true)) (Q : Ex → St → Prop) (hnx : ∀ O q bx pm, O = (T ++ [up 121 y, up 120 x]).map iA → ClipOk pm q → Res (RunD Sy (.loop L9x0) ⟨ofL [(5, .bool true), (6, sI a), (7, sI b), (8, .sl 4 O q), (9, .int .i64 ((i + 1 : Nat) : Int))], bx, pm, none⟩) Q) :
    Res (RunD Sy (.loop L9x0) ⟨ofL [(5, .bool true), (6, sI a), (7, sI b), (8, .sl 4 (T.map iA) (.tok tt v)), (9, .int .i64 i)], bx, pm, none⟩) Q := by
  obtain ⟨m, hm⟩ : ∃ m : Int, (if a.length < b.length then (b.length : Int) else (a.length : Int)) = m := ⟨_, rfl⟩
  have h3 : (i : Int) < m := by rw [← hm]; split <;> omega
  have g1 : (a.map iA)[i]? = some (iA x) := by rw [List.getElem?_map, x0]; rfl
  have l1 : x.path.length + 2 ≤ 9223372036854775807 := by omega
  have l2 : 2 + x.path.length ≤ 9223372036854775807 := by omega
  have h1 : (i : Int) < a.length := by omega
  have g2 : (b.map iA)[i]? = some (iA y) := by rw [List.getElem?_map, y0]; rfl
  have l3 : y.path.length + 2 ≤ 9223372036854775807 := by omega
  have l4 : 2 + y.path.length ≤ 9223372036854775807 := by omega
  have h2 : (i : Int) < b.length := by omega
  have hc := chk_i64 ((i : Int) + 1) (by omega)
  have s1 : (T.length + 1) * 48 ≤ 140737488355328 := by omega
  have s2 : (T.length + 1 + 1) * 48 ≤ 140737488355328 := Nat.le_trans (Nat.mul_le_mul_right 48 (show T.length + 1 + 1 ≤ 228 from Nat.succ_le_succ (Nat.succ_le_succ hT))) (by decide)
  simp only [iA] at g1 g2
  refine loop_step fun K hK => ?_
  simp [L9x0, -getElem?_pos, -List.getElem?_map, hm, h3, x1, g1, l1, l2, h1, y1, g2, l3, l4, h2, hc, s1, s2, hpm, pl7, pl8, dd4, -place, -deadC]
  rw [hK]
  refine hnx _ _ _ _ ?_ (ClipOk.tok (upd_same _ _ _))
  simp [iA, up]
theorem under_loop (a b : List It) (ha : a.length ≤ 112) (hb : b.length ≤ 112) (pa : ∀ x ∈ a, x.path.length ≤ 1039) (pb : ∀ x ∈ b, x.path.length ≤ 1039) (R : List It) : ∀ (N i : Nat) (T : List It) (O : List AV) (q : Perm) (bx : Bx) (pm : Pm), 112 ≤ i + N → i ≤ 112 → T.length ≤ 2 + 2 * i → O = T.map iA → R = T ++ weave (a.drop i) (b.drop i) → ClipOk pm q →
    Res (RunD Sy (.loop L9x0) ⟨ofL [(5, .bool true), (6, sI a), (7, sI b), (8, .sl 4 O q), (9, .int .i64 i)], bx, pm, none⟩) fun ex st' => UQ a b R ex st'
  | N, i, T, O, q, bx, pm, hN, hi, hT, hO, hR, hq => by
    subst hO
    rcases drop_cases a i with ⟨a0, a1⟩ | ⟨x, x0, x1, x2⟩ <;> rcases drop_cases b i with ⟨b0, b1⟩ | ⟨y, y0, y1, y2⟩
    · rw [a0, b0, weave, List.append_nil] at hR
      subst hR
      obtain ⟨m, hm⟩ : ∃ m : Int, (if a.length < b.length then (b.length : Int) else (a.length : Int)) = m := ⟨_, rfl⟩
      have h3 : ¬ (i : Int) < m := by rw [← hm]; split <;> omega
      refine loop_step fun K hK => ?_
      simp [L9x0, hm, h3, a1, b1]
      exact ⟨rfl, _, _, _, _, rfl⟩
    · obtain ⟨N, rfl⟩ : ∃ N', N = N' + 1 := ⟨N - 1, by omega⟩
      rw [a0, y2, weave] at hR
      have a0' : a.drop (i + 1) = [] := List.drop_eq_nil_of_le (by omega)
      have hnx := fun O q bx pm hO => under_loop a b ha hb pa pb R N (i + 1) (T ++ [up 121 y]) O q bx pm (by omega) (by omega) (by simp; omega) hO (by rw [hR, a0']; simp)
      have hyl := pb y (List.mem_of_getElem? y0)
      rcases hq with rfl | ⟨tt, v, rfl, hpm⟩
      · exact us_y_clip a b T i hi (by omega) a1 y y0 y1 hyl bx pm _ hnx
      · exact us_y_tok a b T i hi (by omega) a1 y y0 y1 hyl bx pm tt v hpm _ hnx
    · obtain ⟨N, rfl⟩ : ∃ N', N = N' + 1 := ⟨N - 1, by omega⟩
      rw [b0, x2, weave] at hR
      have b0' : b.drop (i + 1) = [] := List.drop_eq_nil_of_le (by omega)
      have hnx := fun O q bx pm hO => under_loop a b ha hb pa pb R N (i + 1) (T ++ [up 120 x]) O q bx pm (by omega) (by omega) (by simp; omega) hO (by rw [hR, b0']; simp)
      have hxl := pa x (List.mem_of_getElem? x0)
      rcases hq with rfl | ⟨tt, v, rfl, hpm⟩
      · exact us_x_clip a b T i hi (by omega) x x0 x1 hxl b1 bx pm _ hnx
      · exact us_x_tok a b T i hi (by omega) x x0 x1 hxl b1 bx pm tt v hpm _ hnx
    · obtain ⟨N, rfl⟩ : ∃ N', N = N' + 1 := ⟨N - 1, by omega⟩
      rw [x2, y2, weave] at hR
      have hnx := fun O q bx pm hO => under_loop a b ha hb pa pb R N (i + 1) (T ++ [up 121 y, up 120 x]) O q bx pm (by omega) (by omega) (by simp; omega) hO (by rw [hR]; simp)
      have hxl := pa x (List.mem_of_getElem? x0)
      have hyl := pb y (List.mem_of_getElem? y0)
      rcases hq with rfl | ⟨tt, v, rfl, hpm⟩
      · exact us_xy_clip a b T i hi (by omega) x x0 x1 hxl y y0 y1 hyl bx pm _ hnx
      · exact us_xy_tok a b T i hi (by omega) x x0 x1 hxl y y0 y1 hyl bx pm tt v hpm _ hnx
set_option maxRecDepth 100000

theorem under_loop2 (a p s : List It) (T : AV) (hp : ∀ x ∈ p, x.path.length ≤ 1039) (hn : p.length ≤ 112) (hsl : p.length + 1 ≤ s.length) (hs : ∀ i x, p[i]? = some x → s[i + 1]? = some (up 120 x)) (pm : Pm) : ∀ (rest pre : List It) (i : Int) (bx : Bx), p = pre ++ rest → i = pre.length →
    Res (RunD Sy (.loop L9x1) ⟨ofL [(5, .bool true), (6, sI a), (8, T), (12, sI s), (13, sI p), (14, .int .i64 i)], bx, pm, none⟩) fun ex st' => ex = .exit 2 ∧ ∃ bx', st' = ⟨ofL [(5, .bool true), (6, sI a), (8, T), (12, sI s), (13, sI p), (14, .int .i64 p.length), (102, .bool false)], bx', pm, none⟩
  | [], pre, i, bx, h, hi => by
    subst hi
    rw [List.append_nil] at h
    subst h
    refine loop_step fun K hK => ?_
    simp [L9x1]
  | x :: rest, pre, i, bx, h, hi => by
    subst hi
    have hlt : (pre.length : Int) < p.length := by rw [h]; simp; omega
    have hlt2 : pre.length < p.length := by omega
    have hx0 : p[pre.length]? = some x := by rw [h]; simp
    have hg : (p.map iA)[pre.length]? = some (iA x) := by rw [List.getElem?_map, hx0]; rfl
    have hg2 : (s.map iA)[pre.length + 1]? = some (iA (up 120 x)) := by rw [List.getElem?_map, hs _ _ hx0]; rfl
    have hc := chk_i64 ((pre.length : Int) + 1) (by omega)
    have hc2 := chk_i64 (1 + (pre.length : Int)) (by omega)
    have hk1 : (1 + (pre.length : Int)).toNat = pre.length + 1 := by omega
    have hb1 : 1 + (pre.length : Int) < s.length := by omega
    have hb2 : (0 : Int) ≤ 1 + (pre.length : Int) := by omega
    have hxl := hp x (List.mem_of_getElem? hx0)
    have l1 : x.path.length + 2 ≤ 9223372036854775807 := by omega
    have l2 : 2 + x.path.length ≤ 9223372036854775807 := by omega
    have he := eqv_it (up 120 x) (up 120 x)
    rw [decide_eq_true rfl] at he
    have hnx := fun bx => under_loop2 a p s T hp hn hsl hs pm rest (pre ++ [x]) ((pre.length : Int) + 1) bx (by simp [h]) (by simp)
    simp only [iA, up] at hg hg2 he
    refine loop_step fun K hK => ?_
    simp [L9x1, -getElem?_pos, -List.getElem?_map, hlt, hlt2, hg, hg2, hc, hc2, hk1, hb1, hb2, l1, l2, he, pl7, pl8, dd4, -place, -deadC]
    rw [hK]
    simpa using hnx _
theorem sort18_d (t : List It) (ht : t.length ≤ sortN) (hp : ∀ x ∈ t, x.path.length ≤ bigT) : Den Sy 18 [sI t] = some (sI (sortF t)) := by
  rw [Den_ext Sy (F := sortEx) rfl]
  simp only [sortEx, itsOf_its]
  rw [if_pos ⟨ht, hp⟩]
theorem pw1 : place [.int .i64 0, .int .i64 0, .int .i64 0] 0 1 (.int .i64 16) = some [.int .i64 16, .int .i64 0, .int .i64 0] := rfl
theorem pw2 : place [.int .i64 16, .int .i64 0, .int .i64 0] 1 1 (.int .i64 1000) = some [.int .i64 16, .int .i64 1000, .int .i64 0] := rfl
theorem pw3 : place [.int .i64 16, .int .i64 1000, .int .i64 0] 2 1 (.int .i64 300) = some [.int .i64 16, .int .i64 1000, .int .i64 300] := rfl
theorem under_law (one two' : List Raw) (hr : ∀ x ∈ one, x.ok) (hr2 : ∀ x ∈ two', x.ok) : Den Sy 9 [sR one, sR two'] = some (.bool true) := by
  have hA := tree_den one hr
  have hB := tree_den two' hr2
  have na := treeF_len one
  have nb := treeF_len two'
  have pa := treeF_path one
  have pb := treeF_path two'
  have gA := good_of (tree_ok one)
  have gB := good_of (tree_ok two')
  have sa := treeF_parts one
  have sb := treeF_parts two'
  generalize treeF one = a at hA na pa gA sa
  generalize treeF two' = b at hB nb pb gB sb
  have hSort := sort_both gA.nd gB.nd
  have hlen : (both a b).length = a.length + b.length + 2 := by simp [both, weave_len]
  have hpath : ∀ x ∈ both a b, x.path.length ≤ 1041 := fun x hx => by
    rcases List.mem_append.1 ((two_perm a b).mem_iff.2 hx) with h | h
    · rcases blk_mem.1 h with rfl | ⟨y, hy, rfl⟩
      · simp [dC]
      · have := pa y hy; simp [up]; omega
    · rcases blk_mem.1 h with rfl | ⟨y, hy, rfl⟩
      · simp [dC]
      · have := pb y hy; simp [up]; omega
  have hbt : bigT = 4294967280 := rfl
  have hbn : bigN = 1099511627776 := rfl
  have hbp : bigP = 1099511627776 := rfl
  have hsn : sortN = 1099511627776 := rfl
  have S1 := sort18_d (both a b) (by omega) (fun x hx => by have := hpath x hx; omega)
  rw [hSort] at S1
  have S2 := sort18_d a (by omega) (fun x hx => by have := pa x hx; omega)
  have C1 := check15_den (both a b) wide3 (by omega) (fun x hx => by have := hpath x hx; omega)
  rw [check_both gA gB sa sb (by omega)] at C1
  have L1 := list25_den (both a b) [] (by omega) (fun x hx => by have := hpath x hx; omega)
  have L2 := list_both gA gB sa sb
  have e0 := eqv_ft ([], 0) ([], 0)
  rw [decide_eq_true rfl] at e0
  have hsl : (two a b).length = a.length + b.length + 2 := by rw [(two_perm a b).length_eq, hlen]
  have hpl : (sortF a).length = a.length := (sortF_perm a).length_eq
  have g0 : ((two a b).map iA)[0]? = some (iA (dC 120)) := rfl
  have hs : ∀ i x, (sortF a)[i]? = some x → (two a b)[i + 1]? = some (up 120 x) := fun i x hx => by
    have hi := (List.getElem?_eq_some_iff.1 hx).1
    have e : two a b = dC 120 :: ((sortF a).map (up 120) ++ unB 121 b) := rfl
    rw [e, List.getElem?_cons_succ, List.getElem?_append_left (by rw [List.length_map]; exact hi), List.getElem?_map, hx]
    rfl
  have gy : ((two a b).map iA)[a.length + 1]? = some (iA (dC 121)) := by
    have e : two a b = dC 120 :: ((sortF a).map (up 120) ++ unB 121 b) := rfl
    rw [List.getElem?_map, e, List.getElem?_cons_succ, List.getElem?_append_right (by rw [List.length_map]; omega), List.length_map, hpl, Nat.sub_self]
    rfl
  have hL1 : Res (RunD Sy (.loop L9x0) ⟨ofL [(5, .bool true), (6, sI a), (7, sI b), (8, .sl 4 [.agg [.str [121], .int .i64 1, .str [], .bool false], .agg [.str [120], .int .i64 1, .str [], .bool false]] .clip), (9, .int .i64 0)], ofL [], none', none⟩) fun ex st' => UQ a b (both a b) ex st' :=
    under_loop a b na nb pa pb (both a b) 112 0 [dC 121, dC 120] _ .clip (ofL []) none' (by omega) (by omega) (by simp) rfl rfl (.inl rfl)
  obtain ⟨ex1, st1, hL1, rfl, q1, i1, pm1, bx1, rfl⟩ := hL1
  have hL2 := fun T bx pm => under_loop2 a (sortF a) (two a b) T (fun x hx => pa x ((sortF_perm a).mem_iff.1 hx)) (by omega) (by omega) hs pm (sortF a) [] 0 bx rfl rfl
  have hwd : lA wide3 = .agg [.int .i64 16, .int .i64 1000, .int .i64 300] := rfl
  rw [hwd] at C1
  simp only [ftA] at C1 e0
  simp only [iA, dC] at g0 gy
  have hc1 := chk_i64 ((a.length : Int) + b.length) (by omega)
  have hc2 := chk_i64 ((a.length : Int) + b.length + 2) (by omega)
  have hc3 := chk_i64 (1 + (a.length : Int)) (by omega)
  have hk1 : (1 + (a.length : Int)).toNat = a.length + 1 := by omega
  have hb1 : 1 + (a.length : Int) < (two a b).length := by omega
  have hb2 : (0 : Int) ≤ 1 + (a.length : Int) := by omega
  have hb3 : 1 + (a.length : Int) < (a.length : Int) + b.length + 2 := by omega
  have hpos : 0 < (two a b).length := by omega
  clear hlen hpath hSort hs gA gB sa sb pa pb
  generalize both a b = T at *
  generalize two a b = s at *
  generalize sortF a = p at *
  generalize listF T [] = l at *
  obtain ⟨ex2, st2, hL2, rfl, bx2, rfl⟩ := hL2 (.sl 4 (T.map iA) q1) bx1 pm1
  rw [Den_fun Sy (af := A9) rfl rfl _ rfl]
  simp [A9, -getElem?_pos, -List.getElem?_map, awake_den, hA, hB, S1, S2, C1, L1, L2, e0, hsl, hpl, g0, gy, hL1, hL2, hc1, hc2, hc3, hk1, hb1, hb2, hb3, hpos, pl9, pl10, pw1, pw2, pw3, -place]
theorem under_law_den (one two' : List Raw) (hr : ∀ x ∈ one, x.well) (fr : ∀ x ∈ one, x.fit) (hr2 : ∀ x ∈ two', x.well) (fr2 : ∀ x ∈ two', x.fit) : Den Sy 9 [sR one, sR two'] = some (.bool true) :=
  under_law one two' (raws_ok hr fr) (raws_ok hr2 fr2)
end Go.Proofs.YtpkeiffclipjmaaGreatDoor.Rx
