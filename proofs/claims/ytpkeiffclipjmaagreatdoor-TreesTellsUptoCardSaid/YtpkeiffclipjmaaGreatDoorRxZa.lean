/-
  The stable sort, plain: in order; swapRange, rotate; symMerge's searches.
-/
import Derived.Test.YtpkeiffclipjmaaGreatDoorRxFg
namespace Go.Proofs.YtpkeiffclipjmaaGreatDoor.Rx
open Go
set_option linter.unusedSimpArgs false
set_option linter.unusedVariables false

theorem sortF_itS (t : List It) : sortF t = sortG Q.itS [] t := by
  unfold sortF
  have : itLt = Q.itS := by funext x y; simp only [itLt, cmp_eq]
  rw [this]
def LeI (a b : It) : Prop := cmpS a.path b.path ≤ 0
theorem LeI.trans {a b c : It} (h1 : LeI a b) (h2 : LeI b c) : LeI a c := cmpS_tr h1 h2
theorem LeI.of_not {a b : It} (h : ¬ cmpS a.path b.path < 0) : LeI b a := by
  have := cmpS_anti a.path b.path
  unfold LeI
  omega
theorem insF_perm (x : It) (out : List It) : (insF Q.itS x out).Perm (x :: out) := by
  unfold insF
  refine List.perm_middle.trans ?_
  rw [List.take_append_drop]
theorem sortG_perm : ∀ (l out : List It), (sortG Q.itS out l).Perm (out ++ l)
  | [], out => by simp [sortG]
  | x :: l, out => by
    rw [sortG]
    refine (sortG_perm l (insF Q.itS x out)).trans ?_
    refine ((insF_perm x out).append_right l).trans ?_
    exact List.perm_middle.symm
theorem sortF_perm (t : List It) : (sortF t).Perm t := by rw [sortF_itS]; simpa using sortG_perm t []
theorem insF_sorted (x : It) : ∀ (m : Nat) (out : List It), out.length = m → out.Pairwise LeI → (insF Q.itS x out).Pairwise LeI
  | 0, out, h, _ => by
    obtain rfl := List.eq_nil_of_length_eq_zero h
    simp [insF, atF]
  | m + 1, out, h, hs => by
    obtain ⟨out', y, rfl⟩ : ∃ o y, out = o ++ [y] := by
      rcases nil_or_last out with rfl | h'
      · simp at h
      · exact h'
    rw [List.pairwise_append] at hs
    rw [Q.insF_snoc]
    split
    · rename_i hlt
      rw [List.pairwise_append]
      refine ⟨insF_sorted x m out' (by simpa using h) hs.1, by simp, fun a ha b hb => ?_⟩
      rw [List.mem_singleton] at hb
      subst hb
      rcases (insF_mem _ _ _ _).1 ha with rfl | ha
      · exact Int.le_of_lt hlt
      · exact hs.2.2 a ha b (by simp)
    · rename_i hlt
      rw [List.pairwise_append]
      refine ⟨List.pairwise_append.2 hs, by simp, fun a ha b hb => ?_⟩
      rw [List.mem_singleton] at hb
      subst hb
      have hy := LeI.of_not hlt
      rcases List.mem_append.1 ha with ha | ha
      · exact (hs.2.2 a ha y (by simp)).trans hy
      · rw [List.mem_singleton] at ha
        subst ha
        exact hy
theorem sortG_sorted : ∀ (l out : List It), out.Pairwise LeI → (sortG Q.itS out l).Pairwise LeI
  | [], out, h => h
  | x :: l, out, h => by
    rw [sortG]
    exact sortG_sorted l _ (insF_sorted x _ out rfl h)
theorem sortF_sorted (t : List It) : (sortF t).Pairwise LeI := by rw [sortF_itS]; exact sortG_sorted t [] .nil
theorem insF_last (x : It) (out : List It) (h : (out ++ [x]).Pairwise LeI) : insF Q.itS x out = out ++ [x] := by
  rcases nil_or_last out with rfl | ⟨o, y, rfl⟩
  · simp [insF, atF]
  · rw [Q.insF_snoc, if_neg]
    have : LeI y x := (List.pairwise_append.1 h).2.2 y (by simp) x (by simp)
    have a := cmpS_anti y.path x.path
    unfold LeI at this
    omega
theorem sortG_done : ∀ (l out : List It), (out ++ l).Pairwise LeI → sortG Q.itS out l = out ++ l
  | [], out, _ => by simp [sortG]
  | x :: l, out, h => by
    have e : out ++ x :: l = (out ++ [x]) ++ l := by simp
    rw [e] at h ⊢
    rw [sortG, insF_last x out (List.pairwise_append.1 h).1]
    exact sortG_done l _ h
theorem sortF_done (t : List It) (h : t.Pairwise LeI) : sortF t = t := by rw [sortF_itS]; exact sortG_done t [] h

/-! ### It is stable; what is in order, and has the same items of each path in the same order, is the same -/
theorem atP_comm (x y : It) (h : cmpS x.path y.path < 0) (p : List UInt8) : atP [x] p ++ atP [y] p = atP [y] p ++ atP [x] p := by
  have hne : x.path ≠ y.path := fun e => by rw [e, cmpS_self] at h; omega
  by_cases hx : x.path = p
  · have hy : ¬ y.path = p := fun e => hne (hx.trans e.symm)
    simp [atP, hy]
  · simp [atP, hx]
theorem atP_app (a b : List It) (p : List UInt8) : atP (a ++ b) p = atP a p ++ atP b p := List.filter_append ..
theorem insF_at (x : It) (p : List UInt8) : ∀ (m : Nat) (out : List It), out.length = m → atP (insF Q.itS x out) p = atP out p ++ atP [x] p
  | 0, out, h => by
    obtain rfl := List.eq_nil_of_length_eq_zero h
    simp [insF, atF, atP]
  | m + 1, out, h => by
    obtain ⟨out', y, rfl⟩ : ∃ o y, out = o ++ [y] := by
      rcases nil_or_last out with rfl | h'
      · simp at h
      · exact h'
    rw [Q.insF_snoc]
    split
    · rename_i hlt
      rw [atP_app, insF_at x p m out' (by simpa using h), atP_app, List.append_assoc, atP_comm x y hlt, List.append_assoc]
    · rw [atP_app]
theorem sortG_at (p : List UInt8) : ∀ (l out : List It), atP (sortG Q.itS out l) p = atP out p ++ atP l p
  | [], out => by simp [sortG, atP]
  | x :: l, out => by
    rw [sortG, sortG_at p l, insF_at x p _ out rfl, List.append_assoc, ← atP_app]
    rfl
theorem sortF_at (t : List It) (p : List UInt8) : atP (sortF t) p = atP t p := by rw [sortF_itS, sortG_at]; rfl
theorem mem_atP {t : List It} {x : It} (h : x ∈ t) : x ∈ atP t x.path := List.mem_filter.2 ⟨h, by simp⟩
theorem sorted_uniq : ∀ (a b : List It), a.Pairwise LeI → b.Pairwise LeI → (∀ p, atP a p = atP b p) → a = b
  | [], [], _, _, _ => rfl
  | [], y :: b, _, _, h => by
    have := mem_atP (t := y :: b) (x := y) (by simp)
    rw [← h] at this
    simp [atP] at this
  | x :: a, [], _, _, h => by
    have := mem_atP (t := x :: a) (x := x) (by simp)
    rw [h] at this
    simp [atP] at this
  | x :: a, y :: b, ha, hb, h => by
    rw [List.pairwise_cons] at ha hb
    have hx : x ∈ y :: b := (List.mem_filter.1 (by rw [← h x.path]; exact mem_atP (by simp) : x ∈ atP (y :: b) x.path)).1
    have hy : y ∈ x :: a := (List.mem_filter.1 (by rw [h y.path]; exact mem_atP (by simp) : y ∈ atP (x :: a) y.path)).1
    have l1 : LeI y x := by
      rcases List.mem_cons.1 hx with rfl | hx
      · exact Int.le_of_eq (cmpS_self _)
      · exact hb.1 x hx
    have l2 : LeI x y := by
      rcases List.mem_cons.1 hy with rfl | hy
      · exact Int.le_of_eq (cmpS_self _)
      · exact ha.1 y hy
    have e : x.path = y.path := by
      have := cmpS_anti x.path y.path
      unfold LeI at l1 l2
      exact cmpS_zero (by omega)
    have h0 := h x.path
    have c1 : atP (x :: a) x.path = x :: atP a x.path := by simp [atP]
    have c2 : atP (y :: b) x.path = y :: atP b x.path := by simp [atP, e]
    rw [c1, c2, List.cons.injEq] at h0
    obtain ⟨rfl, _⟩ := h0
    rw [sorted_uniq a b ha.2 hb.2 (fun p => ?_)]
    have hp := h p
    by_cases hxp : x.path = p
    · have d1 : atP (x :: a) p = x :: atP a p := by simp [atP, hxp]
      have d2 : atP (x :: b) p = x :: atP b p := by simp [atP, hxp]
      rw [d1, d2, List.cons.injEq] at hp
      exact hp.2
    · have d1 : atP (x :: a) p = atP a p := by simp [atP, hxp]
      have d2 : atP (x :: b) p = atP b p := by simp [atP, hxp]
      rw [d1, d2] at hp
      exact hp

end Go.Proofs.YtpkeiffclipjmaaGreatDoor.Rx
namespace Go.Proofs.YtpkeiffclipjmaaGreatDoor.Rx
open Go Go.RowKit
set_option maxRecDepth 100000
set_option linter.unusedSimpArgs false
set_option linter.unusedVariables false

namespace Q
theorem at_mid (A B : List It) (x : It) : (A ++ x :: B)[A.length]? = some x := by simp
theorem set_mid (A B : List It) (x y : It) : (A ++ x :: B).set A.length y = A ++ y :: B := by
  rw [List.set_append_right _ _ (Nat.le_refl _), Nat.sub_self]
  rfl
/-- Two items change places: what the cells are. -/
theorem swap_facts {L L1 L2 : List It} {k1 k2 : Nat} {u v : It} (h1 : L[k1]? = some u) (h2 : L[k2]? = some v) (e1 : L.set k1 v = L1) (e2 : L1.set k2 u = L2) :
    place (cl L) (k1 * 4) 4 (.agg (iC v)) = some (cl L1) ∧ place (cl L1) (k2 * 4) 4 (.agg (iC u)) = some (cl L2) ∧ L1.length = L.length ∧ L2.length = L.length := by
  have hk1 := (List.getElem?_eq_some_iff.1 h1).1
  have hk2 := (List.getElem?_eq_some_iff.1 h2).1
  have l1 : L1.length = L.length := by rw [← e1, List.length_set]
  have l2 : L2.length = L.length := by rw [← e2, List.length_set, l1]
  refine ⟨?_, ?_, l1, l2⟩
  · rw [← e1]; exact (cl_put v hk1).trans (congrArg some (cl_set v hk1))
  · rw [← e2]; exact (cl_put u (by rw [l1]; exact hk2)).trans (congrArg some (cl_set u (by rw [l1]; exact hk2)))
theorem swap_loop (a b cnt : Int) (pm : Pm) (n : Nat) (hn : n ≤ 1099511627776) : ∀ (U V P M S : List It) (i : Int) (bx : Bx), U.length = V.length → n = (P ++ U ++ M ++ V ++ S).length → bx 100000 = some (0, cl (P ++ U ++ M ++ V ++ S)) →
    a + i = P.length → b + i = (P ++ U ++ M).length → cnt = i + U.length → 0 ≤ i → i + (U.length : Int) ≤ n →
    Res (RunD Sy (.loop L113x0) ⟨ofL [(0, rowA n), (1, .int .i64 a), (2, .int .i64 b), (3, .int .i64 cnt), (10, .int .i64 i)], bx, pm, none⟩) fun ex st' => ex = .exit 0 ∧ st'.df = none ∧ st'.bx 100000 = some (0, cl (P ++ V ++ M ++ U ++ S))
  | [], V, P, M, S, i, bx, hl, hn', hb, ha, hb', hc, hi, hin => by
    obtain rfl : V = [] := List.eq_nil_of_length_eq_zero hl.symm
    have : ¬ i < cnt := by simp at hc; omega
    refine loop_step fun K hK => ?_
    simp [L113x0, this]
    simpa using hb
  | u :: U, [], P, M, S, i, bx, hl, hn', hb, ha, hb', hc, hi, hin => by simp at hl
  | u :: U, v :: V, P, M, S, i, bx, hl, hn', hb, ha, hb', hc, hi, hin => by
    have e0 : P ++ (u :: U) ++ M ++ (v :: V) ++ S = P ++ u :: (U ++ M ++ v :: (V ++ S)) := by simp
    have e0' : P ++ (u :: U) ++ M ++ (v :: V) ++ S = (P ++ (u :: U) ++ M) ++ v :: (V ++ S) := by simp
    have g1 : (P ++ (u :: U) ++ M ++ (v :: V) ++ S)[P.length]? = some u := by rw [e0]; exact at_mid _ _ _
    have g2 : (P ++ (u :: U) ++ M ++ (v :: V) ++ S)[(P ++ (u :: U) ++ M).length]? = some v := by rw [e0']; exact at_mid _ _ _
    have s1 : (P ++ (u :: U) ++ M ++ (v :: V) ++ S).set P.length v = (P ++ (v :: U) ++ M) ++ v :: (V ++ S) := by rw [e0, set_mid]; simp
    have hle : (P ++ (u :: U) ++ M).length = (P ++ (v :: U) ++ M).length := by simp
    have s2 : ((P ++ (v :: U) ++ M) ++ v :: (V ++ S)).set (P ++ (u :: U) ++ M).length u = (P ++ [v]) ++ U ++ (M ++ [u]) ++ V ++ S := by rw [hle, set_mid]; simp
    obtain ⟨p1, p2, l1, l2⟩ := swap_facts g1 g2 s1 s2
    have ld1 := cl_at g1
    have ld2 := cl_at g2
    have hk1 := (List.getElem?_eq_some_iff.1 g1).1
    have hk2 := (List.getElem?_eq_some_iff.1 g2).1
    rw [← hn'] at hk1 hk2 l1 l2
    have hcl := cl_len (P ++ (u :: U) ++ M ++ (v :: V) ++ S)
    rw [← hn'] at hcl
    have hcd := cl_dead (P ++ (u :: U) ++ M ++ (v :: V) ++ S)
    have d1 := cl_dead ((P ++ (v :: U) ++ M) ++ v :: (V ++ S))
    have d2 := cl_dead ((P ++ [v]) ++ U ++ (M ++ [u]) ++ V ++ S)
    have IH := fun bx' hb'' => swap_loop a b cnt pm n hn U V (P ++ [v]) (M ++ [u]) S (i + 1) bx' (by simpa using hl) l2.symm hb'' (by simp; omega) (by simp at hb' ⊢; omega) (by simp at hc; omega) (by omega) (by simp at hin; omega)
    have eR : (P ++ [v]) ++ V ++ (M ++ [u]) ++ U ++ S = P ++ (v :: V) ++ M ++ (u :: U) ++ S := by simp
    rw [eR] at IH
    have ca : chk .i64 (a + i) = some (.int .i64 (P.length : Int)) := by rw [ha]; exact chk_i64 _ (by omega)
    have cb : chk .i64 (b + i) = some (.int .i64 ((P ++ (u :: U) ++ M).length : Int)) := by rw [hb']; exact chk_i64 _ (by omega)
    have ci := chk_i64 (i + 1) (by simp at hin; omega)
    have hlt : i < cnt := by simp at hc; omega
    have f1 : P.length * 4 + 4 ≤ n * 4 := by omega
    have f2 : (P ++ (u :: U) ++ M).length * 4 + 4 ≤ n * 4 := by omega
    have hk1' : (P.length : Int) < n := by omega
    have hk2' : ((P ++ (u :: U) ++ M).length : Int) < n := by omega
    clear hin s1 s2 e0 e0' g1 g2 hle eR l1 l2 ha hb' hk1 hk2 hc hl hn'
    generalize P ++ (v :: V) ++ M ++ (u :: U) ++ S = LR at *
    generalize (P ++ (v :: U) ++ M) ++ v :: (V ++ S) = L1 at *
    generalize (P ++ [v]) ++ U ++ (M ++ [u]) ++ V ++ S = L2 at *
    generalize P ++ (u :: U) ++ M ++ (v :: V) ++ S = L at *
    generalize (P ++ (u :: U) ++ M).length = k2 at *
    generalize P.length = k1 at *
    refine loop_step fun K hK => ?_
    simp [L113x0, hlt, hk1', hk2', hb, hcd, hcl, ld1, ld2, ca, cb, ci, f1, f2, p1, p2, d1, d2, iC_pub, -deadC, -place]
    rw [hK]
    exact IH _ (upd_same _ _ _)
theorem swap_den (n : Nat) (hn : n ≤ 1099511627776) (P U M V S : List It) (hl : U.length = V.length) (hn' : n = (P ++ U ++ M ++ V ++ S).length) (a b cnt : Int) (ha : a = P.length) (hb : b = (P ++ U ++ M).length) (hc : cnt = U.length) :
    Den Sy 113 [.row 4 true n (cl (P ++ U ++ M ++ V ++ S)), .int .i64 a, .int .i64 b, .int .i64 cnt, .met 37] = some (.out false (.tup []) [cl (P ++ V ++ M ++ U ++ S)]) := by
  obtain ⟨ex, st, hL, rfl, hdf, hbx⟩ := swap_loop a b cnt none' n hn U V P M S 0 (ofL [(100000, 0, cl (P ++ U ++ M ++ V ++ S))]) hl hn' (by simp) (by omega) (by omega) (by omega) (by omega) (by rw [hn']; simp; omega)
  have hd1 := cl_dead (P ++ V ++ M ++ U ++ S)
  have hlen : (cl (P ++ V ++ M ++ U ++ S)).length = (cl (P ++ U ++ M ++ V ++ S)).length := by rw [cl_len, cl_len]; simp; omega
  have hpub := cl_pub (P ++ V ++ M ++ U ++ S)
  rw [Den_fun Sy (af := A113) rfl rfl _ rfl]
  generalize cl (P ++ V ++ M ++ U ++ S) = C' at *
  generalize cl (P ++ U ++ M ++ V ++ S) = C at *
  simp [A113, handed, hL, hdf, hbx, hd1, hlen, hpub, -deadC]

/-! ### rotate -/
theorem rot_loop (m : Nat) (pm : Pm) (n : Nat) (hn : n ≤ 1099511627776) (T : List It) : ∀ (N : Nat) (U V A B : List It) (bx : Bx), U.length + V.length ≤ N → 0 < U.length → 0 < V.length → n = (A ++ U ++ V ++ B).length → bx 100000 = some (0, cl (A ++ U ++ V ++ B)) →
    m = (A ++ U).length → T = A ++ V ++ U ++ B →
    Res (RunD Sy (.loop L101x0) ⟨ofL [(0, rowA n), (2, .int .i64 m), (4, .met 37), (10, .int .i64 U.length), (11, .int .i64 V.length)], bx, pm, none⟩) fun ex st' => ex = .exit 0 ∧ ∃ (U' V' A' B' : List It) (bx' : Bx), U'.length = V'.length ∧ n = (A' ++ U' ++ V' ++ B').length ∧ m = (A' ++ U').length ∧ T = A' ++ V' ++ U' ++ B' ∧
      bx' 100000 = some (0, cl (A' ++ U' ++ V' ++ B')) ∧ st' = ⟨ofL [(0, rowA n), (2, .int .i64 m), (4, .met 37), (10, .int .i64 U'.length), (11, .int .i64 V'.length), (20, .bool false)], bx', pm, none⟩
  | 0, U, V, A, B, bx, h, hu, hv, hn', hb, hm, hT => by omega
  | N + 1, U, V, A, B, bx, h, hu, hv, hn', hb, hm, hT => by
    have hcl := cl_len (A ++ U ++ V ++ B)
    rw [← hn'] at hcl
    have hcd := cl_dead (A ++ U ++ V ++ B)
    have hpub := cl_pub (A ++ U ++ V ++ B)
    have hmU : (m : Int) - U.length = A.length := by rw [hm]; simp
    have hbig : A.length + U.length + V.length ≤ n := by rw [hn']; simp; omega
    have c1 : chk .i64 ((m : Int) - U.length) = some (.int .i64 (A.length : Int)) := by rw [hmU]; exact chk_i64 _ (by omega)
    by_cases he : U.length = V.length
    · have he' : (U.length : Int) = V.length := by omega
      refine ⟨.exit 0, _, ?_, rfl, U, V, A, B, bx, he, hn', hm, hT, hb, rfl⟩
      rw [RunD_loop]
      simp [L101x0, he']
    · have he' : ¬ (U.length : Int) = V.length := by omega
      by_cases hgt : V.length < U.length
      · have hgt' : (V.length : Int) < U.length := by omega
        obtain ⟨U1, U2, rfl, hU1⟩ : ∃ U1 U2, U = U1 ++ U2 ∧ U1.length = V.length := ⟨U.take V.length, U.drop V.length, by simp, by simp; omega⟩
        have hU2 : (U1 ++ U2).length = V.length + U2.length := by simp [hU1]
        have hU2' : 0 < U2.length := by omega
        have eq1 : A ++ (U1 ++ U2) ++ V ++ B = A ++ U1 ++ U2 ++ V ++ B := by simp
        have hsw := swap_den n hn A U1 U2 V B hU1 (by rw [← eq1]; exact hn') (A.length : Int) (m : Int) (V.length : Int) rfl (by rw [hm]; simp) (by rw [hU1])
        rw [← eq1] at hsw
        have hl2 : (cl (A ++ V ++ U2 ++ U1 ++ B)).length = n * 4 := by rw [cl_len, hn']; simp; omega
        have hd2 := cl_dead (A ++ V ++ U2 ++ U1 ++ B)
        have hp2 := cl_pub (A ++ V ++ U2 ++ U1 ++ B)
        have c2 : chk .i64 (((U1 ++ U2).length : Int) - V.length) = some (.int .i64 (U2.length : Int)) := by rw [hU2]; rw [show ((V.length + U2.length : Nat) : Int) - V.length = U2.length by omega]; exact chk_i64 _ (by omega)
        have eq2 : A ++ V ++ U2 ++ U1 ++ B = (A ++ V) ++ U2 ++ U1 ++ B := rfl
        have IH := fun bx' hb' => rot_loop m pm n hn T N U2 U1 (A ++ V) B bx' (by rw [hU1]; omega) hU2' (by omega) (by rw [hn']; simp; omega) hb' (by rw [hm]; simp; omega) (by rw [hT]; simp)
        rw [hU1] at IH
        generalize (U1 ++ U2).length = iu at *
        generalize cl (A ++ V ++ U2 ++ U1 ++ B) = C2 at *
        generalize cl (A ++ (U1 ++ U2) ++ V ++ B) = C at *
        refine loop_step fun K hK => ?_
        simp [L101x0, he', hgt', c1, c2, hb, hcd, hcl, hpub, hsw, hl2, hd2, hp2, lend, -deadC]
        rw [hK]
        simpa using IH _ (upd_same _ _ _)
      · have hgt' : ¬ (V.length : Int) < U.length := by omega
        have hlt : U.length < V.length := by omega
        obtain ⟨V1, V2, rfl, hV2⟩ : ∃ V1 V2, V = V1 ++ V2 ∧ V2.length = U.length := ⟨V.take (V.length - U.length), V.drop (V.length - U.length), by simp, by simp; omega⟩
        have hVl : (V1 ++ V2).length = V1.length + U.length := by simp [hV2]
        have hV1 : 0 < V1.length := by omega
        have eq1 : A ++ U ++ (V1 ++ V2) ++ B = A ++ U ++ V1 ++ V2 ++ B := by simp
        have hsw := swap_den n hn A U V1 V2 B hV2.symm (by rw [← eq1]; exact hn') (A.length : Int) ((m : Int) + V1.length) (U.length : Int) rfl (by rw [hm]; simp only [List.length_append]; omega) rfl
        rw [← eq1] at hsw
        have hl2 : (cl (A ++ V2 ++ V1 ++ U ++ B)).length = n * 4 := by rw [cl_len, hn']; simp; omega
        have hd2 := cl_dead (A ++ V2 ++ V1 ++ U ++ B)
        have hp2 := cl_pub (A ++ V2 ++ V1 ++ U ++ B)
        have hml : m ≤ n := by rw [hm, hn']; simp only [List.length_append]; omega
        have c2 : chk .i64 ((m : Int) + ((V1 ++ V2).length : Int)) = some (.int .i64 ((m : Int) + ((V1 ++ V2).length : Int))) := chk_i64 _ (by omega)
        have c3 : chk .i64 ((m : Int) + ((V1 ++ V2).length : Int) - U.length) = some (.int .i64 ((m : Int) + V1.length)) := by rw [hVl, show (m : Int) + ((V1.length + U.length : Nat) : Int) - U.length = m + V1.length by omega]; exact chk_i64 _ (by omega)
        have c4 : chk .i64 (((V1 ++ V2).length : Int) - U.length) = some (.int .i64 (V1.length : Int)) := by rw [hVl, show ((V1.length + U.length : Nat) : Int) - U.length = V1.length by omega]; exact chk_i64 _ (by omega)
        have IH := fun bx' hb' => rot_loop m pm n hn T N V2 V1 A (U ++ B) bx' (by rw [hV2]; omega) (by omega) hV1 (by rw [hn']; simp; omega) hb' (by rw [hm]; simp; omega) (by rw [hT]; simp)
        rw [hV2] at IH
        have eq2 : A ++ V2 ++ V1 ++ (U ++ B) = A ++ V2 ++ V1 ++ U ++ B := by simp
        rw [eq2] at IH
        generalize (V1 ++ V2).length = iv at *
        generalize cl (A ++ V2 ++ V1 ++ U ++ B) = C2 at *
        generalize cl (A ++ U ++ (V1 ++ V2) ++ B) = C at *
        refine loop_step fun K hK => ?_
        simp [L101x0, he', hgt', c1, c2, c3, c4, hb, hcd, hcl, hpub, hsw, hl2, hd2, hp2, lend, -deadC]
        rw [hK]
        simpa using IH _ (upd_same _ _ _)
theorem rot_den (n : Nat) (hn : n ≤ 1099511627776) (A U V B : List It) (hu : 0 < U.length) (hv : 0 < V.length) (hn' : n = (A ++ U ++ V ++ B).length) :
    Den Sy 101 [.row 4 true n (cl (A ++ U ++ V ++ B)), .int .i64 A.length, .int .i64 (A ++ U).length, .int .i64 (A ++ U ++ V).length, .met 37] = some (.out false (.tup []) [cl (A ++ V ++ U ++ B)]) := by
  obtain ⟨ex, st, hL, rfl, U', V', A', B', bx', h1, h2, h3, h4, h5, rfl⟩ := rot_loop (A ++ U).length none' n hn (A ++ V ++ U ++ B) _ U V A B (ofL [(100000, 0, cl (A ++ U ++ V ++ B))]) (Nat.le_refl _) hu hv hn' (by simp) rfl rfl
  have hbig : (A ++ U ++ V).length ≤ n := by rw [hn']; simp
  have c1 : chk .i64 (((A ++ U).length : Int) - A.length) = some (.int .i64 (U.length : Int)) := by rw [show ((A ++ U).length : Int) - A.length = U.length by simp only [List.length_append]; omega]; exact chk_i64 _ (by simp at hbig; omega)
  have c2 : chk .i64 (((A ++ U ++ V).length : Int) - ((A ++ U).length : Int)) = some (.int .i64 (V.length : Int)) := by rw [show ((A ++ U ++ V).length : Int) - ((A ++ U).length : Int) = V.length by simp only [List.length_append]; omega]; exact chk_i64 _ (by simp at hbig; omega)
  have hsw := swap_den n hn A' U' [] V' B' h1 (by simpa using h2) (A'.length : Int) ((A ++ U).length : Int) (U'.length : Int) rfl (by rw [h3]; simp) rfl
  simp only [List.append_nil] at hsw
  rw [← h4] at hsw
  have c3 : chk .i64 (((A ++ U).length : Int) - U'.length) = some (.int .i64 (A'.length : Int)) := by rw [show ((A ++ U).length : Int) - U'.length = A'.length by rw [h3]; simp only [List.length_append]; omega]; exact chk_i64 _ (by rw [h2] at hn; simp at hn; omega)
  have hd1 := cl_dead (A ++ V ++ U ++ B)
  have hlen : (cl (A ++ V ++ U ++ B)).length = n * 4 := by rw [cl_len, hn']; simp; omega
  have hl0 : (cl (A ++ U ++ V ++ B)).length = n * 4 := by rw [cl_len, hn']
  have hpub := cl_pub (A ++ V ++ U ++ B)
  have hl1 : (cl (A' ++ U' ++ V' ++ B')).length = n * 4 := by rw [cl_len, h2]
  have hd2 := cl_dead (A' ++ U' ++ V' ++ B')
  have hp2 := cl_pub (A' ++ U' ++ V' ++ B')
  rw [Den_fun Sy (af := A101) rfl rfl _ rfl]
  generalize cl (A ++ V ++ U ++ B) = C' at *
  generalize cl (A' ++ U' ++ V' ++ B') = C1 at *
  generalize cl (A ++ U ++ V ++ B) = C at *
  generalize (A ++ U ++ V).length = b at *
  generalize (A ++ U).length = m at *
  simp [A101, handed, c1, c2, c3, hL, h5, hsw, hd1, hlen, hl0, hl1, hd2, hp2, hpub, lend, -deadC]
end Q
end Go.Proofs.YtpkeiffclipjmaaGreatDoor.Rx
namespace Go.Proofs.YtpkeiffclipjmaaGreatDoor.Rx
open Go Go.RowKit
set_option maxRecDepth 100000
set_option linter.unusedSimpArgs false
set_option linter.unusedVariables false

namespace Q
theorem chk_u64 (n : Int) (h : 0 ≤ n ∧ n < 18446744073709551616) : chk .u64 n = some (.int .u64 n) := by
  unfold chk
  rw [if_pos]
  simp [IntKind.wrap, IntKind.bits, IntKind.signed]
  omega
theorem conv_to (k k' : IntKind) (n : Int) (v : Option AV) (h : chk k n = v) : conv (Cv.toInt k) (.int k' n) = v := h
/-- Is the item there less than x? -/
def Lt1 (L : List It) (x : It) (h : Nat) : Prop := ∃ y, L[h]? = some y ∧ cmpS y.path x.path < 0
/-- Is the item there not more than x? -/
def Le1 (L : List It) (x : It) (h : Nat) : Prop := ∃ y, L[h]? = some y ∧ ¬ cmpS x.path y.path < 0
/-- Is the item at p - c not less than that at c? -/
def Le2 (L : List It) (p c : Nat) : Prop := ∃ y z, L[p - c]? = some y ∧ L[c]? = some z ∧ ¬ cmpS y.path z.path < 0
theorem bs0 (pm : Pm) (n : Nat) (hn : n ≤ 1099511627776) (L : List It) (hl : L.length = n) (hs : Sm L) (bx : Bx) (hb : bx 100000 = some (0, cl L)) (a : Nat) (x : It) (hx : L[a]? = some x) : ∀ (N i j : Nat), j - i ≤ N → i ≤ j → j ≤ n →
    ∃ e, i ≤ e ∧ e ≤ j ∧ (e = i ∨ Lt1 L x (e - 1)) ∧ (e = j ∨ ¬ Lt1 L x e) ∧ RunD Sy (.loop L82x0) ⟨ofL [(0, rowA n), (1, .int .i64 (a : Int)), (4, .met 37), (10, (.int .i64 (i : Int))), (11, (.int .i64 (j : Int)))], bx, pm, none⟩ = some (.exit 0, ⟨ofL [(0, rowA n), (1, .int .i64 (a : Int)), (4, .met 37), (10, (.int .i64 (e : Int))), (11, (.int .i64 (e : Int))), (33, .bool false)], bx, pm, none⟩)
  | N, i, j, hN, hij, hyp => by
    by_cases hlt : i < j
    · obtain ⟨N, rfl⟩ : ∃ N', N = N' + 1 := ⟨N - 1, by omega⟩
      have hcl := cl_len L
      rw [hl] at hcl
      have hcd := cl_dead L
      have hlt' : (i : Int) < j := by omega
      obtain ⟨h, hh⟩ : ∃ h : Nat, h = (i + j) / 2 := ⟨_, rfl⟩
      have hhi : i ≤ h := by omega
      have hhj : h < j := by omega
      have hdiv : ((i : Int) + j) / 2 = (h : Int) := by omega
      have hhn : h < n := by omega
      obtain ⟨y, hy⟩ : ∃ y, L[h]? = some y := ⟨_, List.getElem?_eq_getElem (by omega)⟩
      have ha := (List.getElem?_eq_some_iff.1 hx).1
      have la := cl_at hx
      have lh := cl_at hy
      have hc := cmpI_den y x (hs y (List.mem_of_getElem? hy)) (hs x (List.mem_of_getElem? hx))
      have f1 : h * 4 + 4 ≤ n * 4 := by omega
      have f2 : a * 4 + 4 ≤ n * 4 := by omega
      have g1 : (h : Int) < n := by omega
      have g2 : (a : Int) < n := by omega
      have c1 := chk_i64 ((i : Int) + j) (by omega)
      have c2 := conv_to .u64 .i64 ((i : Int) + j) _ (chk_u64 _ (by omega))
      have c3 := conv_to .i64 .u64 (h : Int) _ (chk_i64 _ (by omega))
      have c4 := chk_i64 ((h : Int) + 1) (by omega)
      by_cases hf : cmpS y.path x.path < 0
      · obtain ⟨e, k1, k2, k3, k4, k5⟩ := bs0 pm n hn L hl hs bx hb a x hx N (h + 1) j (by omega) (by omega) hyp
        refine ⟨e, by omega, k2, ?_, k4, ?_⟩
        · rcases k3 with rfl | k3
          · exact .inr (by rw [show h + 1 - 1 = h by omega]; exact ⟨y, hy, hf⟩)
          · exact .inr k3
        · refine loop_eq fun K hK => ?_
          simp [L82x0, hlt', hb, hcl, hcd, c1, c2, c3, c4, hdiv, hf, la, lh, hc, f1, f2, g1, g2, iC_pub, -deadC, -place]
          rw [hK]
          simpa using k5
      · obtain ⟨e, k1, k2, k3, k4, k5⟩ := bs0 pm n hn L hl hs bx hb a x hx N i h (by omega) (by omega) (by omega)
        refine ⟨e, k1, by omega, k3, ?_, ?_⟩
        · rcases k4 with rfl | k4
          · exact .inr (fun ⟨z, hz, hzf⟩ => by rw [hy] at hz; obtain rfl := Option.some.inj hz; exact hf hzf)
          · exact .inr k4
        · refine loop_eq fun K hK => ?_
          simp [L82x0, hlt', hb, hcl, hcd, c1, c2, c3, c4, hdiv, hf, la, lh, hc, f1, f2, g1, g2, iC_pub, -deadC, -place]
          rw [hK]
          exact k5
    · obtain rfl : i = j := by omega
      refine ⟨i, Nat.le_refl _, Nat.le_refl _, .inl rfl, .inl rfl, ?_⟩
      refine loop_eq fun K hK => ?_
      simp [L82x0]
theorem bs2 (pm : Pm) (n : Nat) (hn : n ≤ 1099511627776) (L : List It) (hl : L.length = n) (hs : Sm L) (bx : Bx) (hb : bx 100000 = some (0, cl L)) (a : Nat) (x : It) (hx : L[a]? = some x) : ∀ (N i j : Nat), j - i ≤ N → i ≤ j → j ≤ n →
    ∃ e, i ≤ e ∧ e ≤ j ∧ (e = i ∨ Le1 L x (e - 1)) ∧ (e = j ∨ ¬ Le1 L x e) ∧ RunD Sy (.loop L82x2) ⟨ofL [(0, rowA n), (2, .int .i64 (a : Int)), (4, .met 37), (14, (.int .i64 (i : Int))), (15, (.int .i64 (j : Int)))], bx, pm, none⟩ = some (.exit 4, ⟨ofL [(0, rowA n), (2, .int .i64 (a : Int)), (4, .met 37), (14, (.int .i64 (e : Int))), (15, (.int .i64 (e : Int))), (85, .bool false)], bx, pm, none⟩)
  | N, i, j, hN, hij, hyp => by
    by_cases hlt : i < j
    · obtain ⟨N, rfl⟩ : ∃ N', N = N' + 1 := ⟨N - 1, by omega⟩
      have hcl := cl_len L
      rw [hl] at hcl
      have hcd := cl_dead L
      have hlt' : (i : Int) < j := by omega
      obtain ⟨h, hh⟩ : ∃ h : Nat, h = (i + j) / 2 := ⟨_, rfl⟩
      have hhi : i ≤ h := by omega
      have hhj : h < j := by omega
      have hdiv : ((i : Int) + j) / 2 = (h : Int) := by omega
      have hhn : h < n := by omega
      obtain ⟨y, hy⟩ : ∃ y, L[h]? = some y := ⟨_, List.getElem?_eq_getElem (by omega)⟩
      have ha := (List.getElem?_eq_some_iff.1 hx).1
      have la := cl_at hx
      have lh := cl_at hy
      have hc := cmpI_den x y (hs x (List.mem_of_getElem? hx)) (hs y (List.mem_of_getElem? hy))
      have f1 : h * 4 + 4 ≤ n * 4 := by omega
      have f2 : a * 4 + 4 ≤ n * 4 := by omega
      have g1 : (h : Int) < n := by omega
      have g2 : (a : Int) < n := by omega
      have c1 := chk_i64 ((i : Int) + j) (by omega)
      have c2 := conv_to .u64 .i64 ((i : Int) + j) _ (chk_u64 _ (by omega))
      have c3 := conv_to .i64 .u64 (h : Int) _ (chk_i64 _ (by omega))
      have c4 := chk_i64 ((h : Int) + 1) (by omega)
      by_cases hf : ¬ cmpS x.path y.path < 0
      · obtain ⟨e, k1, k2, k3, k4, k5⟩ := bs2 pm n hn L hl hs bx hb a x hx N (h + 1) j (by omega) (by omega) hyp
        refine ⟨e, by omega, k2, ?_, k4, ?_⟩
        · rcases k3 with rfl | k3
          · exact .inr (by rw [show h + 1 - 1 = h by omega]; exact ⟨y, hy, hf⟩)
          · exact .inr k3
        · refine loop_eq fun K hK => ?_
          simp [L82x2, hlt', hb, hcl, hcd, c1, c2, c3, c4, hdiv, hf, la, lh, hc, f1, f2, g1, g2, iC_pub, -deadC, -place]
          rw [hK]
          simpa using k5
      · obtain ⟨e, k1, k2, k3, k4, k5⟩ := bs2 pm n hn L hl hs bx hb a x hx N i h (by omega) (by omega) (by omega)
        refine ⟨e, k1, by omega, k3, ?_, ?_⟩
        · rcases k4 with rfl | k4
          · exact .inr (fun ⟨z, hz, hzf⟩ => by rw [hy] at hz; obtain rfl := Option.some.inj hz; exact hf hzf)
          · exact .inr k4
        · refine loop_eq fun K hK => ?_
          simp [L82x2, hlt', hb, hcl, hcd, c1, c2, c3, c4, hdiv, Classical.not_not.1 hf, la, lh, hc, f1, f2, g1, g2, iC_pub, -deadC, -place]
          rw [hK]
          exact k5
    · obtain rfl : i = j := by omega
      refine ⟨i, Nat.le_refl _, Nat.le_refl _, .inl rfl, .inl rfl, ?_⟩
      refine loop_eq fun K hK => ?_
      simp [L82x2]
theorem bs4 (pm : Pm) (n : Nat) (hn : n ≤ 1099511627776) (L : List It) (hl : L.length = n) (hs : Sm L) (bx : Bx) (hb : bx 100000 = some (0, cl L)) (v1 v2 v3 v18 v19 : AV) (p : Nat) : ∀ (N i j : Nat), j - i ≤ N → i ≤ j → (j ≤ n ∧ j ≤ p + 1 ∧ p < n + i) →
    ∃ e, i ≤ e ∧ e ≤ j ∧ (e = i ∨ Le2 L p (e - 1)) ∧ (e = j ∨ ¬ Le2 L p e) ∧ RunD Sy (.loop L82x4) ⟨ofL [(0, rowA n), (1, v1), (2, v2), (3, v3), (4, .met 37), (18, v18), (19, v19), (20, (.int .i64 (i : Int))), (21, (.int .i64 (j : Int))), (22, .int .i64 (p : Int))], bx, pm, none⟩ = some (.exit 8, ⟨ofL [(0, rowA n), (1, v1), (2, v2), (3, v3), (4, .met 37), (18, v18), (19, v19), (20, (.int .i64 (e : Int))), (21, (.int .i64 (e : Int))), (22, .int .i64 (p : Int)), (151, .bool false)], bx, pm, none⟩)
  | N, i, j, hN, hij, hyp => by
    by_cases hlt : i < j
    · obtain ⟨N, rfl⟩ : ∃ N', N = N' + 1 := ⟨N - 1, by omega⟩
      have hcl := cl_len L
      rw [hl] at hcl
      have hcd := cl_dead L
      have hlt' : (i : Int) < j := by omega
      obtain ⟨h, hh⟩ : ∃ h : Nat, h = (i + j) / 2 := ⟨_, rfl⟩
      have hhi : i ≤ h := by omega
      have hhj : h < j := by omega
      have hdiv : ((i : Int) + j) / 2 = (h : Int) := by omega
      have hhn : h < n := by omega
      have hph : h ≤ p := by omega
      have hpn : p - h < n := by omega
      obtain ⟨z, hz⟩ : ∃ z, L[h]? = some z := ⟨_, List.getElem?_eq_getElem (by omega)⟩
      obtain ⟨y, hy⟩ : ∃ y, L[p - h]? = some y := ⟨_, List.getElem?_eq_getElem (by omega)⟩
      have la := cl_at hy
      have lh := cl_at hz
      have hc := cmpI_den y z (hs y (List.mem_of_getElem? hy)) (hs z (List.mem_of_getElem? hz))
      have f1 : h * 4 + 4 ≤ n * 4 := by omega
      have f2 : (p - h) * 4 + 4 ≤ n * 4 := by omega
      have g1 : (h : Int) < n := by omega
      have g2 : ((p - h : Nat) : Int) < n := by omega
      have cs : chk .i64 ((p : Int) - h) = some (.int .i64 ((p - h : Nat) : Int)) := by rw [show (p : Int) - h = ((p - h : Nat) : Int) by omega]; exact chk_i64 _ (by omega)
      have hph' := hy
      generalize hpe : p - h = ph at la f2 g2 cs hy hpn
      have c1 := chk_i64 ((i : Int) + j) (by omega)
      have c2 := conv_to .u64 .i64 ((i : Int) + j) _ (chk_u64 _ (by omega))
      have c3 := conv_to .i64 .u64 (h : Int) _ (chk_i64 _ (by omega))
      have c4 := chk_i64 ((h : Int) + 1) (by omega)
      by_cases hf : ¬ cmpS y.path z.path < 0
      · obtain ⟨e, k1, k2, k3, k4, k5⟩ := bs4 pm n hn L hl hs bx hb v1 v2 v3 v18 v19 p N (h + 1) j (by omega) (by omega) (by omega)
        refine ⟨e, by omega, k2, ?_, k4, ?_⟩
        · rcases k3 with rfl | k3
          · exact .inr (by rw [show h + 1 - 1 = h by omega]; exact ⟨y, z, hph', hz, hf⟩)
          · exact .inr k3
        · refine loop_eq fun K hK => ?_
          simp [L82x4, hlt', hb, hcl, hcd, c1, c2, c3, c4, hdiv, hf, la, lh, hc, f1, f2, g1, g2, cs, iC_pub, -deadC, -place]
          rw [hK]
          simpa using k5
      · obtain ⟨e, k1, k2, k3, k4, k5⟩ := bs4 pm n hn L hl hs bx hb v1 v2 v3 v18 v19 p N i h (by omega) (by omega) (by omega)
        refine ⟨e, k1, by omega, k3, ?_, ?_⟩
        · rcases k4 with rfl | k4
          · exact .inr (fun ⟨y', z', hy', hz', hzf⟩ => by rw [hph'] at hy'; rw [hz] at hz'; obtain rfl := Option.some.inj hy'; obtain rfl := Option.some.inj hz'; exact hf hzf)
          · exact .inr k4
        · refine loop_eq fun K hK => ?_
          simp [L82x4, hlt', hb, hcl, hcd, c1, c2, c3, c4, hdiv, Classical.not_not.1 hf, la, lh, hc, f1, f2, g1, g2, cs, iC_pub, -deadC, -place]
          rw [hK]
          exact k5
    · obtain rfl : i = j := by omega
      refine ⟨i, Nat.le_refl _, Nat.le_refl _, .inl rfl, .inl rfl, ?_⟩
      refine loop_eq fun K hK => ?_
      simp [L82x4]
/-- One item moves forward. -/
theorem bub1 (n : Nat) (hn : n ≤ 1099511627776) (pm : Pm) (e : Int) : ∀ (B A : List It) (S : List It) (x : It) (bx : Bx) (k : Int), n = (A ++ x :: B ++ S).length → bx 100000 = some (0, cl (A ++ x :: B ++ S)) → k = A.length → e - 1 = A.length + B.length →
    Res (RunD Sy (.loop L82x1) ⟨ofL [(0, rowA n), (10, .int .i64 e), (13, .int .i64 k)], bx, pm, none⟩) fun ex st' => ex = .exit 2 ∧ st'.df = none ∧ st'.bx 100000 = some (0, cl (A ++ B ++ x :: S))
  | [], A, S, x, bx, k, hn', hb, hk, he => by
    subst hk
    have c0 : chk .i64 (e - 1) = some (.int .i64 (A.length : Int)) := by rw [he]; simp at hn'; simpa using chk_i64 (A.length : Int) (by omega)
    refine loop_step fun K hK => ?_
    simp [L82x1, c0]
    simpa using hb
  | y :: B, A, S, x, bx, k, hn', hb, hk, he => by
    subst hk
    have e0 : A ++ x :: (y :: B) ++ S = A ++ x :: (y :: (B ++ S)) := by simp
    have e1 : A ++ x :: (y :: B) ++ S = (A ++ [x]) ++ y :: (B ++ S) := by simp
    have g1 : (A ++ x :: (y :: B) ++ S)[A.length]? = some x := by rw [e0]; exact at_mid _ _ _
    have g2 : (A ++ x :: (y :: B) ++ S)[A.length + 1]? = some y := by rw [e1, show A.length + 1 = (A ++ [x]).length by simp]; exact at_mid _ _ _
    have s1 : (A ++ x :: (y :: B) ++ S).set A.length y = (A ++ [y]) ++ y :: (B ++ S) := by rw [e0, set_mid]; simp
    have s2 : ((A ++ [y]) ++ y :: (B ++ S)).set (A.length + 1) x = (A ++ [y]) ++ x :: B ++ S := by rw [show A.length + 1 = (A ++ [y]).length by simp, set_mid]; simp
    obtain ⟨p1, p2, l1, l2⟩ := swap_facts g1 g2 s1 s2
    have ld1 := cl_at g1
    have ld2 := cl_at g2
    have hk1 := (List.getElem?_eq_some_iff.1 g1).1
    have hk2 := (List.getElem?_eq_some_iff.1 g2).1
    rw [← hn'] at hk1 hk2 l1 l2
    have hcl := cl_len (A ++ x :: (y :: B) ++ S)
    rw [← hn'] at hcl
    have hcd := cl_dead (A ++ x :: (y :: B) ++ S)
    have d1 := cl_dead ((A ++ [y]) ++ y :: (B ++ S))
    have d2 := cl_dead ((A ++ [y]) ++ x :: B ++ S)
    have IH := fun bx' hb' => bub1 n hn pm e B (A ++ [y]) S x bx' ((A.length : Int) + 1) l2.symm hb' (by simp) (by simp at he ⊢; omega)
    have eR : (A ++ [y]) ++ B ++ x :: S = A ++ (y :: B) ++ x :: S := by simp
    rw [eR] at IH
    have c0 : chk .i64 (e - 1) = some (.int .i64 (e - 1)) := by rw [he]; simp at hn'; simp; exact chk_i64 _ (by omega)
    have hlt : (A.length : Int) < e - 1 := by rw [he]; simp; omega
    have c1 := chk_i64 ((A.length : Int) + 1) (by omega)
    have f1 : A.length * 4 + 4 ≤ n * 4 := by omega
    have f2 : (A.length + 1) * 4 + 4 ≤ n * 4 := by omega
    have hk1' : (A.length : Int) < n := by omega
    have hk2' : (A.length : Int) + 1 < n := by omega
    clear s1 s2 e0 e1 g1 g2 eR l1 l2 hk1 hk2 hn' he
    generalize A ++ (y :: B) ++ x :: S = LR at *
    generalize (A ++ [y]) ++ y :: (B ++ S) = L1 at *
    generalize (A ++ [y]) ++ x :: B ++ S = L2 at *
    generalize A ++ x :: (y :: B) ++ S = L at *
    generalize A.length = k1 at *
    refine loop_step fun K hK => ?_
    simp [L82x1, hlt, hk1', hk2', hb, hcd, hcl, ld1, ld2, c0, c1, f1, f2, p1, p2, d1, d2, iC_pub, -deadC, -place]
    rw [hK]
    exact IH _ (upd_same _ _ _)
/-- One item moves back. -/
theorem bub3 (n : Nat) (hn : n ≤ 1099511627776) (pm : Pm) : ∀ (m : Nat) (B A : List It) (S : List It) (y : It) (bx : Bx) (k : Int), B.length = m → n = (A ++ B ++ y :: S).length → bx 100000 = some (0, cl (A ++ B ++ y :: S)) → k = A.length + B.length →
    Res (RunD Sy (.loop L82x3) ⟨ofL [(0, rowA n), (14, .int .i64 A.length), (17, .int .i64 k)], bx, pm, none⟩) fun ex st' => ex = .exit 6 ∧ st'.df = none ∧ st'.bx 100000 = some (0, cl (A ++ y :: B ++ S))
  | 0, B, A, S, y, bx, k, hm, hn', hb, hk => by
    obtain rfl := List.eq_nil_of_length_eq_zero hm
    subst hk
    refine loop_step fun K hK => ?_
    simp [L82x3]
    simpa using hb
  | m + 1, B, A, S, y, bx, k, hm, hn', hb, hk => by
    obtain ⟨B, z, rfl⟩ : ∃ o z, B = o ++ [z] := by
      rcases nil_or_last B with rfl | h'
      · simp at hm
      · exact h'
    have hk' : k = ((A ++ B).length : Int) + 1 := by rw [hk]; simp; omega
    subst hk'
    clear hk
    have e0 : A ++ (B ++ [z]) ++ y :: S = (A ++ B) ++ z :: (y :: S) := by simp
    have e1 : A ++ (B ++ [z]) ++ y :: S = (A ++ B ++ [z]) ++ y :: S := by simp
    have g1 : (A ++ (B ++ [z]) ++ y :: S)[(A ++ B).length]? = some z := by rw [e0]; exact at_mid _ _ _
    have g2 : (A ++ (B ++ [z]) ++ y :: S)[(A ++ B).length + 1]? = some y := by rw [e1, show (A ++ B).length + 1 = (A ++ B ++ [z]).length from (by simp only [List.length_append, List.length_cons, List.length_nil])]; exact at_mid _ _ _
    have s2 : (A ++ (B ++ [z]) ++ y :: S).set ((A ++ B).length + 1) z = (A ++ B) ++ z :: (z :: S) := by rw [e1, show (A ++ B).length + 1 = (A ++ B ++ [z]).length from (by simp only [List.length_append, List.length_cons, List.length_nil]), set_mid]; simp
    have s1 : ((A ++ B) ++ z :: (z :: S)).set (A ++ B).length y = A ++ B ++ y :: (z :: S) := by rw [set_mid]
    obtain ⟨p1, p2, l1, l2⟩ := swap_facts g2 g1 s2 s1
    have ld1 := cl_at g1
    have ld2 := cl_at g2
    have hk1 := (List.getElem?_eq_some_iff.1 g1).1
    have hk2 := (List.getElem?_eq_some_iff.1 g2).1
    rw [← hn'] at hk1 hk2 l1 l2
    have hcl := cl_len (A ++ (B ++ [z]) ++ y :: S)
    rw [← hn'] at hcl
    have hcd := cl_dead (A ++ (B ++ [z]) ++ y :: S)
    have d1 := cl_dead ((A ++ B) ++ z :: (z :: S))
    have d2 := cl_dead (A ++ B ++ y :: (z :: S))
    have IH := fun bx' hb' => bub3 n hn pm m B A (z :: S) y bx' ((A ++ B).length : Int) (by simpa using hm) l2.symm hb' (by simp)
    have eR : A ++ y :: B ++ z :: S = A ++ y :: (B ++ [z]) ++ S := by simp
    rw [eR] at IH
    have hlt : (A.length : Int) < ((A ++ B).length : Int) + 1 := by simp; omega
    have c1 := chk_i64 ((A ++ B).length : Int) (by omega)
    have f1 : (A ++ B).length * 4 + 4 ≤ n * 4 := by omega
    have f2 : ((A ++ B).length + 1) * 4 + 4 ≤ n * 4 := by omega
    have hk1' : ((A ++ B).length : Int) < n := by omega
    have hk2' : ((A ++ B).length : Int) + 1 < n := by omega
    clear s1 s2 e0 e1 g1 g2 eR l1 l2 hk1 hk2 hn'
    generalize A ++ y :: (B ++ [z]) ++ S = LR at *
    generalize A ++ B ++ y :: (z :: S) = L2 at *
    generalize (A ++ B) ++ z :: (z :: S) = L1 at *
    generalize A ++ (B ++ [z]) ++ y :: S = L at *
    generalize (A ++ B).length = k1 at *
    refine loop_step fun K hK => ?_
    simp [L82x3, hlt, hk1', hk2', hb, hcd, hcl, ld1, ld2, c1, f1, f2, p1, p2, d1, d2, iC_pub, -deadC, -place]
    rw [hK]
    exact IH _ (upd_same _ _ _)
end Q
end Go.Proofs.YtpkeiffclipjmaaGreatDoor.Rx
