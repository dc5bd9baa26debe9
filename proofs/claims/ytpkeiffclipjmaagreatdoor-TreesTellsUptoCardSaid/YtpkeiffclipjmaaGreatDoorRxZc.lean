/-
  symMerge; the stable sort of any length.
-/
import Derived.Test.YtpkeiffclipjmaaGreatDoorRxZb
namespace Go.Proofs.YtpkeiffclipjmaaGreatDoor.Rx
open Go Go.RowKit
set_option maxRecDepth 100000
set_option linter.unusedSimpArgs false
set_option linter.unusedVariables false

namespace Q
theorem st9 (n : Nat) (E : Env) (bx : Bx) (pm : Pm) (C C1 : List AV) (v1 v3 v18 : AV) (k2 k20 k24 : Nat) (h0 : E 0 = some (rowA n)) (h1 : E 1 = some (v1)) (h2 : E 2 = some (eN k2)) (h3 : E 3 = some (v3)) (h4 : E 4 = some (.met 37)) (h18 : E 18 = some (v18)) (h20 : E 20 = some (eN k20)) (h24 : E 24 = some (eN k24)) (hb : bx 100000 = some (0, C)) (hd : deadC C = false) (hl : C.length = n * 4) (hp : C.map AV.pubC = C) (hd1 : deadC C1 = false) (hl1 : C1.length = n * 4) (hp1 : C1.map AV.pubC = C1) 
    (hy : k20 < k2 → k2 < k24 → Den Sy 101 [.row 4 true n C, eN k20, eN k2, eN k24, .met 37] = some (.out false (.tup []) [C1])) (hn : ¬ (k20 < k2 ∧ k2 < k24) → C1 = C) :
    Res (RunD Sy M82_9 ⟨E, bx, pm, none⟩) fun ex st' => ex = .nrm ∧ st'.df = none ∧ st'.bx 100000 = some (0, C1) ∧ st'.env 0 = some (rowA n) ∧ st'.env 1 = some (v1) ∧ st'.env 3 = some (v3) ∧ st'.env 4 = some (.met 37) ∧ st'.env 18 = some (v18) ∧ st'.env 20 = some (eN k20) ∧ st'.env 24 = some (eN k24) := by
  by_cases c1 : k20 < k2
  · have c1' : (k20 : Int) < k2 := by omega
    by_cases c2 : k2 < k24
    · have c2' : (k2 : Int) < k24 := by omega
      have hc := hy c1 c2
      simp [M82_9, h0, h1, h2, h3, h4, h18, h20, h24, c1, c2, c1', c2', hb, hd, hl, hp, hd1, hl1, hp1, hc, lend, -deadC]
    · have c2' : ¬ (k2 : Int) < k24 := by omega
      obtain rfl := hn (fun h => c2 h.2)
      simp [M82_9, h0, h1, h2, h3, h4, h18, h20, h24, c1, c2, c1', c2', hb, -deadC]
  · have c1' : ¬ (k20 : Int) < k2 := by omega
    obtain rfl := hn (fun h => c1 h.1)
    simp [M82_9, h0, h1, h2, h3, h4, h18, h20, h24, c1, c1', hb, -deadC]
theorem st10 (n : Nat) (E : Env) (bx : Bx) (pm : Pm) (C C1 : List AV) (v3 v24 : AV) (k1 k18 k20 : Nat) (h0 : E 0 = some (rowA n)) (h1 : E 1 = some (eN k1)) (h3 : E 3 = some (v3)) (h4 : E 4 = some (.met 37)) (h18 : E 18 = some (eN k18)) (h20 : E 20 = some (eN k20)) (h24 : E 24 = some (v24)) (hb : bx 100000 = some (0, C)) (hd : deadC C = false) (hl : C.length = n * 4) (hp : C.map AV.pubC = C) (hd1 : deadC C1 = false) (hl1 : C1.length = n * 4) (hp1 : C1.map AV.pubC = C1) 
    (hy : k1 < k20 → k20 < k18 → Den Sy 82 [.row 4 true n C, eN k1, eN k20, eN k18, .met 37] = some (.out false (.tup []) [C1])) (hn : ¬ (k1 < k20 ∧ k20 < k18) → C1 = C) :
    Res (RunD Sy M82_10 ⟨E, bx, pm, none⟩) fun ex st' => ex = .nrm ∧ st'.df = none ∧ st'.bx 100000 = some (0, C1) ∧ st'.env 0 = some (rowA n) ∧ st'.env 3 = some (v3) ∧ st'.env 4 = some (.met 37) ∧ st'.env 18 = some (eN k18) ∧ st'.env 24 = some (v24) := by
  by_cases c1 : k1 < k20
  · have c1' : (k1 : Int) < k20 := by omega
    by_cases c2 : k20 < k18
    · have c2' : (k20 : Int) < k18 := by omega
      have hc := hy c1 c2
      simp [M82_10, h0, h1, h3, h4, h18, h20, h24, c1, c2, c1', c2', hb, hd, hl, hp, hd1, hl1, hp1, hc, lend, -deadC]
    · have c2' : ¬ (k20 : Int) < k18 := by omega
      obtain rfl := hn (fun h => c2 h.2)
      simp [M82_10, h0, h1, h3, h4, h18, h20, h24, c1, c2, c1', c2', hb, -deadC]
  · have c1' : ¬ (k1 : Int) < k20 := by omega
    obtain rfl := hn (fun h => c1 h.1)
    simp [M82_10, h0, h1, h3, h4, h18, h20, h24, c1, c1', hb, -deadC]
theorem st11 (n : Nat) (E : Env) (bx : Bx) (pm : Pm) (C C1 : List AV) (k3 k18 k24 : Nat) (h0 : E 0 = some (rowA n)) (h3 : E 3 = some (eN k3)) (h4 : E 4 = some (.met 37)) (h18 : E 18 = some (eN k18)) (h24 : E 24 = some (eN k24)) (hb : bx 100000 = some (0, C)) (hd : deadC C = false) (hl : C.length = n * 4) (hp : C.map AV.pubC = C) (hd1 : deadC C1 = false) (hl1 : C1.length = n * 4) (hp1 : C1.map AV.pubC = C1) 
    (hy : k18 < k24 → k24 < k3 → Den Sy 82 [.row 4 true n C, eN k18, eN k24, eN k3, .met 37] = some (.out false (.tup []) [C1])) (hn : ¬ (k18 < k24 ∧ k24 < k3) → C1 = C) :
    Res (RunD Sy M82_11 ⟨E, bx, pm, none⟩) fun ex st' => ex = .nrm ∧ st'.df = none ∧ st'.bx 100000 = some (0, C1) ∧ True := by
  by_cases c1 : k18 < k24
  · have c1' : (k18 : Int) < k24 := by omega
    by_cases c2 : k24 < k3
    · have c2' : (k24 : Int) < k3 := by omega
      have hc := hy c1 c2
      simp [M82_11, h0, h3, h4, h18, h24, c1, c2, c1', c2', hb, hd, hl, hp, hd1, hl1, hp1, hc, lend, -deadC]
    · have c2' : ¬ (k24 : Int) < k3 := by omega
      obtain rfl := hn (fun h => c2 h.2)
      simp [M82_11, h0, h3, h4, h18, h24, c1, c2, c1', c2', hb, -deadC]
  · have c1' : ¬ (k18 : Int) < k24 := by omega
    obtain rfl := hn (fun h => c1 h.1)
    simp [M82_11, h0, h3, h4, h18, h24, c1, c1', hb, -deadC]
set_option maxHeartbeats 2000000 in
theorem sym_den (n : Nat) (hn : n ≤ 1099511627776) : ∀ (N : Nat) (A B P S : List It), A.length + B.length ≤ N → 0 < A.length → 0 < B.length → A.Pairwise LeI → B.Pairwise LeI → (P ++ A ++ B ++ S).length = n → Sm (P ++ A ++ B ++ S) →
    Den Sy 82 [.row 4 true n (cl (P ++ A ++ B ++ S)), eN P.length, eN (P ++ A).length, eN (P ++ A ++ B).length, .met 37] = some (.out false (.tup []) [cl (P ++ srt (A ++ B) ++ S)])
  | 0, A, B, P, S, h, hA0, hB0, hA, hB, hn', hs => by omega
  | N + 1, A, B, P, S, h, hA0, hB0, hA, hB, hn', hs => by
    have hRl : (cl (P ++ srt (A ++ B) ++ S)).length = (cl (P ++ A ++ B ++ S)).length := by rw [cl_len, cl_len]; simp [srt_len]; omega
    have hRd := cl_dead (P ++ srt (A ++ B) ++ S)
    have hRp := cl_pub (P ++ srt (A ++ B) ++ S)
    have hPA : (P ++ A).length = P.length + A.length := by simp
    have hPAB : (P ++ A ++ B).length = P.length + A.length + B.length := by simp; omega
    have hbn : (P ++ A ++ B).length ≤ n := by rw [← hn']; simp
    rw [Den_fun Sy (af := A82) rfl rfl _ rfl, A82_eq]
    have h0 : (ofL [(100000, 0, cl (P ++ A ++ B ++ S))] : Bx) 100000 = some (0, cl (P ++ A ++ B ++ S)) := by simp
    have hpar : ofL (params 0 [.row 4 true n (cl (P ++ A ++ B ++ S)), eN P.length, eN (P ++ A).length, eN (P ++ A ++ B).length, .met 37]) = ofL [(0, rowA n), (1, eN P.length), (2, eN (P ++ A).length), (3, eN (P ++ A ++ B).length), (4, .met 37)] := rfl
    have hparB : ofL (paramsB 0 [.row 4 true n (cl (P ++ A ++ B ++ S)), eN P.length, eN (P ++ A).length, eN (P ++ A ++ B).length, .met 37]) = (ofL [(100000, 0, cl (P ++ A ++ B ++ S))] : Bx) := rfl
    simp only [hpar, hparB]
    have fin0 : ∀ {ex : Ex} {st : St}, (ex = .ret ∨ ex = .nrm) → st.df = none → st.bx 100000 = some (0, cl (P ++ srt (A ++ B) ++ S)) → fin (Den Sy) [.row 4 true n (cl (P ++ A ++ B ++ S)), eN P.length, eN (P ++ A).length, eN (P ++ A ++ B).length, .met 37] [] ex st = some (.out false (.tup []) [cl (P ++ srt (A ++ B) ++ S)]) := fun he hdf hbx => fin_row he hdf hbx hRd hRl hRp rfl
    by_cases hA1 : A.length = 1
    · obtain ⟨x, rfl⟩ : ∃ x, A = [x] := List.length_eq_one_iff.1 hA1
      obtain ⟨st, k1, k2, k3⟩ := st0_one n hn P B S x hn' hs hB _ none' h0
      have e1 : (P ++ [x]).length = P.length + 1 := by simp
      have e2 : (P ++ [x] ++ B).length = P.length + 1 + B.length := by simp; omega
      rw [e1, e2] at fin0 ⊢
      rw [seq_ret k1]
      exact fin0 (.inl rfl) k2 k3
    · have k0 := st0_skip n P.length (P ++ A).length (P ++ A ++ B).length (ofL [(100000, 0, cl (P ++ A ++ B ++ S))]) none' hn (by omega) (by omega) (by omega)
      rw [seq_nrm k0]
      by_cases hB1 : B.length = 1
      · obtain ⟨y, rfl⟩ : ∃ y, B = [y] := List.length_eq_one_iff.1 hB1
        obtain ⟨st, k1, k2, k3⟩ := st1_one n hn P A S y hn' hs hA _ none' h0
        have e2 : (P ++ A ++ [y]).length = (P ++ A).length + 1 := by simp; omega
        rw [e2] at fin0 ⊢
        rw [seq_ret k1]
        exact fin0 (.inl rfl) k2 k3
      · have k1 := st1_skip n P.length (P ++ A).length (P ++ A ++ B).length (ofL [(100000, 0, cl (P ++ A ++ B ++ S))]) none' hn hbn (by omega) (by omega)
        rw [seq_nrm k1]
        obtain ⟨a, ha⟩ : ∃ a, a = P.length := ⟨_, rfl⟩
        obtain ⟨m, hm⟩ : ∃ m, m = (P ++ A).length := ⟨_, rfl⟩
        obtain ⟨b, hb⟩ : ∃ b, b = (P ++ A ++ B).length := ⟨_, rfl⟩
        obtain ⟨mid, hmid⟩ : ∃ mid, mid = (a + b) / 2 := ⟨_, rfl⟩
        have hlo : lo82 a m b = if mid < m then mid + m - b else a := by unfold lo82; rw [hmid]
        have hhi : hi82 a m b = if mid < m then mid else m := by unfold hi82; rw [hmid]
        obtain ⟨p, hp⟩ : ∃ p, p = mid + m - 1 := ⟨_, rfl⟩
        have hlohi : lo82 a m b ≤ hi82 a m b ∧ a ≤ lo82 a m b ∧ hi82 a m b ≤ m ∧ hi82 a m b ≤ p + 1 ∧ p < n + lo82 a m b ∧ mid + m - lo82 a m b ≤ b ∧ m ≤ mid + m - hi82 a m b := by
          rw [hlo, hhi]
          split <;> omega
        obtain ⟨e, q1, q2, q3, q4, q5⟩ := bs4 none' n hn _ hn' hs (ofL [(100000, 0, cl (P ++ A ++ B ++ S))]) h0 (eN a) (eN m) (eN b) (eN mid) (eN (mid + m)) p _ (lo82 a m b) (hi82 a m b) (Nat.le_refl _) hlohi.1 ⟨by omega, by omega, by omega⟩
        have hmidE := st_mid n a m b (ofL [(100000, 0, cl (P ++ A ++ B ++ S))]) none' hn (by omega) (by omega) (by omega) e (by omega) (by rw [← hmid, ← hp]; exact q5)
        rw [← ha, ← hm, ← hb] at fin0 ⊢
        rw [hmidE, ← hmid]
        obtain ⟨t, ht⟩ : ∃ t, t = mid + m - e := ⟨_, rfl⟩
        rw [← ht]
        -- the parts
        obtain ⟨A1, A2, hAA, hA1l⟩ : ∃ A1 A2, A = A1 ++ A2 ∧ A1.length = e - a := ⟨A.take (e - a), A.drop (e - a), by simp, by simp; omega⟩
        obtain ⟨B1, B2, hBB, hB1l⟩ : ∃ B1 B2, B = B1 ++ B2 ∧ B1.length = t - m := ⟨B.take (t - m), B.drop (t - m), by simp, by simp; omega⟩
        have hAl : A.length = A1.length + A2.length := by rw [hAA]; simp
        have hBl : B.length = B1.length + B2.length := by rw [hBB]; simp
        have hAs := List.pairwise_append.1 (hAA ▸ hA)
        have hBs := List.pairwise_append.1 (hBB ▸ hB)
        have atA : ∀ i, i < A.length → (P ++ A ++ B ++ S)[a + i]? = A[i]? := fun i hi => by
          have e1 : P ++ A ++ B ++ S = P ++ (A ++ (B ++ S)) := by simp
          rw [e1, List.getElem?_append_right (by omega), show a + i - P.length = i by omega, List.getElem?_append_left hi]
        have atB : ∀ i, i < B.length → (P ++ A ++ B ++ S)[m + i]? = B[i]? := fun i hi => by
          have e1 : P ++ A ++ B ++ S = (P ++ A) ++ (B ++ S) := by simp
          rw [e1, List.getElem?_append_right (by omega), show m + i - (P ++ A).length = i by omega, List.getElem?_append_left hi]
        have hlt : ∀ u ∈ A2, ∀ v ∈ B1, cmpS v.path u.path < 0 := by
          intro u hu
          have hA2 : 0 < A2.length := List.length_pos_of_mem hu
          refine all_lt hBs.1 fun v hv => ?_
          obtain ⟨hB1p, hv⟩ := last_at _ _ hv
          have hv' : (P ++ A ++ B ++ S)[p - e]? = some v := by
            rw [show p - e = m + (B1.length - 1) by omega, atB _ (by omega), hBB, List.getElem?_append_left (by omega)]; exact hv
          obtain ⟨w, hw⟩ : ∃ w, A2[0]? = some w := ⟨_, List.getElem?_eq_getElem hA2⟩
          have hw' : (P ++ A ++ B ++ S)[e]? = some w := by
            rw [show e = a + A1.length by omega, atA _ (by omega), hAA, List.getElem?_append_right (Nat.le_refl _), Nat.sub_self]; exact hw
          have hvw : cmpS v.path w.path < 0 := by
            rcases q4 with q4 | q4
            · exfalso
              rw [hhi] at q4
              split at q4 <;> omega
            · exact Classical.not_not.1 (fun hc => q4 ⟨v, w, hv', hw', hc⟩)
          have hwu : LeI w u := by
            cases A2 with
            | nil => simp at hA2
            | cons z r =>
              obtain rfl : z = w := by simpa using hw
              rcases List.mem_cons.1 hu with rfl | hu
              · exact Int.le_of_eq (cmpS_self _)
              · exact (List.pairwise_cons.1 hAs.2.1).1 u hu
          exact lt_of_lt_le hvw hwu
        have hle : ∀ u ∈ A1, ∀ v ∈ B2, LeI u v := by
          intro u hu
          have hA1p : 0 < A1.length := List.length_pos_of_mem hu
          refine all_ge hBs.2.1 fun v hv => ?_
          rw [List.head?_eq_getElem?] at hv
          have hB2p := (List.getElem?_eq_some_iff.1 hv).1
          have hv' : (P ++ A ++ B ++ S)[p - (e - 1)]? = some v := by
            rw [show p - (e - 1) = m + B1.length by omega, atB _ (by omega), hBB, List.getElem?_append_right (Nat.le_refl _), Nat.sub_self]; exact hv
          obtain ⟨w, hw⟩ : ∃ w, A1[A1.length - 1]? = some w := ⟨_, List.getElem?_eq_getElem (by omega)⟩
          have hw' : (P ++ A ++ B ++ S)[e - 1]? = some w := by
            rw [show e - 1 = a + (A1.length - 1) by omega, atA _ (by omega), hAA, List.getElem?_append_left (by omega)]; exact hw
          have hwv : LeI w v := by
            rcases q3 with q3 | ⟨y, z, hy, hz, hc⟩
            · exfalso
              rw [hlo] at q3
              split at q3 <;> omega
            · rw [hv'] at hy
              rw [hw'] at hz
              obtain rfl := Option.some.inj hy
              obtain rfl := Option.some.inj hz
              exact LeI.of_not hc
          have huw : LeI u w := by
            rcases nil_or_last A1 with rfl | ⟨o, z, rfl⟩
            · simp at hA1p
            · obtain rfl : z = w := by simpa using hw
              rcases List.mem_append.1 hu with hu | hu
              · exact (List.pairwise_append.1 hAs.1).2.2 u hu z (by simp)
              · rw [List.mem_singleton.1 hu]; exact Int.le_of_eq (cmpS_self _)
          exact huw.trans hwv
        have hpl := plain3 A1 A2 B1 B2 (hAA ▸ hA) (hBB ▸ hB) hlt hle
        rw [← hAA, ← hBB] at hpl
        -- the rows on the way
        have hL0 : P ++ A ++ B ++ S = P ++ A1 ++ A2 ++ B1 ++ (B2 ++ S) := by rw [hAA, hBB]; simp
        have hR : P ++ srt (A ++ B) ++ S = P ++ srt (A1 ++ B1) ++ srt (A2 ++ B2) ++ S := by rw [← hpl]; simp
        have len1 : (P ++ A1 ++ B1 ++ A2 ++ (B2 ++ S)).length = n := by rw [← hn', hL0]; simp; omega
        have len2 : (P ++ srt (A1 ++ B1) ++ (A2 ++ B2) ++ S).length = n := by rw [← hn', hL0]; simp [srt_len]; omega
        have sm1 : Sm (P ++ A1 ++ B1 ++ A2 ++ (B2 ++ S)) := hs.perm fun z hz => by
          rw [hL0]
          simp only [List.mem_append] at hz ⊢
          rcases hz with (((h | h) | h) | h) | h | h <;> simp [h]
        have sm2 : Sm (P ++ srt (A1 ++ B1) ++ (A2 ++ B2) ++ S) := hs.perm fun z hz => by
          rw [hL0]
          simp only [List.mem_append, (srt_perm (A1 ++ B1)).mem_iff] at hz ⊢
          rcases hz with ((h | h | h) | h | h) | h <;> simp [h]
        have d0 := cl_dead (P ++ A ++ B ++ S)
        have l0 := cl_len (P ++ A ++ B ++ S)
        have p0 := cl_pub (P ++ A ++ B ++ S)
        have d1 := cl_dead (P ++ A1 ++ B1 ++ A2 ++ (B2 ++ S))
        have l1 := cl_len (P ++ A1 ++ B1 ++ A2 ++ (B2 ++ S))
        have p1 := cl_pub (P ++ A1 ++ B1 ++ A2 ++ (B2 ++ S))
        have d2 := cl_dead (P ++ srt (A1 ++ B1) ++ (A2 ++ B2) ++ S)
        have l2 := cl_len (P ++ srt (A1 ++ B1) ++ (A2 ++ B2) ++ S)
        have p2 := cl_pub (P ++ srt (A1 ++ B1) ++ (A2 ++ B2) ++ S)
        rw [hn'] at l0
        rw [len1] at l1
        rw [len2] at l2
        -- rotate
        have hrot : e < m → m < t → Den Sy 101 [.row 4 true n (cl (P ++ A ++ B ++ S)), eN e, eN m, eN t, .met 37] = some (.out false (.tup []) [cl (P ++ A1 ++ B1 ++ A2 ++ (B2 ++ S))]) := fun c1 c2 => by
          have := rot_den n hn (P ++ A1) A2 B1 (B2 ++ S) (by omega) (by omega) (by rw [← hn', hL0])
          rw [← hL0] at this
          rwa [show (P ++ A1).length = e by simp; omega, show (P ++ A1 ++ A2).length = m by simp; omega, show (P ++ A1 ++ A2 ++ B1).length = t by simp; omega] at this
        have hrot' : ¬ (e < m ∧ m < t) → cl (P ++ A1 ++ B1 ++ A2 ++ (B2 ++ S)) = cl (P ++ A ++ B ++ S) := fun hc => by
          rw [hL0]
          by_cases hA2 : A2.length = 0
          · obtain rfl := List.eq_nil_of_length_eq_zero hA2
            simp
          · have hB1 : B1.length = 0 := by omega
            obtain rfl := List.eq_nil_of_length_eq_zero hB1
            simp
        obtain ⟨ex9, s9, r9, rfl, f9, g9, e90, e91, e93, e94, e918, e920, e924⟩ := st9 n (ofL [(100000, 0, cl (P ++ A ++ B ++ S))]) none' _ _ (eN a) (eN b) (eN mid) m e t (E := ofL [(0, rowA n), (1, eN a), (2, eN m), (3, eN b), (4, .met 37), (18, eN mid), (20, .int .i64 (e : Int)), (24, eN t)]) rfl rfl rfl rfl rfl rfl rfl rfl h0 d0 l0 p0 d1 l1 p1 hrot hrot'
        obtain ⟨E9, bx9, pm9, df9⟩ := s9
        simp only at f9 g9 e90 e91 e93 e94 e918 e920 e924
        subst f9
        rw [seq_nrm r9]
        -- the first half
        have hrec1 : a < e → e < mid → Den Sy 82 [.row 4 true n (cl (P ++ A1 ++ B1 ++ A2 ++ (B2 ++ S))), eN a, eN e, eN mid, .met 37] = some (.out false (.tup []) [cl (P ++ srt (A1 ++ B1) ++ (A2 ++ B2) ++ S)]) := fun c1 c2 => by
          have e1 : P ++ A1 ++ B1 ++ A2 ++ (B2 ++ S) = P ++ A1 ++ B1 ++ (A2 ++ B2 ++ S) := by simp
          have := sym_den n hn N A1 B1 P (A2 ++ B2 ++ S) (by omega) (by omega) (by omega) hAs.1 hBs.1 (by rw [← e1]; exact len1) (by rw [← e1]; exact sm1)
          rw [← e1, ← ha, show (P ++ A1).length = e by simp; omega, show (P ++ A1 ++ B1).length = mid by simp; omega] at this
          rw [this]
          simp
        have hrec1' : ¬ (a < e ∧ e < mid) → cl (P ++ srt (A1 ++ B1) ++ (A2 ++ B2) ++ S) = cl (P ++ A1 ++ B1 ++ A2 ++ (B2 ++ S)) := fun hc => by
          have : srt (A1 ++ B1) = A1 ++ B1 := by
            refine (srt_uniq ?_ fun _ => rfl).symm
            by_cases hA1 : A1.length = 0
            · obtain rfl := List.eq_nil_of_length_eq_zero hA1
              simpa using hBs.1
            · have hB1 : B1.length = 0 := by omega
              obtain rfl := List.eq_nil_of_length_eq_zero hB1
              simpa using hAs.1
          rw [this]
          simp
        obtain ⟨ex10, s10, r10, rfl, f10, g10, e100, e103, e104, e1018, e1024⟩ := st10 n E9 bx9 pm9 _ _ (eN b) (eN t) a mid e e90 e91 e93 e94 e918 e920 e924 g9 d1 l1 p1 d2 l2 p2 hrec1 hrec1'
        obtain ⟨E10, bx10, pm10, df10⟩ := s10
        simp only at f10 g10 e100 e103 e104 e1018 e1024
        subst f10
        rw [seq_nrm r10]
        -- the second half
        have hrec2 : mid < t → t < b → Den Sy 82 [.row 4 true n (cl (P ++ srt (A1 ++ B1) ++ (A2 ++ B2) ++ S)), eN mid, eN t, eN b, .met 37] = some (.out false (.tup []) [cl (P ++ srt (A ++ B) ++ S)]) := fun c1 c2 => by
          have e1 : P ++ srt (A1 ++ B1) ++ (A2 ++ B2) ++ S = (P ++ srt (A1 ++ B1)) ++ A2 ++ B2 ++ S := by simp
          have := sym_den n hn N A2 B2 (P ++ srt (A1 ++ B1)) S (by omega) (by omega) (by omega) hAs.2.1 hBs.2.1 (by rw [← e1]; exact len2) (by rw [← e1]; exact sm2)
          rw [← e1, show (P ++ srt (A1 ++ B1)).length = mid by simp [srt_len]; omega, show (P ++ srt (A1 ++ B1) ++ A2).length = t by simp [srt_len]; omega, show (P ++ srt (A1 ++ B1) ++ A2 ++ B2).length = b by simp [srt_len]; omega] at this
          rw [this, hR]
        have hrec2' : ¬ (mid < t ∧ t < b) → cl (P ++ srt (A ++ B) ++ S) = cl (P ++ srt (A1 ++ B1) ++ (A2 ++ B2) ++ S) := fun hc => by
          have : srt (A2 ++ B2) = A2 ++ B2 := by
            refine (srt_uniq ?_ fun _ => rfl).symm
            by_cases hA2 : A2.length = 0
            · obtain rfl := List.eq_nil_of_length_eq_zero hA2
              simpa using hBs.2.1
            · have hB2 : B2.length = 0 := by omega
              obtain rfl := List.eq_nil_of_length_eq_zero hB2
              simpa using hAs.2.1
          rw [hR, this]
        obtain ⟨ex11, s11, r11, rfl, f11, g11, _⟩ := st11 n E10 bx10 pm10 _ _ b mid t e100 e103 e104 e1018 e1024 g10 d2 l2 p2 hRd (by rw [hRl, l0]) hRp hrec2 hrec2'
        rw [r11]
        exact fin0 (.inr rfl) f11 g11
end Q
end Go.Proofs.YtpkeiffclipjmaaGreatDoor.Rx
namespace Go.Proofs.YtpkeiffclipjmaaGreatDoor.Rx
open Go Go.RowKit
set_option maxRecDepth 100000
set_option linter.unusedSimpArgs false
set_option linter.unusedVariables false

/-- Blocks of one length, each in order. -/
def Bl (bs : Nat) (Ls : List (List It)) : Prop := ∀ x ∈ Ls, x.length = bs ∧ x.Pairwise LeI
theorem Bl.snoc {bs : Nat} {Ls : List (List It)} {x : List It} (h : Bl bs Ls) (h1 : x.length = bs) (h2 : x.Pairwise LeI) : Bl bs (Ls ++ [x]) := by
  intro y hy
  rcases List.mem_append.1 hy with hy | hy
  · exact h y hy
  · rw [List.mem_singleton.1 hy]; exact ⟨h1, h2⟩
theorem Bl.len {bs : Nat} : ∀ {Ls : List (List It)}, Bl bs Ls → Ls.flatten.length = Ls.length * bs
  | [], _ => by simp
  | x :: Ls, h => by
    have h1 := (h x (by simp)).1
    have h2 := Bl.len (Ls := Ls) (fun y hy => h y (List.mem_cons_of_mem _ hy))
    rw [List.flatten_cons, List.length_append, h1, h2, List.length_cons, Nat.add_mul]
    omega
theorem flat_snoc (Ls : List (List It)) (x : List It) : (Ls ++ [x]).flatten = Ls.flatten ++ x := by simp
theorem atP3 (P X X' S : List It) (h : ∀ p, atP X' p = atP X p) (p : List UInt8) : atP (P ++ X' ++ S) p = atP (P ++ X ++ S) p := by
  rw [atP_app, atP_app, atP_app, atP_app, h]
namespace Q
theorem fine_of (L : List It) (n : Nat) (h : L.length = n) : deadC (cl L) = false ∧ (cl L).length = n * 4 ∧ (cl L).map AV.pubC = cl L := ⟨cl_dead L, by rw [cl_len, h], cl_pub L⟩
/-- Blocks of twenty, each sorted. -/
theorem blocks_loop (n : Nat) (hn : n ≤ 1099511627776) (pm : Pm) (D : List It) (hD : D.length = n) (hs : Sm D) : ∀ (N : Nat) (Ls : List (List It)) (R : List It) (bx : Bx), R.length ≤ N → Bl 20 Ls → (Ls.flatten ++ R).length = n → bx 100000 = some (0, cl (Ls.flatten ++ R)) → (∀ x ∈ Ls.flatten ++ R, x ∈ D) → (∀ p, atP (Ls.flatten ++ R) p = atP D p) →
    ∃ (Ls' : List (List It)) (R' : List It) (bx' : Bx), Bl 20 Ls' ∧ R'.length < 20 ∧ (Ls'.flatten ++ R').length = n ∧ bx' 100000 = some (0, cl (Ls'.flatten ++ R')) ∧ (∀ x ∈ Ls'.flatten ++ R', x ∈ D) ∧ (∀ p, atP (Ls'.flatten ++ R') p = atP D p) ∧
      RunD Sy (.loop L59x0) ⟨ofL [(0, rowA n), (1, eN n), (2, .met 37), (6, .int .i64 20), (7, eN Ls.flatten.length), (8, eN (Ls.flatten.length + 20))], bx, pm, none⟩ =
        some (.exit 0, ⟨ofL [(0, rowA n), (1, eN n), (2, .met 37), (6, .int .i64 20), (7, eN Ls'.flatten.length), (8, eN (Ls'.flatten.length + 20)), (13, .bool false)], bx', pm, none⟩)
  | N, Ls, R, bx, hN, hL, hl, hb, hm, hp => by
    by_cases h20 : 20 ≤ R.length
    · obtain ⟨N, rfl⟩ : ∃ N', N = N' + 1 := ⟨N - 1, by omega⟩
      obtain ⟨R1, R2, rfl, hR1⟩ : ∃ R1 R2, R = R1 ++ R2 ∧ R1.length = 20 := ⟨R.take 20, R.drop 20, by simp, by simp; omega⟩
      have e1 : Ls.flatten ++ (R1 ++ R2) = Ls.flatten ++ R1 ++ R2 := by simp
      have e2 : (Ls ++ [srt R1]).flatten ++ R2 = Ls.flatten ++ srt R1 ++ R2 := by simp
      have hi := insSort_den n hn Ls.flatten R1 R2 (by rw [← e1]; exact hl.symm) (by rw [← e1]; exact fun x hx => hs x (hm x hx))
      rw [← e1, show sortG itS [] R1 = srt R1 from rfl, ← e2, hR1] at hi
      have hl2 : ((Ls ++ [srt R1]).flatten ++ R2).length = n := by rw [e2, ← hl, e1]; simp [srt_len]
      obtain ⟨d1, l1, p1⟩ := fine_of _ n hl
      obtain ⟨d2, l2, p2⟩ := fine_of _ n hl2
      have hfl : (Ls ++ [srt R1]).flatten.length = Ls.flatten.length + 20 := by rw [flat_snoc, List.length_append, srt_len, hR1]
      have hle : Ls.flatten.length + 20 ≤ n := by rw [← hl]; simp at hR1 ⊢; omega
      have hle' : ((Ls.flatten.length + 20 : Nat) : Int) ≤ n := by omega
      have c1 : chk .i64 (((Ls.flatten.length + 20 : Nat) : Int) + 20) = some (eN (Ls.flatten.length + 20 + 20)) := by rw [show ((Ls.flatten.length + 20 : Nat) : Int) + 20 = ((Ls.flatten.length + 20 + 20 : Nat) : Int) by omega]; exact chk_i64 _ (by omega)
      have IH := fun bx' hb' => blocks_loop n hn pm D hD hs N (Ls ++ [srt R1]) R2 bx' (by simp at hN; omega) (hL.snoc (by rw [srt_len, hR1]) (srt_sorted _)) hl2 hb' (fun x hx => hm x (by
        rw [e2] at hx
        rw [e1]
        simp only [List.mem_append, (srt_perm R1).mem_iff] at hx ⊢
        exact hx)) (fun p => by rw [e2, atP3 Ls.flatten R1 (srt R1) R2 (srt_at R1) p, ← e1, hp])
      rw [hfl] at IH
      obtain ⟨Ls', R', bx', k1, k2, k3, k4, k5, k6, k7⟩ := IH (upd bx 100000 (0, cl ((Ls ++ [srt R1]).flatten ++ R2))) (upd_same _ _ _)
      refine ⟨Ls', R', bx', k1, k2, k3, k4, k5, k6, ?_⟩
      clear e1 e2 hl hl2 hm hp hfl hs
      generalize cl ((Ls ++ [srt R1]).flatten ++ R2) = C2 at *
      generalize cl (Ls.flatten ++ (R1 ++ R2)) = C1 at *
      generalize Ls.flatten.length = a at *
      generalize Ls'.flatten.length = a' at *
      generalize a + 20 = b at *
      generalize b + 20 = b2 at *
      refine loop_eq fun K hK => ?_
      simp [L59x0, hle', hb, d1, l1, p1, d2, l2, p2, hi, c1, lend, -deadC]
      rw [hK]
      simpa using k7
    · refine ⟨Ls, R, bx, hL, by omega, hl, hb, hm, hp, ?_⟩
      have hgt : ¬ ((Ls.flatten.length + 20 : Nat) : Int) ≤ n := by
        rw [← hl]; simp only [List.length_append]; omega
      generalize Ls.flatten.length + 20 = b at *
      refine loop_eq fun K hK => ?_
      simp [L59x0, hgt]
/-- Blocks put together, two and two. -/
theorem pairs_loop (n : Nat) (hn : n ≤ 1099511627776) (pm : Pm) (D : List It) (hD : D.length = n) (hs : Sm D) (bs : Nat) (hbs : 0 < bs) (hbn : bs < n) : ∀ (N : Nat) (Ms Ls : List (List It)) (T : List It) (bx : Bx), Ls.length ≤ N → Bl (2 * bs) Ms → Bl bs Ls → T.length < bs → (Ms.flatten ++ (Ls.flatten ++ T)).length = n → bx 100000 = some (0, cl (Ms.flatten ++ (Ls.flatten ++ T))) →
    (∀ x ∈ Ms.flatten ++ (Ls.flatten ++ T), x ∈ D) → (∀ p, atP (Ms.flatten ++ (Ls.flatten ++ T)) p = atP D p) →
    ∃ (Ms' Ls' : List (List It)) (bx' : Bx), Bl (2 * bs) Ms' ∧ Bl bs Ls' ∧ Ls'.length < 2 ∧ (Ms'.flatten ++ (Ls'.flatten ++ T)).length = n ∧ bx' 100000 = some (0, cl (Ms'.flatten ++ (Ls'.flatten ++ T))) ∧ (∀ x ∈ Ms'.flatten ++ (Ls'.flatten ++ T), x ∈ D) ∧ (∀ p, atP (Ms'.flatten ++ (Ls'.flatten ++ T)) p = atP D p) ∧
      RunD Sy (.loop L59x1) ⟨ofL [(0, rowA n), (1, eN n), (2, .met 37), (6, eN bs), (7, eN Ms.flatten.length), (8, eN (Ms.flatten.length + 2 * bs))], bx, pm, none⟩ =
        some (.exit 4, ⟨ofL [(0, rowA n), (1, eN n), (2, .met 37), (6, eN bs), (7, eN Ms'.flatten.length), (8, eN (Ms'.flatten.length + 2 * bs)), (35, .bool false)], bx', pm, none⟩)
  | N, Ms, [], T, bx, hN, hM, hL, hT, hl, hb, hm, hp => by
    refine ⟨Ms, [], bx, hM, hL, by simp, hl, hb, hm, hp, ?_⟩
    have hgt : ¬ ((Ms.flatten.length + 2 * bs : Nat) : Int) ≤ n := by
      rw [← hl]; simp only [List.length_append, List.flatten_nil, List.length_nil]; omega
    generalize Ms.flatten.length + 2 * bs = b at *
    refine loop_eq fun K hK => ?_
    simp [L59x1, hgt]
  | N, Ms, [x], T, bx, hN, hM, hL, hT, hl, hb, hm, hp => by
    refine ⟨Ms, [x], bx, hM, hL, by simp, hl, hb, hm, hp, ?_⟩
    have hx := (hL x (by simp)).1
    have hgt : ¬ ((Ms.flatten.length + 2 * bs : Nat) : Int) ≤ n := by
      rw [← hl]; simp only [List.length_append, List.flatten_cons, List.flatten_nil, List.length_nil, hx]; omega
    generalize Ms.flatten.length + 2 * bs = b at *
    refine loop_eq fun K hK => ?_
    simp [L59x1, hgt]
  | 0, Ms, x :: y :: Ls, T, bx, hN, hM, hL, hT, hl, hb, hm, hp => by simp at hN
  | N + 1, Ms, x :: y :: Ls, T, bx, hN, hM, hL, hT, hl, hb, hm, hp => by
    obtain ⟨hx, hxs⟩ := hL x (by simp)
    obtain ⟨hy, hys⟩ := hL y (by simp)
    have e1 : Ms.flatten ++ ((x :: y :: Ls).flatten ++ T) = Ms.flatten ++ x ++ y ++ (Ls.flatten ++ T) := by simp
    have e2 : (Ms ++ [srt (x ++ y)]).flatten ++ (Ls.flatten ++ T) = Ms.flatten ++ srt (x ++ y) ++ (Ls.flatten ++ T) := by simp
    have hi := sym_den n hn _ x y Ms.flatten (Ls.flatten ++ T) (Nat.le_refl _) (by omega) (by omega) hxs hys (by rw [← e1]; exact hl) (by rw [← e1]; exact fun z hz => hs z (hm z hz))
    rw [← e1, ← e2, show (Ms.flatten ++ x ++ y).length = Ms.flatten.length + 2 * bs by simp [hx, hy]; omega, show (Ms.flatten ++ x).length = Ms.flatten.length + bs by simp [hx]] at hi
    have hl2 : ((Ms ++ [srt (x ++ y)]).flatten ++ (Ls.flatten ++ T)).length = n := by rw [e2, ← hl, e1]; simp [srt_len]; omega
    obtain ⟨d1, l1, p1⟩ := fine_of _ n hl
    obtain ⟨d2, l2, p2⟩ := fine_of _ n hl2
    have hfl : (Ms ++ [srt (x ++ y)]).flatten.length = Ms.flatten.length + 2 * bs := by rw [flat_snoc, List.length_append, srt_len, List.length_append, hx, hy]; omega
    have hle : Ms.flatten.length + 2 * bs ≤ n := by rw [← hl2, List.length_append, hfl]; omega
    have hle' : ((Ms.flatten.length + 2 * bs : Nat) : Int) ≤ n := by omega
    have c0 : chk .i64 ((Ms.flatten.length : Int) + bs) = some (eN (Ms.flatten.length + bs)) := by rw [show (Ms.flatten.length : Int) + bs = ((Ms.flatten.length + bs : Nat) : Int) by omega]; exact chk_i64 _ (by omega)
    have c1 : chk .i64 (2 * (bs : Int)) = some (eN (2 * bs)) := by rw [show 2 * (bs : Int) = ((2 * bs : Nat) : Int) by omega]; exact chk_i64 _ (by omega)
    have c2 : chk .i64 (((Ms.flatten.length + 2 * bs : Nat) : Int) + ((2 * bs : Nat) : Int)) = some (eN (Ms.flatten.length + 2 * bs + 2 * bs)) := by rw [show ((Ms.flatten.length + 2 * bs : Nat) : Int) + ((2 * bs : Nat) : Int) = ((Ms.flatten.length + 2 * bs + 2 * bs : Nat) : Int) by omega]; exact chk_i64 _ (by omega)
    have IH := fun bx' hb' => pairs_loop n hn pm D hD hs bs hbs hbn N (Ms ++ [srt (x ++ y)]) Ls T bx' (by simp at hN; omega) (hM.snoc (by rw [srt_len, List.length_append, hx, hy]; omega) (srt_sorted _)) (fun z hz => hL z (List.mem_cons_of_mem _ (List.mem_cons_of_mem _ hz))) hT hl2 hb' (fun z hz => hm z (by
      rw [e2] at hz
      rw [e1]
      simp only [List.mem_append, (srt_perm (x ++ y)).mem_iff] at hz ⊢
      rcases hz with (h | h | h) | h | h <;> simp [h])) (fun p => by rw [e2, atP3 Ms.flatten (x ++ y) (srt (x ++ y)) _ (srt_at _) p, ← hp, e1]; simp)
    rw [hfl] at IH
    obtain ⟨Ms', Ls', bx', k1, k2, k3, k4, k5, k6, k7, k8⟩ := IH (upd bx 100000 (0, cl ((Ms ++ [srt (x ++ y)]).flatten ++ (Ls.flatten ++ T)))) (upd_same _ _ _)
    refine ⟨Ms', Ls', bx', k1, k2, k3, k4, k5, k6, k7, ?_⟩
    clear e1 e2 hl hl2 hm hp hfl hs k4 k5 k6 k7
    generalize cl ((Ms ++ [srt (x ++ y)]).flatten ++ (Ls.flatten ++ T)) = C2 at *
    generalize cl (Ms.flatten ++ ((x :: y :: Ls).flatten ++ T)) = C1 at *
    generalize Ms'.flatten.length + 2 * bs = b' at *
    generalize Ms'.flatten.length = a' at *
    generalize Ms.flatten.length + 2 * bs + 2 * bs = b2 at *
    generalize Ms.flatten.length + 2 * bs = b at *
    generalize 2 * bs = bs2 at *
    generalize Ms.flatten.length + bs = mm at *
    generalize Ms.flatten.length = a at *
    refine loop_eq fun K hK => ?_
    simp [L59x1, hle', hb, d1, l1, p1, d2, l2, p2, hi, c0, c1, c2, lend, -deadC]
    rw [hK]
    exact k8
end Q
end Go.Proofs.YtpkeiffclipjmaaGreatDoor.Rx
namespace Go.Proofs.YtpkeiffclipjmaaGreatDoor.Rx
open Go Go.RowKit
set_option maxRecDepth 100000
set_option linter.unusedSimpArgs false
set_option linter.unusedVariables false

theorem one_sorted {bs n : Nat} {Ls : List (List It)} {T : List It} (h0 : 0 < bs) (hL : Bl bs Ls) (hT : T.Pairwise LeI) (hl : (Ls.flatten ++ T).length = n) (hn : n ≤ bs) : (Ls.flatten ++ T).Pairwise LeI := by
  rcases Ls with _ | ⟨x, _ | ⟨y, Ls⟩⟩
  · simpa using hT
  · obtain ⟨h1, h2⟩ := hL x (by simp)
    simp only [List.flatten_cons, List.flatten_nil, List.append_nil, List.length_append] at hl ⊢
    obtain rfl := List.eq_nil_of_length_eq_zero (by omega : T.length = 0)
    simpa using h2
  · have h1 := (hL x (by simp)).1
    have h2 := (hL y (by simp)).1
    simp only [List.flatten_cons, List.length_append] at hl
    omega
namespace Q
theorem outer_loop (n : Nat) (hn : n ≤ 1099511627776) (pm : Pm) (D : List It) (hD : D.length = n) (hs : Sm D) : ∀ (N bs : Nat) (Ls : List (List It)) (T : List It) (bx : Bx), n ≤ bs + N → 0 < bs → Bl bs Ls → T.length < bs → T.Pairwise LeI → (Ls.flatten ++ T).length = n → bx 100000 = some (0, cl (Ls.flatten ++ T)) →
    (∀ x ∈ Ls.flatten ++ T, x ∈ D) → (∀ p, atP (Ls.flatten ++ T) p = atP D p) →
    ∃ (bs' : Nat) (bx' : Bx), bx' 100000 = some (0, cl (srt D)) ∧
      RunD Sy (.loop L59x2) ⟨ofL [(0, rowA n), (1, eN n), (2, .met 37), (6, eN bs)], bx, pm, none⟩ =
        some (.exit 2, ⟨ofL [(0, rowA n), (1, eN n), (2, .met 37), (6, eN bs'), (30, .bool false)], bx', pm, none⟩)
  | N, bs, Ls, T, bx, hN, hbs, hL, hT, hTs, hl, hb, hm, hp => by
    by_cases hlt : bs < n
    · obtain ⟨N, rfl⟩ : ∃ N', N = N' + 1 := ⟨N - 1, by omega⟩
      obtain ⟨Ms, Ls', bx1, k1, k2, k3, k4, k5, k6, k7, k8⟩ := pairs_loop n hn pm D hD hs bs hbs hlt Ls.length [] Ls T bx (Nat.le_refl _) (by intro x hx; simp at hx) hL hT (by simpa using hl) (by simpa using hb) (by simpa using hm) (by simpa using hp)
      have z : ([] : List (List It)).flatten.length = 0 := rfl
      rw [z, Nat.zero_add, show eN 0 = AV.int .i64 0 from rfl] at k8
      have hlt' : (bs : Int) < n := by omega
      have c1 : chk .i64 (2 * (bs : Int)) = some (eN (2 * bs)) := by rw [show 2 * (bs : Int) = ((2 * bs : Nat) : Int) by omega]; exact chk_i64 _ (by omega)
      have c2 : chk .i64 ((bs : Int) * 2) = some (eN (2 * bs)) := by rw [show (bs : Int) * 2 = ((2 * bs : Nat) : Int) by omega]; exact chk_i64 _ (by omega)
      have han : Ms.flatten.length ≤ n := by rw [← k4]; simp
      have c3 : chk .i64 ((Ms.flatten.length : Int) + bs) = some (eN (Ms.flatten.length + bs)) := by rw [show (Ms.flatten.length : Int) + bs = ((Ms.flatten.length + bs : Nat) : Int) by omega]; exact chk_i64 _ (by omega)
      have IH := fun T' bx' => outer_loop n hn pm D hD hs N (2 * bs) Ms T' bx' (by omega) (by omega) k1
      rcases Ls' with _ | ⟨x, _ | ⟨y, Ls'⟩⟩
      · simp only [List.flatten_nil, List.nil_append] at k4 k5 k6 k7
        have hge : ¬ ((Ms.flatten.length + bs : Nat) : Int) < n := by rw [← k4]; simp only [List.length_append]; omega
        obtain ⟨bs', bx', m1, m2⟩ := IH T bx1 (by omega) hTs k4 k5 k6 k7
        refine ⟨bs', bx', m1, ?_⟩
        clear k1 k2 k3 k4 k5 k6 k7 IH
        generalize Ms.flatten.length + 2 * bs = b' at *
        generalize Ms.flatten.length + bs = mm at *
        generalize Ms.flatten.length = a at *
        generalize 2 * bs = bs2 at *
        refine loop_eq fun K hK => ?_
        simp [L59x2, hlt', c1, c2, c3, k8, hge, -deadC]
        rw [hK]
        simpa using m2
      · obtain ⟨hx, hxs⟩ := k2 x (by simp)
        simp only [List.flatten_cons, List.flatten_nil, List.append_nil] at k4 k5 k6 k7
        by_cases hT0 : T = []
        · subst hT0
          simp only [List.append_nil] at k4 k5 k6 k7
          have hge : ¬ ((Ms.flatten.length + bs : Nat) : Int) < n := by rw [← k4]; simp only [List.length_append, hx]; omega
          obtain ⟨bs', bx', m1, m2⟩ := IH x bx1 (by omega) hxs k4 k5 k6 k7
          refine ⟨bs', bx', m1, ?_⟩
          clear k1 k2 k3 k4 k5 k6 k7 IH
          generalize Ms.flatten.length + 2 * bs = b' at *
          generalize Ms.flatten.length + bs = mm at *
          generalize Ms.flatten.length = a at *
          generalize 2 * bs = bs2 at *
          refine loop_eq fun K hK => ?_
          simp [L59x2, hlt', c1, c2, c3, k8, hge, -deadC]
          rw [hK]
          simpa using m2
        · have hT1 : 0 < T.length := List.length_pos_iff.2 hT0
          have e1 : Ms.flatten ++ (x ++ T) = Ms.flatten ++ x ++ T ++ [] := by simp
          have e2 : Ms.flatten ++ srt (x ++ T) = Ms.flatten ++ srt (x ++ T) ++ [] := by simp
          have hll : Ms.flatten.length + bs + T.length = n := by rw [← k4]; simp only [List.length_append, hx]; omega
          have hge : ((Ms.flatten.length + bs : Nat) : Int) < n := by omega
          have hi := sym_den n hn _ x T Ms.flatten [] (Nat.le_refl _) (by omega) hT1 hxs hTs (by rw [← e1]; exact k4) (by rw [← e1]; exact fun z hz => hs z (k6 z hz))
          rw [← e1, ← e2, show (Ms.flatten ++ x ++ T).length = n by rw [List.length_append, List.length_append, hx]; exact hll, show (Ms.flatten ++ x).length = Ms.flatten.length + bs by rw [List.length_append, hx]] at hi
          have k4' : (Ms.flatten ++ srt (x ++ T)).length = n := by rw [← k4]; simp [srt_len]
          obtain ⟨d1, l1, p1⟩ := fine_of _ n k4
          obtain ⟨d2, l2, p2⟩ := fine_of _ n k4'
          obtain ⟨bs', bx', m1, m2⟩ := IH (srt (x ++ T)) (upd bx1 100000 (0, cl (Ms.flatten ++ srt (x ++ T)))) (by rw [srt_len, List.length_append, hx]; omega) (srt_sorted _) k4' (upd_same _ _ _) (fun z hz => k6 z (by
            simp only [List.mem_append, (srt_perm (x ++ T)).mem_iff] at hz ⊢
            exact hz)) (fun p => by rw [e2, atP3 Ms.flatten (x ++ T) (srt (x ++ T)) [] (srt_at _) p, ← k7]; simp)
          refine ⟨bs', bx', m1, ?_⟩
          clear e1 e2 k1 k2 k3 k4 k4' k6 k7 IH hll
          generalize cl (Ms.flatten ++ srt (x ++ T)) = C2 at *
          generalize cl (Ms.flatten ++ (x ++ T)) = C1 at *
          generalize Ms.flatten.length + 2 * bs = b' at *
          generalize Ms.flatten.length + bs = mm at *
          generalize Ms.flatten.length = a at *
          generalize 2 * bs = bs2 at *
          refine loop_eq fun K hK => ?_
          simp [L59x2, hlt', c1, c2, c3, k8, hge, k5, hi, d1, l1, p1, d2, l2, p2, lend, -deadC]
          rw [hK]
          simpa using m2
      · simp only [List.length_cons] at k3
        omega
    · have hS := one_sorted hbs hL hTs hl (by omega)
      rw [srt_uniq hS hp] at hb
      have hge : ¬ (bs : Int) < n := by omega
      refine ⟨bs, bx, hb, ?_⟩
      refine loop_eq fun K hK => ?_
      simp [L59x2, hge]
theorem stable_any (n : Nat) (hn : n ≤ 1099511627776) (l : List It) (hl : l.length = n) (hs : Sm l) :
    Den Sy 59 [.row 4 true n (cl l), .int .i64 n, .met 37] = some (.out false (.tup []) [cl (srt l)]) := by
  obtain ⟨Ls, R, bx, k1, k2, k3, k4, k5, k6, k7⟩ := blocks_loop n hn none' l hl hs n [] l (ofL [(100000, 0, cl l)]) (by omega) (by intro x hx; simp at hx) (by simpa using hl) rfl (by simp) (by simp)
  have z : ([] : List (List It)).flatten.length = 0 := rfl
  rw [z, Nat.zero_add, show eN 0 = AV.int .i64 0 from rfl, show eN 20 = AV.int .i64 20 from rfl] at k7
  have e1 : Ls.flatten ++ R = Ls.flatten ++ R ++ [] := by simp
  have e2 : Ls.flatten ++ srt R = Ls.flatten ++ srt R ++ [] := by simp
  have hi := insSort_den n hn Ls.flatten R [] (by rw [← e1]; exact k3.symm) (by rw [← e1]; exact fun x hx => hs x (k5 x hx))
  rw [← e1, show sortG itS [] R = srt R from rfl, ← e2, show Ls.flatten.length + R.length = n by rw [← k3]; simp] at hi
  have k3' : (Ls.flatten ++ srt R).length = n := by rw [← k3]; simp [srt_len]
  obtain ⟨bs', bx', m1, m2⟩ := outer_loop n hn none' l hl hs n 20 Ls (srt R) (upd bx 100000 (0, cl (Ls.flatten ++ srt R))) (by omega) (by omega) k1 (by rw [srt_len]; exact k2) (srt_sorted _) k3' (upd_same _ _ _) (fun x hx => k5 x (by
    simp only [List.mem_append, (srt_perm R).mem_iff] at hx ⊢
    exact hx)) (fun p => by rw [e2, atP3 Ls.flatten R (srt R) [] (srt_at _) p, ← k6, ← e1])
  rw [show eN 20 = AV.int .i64 20 from rfl] at m2
  obtain ⟨d1, l1, p1⟩ := fine_of _ n k3
  obtain ⟨d2, l2, p2⟩ := fine_of _ n k3'
  obtain ⟨d3, l3, p3⟩ := fine_of _ n (by rw [srt_len]; exact hl : (srt l).length = n)
  obtain ⟨d4, l4, p4⟩ := fine_of _ n hl
  clear e1 e2 k1 k2 k3 k3' k5 k6
  generalize cl (Ls.flatten ++ srt R) = C2 at *
  generalize cl (Ls.flatten ++ R) = C1 at *
  generalize cl (srt l) = C3 at *
  generalize cl l = C at *
  generalize Ls.flatten.length + 20 = b at *
  generalize Ls.flatten.length = a at *
  rw [Den_fun Sy (af := A59) rfl rfl _ rfl]
  simp [A59, handed, k4, k7, hi, m1, m2, d1, l1, p1, d2, l2, p2, d3, l3, p3, d4, l4, p4, lend, -deadC]
end Q
end Go.Proofs.YtpkeiffclipjmaaGreatDoor.Rx
