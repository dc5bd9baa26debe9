/-
  The reports' laws, plain: two rows, the one behind the other.
-/
import Derived.Test.YtdjgdipmjbkilaaGreatDoorRxH38
namespace Go.Proofs.YtdjgdipmjbkilaaGreatDoor.Rx
open Go
set_option linter.unusedSimpArgs false
set_option linter.unusedVariables false

abbrev six (a b c d e f : Int) : List AV := [.int .i64 a, .int .i64 b, .int .i64 c, .int .i64 d, .int .i64 e, .int .i64 f]
set_option maxHeartbeats 2000000 in
theorem halves_loop (a0 a1 a2 a3 a4 a5 b0 b1 b2 b3 b4 b5 : Int) (ha : (0 ≤ a0 ∧ 0 ≤ a1 ∧ 0 ≤ a2 ∧ 0 ≤ a3 ∧ 0 ≤ a4 ∧ 0 ≤ a5) ∧ 0 ≤ b0 ∧ 0 ≤ b1 ∧ 0 ≤ b2 ∧ 0 ≤ b3 ∧ 0 ≤ b4 ∧ 0 ≤ b5) (hs : a0 + b0 + (a1 + b1) + (a2 + b2) + (a3 + b3) + (a4 + b4) + (a5 + b5) ≤ 1000) (v0 v1 v2 v3 : AV) (x y z : Nat) (bx : Bx) (pm : Pm) (h22 : bx 22 = some (x, six (a0 + b0) (a1 + b1) (a2 + b2) (a3 + b3) (a4 + b4) (a5 + b5))) (h23 : bx 23 = some (y, six a0 a1 a2 a3 a4 a5)) (h24 : bx 24 = some (z, six b0 b1 b2 b3 b4 b5)) :
    Res (RunD Sy (.loop L6x0) ⟨ofL [(11, .bool true), (12, v0), (13, v1), (20, v2), (21, v3), (22, .ptr 22 x 0), (23, .ptr 23 y 0), (24, .ptr 24 z 0), (25, .int .i64 0), (26, .int .i64 0)], bx, pm, none⟩) fun ex st' => ex = .exit 0 ∧ st' = ⟨ofL [(11, .bool true), (12, v0), (13, v1), (20, v2), (21, v3), (22, .ptr 22 x 0), (23, .ptr 23 y 0), (24, .ptr 24 z 0), (25, .int .i64 (a0 + b0 + (a1 + b1) + (a2 + b2) + (a3 + b3) + (a4 + b4) + (a5 + b5))), (26, .int .i64 6), (100, .bool false)], bx, pm, none⟩ := by
  have q0 := chk_i64 (a0 + b0) (by omega)
  have q1 := chk_i64 (a1 + b1) (by omega)
  have q2 := chk_i64 (a2 + b2) (by omega)
  have q3 := chk_i64 (a3 + b3) (by omega)
  have q4 := chk_i64 (a4 + b4) (by omega)
  have q5 := chk_i64 (a5 + b5) (by omega)
  have r1 := chk_i64 (a0 + b0 + (a1 + b1)) (by omega)
  have r2 := chk_i64 (a0 + b0 + (a1 + b1) + (a2 + b2)) (by omega)
  have r3 := chk_i64 (a0 + b0 + (a1 + b1) + (a2 + b2) + (a3 + b3)) (by omega)
  have r4 := chk_i64 (a0 + b0 + (a1 + b1) + (a2 + b2) + (a3 + b3) + (a4 + b4)) (by omega)
  have r5 := chk_i64 (a0 + b0 + (a1 + b1) + (a2 + b2) + (a3 + b3) + (a4 + b4) + (a5 + b5)) (by omega)
  have n1 := chk_i64 1 (by omega)
  have n2 := chk_i64 2 (by omega)
  have n3 := chk_i64 3 (by omega)
  have n4 := chk_i64 4 (by omega)
  have n5 := chk_i64 5 (by omega)
  have n6 := chk_i64 6 (by omega)
  refine loop_step fun K hK => ?_
  simp [L6x0, -getElem?_pos, h22, h23, h24, q0, r1, n1]
  rw [hK]
  refine loop_step fun K hK => ?_
  simp [L6x0, -getElem?_pos, h22, h23, h24, q1, r1, n2]
  rw [hK]
  refine loop_step fun K hK => ?_
  simp [L6x0, -getElem?_pos, h22, h23, h24, q2, r2, n3]
  rw [hK]
  refine loop_step fun K hK => ?_
  simp [L6x0, -getElem?_pos, h22, h23, h24, q3, r3, n4]
  rw [hK]
  refine loop_step fun K hK => ?_
  simp [L6x0, -getElem?_pos, h22, h23, h24, q4, r4, n5]
  rw [hK]
  refine loop_step fun K hK => ?_
  simp [L6x0, -getElem?_pos, h22, h23, h24, q5, r5, n6]
  rw [hK]
  refine loop_step fun K hK => ?_
  simp [L6x0, -getElem?_pos]
theorem halves_den (raw more : List Raw) (out : List Int) (th at_ : Int) (hr : ∀ x ∈ raw, x.ok ∧ x.data.length ≤ 140737488355328) (hm : ∀ x ∈ more, x.ok) (hml : more.length ≤ 2513169434843) (ho : ∀ c ∈ out, inR c) (h1 : inR th) (h2 : inR at_) : Den Sy 6 [sR raw, sR more, .sl 1 (out.map (.int .i64)) .no, .int .i64 th, .int .i64 at_] = some (.bool true) := by
  rw [Den_fun Sy (af := A6) rfl rfl _ rfl]
  have h8 := awake_den
  have ha := entries_den raw more out th hr hm hml ho h1
  have sa := entriesF_sm raw more out th
  have ra := entriesF_right raw more out th
  generalize entriesF raw more out th = A at ha sa ra
  have hk := pick12_den at_ ((A.length : Int) + 1) h2 (by omega)
  obtain ⟨k1, k2⟩ := pickF_lt at_ (n := (A.length : Int) + 1) (by omega)
  have hc1 := chk_i64 ((A.length : Int) + 1) (by have := sa.1; omega)
  generalize pickF at_ ((A.length : Int) + 1) = k at hk k1 k2
  obtain ⟨k', rfl⟩ : ∃ k' : Nat, k = k' := ⟨k.toNat, by omega⟩
  have hkl : k' ≤ A.length := by omega
  have st := small_take k' sa
  have sd := small_drop k' sa
  have rt := rightE_take k' ra
  have rd := rightE_drop k' ra
  have la := enc_small sa (rightE_may ra)
  have lt := enc_small st (rightE_may rt)
  have ld := enc_small sd (rightE_may rd)
  have ea := encP_den A (by have := sa.1; omega) (fun e he => (sa.2 e he).ok) (by omega)
  have et := encP_den (A.take k') (by have := st.1; omega) (fun e he => (st.2 e he).ok) (by omega)
  have ed := encP_den (A.drop k') (by have := sd.1; omega) (fun e he => (sd.2 e he).ok) (by omega)
  unfold encA at ea et ed
  rw [ra, if_pos rfl] at ea
  rw [rt, if_pos rfl] at et
  rw [rd, if_pos rfl] at ed
  have dt := small_dec st rt
  have hd := decP_den (encNL (A.take k')) (by omega)
  rw [dt] at hd
  simp only [decA] at hd
  have s1 := sameN_den (A.take k') (A.take k') (by have := st.1; omega) (fun e he => (st.2 e he).ok2)
  rw [decide_eq_true rfl] at s1
  have na := cntN_den A (by have := sa.1; omega)
  have nt := cntN_den (A.take k') (by have := st.1; omega)
  have nd := cntN_den (A.drop k') (by have := sd.1; omega)
  have hcut := encNL_cut A k'
  have hsum := cntK_sum A (fun e he => ⟨(mayE_num (rightE_may ra e he)).1, (mayE_num (rightE_may ra e he)).2.1⟩)
  have hkc : ∀ k, ((cntK A k : Nat) : Int) = cntK (A.take k') k + cntK (A.drop k') k := fun k => by rw [cntK_cut A k' k]; simp
  have hs0 : ((cntK (A.take k') 0 : Nat) : Int) + cntK (A.drop k') 0 + (cntK (A.take k') 1 + cntK (A.drop k') 1) + (cntK (A.take k') 2 + cntK (A.drop k') 2) + (cntK (A.take k') 3 + cntK (A.drop k') 3) + (cntK (A.take k') 4 + cntK (A.drop k') 4) + (cntK (A.take k') 5 + cntK (A.drop k') 5) = A.length := by
    have := hkc 0
    have := hkc 1
    have := hkc 2
    have := hkc 3
    have := hkc 4
    have := hkc 5
    omega
  simp only [cnt6, hkc] at na
  have hlp := fun v0 v1 v2 v3 x y z bx pm h22 h23 h24 => halves_loop (cntK (A.take k') 0) (cntK (A.take k') 1) (cntK (A.take k') 2) (cntK (A.take k') 3) (cntK (A.take k') 4) (cntK (A.take k') 5) (cntK (A.drop k') 0) (cntK (A.drop k') 1) (cntK (A.drop k') 2) (cntK (A.drop k') 3) (cntK (A.drop k') 4) (cntK (A.drop k') 5) (by omega) (by have := sa.1; omega) v0 v1 v2 v3 x y z bx pm h22 h23 h24
  rw [hs0] at hlp
  have hle : (encNL (A.take k')).length ≤ (encNL A).length := by rw [← hcut]; simp
  have hle' : ¬ (encNL A).length < (encNL (A.take k')).length := by omega
  have htk : (encNL A).take (encNL (A.take k')).length = encNL (A.take k') := by rw [← hcut]; simp
  have hadd : (encNL (A.take k')).length + (encNL (A.drop k')).length ≤ 9223372036854775807 := by omega
  simp only [sN, List.map_take, List.map_drop] at ha ea et ed hd s1 na nt nd hlp
  generalize encNL A = E at *
  generalize encNL (A.take k') = E1 at *
  generalize encNL (A.drop k') = E2 at *
  have htl : (A.map nA).take A.length = A.map nA := List.take_of_length_le (by simp)
  simp [A6, List.getElem?_cons_zero, List.getElem?_cons_succ, -getElem?_pos, h8, ha, hk, hc1, hkl, htl, ea, et, ed, hcut, hadd, hle, hle', htk, hd, na, nt, nd]
  generalize hX : RunD Sy (.loop L6x0) _ = X
  obtain ⟨ex, st', rfl, rfl, rfl⟩ := Res.at hX (hlp _ _ _ _ _ _ _ _ _ (by simp) (by simp) (by simp))
  simp [s1, hkl]
theorem parts_law_den (raw more : List Raw) (out : List Int) (th at_ : Int) (hr : ∀ x ∈ raw, x.well) (fr : ∀ x ∈ raw, x.fit) (hm : ∀ x ∈ more, x.well) (fm : ∀ x ∈ more, x.fit) (hml : more.length ≤ 2513169434843) (ho : ∀ c ∈ out, -9223372036854775808 ≤ c ∧ c ≤ 9223372036854775807) (h1 : (Lit.int .i64 th).wf = true) (h2 : (Lit.int .i64 at_).wf = true) : Den Sy 6 [sR raw, sR more, .sl 1 (out.map (.int .i64)) .no, .int .i64 th, .int .i64 at_] = some (.bool true) :=
  halves_den raw more out th at_ (fun x hx => ⟨(hr x hx).ok (fr x hx), fr x hx⟩) (fun x hx => (hm x hx).ok (fm x hx)) hml ho (inR_of_wf h1) (inR_of_wf h2)
end Go.Proofs.YtdjgdipmjbkilaaGreatDoor.Rx
