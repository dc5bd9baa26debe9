/-
  The script's laws, plain, 13: ScriptBack.
-/
import Derived.Test.YtdcgldhhdajocaaDoorRxP12
namespace Go.Proofs.YtdcgldhhdajocaaDoor.Rx
open Go
set_option linter.unusedSimpArgs false
set_option linter.unusedVariables false

def applyB : List Edit → List (List UInt8) → List (List UInt8)
  | [], _ => []
  | e :: r, a => if e.op = 1 then a.take e.n.toNat ++ applyB r (a.drop e.n.toNat) else if e.op = 2 then applyB r (a.drop e.n.toNat) else e.ls ++ applyB r a
theorem applyA_map : ∀ (s : List Edit) (a : List (List UInt8)), applyA s (a.map .str) = (applyB s a).map .str
  | [], a => rfl
  | e :: r, a => by
    simp only [applyA, applyB, ← List.map_take, ← List.map_drop, applyA_map r]
    split
    · simp
    · split
      · rfl
      · simp
def swp (x : Edit) : List Edit → List Edit
  | [] => [x]
  | y :: l => if y.op = 2 then y :: x :: l else x :: y :: l
def invR : List Edit → List (List UInt8) → List Edit
  | [], _ => []
  | e :: r, a => if e.op = 1 then ⟨1, e.n, []⟩ :: invR r (a.drop e.n.toNat) else if e.op = 2 then swp ⟨3, e.n, a.take e.n.toNat⟩ (invR r (a.drop e.n.toNat)) else ⟨2, e.n, []⟩ :: invR r a
theorem many_swp (x y : Int) (e : Edit) (l : List Edit) : many x y (swp e l) = many x y (e :: l) := by
  cases l with
  | nil => rfl
  | cons f l =>
    simp only [swp]
    split
    · simp only [many]; omega
    · rfl
theorem many_inv : ∀ (s : List Edit) (a : List (List UInt8)), (∀ e ∈ s, mayB e = true) → many 1 2 (invR s a) = many 1 3 s ∧ many 1 3 (invR s a) = many 1 2 s ∧ many 2 3 (invR s a) = many 2 3 s
  | [], a, _ => ⟨rfl, rfl, rfl⟩
  | e :: r, a, h => by
    have hop := (mayB_op (h e (by simp))).1
    have hr : ∀ x ∈ r, mayB x = true := fun x hx => h x (List.mem_cons_of_mem _ hx)
    simp only [invR]
    rcases hop with h1 | h2 | h3
    · obtain ⟨i1, i2, i3⟩ := many_inv r (a.drop e.n.toNat) hr
      rw [if_pos h1]
      simp [many, h1, i1, i2, i3]
    · obtain ⟨i1, i2, i3⟩ := many_inv r (a.drop e.n.toNat) hr
      rw [if_neg (by omega), if_pos h2]
      simp [many_swp, many, h2, i1, i2, i3]
    · obtain ⟨i1, i2, i3⟩ := many_inv r a hr
      rw [if_neg (by omega), if_neg (by omega)]
      simp [many, h3, i1, i2, i3]
theorem inv_len : ∀ (s : List Edit) (a : List (List UInt8)), (invR s a).length = s.length
  | [], a => rfl
  | e :: r, a => by
    have hs : ∀ (x : Edit) (l : List Edit), (swp x l).length = l.length + 1 := by
      intro x l
      cases l with
      | nil => rfl
      | cons y l => simp only [swp]; split <;> rfl
    simp only [invR]
    split
    · simp [inv_len r]
    · split
      · simp [hs, inv_len r]
      · simp [inv_len r]
theorem apply_len : ∀ (s : List Edit) (a : List (List UInt8)), (∀ e ∈ s, mayB e = true) → many 1 2 s = a.length → ((applyB s a).length : Int) = many 1 3 s
  | [], a, _, _ => rfl
  | e :: r, a, h, ha => by
    obtain ⟨hop, hn1, hn2, hn3, hn4⟩ := mayB_op (h e (by simp))
    have hr : ∀ x ∈ r, mayB x = true := fun x hx => h x (List.mem_cons_of_mem _ hx)
    have hnn := many_nn 1 2 hr
    simp only [applyB]
    rcases hop with h1 | h2 | h3
    · have hm : many 1 2 (e :: r) = e.n + many 1 2 r := by simp [many, h1]
      have hm3 : many 1 3 (e :: r) = e.n + many 1 3 r := by simp [many, h1]
      have i := apply_len r (a.drop e.n.toNat) hr (by rw [List.length_drop]; omega)
      rw [if_pos h1, List.length_append, List.length_take]
      omega
    · have hm : many 1 2 (e :: r) = e.n + many 1 2 r := by simp [many, h2]
      have hm3 : many 1 3 (e :: r) = many 1 3 r := by simp [many, h2]
      have i := apply_len r (a.drop e.n.toNat) hr (by rw [List.length_drop]; omega)
      rw [if_neg (by omega), if_pos h2]
      omega
    · have hm : many 1 2 (e :: r) = many 1 2 r := by simp [many, h3]
      have hm3 : many 1 3 (e :: r) = e.n + many 1 3 r := by simp [many, h3]
      have i := apply_len r a hr (by omega)
      have := hn3 h3
      rw [if_neg (by omega), if_neg (by omega), List.length_append]
      omega
def headOp : List Edit → Int
  | [] => 0
  | e :: _ => e.op
theorem rightF_cons {last : Int} {e : Edit} {r : List Edit} (h : rightF last (e :: r) = true) : mayB e = true ∧ e.op ≠ last ∧ ¬ (last = 3 ∧ e.op = 2) ∧ rightF e.op r = true := by
  simp only [rightF, Bool.and_eq_true, decide_eq_true_eq, Bool.not_eq_true', decide_eq_false_iff_not] at h
  exact ⟨h.1.1.1, h.1.1.2, h.1.2, h.2⟩
theorem rightF_mk {last : Int} {e : Edit} {r : List Edit} (h1 : mayB e = true) (h2 : e.op ≠ last) (h3 : ¬ (last = 3 ∧ e.op = 2)) (h4 : rightF e.op r = true) : rightF last (e :: r) = true := by
  simp only [rightF, Bool.and_eq_true, decide_eq_true_eq, Bool.not_eq_true', decide_eq_false_iff_not]
  exact ⟨⟨⟨h1, h2⟩, h3⟩, h4⟩
theorem may_one {n : Int} (h1 : 1 ≤ n) (h2 : n ≤ 1048576) : mayB ⟨1, n, []⟩ = true := by simp [mayB, h1, h2]
theorem may_two {n : Int} (h1 : 1 ≤ n) (h2 : n ≤ 1048576) : mayB ⟨2, n, []⟩ = true := by simp [mayB, h1, h2]
theorem may_three {n : Int} {l : List (List UInt8)} (h1 : 1 ≤ n) (h2 : n ≤ 1048576) (h : (l.length : Int) = n) : mayB ⟨3, n, l⟩ = true := by simp [mayB, h1, h2, h]
/-- What may stand on the left of what is made back, by what stands on the left. -/
def LOk (last l' : Int) : Prop := (last = 0 → l' = 0) ∧ (last = 1 → l' = 1) ∧ (last = 2 → l' = 3) ∧ (last = 3 → l' = 2 ∨ l' = 3) ∧ (last = 0 ∨ last = 1 ∨ last = 2 ∨ last = 3)
structure Bk (l' : Int) (s : List Edit) (a : List (List UInt8)) : Prop where
  rt : rightF l' (invR s a) = true
  ap : applyB (invR s a) (applyB s a) = a
  iv : invR (invR s a) (applyB s a) = s
theorem edit_eta (e : Edit) (n : Int) (l : List (List UInt8)) (o : Int) (h1 : e.op = o) (h2 : e.n = n) (h3 : e.ls = l) : (⟨o, n, l⟩ : Edit) = e := by
  subst h1 h2 h3
  rfl
theorem back_all : ∀ (s : List Edit) (last l' : Int) (a : List (List UInt8)), rightF last s = true → LOk last l' → (last = 2 → headOp s ≠ 3) → many 1 2 s = a.length → Bk l' s a
  | [], last, l', a, h, hl, h2, ha => by
    have : a = [] := by
      simp [many] at ha
      exact List.length_eq_zero_iff.1 (by omega)
    subst this
    exact ⟨rfl, rfl, rfl⟩
  | e :: r, last, l', a, h, hl, h2, ha => by
    obtain ⟨hme, hne, hno, hr⟩ := rightF_cons h
    obtain ⟨hop, hn1, hn2, hn3, hn4⟩ := mayB_op hme
    obtain ⟨k0, k1, k2, k3, k4⟩ := hl
    have hnn := many_nn 1 2 (rightF_may hr)
    rcases hop with o1 | o2 | o3
    · have hm : many 1 2 (e :: r) = e.n + many 1 2 r := by simp [many, o1]
      have ht : (a.take e.n.toNat).length = e.n.toNat := by rw [List.length_take]; omega
      have hd : many 1 2 r = (a.drop e.n.toNat).length := by rw [List.length_drop]; omega
      rw [o1] at hr
      obtain ⟨i1, i2, i3⟩ := back_all r 1 1 (a.drop e.n.toNat) hr ⟨by omega, by omega, by omega, by omega, by omega⟩ (by omega) hd
      have hi : invR (e :: r) a = ⟨1, e.n, []⟩ :: invR r (a.drop e.n.toNat) := by simp [invR, o1]
      have hb : applyB (e :: r) a = a.take e.n.toNat ++ applyB r (a.drop e.n.toNat) := by simp [applyB, o1]
      have htk : (a.take e.n.toNat ++ applyB r (a.drop e.n.toNat)).take e.n.toNat = a.take e.n.toNat := List.take_left' ht
      have hdk : (a.take e.n.toNat ++ applyB r (a.drop e.n.toNat)).drop e.n.toNat = applyB r (a.drop e.n.toNat) := List.drop_left' ht
      refine ⟨?_, ?_, ?_⟩
      · rw [hi]
        exact rightF_mk (may_one hn1 hn2) (show (1 : Int) ≠ l' by omega) (show ¬ (l' = 3 ∧ (1 : Int) = 2) by omega) i1
      · rw [hi, hb]
        simp [applyB, htk, hdk, i2]
      · rw [hi, hb]
        simp only [invR, if_true, hdk, i3]
        rw [edit_eta e _ _ _ o1 rfl (hn4 (by omega))]
    · have hm : many 1 2 (e :: r) = e.n + many 1 2 r := by simp [many, o2]
      have ht : (a.take e.n.toNat).length = e.n.toNat := by rw [List.length_take]; omega
      have hd : many 1 2 r = (a.drop e.n.toNat).length := by rw [List.length_drop]; omega
      have hi : invR (e :: r) a = swp ⟨3, e.n, a.take e.n.toNat⟩ (invR r (a.drop e.n.toNat)) := by simp [invR, o2]
      have hb : applyB (e :: r) a = applyB r (a.drop e.n.toNat) := by simp [applyB, o2]
      have hm3 : mayB ⟨3, e.n, a.take e.n.toNat⟩ = true := may_three hn1 hn2 (by omega)
      rw [o2] at hr
      by_cases hh : headOp r = 3
      · match r, hh with
        | f :: r', hh =>
          have o3 : f.op = 3 := hh
          obtain ⟨hmf, hnf, hof, hrf⟩ := rightF_cons hr
          obtain ⟨_, fn1, fn2, fn3, fn4⟩ := mayB_op hmf
          have fl := fn3 o3
          rw [o3] at hrf
          have hmf' : many 1 2 (f :: r') = many 1 2 r' := by simp [many, o3]
          obtain ⟨i1, i2, i3⟩ := back_all r' 3 3 (a.drop e.n.toNat) hrf ⟨by omega, by omega, by omega, by omega, by omega⟩ (by omega) (by rw [← hmf']; exact hd)
          have hi2 : invR (f :: r') (a.drop e.n.toNat) = ⟨2, f.n, []⟩ :: invR r' (a.drop e.n.toNat) := by simp [invR, o3]
          have hb2 : applyB (f :: r') (a.drop e.n.toNat) = f.ls ++ applyB r' (a.drop e.n.toNat) := by simp [applyB, o3]
          have hlf : f.ls.length = f.n.toNat := by omega
          have htk : (f.ls ++ applyB r' (a.drop e.n.toNat)).take f.n.toNat = f.ls := List.take_left' hlf
          have hdk : (f.ls ++ applyB r' (a.drop e.n.toNat)).drop f.n.toNat = applyB r' (a.drop e.n.toNat) := List.drop_left' hlf
          have hsw : invR (e :: f :: r') a = ⟨2, f.n, []⟩ :: ⟨3, e.n, a.take e.n.toNat⟩ :: invR r' (a.drop e.n.toNat) := by rw [hi, hi2]; simp [swp]
          refine ⟨?_, ?_, ?_⟩
          · rw [hsw]
            exact rightF_mk (may_two fn1 fn2) (show (2 : Int) ≠ l' by omega) (show ¬ (l' = 3 ∧ (2 : Int) = 2) by omega) (rightF_mk hm3 (show (3 : Int) ≠ 2 by omega) (show ¬ ((2 : Int) = 3 ∧ (3 : Int) = 2) by omega) i1)
          · rw [hsw, hb, hb2]
            simp [applyB, hdk, i2]
          · rw [hsw, hb, hb2]
            simp only [invR, show ¬ (2 : Int) = 1 by decide, show ¬ (3 : Int) = 1 by decide, show ¬ (3 : Int) = 2 by decide, if_false, if_true, hdk, htk, i3, swp]
            rw [edit_eta e _ _ _ o2 rfl (hn4 (by omega)), edit_eta f _ _ _ o3 rfl rfl]
        | [], hh => simp [headOp] at hh
      · obtain ⟨i1, i2, i3⟩ := back_all r 2 3 (a.drop e.n.toNat) hr ⟨by omega, by omega, by omega, by omega, by omega⟩ (fun _ => hh) hd
        have hsw : invR (e :: r) a = ⟨3, e.n, a.take e.n.toNat⟩ :: invR r (a.drop e.n.toNat) := by
          rw [hi]
          match r, hh, hr with
          | [], _, _ => rfl
          | f :: r', hh, hr =>
            obtain ⟨hmf, hnf, hof, hrf⟩ := rightF_cons hr
            have o1 : f.op = 1 := by
              rcases (mayB_op hmf).1 with k | k | k
              · exact k
              · exact absurd k hnf
              · exact absurd k hh
            simp [invR, o1, swp]
        refine ⟨?_, ?_, ?_⟩
        · rw [hsw]
          exact rightF_mk hm3 (show (3 : Int) ≠ l' by omega) (show ¬ (l' = 3 ∧ (3 : Int) = 2) by omega) i1
        · rw [hsw, hb]
          simp [applyB, i2]
        · rw [hsw, hb]
          simp only [invR, show ¬ (3 : Int) = 1 by decide, show ¬ (3 : Int) = 2 by decide, if_false, i3]
          rw [edit_eta e _ _ _ o2 rfl (hn4 (by omega))]
    · have hm : many 1 2 (e :: r) = many 1 2 r := by simp [many, o3]
      have hl2 : last ≠ 2 := fun k => h2 k o3
      have fl := hn3 o3
      rw [o3] at hr
      obtain ⟨i1, i2, i3⟩ := back_all r 3 2 a hr ⟨by omega, by omega, by omega, by omega, by omega⟩ (by omega) (by omega)
      have hi : invR (e :: r) a = ⟨2, e.n, []⟩ :: invR r a := by simp [invR, o3]
      have hb : applyB (e :: r) a = e.ls ++ applyB r a := by simp [applyB, o3]
      have hlf : e.ls.length = e.n.toNat := by omega
      have htk : (e.ls ++ applyB r a).take e.n.toNat = e.ls := List.take_left' hlf
      have hdk : (e.ls ++ applyB r a).drop e.n.toNat = applyB r a := List.drop_left' hlf
      refine ⟨?_, ?_, ?_⟩
      · rw [hi]
        exact rightF_mk (may_two hn1 hn2) (show (2 : Int) ≠ l' by omega) (show ¬ (l' = 3 ∧ (2 : Int) = 2) by omega) i1
      · rw [hi, hb]
        simp [applyB, hdk, i2]
      · rw [hi, hb]
        simp only [invR, show ¬ (2 : Int) = 1 by decide, if_false, if_true, hdk, htk, i3]
        rw [edit_eta e _ _ _ o3 rfl rfl]
        match r, hr with
        | [], _ => rfl
        | f :: r', hr =>
          obtain ⟨_, _, hof, _⟩ := rightF_cons hr
          have : ¬ f.op = 2 := fun k => hof ⟨rfl, k⟩
          simp [swp, this]
theorem invS_eq : ∀ (s : List Edit) (last : Int) (out : List Edit) (a : List (List UInt8)), rightF last s = true → (last = 2 → headOp s ≠ 3) → (headOp s = 3 → lastOp out ≠ 3) → invS s out a = out ++ invR s a
  | [], last, out, a, h, h2, ho => by simp [invS, invR]
  | e :: r, last, out, a, h, h2, ho => by
    obtain ⟨hme, hne, hno, hr⟩ := rightF_cons h
    obtain ⟨hop, hn1, hn2, hn3, hn4⟩ := mayB_op hme
    rcases hop with o1 | o2 | o3
    · rw [o1] at hr
      have hl : lastOp (out ++ [⟨1, e.n, []⟩]) = 1 := lastOp_snoc _ _
      have i := invS_eq r 1 (out ++ [⟨1, e.n, []⟩]) (a.drop e.n.toNat) hr (by omega) (fun _ => by rw [hl]; omega)
      simp only [invS, invStep, invR, if_pos o1, if_neg (show ¬ e.op = 3 by omega), i]
      simp
    · rw [o2] at hr
      have hi : invR (e :: r) a = swp ⟨3, e.n, a.take e.n.toNat⟩ (invR r (a.drop e.n.toNat)) := by simp [invR, o2]
      by_cases hh : headOp r = 3
      · match r, hh with
        | f :: r', hh =>
          have o3 : f.op = 3 := hh
          obtain ⟨hmf, hnf, hof, hrf⟩ := rightF_cons hr
          rw [o3] at hrf
          have hl : lastOp (out ++ [⟨3, e.n, a.take e.n.toNat⟩]) = 3 := lastOp_snoc _ _
          have hh' : headOp r' ≠ 3 := by
            cases r' with
            | nil => simp [headOp]
            | cons g r' => exact (rightF_cons hrf).2.1
          have i := invS_eq r' 3 (out ++ [⟨2, f.n, []⟩, ⟨3, e.n, a.take e.n.toNat⟩]) (a.drop e.n.toNat) hrf (by omega) (fun k => absurd k hh')
          have hi2 : invR (f :: r') (a.drop e.n.toNat) = ⟨2, f.n, []⟩ :: invR r' (a.drop e.n.toNat) := by simp [invR, o3]
          have hst : invStep out e a = out ++ [⟨3, e.n, a.take e.n.toNat⟩] := by simp [invStep, o2]
          have hst2 : invStep (out ++ [⟨3, e.n, a.take e.n.toNat⟩]) f (a.drop e.n.toNat) = out ++ [⟨2, f.n, []⟩, ⟨3, e.n, a.take e.n.toNat⟩] := by simp [invStep, o3, hl]
          rw [hi, hi2]
          simp only [invS, hst, if_neg (show ¬ e.op = 3 by omega), hst2, if_pos o3, i]
          simp [swp]
        | [], hh => simp [headOp] at hh
      · have i := invS_eq r 2 (out ++ [⟨3, e.n, a.take e.n.toNat⟩]) (a.drop e.n.toNat) hr (fun _ => hh) (fun k => absurd k hh)
        have hsw : invR (e :: r) a = ⟨3, e.n, a.take e.n.toNat⟩ :: invR r (a.drop e.n.toNat) := by
          rw [hi]
          match r, hh, hr with
          | [], _, _ => rfl
          | f :: r', hh, hr =>
            obtain ⟨hmf, hnf, hof, hrf⟩ := rightF_cons hr
            have o1 : f.op = 1 := by
              rcases (mayB_op hmf).1 with k | k | k
              · exact k
              · exact absurd k hnf
              · exact absurd k hh
            simp [invR, o1, swp]
        have hst : invStep out e a = out ++ [⟨3, e.n, a.take e.n.toNat⟩] := by simp [invStep, o2]
        simp only [invS, hst, if_neg (show ¬ e.op = 3 by omega), i, hsw]
        simp
    · rw [o3] at hr
      have hl := ho o3
      have hst : invStep out e a = out ++ [⟨2, e.n, []⟩] := by simp [invStep, o3, hl]
      have hh' : headOp r ≠ 3 := by
        cases r with
        | nil => simp [headOp]
        | cons g r' => exact (rightF_cons hr).2.1
      have i := invS_eq r 3 (out ++ [⟨2, e.n, []⟩]) a hr (by omega) (fun k => absurd k hh')
      simp only [invS, hst, if_pos o3, i, invR, if_neg (show ¬ e.op = 1 by omega), if_neg (show ¬ e.op = 2 by omega)]
      simp
set_option maxHeartbeats 2000000 in
set_option maxRecDepth 20000 in
theorem back_den (raw lines : List Int) (hr : ∀ c ∈ raw, inR c) (hl : ∀ c ∈ lines, inR c) : Den Sy 4 [iS raw, iS lines] = some (.bool true) := by
  rw [Den_fun Sy (af := A4) rfl rfl _ rfl]
  have hsd := script_den raw lines hr hl
  have hsr := scriptF_right raw
  obtain ⟨hm1, hm2, hlen⟩ := script_many raw 1 2
  obtain ⟨hm3, hm4, _⟩ := script_many raw 1 3
  generalize ha : fullF lines (many 1 2 (scriptF raw)).toNat = a at hsd
  have hal : many 1 2 (scriptF raw) = a.length := by rw [← ha, fullF, fullG_len]; omega
  generalize scriptF raw = s at hsd hsr hm1 hm2 hlen hm3 hm4 hal
  have hmay := rightF_may hsr
  have hB := back_all s 0 0 a hsr ⟨by omega, by omega, by omega, by omega, by omega⟩ (by omega) hal
  obtain ⟨b1, b2, b3⟩ := hB
  have hinv : invS s [] a = invR s a := by simpa using invS_eq s 0 [] a hsr (by omega) (by simp [lastOp])
  have hbl := apply_len s a hmay hal
  obtain ⟨q1, q2, q3⟩ := many_inv s a hmay
  have htl := inv_len s a
  generalize hb : applyB s a = b at b2 b3 hbl
  generalize ht : invR s a = t at b1 b2 b3 hinv q1 q2 q3 htl
  have htr : rightB t = true := b1
  have hal2 : many 1 2 t = b.length := by rw [q1]; exact hbl.symm
  have hinv2 : invS t [] b = s := by
    have := invS_eq t 0 [] b b1 (by omega) (by simp [lastOp])
    rw [this, b3]
    rfl
  have f1 : fitsF s a.length = 0 := by simp [fitsF, hsr, hal]
  have f2 : fitsF t b.length = 0 := by simp [fitsF, htr, hal2]
  have d1 := apply_den s (by omega) a
  have d2 := invert_den s (by omega) a (by omega)
  have d3 := apply_den t (by omega) b
  have d4 := invert_den t (by omega) b (by omega)
  rw [f1] at d1 d2
  rw [f2] at d3 d4
  simp only [applyF, f1, f2, if_true, applyA_map, hb, hinv, hinv2, b2] at d1 d2 d3 d4
  have d5 := spans_den s (by omega)
  have d6 := spans_den t (by omega)
  have d7 := cost_den s (by omega)
  have d8 := cost_den t (by omega)
  have d9 := right_den t (by omega)
  have d10 := texts_den a a (by omega)
  have hls : ∀ e ∈ s, e.ls.length ≤ 1099511627776 := by
    intro e he
    obtain ⟨hop, hn1, hn2, hn3, hn4⟩ := mayB_op (hmay e he)
    by_cases h3 : e.op = 3
    · have := hn3 h3; omega
    · rw [hn4 h3]; simp
  have d11 := same_den s s (by omega) hls
  simp only [spansF, costF, hsr, htr, if_true, q1, q2, q3, decide_true, hal, ← hbl] at d5 d6 d7 d8 d9 d10 d11
  simp [A4, awake_den, hsd, d1, d2, d3, d4, d5, d6, d7, d8, d9, d10, d11]
end Go.Proofs.YtdcgldhhdajocaaDoor.Rx
