/-
  The reports' laws, plain: bytes that are cut off.
-/
import Derived.Test.YtdjgdipmjbkilaaGreatDoorRxH38
namespace Go.Proofs.YtdjgdipmjbkilaaGreatDoor.Rx
open Go
set_option linter.unusedSimpArgs false
set_option linter.unusedVariables false

theorem flat_le {α : Type} (f : α → List UInt8) {l : List α} {x : α} (h : x ∈ l) : (f x).length ≤ (l.flatMap f).length := by
  induction l with
  | nil => simp at h
  | cons y r ih =>
    rw [List.flatMap_cons, List.length_append]
    rcases List.mem_cons.1 h with rfl | h
    · omega
    · have := ih h
      omega
theorem encN_line {e : En} {d : Edit} {l : List UInt8} (hd : d ∈ e.script) (hl : l ∈ d.ls) : l.length ≤ (encN e).length := by
  have h1 : (encLine l).length ≤ (encLs d.ls).length := flat_le encLine hl
  have h2 : (encE d).length ≤ (encL e.script).length := flat_le encE hd
  simp only [encLine, encE, List.length_append] at h1 h2
  simp only [encN, txtN, List.length_append]
  omega
theorem encN_ln {e : En} (h : (encN e).length ≤ 1099511627776) : e.ln := fun d hd l hl => by
  have := encN_line hd hl
  omega
/-- What begins with entries' bytes begins with these entries. -/
theorem enc_pre : ∀ (m l : List En) (r : List UInt8), (∀ e ∈ m, mayE e = true) → (∀ e ∈ l, mayE e = true) → (encNL l).length ≤ 1099511627776 → encNL m ++ r = encNL l → ∃ i, i ≤ l.length ∧ m = l.take i
  | [], l, r, _, _, _, _ => ⟨0, by omega, rfl⟩
  | e :: m, [], r, _, _, _, h => by
    exfalso
    have h1 := encN_pos e
    have h2 := congrArg List.length h
    have u1 : encNL (e :: m) = encN e ++ encNL m := by simp [encNL]
    have u2 : encNL ([] : List En) = [] := rfl
    rw [u1, u2] at h2
    simp only [List.length_append, List.length_nil] at h2
    omega
  | e :: m, e' :: l, r, hm, hl, hb, h => by
    have u1 : encNL (e :: m) = encN e ++ encNL m := by simp [encNL]
    have u2 : encNL (e' :: l) = encN e' ++ encNL l := by simp [encNL]
    have hlen := congrArg List.length h
    rw [u1, u2, List.append_assoc] at h
    rw [u2, List.length_append] at hb
    rw [u1, u2] at hlen
    simp only [List.length_append] at hlen
    have h1 := entF_enc e (encNL m ++ r) (hm e (by simp)) (by omega) (encN_ln (by omega))
    have h2 := entF_enc e' (encNL l) (hl e' (by simp)) (by omega) (encN_ln (by omega))
    rw [h, h2] at h1
    simp only [Option.some.injEq, Prod.mk.injEq] at h1
    obtain ⟨rfl, h3⟩ := h1
    obtain ⟨i, hi, rfl⟩ := enc_pre m l r (fun x hx => hm x (List.mem_cons_of_mem _ hx)) (fun x hx => hl x (List.mem_cons_of_mem _ hx)) (by omega) h3.symm
    exact ⟨i + 1, by simp; omega, by simp⟩
/-- Bytes that are cut off are entries' just if they are cut behind one. -/
theorem bcut_iff {l : List En} (hs : l.length ≤ 448 ∧ ∀ e ∈ l, SmE e) (hr : rightE l = true) (k : Nat) (hk : k ≤ (encNL l).length) : (entsF ((encNL l).take k)).isSome = true ↔ ∃ i, i ≤ l.length ∧ (encNL (l.take i)).length = k := by
  have hb := enc_small hs (rightE_may hr)
  constructor
  · intro hx
    obtain ⟨m, hx⟩ := Option.isSome_iff_exists.1 hx
    obtain ⟨h1, h2⟩ := entsF_spec hx
    obtain ⟨i, hi, rfl⟩ := enc_pre m l ((encNL l).drop k) (rightE_may h1) (rightE_may hr) (by omega) (by rw [h2, List.take_append_drop])
    refine ⟨i, hi, ?_⟩
    rw [h2]
    simp
    omega
  · rintro ⟨i, hi, hk'⟩
    have h1 : (encNL l).take k = encNL (l.take i) := by rw [← encNL_cut l i, ← hk']; simp
    rw [h1, small_dec (small_take i hs) (rightE_take i hr)]
    rfl
/-- Is one of the first entries' bytes so long? -/
def btw (l : List En) (k : Nat) : Nat → Nat → Bool
  | _, 0 => false
  | i, n + 1 => decide ((encNL (l.take i)).length = k) || btw l k (i + 1) n
theorem btw_iff (l : List En) (k : Nat) : ∀ (n i : Nat), btw l k i n = true ↔ ∃ j, i ≤ j ∧ j < i + n ∧ (encNL (l.take j)).length = k
  | 0, i => by
    unfold btw
    exact ⟨fun h => by simp at h, fun ⟨j, h1, h2, _⟩ => by omega⟩
  | n + 1, i => by
    unfold btw
    rw [Bool.or_eq_true, btw_iff l k n (i + 1), decide_eq_true_eq]
    constructor
    · rintro (h | ⟨j, h1, h2, h3⟩)
      · exact ⟨i, by omega, by omega, h⟩
      · exact ⟨j, by omega, by omega, h3⟩
    · rintro ⟨j, h1, h2, h3⟩
      by_cases hj : j = i
      · subst hj
        exact .inl h3
      · exact .inr ⟨j, by omega, by omega, h3⟩
theorem cuts_loop (l : List En) (hs : l.length ≤ 448 ∧ ∀ e ∈ l, SmE e) (hr : rightE l = true) (k : Nat) (s : List UInt8) (bx : Bx) (pm : Pm) : ∀ (n i : Nat) (b : Bool) (j : Int), i + n = l.length + 1 → j = i →
    Res (RunD Sy (.loop L7x0) ⟨ofL [(11, .bool true), (12, sN l), (13, .str s), (15, .int .i64 k), (16, .bool b), (17, .int .i64 j)], bx, pm, none⟩) fun ex st' => ex = .exit 0 ∧ st' = ⟨ofL [(11, .bool true), (12, sN l), (13, .str s), (15, .int .i64 k), (16, .bool (b || btw l k i n)), (17, .int .i64 ((l.length : Int) + 1)), (45, .bool false)], bx, pm, none⟩
  | 0, i, b, j, h, hj => by
    subst hj
    have hi : (i : Int) = (l.length : Int) + 1 := by omega
    rw [hi]
    have hlt : ¬ (l.length : Int) + 1 ≤ l.length := by omega
    refine loop_step fun K hK => ?_
    simp [L7x0, hlt, btw]
  | n + 1, i, b, j, h, hj => by
    subst hj
    have hle : (i : Int) ≤ l.length := by omega
    have hle' : i ≤ l.length := by omega
    have hc := chk_i64 ((i : Int) + 1) (by have := hs.1; omega)
    have st := small_take i hs
    have rt := rightE_take i hr
    have lt := enc_small st (rightE_may rt)
    have et := encP_den (l.take i) (by have := st.1; omega) (fun e he => (st.2 e he).ok) (by omega)
    unfold encA at et
    rw [rt, if_pos rfl] at et
    have hnx := fun b => cuts_loop l hs hr k s bx pm n (i + 1) b ((i : Int) + 1) (by omega) (by simp)
    simp only [sN, List.map_take] at et hnx
    unfold btw
    refine loop_step fun K hK => ?_
    by_cases hb : b = true
    · subst hb
      simp [L7x0, -getElem?_pos, -List.getElem?_map, List.getElem?_cons_zero, List.getElem?_cons_succ, hle, hle', hc, et]
      rw [hK]
      have := hnx true
      simpa using this
    · have hb' : b = false := by simpa using hb
      subst hb'
      by_cases hq : (encNL (l.take i)).length = k
      · have hq' : ((encNL (l.take i)).length : Int) = k := by omega
        simp [L7x0, -getElem?_pos, -List.getElem?_map, List.getElem?_cons_zero, List.getElem?_cons_succ, hle, hle', hc, et, hq, hq']
        rw [hK]
        have := hnx true
        simpa using this
      · have hq' : ¬ ((encNL (l.take i)).length : Int) = k := by omega
        simp [L7x0, -getElem?_pos, -List.getElem?_map, List.getElem?_cons_zero, List.getElem?_cons_succ, hle, hle', hc, et, hq, hq']
        rw [hK]
        have := hnx false
        simpa using this
theorem cuts_den (raw more : List Raw) (out : List Int) (th at_ : Int) (hr : ∀ x ∈ raw, x.ok ∧ x.data.length ≤ 140737488355328) (hm : ∀ x ∈ more, x.ok) (hml : more.length ≤ 2513169434843) (ho : ∀ c ∈ out, inR c) (h1 : inR th) (h2 : inR at_) : Den Sy 7 [sR raw, sR more, .sl 1 (out.map (.int .i64)) .no, .int .i64 th, .int .i64 at_] = some (.bool true) := by
  rw [Den_fun Sy (af := A7) rfl rfl _ rfl]
  have h8 := awake_den
  have ha := entries_den raw more out th hr hm hml ho h1
  have sa := entriesF_sm raw more out th
  have ra := entriesF_right raw more out th
  generalize entriesF raw more out th = A at ha sa ra
  have la := enc_small sa (rightE_may ra)
  have ea := encP_den A (by have := sa.1; omega) (fun e he => (sa.2 e he).ok) (by omega)
  unfold encA at ea
  rw [ra, if_pos rfl] at ea
  have hk := pick12_den at_ (((encNL A).length : Int) + 1) h2 (by omega)
  obtain ⟨k1, k2⟩ := pickF_lt at_ (n := ((encNL A).length : Int) + 1) (by omega)
  have hc1 := chk_i64 (((encNL A).length : Int) + 1) (by omega)
  generalize pickF at_ (((encNL A).length : Int) + 1) = k at hk k1 k2
  obtain ⟨k', rfl⟩ : ∃ k' : Nat, k = k' := ⟨k.toNat, by omega⟩
  have hkl : k' ≤ (encNL A).length := by omega
  have hci := bcut_iff sa ra k' hkl
  have hd := decP_den ((encNL A).take k') (by simp; omega)
  have hlp := fun b bx pm => cuts_loop A sa ra k' (encNL A) bx pm (A.length + 1) 0 b 0 (by omega) rfl
  have hbt : (decide (k' = 0) || btw A k' 0 (A.length + 1)) = (entsF ((encNL A).take k')).isSome := by
    rw [Bool.eq_iff_iff, Bool.or_eq_true, hci, btw_iff, decide_eq_true_eq]
    constructor
    · rintro (h | ⟨j, _, h2, h3⟩)
      · exact ⟨0, by omega, by simp [encNL, h]⟩
      · exact ⟨j, by omega, h3⟩
    · rintro ⟨j, h2, h3⟩
      exact .inr ⟨j, by omega, by omega, h3⟩
  have hlp' := hlp (decide (k' = 0))
  rw [hbt] at hlp'
  have hk0 : (decide ((k' : Int) = 0)) = decide (k' = 0) := by simp
  simp [A7, List.getElem?_cons_zero, List.getElem?_cons_succ, -getElem?_pos, h8, ha, hk, hc1, hkl, ea]
  generalize hX : RunD Sy (.loop L7x0) _ = X
  obtain ⟨ex, st', rfl, rfl, rfl⟩ := Res.at hX (hlp' _ _)
  cases hx : entsF ((encNL A).take k') with
  | none =>
    rw [hx] at hd
    simp only [decA] at hd
    simp [hd, hkl, eqv]
  | some m =>
    rw [hx] at hd
    simp only [decA] at hd
    simp [hd, hkl, eqv]
theorem cuts_law_den (raw more : List Raw) (out : List Int) (th at_ : Int) (hr : ∀ x ∈ raw, x.well) (fr : ∀ x ∈ raw, x.fit) (hm : ∀ x ∈ more, x.well) (fm : ∀ x ∈ more, x.fit) (hml : more.length ≤ 2513169434843) (ho : ∀ c ∈ out, -9223372036854775808 ≤ c ∧ c ≤ 9223372036854775807) (h1 : (Lit.int .i64 th).wf = true) (h2 : (Lit.int .i64 at_).wf = true) : Den Sy 7 [sR raw, sR more, .sl 1 (out.map (.int .i64)) .no, .int .i64 th, .int .i64 at_] = some (.bool true) :=
  cuts_den raw more out th at_ (fun x hx => ⟨(hr x hx).ok (fr x hx), fr x hx⟩) (fun x hx => (hm x hx).ok (fm x hx)) hml ho (inR_of_wf h1) (inR_of_wf h2)
end Go.Proofs.YtdjgdipmjbkilaaGreatDoor.Rx
