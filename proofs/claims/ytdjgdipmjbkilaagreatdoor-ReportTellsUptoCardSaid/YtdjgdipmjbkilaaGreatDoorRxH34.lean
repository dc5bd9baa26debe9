/-
  The reports' laws: entries of trees may be, in a row (no program here).
-/
import Derived.Test.YtdjgdipmjbkilaaGreatDoorRxH33
namespace Go.Proofs.YtdjgdipmjbkilaaGreatDoor.Rx
open Go
set_option linter.unusedSimpArgs false
set_option linter.unusedVariables false

theorem okG_of : ∀ (l : List En) (p : Option (List UInt8)), (∀ e ∈ l, mayE e = true) → Ord En.path l → (∀ q, p = some q → ∀ e ∈ l, cmpS q e.path < 0) → okG cmpS p l = true
  | [], p, _, _, _ => rfl
  | e :: r, p, hm, ho, hp => by
    unfold Ord at ho
    rw [List.pairwise_cons] at ho
    have ih := okG_of r (some e.path) (fun x hx => hm x (List.mem_cons_of_mem _ hx)) ho.2 (fun q hq x hx => by
      simp only [Option.some.injEq] at hq
      subst hq
      exact ho.1 x hx)
    unfold okG
    rw [hm e (by simp), ih]
    cases p with
    | none => rfl
    | some q => simp [hp q rfl e (by simp)]
theorem srcG_of : ∀ (l : List En) (S : List (List UInt8)), (∀ e ∈ l, e.op = 5 → e.src ∉ S) → l.Pairwise (fun a b => a.op = 5 → b.op = 5 → a.src ≠ b.src) → srcG S l = true
  | [], S, _, _ => rfl
  | e :: r, S, h1, h2 => by
    rw [List.pairwise_cons] at h2
    unfold srcG
    by_cases ho : e.op = 5
    · rw [if_pos ho, if_neg (h1 e (by simp) ho)]
      refine srcG_of r _ (fun x hx hx5 hmem => ?_) h2.2
      rcases List.mem_cons.1 hmem with h | h
      · exact h2.1 x hx ho hx5 h.symm
      · exact h1 x (List.mem_cons_of_mem _ hx) hx5 h
    · rw [if_neg ho]
      exact srcG_of r S (fun x hx => h1 x (List.mem_cons_of_mem _ hx)) h2.2
/-- No source is there twice. -/
def Uni (l : List Pr) : Prop := ∀ x ∈ l, ∀ y ∈ l, x.src = y.src → x = y
theorem takeG_uni : ∀ (n : Nat) (l taken : List Pr), Uni taken → Uni (takeG n l taken)
  | 0, l, taken, h => h
  | n + 1, l, taken, h => by
    unfold takeG
    split
    · exact h
    · rename_i p hp
      refine takeG_uni n l _ fun x hx y hy hs => ?_
      have hpt : touchB taken p = false := by
        rcases bestG_mem taken l none p hp with h | h
        · simp at h
        · exact h.2
      have hno : ∀ z ∈ taken, z.src ≠ p.src := fun z hz e => by
        unfold touchB at hpt
        rw [List.any_eq_false] at hpt
        have := hpt z hz
        simp [e] at this
      rcases List.mem_append.1 hx with kx | kx
      · rcases List.mem_append.1 hy with ky | ky
        · exact h x kx y ky hs
        · rw [List.mem_singleton] at ky
          rw [ky] at hs
          exact absurd hs (hno x kx)
      · rw [List.mem_singleton] at kx
        rcases List.mem_append.1 hy with ky | ky
        · rw [kx] at hs
          exact absurd hs.symm (hno y ky)
        · rw [List.mem_singleton] at ky
          rw [kx, ky]
theorem pairsF_uni (old fresh : List It) (th : Int) : Uni (pairsF old fresh th) := by
  have h := takeG_uni ((candF old fresh th).length + 1) (candF old fresh th) [] (fun x hx => by simp at hx)
  intro x hx y hy
  unfold pairsF at hx hy
  have h1 := (sortG_mem prLt x _ _).1 hx
  have h2 := (sortG_mem prLt y _ _).1 hy
  exact h x (h1.resolve_left (by simp)) y (h2.resolve_left (by simp))
theorem rowF_five {a b : List It} {l : List Pr} {p : List UInt8} {e : En} (h : rowF a b l p = some e) (h5 : e.op = 5) : ∃ x ∈ l, x.dst = p ∧ e.src = x.src := by
  unfold rowF at h
  split at h
  · rename_i x hx
    simp only [Option.some.injEq] at h
    subst h
    have := rowL_mem hx
    exact ⟨x, this.1, this.2, rfl⟩
  · simp at h
  · exfalso
    split at h
    · simp only [Option.some.injEq] at h; subst h; simp at h5
    · split at h
      · simp only [Option.some.injEq] at h; subst h; simp at h5
      · unfold bothE at h
        split at h
        · simp only [Option.some.injEq] at h; subst h; simp at h5
        · split at h
          · simp only [Option.some.injEq] at h; subst h; simp at h5
          · simp at h
theorem rowL_src {p : List UInt8} : ∀ {l : List Pr}, (∃ x ∈ l, x.src = p) → (∀ y ∈ l, y.dst ≠ p) → rowL p l = some none
  | [], ⟨x, hx, _⟩, _ => by simp at hx
  | y :: l, ⟨x, hx, hs⟩, h => by
    unfold rowL
    rw [if_neg (h y (by simp))]
    by_cases hy : y.src = p
    · rw [if_pos hy]
    · rw [if_neg hy]
      rcases List.mem_cons.1 hx with rfl | hx
      · exact absurd hs hy
      · exact rowL_src ⟨x, hx, hs⟩ (fun z hz => h z (List.mem_cons_of_mem _ hz))
theorem compF_right {a b : List It} (ha : Good a) (hb : Good b) (sa : SmT a) (sb : SmT b) (l : Lim) (th : Int) : rightE (compF a b l th) = true := by
  unfold compF
  split
  · rfl
  · generalize hP : pairsF (aloneF a b) (aloneF b a) th = P
    have hpm : ∀ x ∈ P, (∃ i ∈ aloneF a b, x.src = i.path) ∧ ∃ i ∈ aloneF b a, x.dst = i.path := fun x hx => by
      subst hP
      obtain ⟨i, hi, j, hj, rfl, _⟩ := candF_mem (pairsF_mem hx)
      exact ⟨⟨i, hi, rfl⟩, ⟨j, hj, rfl⟩⟩
    have hps : ∀ x ∈ P, 1 ≤ x.score ∧ x.score ≤ 100 := fun x hx => by subst hP; exact pair_score hx
    have hpu : Uni P := by subst hP; exact pairsF_uni _ _ _
    have hord := rowsG_ord (a := a) (b := b) (l := P) (allF_ord ha hb)
    have hmay : ∀ e ∈ rowsG a b P (allF a b), mayE e = true := fun e he => by
      obtain ⟨x, hx, hr⟩ := rowsG_mem he
      refine rowF_may ha hb sa sb hps ?_ hr
      rcases allF_mem hx with h | h
      · exact .inl (findF_some h)
      · exact .inr (findF_some h.1)
    have hok := okG_of _ none hmay hord (fun q hq => by simp at hq)
    have hsrc : ∀ e ∈ rowsG a b P (allF a b), e.op = 5 → e.src ∉ (rowsG a b P (allF a b)).map En.path := fun e he h5 hmem => by
      obtain ⟨x, _, hr⟩ := rowsG_mem he
      obtain ⟨q, hq, _, hqs⟩ := rowF_five hr h5
      obtain ⟨d, hd, hde⟩ := List.mem_map.1 hmem
      obtain ⟨y, _, hyr⟩ := rowsG_mem hd
      have hyp : y.path = q.src := by rw [← rowF_path hyr, hde, hqs]
      obtain ⟨⟨i, hi, his⟩, _⟩ := hpm q hq
      have hia := (aloneF_mem hi).1
      have hn := rowL_src (p := q.src) (l := P) ⟨q, hq, rfl⟩ (fun z hz e => by
        obtain ⟨_, ⟨j, hj, hjd⟩⟩ := hpm z hz
        have h1 := (aloneF_mem hj).2
        rw [← hjd, e, his, findF_some hia] at h1
        simp at h1)
      rw [hyp] at hyr
      unfold rowF at hyr
      rw [hn] at hyr
      simp at hyr
    have hpw : (rowsG a b P (allF a b)).Pairwise (fun c d => c.op = 5 → d.op = 5 → c.src ≠ d.src) := by
      refine List.Pairwise.imp_of_mem (fun {c d} hc hd hcd h5 h5' hs => ?_) hord
      obtain ⟨x, _, hr⟩ := rowsG_mem hc
      obtain ⟨y, _, hr'⟩ := rowsG_mem hd
      obtain ⟨q, hq, hq1, hq2⟩ := rowF_five hr h5
      obtain ⟨q', hq', hq1', hq2'⟩ := rowF_five hr' h5'
      have e := hpu q hq q' hq' (by rw [← hq2, ← hq2', hs])
      have hpp : c.path = d.path := by rw [rowF_path hr, rowF_path hr', ← hq1, ← hq1', e]
      rw [hpp, cmpS_self] at hcd
      omega
    unfold rightE
    rw [hok, srcG_of _ _ hsrc hpw]
    rfl
/-- What Compare tells of trees of raw items may be. -/
theorem entriesF_right (raw more : List Raw) (out : List Int) (th : Int) : rightE (entriesF raw more out th) = true := compF_right (treeF_good _) (treeF_good _) (treeF_smT _) (treeF_smT _) _ _
end Go.Proofs.YtdjgdipmjbkilaaGreatDoor.Rx
