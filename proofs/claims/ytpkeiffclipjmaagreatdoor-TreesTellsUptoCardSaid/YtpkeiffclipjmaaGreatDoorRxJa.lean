/-
  The laws' own functions; TreesLimits, plain.
-/
import Derived.Test.YtpkeiffclipjmaaGreatDoorRxGb
import Derived.KernelRfl
namespace Go.Proofs.YtpkeiffclipjmaaGreatDoor.Rx
open Go
set_option linter.unusedSimpArgs false
set_option linter.unusedVariables false
theorem awake_den : Den Sy 10 [] = some (.bool true) := Den_of Sy (n := 12) (by kernel_rfl)

def anyF (raw : List Raw) : List It := (raw.take 14).map itemF
theorem anyF_len (raw : List Raw) : (anyF raw).length ≤ 14 := by simp [anyF]; omega
theorem itemF_len (x : Raw) : (itemF x).path.length ≤ 32 ∧ (itemF x).data.length ≤ 60 := itemT_len x
theorem anyF_path (raw : List Raw) : ∀ x ∈ anyF raw, x.path.length ≤ 32 := by
  intro x hx
  obtain ⟨r, _, rfl⟩ := List.mem_map.1 hx
  exact (itemF_len r).1
def AQ (raw : List Raw) (R : List It) (ex : Ex) (st' : St) : Prop := ex = .exit 0 ∧ ∃ (q' : Perm) (i' : AV) (pm' : Pm) (bx' : Bx), st' = ⟨ofL [(0, sR raw), (3, .sl 4 (R.map iA) q'), (4, i'), (12, .bool false)], bx', pm', none⟩
theorem any_loop (raw : List Raw) (hr : ∀ x ∈ raw, x.ok) (bx : Bx) : ∀ (k : Nat) (rest pre : List Raw) (i : Int) (t : List It) (T : List AV) (R : List It) (q : Perm) (pm : Pm), raw = pre ++ rest → i = pre.length → k + pre.length = 14 → T = t.map iA → t.length ≤ 14 - k → R = t ++ (rest.take k).map itemF → AppOk pm q →
    Res (RunD Sy (.loop L12x0) ⟨ofL [(0, sR raw), (3, .sl 4 T q), (4, .int .i64 i)], bx, pm, none⟩) fun ex st' => AQ raw R ex st'
  | k, [], pre, i, t, T, R, q, pm, h, hi, hk, hT, hl, hR, hq => by
    subst hi hT
    rw [List.append_nil] at h
    subst h
    refine loop_step fun K hK => ?_
    have hR' : R = t := by rw [hR]; simp
    subst hR'
    simp [L12x0]
    exact ⟨rfl, _, _, _, _, rfl⟩
  | 0, c :: rest, pre, i, t, T, R, q, pm, h, hi, hk, hT, hl, hR, hq => by
    subst hi hT
    have hlt : (pre.length : Int) < raw.length := by rw [h]; simp; omega
    have h8 : ¬ (pre.length : Int) < 14 := by omega
    refine loop_step fun K hK => ?_
    have hR' : R = t := by rw [hR]; simp
    subst hR'
    simp [L12x0, hlt, h8]
    exact ⟨rfl, _, _, _, _, rfl⟩
  | k + 1, c :: rest, pre, i, t, T, R, q, pm, h, hi, hk, hT, hl, hR, hq => by
    subst hi hT
    have hlt : (pre.length : Int) < raw.length := by rw [h]; simp; omega
    have h8 : (pre.length : Int) < 14 := by omega
    have hg : (raw.map rA)[pre.length]? = some (rA c) := by rw [h]; simp
    have hc := chk_i64 ((pre.length : Int) + 1) (by omega)
    have hit := item_den c (hr c (by rw [h]; simp))
    have hsz : (t.length + 1) * 48 ≤ 140737488355328 := by omega
    have hnx := fun T hT q pm => any_loop raw hr bx k rest (pre ++ [c]) ((pre.length : Int) + 1) (t ++ [itemF c]) T R q pm (by simp [h]) (by simp) (by simp; omega) hT (by simp; omega) (by rw [hR]; simp)
    simp only [rA] at hg hit
    simp only [iA] at hit
    refine loop_step fun K hK => ?_
    rcases hq with rfl | ⟨tt, v, rfl, hpm⟩
    · simp [L12x0, -getElem?_pos, -List.getElem?_map, hlt, h8, hg, hc, hit, hsz]
      rw [hK]
      exact hnx _ (by simp [iA]) _ _ (AppOk.tok (by simp))
    · simp [L12x0, -getElem?_pos, -List.getElem?_map, hlt, h8, hg, hc, hit, hsz, hpm]
      rw [hK]
      exact hnx _ (by simp [iA]) _ _ (AppOk.tok (by simp))
theorem any_den (raw : List Raw) (hr : ∀ x ∈ raw, x.ok) : Den Sy 12 [sR raw] = some (sI (anyF raw)) := by
  rw [Den_fun Sy (af := A12) rfl rfl _ rfl]
  obtain ⟨ex, st', hL, rfl, q', i', pm', bx', rfl⟩ := any_loop raw hr (ofL []) 14 raw [] 0 [] [] (anyF raw) .nil none' rfl rfl rfl rfl (by simp) rfl (AppOk.nil _)
  simp [A12, hL]

/-! ### Same -/
theorem eqv_it (x y : It) : eqv (some [2, 1, 2, 0]) (iA x) (iA y) = some (decide (x = y)) := by
  obtain ⟨p, k, d, b⟩ := x
  obtain ⟨p', k', d', b'⟩ := y
  simp only [eqv, eqL, eqK, iA, if_true]
  congr 1
  rw [Bool.eq_iff_iff]
  simp [It.mk.injEq]
theorem same_loop (a b : List It) (hl : a.length = b.length) (hn : a.length ≤ 1099511627776) (bx : Bx) (pm : Pm) : ∀ (x y pre pre' : List It) (i : Int), a = pre ++ x → b = pre' ++ y → pre.length = pre'.length → i = pre.length →
    Res (RunD Sy (.loop L17x0) ⟨ofL [(0, sI a), (1, sI b), (5, .int .i64 i)], bx, pm, none⟩) fun ex st' => st'.df = none ∧ if x = y then ex = .exit 0 else ex = .ret ∧ st'.env 4 = some (.bool false)
  | [], y, pre, pre', i, h1, h2, h3, hi => by
    have hy : y = [] := by
      rw [h1, h2] at hl
      simp at hl
      exact List.eq_nil_of_length_eq_zero (by omega)
    subst hy hi
    have hlt : ¬ (pre.length : Int) < a.length := by rw [h1]; simp
    refine loop_step fun K hK => ?_
    simp [L17x0, hlt]
  | x :: xs, y, pre, pre', i, h1, h2, h3, hi => by
    obtain ⟨z, ys, rfl⟩ : ∃ z ys, y = z :: ys := by
      cases y with
      | nil => rw [h1, h2] at hl; simp at hl; omega
      | cons z ys => exact ⟨z, ys, rfl⟩
    subst hi
    have hlt : (pre.length : Int) < a.length := by rw [h1]; simp; omega
    have hlt2 : (pre.length : Int) < b.length := by rw [← hl]; exact hlt
    have hga : (a.map iA)[pre.length]? = some (iA x) := by rw [h1]; simp
    have hgb : (b.map iA)[pre.length]? = some (iA z) := by rw [h2, h3]; simp
    have hc := chk_i64 ((pre.length : Int) + 1) (by omega)
    have he := eqv_it x z
    have hnx := same_loop a b hl hn bx pm xs ys (pre ++ [x]) (pre' ++ [z]) ((pre.length : Int) + 1) (by simp [h1]) (by simp [h2]) (by simp [h3]) (by simp)
    simp only [iA] at hga hgb he
    refine loop_step fun K hK => ?_
    by_cases hxz : x = z
    · subst hxz
      simp only [List.cons.injEq, true_and]
      simp [L17x0, -getElem?_pos, -List.getElem?_map, hlt, hlt2, hga, hgb, hc, he]
      rw [hK]
      exact hnx
    · simp [L17x0, -getElem?_pos, -List.getElem?_map, hlt, hlt2, hga, hgb, hc, he, hxz]
theorem same_den (a b : List It) (hn : a.length ≤ 1099511627776) : Den Sy 17 [sI a, sI b] = some (.bool (decide (a = b))) := by
  rw [Den_fun Sy (af := A17) rfl rfl _ rfl]
  by_cases hl : a.length = b.length
  · obtain ⟨ex, st', hL, hd, h⟩ := same_loop a b hl hn (ofL []) none' a b [] [] 0 rfl rfl rfl rfl
    have hl' : ((a.length : Int) = b.length) := by omega
    by_cases hab : a = b
    · rw [if_pos hab] at h
      subst h
      rw [decide_eq_true hab]
      simp [A17, hl', hL, hd]
    · rw [if_neg hab] at h
      obtain ⟨rfl, h⟩ := h
      rw [decide_eq_false hab]
      simp [A17, hl', hL, hd, h]
  · have hl' : ¬ ((a.length : Int) = b.length) := by omega
    have hab : a ≠ b := fun e => hl (by rw [e])
    simp [A17, hl', hab]

/-! ### times -/
def timesF (t : List It) (x : It) : Nat := (t.filter fun y => decide (y = x)).length
theorem timesF_le (t : List It) (x : It) : timesF t x ≤ t.length := List.length_filter_le _ _
theorem times_loop (t : List It) (ht : t.length ≤ 1099511627776) (x : It) (bx : Bx) (pm : Pm) (hb : bx 3 = some (0, iC x)) : ∀ (rest pre : List It) (i n : Int), t = pre ++ rest → i = pre.length → n = timesF pre x →
    Res (RunD Sy (.loop L28x0) ⟨ofL [(0, sI t), (3, .ptr 3 0 0), (5, .int .i64 n), (6, .int .i64 i)], bx, pm, none⟩) fun ex st' => ex = .exit 0 ∧ st'.df = none ∧ st'.env 5 = some (.int .i64 (timesF t x))
  | [], pre, i, n, h, hi, hn => by
    subst hi hn
    rw [List.append_nil] at h
    subst h
    refine loop_step fun K hK => ?_
    simp [L28x0]
  | y :: rest, pre, i, n, h, hi, hn => by
    subst hi hn
    have hle := timesF_le pre x
    have hlt : (pre.length : Int) < t.length := by rw [h]; simp; omega
    have hlt2 : pre.length < t.length := by omega
    have hg : (t.map iA)[pre.length]? = some (iA y) := by rw [h]; simp
    have hc := chk_i64 ((pre.length : Int) + 1) (by omega)
    have hc2 := chk_i64 ((timesF pre x : Int) + 1) (by omega)
    have he := eqv_it y x
    have hb2 : bx 3 = some (0, [.str x.path, .int .i64 x.kind, .str x.data, .bool x.bad]) := hb
    have hnx := fun n hn => times_loop t ht x bx pm hb rest (pre ++ [y]) ((pre.length : Int) + 1) n (by simp [h]) (by simp) hn
    simp only [iA] at hg he
    refine loop_step fun K hK => ?_
    by_cases hxz : y = x
    · have hd : decide (y = x) = true := decide_eq_true hxz
      rw [hd] at he
      have hp : timesF (pre ++ [y]) x = timesF pre x + 1 := by simp [timesF, hxz]
      simp [L28x0, -getElem?_pos, -List.getElem?_map, hlt, hg, hc, hc2, he, hb2]
      rw [hK]
      exact hnx _ (by rw [hp]; simp)
    · have hd : decide (y = x) = false := decide_eq_false hxz
      rw [hd] at he
      have hp : timesF (pre ++ [y]) x = timesF pre x := by simp [timesF, hxz]
      simp [L28x0, -getElem?_pos, -List.getElem?_map, hlt, hg, hc, hc2, he, hb2]
      rw [hK]
      exact hnx _ (by rw [hp])
theorem times_den (t : List It) (ht : t.length ≤ 1099511627776) (x : It) : Den Sy 28 [sI t, iA x] = some (.int .i64 (timesF t x)) := by
  rw [Den_fun Sy (af := A28) rfl rfl _ rfl]
  obtain ⟨ex, st', hL, rfl, hd, h⟩ := times_loop t ht x (upd (ofL []) 3 (0, iC x)) none' (upd_same _ _ _) t [] 0 0 rfl rfl rfl
  simp only [iC] at hL
  have hnb : nextB (ofL ([] : List (Nat × Nat × List AV))) 3 = 0 := rfl
  simp [A28, iA, hnb, hL, hd, h]

/-! ### Functions told by hand -/
theorem check15_den (t : List It) (l : Lim) (ht : t.length ≤ bigP) (hp : ∀ x ∈ t, x.path.length ≤ bigT) : Den Sy 15 [sI t, lA l] = some (ftA (checkF t l)) := by
  rw [Den_ext Sy (F := checkE) rfl]
  simp only [checkE, lA, itsOf_its]
  rw [if_pos ⟨ht, hp⟩]
theorem eqv_ft (f g : List UInt8 × Int) : eqv (some [2, 1]) (ftA f) (ftA g) = some (decide (f = g)) := by
  obtain ⟨p, k⟩ := f
  obtain ⟨p', k'⟩ := g
  simp only [eqv, eqL, eqK, ftA, if_true]
  congr 1
  rw [Bool.eq_iff_iff]
  simp [Prod.mk.injEq]
/-- With more there is no lesser fault. -/
theorem fault_more (t : List It) (a b : Lim) (h1 : a.depth ≤ b.depth) (h2 : a.size ≤ b.size) (p : List UInt8) (h : faultF t b p ≠ 0) : faultF t a p ≠ 0 := by
  unfold faultF at h ⊢
  by_cases c1 : check01F p = 0
  · rw [if_neg (by simp [c1])] at h ⊢
    by_cases c2 : a.depth < (partsF p).length
    · rw [if_pos c2]; omega
    · rw [if_neg c2]
      rw [if_neg (by omega)] at h
      by_cases c3 : 1 < countF t p
      · rw [if_pos c3]; omega
      · rw [if_neg c3] at h ⊢
        have e5 : someB t p a.size 5 = someB t p b.size 5 := by simp [someB, some1]
        have e9 : someB t p a.size 9 = someB t p b.size 9 := by simp [someB, some1]
        rw [e5, e9]
        by_cases c4 : someB t p b.size 5 = true
        · rw [if_pos c4]; omega
        · rw [if_neg c4] at h ⊢
          by_cases c5 : dirF p ≠ [] ∧ dirB t (dirF p) = false
          · rw [if_pos c5]; omega
          · rw [if_neg c5] at h ⊢
            by_cases c6 : someB t p a.size 7 = true
            · rw [if_pos c6]; omega
            · have c7 : ¬ someB t p b.size 7 = true := by
                intro h7
                apply c6
                simp only [someB, List.any_eq_true, some1, Bool.and_eq_true, decide_eq_true_eq] at h7 ⊢
                obtain ⟨x, hx, h8, h9⟩ := h7
                refine ⟨x, hx, h8, ?_⟩
                simp at h9 ⊢
                omega
              rw [if_neg c6]
              rw [if_neg c7] at h
              exact h
  · rw [if_pos c1]
    exact c1
theorem check_minof (t : List It) (l : Lim) : MinOf (faultF t l) (fun p => p ∈ t.map It.path) (checkG t l [] 0 t) := by
  have := checkG_min t l t [] [] 0 (.inl ⟨rfl, by simp⟩)
  rwa [List.nil_append] at this
theorem checkF_path (t : List It) (l : Lim) (N : Nat) (h : ∀ x ∈ t, x.path.length ≤ N) : (checkF t l).1.length ≤ N := by
  unfold checkF
  split
  · simp
  · rcases check_minof t l with ⟨e, _⟩ | ⟨h1, _⟩
    · rw [e]; simp
    · obtain ⟨x, hx, e⟩ := List.mem_map.1 h1
      rw [← e]
      exact h x hx
theorem limits_plain (t : List It) (a b : Lim) (h1 : a.depth ≤ b.depth) (h2 : a.size ≤ b.size) (ha : (t.length : Int) ≤ a.count) (hb : (t.length : Int) ≤ b.count) :
    ((checkF t a).2 = 0 → checkF t b = ([], 0)) ∧ ((checkF t a).2 ≠ 0 → (checkF t b).2 = 0 ∨ cmpP (checkF t a).1 (checkF t b).1 ≤ 0) := by
  have ea : checkF t a = checkG t a [] 0 t := if_neg (by omega)
  have eb : checkF t b = checkG t b [] 0 t := if_neg (by omega)
  rw [ea, eb]
  rcases check_minof t a with ⟨e, h⟩ | ⟨k1, k2, k3, k4⟩
  · refine ⟨fun _ => ?_, fun h0 => absurd (by rw [e]) h0⟩
    rcases check_minof t b with ⟨e', _⟩ | ⟨m1, m2, _, _⟩
    · exact e'
    · exact absurd (h _ m1) (fault_more t a b h1 h2 _ m2)
  · refine ⟨fun h0 => absurd (k3.symm.trans h0) k2, fun _ => ?_⟩
    rcases check_minof t b with ⟨e', _⟩ | ⟨m1, m2, m3, _⟩
    · exact .inl (by rw [e'])
    · rw [cmp_eq]
      exact .inr (k4 _ m1 (fault_more t a b h1 h2 _ m2))
theorem limits_den (raw : List Raw) (hr : ∀ x ∈ raw, x.ok) (l : Lim) (m0 m1 m2 : Int) (hl : inR l.depth ∧ inR l.size ∧ inR l.count) (hm : inR m0 ∧ inR m1 ∧ inR m2) :
    Den Sy 6 [sR raw, lA l, .agg [.int .i64 m0, .int .i64 m1, .int .i64 m2]] = some (.bool true) := by
  have hA := any_den raw hr
  have hn := anyF_len raw
  have hp := anyF_path raw
  generalize anyF raw = t at hA hn hp
  have p1 := pick02_den l.depth 9 hl.1 (by omega)
  have p2 := pick02_den l.size 30 hl.2.1 (by omega)
  have p3 := pick02_den l.count 3 hl.2.2 (by omega)
  have p4 := pick02_den m0 5 hm.1 (by omega)
  have p5 := pick02_den m1 30 hm.2.1 (by omega)
  have p6 := pick02_den m2 5 hm.2.2 (by omega)
  have q1 := pickF_lt l.depth (n := 9) (by omega)
  have q2 := pickF_lt l.size (n := 30) (by omega)
  have q3 := pickF_lt l.count (n := 3) (by omega)
  have q4 := pickF_lt m0 (n := 5) (by omega)
  have q5 := pickF_lt m1 (n := 30) (by omega)
  have q6 := pickF_lt m2 (n := 5) (by omega)
  generalize pickF l.depth 9 = d1 at p1 q1
  generalize pickF l.size 30 = d2 at p2 q2
  generalize pickF l.count 3 = d3 at p3 q3
  generalize pickF m0 5 = d4 at p4 q4
  generalize pickF m1 30 = d5 at p5 q5
  generalize pickF m2 5 = d6 at p6 q6
  have hB : t.length ≤ bigP := by have : bigP = 1099511627776 := rfl; omega
  have hT : ∀ x ∈ t, x.path.length ≤ bigT := fun x hx => by have := hp x hx; have : bigT = 4294967280 := rfl; omega
  have cA := check15_den t ⟨d1, d2, t.length + d3⟩ hB hT
  have cB := check15_den t ⟨d1 + d4, d2 + d5, t.length + d3 + d6⟩ hB hT
  have cF := check15_den t ⟨d1, d2, (t.length : Int) - 1⟩ hB hT
  have hF : checkF t ⟨d1, d2, (t.length : Int) - 1⟩ = ([], 8) := if_pos (by simp; omega)
  rw [hF] at cF
  obtain ⟨L1, L2⟩ := limits_plain t ⟨d1, d2, t.length + d3⟩ ⟨d1 + d4, d2 + d5, t.length + d3 + d6⟩ (by simp; omega) (by simp; omega) (by simp; omega) (by simp; omega)
  have k1 := chk_i64 ((t.length : Int) + d3) (by omega)
  have k2 := chk_i64 (d1 + d4) (by omega)
  have k3 := chk_i64 (d2 + d5) (by omega)
  have k4 := chk_i64 ((t.length : Int) + d3 + d6) (by omega)
  have k5 := chk_i64 ((t.length : Int) - 1) (by omega)
  have e8 := eqv_ft ([], 8) ([], 8)
  have eg := eqv_ft (checkF t ⟨d1 + d4, d2 + d5, t.length + d3 + d6⟩) ([], 0)
  have b1 := checkF_path t ⟨d1, d2, t.length + d3⟩ 32 hp
  have b2 := checkF_path t ⟨d1 + d4, d2 + d5, t.length + d3 + d6⟩ 32 hp
  have cC := cmp_den (checkF t ⟨d1, d2, t.length + d3⟩).1 (checkF t ⟨d1 + d4, d2 + d5, t.length + d3 + d6⟩).1 (by omega) (by omega)
  clear b1 b2
  generalize checkF t ⟨d1, d2, t.length + d3⟩ = f at cA L1 L2 cC
  generalize checkF t ⟨d1 + d4, d2 + d5, t.length + d3 + d6⟩ = g at cB L1 L2 eg cC
  obtain ⟨f1, f2⟩ := f
  obtain ⟨g1, g2⟩ := g
  simp only [lA, ftA] at cA cB cF e8 eg ⊢
  simp only at L1 L2 cC
  clear hF hB hT hp q1 q2 q3 q4 q5 q6
  rw [Den_fun Sy (af := A6) rfl rfl _ rfl]
  by_cases h0 : f2 = 0
  · have hg := L1 h0
    rw [decide_eq_true hg] at eg
    subst h0
    clear L1 L2 cC
    simp [A6, awake_den, hA, p1, p2, p3, p4, p5, p6, cA, cB, cF, k1, k2, k3, k4, k5, e8, eg]
  · rcases L2 h0 with h1 | h1
    · clear L1 L2 cC eg
      simp [A6, awake_den, hA, p1, p2, p3, p4, p5, p6, cA, cB, cF, k1, k2, k3, k4, k5, e8, h0, h1]
    · clear L1 L2 eg
      by_cases h2 : g2 = 0
      · simp [A6, awake_den, hA, p1, p2, p3, p4, p5, p6, cA, cB, cF, k1, k2, k3, k4, k5, e8, h0, h2]
      · simp [A6, awake_den, hA, p1, p2, p3, p4, p5, p6, cA, cB, cF, k1, k2, k3, k4, k5, e8, h0, h2, cC, h1]
end Go.Proofs.YtpkeiffclipjmaaGreatDoor.Rx
