/-
  The reports' laws, plain: ReportTells
-/
import Derived.Test.YtdjgdipmjbkilaaGreatDoorRxH29
import Derived.Test.YtdjgdipmjbkilaaGreatDoorRxY2
import Derived.Test.YtdjgdipmjbkilaaGreatDoorRxH34
namespace Go.Proofs.YtdjgdipmjbkilaaGreatDoor.Rx
open Go
set_option linter.unusedSimpArgs false
set_option linter.unusedVariables false

def cellsN (l : List En) : List AV := l.flatMap eC
theorem cellsN_len : ∀ l : List En, (cellsN l).length = l.length * 8
  | [] => rfl
  | e :: r => by
    have := cellsN_len r
    simp only [cellsN, List.flatMap_cons, List.length_append, List.length_cons, List.length_nil] at this ⊢
    omega
theorem takeN (pre : List En) (r : List AV) (f : Nat) : (cellsN pre ++ r).take (pre.length * 8 + f) = cellsN pre ++ r.take f := by rw [← cellsN_len, List.take_length_add_append]
theorem dropN (pre : List En) (r : List AV) (f : Nat) : (cellsN pre ++ r).drop (pre.length * 8 + f) = r.drop f := by rw [← cellsN_len, List.drop_length_add_append]
theorem dropN1 (pre : List En) (r : List AV) (f : Nat) : (cellsN pre ++ r).drop (pre.length * 8 + f + 1) = r.drop (f + 1) := dropN pre r (f + 1)
theorem takeN0 (pre : List En) (r : List AV) : (cellsN pre ++ r).take (pre.length * 8) = cellsN pre := by simpa using takeN pre r 0
theorem dropN0 (pre : List En) (r : List AV) : (cellsN pre ++ r).drop (pre.length * 8) = r := by simpa using dropN pre r 0
theorem deadN {cs : List AV} (h : 2 ≤ cs.length) : deadC cs = false := by
  match cs, h with
  | a :: b :: r, _ => cases a <;> rfl
theorem deadN2 (pre : List En) (x y : AV) (r : List AV) : deadC (cellsN pre ++ x :: y :: r) = false := deadN (by simp; omega)
theorem chunks_step (n : Nat) (cs : List AV) : chunks 8 true (n + 1) cs = match mkp true (cs.take 8), chunks 8 true n (cs.drop 8) with
    | some x, some l => some (x :: l)
    | _, _ => none := rfl
theorem chunks_app (n : Nat) (r : List AV) : ∀ pre : List En, chunks 8 true (pre.length + n) (cellsN pre ++ r) = (chunks 8 true n r).map (pre.map nA ++ ·)
  | [] => by simp [cellsN]
  | x :: pre => by
    have ih := chunks_app n r pre
    have hu : cellsN (x :: pre) ++ r = eC x ++ (cellsN pre ++ r) := by simp [cellsN]
    have hn : (x :: pre).length + n = (pre.length + n) + 1 := by simp; omega
    have h1 : (eC x ++ (cellsN pre ++ r)).take 8 = eC x := rfl
    have h2 : (eC x ++ (cellsN pre ++ r)).drop 8 = cellsN pre ++ r := rfl
    rw [hu, hn, chunks_step, h1, h2, ih]
    cases chunks 8 true n r <;> rfl
theorem chunksN (l : List En) : chunks 8 true l.length (cellsN l) = some (l.map nA) := by
  have := chunks_app 0 [] l
  simpa [chunks] using this
theorem chunksP (pre post : List En) (a b c d e f g h : AV) : chunks 8 true (pre.length + (post.length + 1)) (cellsN pre ++ a :: b :: c :: d :: e :: f :: g :: h :: cellsN post) = some (pre.map nA ++ .agg [a.pubC, b.pubC, c.pubC, d.pubC, e.pubC, f.pubC, g.pubC, h.pubC] :: post.map nA) := by
  have h1 : (a :: b :: c :: d :: e :: f :: g :: h :: cellsN post).take 8 = [a, b, c, d, e, f, g, h] := rfl
  have h2 : (a :: b :: c :: d :: e :: f :: g :: h :: cellsN post).drop 8 = cellsN post := rfl
  rw [chunks_app, chunks_step, h1, h2, chunksN]
  rfl
def turnE (e : En) (c which : Int) (s : List Edit) : En :=
  if c = 0 then { e with op := pickF which 7 } else if c = 1 then { e with path := e.path ++ [120] } else if c = 2 then { e with src := [97] }
  else if c = 3 then { e with old := pickF which 4 } else if c = 4 then { e with new := pickF which 4 } else if c = 5 then { e with data := [113] }
  else if c = 6 then { e with score := pickF which 102 } else if c = 7 then { e with script := s } else e
def turnL (pre : List En) (e : En) (post : List En) (c which : Int) (s : List Edit) : List En :=
  if c = 8 then pre ++ post else if c = 9 then pre ++ e :: post ++ [e] else pre ++ turnE e c which s :: post
theorem pickT_den (S : Sys) (hS : S = T1 ∨ S = T2) (c n : Int) (hc : inR c) (hn : 0 < n) : Den S 25 [.int .i64 c, .int .i64 n] = some (.int .i64 (pickF c n)) := by
  rw [Den_fun S (af := A25) (by rcases hS with rfl | rfl <;> rfl) (by rcases hS with rfl | rfl <;> rfl) _ rfl]
  obtain ⟨h1, h2⟩ := hc
  have h0 : ¬ n = 0 := by omega
  by_cases h : c < 0
  · have hc1 := chk_i64 (c + 1) (by omega)
    have hc2 := chk_i64 (0 - (c + 1)) (by omega)
    have e : (0 - (c + 1)) = -(c + 1) := by omega
    rw [e] at hc2
    simp [A25, h, hc1, hc2, h0, pickF]
  · simp [A25, h, h0, pickF]
theorem z104 {n : Nat} (h : n ≤ 1000001) : n * 104 ≤ 140737488355328 := by omega
theorem turned_nil (which what : Int) (s : List Edit) : Den T1 11 [sN [], .int .i64 which, .int .i64 what, sE s] = some (sN []) := by
  rw [Den_fun T1 (af := A11) rfl rfl _ rfl]
  simp [A11]
theorem step_mv (D : Nat → List AV → Option AV) (d : Option Nat) (st : St) (x : Opd) : step D d st (.mv x) = (evo st.env x).map fun r => ⟨r, [], [], false⟩ := rfl
theorem app_own (D : Nat → List AV → Option AV) (env : Env) (bx : Bx) (pm : Pm) (df : Option (Nat × List AV)) (L : List En) (h : env 11 = some (sN L)) (h0 : L ≠ []) (hl : L.length ≤ 1000000) : step D (some 12) ⟨env, bx, pm, df⟩ (.app (some true) 8 104 (.c (.sl 8 [] .nil)) (.t 11)) = some ⟨.own 8 true 12 (nextB bx 12) L.length, [(12, nextB bx 12, cellsN L)], [], false⟩ := by
  obtain ⟨e, r, rfl⟩ : ∃ e r, L = e :: r := by cases L with
    | nil => exact absurd rfl h0
    | cons e r => exact ⟨e, r, rfl⟩
  have hz : (r.length + 1) * 104 ≤ 140737488355328 := z104 (by simp at hl; omega)
  have hfm : (nA e :: r.map nA).flatMap AV.cells = cellsN (e :: r) := by simp [cellsN, List.flatMap_map, nA]
  have hall : (nA e :: r.map nA).all (fun y => y.okC && y.cells.length == 8) = true := by simp [nA]
  have hd : deadC (cellsN (e :: r)) = false := deadN (by rw [cellsN_len]; simp; omega)
  unfold step
  simp only [evo, h, List.map_cons, hfm, hall, hd, List.length_nil, List.length_cons, List.length_map, Nat.zero_add, hz, and_self, if_true, true_and]
  simp
def rest3 : ACode → ACode
  | .seq _ (.seq _ c) => c
  | c => c
theorem turned_ahead (L : List En) (which what : Int) (s : List Edit) (h0 : L ≠ []) (hl : L.length ≤ 1000000) : RunD T1 A11.code ⟨ofL [(0, sN L), (1, .int .i64 which), (2, .int .i64 what), (3, sE s)], ofL [], none', none⟩ = RunD T1 (rest3 A11.code) ⟨ofL [(1, .int .i64 which), (2, .int .i64 what), (3, sE s), (9, .own 8 true 12 0 L.length)], upd (ofL []) 12 (0, cellsN L), none', none⟩ := by
  have happ := fun env bx h => app_own (Den T1) env bx none' none L h h0 hl
  have e : A11.code = .seq (.reg [⟨some 8, none, .mv (.c (.sl 8 [] .nil)), []⟩] [0, 1, 2, 3]) (.seq (.reg [⟨some 11, none, .mv (.t 0), []⟩, ⟨some 12, none, .app (some true) 8 104 (.c (.sl 8 [] .nil)) (.t 11), []⟩, ⟨some 9, none, .mv (.t 12), []⟩] [1, 2, 3, 9]) (rest3 A11.code)) := rfl
  conv => lhs; rw [e]
  simp [-step, step_mv, happ, nextB]
set_option maxHeartbeats 4000000 in
theorem turned1 (pre post : List En) (e : En) (which what : Int) (s : List Edit) (hw : inR which) (hw2 : inR what) (hl : (pre ++ e :: post).length ≤ 1000000) (hp : e.path.length ≤ 1000000000) (hk : pickF which ((pre ++ e :: post).length : Int) = pre.length) (h8 : pickF what 12 ≠ 8) : Den T1 11 [sN (pre ++ e :: post), .int .i64 which, .int .i64 what, sE s] = some (sN (turnL pre e post (pickF what 12) which s)) := by
  rw [Den_fun T1 (af := A11) rfl rfl _ rfl]
  have q1 := pickT_den T1 (.inl rfl) which ((pre ++ e :: post).length : Int) hw (by simp; omega)
  have q2 := pickT_den T1 (.inl rfl) what 12 hw2 (by omega)
  have q3 := pickT_den T1 (.inl rfl) which 7 hw (by omega)
  have q4 := pickT_den T1 (.inl rfl) which 4 hw (by omega)
  have q5 := pickT_den T1 (.inl rfl) which 102 hw (by omega)
  rw [hk] at q1
  obtain ⟨k1, k2⟩ := pickF_lt what (n := 12) (by omega)
  have hlen : (pre ++ e :: post).length = pre.length + (post.length + 1) := by simp
  have hz2 : (pre.length + (post.length + 1) + 1) * 104 ≤ 140737488355328 := z104 (by omega)
  have hcl : (pre.length + (post.length + 1)) * 8 = pre.length * 8 + (post.length * 8 + 8) := by omega
  have hcells : cellsN (pre ++ e :: post) = cellsN pre ++ (eC e ++ cellsN post) := by simp [cellsN]
  have hlt : (pre.length : Int) < pre.length + (post.length + 1) := by omega
  have ha := turned_ahead (pre ++ e :: post) which what s (by simp) hl
  have h0 : ¬ pre.length + (post.length + 1) = 0 := by omega
  have h0' : ¬ (pre.length : Int) + (post.length + 1) = 0 := by omega
  rw [hlen, hcells] at ha
  rw [hlen] at q1
  have hcast : ((pre.length + (post.length + 1) : Nat) : Int) = (pre.length : Int) + ((post.length : Int) + 1) := by omega
  rw [hcast] at q1
  unfold turnL
  rw [if_neg h8]
  simp only [params, paramsB]
  rw [ha]
  generalize pickF what 12 = c at *
  have hca : c = 0 ∨ c = 1 ∨ c = 2 ∨ c = 3 ∨ c = 4 ∨ c = 5 ∨ c = 6 ∨ c = 7 ∨ c = 9 ∨ c = 10 ∨ c = 11 := by omega
  have hb : ∀ f, f < 8 → pre.length * 8 + f + 1 ≤ pre.length * 8 + (post.length * 8 + 1 + 1 + 1 + 1 + 1 + 1 + 1 + 1) := fun f h => by omega
  have hb1 := hb 1 (by omega)
  have hb2 := hb 2 (by omega)
  have hb3 := hb 3 (by omega)
  have hb4 := hb 4 (by omega)
  have hb5 := hb 5 (by omega)
  have hb6 := hb 6 (by omega)
  have hb7 := hb 7 (by omega)
  have hap : e.path.length + 1 ≤ 9223372036854775807 := by omega
  clear ha hcells hk hl
  rcases hca with rfl | rfl | rfl | rfl | rfl | rfl | rfl | rfl | rfl | rfl | rfl
  all_goals simp [A11, rest3, -deadC, -getElem?_pos, hlt, h0, h0', q1, q2, q3, q4, q5, takeN, dropN, dropN1, hb1, hb2, hb3, hb4, hb5, hb6, hb7, takeN0, dropN0, deadN2, chunksP, cellsN_len, turnE, hap, hz2, hcl]
  all_goals try exact ⟨rfl, rfl⟩
  all_goals try rfl
  have h9 := chunksN (pre ++ e :: (post ++ [e]))
  have hc : cellsN (pre ++ e :: (post ++ [e])) = cellsN pre ++ (eC e ++ (cellsN post ++ eC e)) := by simp [cellsN]
  have hn : (pre ++ e :: (post ++ [e])).length = pre.length + (post.length + 1) + 1 := by simp; omega
  rw [hc, hn] at h9
  simp only [List.cons_append, List.nil_append] at h9
  have hl9 : pre.length * 8 + (post.length * 8 + 8 + 1 + 1 + 1 + 1 + 1 + 1 + 1 + 1) = (pre.length + (post.length + 1) + 1) * 8 := by omega
  rw [if_pos hl9, h9]
  rfl
theorem turned2 (pre post : List En) (e : En) (which what : Int) (s : List Edit) (hw : inR which) (hw2 : inR what) (hl : (pre ++ e :: post).length ≤ 1000000) (hk : pickF which ((pre ++ e :: post).length : Int) = pre.length) (h8 : pickF what 12 = 8) : Den T2 11 [sN (pre ++ e :: post), .int .i64 which, .int .i64 what, sE s] = some (sN (pre ++ post)) := by
  rw [Den_fun T2 (af := A11b) rfl rfl _ rfl]
  have q1 := pickT_den T2 (.inr rfl) which ((pre ++ e :: post).length : Int) hw (by simp; omega)
  have q2 := pickT_den T2 (.inr rfl) what 12 hw2 (by omega)
  rw [hk] at q1
  rw [h8] at q2
  have hlen : (pre ++ e :: post).length = pre.length + (post.length + 1) := by simp
  rw [hlen] at q1 hl
  have hcast : ((pre.length + (post.length + 1) : Nat) : Int) = (pre.length : Int) + ((post.length : Int) + 1) := by omega
  rw [hcast] at q1
  have hz : (pre.length + (post.length + 1)) * 104 ≤ 140737488355328 := z104 (by omega)
  have hz2 : (pre.length + post.length) * 104 ≤ 140737488355328 := z104 (by omega)
  have hz3 : pre.length * 104 ≤ 140737488355328 := z104 (by omega)
  have h0 : ¬ pre.length + (post.length + 1) = 0 := by omega
  have h0' : ¬ (pre.length : Int) + (post.length + 1) = 0 := by omega
  have h1 : (pre.length : Int) ≤ pre.length + (post.length + 1) := by omega
  have h2 : (pre.length : Int) + 1 ≤ pre.length + (post.length + 1) := by omega
  have hc1 := chk_i64 ((pre.length : Int) + 1) (by omega)
  have ht : (pre.map nA ++ nA e :: post.map nA).take pre.length = pre.map nA := by rw [List.take_append_of_le_length (by simp), List.take_of_length_le (by simp)]
  have hd : (pre.map nA ++ nA e :: post.map nA).drop (pre.length + 1) = post.map nA := by
    have := List.drop_length_add_append (l₁ := pre.map nA) (l₂ := nA e :: post.map nA) (i := 1)
    rw [List.length_map] at this
    rw [this]
    rfl
  have ht2 : (pre.map nA ++ nA e :: post.map nA).take (pre.length + (post.length + 1)) = pre.map nA ++ nA e :: post.map nA := List.take_of_length_le (by simp)
  cases post with
  | nil =>
    simp only [List.length_nil, List.map_nil, Int.natCast_zero, Int.zero_add, Nat.zero_add, Nat.add_zero] at q1 hz hz2 h0 h0' h1 h2 ht hd ht2
    simp [A11b, -getElem?_pos, hz, hz2, hz3, h0, h0', h1, h2, hc1, ht, hd, ht2, q1, q2]
  | cons y post =>
    simp only [List.length_cons, List.map_cons, Int.natCast_add, Int.natCast_one] at q1 hz hz2 h0 h0' h1 h2 ht hd ht2
    simp [A11b, -getElem?_pos, hz, hz2, hz3, h0, h0', h1, h2, hc1, ht, hd, ht2, q1, q2]
theorem sdP_nothing (D : Fun) (i : Nat) (fs : List (Nat × List Nat × List Nat)) (o : AOper) (os : List AOper) (f : Option (List Nat × List Nat)) : sdP D i fs o os f none = none := rfl
set_option maxHeartbeats 4000000 in
theorem turned1_none (L : List En) (which what : Int) (s : List Edit) (h0 : L ≠ []) (hw : inR which) (hw2 : inR what) (hl : L.length ≤ 1000000) (h8 : pickF what 12 = 8) : Den T1 11 [sN L, .int .i64 which, .int .i64 what, sE s] = none := by
  rw [Den_fun T1 (af := A11) rfl rfl _ rfl]
  have hpos : 0 < L.length := List.length_pos_iff.2 h0
  have q1 := pickT_den T1 (.inl rfl) which (L.length : Int) hw (by omega)
  have q2 := pickT_den T1 (.inl rfl) what 12 hw2 (by omega)
  rw [h8] at q2
  have ha := turned_ahead L which what s h0 hl
  have h0' : ¬ (L.length : Int) = 0 := by omega
  simp only [params, paramsB]
  rw [ha]
  simp [A11, rest3, h0, h0', q1, q2, sdP_nothing]
/-- Entries, one thing of which is another one: each is as it was, or is turned. -/
theorem turned_den (l : List En) (which what : Int) (s : List Edit) (hw : inR which) (hw2 : inR what) (hl : l.length ≤ 999999) (hp : ∀ e ∈ l, e.path.length ≤ 1000000000) : ∃ L, Den Sy 11 [sN l, .int .i64 which, .int .i64 what, sE s] = some (sN L) ∧ L.length ≤ l.length + 1 ∧ ∀ x ∈ L, x ∈ l ∨ ∃ d ∈ l, x = turnE d (pickF what 12) which s := by
  have hx : ∀ r, turnedX [sN l, .int .i64 which, .int .i64 what, sE s] = r → Den Sy 11 [sN l, .int .i64 which, .int .i64 what, sE s] = r := fun r h => by rw [Den_ext Sy (F := turnedX) rfl]; exact h
  by_cases h0 : l = []
  · subst h0
    refine ⟨[], hx _ ?_, by simp, by simp⟩
    unfold turnedX
    rw [turned_nil]
  · have hpos : 0 < l.length := List.length_pos_iff.2 h0
    obtain ⟨k1, k2⟩ := pickF_lt which (n := (l.length : Int)) (by omega)
    obtain ⟨k, hk⟩ : ∃ k : Nat, pickF which (l.length : Int) = k := ⟨(pickF which (l.length : Int)).toNat, by omega⟩
    rw [hk] at k1 k2
    have hkl : k < l.length := by omega
    have hsp : l = l.take k ++ l[k] :: l.drop (k + 1) := by rw [List.getElem_cons_drop, List.take_append_drop]
    have htl : (l.take k).length = k := by simp; omega
    generalize ha : l.take k = pre at hsp htl
    generalize hb : l.drop (k + 1) = post at hsp
    generalize hc : l[k] = e at hsp
    clear ha hb hc
    subst hsp
    rw [← htl] at hk
    by_cases h8 : pickF what 12 = 8
    · refine ⟨pre ++ post, hx _ ?_, by simp; omega, fun x hx => .inl ?_⟩
      · unfold turnedX
        rw [turned1_none _ which what s h0 hw hw2 (by omega) h8]
        exact turned2 pre post e which what s hw hw2 (by omega) hk h8
      · rcases List.mem_append.1 hx with h | h <;> simp [h]
    · refine ⟨turnL pre e post (pickF what 12) which s, hx _ ?_, ?_, fun x hx => ?_⟩
      · unfold turnedX
        rw [turned1 pre post e which what s hw hw2 (by omega) (hp e (by simp)) hk h8]
      · unfold turnL
        rw [if_neg h8]
        split <;> simp <;> omega
      · unfold turnL at hx
        rw [if_neg h8] at hx
        split at hx
        · refine .inl ?_
          simp only [List.mem_append, List.mem_cons, List.not_mem_nil, or_false] at hx ⊢
          rcases hx with (h | h | h) | h
          · exact .inl h
          · exact .inr (.inl h)
          · exact .inr (.inr h)
          · exact .inr (.inl h)
        · simp only [List.mem_append, List.mem_cons] at hx
          rcases hx with h | h | h
          · exact .inl (by simp [h])
          · exact .inr ⟨e, by simp, h⟩
          · exact .inl (by simp [h])

theorem innG_iff (e : En) (i : Nat) : ∀ (r : List En) (k : Nat), innG e i k r = true ↔ ∀ j d, r[j]? = some d → badB e d i (k + j) = false
  | [], k => by simp [innG]
  | d :: r, k => by
    unfold innG
    rw [Bool.and_eq_true, innG_iff e i r (k + 1)]
    constructor
    · rintro ⟨h1, h2⟩ j x hj
      cases j with
      | zero =>
        simp only [List.getElem?_cons_zero, Option.some.injEq] at hj
        subst hj
        simpa using h1
      | succ j =>
        have := h2 j x (by simpa using hj)
        rw [show k + (j + 1) = k + 1 + j by omega]
        exact this
    · intro h
      refine ⟨by have := h 0 d (by simp); simpa using this, fun j x hj => ?_⟩
      have := h (j + 1) x (by simpa using hj)
      rw [show k + (j + 1) = k + 1 + j by omega] at this
      exact this
theorem rrG_iff (L : List En) : ∀ (r : List En) (i : Nat) (p : Option (List UInt8)), rrG L i p r = true ↔ okG cmpS p r = true ∧ ∀ j e, r[j]? = some e → innG e (i + j) 0 L = true
  | [], i, p => by simp [rrG, okG]
  | e :: r, i, p => by
    unfold rrG okG
    simp only [Bool.and_eq_true, rrG_iff L r (i + 1), cmp_eq]
    constructor
    · rintro ⟨⟨h1, h2⟩, h3, h4⟩
      refine ⟨⟨h1, h3⟩, fun j x hj => ?_⟩
      cases j with
      | zero =>
        simp only [List.getElem?_cons_zero, Option.some.injEq] at hj
        subst hj
        exact h2
      | succ j =>
        have := h4 j x (by simpa using hj)
        rw [show i + (j + 1) = i + 1 + j by omega]
        exact this
    · rintro ⟨⟨h1, h3⟩, h⟩
      refine ⟨⟨h1, by have := h 0 e (by simp); simpa using this⟩, h3, fun j x hj => ?_⟩
      have := h (j + 1) x (by simpa using hj)
      rw [show i + (j + 1) = i + 1 + j by omega] at this
      exact this
theorem srcG_iff : ∀ (l : List En) (S : List (List UInt8)), srcG S l = true ↔ (∀ e ∈ l, e.op = 5 → e.src ∉ S) ∧ l.Pairwise fun a b => a.op = 5 → b.op = 5 → a.src ≠ b.src
  | [], S => by simp [srcG]
  | e :: r, S => by
    unfold srcG
    by_cases h5 : e.op = 5
    · rw [if_pos h5]
      by_cases hm : e.src ∈ S
      · rw [if_pos hm]
        refine ⟨fun h => by simp at h, fun h => absurd hm (h.1 e (by simp) h5)⟩
      · rw [if_neg hm, srcG_iff r (e.src :: S), List.pairwise_cons]
        constructor
        · rintro ⟨h1, h2⟩
          refine ⟨fun x hx hx5 => ?_, fun x hx _ hx5 he => h1 x hx hx5 (by simp [he]), h2⟩
          rcases List.mem_cons.1 hx with rfl | hx
          · exact hm
          · exact fun h => h1 x hx hx5 (List.mem_cons_of_mem _ h)
        · rintro ⟨h1, h2, h3⟩
          refine ⟨fun x hx hx5 h => ?_, h3⟩
          rcases List.mem_cons.1 h with h | h
          · exact h2 x hx h5 hx5 h.symm
          · exact h1 x (List.mem_cons_of_mem _ hx) hx5 h
    · rw [if_neg h5, srcG_iff r S, List.pairwise_cons]
      constructor
      · rintro ⟨h1, h2⟩
        refine ⟨fun x hx hx5 => ?_, fun x hx h => absurd h h5, h2⟩
        rcases List.mem_cons.1 hx with rfl | hx
        · exact absurd hx5 h5
        · exact h1 x hx hx5
      · rintro ⟨h1, _, h3⟩
        exact ⟨fun x hx => h1 x (List.mem_cons_of_mem _ hx), h3⟩
theorem badB_iff (e d : En) (i k : Nat) : badB e d i k = false ↔ (e.op = 5 → d.path ≠ e.src ∧ (k ≠ i → d.op = 5 → d.src ≠ e.src)) := by
  unfold badB
  by_cases h1 : e.op = 5 <;> by_cases h2 : d.path = e.src <;> by_cases h3 : k = i <;> by_cases h4 : d.op = 5 <;> by_cases h5 : d.src = e.src <;> simp [h1, h2, h3, h4, h5]
/-- The document's 'right' is the program's. -/
theorem right_eq (l : List En) : rightR l = rightE l := by
  rw [Bool.eq_iff_iff]
  unfold rightR rightE
  rw [rrG_iff, Bool.and_eq_true, srcG_iff]
  refine and_congr_right fun _ => ?_
  simp only [Nat.zero_add, innG_iff, badB_iff]
  constructor
  · intro h
    refine ⟨fun e he h5 hm => ?_, ?_⟩
    · obtain ⟨i, hi⟩ := List.getElem?_of_mem he
      obtain ⟨d, hd, hp⟩ := List.mem_map.1 hm
      obtain ⟨k, hk⟩ := List.getElem?_of_mem hd
      exact (h i e hi k d hk h5).1 hp
    · rw [List.pairwise_iff_getElem]
      intro i j hi hj hij h5 h5' he
      have := (h i l[i] (List.getElem?_eq_getElem hi) j l[j] (List.getElem?_eq_getElem hj) h5).2 (by omega) h5'
      exact this he.symm
  · rintro ⟨h1, h2⟩ i e hi k d hk h5
    obtain ⟨hi', rfl⟩ := List.getElem?_eq_some_iff.1 hi
    obtain ⟨hk', rfl⟩ := List.getElem?_eq_some_iff.1 hk
    refine ⟨fun hp => h1 l[i] (List.getElem_mem hi') h5 (List.mem_map.2 ⟨l[k], List.getElem_mem hk', hp⟩), fun hne h5' he => ?_⟩
    rw [List.pairwise_iff_getElem] at h2
    rcases Nat.lt_or_gt_of_ne hne with h | h
    · exact h2 k i hk' hi' h h5' h5 he
    · exact h2 i k hi' hk' h h5 h5' he.symm

theorem num2_len (t : List UInt8) (c : UInt8) : ∀ (u : List UInt8) (i n : Nat), (num2F t c u i n).2.1.length ≤ u.length
  | [], i, n => by simp [num2F]
  | x :: r, i, n => by
    have := num2_len t c r (i + 1) (10 * n + (x.toNat - 48))
    unfold num2F
    repeat' split
    all_goals simp
    all_goals omega
theorem num2_pos (t : List UInt8) (c : UInt8) : ∀ (u : List UInt8) (i n : Nat), 0 ≤ (num2F t c u i n).1
  | [], i, n => by simp [num2F]
  | x :: r, i, n => by
    have := num2_pos t c r (i + 1) (10 * n + (x.toNat - 48))
    unfold num2F
    repeat' split
    all_goals simp
    all_goals omega
abbrev n2F (t : List UInt8) (c : UInt8) : Int × List UInt8 × Bool := num2F t c t 0 0
def take2F (t : List UInt8) : List UInt8 × List UInt8 × Bool :=
  if (n2F t 58).2.2 = true ∧ (n2F t 58).1 ≤ (n2F t 58).2.1.length then ((n2F t 58).2.1.take (n2F t 58).1.toNat, (n2F t 58).2.1.drop (n2F t 58).1.toNat, true) else ([], [], false)
theorem take2_len (t : List UInt8) : (take2F t).1.length ≤ t.length ∧ (take2F t).2.1.length ≤ t.length := by
  have := num2_len t 58 t 0 0
  unfold take2F n2F
  split
  · simp only [List.length_take, List.length_drop]
    omega
  · simp
theorem take2_den (t : List UInt8) : Den Sy 60 [.str t] = some (.tup [.str (take2F t).1, .str (take2F t).2.1, .bool (take2F t).2.2]) := by
  rw [Den_fun Sy (af := A60) rfl rfl _ rfl]
  have hn := number2_den 58 t
  have hp := num2_pos t 58 t 0 0
  have h58 : ((58 : UInt8).toNat : Int) = 58 := rfl
  rw [h58] at hn
  unfold take2F n2F
  generalize num2F t 58 t 0 0 = N at *
  obtain ⟨n, r, b⟩ := N
  simp only at hn hp ⊢
  by_cases hb : b = true
  · subst hb
    by_cases hle : n ≤ r.length
    · have hlt : ¬ (r.length : Int) < n := by omega
      simp [A60, hn, hle, hlt, hp]
    · have hlt : (r.length : Int) < n := by omega
      simp [A60, hn, hle, hlt]
  · have hb' : b = false := by simpa using hb
    subst hb'
    simp [A60, hn]
/-- The entry with which bytes begin, by the document. -/
def ent2F (t : List UInt8) : Option (En × List UInt8) :=
  let a := n2F t 59
  let b := take2F a.2.1
  let c := take2F b.2.1
  let d := n2F c.2.1 59
  let e := n2F d.2.1 59
  let f := take2F e.2.1
  let g := n2F f.2.1 59
  let h := take2F g.2.1
  if (a.2.2 && b.2.2 && c.2.2 && d.2.2 && e.2.2 && f.2.2 && g.2.2 && h.2.2) = true then (decF h.1).map fun s => (⟨a.1, b.1, c.1, d.1, e.1, f.1, g.1, s⟩, h.2.1) else none
def ent2A : Option (En × List UInt8) → AV
  | some (e, r) => .tup [nA e, .str r, .bool true]
  | none => .tup [nA zN, .str [], .bool false]
set_option maxHeartbeats 2000000 in
theorem entry2_den (t : List UInt8) (ht : t.length < 500000000) : Den Sy 38 [.str t] = some (ent2A (ent2F t)) := by
  rw [Den_fun Sy (af := A38) rfl rfl _ rfl]
  have h59 : ((59 : UInt8).toNat : Int) = 59 := rfl
  have l1 := num2_len t 59 t 0 0
  have d1 := number2_den 59 t
  have l2 := take2_len (n2F t 59).2.1
  have d2 := take2_den (n2F t 59).2.1
  unfold ent2F
  simp only
  rw [h59] at d1
  unfold n2F at l2 d2 ⊢
  generalize num2F t 59 t 0 0 = a at *
  obtain ⟨a1, a2, a3⟩ := a
  simp only at l1 d1 l2 d2 ⊢
  generalize take2F a2 = b at *
  obtain ⟨b1, b2, b3⟩ := b
  simp only at l2 d2 ⊢
  have l3 := take2_len b2
  have d3 := take2_den b2
  generalize take2F b2 = c at *
  obtain ⟨c1, c2, c3⟩ := c
  simp only at l3 d3 ⊢
  have l4 := num2_len c2 59 c2 0 0
  have d4 := number2_den 59 c2
  rw [h59] at d4
  generalize num2F c2 59 c2 0 0 = d at *
  obtain ⟨k1, k2, k3⟩ := d
  simp only at l4 d4 ⊢
  have l5 := num2_len k2 59 k2 0 0
  have d5 := number2_den 59 k2
  rw [h59] at d5
  generalize num2F k2 59 k2 0 0 = e at *
  obtain ⟨e1, e2, e3⟩ := e
  simp only at l5 d5 ⊢
  have l6 := take2_len e2
  have d6 := take2_den e2
  generalize take2F e2 = f at *
  obtain ⟨f1, f2, f3⟩ := f
  simp only at l6 d6 ⊢
  have l7 := num2_len f2 59 f2 0 0
  have d7 := number2_den 59 f2
  rw [h59] at d7
  generalize num2F f2 59 f2 0 0 = g at *
  obtain ⟨g1, g2, g3⟩ := g
  simp only at l7 d7 ⊢
  have l8 := take2_len g2
  have d8 := take2_den g2
  generalize take2F g2 = h at *
  obtain ⟨h1, h2, h3⟩ := h
  simp only at l8 d8 ⊢
  have d9 := decode2_den h1 (by omega)
  obtain ⟨z, y, d9'⟩ : ∃ z y, Den Sy 61 [.str h1] = some (.tup [sE z, .int .i64 y]) := by
    cases hs : decF h1 with
    | none => rw [hs] at d9; exact ⟨_, _, d9⟩
    | some s => rw [hs] at d9; exact ⟨_, _, d9⟩
  cases a3 with
  | false => simp [A38, d1, d2, d3, d4, d5, d6, d7, d8, d9', ent2A, nA, zN]
  | true =>
    cases b3 with
    | false => simp [A38, d1, d2, d3, d4, d5, d6, d7, d8, d9', ent2A, nA, zN]
    | true =>
      cases c3 with
      | false => simp [A38, d1, d2, d3, d4, d5, d6, d7, d8, d9', ent2A, nA, zN]
      | true =>
        cases k3 with
        | false => simp [A38, d1, d2, d3, d4, d5, d6, d7, d8, d9', ent2A, nA, zN]
        | true =>
          cases e3 with
          | false => simp [A38, d1, d2, d3, d4, d5, d6, d7, d8, d9', ent2A, nA, zN]
          | true =>
            cases f3 with
            | false => simp [A38, d1, d2, d3, d4, d5, d6, d7, d8, d9', ent2A, nA, zN]
            | true =>
              cases g3 with
              | false => simp [A38, d1, d2, d3, d4, d5, d6, d7, d8, d9', ent2A, nA, zN]
              | true =>
                cases h3 with
                | false => simp [A38, d1, d2, d3, d4, d5, d6, d7, d8, d9', ent2A, nA, zN]
                | true =>
                  cases hs : decF h1 with
                  | none =>
                    rw [hs] at d9
                    simp only at d9
                    simp [A38, d1, d2, d3, d4, d5, d6, d7, d8, d9, ent2A, nA, zN]
                  | some s =>
                    rw [hs] at d9
                    simp only at d9
                    simp [A38, d1, d2, d3, d4, d5, d6, d7, d8, d9, ent2A, nA, zN]
def ents2G : Nat → List UInt8 → Option (List En)
  | _, [] => some []
  | 0, _ :: _ => none
  | k + 1, c :: t => match ent2F (c :: t) with
    | some (e, r) => (ents2G k r).map (e :: ·)
    | none => none

theorem z104b {n : Nat} (h : n ≤ 1000000001) : n * 104 ≤ 140737488355328 := by omega
def DecT (out : List En) (ex : Ex) (st' : St) : Option (List En) → Prop
  | some L => ex = .exit 0 ∧ ∃ bx' pm' p', st' = ⟨ofL [(4, .sl 8 ((out ++ L).map nA) p'), (5, .str []), (12, .bool false)], bx', pm', none⟩
  | none => ex = .ret ∧ st'.df = none ∧ st'.env 2 = some (.sl 8 [] .nil) ∧ st'.env 3 = some (.int .i64 11)
theorem DecT.step {out : List En} {ex : Ex} {st' : St} {e : En} {o : Option (List En)} (h : DecT (out ++ [e]) ex st' o) : DecT out ex st' (o.map (e :: ·)) := by
  cases o with
  | none => exact h
  | some L =>
    obtain ⟨h1, bx', pm', p', h2⟩ := h
    exact ⟨h1, bx', pm', p', by simpa using h2⟩
set_option maxHeartbeats 1000000 in
theorem ents2_loop : ∀ (k : Nat) (t : List UInt8) (out : List En) (O : List AV) (p : Perm) (bx : Bx) (pm : Pm), t.length ≤ k → k < 500000000 → O = out.map nA → AppAt 24 pm p → out.length + k ≤ 1000000000 → (∀ t' e r, ent2F t' = some (e, r) → r.length < t'.length) →
    Res (RunD Sy (.loop L18x0) ⟨ofL [(4, .sl 8 O p), (5, .str t)], bx, pm, none⟩) fun ex st' => DecT out ex st' (ents2G k t)
  | k, [], out, O, p, bx, pm, ht, hk, hO, hp, ho, hq => by
    subst hO
    have e : ents2G k [] = some [] := by cases k <;> rfl
    rw [e]
    refine loop_step fun K hK => ?_
    simp [L18x0]
    exact ⟨rfl, bx, pm, p, by simp⟩
  | 0, c :: r, out, O, p, bx, pm, ht, hk, hO, hp, ho, hq => by simp at ht
  | k + 1, c :: t, out, O, p, bx, pm, ht, hk, hO, hp, ho, hq => by
    subst hO
    have he := entry2_den (c :: t) (by omega)
    have hsz : (out.length + 1) * 104 ≤ 140737488355328 := z104b (by simp at ht; omega)
    unfold ents2G
    cases hx : ent2F (c :: t) with
    | none =>
      rw [hx] at he
      simp only [ent2A, nA, zN, eC] at he
      refine loop_step fun K hK => ?_
      simp [L18x0, he]
      exact ⟨rfl, rfl, by simp, by simp⟩
    | some q =>
      obtain ⟨e, r⟩ := q
      have hr := hq _ _ _ hx
      rw [hx] at he
      simp only [ent2A, nA, eC] at he
      refine loop_step fun K hK => ?_
      have hnx := fun O hO p bx pm hp => ents2_loop k r (out ++ [e]) O p bx pm (by simp at ht hr; omega) (by omega) hO hp (by simp; omega) hq
      rcases hp with rfl | ⟨v, rfl, hpm⟩
      · simp [L18x0, he, hsz]
        rw [hK]
        refine Res.eqv (fun ex st h => DecT.step h) (hnx (out.map nA ++ [.agg (eC e)]) ?_ (.tok 24 (nextP pm 24)) _ _ ?_)
        · simp [nA]
        · exact .inr ⟨_, rfl, by simp⟩
      · simp [L18x0, he, hsz, hpm]
        rw [hK]
        refine Res.eqv (fun ex st h => DecT.step h) (hnx (out.map nA ++ [.agg (eC e)]) ?_ (.tok 24 (v + 1)) _ _ ?_)
        · simp [nA]
        · exact .inr ⟨_, rfl, by simp⟩
theorem n2_num {c : UInt8} (hc : 57 < c.toNat) {t : List UInt8} (h : (n2F t c).2.2 = true) : numF c t = some ((n2F t c).1, (n2F t c).2.1) ∧ (n2F t c).1 < 1000000000 := (num2_iff c hc t _ _).1 (by
  unfold n2F at h ⊢
  rw [← h])
theorem take2_take {t : List UInt8} (h : (take2F t).2.2 = true) : takeF t = some ((take2F t).1, (take2F t).2.1) := by
  unfold take2F at h ⊢
  split at h
  · rename_i hc
    rw [if_pos hc]
    unfold takeF
    rw [(n2_num (by decide) hc.1).1]
    simp only
    rw [if_pos hc.2]
  · simp at h
theorem ent2_ent {t r : List UInt8} {e : En} (h : ent2F t = some (e, r)) : entF t = some (e, r) := by
  unfold ent2F at h
  simp only at h
  split at h
  · rename_i hb
    simp only [Bool.and_eq_true] at hb
    obtain ⟨⟨⟨⟨⟨⟨⟨b1, b2⟩, b3⟩, b4⟩, b5⟩, b6⟩, b7⟩, b8⟩ := hb
    obtain ⟨s, hs, hse⟩ := Option.map_eq_some_iff.1 h
    unfold entF
    rw [(n2_num (by decide) b1).1]
    simp only
    rw [take2_take b2]
    simp only
    rw [take2_take b3]
    simp only
    rw [(n2_num (by decide) b4).1]
    simp only
    rw [(n2_num (by decide) b5).1]
    simp only
    rw [take2_take b6]
    simp only
    rw [(n2_num (by decide) b7).1]
    simp only
    rw [take2_take b8]
    simp only
    rw [hs]
    simp only [hse]
  · simp at h
theorem num_n2 {c : UInt8} (hc : 57 < c.toNat) {t r : List UInt8} {m : Int} (h : numF c t = some (m, r)) (hm : m < 1000000000) : n2F t c = (m, r, true) := (num2_iff c hc t m r).2 ⟨h, hm⟩
theorem take_take2 {t s r : List UInt8} (h : takeF t = some (s, r)) (ht : t.length < 1000000000) : take2F t = (s, r, true) := by
  unfold takeF at h
  split at h
  · rename_i n u hn
    split at h
    · rename_i hle
      simp only [Option.some.injEq, Prod.mk.injEq] at h
      obtain ⟨rfl, rfl⟩ := h
      have hsp := numF_spec hn
      have := num_n2 (by decide) hn (by omega)
      unfold take2F
      rw [this]
      simp only
      rw [if_pos ⟨trivial, hle⟩]
    · simp at h
  · simp at h
theorem ent_ent2 {t r : List UInt8} {e : En} (h : entF t = some (e, r)) (hm : mayE e = true) (ht : t.length < 1000000000) : ent2F t = some (e, r) := by
  unfold entF at h
  repeat' split at h
  all_goals first | (simp at h; done) | skip
  rename_i h1 _ _ _ h2 _ _ _ h3 _ _ _ h4 _ _ _ h5 _ _ _ h6 _ _ _ h7 _ _ _ h8 _ _ h9
  simp only [Option.some.injEq, Prod.mk.injEq] at h
  obtain ⟨rfl, rfl⟩ := h
  have k1 := numF_spec h1
  have k2 := takeF_spec h2
  have k3 := takeF_spec h3
  have k4 := numF_spec h4
  have k5 := numF_spec h5
  have k6 := takeF_spec h6
  have k7 := numF_spec h7
  obtain ⟨m1, m2, m3, m4, m5, m6, m7, m8, m9⟩ := mayE_num hm
  simp only at m1 m2 m3 m4 m5 m6 m7 m8
  unfold ent2F
  simp only [num_n2 (by decide) h1 (by omega), take_take2 h2 (by omega), take_take2 h3 (by omega), num_n2 (by decide) h4 (by omega), num_n2 (by decide) h5 (by omega), take_take2 h6 (by omega), num_n2 (by decide) h7 (by omega), take_take2 h8 (by omega), h9]
  rfl
theorem ents2_ents : ∀ (k : Nat) (t : List UInt8) (l : List En), ents2G k t = some l → entsG k t = some l
  | k, [], l, h => by cases k <;> exact h
  | 0, c :: t, l, h => by simp [ents2G] at h
  | k + 1, c :: t, l, h => by
    unfold ents2G at h
    unfold entsG
    cases hx : ent2F (c :: t) with
    | none => rw [hx] at h; simp at h
    | some q =>
      obtain ⟨e, r⟩ := q
      rw [hx] at h
      simp only [Option.map_eq_some_iff] at h
      obtain ⟨L, hL, rfl⟩ := h
      rw [ent2_ent hx]
      simp only
      rw [ents2_ents k r L hL]
      rfl
theorem ents_ents2 : ∀ (k : Nat) (t : List UInt8) (l : List En), entsG k t = some l → (∀ e ∈ l, mayE e = true) → t.length < 1000000000 → ents2G k t = some l
  | k, [], l, h, _, _ => by cases k <;> exact h
  | 0, c :: t, l, h, _, _ => by simp [entsG] at h
  | k + 1, c :: t, l, h, hm, ht => by
    unfold entsG at h
    unfold ents2G
    cases hx : entF (c :: t) with
    | none => rw [hx] at h; simp at h
    | some q =>
      obtain ⟨e, r⟩ := q
      rw [hx] at h
      simp only [Option.map_eq_some_iff] at h
      obtain ⟨L, hL, rfl⟩ := h
      have hr := entF_spec hx
      rw [ent_ent2 hx (hm e (by simp)) ht]
      simp only
      rw [ents_ents2 k r L hL (fun x hx => hm x (List.mem_cons_of_mem _ hx)) (by omega)]
      rfl
theorem decR_den (t : List UInt8) (ht : t.length < 500000000) : Den Sy 18 [.str t] = some (decA (entsF t)) := by
  rw [Den_fun Sy (af := A18) rfl rfl _ rfl]
  obtain ⟨ex, st', hL, hR⟩ := ents2_loop t.length t [] [] .nil (ofL []) none' (Nat.le_refl _) ht rfl (.inl rfl) (by simp; omega) (fun t' e r h => entF_spec (ent2_ent h))
  cases hx : ents2G t.length t with
  | none =>
    rw [hx] at hR
    obtain ⟨rfl, hdf, h2, h3⟩ := hR
    have hnone : entsF t = none := by
      unfold entsF
      cases hy : entsG t.length t with
      | none => rfl
      | some l =>
        simp only
        by_cases hr : rightE l = true
        · have := ents_ents2 _ _ _ hy (rightE_may hr) (by omega)
          rw [hx] at this
          simp at this
        · rw [if_neg hr]
    rw [hnone]
    simp [A18, hL, hdf, h2, h3, decA]
  | some l =>
    rw [hx] at hR
    obtain ⟨rfl, bx', pm', p', rfl⟩ := hR
    have hy := ents2_ents _ _ _ hx
    unfold entsF
    rw [hy]
    have hb := entsG_eq _ _ _ hy
    obtain ⟨hll, hok⟩ := enc_ok hb (by omega)
    have hrd := rightR_den l (by omega) hok
    rw [right_eq] at hrd
    by_cases hr : rightE l = true
    · simp [A18, hL, hrd, hr, decA]
    · simp [A18, hL, hrd, hr, decA]

abbrev six' (f : Int → Nat) : List AV := [.int .i64 (f 0), .int .i64 (f 1), .int .i64 (f 2), .int .i64 (f 3), .int .i64 (f 4), .int .i64 (f 5)]
set_option maxHeartbeats 2000000 in
theorem cntR_inner (l : List En) (i : Nat) (e : En) (hlt : (i : Int) < l.length) (hi : (l.map nA)[i]? = some (nA e)) (f : Int → Nat) (hf : ∀ k, f k ≤ 1099511627776) (v2 v3 : Nat) (z : List AV) (bx : Bx) (pm : Pm) (h2 : bx 2 = some (v2, z)) (h3 : bx 3 = some (v3, six' f)) :
    Res (RunD Sy (.loop L15x0) ⟨ofL [(0, sN l), (2, .ptr 2 v2 0), (3, .ptr 3 v3 0), (4, .int .i64 i), (5, .int .i64 0)], bx, pm, none⟩) fun ex st' => ex = .exit 2 ∧ st'.env = ofL [(0, sN l), (2, .ptr 2 v2 0), (3, .ptr 3 v3 0), (4, .int .i64 i), (5, .int .i64 6), (13, .bool false)] ∧ st'.df = none ∧ st'.bx 2 = some (v2, z) ∧ st'.bx 3 = some (v3, six' fun k => f k + if e.op = k then 1 else 0) := by
  have hq := fun k => chk_i64 ((f k : Int) + 1) (by have := hf k; omega)
  have n1 := chk_i64 1 (by omega)
  have n2 := chk_i64 2 (by omega)
  have n3 := chk_i64 3 (by omega)
  have n4 := chk_i64 4 (by omega)
  have n5 := chk_i64 5 (by omega)
  have n6 := chk_i64 6 (by omega)
  simp only [nA, eC] at hi
  have hca : e.op = 0 ∨ e.op = 1 ∨ e.op = 2 ∨ e.op = 3 ∨ e.op = 4 ∨ e.op = 5 ∨ (e.op ≠ 0 ∧ e.op ≠ 1 ∧ e.op ≠ 2 ∧ e.op ≠ 3 ∧ e.op ≠ 4 ∧ e.op ≠ 5) := by omega
  rcases hca with h | h | h | h | h | h | ⟨k0, k1, k2, k3, k4, k5⟩
  iterate 6
   · simp only [h] at hi ⊢
     refine loop_step fun K hK => ?_
     simp [L15x0, -getElem?_pos, -List.getElem?_map, hi, hlt, h2, h3, hq, n1, n2, n3, n4, n5, n6]
     rw [hK]
     refine loop_step fun K hK => ?_
     simp [L15x0, -getElem?_pos, -List.getElem?_map, hi, hlt, h2, h3, hq, n1, n2, n3, n4, n5, n6]
     rw [hK]
     refine loop_step fun K hK => ?_
     simp [L15x0, -getElem?_pos, -List.getElem?_map, hi, hlt, h2, h3, hq, n1, n2, n3, n4, n5, n6]
     rw [hK]
     refine loop_step fun K hK => ?_
     simp [L15x0, -getElem?_pos, -List.getElem?_map, hi, hlt, h2, h3, hq, n1, n2, n3, n4, n5, n6]
     rw [hK]
     refine loop_step fun K hK => ?_
     simp [L15x0, -getElem?_pos, -List.getElem?_map, hi, hlt, h2, h3, hq, n1, n2, n3, n4, n5, n6]
     rw [hK]
     refine loop_step fun K hK => ?_
     simp [L15x0, -getElem?_pos, -List.getElem?_map, hi, hlt, h2, h3, hq, n1, n2, n3, n4, n5, n6]
     rw [hK]
     refine loop_step fun K hK => ?_
     simp [L15x0, -getElem?_pos, -List.getElem?_map, hi, hlt, h2, h3, hq, n1, n2, n3, n4, n5, n6]
  · refine loop_step fun K hK => ?_
    simp [L15x0, -getElem?_pos, -List.getElem?_map, hi, hlt, h2, h3, n1, n2, n3, n4, n5, n6, k0, k1, k2, k3, k4, k5]
    rw [hK]
    refine loop_step fun K hK => ?_
    simp [L15x0, -getElem?_pos, -List.getElem?_map, hi, hlt, h2, h3, n1, n2, n3, n4, n5, n6, k0, k1, k2, k3, k4, k5]
    rw [hK]
    refine loop_step fun K hK => ?_
    simp [L15x0, -getElem?_pos, -List.getElem?_map, hi, hlt, h2, h3, n1, n2, n3, n4, n5, n6, k0, k1, k2, k3, k4, k5]
    rw [hK]
    refine loop_step fun K hK => ?_
    simp [L15x0, -getElem?_pos, -List.getElem?_map, hi, hlt, h2, h3, n1, n2, n3, n4, n5, n6, k0, k1, k2, k3, k4, k5]
    rw [hK]
    refine loop_step fun K hK => ?_
    simp [L15x0, -getElem?_pos, -List.getElem?_map, hi, hlt, h2, h3, n1, n2, n3, n4, n5, n6, k0, k1, k2, k3, k4, k5]
    rw [hK]
    refine loop_step fun K hK => ?_
    simp [L15x0, -getElem?_pos, -List.getElem?_map, hi, hlt, h2, h3, n1, n2, n3, n4, n5, n6, k0, k1, k2, k3, k4, k5]
    rw [hK]
    refine loop_step fun K hK => ?_
    simp [L15x0, -getElem?_pos, -List.getElem?_map, hi, hlt, h2, h3, n1, n2, n3, n4, n5, n6, k0, k1, k2, k3, k4, k5]
theorem cntR_loop (l : List En) (hl : l.length ≤ 1099511627776) (v2 v3 : Nat) : ∀ (rest pre : List En) (i : Int) (bx : Bx) (pm : Pm), l = pre ++ rest → i = pre.length → bx 2 = some (v2, six' fun _ => 0) → bx 3 = some (v3, six' (cntK pre)) →
    Res (RunD Sy (.loop L15x1) ⟨ofL [(0, sN l), (2, .ptr 2 v2 0), (3, .ptr 3 v3 0), (4, .int .i64 i)], bx, pm, none⟩) fun ex st' => ex = .exit 0 ∧ st'.df = none ∧ st'.env 2 = some (.ptr 2 v2 0) ∧ st'.env 3 = some (.ptr 3 v3 0) ∧ st'.bx 2 = some (v2, six' fun _ => 0) ∧ st'.bx 3 = some (v3, six' (cntK l))
  | [], pre, i, bx, pm, h, hi, h2, h3 => by
    subst hi
    rw [List.append_nil] at h
    subst h
    refine loop_step fun K hK => ?_
    simp [L15x1, h2, h3]
  | e :: rest, pre, i, bx, pm, h, hi, h2, h3 => by
    subst hi
    have hlt : (pre.length : Int) < l.length := by rw [h]; simp; omega
    have hg : (l.map nA)[pre.length]? = some (nA e) := by rw [h]; simp
    have hc := chk_i64 ((pre.length : Int) + 1) (by omega)
    have hck : ∀ k, cntK pre k ≤ 1099511627776 := fun k => by
      have := cntK_le pre k
      omega
    have hin := cntR_inner l pre.length e hlt hg (cntK pre) hck v2 v3 (six' fun _ => 0) bx pm h2 h3
    have hsn : (fun k => cntK pre k + if e.op = k then 1 else 0) = cntK (pre ++ [e]) := by funext k; rw [cntK_snoc]
    rw [hsn] at hin
    obtain ⟨ex, st', hL, rfl, he, hd, hb2, hb3⟩ := hin
    obtain ⟨env', bx', pm', df'⟩ := st'
    simp only at he hd hb2 hb3
    subst he hd
    have hnx := cntR_loop l hl v2 v3 rest (pre ++ [e]) ((pre.length : Int) + 1) bx' pm' (by simp [h]) (by simp) hb2 hb3
    refine loop_step fun K hK => ?_
    simp [L15x1, -getElem?_pos, -List.getElem?_map, hlt, hc, hL]
    rw [hK]
    exact hnx
theorem cntR_den (l : List En) (hl : l.length ≤ 1099511627776) : Den Sy 15 [sN l] = some (.agg (cnt6 l)) := by
  rw [Den_fun Sy (af := A15) rfl rfl _ rfl]
  have hlp := fun v2 v3 bx pm h2 h3 => cntR_loop l hl v2 v3 l [] 0 bx pm rfl rfl h2 h3
  simp [A15]
  generalize hX : RunD Sy (.loop L15x1) _ = X
  obtain ⟨ex, st', rfl, rfl, hd, e2, e3, b2, b3⟩ := Res.at hX (hlp _ _ _ _ (by simp) (by simp [cntK]))
  simp [hd, e2, e3, b2, b3]

/-- How many lines a script has. -/
def lsum (s : List Edit) : Nat := (s.map fun e => e.ls.length).sum
theorem lsum_with (s : List Edit) (op : Int) (ls : List (List UInt8)) : lsum (withE s op ls) = lsum s + ls.length := by
  rcases nil_or_snoc s with rfl | ⟨s, e, rfl⟩
  · simp [withE_nil, lsum]
  · rw [withE_snoc]
    split <;> simp [lsum] <;> omega
theorem lsum_diff : ∀ (n : Nat) (a b : List (List UInt8)) (out : List Edit), a.length + b.length ≤ n → lsum (diffG out a b) ≤ lsum out + b.length
  | n, [], [], out, _ => by rw [diffG_nn]; simp
  | 0, [], y :: b, out, hn => by simp at hn
  | 0, x :: a, b, out, hn => by simp at hn
  | n + 1, [], y :: b, out, hn => by
    rw [diffG_nc]
    have := lsum_diff n [] b (withE out 3 [y]) (by simp at hn ⊢; omega)
    rw [lsum_with] at this
    simp only [List.length_cons, List.length_nil] at this ⊢
    omega
  | n + 1, x :: a, [], out, hn => by
    rw [diffG_cn]
    have := lsum_diff n a [] (withE out 2 []) (by simp at hn ⊢; omega)
    rw [lsum_with] at this
    simp only [List.length_nil] at this ⊢
    omega
  | n + 1, x :: a, y :: b, out, hn => by
    rw [diffG_cc]
    simp only [List.length_cons] at hn
    split
    · have := lsum_diff n a b (withE out 1 []) (by omega)
      rw [lsum_with] at this
      simp only [List.length_cons, List.length_nil] at this ⊢
      omega
    · split
      · have := lsum_diff n a (y :: b) (withE out 2 []) (by simp; omega)
        rw [lsum_with] at this
        simp only [List.length_cons, List.length_nil] at this ⊢
        omega
      · have := lsum_diff n (x :: a) b (withE out 3 [y]) (by simp; omega)
        rw [lsum_with] at this
        simp only [List.length_cons, List.length_nil] at this ⊢
        omega
theorem lsum_script (x y : It) (hy : y.data.length ≤ 60) : lsum (scriptI x y) ≤ 60 := by
  have h1 := lsum_diff _ (linesS x.data) (linesS y.data) [] (Nat.le_refl _)
  have h2 := linesS_len y.data
  have h3 : lsum [] = 0 := rfl
  unfold scriptI diffF
  omega
theorem rowF_ls {a b : List It} {l : List Pr} {p : List UInt8} {e : En} (hb : SmT b) (h : rowF a b l p = some e) : lsum e.script ≤ 60 := by
  have hn : lsum [] ≤ 60 := by simp [lsum]
  unfold rowF at h
  split at h
  · simp only [Option.some.injEq] at h
    subst h
    exact lsum_script _ _ (fD_smT hb _)
  · simp at h
  · split at h
    · simp only [Option.some.injEq] at h
      subst h
      exact hn
    · split at h
      · simp only [Option.some.injEq] at h
        subst h
        exact hn
      · unfold bothE at h
        split at h
        · simp only [Option.some.injEq] at h
          subst h
          exact hn
        · split at h
          · simp only [Option.some.injEq] at h
            subst h
            exact lsum_script _ _ (fD_smT hb _)
          · simp at h
theorem rowsG_ls {a b : List It} {l : List Pr} (hb : SmT b) : ∀ (r : List It), ∀ e ∈ rowsG a b l r, lsum e.script ≤ 60
  | [], e, he => by simp [rowsG] at he
  | x :: r, e, he => by
    unfold rowsG at he
    rcases List.mem_append.1 he with he | he
    · cases hx : rowF a b l x.path with
      | none => rw [hx] at he; simp at he
      | some d =>
        rw [hx] at he
        simp only [Option.toList_some, List.mem_singleton] at he
        subst he
        exact rowF_ls hb hx
    · exact rowsG_ls hb r e he
theorem entriesF_ls (raw more : List Raw) (out : List Int) (th : Int) : ∀ e ∈ entriesF raw more out th, lsum e.script ≤ 60 := by
  unfold entriesF compF
  split
  · simp
  · exact rowsG_ls (treeF_smT _) _
theorem encLs_b (B : Nat) : ∀ (ls : List (List UInt8)), (∀ l ∈ ls, l.length ≤ B ∧ l.length ≤ 1099511627776) → (encLs ls).length ≤ (22 + B) * ls.length
  | [], _ => by simp [encLs]
  | x :: r, h => by
    have h1 := h x (by simp)
    have h2 := encLs_b B r (fun l hl => h l (List.mem_cons_of_mem _ hl))
    have h3 := itoa_len (x.length : Int) ⟨by omega, by omega⟩
    simp only [encLs, List.flatMap_cons, encLine, List.length_append, List.length_cons, List.length_nil, Nat.mul_add, Nat.mul_one] at h2 ⊢
    omega
theorem encE_b {e : Edit} (hn : inR e.n) (hl : ∀ l ∈ e.ls, l.length ≤ 60) : (encE e).length ≤ 23 + 82 * e.ls.length := by
  have h3 := encLs_b 60 e.ls (fun l h => ⟨hl l h, by have := hl l h; omega⟩)
  have h4 := itoa_len e.n hn
  have h5 : (sgn e.op).length ≤ 1 := by unfold sgn; repeat' split
                                        all_goals simp
  simp only [encE, encHead, List.length_append, List.length_cons, List.length_nil]
  omega
theorem encL_b : ∀ (s : List Edit), (∀ e ∈ s, inR e.n ∧ ∀ l ∈ e.ls, l.length ≤ 60) → (encL s).length ≤ 23 * s.length + 82 * lsum s
  | [], _ => by simp [encL, lsum]
  | e :: r, h => by
    have h1 := encE_b (h e (by simp)).1 (h e (by simp)).2
    have h2 := encL_b r (fun x hx => h x (List.mem_cons_of_mem _ hx))
    simp only [encL, List.flatMap_cons, List.length_append, List.length_cons, lsum, List.map_cons, List.sum_cons] at h2 ⊢
    omega
theorem script_b {s : List Edit} (h : SmS s) (hl : lsum s ≤ 60) : (encL s).length ≤ 7680 := by
  have h1 := encL_b s (fun e he => ⟨by have := (h.1.2 e he); exact ⟨by omega, by omega⟩, h.2 e he⟩)
  have := h.1.1
  omega
/-- What is known of entries whose bytes are not too many. -/
structure Bnd (e : En) : Prop where
  n : inR e.op ∧ inR e.old ∧ inR e.new ∧ inR e.score
  p : e.path.length ≤ 2097152
  s : e.src.length ≤ 2097152
  d : e.data.length ≤ 2097152
  k : e.script.length ≤ 2097152
  b : (encL e.script).length ≤ 536870912
theorem Bnd.ok {e : En} (h : Bnd e) : e.ok := ⟨by have := h.p; omega, by have := h.k; omega⟩
theorem encN_b {e : En} (n : inR e.op ∧ inR e.old ∧ inR e.new ∧ inR e.score) (p : e.path.length ≤ 1099511627776) (s : e.src.length ≤ 1099511627776) (d : e.data.length ≤ 1099511627776) (b : (encL e.script).length ≤ 1099511627776) : (encN e).length ≤ 176 + e.path.length + e.src.length + e.data.length + (encL e.script).length := by
  have k1 := numN_len e.op n.1
  have k2 := txtN_len e.path p
  have k3 := txtN_len e.src s
  have k4 := numN_len e.old n.2.1
  have k5 := numN_len e.new n.2.2.1
  have k6 := txtN_len e.data d
  have k7 := numN_len e.score n.2.2.2
  have k8 := txtN_len (encL e.script) b
  simp only [encN, List.length_append]
  omega
theorem encNL_b (B : Nat) : ∀ (l : List En), (∀ e ∈ l, (encN e).length ≤ B) → (encNL l).length ≤ B * l.length
  | [], _ => by simp [encNL]
  | e :: r, h => by
    have h1 := h e (by simp)
    have h2 := encNL_b B r (fun x hx => h x (List.mem_cons_of_mem _ hx))
    simp only [encNL, List.flatMap_cons, List.length_append, List.length_cons, Nat.mul_add, Nat.mul_one] at h2 ⊢
    omega
theorem Bnd.len {l : List En} (h : ∀ e ∈ l, Bnd e) (hl : l.length ≤ 450) : (encNL l).length ≤ 1099511627776 := by
  have := encNL_b 600000000 l (fun e he => by
    have hb := h e he
    have := encN_b hb.n (by have := hb.p; omega) (by have := hb.s; omega) (by have := hb.d; omega) (by have := hb.b; omega)
    have := hb.p
    have := hb.s
    have := hb.d
    have := hb.b
    omega)
  omega
theorem may_n {e : En} (h : mayE e = true) : inR e.op ∧ inR e.old ∧ inR e.new ∧ inR e.score := by
  obtain ⟨m1, m2, m3, m4, m5, m6, m7, m8, _⟩ := mayE_num h
  exact ⟨⟨by omega, by omega⟩, ⟨by omega, by omega⟩, ⟨by omega, by omega⟩, ⟨by omega, by omega⟩⟩
theorem enc_tiny {l : List En} (h : l.length ≤ 448 ∧ ∀ e ∈ l, SmE e) (hm : ∀ e ∈ l, mayE e = true) (hs : ∀ e ∈ l, lsum e.script ≤ 60) : (encNL l).length ≤ 6000000 := by
  have := encNL_b 12000 l (fun e he => by
    obtain ⟨h1, h2, h3, h4⟩ := h.2 e he
    have hb := script_b h4 (hs e he)
    have := encN_b (may_n (hm e he)) (by omega) (by omega) (by omega) (by omega)
    omega)
  have := h.1
  omega
theorem bd_small {e : En} (h : SmE e) (hm : mayE e = true) (hs : lsum e.script ≤ 60) : Bnd e := by
  obtain ⟨h1, h2, h3, h4⟩ := h
  have hb := script_b h4 hs
  have := h4.1.1
  exact ⟨may_n hm, by omega, by omega, by omega, by omega, by omega⟩
theorem pickF_in (c : Int) {n : Int} (hn : 0 < n) (h : n ≤ 1000) : inR (pickF c n) := by
  have := pickF_lt c hn
  exact ⟨by omega, by omega⟩
theorem bd_turn {e : En} (h : SmE e) (hm : mayE e = true) (hs : lsum e.script ≤ 60) (c which : Int) (s : List Edit) (hk : s.length ≤ 2097152) (hb : (encL s).length ≤ 536870912) : Bnd (turnE e c which s) := by
  have hB := bd_small h hm hs
  obtain ⟨h1, h2, h3, h4⟩ := h
  obtain ⟨⟨n1, n2, n3, n4⟩, b2, b3, b4, b5, b6⟩ := hB
  unfold turnE
  repeat' split
  · exact ⟨⟨pickF_in _ (by omega) (by omega), n2, n3, n4⟩, b2, b3, b4, b5, b6⟩
  · exact ⟨⟨n1, n2, n3, n4⟩, by simp; omega, b3, b4, b5, b6⟩
  · exact ⟨⟨n1, n2, n3, n4⟩, b2, by simp, b4, b5, b6⟩
  · exact ⟨⟨n1, pickF_in _ (by omega) (by omega), n3, n4⟩, b2, b3, b4, b5, b6⟩
  · exact ⟨⟨n1, n2, pickF_in _ (by omega) (by omega), n4⟩, b2, b3, b4, b5, b6⟩
  · exact ⟨⟨n1, n2, n3, n4⟩, b2, b3, by simp, b5, b6⟩
  · exact ⟨⟨n1, n2, n3, pickF_in _ (by omega) (by omega)⟩, b2, b3, b4, b5, b6⟩
  · exact ⟨⟨n1, n2, n3, n4⟩, b2, b3, b4, hk, hb⟩
  · exact ⟨⟨n1, n2, n3, n4⟩, b2, b3, b4, b5, b6⟩
/-- The script of raw numbers. -/
theorem scriptG_mem : ∀ (k : Nat) (r : List Int) (last : Int), ∀ e ∈ scriptG k r last, ∃ c r', e = mkE c r'
  | 0, r, last, e, he => by simp [scriptG] at he
  | k + 1, [], last, e, he => by simp [scriptG] at he
  | k + 1, c :: r, last, e, he => by
    unfold scriptG at he
    split at he
    · exact scriptG_mem k r last e he
    · rcases List.mem_cons.1 he with rfl | he
      · exact ⟨c, r, rfl⟩
      · exact scriptG_mem k r _ e he
theorem fullG_mem (raw : List Int) : ∀ (n i : Nat), ∀ l ∈ fullG raw i n, l.length ≤ 4
  | 0, i, l, h => by simp [fullG] at h
  | n + 1, i, l, h => by
    unfold fullG at h
    rcases List.mem_cons.1 h with rfl | h
    · exact kindF_len _
    · exact fullG_mem raw n _ l h
theorem scriptF_b (raw : List Int) : (scriptF raw).length ≤ 10 ∧ (encL (scriptF raw)).length ≤ 3510 := by
  have h1 : (scriptF raw).length ≤ 10 := scriptG_len 10 raw 0
  refine ⟨h1, ?_⟩
  have hE : ∀ e ∈ scriptF raw, (encE e).length ≤ 351 := fun e he => by
    obtain ⟨c, r, rfl⟩ := scriptG_mem 10 raw 0 e he
    have hk := pickF_lt (c.tdiv 3) (n := 4) (by omega)
    have hls : (mkE c r).ls.length ≤ 4 ∧ ∀ l ∈ (mkE c r).ls, l.length ≤ 60 := by
      unfold mkE
      simp only
      split
      · refine ⟨by rw [fullF, fullG_len]; omega, fun l hl => by have := fullG_mem _ _ _ l hl; omega⟩
      · simp
    have := encE_b (e := mkE c r) (by unfold mkE; simp only; exact ⟨by omega, by omega⟩) hls.2
    omega
  have h2 : ∀ s : List Edit, (∀ e ∈ s, (encE e).length ≤ 351) → (encL s).length ≤ 351 * s.length := by
    intro s
    induction s with
    | nil => simp [encL]
    | cons e r ih =>
      intro h
      have a := h e (by simp)
      have b := ih (fun x hx => h x (List.mem_cons_of_mem _ hx))
      simp only [encL, List.flatMap_cons, List.length_append, List.length_cons] at b ⊢
      omega
  have := h2 _ hE
  omega
end Go.Proofs.YtdjgdipmjbkilaaGreatDoor.Rx
namespace Go.Proofs.YtdjgdipmjbkilaaGreatDoor.Rx
open Go Go.RowKit Go.ChangeShapes Go.WideShapes
set_option linter.unusedSimpArgs false
set_option linter.unusedVariables false

def tEdit : RT := .st [.int .i64, .int .i64, .sl .str]
def tEnt : RT := .st [.int .i64, .str, .str, .int .i64, .int .i64, .str, .int .i64, .sl tEdit]
def Edit.well (d : Edit) : Prop := inR d.op ∧ inR d.n
def En.well (e : En) : Prop := (inR e.op ∧ inR e.old ∧ inR e.new ∧ inR e.score) ∧ ∀ d ∈ e.script, d.well
theorem ty_edit (x : AV) (h : Ty tEdit x.cells) (hg : x.isAgg = tEdit.isSt) : ∃ d, x = eE d ∧ d.well := by
  cases x with
  | agg cs =>
    simp only [AV.cells, tEdit, Ty, TyL] at h
    obtain ⟨_, _, rfl, ⟨o, rfl, ho⟩, _, _, rfl, ⟨n, rfl, hn⟩, _, _, rfl, ⟨xs, rfl, _, hx⟩, rfl⟩ := h
    obtain ⟨l, rfl, hl⟩ := ty_row AV.str (fun c => c.length ≤ maxLen) (e := .str) (fun x h1 h2 => by obtain ⟨n, rfl, hw⟩ := ty_str h1 h2; exact ⟨n, rfl, hw⟩) xs hx
    exact ⟨⟨o, n, l⟩, rfl, inR_of_wf ho, inR_of_wf hn⟩
  | _ => simp [AV.isAgg, tEdit, RT.isSt] at hg
theorem ty_ent (x : AV) (h : Ty tEnt x.cells) (hg : x.isAgg = tEnt.isSt) : ∃ e, x = nA e ∧ e.well := by
  cases x with
  | agg cs =>
    simp only [AV.cells, tEnt, Ty, TyL] at h
    obtain ⟨_, _, rfl, ⟨o, rfl, ho⟩, _, _, rfl, ⟨p, rfl, hp⟩, _, _, rfl, ⟨s, rfl, hs⟩, _, _, rfl, ⟨a, rfl, ha⟩, _, _, rfl, ⟨b, rfl, hb⟩, _, _, rfl, ⟨d, rfl, hd⟩, _, _, rfl, ⟨k, rfl, hk⟩, _, _, rfl, ⟨xs, rfl, _, hx⟩, rfl⟩ := h
    obtain ⟨l, rfl, hl⟩ := ty_row eE Edit.well ty_edit xs hx
    exact ⟨⟨o, p, s, a, b, d, k, l⟩, rfl, ⟨inR_of_wf ho, inR_of_wf ha, inR_of_wf hb, inR_of_wf hk⟩, hl⟩
  | _ => simp [AV.isAgg, tEnt, RT.isSt] at hg
theorem ty_ents {a : AV} (h : Ty (.sl tEnt) a.cells) (hg : a.isAgg = false) : ∃ l : List En, a = sN l ∧ l.length ≤ maxLen ∧ ∀ e ∈ l, e.well := ty_slice nA En.well ty_ent h hg
theorem ty_ints3 {a : AV} (h : Ty (.st [.int .i64, .int .i64, .int .i64]) a.cells) (hg : a.isAgg = true) : ∃ x y z, a = .agg [.int .i64 x, .int .i64 y, .int .i64 z] ∧ inR x ∧ inR y ∧ inR z := by
  cases a with
  | agg cs =>
    simp only [AV.cells, Ty, TyL] at h
    obtain ⟨_, _, rfl, ⟨x, rfl, hx⟩, _, _, rfl, ⟨y, rfl, hy⟩, _, _, rfl, ⟨z, rfl, hz⟩, rfl⟩ := h
    exact ⟨x, y, z, rfl, inR_of_wf hx, inR_of_wf hy, inR_of_wf hz⟩
  | _ => simp [AV.isAgg] at hg
/-! ### What has so much bulk has so many bytes, at most -/
theorem bulk_lines : ∀ ls : List (List UInt8), blkL (ls.map .str) ≤ 1048576 → (encLs ls).length ≤ 22 * blkL (ls.map .str)
  | [], _ => by simp [encLs]
  | x :: r, h => by
    simp only [List.map_cons, blkL, blk] at h ⊢
    have h2 := bulk_lines r (by omega)
    have h3 := itoa_len (x.length : Int) ⟨by omega, by omega⟩
    simp only [encLs, List.flatMap_cons, encLine, List.length_append, List.length_cons, List.length_nil] at h2 ⊢
    omega
theorem bulk_script : ∀ s : List Edit, blkL (s.map eE) ≤ 1048576 → (∀ d ∈ s, d.well) → (encL s).length ≤ 22 * blkL (s.map eE) ∧ s.length ≤ blkL (s.map eE)
  | [], _, _ => by simp [encL]
  | e :: r, h, hw => by
    simp only [List.map_cons, blkL, eE, blk] at h ⊢
    have h2 := bulk_script r (by omega) (fun d hd => hw d (List.mem_cons_of_mem _ hd))
    have h3 := bulk_lines e.ls (by omega)
    have h4 := itoa_len e.n (hw e (by simp)).2
    have h5 : (sgn e.op).length ≤ 1 := by unfold sgn; repeat' split
                                          all_goals simp
    simp only [encL, encE, encHead, List.flatMap_cons, List.length_append, List.length_cons, List.length_nil] at h2 ⊢
    omega
theorem bnd_wild {e : En} (h : blk (nA e) ≤ 1048576) (hw : e.well) : Bnd e := by
  simp only [nA, blk, blkL] at h
  obtain ⟨h1, h2⟩ := bulk_script e.script (by omega) hw.2
  exact ⟨hw.1, by omega, by omega, by omega, by omega, by omega⟩
theorem bulk_mem : ∀ (l : List En), ∀ e ∈ l, blk (nA e) ≤ blkL (l.map nA)
  | [], e, h => by simp at h
  | x :: r, e, h => by
    simp only [List.map_cons, blkL]
    rcases List.mem_cons.1 h with rfl | h
    · omega
    · have := bulk_mem r e h
      omega
/-! ### The loops -/
set_option maxHeartbeats 1000000 in
theorem tells_loop1 (X : List (List En)) (hX : X.length ≤ 1000) (hx : ∀ l ∈ X, l.length ≤ 450 ∧ ∀ e ∈ l, Bnd e) (a6 a7 a8 a20 : AV) (q : Perm) (bx : Bx) (pm : Pm) : ∀ (rest pre : List (List En)) (i : Int), X = pre ++ rest → i = pre.length →
    Res (RunD Sy (.loop L3x0) ⟨ofL [(6, a6), (7, a7), (8, a8), (19, .bool true), (20, a20), (64, .sl 1 (X.map sN) q), (65, .int .i64 X.length), (66, .int .i64 i)], bx, pm, none⟩) fun ex st' => ex = .exit 0 ∧ st' = ⟨ofL [(6, a6), (7, a7), (8, a8), (19, .bool true), (20, a20), (64, .sl 1 (X.map sN) q), (65, .int .i64 X.length), (66, .int .i64 X.length), (67, .bool false)], bx, pm, none⟩
  | [], pre, i, h, hi => by
    subst hi
    rw [List.append_nil] at h
    subst h
    refine loop_step fun K hK => ?_
    simp [L3x0]
  | x :: rest, pre, i, h, hi => by
    subst hi
    have hpl : pre.length + rest.length + 1 = X.length := by rw [h]; simp; omega
    have hlt : (pre.length : Int) < X.length := by omega
    have hg : (X.map sN)[pre.length]? = some (sN x) := by rw [h]; simp
    have hc := chk_i64 ((pre.length : Int) + 1) (by omega)
    obtain ⟨h1, h2⟩ := hx x (by rw [h]; simp)
    have hb := Bnd.len h2 h1
    have e1 := encP_den x (by omega) (fun e he => (h2 e he).ok) hb
    have e2 := enc12_den x (by omega) (fun e he => (h2 e he).ok) (fun _ => hb)
    rw [right_eq] at e2
    have n1 := cntN_den x (by omega)
    have n2 := cntR_den x (by omega)
    have hnx := tells_loop1 X hX hx a6 a7 a8 a20 q bx pm rest (pre ++ [x]) ((pre.length : Int) + 1) (by simp [h]) (by simp)
    obtain ⟨s, n, hen⟩ : ∃ s n, encA (rightE x) x = .tup [.str s, .int .i64 n] := by
      unfold encA
      split
      · exact ⟨_, _, rfl⟩
      · exact ⟨_, _, rfl⟩
    rw [hen] at e1 e2
    refine loop_step fun K hK => ?_
    simp [L3x0, -getElem?_pos, -List.getElem?_map, List.getElem?_cons_zero, List.getElem?_cons_succ, hlt, hg, hc, e1, e2, n1, n2, eqv, eqL, eqK]
    rw [hK]
    exact hnx
theorem flat_cnt {α : Type} (f : α → List UInt8) (hf : ∀ x, 0 < (f x).length) : ∀ l : List α, l.length ≤ (l.flatMap f).length
  | [] => by simp
  | x :: r => by
    have h1 := hf x
    have h2 := flat_cnt f hf r
    simp only [List.flatMap_cons, List.length_append, List.length_cons]
    omega
theorem enc_ok2 {l : List En} {t : List UInt8} (h : encNL l = t) (ht : t.length ≤ 1099511627776) : l.length ≤ t.length ∧ ∀ e ∈ l, e.ok2 := by
  obtain ⟨h1, h2⟩ := enc_ok h ht
  refine ⟨h1, fun e he => ⟨(h2 e he).2, fun d hd => ?_⟩⟩
  subst h
  have k1 : (encN e).length ≤ (encNL l).length := by
    clear h1 h2 ht
    induction l with
    | nil => simp at he
    | cons y r ih =>
      simp only [encNL, List.flatMap_cons, List.length_append] at ih ⊢
      rcases List.mem_cons.1 he with rfl | he
      · omega
      · have := ih he
        omega
  have k2 : (encE d).length ≤ (encL e.script).length := by
    generalize e.script = s at hd
    induction s with
    | nil => simp at hd
    | cons y r ih =>
      simp only [encL, List.flatMap_cons, List.length_append] at ih ⊢
      rcases List.mem_cons.1 hd with rfl | hd
      · omega
      · have := ih hd
        omega
  have k3 := flat_cnt encLine (fun x => by simp [encLine]; omega) d.ls
  have k4 : (encL e.script).length ≤ (encN e).length := by simp only [encN, txtN, List.length_append]; omega
  simp only [encE, List.length_append, encLs] at k2
  omega
set_option maxHeartbeats 1000000 in
theorem tells_loop2 (X : List (List UInt8)) (hX : X.length ≤ 1000) (hx : ∀ x ∈ X, x.length < 500000000) (q : Perm) (bx : Bx) (pm : Pm) : ∀ (rest pre : List (List UInt8)) (i : Int), X = pre ++ rest → i = pre.length →
    Res (RunD Sy (.loop L3x1) ⟨ofL [(19, .bool true), (145, .sl 1 (X.map .str) q), (146, .int .i64 X.length), (147, .int .i64 i)], bx, pm, none⟩) fun ex st' => ex = .exit 2 ∧ st' = ⟨ofL [(19, .bool true), (145, .sl 1 (X.map .str) q), (146, .int .i64 X.length), (147, .int .i64 X.length), (148, .bool false)], bx, pm, none⟩
  | [], pre, i, h, hi => by
    subst hi
    rw [List.append_nil] at h
    subst h
    refine loop_step fun K hK => ?_
    simp [L3x1]
  | x :: rest, pre, i, h, hi => by
    subst hi
    have hpl : pre.length + rest.length + 1 = X.length := by rw [h]; simp; omega
    have hlt : (pre.length : Int) < X.length := by omega
    have hg : (X.map AV.str)[pre.length]? = some (.str x) := by rw [h]; simp
    have hc := chk_i64 ((pre.length : Int) + 1) (by omega)
    have hxl := hx x (by rw [h]; simp)
    have d1 := decP_den x (by omega)
    have d2 := decR_den x hxl
    have hnx := tells_loop2 X hX hx q bx pm rest (pre ++ [x]) ((pre.length : Int) + 1) (by simp [h]) (by simp)
    obtain ⟨l, n, hde, hl1, hl2⟩ : ∃ l n, decA (entsF x) = .tup [sN l, .int .i64 n] ∧ l.length ≤ 1099511627776 ∧ ∀ e ∈ l, e.ok2 := by
      cases he : entsF x with
      | none => exact ⟨[], _, rfl, by simp, by simp⟩
      | some l =>
        obtain ⟨k1, k2⟩ := enc_ok2 (entsF_spec he).2 (by omega)
        exact ⟨l, _, rfl, by omega, k2⟩
    rw [hde] at d1 d2
    have s1 := sameN_den l l hl1 hl2
    rw [decide_eq_true rfl] at s1
    refine loop_step fun K hK => ?_
    simp [L3x1, -getElem?_pos, -List.getElem?_map, List.getElem?_cons_zero, List.getElem?_cons_succ, hlt, hg, hc, d1, d2, s1]
    rw [hK]
    exact hnx

theorem tells_den (raw more : List Raw) (out : List Int) (n0 n1 n2 : Int) (edits : List Int) (some_ : List En) (t : List UInt8) (at_ : Int) (c : UInt8) (hr : ∀ x ∈ raw, x.ok ∧ x.data.length ≤ 140737488355328) (hm : ∀ x ∈ more, x.ok) (hml : more.length ≤ 2513169434843) (ho : ∀ c ∈ out, inR c) (hn0 : inR n0) (hn1 : inR n1) (hn2 : inR n2) (hed : ∀ c ∈ edits, inR c) (hsm : ∀ e ∈ some_, Bnd e) (ha : inR at_) : Den Sy 3 [sR raw, sR more, .sl 1 (out.map (.int .i64)) .no, .agg [.int .i64 n0, .int .i64 n1, .int .i64 n2], iS edits, sN some_, .str t, .int .i64 at_, .int .u8 c.toNat] = some (.bool true) := by
  rw [Den_fun Sy (af := A3) rfl rfl _ rfl]
  have h8 := awake_den
  have h9 := entries_den raw more out n0 hr hm hml ho hn0
  have hsc : Den Sy 10 [.sl 1 (edits.map (.int .i64)) .no, .sl 1 [] .no] = _ := script_den edits [] hed (by simp)
  have hsb := scriptF_b edits
  generalize scriptF edits = S at hsc hsb
  generalize sS (fullF [] _) = W at hsc
  have sa := entriesF_sm raw more out n0
  have ls := entriesF_ls raw more out n0
  have ra := entriesF_right raw more out n0
  generalize entriesF raw more out n0 = E at h9 sa ls ra
  have hmay := rightE_may ra
  have hbd : ∀ e ∈ E, Bnd e := fun e he => bd_small (sa.2 e he) (hmay e he) (ls e he)
  obtain ⟨L, ht, hLl, hLm⟩ := turned_den E n1 n2 S hn1 hn2 (by have := sa.1; omega) (fun e he => by have := (sa.2 e he).1; omega)
  have hLb : ∀ x ∈ L, Bnd x := fun x hx => by
    rcases hLm x hx with h | ⟨d, hd, rfl⟩
    · exact hbd x h
    · exact bd_turn (sa.2 d hd) (hmay d hd) (ls d hd) _ _ _ (by omega) (by omega)
  have h13 := enc12_den E (by have := sa.1; omega) (fun e he => (hbd e he).ok) (fun _ => Bnd.len hbd (by have := sa.1; omega))
  unfold encA at h13
  rw [right_eq, ra, if_pos rfl] at h13
  have hol := enc_tiny sa hmay ls
  have hm4 : (if (4 : Int) < some_.length then (4 : Int) else some_.length) = ((min some_.length 4 : Nat) : Int) := by split <;> omega
  have hm4l : min some_.length 4 ≤ some_.length := by omega
  have hm4c : ((min some_.length 4 : Nat) : Int) ≤ some_.length := by omega
  have hX := tells_loop1 [E, L, some_.take (min some_.length 4)] (by simp) (fun l hl => by
    simp only [List.mem_cons, List.not_mem_nil, or_false] at hl
    rcases hl with rfl | rfl | rfl
    · exact ⟨by have := sa.1; omega, hbd⟩
    · exact ⟨by have := sa.1; omega, hLb⟩
    · exact ⟨by simp; omega, fun e he => hsm e (List.mem_of_mem_take he)⟩)
  have hX1 : ∀ a6 a7 a8 a20 q bx pm, RunD Sy (.loop L3x0) ⟨ofL [(6, a6), (7, a7), (8, a8), (19, .bool true), (20, a20), (64, .sl 1 [.sl 8 (E.map nA) .no, .sl 8 (L.map nA) .no, .sl 8 ((some_.map nA).take (min some_.length 4)) .no] q), (65, .int .i64 3), (66, .int .i64 0)], bx, pm, none⟩ = some (.exit 0, ⟨ofL [(6, a6), (7, a7), (8, a8), (19, .bool true), (20, a20), (64, .sl 1 [.sl 8 (E.map nA) .no, .sl 8 (L.map nA) .no, .sl 8 ((some_.map nA).take (min some_.length 4)) .no] q), (65, .int .i64 3), (66, .int .i64 3), (67, .bool false)], bx, pm, none⟩) := fun a6 a7 a8 a20 q bx pm => by
    obtain ⟨ex, st', hL, rfl, rfl⟩ := hX a6 a7 a8 a20 q bx pm [E, L, some_.take (min some_.length 4)] [] 0 rfl rfl
    simp only [sN, List.map_cons, List.map_nil, List.map_take] at hL
    exact hL
  have hmin : (if (200 : Int) < t.length then (200 : Int) else t.length) = ((min t.length 200 : Nat) : Int) := by split <;> omega
  have hml2 : min t.length 200 ≤ t.length := by omega
  have hmc : ((min t.length 200 : Nat) : Int) ≤ t.length := by omega
  have hk := pick12_den at_ (((encNL E).length : Int) + 1) ha (by omega)
  obtain ⟨k1, k2⟩ := pickF_lt at_ (n := ((encNL E).length : Int) + 1) (by omega)
  have hc1 := chk_i64 (((encNL E).length : Int) + 1) (by omega)
  generalize pickF at_ (((encNL E).length : Int) + 1) = k at hk k1 k2
  obtain ⟨k', rfl⟩ : ∃ k' : Nat, k = k' := ⟨k.toNat, by omega⟩
  have hkl : k' ≤ (encNL E).length := by omega
  have hkc : (k' : Int) ≤ (encNL E).length := by omega
  have hY : ∀ x1 x2 x3 x4 x5 x6 : List UInt8, x1.length < 500000000 → x2.length < 500000000 → x3.length < 500000000 → x4.length < 500000000 → x5.length < 500000000 → x6.length < 500000000 → ∀ q bx pm, RunD Sy (.loop L3x1) ⟨ofL [(19, .bool true), (145, .sl 1 [.str x1, .str x2, .str x3, .str x4, .str x5, .str x6] q), (146, .int .i64 6), (147, .int .i64 0)], bx, pm, none⟩ = some (.exit 2, ⟨ofL [(19, .bool true), (145, .sl 1 [.str x1, .str x2, .str x3, .str x4, .str x5, .str x6] q), (146, .int .i64 6), (147, .int .i64 6), (148, .bool false)], bx, pm, none⟩) := fun x1 x2 x3 x4 x5 x6 h1 h2 h3 h4 h5 h6 q bx pm => by
    obtain ⟨ex, st', hL, rfl, rfl⟩ := tells_loop2 [x1, x2, x3, x4, x5, x6] (by simp) (fun x hx => by
      simp only [List.mem_cons, List.not_mem_nil, or_false] at hx
      rcases hx with rfl | rfl | rfl | rfl | rfl | rfl <;> assumption) q bx pm [x1, x2, x3, x4, x5, x6] [] 0 rfl rfl
    exact hL
  generalize encNL E = own at *
  generalize hm5 : min t.length 200 = m at *
  have htl : (t.take m).length ≤ 200 := by simp; omega
  have hadd1 : own.length + m ≤ 9223372036854775807 := by omega
  have hadd2 : own.length + own.length ≤ 9223372036854775807 := by omega
  by_cases hlt : k' < own.length
  · have hltc : (k' : Int) < own.length := by omega
    have hkc1 := chk_i64 ((k' : Int) + 1) (by omega)
    have hk4 : (k' : Int) + 1 ≤ own.length := by omega
    have hk5 : min k' own.length = k' := by omega
    have s1 : k' + 1 ≤ 9223372036854775807 := by omega
    have s2 : k' + 1 + (own.length - (k' + 1)) ≤ 9223372036854775807 := by omega
    have s3 : k' + (own.length - (k' + 1) + 1) ≤ 9223372036854775807 := by omega
    have hby : bytesOf [.int .u8 c.toNat] = some [c] := by simp [bytesOf]
    have hY' := hY (t.take m) own (own.take k') (own.take k' ++ c :: own.drop (k' + 1)) (own ++ t.take m) (own ++ own) (by omega) (by omega) (by simp; omega) (by simp; omega) (by simp; omega) (by simp; omega)
    simp [A3, List.getElem?_cons_zero, List.getElem?_cons_succ, -getElem?_pos, h8, h9, hsc, ht, hm4, hm4l, hm4c, hX1, h13, hk, hc1, hkl, hkc, hlt, hltc, hkc1, hk4, hk5, s1, s2, s3, hby, conv, hmin, hml2, hmc, hadd1, hadd2, hY']
  · have hke : k' = own.length := by omega
    have hltc : ¬ (k' : Int) < own.length := by omega
    have htk : own.take k' = own := List.take_of_length_le (by omega)
    have hY' := hY (t.take m) own own own (own ++ t.take m) (own ++ own) (by omega) (by omega) (by omega) (by omega) (by simp; omega) (by simp; omega)
    simp [A3, List.getElem?_cons_zero, List.getElem?_cons_succ, -getElem?_pos, h8, h9, hsc, ht, hm4, hm4l, hm4c, hX1, h13, hk, hc1, hkl, hkc, hlt, hltc, htk, conv, hmin, hml2, hmc, hadd1, hadd2, hY']
theorem bulk_raws : ∀ (l : List Raw), blkL (l.map rA) ≤ 1048576 → l.length ≤ 1048576 ∧ ∀ x ∈ l, x.data.length ≤ 1048576
  | [], _ => by simp
  | y :: r, h => by
    simp only [List.map_cons, blkL] at h
    have h1 : 0 < blk (rA y) ∧ y.data.length ≤ blk (rA y) := by
      simp only [rA, blk, blkL]
      omega
    have h2 := bulk_raws r (by omega)
    have h3 : ∀ l : List Raw, l.length ≤ blkL (l.map rA) := by
      intro l
      induction l with
      | nil => simp
      | cons a l ih =>
        have : 0 < blk (rA a) := by simp only [rA, blk]; omega
        simp only [List.length_cons, List.map_cons, blkL]
        omega
    have h4 := h3 r
    refine ⟨by simp only [List.length_cons]; omega, fun x hx => ?_⟩
    rcases List.mem_cons.1 hx with rfl | hx
    · omega
    · exact h2.2 x hx
theorem tells_law_den (raw more : List Raw) (out : List Int) (n0 n1 n2 : Int) (edits : List Int) (some_ : List En) (t : List UInt8) (at_ : Int) (c : UInt8) (hr : ∀ x ∈ raw, x.well) (br : blk (sR raw) ≤ 1048576) (hm : ∀ x ∈ more, x.well) (bm : blk (sR more) ≤ 1048576) (ho : ∀ c ∈ out, -9223372036854775808 ≤ c ∧ c ≤ 9223372036854775807) (hn : inR n0 ∧ inR n1 ∧ inR n2) (hed : ∀ c ∈ edits, -9223372036854775808 ≤ c ∧ c ≤ 9223372036854775807) (hs : ∀ e ∈ some_, e.well) (bs : blk (sN some_) ≤ 1048576) (ha : (Lit.int .i64 at_).wf = true) : Den Sy 3 [sR raw, sR more, .sl 1 (out.map (.int .i64)) .no, .agg [.int .i64 n0, .int .i64 n1, .int .i64 n2], iS edits, sN some_, .str t, .int .i64 at_, .int .u8 c.toNat] = some (.bool true) := by
  simp only [sR, sN, blk] at br bm bs
  obtain ⟨r1, r2⟩ := bulk_raws raw (by omega)
  obtain ⟨m1, m2⟩ := bulk_raws more (by omega)
  exact tells_den raw more out n0 n1 n2 edits some_ t at_ c (fun x hx => ⟨⟨(hr x hx).1, (hr x hx).2.1, (hr x hx).2.2, by have := r2 x hx; omega⟩, by have := r2 x hx; omega⟩) (fun x hx => ⟨(hm x hx).1, (hm x hx).2.1, (hm x hx).2.2, by have := m2 x hx; omega⟩) (by omega) ho hn.1 hn.2.1 hn.2.2 hed (fun e he => bnd_wild (by have := bulk_mem some_ e he; omega) (hs e he)) (inR_of_wf ha)
end Go.Proofs.YtdjgdipmjbkilaaGreatDoor.Rx
