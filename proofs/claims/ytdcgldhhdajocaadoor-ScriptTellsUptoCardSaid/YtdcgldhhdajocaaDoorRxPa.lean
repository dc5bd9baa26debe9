/-
  The script's laws, plain: the equations by which the plain program is run, and what each function answers.
-/
import Derived.Test.YtdcgldhhdajocaaDoorRxE8
import Derived.Lib.ItoaLen
namespace Go.Proofs.YtdcgldhhdajocaaDoor.Rx
open Go

theorem RunD_cond' (S : Sys) (c : Opd) (a b : ACode) (st : St) : RunD S (.cond c a b) st = match evo st.env c with
    | some (.bool true) => RunD S a st
    | some (.bool false) => RunD S b st
    | _ => none := by
  split
  · rename_i h; rw [RunD_cond S c a b st h]; rfl
  · rename_i h; rw [RunD_cond S c a b st h]; rfl
  · rename_i h1 h2
    refine opt_eq fun r => ?_
    rw [RunD_iff]
    constructor
    · rintro ⟨n, hn⟩
      simp only [run] at hn
      simp at hn
    · intro h; simp at h

structure Edit where
  op : Int
  n : Int
  ls : List (List UInt8)
  deriving DecidableEq
def eE (e : Edit) : AV := .agg [.int .i64 e.op, .int .i64 e.n, .sl 1 (e.ls.map .str) .no]

theorem ofL_at {α : Type} (l : List (Nat × α)) (i : Nat) : ofL l i = get l i := rfl
theorem none'_at {α : Type} (i : Nat) : (none' : Nat → Option α) i = none := rfl
theorem outside_at (ops : List AOper) (e : Env) (i : Nat) : outside ops e i = if ops.any (fun o => o.d == some i) = true then none else e i := rfl
theorem stepsD_nil (D : Fun) (i : Nat) (fs : List (Nat × List Nat × List Nat)) (st : St) : stepsD D i fs [] st = some (.nrm, st) := rfl
/-- One operation of a row that draws its order, what it touches laid open. -/
def sdP (D : Fun) (i : Nat) (fs : List (Nat × List Nat × List Nat)) (o : AOper) (os : List AOper) (f : Option (List Nat × List Nat)) : Option (Bool × St) → Option (Ex × St)
  | some (false, st') => stepsD D (i + 1) (withF i f fs) os st'
  | some (true, st') => if fs.all (fun g => o.bf.contains g.1 || g.2.2.isEmpty) = true ∧ ahead i os = true then some (.pan, st') else none
  | none => none
theorem sdP_false (D : Fun) (i : Nat) (fs : List (Nat × List Nat × List Nat)) (o : AOper) (os : List AOper) (f : Option (List Nat × List Nat)) (st' : St) : sdP D i fs o os f (some (false, st')) = stepsD D (i + 1) (withF i f fs) os st' := rfl
theorem sdP_true (D : Fun) (i : Nat) (fs : List (Nat × List Nat × List Nat)) (o : AOper) (os : List AOper) (f : Option (List Nat × List Nat)) (st' : St) : sdP D i fs o os f (some (true, st')) = if fs.all (fun g => o.bf.contains g.1 || g.2.2.isEmpty) = true ∧ ahead i os = true then some (.pan, st') else none := rfl
def sdK (D : Fun) (i : Nat) (fs : List (Nat × List Nat × List Nat)) (o : AOper) (os : List AOper) (st : St) : Bool → Option (List Nat × List Nat) → Option (Ex × St)
  | false, none => sdP D i fs o os none (stepO D st o)
  | false, some f => if fs.all (fun g => o.bf.contains g.1 || apart g.2 f) = true then sdP D i fs o os (some f) (stepO D st o) else none
  | true, f => if fs.all (fun g => o.bf.contains g.1) = true ∧ ahead i os = true then sdP D i fs o os f (stepO D st o) else none
theorem stepsD_cons (D : Fun) (i : Nat) (fs : List (Nat × List Nat × List Nat)) (o : AOper) (os : List AOper) (st : St) : stepsD D i fs (o :: os) st = sdK D i fs o os st (barrier o.op) (foot st o.d o.op) := by
  have b1 : barrier o.op = true → ∀ f, behind fs o f = fs.all fun g => o.bf.contains g.1 := fun hb f => by unfold behind; rw [if_pos hb]
  have b2 : barrier o.op = false → behind fs o none = true := fun hb => by unfold behind; rw [if_neg (by rw [hb]; simp)]
  have b3 : barrier o.op = false → ∀ f, behind fs o (some f) = fs.all fun g => o.bf.contains g.1 || apart g.2 f := fun hb f => by unfold behind; rw [if_neg (by rw [hb]; simp)]
  unfold stepsD
  cases hb : barrier o.op with
  | true =>
    simp only [b1 hb, sdK, Bool.true_eq_false, false_or]
    by_cases h : (fs.all fun g => o.bf.contains g.1) = true ∧ ahead i os = true
    · rw [if_pos h, if_pos h]
      rcases stepO D st o with _ | ⟨_ | _, st'⟩ <;> rfl
    · rw [if_neg h, if_neg h]
  | false => cases hf : foot st o.d o.op with
    | none =>
      simp only [b2 hb, sdK]
      rw [if_pos ⟨trivial, .inl trivial⟩]
      rcases stepO D st o with _ | ⟨_ | _, st'⟩ <;> rfl
    | some f =>
      simp only [b3 hb, sdK]
      by_cases h : (fs.all fun g => o.bf.contains g.1 || apart g.2 f) = true
      · rw [if_pos ⟨h, .inl trivial⟩, if_pos h]
        rcases stepO D st o with _ | ⟨_ | _, st'⟩ <;> rfl
      · rw [if_neg (fun k => h k.1), if_neg h]
theorem sdK_none (D : Fun) (i : Nat) (fs : List (Nat × List Nat × List Nat)) (o : AOper) (os : List AOper) (st : St) : sdK D i fs o os st false none = sdP D i fs o os none (stepO D st o) := rfl
theorem sdK_some (D : Fun) (i : Nat) (fs : List (Nat × List Nat × List Nat)) (o : AOper) (os : List AOper) (st : St) (f : List Nat × List Nat) : sdK D i fs o os st false (some f) = if fs.all (fun g => o.bf.contains g.1 || apart g.2 f) = true then sdP D i fs o os (some f) (stepO D st o) else none := rfl
theorem sdK_true (D : Fun) (i : Nat) (fs : List (Nat × List Nat × List Nat)) (o : AOper) (os : List AOper) (st : St) (f : Option (List Nat × List Nat)) : sdK D i fs o os st true f = if fs.all (fun g => o.bf.contains g.1) = true ∧ ahead i os = true then sdP D i fs o os f (stepO D st o) else none := rfl
set_option linter.unusedSimpArgs false
set_option linter.unusedVariables false
attribute [simp] RunD_seq RunD_reg RunD_regD RunD_cond' RunD_blk RunD_ret RunD_skip RunD_exit stepsO stepO stepG step flat evo ofL_at get params paramsB eff setd updL upd_apply trim keepE outside_at andThen outOf AV.okC deadC AV.cells fillB none'_at mkv bin binI fin settle1 settleF finK tell tells tell1 refsOut noRefs AV.pub1 AV.pubC AV.pub un evos callE passL pass1 comeR comeB plainR place stepsD_nil stepsD_cons sdK_none sdK_some sdK_true sdP_false sdP_true ahead foot barrier withF apart names orNone
def mayB (e : Edit) : Bool := decide (1 ≤ e.n ∧ e.n ≤ 1048576) && (if e.op = 1 ∨ e.op = 2 then decide (e.ls = []) else if e.op = 3 then decide ((e.ls.length : Int) = e.n) else false)
theorem may_den (e : Edit) : Den Sy 36 [eE e] = some (.bool (mayB e)) := by
  rw [Den_fun Sy (af := A36) rfl rfl _ rfl]
  by_cases h1 : e.n < 1
  · have : ¬ 1 ≤ e.n := by omega
    simp [A36, eE, h1, mayB, this]
  · by_cases h2 : 1048576 < e.n
    · have : ¬ e.n ≤ 1048576 := by omega
      simp [A36, eE, h1, h2, mayB, this]
    · have : 1 ≤ e.n ∧ e.n ≤ 1048576 := by omega
      by_cases h3 : e.op = 1
      · simp [A36, eE, h1, h2, mayB, this, h3]
      · by_cases h4 : e.op = 2
        · simp [A36, eE, h1, h2, mayB, this, h3, h4]
        · by_cases h5 : e.op = 3
          · simp [A36, eE, h1, h2, mayB, this, h3, h4, h5]
          · simp [A36, eE, h1, h2, mayB, this, h3, h4, h5]
theorem eE_pub (e : Edit) : (eE e).pub = eE e := rfl
theorem plain_bool (b : Bool) : plainR (.bool b) = true := rfl
def rightF : Int → List Edit → Bool
  | _, [] => true
  | last, e :: r => mayB e && decide (e.op ≠ last) && !decide (last = 3 ∧ e.op = 2) && rightF e.op r
def Res (x : Option (Ex × St)) (Q : Ex → St → Prop) : Prop := ∃ ex st', x = some (ex, st') ∧ Q ex st'
theorem Res_some (ex : Ex) (st : St) (Q : Ex → St → Prop) : Res (some (ex, st)) Q ↔ Q ex st := by
  constructor
  · rintro ⟨_, _, h, hq⟩
    simp only [Option.some.injEq, Prod.mk.injEq] at h
    obtain ⟨rfl, rfl⟩ := h
    exact hq
  · exact fun h => ⟨_, _, rfl, h⟩
theorem andThen_some (st : St) (ex : Ex) (k : St → Option (Ex × St)) : andThen (some (ex, st)) k = match ex with | .nrm => k st | ex => some (ex, st) := by cases ex <;> rfl
theorem chk_i64 (n : Int) (h : -9223372036854775808 ≤ n ∧ n ≤ 9223372036854775807) : chk .i64 n = some (.int .i64 n) := by
  unfold chk
  rw [if_pos (by rw [IntKind.wrap_i64]; omega)]
theorem nn1 (n : Nat) : 0 ≤ (n : Int) + 1 := by omega
theorem nn2 (n : Nat) : 0 < (n : Int) + 1 := by omega
theorem nn3 (n : Nat) : ((n : Int) + 1).toNat = n + 1 := by omega
attribute [simp] Res_some nn1 nn2 nn3
theorem right_loop (s : List Edit) (hl : s.length ≤ 1099511627776) : ∀ (rest pre : List Edit) (last i : Int) (bx : Bx) (pm : Pm), s = pre ++ rest → i = pre.length →
    Res (RunD Sy (.loop L16x0) ⟨ofL [(3, .int .i64 last), (6, .sl 3 (s.map eE) .no), (7, .int .i64 s.length), (8, .int .i64 i)], bx, pm, none⟩) fun ex st' => st'.df = none ∧ if rightF last rest = true then ex = .exit 0 else ex = .ret ∧ st'.env 2 = some (.bool false)
  | [], pre, last, i, bx, pm, hs, hi => by
    subst hi
    rw [List.append_nil] at hs
    subst hs
    rw [RunD_loop]
    simp [L16x0, rightF]
  | e :: rest, pre, last, i, bx, pm, hs, hi => by
    have hlt : (pre.length : Int) < s.length := by rw [hs]; simp; omega
    have hg : (s.map eE)[pre.length]? = some (eE e) := by rw [hs]; simp
    subst hi
    rw [RunD_loop]
    have hm := may_den e
    simp only [eE] at hm hg
    have hc := chk_i64 ((pre.length : Int) + 1) (by omega)
    by_cases h1 : mayB e = true
    · by_cases h2 : e.op = last
      · simp [L16x0, hc, hlt, hg, hm, h1, rightF, eq_true h2]
      · by_cases h3 : last = 3
        · by_cases h4 : e.op = 2
          · simp [L16x0, hc, hlt, hg, hm, h1, rightF, eq_false h2, eq_true h3, eq_true h4]
          · simp [L16x0, hc, hlt, hg, hm, h1, rightF, eq_false h2, eq_true h3, eq_false h4]
            exact right_loop s hl rest (pre ++ [e]) e.op _ _ _ (by simp [hs]) (by simp)
        · simp [L16x0, hc, hlt, hg, hm, h1, rightF, eq_false h2, eq_false h3]
          exact right_loop s hl rest (pre ++ [e]) e.op _ _ _ (by simp [hs]) (by simp)
    · simp [L16x0, hc, hlt, hg, hm, h1, rightF]
def rightB (s : List Edit) : Bool := rightF 0 s
abbrev lim40 : Nat := 1099511627776
/-- A row of edits, as it is handed over. -/
abbrev sE (s : List Edit) : AV := .sl 3 (s.map eE) .no
abbrev sS (s : List (List UInt8)) : AV := .sl 1 (s.map .str) .no
theorem right_den (s : List Edit) (hl : s.length ≤ 1099511627776) : Den Sy 16 [sE s] = some (.bool (rightB s)) := by
  rw [Den_fun Sy (af := A16) rfl rfl _ rfl]
  obtain ⟨ex, st', h, hd, hr⟩ := right_loop s hl s [] 0 0 (ofL []) none' rfl rfl
  by_cases hb : rightF 0 s = true
  · rw [if_pos hb] at hr
    subst hr
    simp [A16, h, rightB, hb, hd]
  · rw [if_neg hb] at hr
    obtain ⟨rfl, h2⟩ := hr
    simp [A16, h, rightB, hb, hd, h2]
theorem may2_den (e : Edit) : Den Sy 37 [eE e] = some (.bool (mayB e)) := by
  rw [Den_fun Sy (af := A37) rfl rfl _ rfl]
  by_cases h1 : e.op < 1
  · have : ¬ e.op = 1 ∧ ¬ e.op = 2 ∧ ¬ e.op = 3 := by omega
    simp [A37, eE, h1, mayB, this]
  · by_cases h2 : 3 < e.op
    · have : ¬ e.op = 1 ∧ ¬ e.op = 2 ∧ ¬ e.op = 3 := by omega
      simp [A37, eE, h1, h2, mayB, this]
    · by_cases h3 : e.n < 1
      · have : ¬ 1 ≤ e.n := by omega
        simp [A37, eE, h1, h2, h3, mayB, this]
      · by_cases h4 : 1048576 < e.n
        · have : ¬ e.n ≤ 1048576 := by omega
          simp [A37, eE, h1, h2, h3, h4, mayB, this]
        · have h6 : 1 ≤ e.n ∧ e.n ≤ 1048576 := by omega
          by_cases h5 : e.op = 3
          · have : ¬ e.op = 1 ∧ ¬ e.op = 2 := by omega
            simp [A37, eE, h1, h2, h3, h4, mayB, eq_true h5, this, h6]
          · have : e.op = 1 ∨ e.op = 2 := by omega
            simp [A37, eE, h1, h2, h3, h4, mayB, eq_false h5, this, h6]
theorem mayB_op {e : Edit} (h : mayB e = true) : (e.op = 1 ∨ e.op = 2 ∨ e.op = 3) ∧ 1 ≤ e.n ∧ e.n ≤ 1048576 ∧ (e.op = 3 → (e.ls.length : Int) = e.n) ∧ (e.op ≠ 3 → e.ls = []) := by
  unfold mayB at h
  simp only [Bool.and_eq_true, decide_eq_true_eq] at h
  obtain ⟨h1, h2⟩ := h
  split at h2
  · rename_i h3
    simp only [decide_eq_true_eq] at h2
    exact ⟨by omega, h1.1, h1.2, fun h => by omega, fun _ => h2⟩
  · split at h2
    · rename_i h4
      simp only [decide_eq_true_eq] at h2
      exact ⟨by omega, h1.1, h1.2, fun _ => h2, fun h => absurd h4 h⟩
    · simp at h2
def lastOp (pre : List Edit) : Int := match pre.getLast? with | some e => e.op | none => 0
theorem nil_or_last {α : Type} (l : List α) : l = [] ∨ ∃ m x, l = m ++ [x] := by
  rcases List.eq_nil_or_concat l with h | ⟨m, x, h⟩
  · exact .inl h
  · exact .inr ⟨m, x, by rw [h, List.concat_eq_append]⟩
theorem right2_loop (s : List Edit) (hl : s.length ≤ 1099511627776) : ∀ (rest pre : List Edit) (last i : Int) (bx : Bx) (pm : Pm), s = pre ++ rest → i = pre.length → last = lastOp pre →
    Res (RunD Sy (.loop L17x0) ⟨ofL [(0, sE s), (3, .int .i64 i)], bx, pm, none⟩) fun ex st' => st'.df = none ∧ if rightF last rest = true then ex = .exit 0 else ex = .ret ∧ st'.env 2 = some (.bool false)
  | [], pre, last, i, bx, pm, hs, hi, hla => by
    subst hi
    rw [List.append_nil] at hs
    subst hs
    rw [RunD_loop]
    simp [L17x0, rightF]
  | e :: rest, pre, last, i, bx, pm, hs, hi, hla => by
    have hlt : (pre.length : Int) < s.length := by rw [hs]; simp; omega
    have hg : (s.map eE)[pre.length]? = some (eE e) := by rw [hs]; simp
    have hm := may2_den e
    simp only [eE] at hm hg
    rcases nil_or_last pre with rfl | ⟨l, p, rfl⟩
    · have hla : last = 0 := hla
      subst hla
      have hi0 : i = 0 := by simpa using hi
      have hlt0 : 0 < s.length := by rw [hs]; simp
      subst hi0
      rw [RunD_loop]
      simp only [List.length_nil] at hg
      have hc := chk_i64 1 (by omega)
      by_cases h1 : mayB e = true
      · have h0 : ¬ e.op = 0 := by have := (mayB_op h1).1; omega
        simp [-getElem?_pos, L17x0, hc, hlt0, hg, hm, h1, rightF, h0]
        exact right2_loop s hl rest [e] e.op _ _ _ (by simp [hs]) (by simp) rfl
      · simp [-getElem?_pos, L17x0, hc, hlt0, hg, hm, h1, rightF]
    · have hla : last = p.op := by rw [hla]; simp [lastOp]
      subst hla
      have hp : (s.map eE)[l.length]? = some (eE p) := by rw [hs]; simp
      simp only [eE, List.length_append, List.length_cons, List.length_nil, Nat.zero_add] at hp hg
      have hln : (l.length : Int) + 1 < s.length := by simpa using hlt
      have hc := chk_i64 ((l.length : Int) + 1 + 1) (by omega)
      have hc2 := chk_i64 (l.length : Int) (by omega)
      subst hi
      rw [RunD_loop]
      by_cases h1 : mayB e = true
      · by_cases h2 : p.op = e.op
        · simp [L17x0, hc, hc2, hln, hg, hp, hm, h1, rightF, eq_true h2, eq_true h2.symm]
        · have h2' : ¬ e.op = p.op := fun h => h2 h.symm
          by_cases h3 : p.op = 3
          · by_cases h4 : e.op = 2
            · simp [L17x0, hc, hc2, hln, hg, hp, hm, h1, rightF, eq_false h2, eq_false h2', eq_true h3, eq_true h4]
            · simp [L17x0, hc, hc2, hln, hg, hp, hm, h1, rightF, eq_false h2, eq_false h2', eq_true h3, eq_false h4]
              exact right2_loop s hl rest (l ++ [p] ++ [e]) e.op _ _ _ (by simp [hs]) (by simp; omega) (by simp [lastOp])
          · simp [L17x0, hc, hc2, hln, hg, hp, hm, h1, rightF, eq_false h2, eq_false h2', eq_false h3]
            exact right2_loop s hl rest (l ++ [p] ++ [e]) e.op _ _ _ (by simp [hs]) (by simp; omega) (by simp [lastOp])
      · simp [L17x0, hc, hc2, hln, hg, hp, hm, h1, rightF]
theorem right2_den (s : List Edit) (hl : s.length ≤ 1099511627776) : Den Sy 17 [sE s] = some (.bool (rightB s)) := by
  rw [Den_fun Sy (af := A17) rfl rfl _ rfl]
  obtain ⟨ex, st', h, hd, hr⟩ := right2_loop s hl s [] 0 0 (ofL []) none' rfl rfl rfl
  by_cases hb : rightF 0 s = true
  · rw [if_pos hb] at hr
    subst hr
    simp [A17, h, rightB, hb, hd]
  · rw [if_neg hb] at hr
    obtain ⟨rfl, h2⟩ := hr
    simp [A17, h, rightB, hb, hd, h2]
end Go.Proofs.YtdcgldhhdajocaaDoor.Rx
namespace Go.Proofs.YtdcgldhhdajocaaDoor.Rx
open Go
set_option linter.unusedSimpArgs false
set_option linter.unusedVariables false

def many (a b : Int) : List Edit → Int
  | [] => 0
  | e :: r => (if e.op = a ∨ e.op = b then e.n else 0) + many a b r
theorem rightF_may : ∀ {s : List Edit} {last : Int}, rightF last s = true → ∀ e ∈ s, mayB e = true
  | [], _, _, e, he => by simp at he
  | x :: s, last, h, e, he => by
    simp only [rightF, Bool.and_eq_true] at h
    rcases List.mem_cons.1 he with rfl | he
    · exact h.1.1.1
    · exact rightF_may h.2 e he
theorem many_le (a b : Int) : ∀ {s : List Edit}, (∀ e ∈ s, mayB e = true) → 0 ≤ many a b s ∧ many a b s ≤ 1048576 * s.length
  | [], _ => by simp [many]
  | e :: s, h => by
    have h1 := (mayB_op (h e (by simp))).2
    have h2 := many_le a b (s := s) (fun x hx => h x (by simp [hx]))
    simp only [many, List.length_cons]
    split <;> omega
theorem many_loop (s : List Edit) (hl : s.length ≤ 1099511627776) (hm : ∀ e ∈ s, mayB e = true) (a b : Int) : ∀ (rest pre : List Edit) (acc i : Int) (bx : Bx) (pm : Pm), s = pre ++ rest → i = pre.length → 0 ≤ acc ∧ acc ≤ 1048576 * pre.length →
    Res (RunD Sy (.loop L32x0) ⟨ofL [(0, sE s), (1, .int .i64 a), (2, .int .i64 b), (7, .int .i64 acc), (8, .int .i64 i)], bx, pm, none⟩) fun ex st' => ex = .exit 0 ∧ st'.df = none ∧ st'.env 7 = some (.int .i64 (acc + many a b rest))
  | [], pre, acc, i, bx, pm, hs, hi, ha => by
    subst hi
    rw [List.append_nil] at hs
    subst hs
    rw [RunD_loop]
    simp [L32x0, many]
  | e :: rest, pre, acc, i, bx, pm, hs, hi, ha => by
    have hlt : (pre.length : Int) < s.length := by rw [hs]; simp; omega
    have hg : (s.map eE)[pre.length]? = some (eE e) := by rw [hs]; simp
    have hn := (mayB_op (hm e (by rw [hs]; simp))).2
    simp only [eE] at hg
    subst hi
    have hc := chk_i64 ((pre.length : Int) + 1) (by omega)
    have hc2 := chk_i64 (acc + e.n) (by omega)
    rw [RunD_loop]
    by_cases h1 : e.op = a
    · simp [L32x0, hc, hc2, hlt, hg, many, eq_true h1, ← Int.add_assoc]
      exact many_loop s hl hm a b rest (pre ++ [e]) _ _ _ _ (by simp [hs]) (by simp) (by simp; omega)
    · by_cases h2 : e.op = b
      · simp [L32x0, hc, hc2, hlt, hg, many, eq_false h1, eq_true h2, ← Int.add_assoc]
        exact many_loop s hl hm a b rest (pre ++ [e]) _ _ _ _ (by simp [hs]) (by simp) (by simp; omega)
      · simp [L32x0, hc, hc2, hlt, hg, many, eq_false h1, eq_false h2]
        exact many_loop s hl hm a b rest (pre ++ [e]) _ _ _ _ (by simp [hs]) (by simp) (by simp; omega)
theorem many_den (s : List Edit) (hl : s.length ≤ 1099511627776) (hm : ∀ e ∈ s, mayB e = true) (a b : Int) : Den Sy 32 [sE s, .int .i64 a, .int .i64 b] = some (.int .i64 (many a b s)) := by
  rw [Den_fun Sy (af := A32) rfl rfl _ rfl]
  obtain ⟨ex, st', h, rfl, hd, hr⟩ := many_loop s hl hm a b s [] 0 0 (ofL []) none' rfl rfl (by simp)
  simp [A32, h, hd, hr]

/-- How many lines a script takes, and makes. -/
def spansF (s : List Edit) : Int × Int := if rightB s = true then (many 1 2 s, many 1 3 s) else (0, 0)
def costF (s : List Edit) : Int := if rightB s = true then many 2 3 s else 0
theorem spans2_den (s : List Edit) (hl : s.length ≤ 1099511627776) : Den Sy 13 [sE s] = some (.tup [.int .i64 (spansF s).1, .int .i64 (spansF s).2]) := by
  rw [Den_fun Sy (af := A13) rfl rfl _ rfl]
  have h0 := right2_den s hl
  by_cases hb : rightB s = true
  · have h1 := many_den s hl (rightF_may hb) 1 2
    have h2 := many_den s hl (rightF_may hb) 1 3
    simp [A13, h0, h1, h2, hb, spansF]
  · simp [A13, h0, hb, spansF]
theorem cost2_den (s : List Edit) (hl : s.length ≤ 1099511627776) : Den Sy 19 [sE s] = some (.int .i64 (costF s)) := by
  rw [Den_fun Sy (af := A19) rfl rfl _ rfl]
  have h0 := right2_den s hl
  by_cases hb : rightB s = true
  · have h1 := many_den s hl (rightF_may hb) 2 3
    simp [A19, h0, h1, hb, costF]
  · simp [A19, h0, hb, costF]
theorem spans_loop (s : List Edit) (hl : s.length ≤ 1099511627776) (hm : ∀ e ∈ s, mayB e = true) : ∀ (rest pre : List Edit) (x y i : Int) (bx : Bx) (pm : Pm), s = pre ++ rest → i = pre.length → 0 ≤ x ∧ x ≤ 1048576 * pre.length → 0 ≤ y ∧ y ≤ 1048576 * pre.length →
    Res (RunD Sy (.loop L12x0) ⟨ofL [(2, .int .i64 x), (3, .int .i64 y), (9, sE s), (10, .int .i64 s.length), (11, .int .i64 i)], bx, pm, none⟩) fun ex st' => ex = .exit 0 ∧ st'.df = none ∧ st'.env 2 = some (.int .i64 (x + many 1 2 rest)) ∧ st'.env 3 = some (.int .i64 (y + many 1 3 rest))
  | [], pre, x, y, i, bx, pm, hs, hi, hx, hy => by
    subst hi
    rw [List.append_nil] at hs
    subst hs
    rw [RunD_loop]
    simp [L12x0, many]
  | e :: rest, pre, x, y, i, bx, pm, hs, hi, hx, hy => by
    have hlt : (pre.length : Int) < s.length := by rw [hs]; simp; omega
    have hg : (s.map eE)[pre.length]? = some (eE e) := by rw [hs]; simp
    obtain ⟨ho, hn1, hn2, _⟩ := mayB_op (hm e (by rw [hs]; simp))
    simp only [eE] at hg
    subst hi
    have hc := chk_i64 ((pre.length : Int) + 1) (by omega)
    have hc2 := chk_i64 (x + e.n) (by omega)
    have hc3 := chk_i64 (y + e.n) (by omega)
    rw [RunD_loop]
    by_cases h1 : e.op = 1
    · simp [L12x0, hc, hc2, hc3, hlt, hg, many, eq_true h1, ← Int.add_assoc]
      exact spans_loop s hl hm rest (pre ++ [e]) _ _ _ _ _ (by simp [hs]) (by simp) (by simp; omega) (by simp; omega)
    · by_cases h3 : e.op = 3
      · have h2 : ¬ e.op = 2 := by omega
        simp [L12x0, hc, hc2, hc3, hlt, hg, many, eq_false h1, eq_true h3, eq_false h2, ← Int.add_assoc]
        exact spans_loop s hl hm rest (pre ++ [e]) _ _ _ _ _ (by simp [hs]) (by simp) (by simp; omega) (by simp; omega)
      · have h2 : e.op = 2 := by omega
        simp [L12x0, hc, hc2, hc3, hlt, hg, many, eq_false h1, eq_false h3, eq_true h2, ← Int.add_assoc]
        exact spans_loop s hl hm rest (pre ++ [e]) _ _ _ _ _ (by simp [hs]) (by simp) (by simp; omega) (by simp; omega)
theorem spans_den (s : List Edit) (hl : s.length ≤ 1099511627776) : Den Sy 12 [sE s] = some (.tup [.int .i64 (spansF s).1, .int .i64 (spansF s).2]) := by
  rw [Den_fun Sy (af := A12) rfl rfl _ rfl]
  have h0 := right_den s hl
  by_cases hb : rightB s = true
  · obtain ⟨ex, st', h, rfl, hd, hr, hr2⟩ := spans_loop s hl (rightF_may hb) s [] 0 0 0 (ofL []) none' rfl rfl (by simp) (by simp)
    simp [A12, h0, h, hd, hr, hr2, hb, spansF]
  · simp [A12, h0, hb, spansF]
theorem cost_loop (s : List Edit) (hl : s.length ≤ 1099511627776) (hm : ∀ e ∈ s, mayB e = true) : ∀ (rest pre : List Edit) (x i : Int) (bx : Bx) (pm : Pm), s = pre ++ rest → i = pre.length → 0 ≤ x ∧ x ≤ 1048576 * pre.length →
    Res (RunD Sy (.loop L18x0) ⟨ofL [(2, .int .i64 x), (8, sE s), (9, .int .i64 s.length), (10, .int .i64 i)], bx, pm, none⟩) fun ex st' => ex = .exit 0 ∧ st'.df = none ∧ st'.env 2 = some (.int .i64 (x + many 2 3 rest))
  | [], pre, x, i, bx, pm, hs, hi, hx => by
    subst hi
    rw [List.append_nil] at hs
    subst hs
    rw [RunD_loop]
    simp [L18x0, many]
  | e :: rest, pre, x, i, bx, pm, hs, hi, hx => by
    have hlt : (pre.length : Int) < s.length := by rw [hs]; simp; omega
    have hg : (s.map eE)[pre.length]? = some (eE e) := by rw [hs]; simp
    obtain ⟨ho, hn1, hn2, _⟩ := mayB_op (hm e (by rw [hs]; simp))
    simp only [eE] at hg
    subst hi
    have hc := chk_i64 ((pre.length : Int) + 1) (by omega)
    have hc2 := chk_i64 (x + e.n) (by omega)
    rw [RunD_loop]
    by_cases h1 : e.op = 1
    · have h2 : ¬ e.op = 2 ∧ ¬ e.op = 3 := by omega
      simp [L18x0, hc, hc2, hlt, hg, many, eq_true h1, eq_false h2.1, eq_false h2.2]
      exact cost_loop s hl hm rest (pre ++ [e]) _ _ _ _ (by simp [hs]) (by simp) (by simp; omega)
    · have h2 : e.op = 2 ∨ e.op = 3 := by omega
      simp [L18x0, hc, hc2, hlt, hg, many, eq_false h1, eq_true h2, ← Int.add_assoc]
      exact cost_loop s hl hm rest (pre ++ [e]) _ _ _ _ (by simp [hs]) (by simp) (by simp; omega)
theorem cost_den (s : List Edit) (hl : s.length ≤ 1099511627776) : Den Sy 18 [sE s] = some (.int .i64 (costF s)) := by
  rw [Den_fun Sy (af := A18) rfl rfl _ rfl]
  have h0 := right_den s hl
  by_cases hb : rightB s = true
  · obtain ⟨ex, st', h, rfl, hd, hr⟩ := cost_loop s hl (rightF_may hb) s [] 0 0 (ofL []) none' rfl rfl (by simp)
    simp [A18, h0, h, hd, hr, hb, costF]
  · simp [A18, h0, hb, costF]

/-- What is wrong with a script and lines (1: what may not be; 11: what does not fit). -/
def fitsF (s : List Edit) (n : Nat) : Int := if rightB s = true then (if many 1 2 s = n then 0 else 11) else 1
theorem fits_den (s : List Edit) (hl : s.length ≤ 1099511627776) (a : List (List UInt8)) : Den Sy 39 [sE s, sS a] = some (.int .i64 (fitsF s a.length)) := by
  rw [Den_fun Sy (af := A39) rfl rfl _ rfl]
  have h0 := right_den s hl
  have h1 := spans_den s hl
  by_cases hb : rightB s = true
  · by_cases h2 : many 1 2 s = a.length
    · simp [A39, h0, h1, hb, fitsF, spansF, eq_true h2]
    · simp [A39, h0, h1, hb, fitsF, spansF, eq_false h2]
  · simp [A39, h0, h1, hb, fitsF, spansF]
theorem fits2_den (s : List Edit) (hl : s.length ≤ 1099511627776) (a : List (List UInt8)) : Den Sy 40 [sE s, sS a] = some (.int .i64 (fitsF s a.length)) := by
  rw [Den_fun Sy (af := A40) rfl rfl _ rfl]
  have h0 := right2_den s hl
  by_cases hb : rightB s = true
  · have h1 := many_den s hl (rightF_may hb) 1 2
    by_cases h2 : many 1 2 s = a.length
    · simp [A40, h0, h1, hb, fitsF, eq_true h2]
    · simp [A40, h0, h1, hb, fitsF, eq_false h2]
  · simp [A40, h0, hb, fitsF]
end Go.Proofs.YtdcgldhhdajocaaDoor.Rx
namespace Go.Proofs.YtdcgldhhdajocaaDoor.Rx
open Go
set_option linter.unusedSimpArgs false
set_option linter.unusedVariables false
attribute [simp] slc bnd optv

/-- What may be appended to. -/
def AppOk (pm : Pm) (p : Perm) : Prop := p = .nil ∨ ∃ s v, p = .tok s v ∧ pm s = some (v, true)
theorem AppOk.tok {pm : Pm} {s v : Nat} (h : pm s = some (v, true)) : AppOk pm (.tok s v) := .inr ⟨s, v, rfl, h⟩
theorem AppOk.nil (pm : Pm) : AppOk pm .nil := .inl rfl
theorem isSl_pub (k : Nat) (xs : List AV) (p : Perm) : (AV.sl k xs p).pub = .sl k xs .no := rfl

def applyA : List Edit → List AV → List AV
  | [], _ => []
  | e :: r, a => if e.op = 1 then a.take e.n.toNat ++ applyA r (a.drop e.n.toNat) else if e.op = 2 then applyA r (a.drop e.n.toNat) else e.ls.map .str ++ applyA r a
def applyF (s : List Edit) (n : Nat) (a : List AV) : List AV := if fitsF s n = 0 then applyA s a else []
theorem many_nn (a b : Int) {s : List Edit} (h : ∀ e ∈ s, mayB e = true) : 0 ≤ many a b s := (many_le a b h).1
theorem apply_loop (s : List Edit) (hl : s.length ≤ 1048576) (hm : ∀ e ∈ s, mayB e = true) : ∀ (rest pre : List Edit) (a out : List AV) (p : Perm) (i : Int) (bx : Bx) (pm : Pm), s = pre ++ rest → i = pre.length → many 1 2 rest = a.length → AppOk pm p → out.length ≤ 1048576 * pre.length →
    Res (RunD Sy (.loop L21x0) ⟨ofL [(1, .sl 1 a .no), (4, .sl 1 out p), (15, sE s), (16, .int .i64 s.length), (17, .int .i64 i)], bx, pm, none⟩) fun ex st' => ex = .exit 0 ∧ st'.df = none ∧ ∃ q, st'.env 4 = some (.sl 1 (out ++ applyA rest a) q)
  | [], pre, a, out, p, i, bx, pm, hs, hi, ha, hp, ho => by
    subst hi
    rw [List.append_nil] at hs
    subst hs
    rw [RunD_loop]
    simp [L21x0, applyA]
  | e :: rest, pre, a, out, p, i, bx, pm, hs, hi, ha, hp, ho => by
    have hlt : (pre.length : Int) < s.length := by rw [hs]; simp; omega
    have hg : (s.map eE)[pre.length]? = some (eE e) := by rw [hs]; simp
    have hme := hm e (by rw [hs]; simp)
    obtain ⟨hop, hn1, hn2, hn3, _⟩ := mayB_op hme
    have hrest : ∀ x ∈ rest, mayB x = true := fun x hx => hm x (by rw [hs]; simp [hx])
    have hmn := many_nn 1 2 hrest
    simp only [eE] at hg
    subst hi
    have hc := chk_i64 ((pre.length : Int) + 1) (by omega)
    have hpl : pre.length < 1048576 := by omega
    have hn0 : 0 ≤ e.n := by omega
    rw [RunD_loop]
    have hnn : (e.n.toNat : Int) = e.n := by omega
    by_cases h1 : e.op = 1
    · have hle : e.n ≤ a.length := by simp only [many, h1] at ha; simp at ha; omega
      have hsz : (out.length + e.n.toNat) * 16 ≤ 140737488355328 := by omega
      have ha' : many 1 2 rest = (a.drop e.n.toNat).length := by simp only [many, h1] at ha; simp at ha ⊢; omega
      have hlen : (out ++ a.take e.n.toNat).length ≤ 1048576 * (pre ++ [e]).length := by simp; omega
      rcases hp with rfl | ⟨t, v, rfl, hpm⟩
      · simp [L21x0, hc, hlt, hg, applyA, eq_true h1, hn0, hle, hsz, ← List.append_assoc]
        exact apply_loop s hl hm rest (pre ++ [e]) _ _ _ _ _ _ (by simp [hs]) (by simp) ha' (AppOk.tok (by simp)) hlen
      · simp [L21x0, hc, hlt, hg, applyA, eq_true h1, hn0, hle, hsz, hpm, ← List.append_assoc]
        exact apply_loop s hl hm rest (pre ++ [e]) _ _ _ _ _ _ (by simp [hs]) (by simp) ha' (AppOk.tok (by simp)) hlen
    · by_cases h2 : e.op = 2
      · have hle : e.n ≤ a.length := by simp only [many, h2] at ha; simp at ha; omega
        have ha' : many 1 2 rest = (a.drop e.n.toNat).length := by simp only [many, h2] at ha; simp at ha ⊢; omega
        simp [L21x0, hc, hlt, hg, applyA, eq_false h1, eq_true h2, hn0, hle]
        exact apply_loop s hl hm rest (pre ++ [e]) _ _ _ _ _ _ (by simp [hs]) (by simp) ha' hp (by simp; omega)
      · have h3 : e.op = 3 := by omega
        have ha' : many 1 2 rest = a.length := by simp only [many] at ha; simpa [h1, h2] using ha
        have hel : (e.ls.length : Int) = e.n := hn3 h3
        have hsz : (out.length + e.ls.length) * 16 ≤ 140737488355328 := by omega
        have hlen : (out ++ e.ls.map AV.str).length ≤ 1048576 * (pre ++ [e]).length := by simp; omega
        rcases hp with rfl | ⟨t, v, rfl, hpm⟩
        · simp [L21x0, hc, hlt, hg, applyA, eq_false h1, eq_false h2, hsz, ← List.append_assoc]
          exact apply_loop s hl hm rest (pre ++ [e]) _ _ _ _ _ _ (by simp [hs]) (by simp) ha' (AppOk.tok (by simp)) hlen
        · simp [L21x0, hc, hlt, hg, applyA, eq_false h1, eq_false h2, hsz, hpm, ← List.append_assoc]
          exact apply_loop s hl hm rest (pre ++ [e]) _ _ _ _ _ _ (by simp [hs]) (by simp) ha' (AppOk.tok (by simp)) hlen
theorem fitsF_zero {s : List Edit} {n : Nat} (h : fitsF s n = 0) : rightB s = true ∧ many 1 2 s = n := by
  unfold fitsF at h
  split at h
  · rename_i h1
    split at h
    · rename_i h2; exact ⟨h1, h2⟩
    · simp at h
  · simp at h
theorem apply_den (s : List Edit) (hl : s.length ≤ 1048576) (a : List (List UInt8)) : Den Sy 21 [sE s, sS a] = some (.tup [.sl 1 (applyF s a.length (a.map .str)) .no, .int .i64 (fitsF s a.length)]) := by
  rw [Den_fun Sy (af := A21) rfl rfl _ rfl]
  have h0 := fits_den s (by omega) a
  by_cases hf : fitsF s a.length = 0
  · obtain ⟨hb, hm⟩ := fitsF_zero hf
    obtain ⟨ex, st', h, rfl, hd, q, hr⟩ := apply_loop s hl (rightF_may hb) s [] (a.map .str) [] .nil 0 (ofL []) none' rfl rfl (by simpa using hm) (AppOk.nil _) (by simp)
    simp [A21, h0, h, hd, hr, hf, applyF]
  · simp [A21, h0, hf, applyF]
theorem apply2_loop (s : List Edit) (hl : s.length ≤ 1048576) (hm : ∀ e ∈ s, mayB e = true) (a : List AV) (ha0 : many 1 2 s = a.length) : ∀ (rest pre : List Edit) (out : List AV) (p : Perm) (t : Nat) (i : Int) (bx : Bx) (pm : Pm), s = pre ++ rest → i = pre.length → t + many 1 2 rest = a.length → AppOk pm p → out.length ≤ 1048576 * pre.length →
    Res (RunD Sy (.loop L22x0) ⟨ofL [(0, sE s), (1, .sl 1 a .no), (7, .sl 1 out p), (8, .int .i64 t), (9, .int .i64 i)], bx, pm, none⟩) fun ex st' => ex = .exit 0 ∧ st'.df = none ∧ ∃ q, st'.env 7 = some (.sl 1 (out ++ applyA rest (a.drop t)) q)
  | [], pre, out, p, t, i, bx, pm, hs, hi, ha, hp, ho => by
    subst hi
    rw [List.append_nil] at hs
    subst hs
    rw [RunD_loop]
    simp [L22x0, applyA]
  | e :: rest, pre, out, p, t, i, bx, pm, hs, hi, ha, hp, ho => by
    have hlt : (pre.length : Int) < s.length := by rw [hs]; simp; omega
    have hg : (s.map eE)[pre.length]? = some (eE e) := by rw [hs]; simp
    have hme := hm e (by rw [hs]; simp)
    obtain ⟨hop, hn1, hn2, hn3, _⟩ := mayB_op hme
    have hrest : ∀ x ∈ rest, mayB x = true := fun x hx => hm x (by rw [hs]; simp [hx])
    have hmn := many_nn 1 2 hrest
    have hml := (many_le 1 2 hm).2
    simp only [eE] at hg
    subst hi
    have hc := chk_i64 ((pre.length : Int) + 1) (by omega)
    have hpl : pre.length < 1048576 := by omega
    obtain ⟨k, hk⟩ : ∃ k : Nat, e.n = k := ⟨e.n.toNat, by omega⟩
    rw [RunD_loop]
    by_cases h3 : e.op = 3
    · have h1 : ¬ e.op = 1 ∧ ¬ e.op = 2 := by omega
      have ha' : t + many 1 2 rest = a.length := by simp only [many] at ha; simpa [h1] using ha
      have hel : (e.ls.length : Int) = e.n := hn3 h3
      have hsz : (out.length + e.ls.length) * 16 ≤ 140737488355328 := by omega
      have hlen : (out ++ e.ls.map AV.str).length ≤ 1048576 * (pre ++ [e]).length := by simp; omega
      rcases hp with rfl | ⟨m, v, rfl, hpm⟩
      · simp [L22x0, hc, hlt, hg, applyA, eq_true h3, eq_false h1.1, eq_false h1.2, hsz, ← List.append_assoc]
        exact apply2_loop s hl hm a ha0 rest (pre ++ [e]) _ _ _ _ _ _ (by simp [hs]) (by simp) ha' (AppOk.tok (by simp)) hlen
      · simp [L22x0, hc, hlt, hg, applyA, eq_true h3, eq_false h1.1, eq_false h1.2, hsz, hpm, ← List.append_assoc]
        exact apply2_loop s hl hm a ha0 rest (pre ++ [e]) _ _ _ _ _ _ (by simp [hs]) (by simp) ha' (AppOk.tok (by simp)) hlen
    · have ho12 : e.op = 1 ∨ e.op = 2 := by omega
      have ha' : ((t + k : Nat) : Int) + many 1 2 rest = a.length := by simp only [many, eq_true ho12, if_true] at ha; omega
      have hc2 := chk_i64 ((t : Int) + k) (by omega)
      have htn : ((t : Int) + k).toNat = t + k := by omega
      by_cases h1 : e.op = 1
      · have hb1 : 0 ≤ (t : Int) + k := by omega
        have hb2 : (t : Int) + k ≤ a.length := by omega
        have hb3 : (t : Int) ≤ (t : Int) + k := by omega
        have hta : (a.take (t + k)).drop t = (a.drop t).take k := by rw [List.drop_take]; congr 1; omega
        have htl : ((a.drop t).take k).length = k := by simp; omega
        have hsz : (out.length + k) * 16 ≤ 140737488355328 := by omega
        have hmin : min k (a.length - t) = k := by omega
        have hlen : (out ++ (a.drop t).take k).length ≤ 1048576 * (pre ++ [e]).length := by rw [List.length_append, htl]; simp; omega
        rcases hp with rfl | ⟨m, v, rfl, hpm⟩
        · simp [L22x0, hc, hc2, hlt, hg, applyA, eq_false h3, eq_true h1, hk, htn, hb1, hb2, hb3, hta, hsz, hmin, ← List.append_assoc]
          exact apply2_loop s hl hm a ha0 rest (pre ++ [e]) _ _ (t + k) _ _ _ (by simp [hs]) (by simp) ha' (AppOk.tok (by simp)) hlen
        · simp [L22x0, hc, hc2, hlt, hg, applyA, eq_false h3, eq_true h1, hk, htn, hb1, hb2, hb3, hta, hsz, hmin, hpm, ← List.append_assoc]
          exact apply2_loop s hl hm a ha0 rest (pre ++ [e]) _ _ (t + k) _ _ _ (by simp [hs]) (by simp) ha' (AppOk.tok (by simp)) hlen
      · have h2 : e.op = 2 := by omega
        simp [L22x0, hc, hc2, hlt, hg, applyA, eq_false h3, eq_false h1, eq_true h2, hk]
        exact apply2_loop s hl hm a ha0 rest (pre ++ [e]) _ _ (t + k) _ _ _ (by simp [hs]) (by simp) ha' hp (by simp; omega)
theorem apply2_den (s : List Edit) (hl : s.length ≤ 1048576) (a : List (List UInt8)) : Den Sy 22 [sE s, sS a] = some (.tup [.sl 1 (applyF s a.length (a.map .str)) .no, .int .i64 (fitsF s a.length)]) := by
  rw [Den_fun Sy (af := A22) rfl rfl _ rfl]
  have h0 := fits2_den s (by omega) a
  by_cases hf : fitsF s a.length = 0
  · obtain ⟨hb, hm⟩ := fitsF_zero hf
    obtain ⟨ex, st', h, rfl, hd, q, hr⟩ := apply2_loop s hl (rightF_may hb) (a.map .str) (by simpa using hm) s [] [] .nil 0 0 (ofL []) none' rfl rfl (by simpa using hm) (AppOk.nil _) (by simp)
    simp only [Int.natCast_zero, List.nil_append, List.drop_zero] at h hr
    simp [A22, h0, h, hd, hr, hf, applyF]
  · simp [A22, h0, hf, applyF]
end Go.Proofs.YtdcgldhhdajocaaDoor.Rx
namespace Go.Proofs.YtdcgldhhdajocaaDoor.Rx
open Go
set_option linter.unusedSimpArgs false
set_option linter.unusedVariables false
attribute [simp] rowsOf AV.isAgg

theorem loop_step {a : ACode} {st : St} {Q : Ex → St → Prop} (h : ∀ K, K = RunD Sy (.loop a) → Res (andThen (RunD Sy a st) K) Q) : Res (RunD Sy (.loop a) st) Q := by
  rw [RunD_loop]
  exact h _ rfl
def inR (c : Int) : Prop := -9223372036854775808 ≤ c ∧ c ≤ 9223372036854775807
def pickF (c n : Int) : Int := (if c < 0 then -(c + 1) else c).tmod n
theorem pickF_lt (c : Int) {n : Int} (hn : 0 < n) : 0 ≤ pickF c n ∧ pickF c n < n := by
  unfold pickF
  split
  · exact ⟨Int.tmod_nonneg _ (by omega), Int.tmod_lt_of_pos _ hn⟩
  · exact ⟨Int.tmod_nonneg _ (by omega), Int.tmod_lt_of_pos _ hn⟩
theorem pick_den (c n : Int) (hc : inR c) (hn : 0 < n) : Den Sy 27 [.int .i64 c, .int .i64 n] = some (.int .i64 (pickF c n)) := by
  rw [Den_fun Sy (af := A27) rfl rfl _ rfl]
  obtain ⟨h1, h2⟩ := hc
  have h0 : ¬ n = 0 := by omega
  by_cases h : c < 0
  · have hc1 := chk_i64 (c + 1) (by omega)
    have hc2 := chk_i64 (0 - (c + 1)) (by omega)
    have e : (0 - (c + 1)) = -(c + 1) := by omega
    rw [e] at hc2
    simp [A27, h, hc1, hc2, h0, pickF]
  · simp [A27, h, h0, pickF]
theorem pick3_den (c n : Int) (hc : inR c) (hn : 0 < n) : Den Sy 38 [.int .i64 c, .int .i64 n] = some (.int .i64 (pickF c n)) := by
  rw [Den_fun Sy (af := A38) rfl rfl _ rfl]
  obtain ⟨h1, h2⟩ := hc
  have h0 : ¬ n = 0 := by omega
  by_cases h : c < 0
  · have hc1 := chk_i64 (c + 1) (by omega)
    have hc2 := chk_i64 (0 - (c + 1)) (by omega)
    have e : (0 - (c + 1)) = -(c + 1) := by omega
    rw [e] at hc2
    simp [A38, h, hc1, hc2, h0, pickF]
  · simp [A38, h, h0, pickF]

def kinds : List (List UInt8) := [[97, 10], [98, 10], [99, 10], [], [120, 58, 121, 59]]
def kindF (j : Int) : List UInt8 := kinds.getD j.toNat []
theorem kinds_get (j : Int) (h : 0 ≤ j ∧ j < 5) : [AV.str [97, 10], AV.str [98, 10], AV.str [99, 10], AV.str [], AV.str [120, 58, 121, 59]][j.toNat]? = some (.str (kindF j)) := by
  obtain ⟨k, rfl⟩ : ∃ k : Nat, j = k := ⟨j.toNat, by omega⟩
  have : k < 5 := by omega
  simp only [Int.toNat_natCast, kindF]
  match k, this with
  | 0, _ => rfl
  | 1, _ => rfl
  | 2, _ => rfl
  | 3, _ => rfl
  | 4, _ => rfl
abbrev iS (raw : List Int) : AV := .sl 1 (raw.map (.int .i64)) .no
/-- So many lines, of raw numbers, from the i-th on. -/
def fullG (raw : List Int) : Nat → Nat → List (List UInt8)
  | _, 0 => []
  | i, n + 1 => kindF (pickF (raw.getD i i) 5) :: fullG raw (i + 1) n
def fullF (raw : List Int) (n : Nat) : List (List UInt8) := fullG raw 0 n
theorem fullG_len (raw : List Int) : ∀ (n i : Nat), (fullG raw i n).length = n
  | 0, _ => rfl
  | n + 1, i => by simp [fullG, fullG_len raw n]
theorem full_loop (raw : List Int) (hr : ∀ c ∈ raw, inR c) (n : Nat) (hn : n ≤ 1048576) : ∀ (k i : Nat) (j : Int) (out : List AV) (p : Perm) (bx : Bx) (pm : Pm), j = i → i + k = n → AppOk pm p → out.length = i →
    Res (RunD Sy (.loop L31x0) ⟨ofL [(0, iS raw), (1, .int .i64 n), (5, .sl 1 out p), (6, .int .i64 j)], bx, pm, none⟩) fun ex st' => ex = .exit 0 ∧ st'.df = none ∧ ∃ q, st'.env 5 = some (.sl 1 (out ++ (fullG raw i k).map .str) q)
  | 0, i, j, out, p, bx, pm, hj, hi, hp, ho => by
    have : i = n := by omega
    subst this hj
    rw [RunD_loop]
    simp [L31x0, fullG]
  | k + 1, i, j, out, p, bx, pm, hj, hi, hp, ho => by
    subst hj
    have hlt : (i : Int) < n := by omega
    have hc := chk_i64 ((i : Int) + 1) (by omega)
    have hsz : (out.length + 1) * 16 ≤ 140737488355328 := by omega
    have hb := pickF_lt (raw.getD i i) (n := 5) (by omega)
    have hk := kinds_get _ hb
    have hin : inR (raw.getD i i) := by
      by_cases h : i < raw.length
      · simp only [List.getD, h, List.getElem?_eq_getElem, Option.getD_some]
        exact hr _ (List.getElem_mem h)
      · simp only [List.getD, List.getElem?_eq_none (Nat.le_of_not_lt h), Option.getD_none]
        exact ⟨by omega, by omega⟩
    have hpd := pick_den (raw.getD i i) 5 hin (by omega)
    refine loop_step fun K hK => ?_
    by_cases h : i < raw.length
    · have hg : (raw.map (AV.int .i64))[i]? = some (.int .i64 (raw.getD i i)) := by simp [h]
      have hlen : (out ++ [AV.str (kindF (pickF (raw.getD i i) 5))]).length = i + 1 := by simp [ho]
      have hlen' : (out ++ [AV.str (kindF (pickF (raw.getD i i) 5))]).length = i + 1 := by simp [ho]
      have htn := pickF_lt (raw.getD i i) (n := 5) (by omega)
      rcases hp with rfl | ⟨m, v, rfl, hpm⟩
      · simp [L31x0, -List.getD_eq_getElem?_getD, -getElem?_pos, -List.getElem?_map, hc, hlt, hg, h, hpd, hk, hb, hsz, fullG]
        rw [List.append_cons _ _ (List.map AV.str (fullG raw (i + 1) k)), hK]
        exact full_loop raw hr n hn k (i + 1) _ _ _ _ _ (by simp) (by omega) (AppOk.tok (by simp)) hlen
      · simp [L31x0, -List.getD_eq_getElem?_getD, -getElem?_pos, -List.getElem?_map, hc, hlt, hg, h, hpd, hk, hb, hsz, hpm, fullG]
        rw [List.append_cons _ _ (List.map AV.str (fullG raw (i + 1) k)), hK]
        exact full_loop raw hr n hn k (i + 1) _ _ _ _ _ (by simp) (by omega) (AppOk.tok (by simp)) hlen
    · have hd : raw.getD i i = i := by simp [List.getD, List.getElem?_eq_none (Nat.le_of_not_lt h)]
      rw [hd] at hpd hk hb
      have hlen : (out ++ [AV.str (kindF (pickF i 5))]).length = i + 1 := by simp [ho]
      rcases hp with rfl | ⟨m, v, rfl, hpm⟩
      · simp [L31x0, -List.getD_eq_getElem?_getD, -getElem?_pos, hc, hlt, h, hd, hpd, hk, hb, hsz, fullG]
        rw [List.append_cons _ _ (List.map AV.str (fullG raw (i + 1) k)), hK]
        exact full_loop raw hr n hn k (i + 1) _ _ _ _ _ (by simp) (by omega) (AppOk.tok (by simp)) hlen
      · simp [L31x0, -List.getD_eq_getElem?_getD, -getElem?_pos, hc, hlt, h, hd, hpd, hk, hb, hsz, hpm, fullG]
        rw [List.append_cons _ _ (List.map AV.str (fullG raw (i + 1) k)), hK]
        exact full_loop raw hr n hn k (i + 1) _ _ _ _ _ (by simp) (by omega) (AppOk.tok (by simp)) hlen
theorem full_den (raw : List Int) (hr : ∀ c ∈ raw, inR c) (n : Nat) (hn : n ≤ 1048576) : Den Sy 31 [iS raw, .int .i64 n] = some (sS (fullF raw n)) := by
  rw [Den_fun Sy (af := A31) rfl rfl _ rfl]
  obtain ⟨ex, st', h, rfl, hd, q, hr⟩ := full_loop raw hr n hn n 0 0 [] .nil (ofL []) none' rfl (by omega) (AppOk.nil _) rfl
  simp only [List.nil_append] at h hr
  simp [A31, h, hd, hr, fullF]
end Go.Proofs.YtdcgldhhdajocaaDoor.Rx
namespace Go.Proofs.YtdcgldhhdajocaaDoor.Rx
open Go
set_option linter.unusedSimpArgs false
set_option linter.unusedVariables false

theorem texts_loop (a b : List (List UInt8)) (hab : a.length = b.length) (hl : a.length ≤ 1099511627776) : ∀ (ra rb pa pb : List (List UInt8)) (i : Int) (bx : Bx) (pm : Pm), a = pa ++ ra → b = pb ++ rb → pa.length = pb.length → i = pa.length →
    Res (RunD Sy (.loop L25x0) ⟨ofL [(0, sS a), (1, sS b), (5, .int .i64 i)], bx, pm, none⟩) fun ex st' => st'.df = none ∧ if ra = rb then ex = .exit 0 else ex = .ret ∧ st'.env 4 = some (.bool false)
  | [], rb, pa, pb, i, bx, pm, ha, hb, hp, hi => by
    subst hi
    have : rb = [] := by
      have h1 := congrArg List.length ha
      have h2 := congrArg List.length hb
      simp at h1 h2
      exact List.eq_nil_of_length_eq_zero (by omega)
    subst this
    rw [List.append_nil] at ha
    subst ha
    rw [RunD_loop]
    simp [L25x0]
  | x :: ra, rb, pa, pb, i, bx, pm, ha, hb, hp, hi => by
    have hlt : (pa.length : Int) < a.length := by rw [ha]; simp; omega
    obtain ⟨y, rb, rfl⟩ : ∃ y r, rb = y :: r := by
      cases rb with
      | nil => have h1 := congrArg List.length ha; have h2 := congrArg List.length hb; simp at h1 h2; omega
      | cons y r => exact ⟨y, r, rfl⟩
    have hga : (a.map AV.str)[pa.length]? = some (.str x) := by rw [ha]; simp
    have hgb : (b.map AV.str)[pa.length]? = some (.str y) := by rw [hb, hp]; simp
    subst hi
    have hc := chk_i64 ((pa.length : Int) + 1) (by omega)
    refine loop_step fun K hK => ?_
    by_cases h : x = y
    · simp [L25x0, -getElem?_pos, -List.getElem?_map, hc, hlt, hga, hgb, binS, eq_true h]
      rw [hK]
      exact texts_loop a b hab hl ra rb (pa ++ [x]) (pb ++ [y]) _ _ _ (by simp [ha]) (by simp [hb]) (by simp [hp]) (by simp)
    · simp [L25x0, -getElem?_pos, -List.getElem?_map, hc, hlt, hga, hgb, binS, eq_false h]
theorem texts_den (a b : List (List UInt8)) (hl : a.length ≤ 1099511627776) : Den Sy 25 [sS a, sS b] = some (.bool (decide (a = b))) := by
  rw [Den_fun Sy (af := A25) rfl rfl _ rfl]
  by_cases hab : a.length = b.length
  · obtain ⟨ex, st', h, hd, hr⟩ := texts_loop a b hab hl a b [] [] 0 (ofL []) none' rfl rfl rfl rfl
    by_cases e : a = b
    · rw [if_pos e] at hr
      subst hr
      simp [A25, h, hd, hab, eq_true e]
    · rw [if_neg e] at hr
      obtain ⟨rfl, h2⟩ := hr
      simp [A25, h, hd, h2, hab, eq_false e]
  · have : ¬ a = b := fun e => hab (by rw [e])
    have hab' : ¬ (a.length : Int) = b.length := by omega
    simp [A25, hab', this]

theorem same_inner (a b : List Edit) (x y : Edit) (m : Nat) (hm : m < 1099511627776) (hga : (a.map eE)[m]? = some (eE x)) (hgb : (b.map eE)[m]? = some (eE y)) (hxy : x.ls.length = y.ls.length) (hl : x.ls.length ≤ 1099511627776) : ∀ (ra rb pa pb : List (List UInt8)) (i : Int) (bx : Bx) (pm : Pm), x.ls = pa ++ ra → y.ls = pb ++ rb → pa.length = pb.length → i = pa.length →
    Res (RunD Sy (.loop L26x0) ⟨ofL [(0, sE a), (1, sE b), (5, .int .i64 m), (6, .int .i64 i)], bx, pm, none⟩) fun ex st' => if ra = rb then ex = .exit 2 ∧ ∃ v bx' pm', st' = ⟨ofL [(0, sE a), (1, sE b), (5, .int .i64 m), (6, v), (64, .bool false)], bx', pm', none⟩ else st'.df = none ∧ ex = .ret ∧ st'.env 4 = some (.bool false)
  | [], rb, pa, pb, i, bx, pm, ha, hb, hp, hi => by
    subst hi
    have : rb = [] := by
      have h1 := congrArg List.length ha
      have h2 := congrArg List.length hb
      simp at h1 h2
      exact List.eq_nil_of_length_eq_zero (by omega)
    subst this
    rw [List.append_nil] at ha
    simp only [eE] at hga hgb
    rw [RunD_loop]
    simp [L26x0, -getElem?_pos, -List.getElem?_map, hga, ← ha]
    exact ⟨_, rfl⟩
  | u :: ra, rb, pa, pb, i, bx, pm, ha, hb, hp, hi => by
    have hlt : (pa.length : Int) < x.ls.length := by rw [ha]; simp; omega
    obtain ⟨v, rb, rfl⟩ : ∃ y r, rb = y :: r := by
      cases rb with
      | nil => have h1 := congrArg List.length ha; have h2 := congrArg List.length hb; simp at h1 h2; omega
      | cons y r => exact ⟨y, r, rfl⟩
    have hgu : (x.ls.map AV.str)[pa.length]? = some (.str u) := by rw [ha]; simp
    have hgv : (y.ls.map AV.str)[pa.length]? = some (.str v) := by rw [hb, hp]; simp
    subst hi
    have hc := chk_i64 ((pa.length : Int) + 1) (by omega)
    have hga' := hga
    have hgb' := hgb
    simp only [eE] at hga' hgb'
    refine loop_step fun K hK => ?_
    by_cases h : u = v
    · simp [L26x0, -getElem?_pos, -List.getElem?_map, hc, hlt, hga', hgb', hgu, hgv, binS, eq_true h]
      rw [hK]
      exact same_inner a b x y m hm hga hgb hxy hl ra rb (pa ++ [u]) (pb ++ [v]) _ _ _ (by simp [ha]) (by simp [hb]) (by simp [hp]) (by simp)
    · simp [L26x0, -getElem?_pos, -List.getElem?_map, hc, hlt, hga', hgb', hgu, hgv, binS, eq_false h]
theorem same_loop (a b : List Edit) (hab : a.length = b.length) (hl : a.length ≤ 1099511627776) (hls : ∀ e ∈ a, e.ls.length ≤ 1099511627776) : ∀ (ra rb pa pb : List Edit) (i : Int) (bx : Bx) (pm : Pm), a = pa ++ ra → b = pb ++ rb → pa.length = pb.length → i = pa.length →
    Res (RunD Sy (.loop L26x1) ⟨ofL [(0, sE a), (1, sE b), (5, .int .i64 i)], bx, pm, none⟩) fun ex st' => st'.df = none ∧ if ra = rb then ex = .exit 0 else ex = .ret ∧ st'.env 4 = some (.bool false)
  | [], rb, pa, pb, i, bx, pm, ha, hb, hp, hi => by
    subst hi
    have : rb = [] := by
      have h1 := congrArg List.length ha
      have h2 := congrArg List.length hb
      simp at h1 h2
      exact List.eq_nil_of_length_eq_zero (by omega)
    subst this
    rw [List.append_nil] at ha
    subst ha
    rw [RunD_loop]
    simp [L26x1]
  | x :: ra, rb, pa, pb, i, bx, pm, ha, hb, hp, hi => by
    have hlt : (pa.length : Int) < a.length := by rw [ha]; simp; omega
    obtain ⟨y, rb, rfl⟩ : ∃ y r, rb = y :: r := by
      cases rb with
      | nil => have h1 := congrArg List.length ha; have h2 := congrArg List.length hb; simp at h1 h2; omega
      | cons y r => exact ⟨y, r, rfl⟩
    have hga : (a.map eE)[pa.length]? = some (eE x) := by rw [ha]; simp
    have hgb : (b.map eE)[pa.length]? = some (eE y) := by rw [hb, hp]; simp
    subst hi
    have hc := chk_i64 ((pa.length : Int) + 1) (by omega)
    have hga' := hga
    have hgb' := hgb
    simp only [eE] at hga' hgb'
    refine loop_step fun K hK => ?_
    by_cases h1 : x.op = y.op
    · by_cases h2 : x.n = y.n
      · by_cases h3 : x.ls.length = y.ls.length
        · have h3' : (x.ls.length : Int) = y.ls.length := by omega
          have hin := same_inner a b x y pa.length (by omega) hga hgb h3 (hls x (by rw [ha]; simp)) x.ls y.ls [] [] 0 bx pm rfl rfl rfl rfl
          obtain ⟨ex, st', hi, hr⟩ := hin
          by_cases h4 : x.ls = y.ls
          · have hxy : x = y := by cases x; cases y; simp only [Edit.mk.injEq]; exact ⟨h1, h2, h4⟩
            rw [if_pos h4] at hr
            obtain ⟨rfl, v, bx', pm', rfl⟩ := hr
            simp [L26x1, -getElem?_pos, -List.getElem?_map, hc, hlt, hga', hgb', eq_true h1, eq_true h2, eq_true h3', hi, eq_true hxy]
            rw [hK]
            exact same_loop a b hab hl hls ra rb (pa ++ [x]) (pb ++ [y]) _ _ _ (by simp [ha]) (by simp [hb]) (by simp [hp]) (by simp)
          · have hxy : ¬ x = y := fun e => h4 (by rw [e])
            rw [if_neg h4] at hr
            obtain ⟨hd, rfl, h5⟩ := hr
            simp [L26x1, -getElem?_pos, -List.getElem?_map, hc, hlt, hga', hgb', eq_true h1, eq_true h2, eq_true h3', hi, eq_false hxy, hd, h5]
        · have hxy : ¬ x = y := fun e => h3 (by rw [e])
          have h3' : ¬ (x.ls.length : Int) = y.ls.length := by omega
          simp [L26x1, -getElem?_pos, -List.getElem?_map, hc, hlt, hga', hgb', eq_true h1, eq_true h2, eq_false h3', eq_false hxy]
      · have hxy : ¬ x = y := fun e => h2 (by rw [e])
        simp [L26x1, -getElem?_pos, -List.getElem?_map, hc, hlt, hga', hgb', eq_true h1, eq_false h2, eq_false hxy]
    · have hxy : ¬ x = y := fun e => h1 (by rw [e])
      simp [L26x1, -getElem?_pos, -List.getElem?_map, hc, hlt, hga', hgb', eq_false h1, eq_false hxy]
theorem same_den (a b : List Edit) (hl : a.length ≤ 1099511627776) (hls : ∀ e ∈ a, e.ls.length ≤ 1099511627776) : Den Sy 26 [sE a, sE b] = some (.bool (decide (a = b))) := by
  rw [Den_fun Sy (af := A26) rfl rfl _ rfl]
  by_cases hab : a.length = b.length
  · obtain ⟨ex, st', h, hd, hr⟩ := same_loop a b hab hl hls a b [] [] 0 (ofL []) none' rfl rfl rfl rfl
    by_cases e : a = b
    · rw [if_pos e] at hr
      subst hr
      simp [A26, h, hd, hab, eq_true e]
    · rw [if_neg e] at hr
      obtain ⟨rfl, h2⟩ := hr
      simp [A26, h, hd, h2, hab, eq_false e]
  · have : ¬ a = b := fun e => hab (by rw [e])
    have hab' : ¬ (a.length : Int) = b.length := by omega
    simp [A26, hab', this]
/-! ### Raw numbers' scripts -/
def mkE (c : Int) (r : List Int) : Edit := ⟨1 + pickF c 3, 1 + pickF (c.tdiv 3) 4, if 1 + pickF c 3 = 3 then fullF (c :: r) (1 + pickF (c.tdiv 3) 4).toNat else []⟩
def skipB (last op : Int) : Bool := decide (last = op) || decide (last = 3 ∧ op = 2)
def scriptG : Nat → List Int → Int → List Edit
  | 0, _, _ => []
  | _ + 1, [], _ => []
  | k + 1, c :: r, last => if skipB last (mkE c r).op = true then scriptG k r last else mkE c r :: scriptG k r (mkE c r).op
def scriptF (raw : List Int) : List Edit := scriptG 10 raw 0
theorem mkE_may (c : Int) (r : List Int) : mayB (mkE c r) = true := by
  have h1 := pickF_lt c (n := 3) (by omega)
  have h2 := pickF_lt (c.tdiv 3) (n := 4) (by omega)
  have e1 : (mkE c r).op = 1 + pickF c 3 := rfl
  have e2 : (mkE c r).n = 1 + pickF (c.tdiv 3) 4 := rfl
  unfold mayB
  simp only [Bool.and_eq_true, decide_eq_true_eq]
  refine ⟨by omega, ?_⟩
  by_cases h3 : 1 + pickF c 3 = 3
  · rw [if_neg (by omega), if_pos (by omega)]
    simp only [mkE, if_pos h3, decide_eq_true_eq, fullF, fullG_len]
    omega
  · rw [if_pos (by omega)]
    simp [mkE, if_neg h3]
theorem scriptG_right : ∀ (k : Nat) (r : List Int) (last : Int), rightF last (scriptG k r last) = true
  | 0, _, _ => rfl
  | _ + 1, [], _ => rfl
  | k + 1, c :: r, last => by
    unfold scriptG
    split
    · exact scriptG_right k r last
    · rename_i h
      simp only [skipB, Bool.or_eq_true, decide_eq_true_eq, not_or] at h
      simp only [rightF, mkE_may, scriptG_right k r, Bool.and_true, Bool.true_and, Bool.and_eq_true, decide_eq_true_eq, Bool.not_eq_true', decide_eq_false_iff_not]
      exact ⟨fun e => h.1 e.symm, h.2⟩
theorem scriptF_right (raw : List Int) : rightB (scriptF raw) = true := scriptG_right _ _ _
theorem scriptG_len : ∀ (k : Nat) (r : List Int) (last : Int), (scriptG k r last).length ≤ k
  | 0, _, _ => by simp [scriptG]
  | _ + 1, [], _ => by simp [scriptG]
  | k + 1, c :: r, last => by
    unfold scriptG
    split
    · have := scriptG_len k r last; omega
    · have := scriptG_len k r (mkE c r).op
      simp
      omega
theorem scriptG_small : ∀ (k : Nat) (r : List Int) (last : Int), ∀ e ∈ scriptG k r last, e.n ≤ 4
  | 0, _, _, e, he => by simp [scriptG] at he
  | _ + 1, [], _, e, he => by simp [scriptG] at he
  | k + 1, c :: r, last, e, he => by
    unfold scriptG at he
    split at he
    · exact scriptG_small k r last e he
    · rcases List.mem_cons.1 he with rfl | he
      · have h2 := pickF_lt (c.tdiv 3) (n := 4) (by omega)
        have e2 : (mkE c r).n = 1 + pickF (c.tdiv 3) 4 := rfl
        omega
      · exact scriptG_small k r _ e he
end Go.Proofs.YtdcgldhhdajocaaDoor.Rx
namespace Go.Proofs.YtdcgldhhdajocaaDoor.Rx
open Go
set_option linter.unusedSimpArgs false
set_option linter.unusedVariables false
attribute [simp] build

theorem lastOp_snoc (l : List Edit) (p : Edit) : lastOp (l ++ [p]) = p.op := by simp [lastOp]
theorem tdiv3_in {c : Int} (h : inR c) : inR (c.tdiv 3) := by
  obtain ⟨h1, h2⟩ := h
  rcases Int.lt_or_le c 0 with h | h
  · have e : c.tdiv 3 = -((-c).tdiv 3) := by rw [Int.neg_tdiv, Int.neg_neg]
    have e2 : (-c).tdiv 3 = (-c) / 3 := Int.tdiv_eq_ediv_of_nonneg (by omega)
    constructor <;> omega
  · have e2 : c.tdiv 3 = c / 3 := Int.tdiv_eq_ediv_of_nonneg h
    constructor <;> omega
set_option maxHeartbeats 4000000 in
theorem script_loop (raw lines : List Int) (hr : ∀ c ∈ raw, inR c) : ∀ (k : Nat) (rest pre : List Int) (oe : List Edit) (out : List AV) (p : Perm) (last take i : Int) (bx : Bx) (pm : Pm), raw = pre ++ rest → i = pre.length → k + pre.length = 10 → out = oe.map eE → last = lastOp oe → AppOk pm p → oe.length ≤ pre.length → 0 ≤ take ∧ take ≤ 4 * pre.length →
    Res (RunD Sy (.loop L11x0) ⟨ofL [(0, iS raw), (1, iS lines), (6, .sl 3 out p), (7, .int .i64 take), (8, .int .i64 i)], bx, pm, none⟩) fun ex st' => ex = .exit 0 ∧ st'.df = none ∧ st'.env 1 = some (iS lines) ∧ st'.env 7 = some (.int .i64 (take + many 1 2 (scriptG k rest last))) ∧
      ∃ q, st'.env 6 = some (.sl 3 (out ++ (scriptG k rest last).map eE) q)
  | 0, rest, pre, oe, out, p, last, take, i, bx, pm, hs, hi, hk, ho, hla, hp, hol, ht => by
    subst hi
    have hpl : pre.length = 10 := by omega
    refine loop_step fun K hK => ?_
    by_cases h : (10 : Int) < raw.length
    · simp [L11x0, hpl, h, scriptG, many]
    · simp [L11x0, hpl, h, scriptG, many]
  | k + 1, [], pre, oe, out, p, last, take, i, bx, pm, hs, hi, hk, ho, hla, hp, hol, ht => by
    subst hi
    rw [List.append_nil] at hs
    subst hs
    refine loop_step fun K hK => ?_
    simp [L11x0, scriptG, many]
  | k + 1, c :: rest, pre, oe, out, p, last, take, i, bx, pm, hs, hi, hk, ho, hla, hp, hol, ht => by
    have hlt : (pre.length : Int) < raw.length := by rw [hs]; simp; omega
    have hl10 : (pre.length : Int) < 10 := by omega
    have hg : (raw.map (AV.int .i64))[pre.length]? = some (.int .i64 c) := by rw [hs]; simp
    have hcin : inR c := hr c (by rw [hs]; simp)
    have hc3 := tdiv3_in hcin
    have hp3 := pick_den c 3 hcin (by omega)
    have hp4 := pick_den (c.tdiv 3) 4 hc3 (by omega)
    have hb3 := pickF_lt c (n := 3) (by omega)
    have hb4 := pickF_lt (c.tdiv 3) (n := 4) (by omega)
    have hq := chk_i64 (c.tdiv 3) hc3
    have hdr : (raw.map (AV.int .i64)).drop pre.length = .int .i64 c :: rest.map (AV.int .i64) := by rw [hs]; simp
    have htk : (raw.map (AV.int .i64)).take raw.length = raw.map (AV.int .i64) := List.take_of_length_le (by simp)
    subst hi
    have hc := chk_i64 ((pre.length : Int) + 1) (by omega)
    obtain ⟨x, hx⟩ : ∃ x, x = mkE c rest := ⟨_, rfl⟩
    have hxo : x.op = 1 + pickF c 3 := by rw [hx]; rfl
    have hxn : x.n = 1 + pickF (c.tdiv 3) 4 := by rw [hx]; rfl
    have hxl : x.ls = if x.op = 3 then fullF (c :: rest) x.n.toNat else [] := by rw [hx]; rfl
    have ho13 : 1 ≤ x.op ∧ x.op ≤ 3 := by omega
    have hn14 : 1 ≤ x.n ∧ x.n ≤ 4 := by omega
    have hco : chk .i64 (1 + pickF c 3) = some (.int .i64 x.op) := by rw [← hxo]; exact chk_i64 _ (by omega)
    have hcm : chk .i64 (1 + pickF (c.tdiv 3) 4) = some (.int .i64 x.n) := by rw [← hxn]; exact chk_i64 _ (by omega)
    have hct := chk_i64 (take + x.n) (by omega)
    have hnn : ((x.n.toNat : Nat) : Int) = x.n := by omega
    have hfull := full_den (c :: rest) (fun x hx => hr x (by rw [hs]; exact List.mem_append_right _ hx)) x.n.toNat (by omega)
    rw [hnn] at hfull
    simp only [iS, List.map_cons] at hfull
    have hle : (pre.length : Int) ≤ raw.length := by omega
    have hsz : (out.length + 1) * 40 ≤ 140737488355328 := by rw [ho]; simp; omega
    have hsn : lastOp (oe ++ [x]) = x.op := lastOp_snoc oe x
    have ho' : out ++ [AV.agg [.int .i64 x.op, .int .i64 x.n, .sl 1 (x.ls.map AV.str) .no]] = (oe ++ [x]).map eE := by rw [ho]; simp [eE]
    have hg2 : scriptG (k + 1) (c :: rest) last = if skipB last x.op = true then scriptG k rest last else x :: scriptG k rest x.op := by rw [hx]; rfl
    refine loop_step fun K hK => ?_
    by_cases h3 : x.op = 3
    · have hl3 : x.ls = fullF (c :: rest) x.n.toNat := by rw [hxl, if_pos h3]
      rw [← hl3] at hfull
      have h12 : ¬ (x.op = 1 ∨ x.op = 2) := by omega
      have h2 : ¬ x.op = 2 := by omega
      rcases nil_or_last oe with rfl | ⟨l, p0, rfl⟩
      · have hla0 : last = 0 := hla
        subst hla0
        have ho0 : out = [] := ho
        subst ho0
        have hsk : skipB 0 x.op = false := by simp [skipB]; omega
        rcases hp with rfl | ⟨m, v, rfl, hpm⟩
        · simp [L11x0, -getElem?_pos, -List.getElem?_map, hlt, hl10, hg, hp3, hp4, hq, hc, hco, hcm, hct, eq_true h3, eq_false h12, hfull, htk, hdr, hle, hg2, many, hsk]
          rw [hK]
          exact script_loop raw lines hr k rest (pre ++ [c]) ([] ++ [x]) _ _ _ _ _ _ _ (by simp [hs]) (by simp) (by simp; omega) ho' hsn.symm (AppOk.tok (by simp)) (by simp) (by simp; omega)
        · simp [L11x0, -getElem?_pos, -List.getElem?_map, hlt, hl10, hg, hp3, hp4, hq, hc, hco, hcm, hct, eq_true h3, eq_false h12, hfull, htk, hdr, hle, hg2, many, hsk, hpm]
          rw [hK]
          exact script_loop raw lines hr k rest (pre ++ [c]) ([] ++ [x]) _ _ _ _ _ _ _ (by simp [hs]) (by simp) (by simp; omega) ho' hsn.symm (AppOk.tok (by simp)) (by simp) (by simp; omega)
      · have hla0 : last = p0.op := by rw [hla, lastOp_snoc]
        subst hla0
        have hlen : (out.length : Int) = l.length + 1 := by rw [ho]; simp
        have hll : (l.length : Int) + 1 ≤ pre.length := by simp at hol; omega
        have hc2 := chk_i64 (l.length : Int) (by omega)
        have hgp : out[l.length]? = some (.agg [.int .i64 p0.op, .int .i64 p0.n, .sl 1 (p0.ls.map AV.str) .no]) := by rw [ho]; simp [eE]
        by_cases hsame : p0.op = x.op
        · have hsk : skipB p0.op x.op = true := by simp [skipB, hsame]
          simp [L11x0, -getElem?_pos, -List.getElem?_map, hlt, hl10, hg, hp3, hp4, hq, hc, hco, hcm, hct, eq_true h3, eq_false h12, hfull, htk, hdr, hle, hg2, many, hsk, hlen, hc2, hgp, eq_true hsame]
          rw [hK]
          exact script_loop raw lines hr k rest (pre ++ [c]) (l ++ [p0]) _ _ _ _ _ _ _ (by simp [hs]) (by simp) (by simp; omega) ho (lastOp_snoc _ _).symm hp (by simp at hol ⊢; omega) (by simp; omega)
        · have h33 : ¬ p0.op = 3 := fun e => hsame (by omega)
          have hsk : skipB p0.op x.op = false := by simp [skipB, hsame, h2]
          rcases hp with rfl | ⟨m, v, rfl, hpm⟩
          · simp [L11x0, -getElem?_pos, -List.getElem?_map, hlt, hl10, hg, hp3, hp4, hq, hc, hco, hcm, hct, eq_true h3, eq_false h12, hfull, htk, hdr, hle, hg2, many, hsk, hlen, hc2, hgp, eq_false hsame, eq_false h33, hsz]
            rw [hK, List.append_cons _ _ (List.map eE (scriptG k rest x.op))]
            exact script_loop raw lines hr k rest (pre ++ [c]) (l ++ [p0] ++ [x]) _ _ _ _ _ _ _ (by simp [hs]) (by simp) (by simp; omega) ho' hsn.symm (AppOk.tok (by simp)) (by simp at hol ⊢; omega) (by simp; omega)
          · simp [L11x0, -getElem?_pos, -List.getElem?_map, hlt, hl10, hg, hp3, hp4, hq, hc, hco, hcm, hct, eq_true h3, eq_false h12, hfull, htk, hdr, hle, hg2, many, hsk, hlen, hc2, hgp, eq_false hsame, eq_false h33, hsz, hpm]
            rw [hK, List.append_cons _ _ (List.map eE (scriptG k rest x.op))]
            exact script_loop raw lines hr k rest (pre ++ [c]) (l ++ [p0] ++ [x]) _ _ _ _ _ _ _ (by simp [hs]) (by simp) (by simp; omega) ho' hsn.symm (AppOk.tok (by simp)) (by simp at hol ⊢; omega) (by simp; omega)
    · have hl3 : x.ls = [] := by rw [hxl, if_neg h3]
      have h12 : x.op = 1 ∨ x.op = 2 := by omega
      rw [hl3] at ho'
      simp only [List.map_nil] at ho'
      have hEx : eE x = .agg [.int .i64 x.op, .int .i64 x.n, .sl 1 [] .no] := by simp [eE, hl3]
      rcases nil_or_last oe with rfl | ⟨l, p0, rfl⟩
      · have hla0 : last = 0 := hla
        subst hla0
        have ho0 : out = [] := ho
        subst ho0
        have hsk : skipB 0 x.op = false := by simp [skipB]; omega
        rcases hp with rfl | ⟨m, v, rfl, hpm⟩
        · simp [L11x0, -getElem?_pos, -List.getElem?_map, hlt, hl10, hg, hp3, hp4, hq, hc, hco, hcm, hct, eq_false h3, eq_true h12, hEx, htk, hdr, hle, hg2, many, hsk, ← Int.add_assoc]
          rw [hK]
          exact script_loop raw lines hr k rest (pre ++ [c]) ([] ++ [x]) _ _ _ _ _ _ _ (by simp [hs]) (by simp) (by simp; omega) ho' hsn.symm (AppOk.tok (by simp)) (by simp) (by simp; omega)
        · simp [L11x0, -getElem?_pos, -List.getElem?_map, hlt, hl10, hg, hp3, hp4, hq, hc, hco, hcm, hct, eq_false h3, eq_true h12, hEx, htk, hdr, hle, hg2, many, hsk, hpm, ← Int.add_assoc]
          rw [hK]
          exact script_loop raw lines hr k rest (pre ++ [c]) ([] ++ [x]) _ _ _ _ _ _ _ (by simp [hs]) (by simp) (by simp; omega) ho' hsn.symm (AppOk.tok (by simp)) (by simp) (by simp; omega)
      · have hla0 : last = p0.op := by rw [hla, lastOp_snoc]
        subst hla0
        have hlen : (out.length : Int) = l.length + 1 := by rw [ho]; simp
        have hll : (l.length : Int) + 1 ≤ pre.length := by simp at hol; omega
        have hc2 := chk_i64 (l.length : Int) (by omega)
        have hgp : out[l.length]? = some (.agg [.int .i64 p0.op, .int .i64 p0.n, .sl 1 (p0.ls.map AV.str) .no]) := by rw [ho]; simp [eE]
        by_cases hsame : p0.op = x.op
        · have hsk : skipB p0.op x.op = true := by simp [skipB, hsame]
          simp [L11x0, -getElem?_pos, -List.getElem?_map, hlt, hl10, hg, hp3, hp4, hq, hc, hco, hcm, hct, eq_false h3, eq_true h12, hEx, htk, hdr, hle, hg2, many, hsk, hlen, hc2, hgp, eq_true hsame]
          rw [hK]
          exact script_loop raw lines hr k rest (pre ++ [c]) (l ++ [p0]) _ _ _ _ _ _ _ (by simp [hs]) (by simp) (by simp; omega) ho (lastOp_snoc _ _).symm hp (by simp at hol ⊢; omega) (by simp; omega)
        · by_cases hput : p0.op = 3 ∧ x.op = 2
          · have hsk : skipB p0.op x.op = true := by simp [skipB, hput]
            simp [L11x0, -getElem?_pos, -List.getElem?_map, hlt, hl10, hg, hp3, hp4, hq, hc, hco, hcm, hct, eq_false h3, eq_true h12, hEx, htk, hdr, hle, hg2, many, hsk, hlen, hc2, hgp, eq_false hsame, eq_true hput.1, eq_true hput.2]
            rw [hK]
            exact script_loop raw lines hr k rest (pre ++ [c]) (l ++ [p0]) _ _ _ _ _ _ _ (by simp [hs]) (by simp) (by simp; omega) ho (lastOp_snoc _ _).symm hp (by simp at hol ⊢; omega) (by simp; omega)
          · have hsk : skipB p0.op x.op = false := by simp only [skipB, hsame, decide_false, Bool.false_or, decide_eq_false_iff_not]; exact hput
            by_cases h33 : p0.op = 3
            · have h2 : ¬ x.op = 2 := fun e => hput ⟨h33, e⟩
              have h1 : x.op = 1 := by omega
              rcases hp with rfl | ⟨m, v, rfl, hpm⟩
              · simp [L11x0, -getElem?_pos, -List.getElem?_map, hlt, hl10, hg, hp3, hp4, hq, hc, hco, hcm, hct, eq_false h3, eq_true h12, hEx, htk, hdr, hle, hg2, many, hsk, hlen, hc2, hgp, eq_false hsame, eq_true h33, eq_false h2, eq_true h1, hsz, ← Int.add_assoc]
                rw [hK, List.append_cons _ _ (List.map eE (scriptG k rest x.op))]
                exact script_loop raw lines hr k rest (pre ++ [c]) (l ++ [p0] ++ [x]) _ _ _ _ _ _ _ (by simp [hs]) (by simp) (by simp; omega) ho' hsn.symm (AppOk.tok (by simp)) (by simp at hol ⊢; omega) (by simp; omega)
              · simp [L11x0, -getElem?_pos, -List.getElem?_map, hlt, hl10, hg, hp3, hp4, hq, hc, hco, hcm, hct, eq_false h3, eq_true h12, hEx, htk, hdr, hle, hg2, many, hsk, hlen, hc2, hgp, eq_false hsame, eq_true h33, eq_false h2, eq_true h1, hsz, hpm, ← Int.add_assoc]
                rw [hK, List.append_cons _ _ (List.map eE (scriptG k rest x.op))]
                exact script_loop raw lines hr k rest (pre ++ [c]) (l ++ [p0] ++ [x]) _ _ _ _ _ _ _ (by simp [hs]) (by simp) (by simp; omega) ho' hsn.symm (AppOk.tok (by simp)) (by simp at hol ⊢; omega) (by simp; omega)
            · rcases hp with rfl | ⟨m, v, rfl, hpm⟩
              · simp [L11x0, -getElem?_pos, -List.getElem?_map, hlt, hl10, hg, hp3, hp4, hq, hc, hco, hcm, hct, eq_false h3, eq_true h12, hEx, htk, hdr, hle, hg2, many, hsk, hlen, hc2, hgp, eq_false hsame, eq_false h33, hsz, ← Int.add_assoc]
                rw [hK, List.append_cons _ _ (List.map eE (scriptG k rest x.op))]
                exact script_loop raw lines hr k rest (pre ++ [c]) (l ++ [p0] ++ [x]) _ _ _ _ _ _ _ (by simp [hs]) (by simp) (by simp; omega) ho' hsn.symm (AppOk.tok (by simp)) (by simp at hol ⊢; omega) (by simp; omega)
              · simp [L11x0, -getElem?_pos, -List.getElem?_map, hlt, hl10, hg, hp3, hp4, hq, hc, hco, hcm, hct, eq_false h3, eq_true h12, hEx, htk, hdr, hle, hg2, many, hsk, hlen, hc2, hgp, eq_false hsame, eq_false h33, hsz, hpm, ← Int.add_assoc]
                rw [hK, List.append_cons _ _ (List.map eE (scriptG k rest x.op))]
                exact script_loop raw lines hr k rest (pre ++ [c]) (l ++ [p0] ++ [x]) _ _ _ _ _ _ _ (by simp [hs]) (by simp) (by simp; omega) ho' hsn.symm (AppOk.tok (by simp)) (by simp at hol ⊢; omega) (by simp; omega)
theorem many_le4 (a b : Int) : ∀ {s : List Edit}, (∀ e ∈ s, e.n ≤ 4) → many a b s ≤ 4 * s.length
  | [], _ => by simp [many]
  | e :: s, h => by
    have h1 := h e (by simp)
    have h2 := many_le4 a b (s := s) (fun x hx => h x (by simp [hx]))
    simp only [many, List.length_cons]
    split <;> omega
theorem script_many (raw : List Int) (a b : Int) : 0 ≤ many a b (scriptF raw) ∧ many a b (scriptF raw) ≤ 40 ∧ (scriptF raw).length ≤ 10 := by
  have h1 := many_nn a b (rightF_may (scriptF_right raw))
  have h2 := many_le4 a b (scriptG_small 10 raw 0)
  have h3 := scriptG_len 10 raw 0
  have e : scriptG 10 raw 0 = scriptF raw := rfl
  rw [e] at h2 h3
  exact ⟨h1, by omega, h3⟩
/-- The script of raw numbers, and the lines that it takes. -/
theorem script_den (raw lines : List Int) (hr : ∀ c ∈ raw, inR c) (hl : ∀ c ∈ lines, inR c) : Den Sy 11 [iS raw, iS lines] = some (.tup [sE (scriptF raw), sS (fullF lines (many 1 2 (scriptF raw)).toNat)]) := by
  rw [Den_fun Sy (af := A11) rfl rfl _ rfl]
  obtain ⟨ex, st', h, rfl, hd, h1, h7, q, h6⟩ := script_loop raw lines hr 10 raw [] [] [] .nil 0 0 0 (ofL []) none' rfl rfl rfl rfl rfl (AppOk.nil _) (by simp) (by simp)
  obtain ⟨hm1, hm2, hlen⟩ := script_many raw 1 2
  have e : scriptG 10 raw 0 = scriptF raw := rfl
  rw [e] at h6 h7
  have hf := full_den lines hl (many 1 2 (scriptF raw)).toNat (by omega)
  have hn : (((many 1 2 (scriptF raw)).toNat : Nat) : Int) = many 1 2 (scriptF raw) := by omega
  rw [hn] at hf
  simp only [List.nil_append, Int.zero_add] at h6 h7
  simp [A11, h, hd, h1, h6, h7, hf]
end Go.Proofs.YtdcgldhhdajocaaDoor.Rx
namespace Go.Proofs.YtdcgldhhdajocaaDoor.Rx
open Go
set_option linter.unusedSimpArgs false
set_option linter.unusedVariables false
attribute [simp] insN

def cellsE (oe : List Edit) : List AV := (oe.map eE).flatMap AV.cells
theorem cellsE_app (a b : List Edit) : cellsE (a ++ b) = cellsE a ++ cellsE b := by simp [cellsE]
theorem cellsE_one (x : Edit) : cellsE [x] = [.int .i64 x.op, .int .i64 x.n, .sl 1 (x.ls.map .str) .no] := by simp [cellsE, eE]
theorem cellsE_cons (x : Edit) (l : List Edit) : cellsE (x :: l) = [.int .i64 x.op, .int .i64 x.n, .sl 1 (x.ls.map .str) .no] ++ cellsE l := by simp [cellsE, eE]
theorem cellsE_len : ∀ oe : List Edit, (cellsE oe).length = oe.length * 3
  | [] => rfl
  | x :: l => by rw [cellsE_cons, List.length_append, cellsE_len l]; simp; omega
theorem deadC_cells (x y : AV) (l : List AV) : deadC (x :: y :: l) = false := by simp [deadC]
theorem cellsE_dead : ∀ oe : List Edit, deadC (cellsE oe) = false
  | [] => rfl
  | x :: l => by rw [cellsE_cons]; exact deadC_cells _ _ _
theorem cellsE_dead2 (oe : List Edit) (x y z : AV) : deadC (cellsE oe ++ [x, y, z]) = false := by
  cases oe with
  | nil => exact deadC_cells _ _ _
  | cons a l => rw [cellsE_cons]; exact deadC_cells _ _ _
theorem chunksE : ∀ oe : List Edit, chunks 3 true oe.length (cellsE oe) = some (oe.map eE)
  | [] => rfl
  | x :: l => by
    rw [cellsE_cons]
    have h := chunksE l
    simp only [List.length_cons, chunks, mkp]
    simp [h, eE]
def OutOk (bx : Bx) (X : AV) (oe : List Edit) : Prop := (oe = [] ∧ X = .sl 3 [] .nil) ∨ ∃ s v, X = .own 3 true s v oe.length ∧ oe ≠ [] ∧ bx s = some (v, cellsE oe) ∧ ¬ 8 = s ∧ ¬ 9 = s ∧ s < 100000
theorem OutOk.own {bx : Bx} {s v n : Nat} {oe : List Edit} (hn : n = oe.length) (h0 : oe ≠ []) (hb : bx s = some (v, cellsE oe)) (h8 : ¬ 8 = s) (h9 : ¬ 9 = s) (h : s < 100000) : OutOk bx (.own 3 true s v n) oe := by
  subst hn
  exact .inr ⟨s, v, rfl, h0, hb, h8, h9, h⟩
theorem clone_den (l : List AV) (hs : (strsOf l).isSome = true) (hl : l.length * 16 ≤ 140737488355328) : Den Sy 41 [.sl 1 l .no] = some (.sl 1 l .no) := by
  rw [Den_ext Sy (F := cloneF) rfl]
  simp only [cloneF]
  rw [if_pos ⟨hl, hs⟩]
theorem strsOf_map (a : List (List UInt8)) : strsOf (a.map AV.str) = some a := by
  induction a with
  | nil => rfl
  | cons x a ih => simp [strsOf, ih]
theorem okC_eE (x : Edit) : (eE x).okC = true ∧ (eE x).cells.length = 3 := ⟨rfl, rfl⟩
theorem ins_den (oe : List Edit) (i : Int) (x : Edit) (h0 : 0 ≤ i) (hi : i ≤ oe.length) (hl : oe.length ≤ 1099511627776) : Den Sy 42 [.sl 3 (oe.map eE) .no, .int .i64 i, .sl 3 [eE x] .no] = some (.ins ((oe.take i.toNat ++ [x] ++ oe.drop i.toNat).map eE)) := by
  rw [Den_ext Sy (F := insF) rfl]
  have hok : insOk (oe.map eE) i (eE x) = true := by
    simp only [insOk, Bool.and_eq_true, List.all_eq_true, decide_eq_true_eq, List.length_map, List.mem_cons, List.mem_map, beq_iff_eq]
    refine ⟨⟨⟨?_, h0⟩, hi⟩, hl⟩
    rintro y (rfl | ⟨z, _, rfl⟩)
    · exact okC_eE x
    · exact okC_eE z
  simp only [insF]
  rw [if_pos hok]
  simp
theorem ins_den0 (x : Edit) : Den Sy 42 [.sl 3 [] .nil, .int .i64 0, .sl 3 [eE x] .no] = some (.ins [eE x]) := by
  rw [Den_ext Sy (F := insF) rfl]
  rfl

theorem insK_ok {t v : Nat} (L : List Edit) (ht : t < 200000) : insK 3 true t v (some (.ins (L.map eE))) = some ⟨.own 3 true t (v + 1) L.length, [(t, v + 1, cellsE L)], [], false⟩ := by
  unfold insK
  have h1 : ((L.map eE).all fun y => y.okC && y.cells.length == 3) = true := by simp [eE]
  have h2 : deadC ((L.map eE).flatMap AV.cells) = false := cellsE_dead L
  simp only
  rw [if_pos ⟨h1, h2, ht⟩, List.length_map]
  rfl
/-- What the program makes back, from its left. -/
def invStep (out : List Edit) (e : Edit) (a : List (List UInt8)) : List Edit :=
  if e.op = 1 then out ++ [⟨1, e.n, []⟩] else if e.op = 2 then out ++ [⟨3, e.n, a.take e.n.toNat⟩] else
    if lastOp out = 3 then out.take (out.length - 1) ++ [⟨2, e.n, []⟩] ++ out.drop (out.length - 1) else out ++ [⟨2, e.n, []⟩]
def invS : List Edit → List Edit → List (List UInt8) → List Edit
  | [], out, _ => out
  | e :: r, out, a => invS r (invStep out e a) (if e.op = 3 then a else a.drop e.n.toNat)
theorem invStep_len (out : List Edit) (e : Edit) (a : List (List UInt8)) : (invStep out e a).length = out.length + 1 := by
  unfold invStep
  split
  · simp
  · split
    · simp
    · split
      · rename_i h
        have : out ≠ [] := by rintro rfl; simp [lastOp] at h
        have := List.length_pos_iff.2 this
        simp
        omega
      · simp
set_option maxHeartbeats 2000000 in
theorem inv_loop (s : List Edit) (hl : s.length ≤ 1048576) (hm : ∀ e ∈ s, mayB e = true) : ∀ (rest pre : List Edit) (a : List (List UInt8)) (X : AV) (oe : List Edit) (i : Int) (bx : Bx) (pm : Pm), s = pre ++ rest → i = pre.length → many 1 2 rest = a.length → a.length ≤ 8796093022208 → OutOk bx X oe → oe.length = pre.length →
    Res (RunD Sy (.loop L23x0) ⟨ofL [(1, sS a), (4, X), (17, sE s), (18, .int .i64 s.length), (19, .int .i64 i)], bx, pm, none⟩) fun ex st' => ex = .exit 0 ∧ st'.df = none ∧ ∃ X', st'.env 4 = some X' ∧ OutOk st'.bx X' (invS rest oe a)
  | [], pre, a, X, oe, i, bx, pm, hs, hi, ha, hal, ho, hol => by
    subst hi
    rw [List.append_nil] at hs
    subst hs
    rw [RunD_loop]
    simp [L23x0, invS]
    exact ho
  | e :: rest, pre, a, X, oe, i, bx, pm, hs, hi, ha, hal, ho, hol => by
    have hlt : (pre.length : Int) < s.length := by rw [hs]; simp; omega
    have hg : (s.map eE)[pre.length]? = some (eE e) := by rw [hs]; simp
    have hme := hm e (by rw [hs]; simp)
    obtain ⟨hop, hn1, hn2, hn3, _⟩ := mayB_op hme
    have hrest : ∀ x ∈ rest, mayB x = true := fun x hx => hm x (by rw [hs]; simp [hx])
    have hmn := many_nn 1 2 hrest
    simp only [eE] at hg
    subst hi
    have hc := chk_i64 ((pre.length : Int) + 1) (by omega)
    have hn0 : 0 ≤ e.n := by omega
    have hsz : (oe.length + 1) * 40 ≤ 140737488355328 := by omega
    have htk : (a.map AV.str).take a.length = a.map AV.str := List.take_of_length_le (by simp)
    refine loop_step fun K hK => ?_
    by_cases h1 : e.op = 1
    · have hle : e.n ≤ a.length := by simp only [many, h1] at ha; simp at ha; omega
      have ha' : many 1 2 rest = (a.drop e.n.toNat).length := by simp only [many, h1] at ha; simp at ha ⊢; omega
      have h3 : ¬ e.op = 3 := by omega
      have hst : invStep oe e a = oe ++ [⟨1, e.n, []⟩] := by simp [invStep, h1]
      have hdm : (a.map AV.str).drop e.n.toNat = (a.drop e.n.toNat).map AV.str := List.map_drop.symm
      rcases ho with ⟨rfl, rfl⟩ | ⟨t, v, rfl, hne, hb, h8, h9, hth⟩
      · simp [L23x0, -deadC, deadC_cells, htk, -getElem?_pos, -List.getElem?_map, hc, hlt, hg, eq_true h1, hn0, hle, invS, hst, eq_false h3]
        rw [hK, hdm]
        exact inv_loop s hl hm rest (pre ++ [e]) (a.drop e.n.toNat) _ [⟨1, e.n, []⟩] _ _ _ (by simp [hs]) (by simp) ha' (by rw [List.length_drop]; omega) (OutOk.own rfl (by simp) (by simp [cellsE_one]) (by simp) (by simp) (by omega)) (by rw [List.length_append, ← hol]; rfl)
      · have hcl := cellsE_len oe
        have h8' : ¬ t = 8 := fun e => h8 e.symm
        have hd := cellsE_dead oe
        have hd2 := cellsE_dead2 oe
        have ht2 : t < 200000 := by omega
        simp [L23x0, -deadC, deadC_cells, htk, -getElem?_pos, -List.getElem?_map, hc, hlt, hg, eq_true h1, hn0, hle, hb, eq_false h8, eq_false h8', hcl, hd, hd2, ht2, invS, hst, eq_false h3, hsz]
        rw [hK, hdm]
        refine inv_loop s hl hm rest (pre ++ [e]) (a.drop e.n.toNat) _ (oe ++ [⟨1, e.n, []⟩]) _ _ _ ?_ ?_ ha' ?_ ?_ ?_
        · simp [hs]
        · simp
        · rw [List.length_drop]; omega
        · exact OutOk.own (by simp) (by simp) (by simp [cellsE_app, cellsE_one]) h8 h9 hth
        · simp at hol ⊢; omega
    · by_cases h2 : e.op = 2
      · have hle : e.n ≤ a.length := by simp only [many, h2] at ha; simp at ha; omega
        have ha' : many 1 2 rest = (a.drop e.n.toNat).length := by simp only [many, h2] at ha; simp at ha ⊢; omega
        have h3 : ¬ e.op = 3 := by omega
        have hst : invStep oe e a = oe ++ [⟨3, e.n, a.take e.n.toNat⟩] := by simp [invStep, h2]
        have hdm : (a.map AV.str).drop e.n.toNat = (a.drop e.n.toNat).map AV.str := List.map_drop.symm
        have hcd := clone_den ((a.map AV.str).take e.n.toNat) (by rw [← List.map_take, strsOf_map]; rfl) (by rw [List.length_take, List.length_map]; omega)
        rcases ho with ⟨rfl, rfl⟩ | ⟨t, v, rfl, hne, hb, h8, h9, hth⟩
        · simp [L23x0, -deadC, deadC_cells, htk, -getElem?_pos, -List.getElem?_map, hc, hlt, hg, eq_false h1, eq_true h2, hn0, hle, invS, hst, eq_false h3, hcd]
          rw [hK, hdm]
          exact inv_loop s hl hm rest (pre ++ [e]) (a.drop e.n.toNat) _ [⟨3, e.n, a.take e.n.toNat⟩] _ _ _ (by simp [hs]) (by simp) ha' (by rw [List.length_drop]; omega) (OutOk.own rfl (by simp) (by simp [cellsE_one]) (by simp) (by simp) (by omega)) (by rw [List.length_append, ← hol]; rfl)
        · have hcl := cellsE_len oe
          have h8' : ¬ t = 8 := fun e => h8 e.symm
          have hd := cellsE_dead oe
          have hd2 := cellsE_dead2 oe
          have ht2 : t < 200000 := by omega
          simp [L23x0, -deadC, deadC_cells, htk, -getElem?_pos, -List.getElem?_map, hc, hlt, hg, eq_false h1, eq_true h2, hn0, hle, hb, eq_false h8, eq_false h8', hcl, hd, hd2, ht2, invS, hst, eq_false h3, hsz, hcd]
          rw [hK, hdm]
          refine inv_loop s hl hm rest (pre ++ [e]) (a.drop e.n.toNat) _ (oe ++ [⟨3, e.n, a.take e.n.toNat⟩]) _ _ _ ?_ ?_ ha' ?_ ?_ ?_
          · simp [hs]
          · simp
          · rw [List.length_drop]; omega
          · exact OutOk.own (by simp) (by simp) (by simp [cellsE_app, cellsE_one]) h8 h9 hth
          · simp at hol ⊢; omega
      · have h3 : e.op = 3 := by omega
        have ha' : many 1 2 rest = a.length := by simp only [many] at ha; simpa [h1, h2] using ha
        rcases ho with ⟨rfl, rfl⟩ | ⟨t, v, rfl, hne, hb, h8, h9, hth⟩
        · have hst : invStep [] e a = [⟨2, e.n, []⟩] := by simp [invStep, h1, h2, lastOp]
          have hi0 := ins_den0 ⟨2, e.n, []⟩
          simp only [eE, List.map_nil] at hi0
          simp [L23x0, -deadC, deadC_cells, -getElem?_pos, -List.getElem?_map, hc, hlt, hg, eq_false h1, eq_false h2, eq_true h3, invS, hst, hi0]
          rw [hK]
          exact inv_loop s hl hm rest (pre ++ [e]) a _ [⟨2, e.n, []⟩] _ _ _ (by simp [hs]) (by simp) ha' hal (OutOk.own rfl (by simp) (by simp [cellsE_one]) (by simp) (by simp) (by omega)) (by rw [List.length_append, ← hol]; rfl)
        · obtain ⟨l, p, rfl⟩ : ∃ l p, oe = l ++ [p] := by
            rcases nil_or_last oe with h | h
            · exact absurd h hne
            · exact h
          have hcl := cellsE_len (l ++ [p])
          have hd := cellsE_dead (l ++ [p])
          have hch := chunksE (l ++ [p])
          have ht2 : t < 200000 := by omega
          have h8' : ¬ t = 8 := fun e => h8 e.symm
          have h9' : ¬ t = 9 := fun e => h9 e.symm
          have hlen : ((l ++ [p]).length : Int) = l.length + 1 := by simp
          have hll : l.length + 1 = pre.length := by simpa using hol
          have hc2 := chk_i64 (l.length : Int) (by omega)
          have hdr : (cellsE (l ++ [p])).drop (l.length * 3) = [.int .i64 p.op, .int .i64 p.n, .sl 1 (p.ls.map .str) .no] := by
            rw [cellsE_app, cellsE_one]
            exact List.drop_left' (cellsE_len l)
          have hnlt : (l.length : Int) < l.length + 1 := by omega
          have hle3 : l.length * 3 + 1 ≤ (l ++ [p]).length * 3 := by simp; omega
          obtain ⟨oe, hoe⟩ : ∃ oe, oe = l ++ [p] := ⟨_, rfl⟩
          rw [← hoe] at hb hcl hd hch hlen hdr hle3 hsz
          by_cases hp3 : p.op = 3
          · obtain ⟨L, hL⟩ : ∃ L, L = l ++ [⟨2, e.n, []⟩, p] := ⟨_, rfl⟩
            have hst : invStep (l ++ [p]) e a = L := by simp [invStep, h1, h2, lastOp, hp3, hL]
            have hi0 := ins_den oe l.length ⟨2, e.n, []⟩ (by omega) (by omega) (by omega)
            have hLe : oe.take ((l.length : Int)).toNat ++ [⟨2, e.n, []⟩] ++ oe.drop ((l.length : Int)).toNat = L := by rw [hoe, hL]; simp
            rw [hLe] at hi0
            simp only [eE, List.map_nil] at hi0
            rw [← hoe] at hst
            have hiK := insK_ok (v := v) L ht2
            rw [← hoe]
            simp [L23x0, -deadC, deadC_cells, -getElem?_pos, -List.getElem?_map, hc, hlt, hg, eq_false h1, eq_false h2, eq_true h3, invS, hst, hb, hlen, hc2, hd, hcl, hdr, hle3, eq_true hp3, eq_false h8, eq_false h8', eq_false h9, eq_false h9', hch, hi0, hiK, hnlt]
            rw [hK]
            refine inv_loop s hl hm rest (pre ++ [e]) a _ L _ _ _ ?_ ?_ ha' hal ?_ ?_
            · simp [hs]
            · simp
            · exact OutOk.own rfl (by rw [hL]; simp) (by simp) h8 h9 hth
            · rw [hL]; simp at hol ⊢; omega
          · obtain ⟨L, hL⟩ : ∃ L, L = l ++ [p] ++ [⟨2, e.n, []⟩] := ⟨_, rfl⟩
            have hst : invStep (l ++ [p]) e a = L := by simp [invStep, h1, h2, lastOp, hp3, hL]
            have hi0 := ins_den oe oe.length ⟨2, e.n, []⟩ (by omega) (by omega) (by omega)
            have hLe : oe.take ((oe.length : Int)).toNat ++ [⟨2, e.n, []⟩] ++ oe.drop ((oe.length : Int)).toNat = L := by rw [List.take_of_length_le (by simp), List.drop_of_length_le (by simp), hoe, hL]; simp
            rw [hLe] at hi0
            simp only [eE, List.map_nil] at hi0
            rw [← hoe] at hst
            have hiK := insK_ok (v := v) L ht2
            rw [hlen] at hi0
            rw [← hoe]
            simp [L23x0, -deadC, deadC_cells, -getElem?_pos, -List.getElem?_map, hc, hlt, hg, eq_false h1, eq_false h2, eq_true h3, invS, hst, hb, hlen, hc2, hd, hcl, hdr, hle3, eq_false hp3, eq_false h8, eq_false h8', eq_false h9, eq_false h9', hch, hi0, hiK, hnlt]
            rw [hK]
            refine inv_loop s hl hm rest (pre ++ [e]) a _ L _ _ _ ?_ ?_ ha' hal ?_ ?_
            · simp [hs]
            · simp
            · exact OutOk.own rfl (by rw [hL]; simp) (by simp) h8 h9 hth
            · rw [hL]; simp at hol ⊢; omega
theorem invert_den (s : List Edit) (hl : s.length ≤ 1048576) (a : List (List UInt8)) (hal : a.length ≤ 8796093022208) : Den Sy 23 [sE s, sS a] = some (.tup [sE (if fitsF s a.length = 0 then invS s [] a else []), .int .i64 (fitsF s a.length)]) := by
  rw [Den_fun Sy (af := A23) rfl rfl _ rfl]
  have h0 := fits_den s (by omega) a
  by_cases hf : fitsF s a.length = 0
  · obtain ⟨hb, hm⟩ := fitsF_zero hf
    obtain ⟨ex, st', h, rfl, hd, X', h4, hok⟩ := inv_loop s hl (rightF_may hb) s [] a (.sl 3 [] .nil) [] 0 (ofL []) none' rfl rfl hm hal (.inl ⟨rfl, rfl⟩) rfl
    rcases hok with ⟨hoe, rfl⟩ | ⟨t, v, rfl, hne, hbx, h8, h9, hth⟩
    · simp [A23, h0, h, hd, h4, hf, hoe]
    · simp [A23, h0, h, hd, h4, hf, hbx, -deadC, cellsE_dead, cellsE_len, chunksE, hth]
  · simp [A23, h0, hf]
end Go.Proofs.YtdcgldhhdajocaaDoor.Rx
namespace Go.Proofs.YtdcgldhhdajocaaDoor.Rx
open Go
set_option linter.unusedSimpArgs false
set_option linter.unusedVariables false
attribute [simp] comeB binS refsOut rcvK

theorem idx_lt : ∀ (t : List UInt8) (c : UInt8), Lib.indexByte t c = -1 ∨ (0 ≤ Lib.indexByte t c ∧ Lib.indexByte t c < t.length)
  | [], c => .inl rfl
  | b :: l, c => by
    unfold Lib.indexByte
    split
    · exact .inr ⟨by omega, by simp⟩
    · split
      · exact .inl rfl
      · rename_i h
        rcases idx_lt l c with h1 | ⟨h1, h2⟩
        · rw [h1] at h; simp at h
        · exact .inr ⟨by omega, by simp; omega⟩
theorem atoi_in {t : List UInt8} {v : Int} (h : Lib.atoiAll t = .ok v) : inR v := by
  unfold Lib.atoiAll at h
  split at h
  · cases h
  · simp only at h
    split at h
    · cases h
    · cases h
    · split at h
      · cases h
      · split at h
        · cases h
        · rename_i u _ h1 h2
          simp only [Lib.NumEnd.ok.injEq] at h
          subst h
          split
          · rename_i h3
            have : ¬ 9223372036854775808 < u := fun k => h2 ⟨h3, k⟩
            constructor <;> omega
          · rename_i h3
            have : ¬ 9223372036854775808 ≤ u := fun k => h1 ⟨h3, k⟩
            constructor <;> omega
/-- The number with which bytes begin, and what stands behind the sign that ends it. -/
def numF (c : UInt8) (t : List UInt8) : Option (Int × List UInt8) :=
  if 0 < Lib.indexByte t c then match Lib.atoiAll (t.take (Lib.indexByte t c).toNat) with
    | .ok v => if 0 ≤ v ∧ Lib.itoa v = t.take (Lib.indexByte t c).toNat then some (v, t.drop ((Lib.indexByte t c).toNat + 1)) else none
    | _ => none
  else none
theorem index_den (t : List UInt8) (c : UInt8) : Den Sy 45 [.str t, .str [c]] = some (.int .i64 (Lib.indexByte t c)) := by rw [Den_ext Sy (F := indexF) rfl]; rfl
theorem indexByte_den (t : List UInt8) (c : UInt8) : Den Sy 48 [.str t, .int .u8 c.toNat] = some (.int .i64 (Lib.indexByte t c)) := by
  rw [Den_ext Sy (F := indexByteF) rfl]
  simp [indexByteF]
theorem or_den (b : Bool) : Den Sy 46 [.bool b] = some (if b = true then .tup [] else .out true .opq []) := by rw [Den_ext Sy (F := orF) rfl]; cases b <;> rfl
theorem or_true_den : Den Sy 46 [.bool true] = some (.tup []) := or_den true
theorem or_false_den : Den Sy 46 [.bool false] = some (.out true .opq []) := or_den false
theorem itoa_den (v : Int) (h : inR v) : Den Sy 34 [.int .i64 v] = some (.str (Lib.itoa v)) := by
  rw [Den_ext Sy (F := itoaF) rfl]
  unfold inR at h
  simp only [itoaF]
  rw [if_pos h]
theorem atoi_den (t : List UInt8) (h : t.length ≤ 281474976710656) : Den Sy 47 [.str t] = match Lib.atoiAll t with
      | .ok v => some (.tup [.int .i64 v, .nilI])
      | .range => some (.tup [.int .i64 (Lib.atoiSat t), .ifc])
      | _ => some (.tup [.int .i64 0, .ifc]) := by
  rw [Den_ext Sy (F := atoiF) rfl]
  simp only [atoiF]
  rw [if_pos h]
  cases Lib.atoiAll t <;> rfl
theorem number_den (c : UInt8) (t : List UInt8) (ht : t.length ≤ 1099511627776) : Den Sy 44 [.str [c], .ref 0 [.str t]] = some (match numF c t with
      | some (v, r) => .out false (.int .i64 v) [[.str r]]
      | none => .out true .opq [[.str t]]) := by
  rw [Den_fun Sy (af := A44) rfl rfl _ rfl]
  have hix := index_den t c
  have hb := idx_lt t c
  unfold numF
  generalize hat : Lib.indexByte t c = at_ at hix hb ⊢
  by_cases h0 : 0 < at_
  · have h00 : 0 ≤ at_ := by omega
    have hle : at_ ≤ t.length := by omega
    have hc := chk_i64 (at_ + 1) (by omega)
    have h1 : 0 ≤ at_ + 1 := by omega
    have hle1 : at_ + 1 ≤ t.length := by omega
    have htn : (at_ + 1).toNat = at_.toNat + 1 := by omega
    have had := atoi_den (t.take at_.toNat) (by rw [List.length_take]; omega)
    rw [if_pos h0]
    cases he : Lib.atoiAll (t.take at_.toNat) with
    | ok v =>
      rw [he] at had
      have hv := atoi_in he
      have hit := itoa_den v hv
      by_cases hv0 : 0 ≤ v
      · by_cases heq : Lib.itoa v = t.take at_.toNat
        · simp [A44, handed, hix, or_true_den, h0, h00, hle, had, hit, hv0, eq_true heq, hc, h1, hle1, htn]
        · simp [A44, handed, hix, or_true_den, or_false_den, h0, h00, hle, had, hit, hv0, eq_false heq, hc, h1, hle1, htn]
      · simp [A44, handed, hix, or_true_den, or_false_den, h0, h00, hle, had, hit, hv0, hc, h1, hle1, htn]
    | range =>
      rw [he] at had
      simp [A44, handed, hix, or_true_den, or_false_den, h0, h00, hle, had, hc, h1, hle1, htn]
    | _ =>
      rw [he] at had
      simp [A44, handed, hix, or_true_den, or_false_den, h0, h00, hle, had, hc, h1, hle1, htn]
  · simp [A44, handed, hix, or_false_den, h0]
end Go.Proofs.YtdcgldhhdajocaaDoor.Rx
namespace Go.Proofs.YtdcgldhhdajocaaDoor.Rx
open Go
set_option linter.unusedSimpArgs false
set_option linter.unusedVariables false

theorem nn5 (n : Nat) : 1 ≤ (n : Int) + 1 := by omega
attribute [simp] nn5
theorem numF_spec {c : UInt8} {t r : List UInt8} {m : Int} (h : numF c t = some (m, r)) : 0 ≤ m ∧ inR m ∧ r.length < t.length := by
  unfold numF at h
  have hb := idx_lt t c
  split at h
  · split at h
    · rename_i hv
      split at h
      · rename_i h2
        simp only [Option.some.injEq, Prod.mk.injEq] at h
        obtain ⟨rfl, rfl⟩ := h
        exact ⟨h2.1, atoi_in hv, by rw [List.length_drop]; omega⟩
      · simp at h
    · simp at h
  · simp at h
def linesF : Nat → List UInt8 → Option (List (List UInt8) × List UInt8)
  | 0, t => some ([], t)
  | n + 1, t => match numF 58 t with
    | some (m, r) => if m ≤ r.length then (linesF n (r.drop m.toNat)).map fun p => (r.take m.toNat :: p.1, p.2) else none
    | none => none
def opF (c : UInt8) : Int := Lib.indexByte [63, 61, 45, 43] c
/-- The edit with which bytes begin, and what stands behind it. -/
def editF : List UInt8 → Option (Edit × List UInt8)
  | [] => none
  | c :: r => if 0 < opF c then match numF 59 r with
      | some (n, u) => if n ≤ 1048576 then (if opF c = 3 then match linesF n.toNat u with
            | some (ls, v) => some (⟨3, n, ls⟩, v)
            | none => none
          else some (⟨opF c, n, []⟩, u)) else none
      | none => none
    else none
def decL : Nat → List UInt8 → Option (List Edit)
  | _, [] => some []
  | 0, _ :: _ => none
  | k + 1, c :: r => match editF (c :: r) with
    | some (e, t) => (decL k t).map (e :: ·)
    | none => none
def decF (t : List UInt8) : Option (List Edit) := match decL t.length t with
  | some s => if rightB s = true then some s else none
  | none => none

/-- What may be appended to, by the one mark. -/
def AppAt (d : Nat) (pm : Pm) (p : Perm) : Prop := p = .nil ∨ ∃ v, p = .tok d v ∧ pm d = some (v, true)
abbrev envD (l : List (Nat × AV)) : Env := ofL ((1, .ptr 1 0 0) :: (2, .ptr 2 0 0) :: (3, .ptr 3 0 0) :: (4, .clo 44 [.ptr 1 0 0]) :: l)
abbrev dfD : Option (Nat × List AV) := some (43, [.ptr 2 0 0, .ptr 3 0 0])
/-- It has gone up: what is put off finds its boxes. -/
structure Fell (ex : Ex) (st' : St) : Prop where
  pan : ex = .pan
  df : st'.df = dfD
  b2 : ∃ xs p, st'.bx 2 = some (0, [.sl 3 xs p])
  b3 : ∃ n, st'.bx 3 = some (0, [.int .i64 n])
  e2 : st'.env 2 = some (.ptr 2 0 0)
  e3 : st'.env 3 = some (.ptr 3 0 0)
structure Boxes (bx : Bx) (t : List UInt8) (out : List AV) (p : Perm) : Prop where
  b1 : bx 1 = some (0, [.str t])
  b2 : bx 2 = some (0, [.sl 3 out p])
  b3 : bx 3 = some (0, [.int .i64 0])
def LinesR (n v6 : Nat) (out : List AV) (p2 : Perm) (t : List UInt8) (ls : List AV) (pm : Pm) (ex : Ex) (st' : St) : Option (List (List UInt8) × List UInt8) → Prop
  | some (L, r) => ex = .exit 2 ∧ ∃ bx' pm' p', st' = ⟨envD [(5, .int .i64 3), (6, .ptr 6 v6 0), (7, .int .i64 n), (36, .bool false)], bx', pm', dfD⟩ ∧ Boxes bx' r out p2 ∧ bx' 6 = some (v6, [.int .i64 3, .int .i64 n, .sl 1 (ls ++ L.map .str) p']) ∧ pm' 60 = pm 60 ∧ r.length ≤ t.length
  | none => Fell ex st'
theorem LinesR.step {n v6 : Nat} {out : List AV} {p2 : Perm} {t t' : List UInt8} {ls : List AV} {pm pm' : Pm} {ex : Ex} {st' : St} {x : List UInt8} {o : Option (List (List UInt8) × List UInt8)} (h : LinesR n v6 out p2 t' (ls ++ [.str x]) pm' ex st' o) (hpm : pm' 60 = pm 60) (ht : t'.length ≤ t.length) :
    LinesR n v6 out p2 t ls pm ex st' (o.map fun p => (x :: p.1, p.2)) := by
  cases o with
  | none => exact h
  | some Lr =>
    obtain ⟨L, r⟩ := Lr
    obtain ⟨h1, bx', pm2, p', h2, h3, h4, h5, h6⟩ := h
    exact ⟨h1, bx', pm2, p', h2, h3, by rw [h4]; simp, h5.trans hpm, Nat.le_trans h6 ht⟩
theorem Res.eqv {x : Option (Ex × St)} {Q Q' : Ex → St → Prop} (h : ∀ ex st, Q ex st → Q' ex st) (k : Res x Q) : Res x Q' := by
  obtain ⟨ex, st, h1, h2⟩ := k
  exact ⟨ex, st, h1, h ex st h2⟩
set_option maxHeartbeats 1000000 in
theorem lines_loop (n v6 : Nat) (hn : n ≤ 1048576) (out : List AV) (p2 : Perm) : ∀ (k i : Nat) (j : Int) (t : List UInt8) (ls : List AV) (p6 : Perm) (bx : Bx) (pm : Pm), j = i → i + k = n → t.length ≤ 1099511627776 → Boxes bx t out p2 → bx 6 = some (v6, [.int .i64 3, .int .i64 n, .sl 1 ls p6]) → AppAt 52 pm p6 → ls.length = i →
    Res (RunD Sy (.loop L28x0) ⟨envD [(5, .int .i64 3), (6, .ptr 6 v6 0), (7, .int .i64 j)], bx, pm, dfD⟩) fun ex st' => LinesR n v6 out p2 t ls pm ex st' (linesF k t)
  | 0, i, j, t, ls, p6, bx, pm, hj, hi, ht, hB, hb6, hp, hls => by
    have : i = n := by omega
    subst this hj
    rw [RunD_loop]
    simp [L28x0, hb6, linesF]
    exact ⟨rfl, bx, pm, p6, rfl, hB, by simpa using hb6, rfl, Nat.le_refl _⟩
  | k + 1, i, j, t, ls, p6, bx, pm, hj, hi, ht, hB, hb6, hp, hls => by
    subst hj
    have hlt : (i : Int) < n := by omega
    have hc := chk_i64 ((i : Int) + 1) (by omega)
    have hsz : (ls.length + 1) * 16 ≤ 140737488355328 := by omega
    have hnd := number_den 58 t ht
    obtain ⟨b1, b2, b3⟩ := hB
    unfold linesF
    refine loop_step fun K hK => ?_
    cases hq : numF 58 t with
    | none =>
      rw [hq] at hnd
      simp [L28x0, hb6, b1, hlt, hnd]
      exact ⟨rfl, rfl, ⟨out, p2, by simp [b2]⟩, ⟨0, by simp [b3]⟩, by simp, by simp⟩
    | some mr =>
      obtain ⟨m, r⟩ := mr
      rw [hq] at hnd
      obtain ⟨hm0, hmr, hrl⟩ := numF_spec hq
      by_cases hle : m ≤ r.length
      · have hlen : (ls ++ [AV.str (r.take m.toNat)]).length = i + 1 := by simp [hls]
        have hdl : (r.drop m.toNat).length ≤ 1099511627776 := by rw [List.length_drop]; omega
        have hdl2 : (r.drop m.toNat).length ≤ t.length := by rw [List.length_drop]; omega
        rcases hp with rfl | ⟨v, rfl, hpm⟩
        · simp [L28x0, hb6, b1, b2, b3, hlt, hnd, hle, or_true_den, hm0, hsz, hc]
          rw [hK]
          refine Res.eqv (fun ex st h => LinesR.step h ?_ hdl2) (lines_loop n v6 hn out p2 k (i + 1) _ (r.drop m.toNat) (ls ++ [.str (r.take m.toNat)]) (.tok 52 (nextP pm 52)) _ _ ?_ ?_ hdl ⟨?_, ?_, ?_⟩ ?_ ?_ hlen)
          · simp
          · simp
          · omega
          · simp
          · simp [b2]
          · simp [b3]
          · simp
          · exact .inr ⟨_, rfl, by simp⟩
        · simp [L28x0, hb6, b1, b2, b3, hlt, hnd, hle, or_true_den, hm0, hsz, hc, hpm]
          rw [hK]
          refine Res.eqv (fun ex st h => LinesR.step h ?_ hdl2) (lines_loop n v6 hn out p2 k (i + 1) _ (r.drop m.toNat) (ls ++ [.str (r.take m.toNat)]) (.tok 52 (v + 1)) _ _ ?_ ?_ hdl ⟨?_, ?_, ?_⟩ ?_ ?_ hlen)
          · simp
          · simp
          · omega
          · simp
          · simp [b2]
          · simp [b3]
          · simp
          · exact .inr ⟨_, rfl, by simp⟩
      · simp [L28x0, hb6, b1, b2, b3, hlt, hnd, hle, or_false_den]
        exact ⟨rfl, rfl, ⟨out, p2, by simp [b2]⟩, ⟨0, by simp [b3]⟩, by simp, by simp⟩
theorem linesF_len : ∀ {n : Nat} {t r : List UInt8} {L : List (List UInt8)}, linesF n t = some (L, r) → L.length = n ∧ r.length ≤ t.length
  | 0, t, r, L, h => by
    simp only [linesF, Option.some.injEq, Prod.mk.injEq] at h
    obtain ⟨rfl, rfl⟩ := h
    exact ⟨rfl, Nat.le_refl _⟩
  | n + 1, t, r, L, h => by
    unfold linesF at h
    split at h
    · rename_i m u hq
      obtain ⟨_, _, hl⟩ := numF_spec hq
      split at h
      · obtain ⟨⟨L', r'⟩, h1, h2⟩ := Option.map_eq_some_iff.1 h
        simp only [Prod.mk.injEq] at h2
        obtain ⟨rfl, rfl⟩ := h2
        obtain ⟨h3, h4⟩ := linesF_len h1
        rw [List.length_drop] at h4
        exact ⟨by simp [h3], by omega⟩
      · simp at h
    · simp at h
theorem editF_len {t r : List UInt8} {e : Edit} (h : editF t = some (e, r)) : r.length < t.length := by
  unfold editF at h
  split at h
  · simp at h
  · split at h
    · split at h
      · rename_i c u n v hq
        obtain ⟨_, _, hl⟩ := numF_spec hq
        split at h
        · split at h
          · split at h
            · rename_i ls w hw
              simp only [Option.some.injEq, Prod.mk.injEq] at h
              obtain ⟨rfl, rfl⟩ := h
              have := (linesF_len hw).2
              simp only [List.length_cons]
              omega
            · simp at h
          · simp only [Option.some.injEq, Prod.mk.injEq] at h
            obtain ⟨rfl, rfl⟩ := h
            simp only [List.length_cons]
            omega
        · simp at h
      · simp at h
    · simp at h

def DecR (out : List AV) (ex : Ex) (st' : St) : Option (List Edit) → Prop
  | some L => ex = .exit 0 ∧ ∃ e bx' pm' p', st' = ⟨e, bx', pm', dfD⟩ ∧ e 2 = some (.ptr 2 0 0) ∧ e 3 = some (.ptr 3 0 0) ∧ Boxes bx' [] (out ++ L.map eE) p'
  | none => Fell ex st'
theorem DecR.step {out : List AV} {x : Edit} {ex : Ex} {st' : St} {o : Option (List Edit)} (h : DecR (out ++ [eE x]) ex st' o) : DecR out ex st' (o.map (x :: ·)) := by
  cases o with
  | none => exact h
  | some L =>
    obtain ⟨h1, e, bx', pm', p', h2, h3, h4, h5⟩ := h
    exact ⟨h1, e, bx', pm', p', h2, h3, h4, by simpa using h5⟩
theorem lines_skip (o : Int) (ho : ¬ o = 3) (v6 : Nat) (bx : Bx) (pm : Pm) (df : Option (Nat × List AV)) : RunD Sy (.loop L28x0) ⟨envD [(5, .int .i64 o), (6, .ptr 6 v6 0), (7, .int .i64 0)], bx, pm, df⟩ = some (.exit 2, ⟨envD [(5, .int .i64 o), (6, .ptr 6 v6 0), (7, .int .i64 0), (36, .bool false)], bx, pm, df⟩) := by
  rw [RunD_loop]
  simp [L28x0, ho]
set_option maxHeartbeats 2000000 in
theorem dec_loop : ∀ (k : Nat) (t : List UInt8) (out : List AV) (p : Perm) (bx : Bx) (pm : Pm), t.length ≤ k → k ≤ 1099511627776 → Boxes bx t out p → AppAt 60 pm p → out.length + k ≤ 1099511627776 →
    Res (RunD Sy (.loop L28x1) ⟨envD [], bx, pm, dfD⟩) fun ex st' => DecR out ex st' (decL k t)
  | k, [], out, p, bx, pm, ht, hk, hB, hp, ho => by
    have e : decL k [] = some [] := by cases k <;> rfl
    rw [e, RunD_loop]
    obtain ⟨b1, b2, b3⟩ := hB
    simp [L28x1, b1]
    exact ⟨rfl, _, bx, pm, p, rfl, by simp, by simp, b1, by simpa using b2, b3⟩
  | 0, c :: r, out, p, bx, pm, ht, hk, hB, hp, ho => by simp at ht
  | k + 1, c :: r, out, p, bx, pm, ht, hk, hB, hp, ho => by
    have hrl : r.length ≤ k := by simpa using ht
    have hnd := number_den 59 r (by omega)
    have hop := indexByte_den [63, 61, 45, 43] c
    have hsz : (out.length + 1) * 40 ≤ 140737488355328 := by omega
    have hoe : Lib.indexByte [63, 61, 45, 43] c = opF c := rfl
    rw [hoe] at hop
    obtain ⟨b1, b2, b3⟩ := hB
    refine loop_step fun K hK => ?_
    by_cases h0 : 0 < opF c
    · cases hq : numF 59 r with
      | none =>
        have hd : decL (k + 1) (c :: r) = none := by simp [decL, editF, h0, hq]
        rw [hq] at hnd
        rw [hd]
        simp [L28x1, b1, b2, b3, hop, h0, or_true_den, hnd]
        exact ⟨rfl, rfl, ⟨out, p, by simp [b2]⟩, ⟨0, by simp [b3]⟩, by simp, by simp⟩
      | some nu =>
        obtain ⟨n, u⟩ := nu
        obtain ⟨hn0, hnr, hul⟩ := numF_spec hq
        by_cases hle : n ≤ 1048576
        · by_cases h3 : opF c = 3
          · obtain ⟨m, rfl⟩ : ∃ m : Nat, n = m := ⟨n.toNat, by omega⟩
            obtain ⟨ex, st', hL, hR⟩ := lines_loop m (nextB (upd (upd bx 1 (0, [AV.str r])) 1 (0, [AV.str u])) 6) (by omega) out p m 0 0 u [] .nil (upd (upd (upd (upd bx 1 (0, [AV.str r])) 1 (0, [AV.str u])) 6 (nextB (upd (upd bx 1 (0, [AV.str r])) 1 (0, [AV.str u])) 6, [AV.int .i64 0, AV.int .i64 0, AV.sl 1 [] .nil])) 6 (nextB (upd (upd bx 1 (0, [AV.str r])) 1 (0, [AV.str u])) 6, [AV.int .i64 3, AV.int .i64 m, AV.sl 1 [] .nil])) pm rfl (by omega) (by omega) ⟨by simp, by simp [b2], by simp [b3]⟩ (by simp) (.inl rfl) rfl
            rw [hq] at hnd
            cases hlf : linesF m u with
            | none =>
              have hd : decL (k + 1) (c :: r) = none := by simp [decL, editF, h0, hq, hle, h3, hlf]
              rw [hlf] at hR
              obtain ⟨rfl, hdf, hb2, hb3, he2, he3⟩ := hR
              rw [hd]
              simp [L28x1, b1, b2, b3, hop, h0, or_true_den, hnd, hle, h3, hL]
              exact ⟨rfl, hdf, hb2, hb3, he2, he3⟩
            | some Lw =>
              obtain ⟨L, w⟩ := Lw
              have hd : decL (k + 1) (c :: r) = (decL k w).map ((⟨3, m, L⟩ : Edit) :: ·) := by simp [decL, editF, h0, hq, hle, h3, hlf]
              rw [hlf] at hR
              obtain ⟨rfl, bx', pm', p', rfl, ⟨c1, c2, c3⟩, c6, hpm60, hwl⟩ := hR
              have hwk : w.length ≤ k := by omega
              rw [hd]
              have hol : (out ++ [eE ⟨3, m, L⟩]).length + k ≤ 1099511627776 := by simp; omega
              rcases hp with rfl | ⟨v, rfl, hpm⟩
              · simp [L28x1, b1, b2, b3, hop, h0, or_true_den, hnd, hle, h3, hL, c1, c2, c3, c6, hsz]
                rw [hK]
                refine Res.eqv (fun ex st h => DecR.step h) (dec_loop k w (out ++ [eE ⟨3, m, L⟩]) (.tok 60 (nextP pm' 60)) _ _ hwk (by omega) ⟨?_, ?_, ?_⟩ ?_ hol)
                · simp [c1]
                · simp [eE]
                · simp [c3]
                · exact .inr ⟨_, rfl, by simp⟩
              · simp [L28x1, b1, b2, b3, hop, h0, or_true_den, hnd, hle, h3, hL, c1, c2, c3, c6, hsz, hpm60, hpm]
                rw [hK]
                refine Res.eqv (fun ex st h => DecR.step h) (dec_loop k w (out ++ [eE ⟨3, m, L⟩]) (.tok 60 (v + 1)) _ _ hwk (by omega) ⟨?_, ?_, ?_⟩ ?_ hol)
                · simp [c1]
                · simp [eE]
                · simp [c3]
                · exact .inr ⟨_, rfl, by simp⟩
          · have hsk := lines_skip (opF c) h3 (nextB (upd (upd bx 1 (0, [AV.str r])) 1 (0, [AV.str u])) 6) (upd (upd (upd (upd bx 1 (0, [AV.str r])) 1 (0, [AV.str u])) 6 (nextB (upd (upd bx 1 (0, [AV.str r])) 1 (0, [AV.str u])) 6, [AV.int .i64 0, AV.int .i64 0, AV.sl 1 [] .nil])) 6 (nextB (upd (upd bx 1 (0, [AV.str r])) 1 (0, [AV.str u])) 6, [AV.int .i64 (opF c), AV.int .i64 n, AV.sl 1 [] .nil])) pm dfD
            have hd : decL (k + 1) (c :: r) = (decL k u).map ((⟨opF c, n, []⟩ : Edit) :: ·) := by simp [decL, editF, h0, hq, hle, h3]
            rw [hq] at hnd
            rw [hd]
            have hwk : u.length ≤ k := by omega
            have hol : (out ++ [eE ⟨opF c, n, []⟩]).length + k ≤ 1099511627776 := by simp; omega
            rcases hp with rfl | ⟨v, rfl, hpm⟩
            · simp [L28x1, b1, b2, b3, hop, h0, or_true_den, hnd, hle, h3, hsk, hsz]
              rw [hK]
              refine Res.eqv (fun ex st h => DecR.step h) (dec_loop k u (out ++ [eE ⟨opF c, n, []⟩]) (.tok 60 (nextP pm 60)) _ _ hwk (by omega) ⟨?_, ?_, ?_⟩ ?_ hol)
              · simp
              · simp [eE]
              · simp [b3]
              · exact .inr ⟨_, rfl, by simp⟩
            · simp [L28x1, b1, b2, b3, hop, h0, or_true_den, hnd, hle, h3, hsk, hsz, hpm]
              rw [hK]
              refine Res.eqv (fun ex st h => DecR.step h) (dec_loop k u (out ++ [eE ⟨opF c, n, []⟩]) (.tok 60 (v + 1)) _ _ hwk (by omega) ⟨?_, ?_, ?_⟩ ?_ hol)
              · simp
              · simp [eE]
              · simp [b3]
              · exact .inr ⟨_, rfl, by simp⟩
        · have hd : decL (k + 1) (c :: r) = none := by simp [decL, editF, h0, hq, hle]
          rw [hq] at hnd
          rw [hd]
          simp [L28x1, b1, b2, b3, hop, h0, or_true_den, or_false_den, hnd, hle]
          exact ⟨rfl, rfl, ⟨out, p, by simp [b2]⟩, ⟨0, by simp [b3]⟩, by simp, by simp⟩
    · have hd : decL (k + 1) (c :: r) = none := by simp [decL, editF, h0]
      rw [hd]
      simp [L28x1, b1, b2, b3, hop, h0, or_false_den]
      exact ⟨rfl, rfl, ⟨out, p, by simp [b2]⟩, ⟨0, by simp [b3]⟩, by simp, by simp⟩
theorem catch_true (xs : List AV) (p : Perm) (n : Int) : Den Sy 43 [.bool true, .ref 0 [.sl 3 xs p], .ref 0 [.int .i64 n]] = some (.rcv [[.sl 3 [] .nil], [.int .i64 11]]) := by rw [Den_ext Sy (F := catchF) rfl]; rfl
theorem catch_false (xs : List AV) (p : Perm) (n : Int) : Den Sy 43 [.bool false, .ref 0 [.sl 3 xs p], .ref 0 [.int .i64 n]] = some (.rcv [[.sl 3 xs p], [.int .i64 n]]) := by rw [Den_ext Sy (F := catchF) rfl]; rfl
theorem decL_len : ∀ {k : Nat} {t : List UInt8} {s : List Edit}, decL k t = some s → s.length ≤ t.length
  | k, [], s, h => by
    have e : decL k [] = some [] := by cases k <;> rfl
    rw [e] at h
    simp only [Option.some.injEq] at h
    subst h
    simp
  | 0, c :: r, s, h => by simp [decL] at h
  | k + 1, c :: r, s, h => by
    simp only [decL] at h
    split at h
    · rename_i e t he
      obtain ⟨l, h1, rfl⟩ := Option.map_eq_some_iff.1 h
      have h2 := decL_len h1
      have h3 := editF_len he
      simp only [List.length_cons] at h3 ⊢
      omega
    · simp at h
theorem RunD_dfr' (S : Sys) (d f : Nat) (caps : List Opd) (st : St) : RunD S (.dfr d f caps) st = match st.df, evos st.env caps with
    | none, some l => some (.nrm, { st with env := upd st.env d .opq, df := some (f, l) })
    | _, _ => none := by rw [RunD_dfr]; rfl
theorem decode_den (t : List UInt8) (ht : t.length ≤ 549755813888) : Den Sy 28 [.str t] = some (match decF t with
      | some s => .tup [sE s, .int .i64 0]
      | none => .tup [sE [], .int .i64 11]) := by
  rw [Den_fun Sy (af := A28) rfl rfl _ rfl]
  obtain ⟨ex, st', hL, hR⟩ := dec_loop t.length t [] .nil (upd (upd (upd (ofL []) 1 (0, [AV.str t])) 2 (0, [AV.sl 3 [] .nil])) 3 (0, [AV.int .i64 0])) none' (Nat.le_refl _) (by omega) ⟨by simp, by simp, by simp⟩ (.inl rfl) (by simp; omega)
  unfold decF
  cases hd : decL t.length t with
  | none =>
    rw [hd] at hR
    obtain ⟨rfl, hdf, ⟨xs, p, hb2⟩, ⟨n, hb3⟩, he2, he3⟩ := hR
    simp [A28, nextB, RunD_dfr', hL, hdf, hb2, hb3, he2, he3, catch_true]
  | some s =>
    rw [hd] at hR
    obtain ⟨rfl, e, bx', pm', p', rfl, h2, h3, ⟨c1, c2, c3⟩⟩ := hR
    have hlen := decL_len hd
    have hrd := right_den s (by omega)
    by_cases hr : rightB s = true
    · simp [A28, nextB, RunD_dfr', hL, h2, h3, c2, c3, hrd, hr, or_true_den, catch_false]
    · simp [A28, nextB, RunD_dfr', hL, h2, h3, c2, c3, hrd, hr, or_false_den, catch_true]
end Go.Proofs.YtdcgldhhdajocaaDoor.Rx
namespace Go.Proofs.YtdcgldhhdajocaaDoor.Rx
open Go
set_option linter.unusedSimpArgs false
set_option linter.unusedVariables false
attribute [simp] wrsK wrsB selfP bstrK bstrB

def sgn (op : Int) : List UInt8 := if op = 1 then [61] else if op = 2 then [45] else [43]
def encLine (l : List UInt8) : List UInt8 := Lib.itoa l.length ++ [58] ++ l
def encLs (ls : List (List UInt8)) : List UInt8 := ls.flatMap encLine
def encHead (e : Edit) : List UInt8 := sgn e.op ++ Lib.itoa e.n ++ [59]
def encE (e : Edit) : List UInt8 := encHead e ++ encLs e.ls
def encL (s : List Edit) : List UInt8 := s.flatMap encE
theorem byteC_len (l : List UInt8) : (byteC l).length = l.length := by simp [byteC]
theorem byteC_app (a b : List UInt8) : byteC a ++ byteC b = byteC (a ++ b) := by simp [byteC]
theorem byteC_dead (l : List UInt8) : deadC (byteC l) = false := by
  cases l with
  | nil => rfl
  | cons c l => cases l <;> rfl
theorem byteC_dead2 (a b : List UInt8) : deadC (byteC a ++ byteC b) = false := by rw [byteC_app]; exact byteC_dead _
theorem asBytes_byteC (l : List UInt8) : asBytes (byteC l) = some l := by
  induction l with
  | nil => rfl
  | cons c l ih =>
    have h : c.toNat < 256 := c.toNat_lt
    simp only [byteC, List.map_cons, asBytes] at ih ⊢
    rw [if_pos (by omega), ih]
    simp
/-- What a builder has. -/
structure Bd (bx : Bx) (v t r : Nat) (l : List UInt8) : Prop where
  b4 : bx 4 = some (v, [.ptr 4 v 0, .own 1 false t r l.length])
  bt : bx t = some (r, byteC l)
  h : 200000 ≤ t
theorem wr_den (bs : List UInt8) : Den Sy 33 [.str bs] = some (.wr 59 bs) := by rw [Den_ext Sy (F := wrF) rfl]; rfl
theorem str_den : Den Sy 35 [] = some (.wr 59 []) := by rw [Den_ext Sy (F := strF) rfl]; rfl
theorem itoa_len (n : Int) (h : inR n) : (Lib.itoa n).length ≤ 21 := Lib.itoa_length_le n h.1 h.2
def EnvT (v : Nat) (a12 a13 a14 : AV) (ls : List (List UInt8)) (j : Int) : Env := ofL [(4, .ptr 4 v 0), (12, a12), (13, a13), (14, a14), (31, sS ls), (32, .int .i64 ls.length), (33, .int .i64 j)]
def EncLR (v t : Nat) (a12 a13 a14 : AV) (ls : List (List UInt8)) (l : List UInt8) (pm : Pm) (ex : Ex) (st' : St) (rest : List (List UInt8)) : Prop :=
  ex = .exit 2 ∧ ∃ bx' r', st' = ⟨ofL [(4, .ptr 4 v 0), (12, a12), (13, a13), (14, a14), (31, sS ls), (32, .int .i64 ls.length), (33, .int .i64 ls.length), (34, .bool false)], bx', pm, none⟩ ∧ Bd bx' v t r' (l ++ encLs rest)
theorem EncLR.step {v t : Nat} {a12 a13 a14 : AV} {ls : List (List UInt8)} {l : List UInt8} {pm : Pm} {ex : Ex} {st' : St} {x : List UInt8} {rest : List (List UInt8)} (h : EncLR v t a12 a13 a14 ls (l ++ encLine x) pm ex st' rest) : EncLR v t a12 a13 a14 ls l pm ex st' (x :: rest) := by
  obtain ⟨h1, bx', r', h2, h3⟩ := h
  refine ⟨h1, bx', r', h2, ?_⟩
  have e : l ++ encLs (x :: rest) = l ++ encLine x ++ encLs rest := by simp [encLs]
  rw [e]
  exact h3
set_option maxHeartbeats 1000000 in
theorem enc_lines (a13 a14 : AV) (a12 : AV) (v t : Nat) (ls : List (List UInt8)) (hls : ls.length ≤ 1048576) : ∀ (rest pre : List (List UInt8)) (j : Int) (r : Nat) (l : List UInt8) (bx : Bx) (pm : Pm), ls = pre ++ rest → j = pre.length → Bd bx v t r l → l.length + (encLs rest).length ≤ 1099511627776 →
    Res (RunD Sy (.loop L14x0) ⟨ofL [(4, .ptr 4 v 0), (12, a12), (13, a13), (14, a14), (31, sS ls), (32, .int .i64 ls.length), (33, .int .i64 j)], bx, pm, none⟩) fun ex st' => EncLR v t a12 a13 a14 ls l pm ex st' rest
  | [], pre, j, r, l, bx, pm, hs, hj, hB, hl => by
    subst hj
    rw [List.append_nil] at hs
    subst hs
    rw [RunD_loop]
    simp [L14x0]
    exact ⟨rfl, bx, r, rfl, by simpa [encLs] using hB⟩
  | x :: rest, pre, j, r, l, bx, pm, hs, hj, hB, hl => by
    have hlt : (pre.length : Int) < ls.length := by rw [hs]; simp; omega
    have hg : (ls.map AV.str)[pre.length]? = some (.str x) := by rw [hs]; simp
    subst hj
    have hc := chk_i64 ((pre.length : Int) + 1) (by omega)
    have hel : (encLs (x :: rest)).length = (Lib.itoa x.length).length + 1 + x.length + (encLs rest).length := by simp [encLs, encLine]; omega
    rw [hel] at hl
    have hxr : inR (x.length : Int) := ⟨by omega, by omega⟩
    have hit := itoa_den x.length hxr
    have h1 : (Lib.itoa x.length).length + 1 ≤ 9223372036854775807 := by omega
    have h2 : (Lib.itoa x.length).length + 1 + x.length ≤ 9223372036854775807 := by omega
    have h2' : (Lib.itoa x.length).length + (x.length + 1) ≤ 9223372036854775807 := by omega
    have h3 : l.length + ((Lib.itoa x.length).length + (x.length + 1)) ≤ 140737488355328 := by omega
    obtain ⟨b4, bt, h200⟩ := hB
    have h4t : ¬ 4 = t := by omega
    have ht4 : ¬ t = 4 := by omega
    have hll : (encLine x).length = (Lib.itoa x.length).length + 1 + x.length := by simp [encLine]; omega
    refine loop_step fun K hK => ?_
    simp [L14x0, -deadC, byteC_dead, byteC_dead2, byteC_len, deadC_cells, asBytes_byteC, -getElem?_pos, -List.getElem?_map, hc, hlt, hg, hit, wr_den, b4, bt, h200, eq_false h4t, eq_false ht4, h1, h2, h2', h3]
    rw [hK]
    refine Res.eqv (fun ex st h => EncLR.step h) (enc_lines a13 a14 a12 v t ls hls rest (pre ++ [x]) _ (r + 1) (l ++ encLine x) _ _ ?_ ?_ ⟨?_, ?_, h200⟩ ?_)
    · simp [hs]
    · simp
    · simp [encLine]
    · simp [encLine, byteC_app, eq_false h4t, eq_false ht4]
    · rw [List.length_append, hll]; omega
def BS (bx : Bx) (v : Nat) (l : List UInt8) : Prop := (l = [] ∧ bx 4 = some (v, [.bfresh 59 4 v, .sl 1 [] .nil])) ∨ ∃ t r, Bd bx v t r l
def EncR (v : Nat) (l : List UInt8) (ex : Ex) (st' : St) (rest : List Edit) : Prop := ex = .exit 0 ∧ st'.df = none ∧ st'.env 4 = some (.ptr 4 v 0) ∧ BS st'.bx v (l ++ encL rest)
theorem EncR.step {v : Nat} {l : List UInt8} {ex : Ex} {st' : St} {x : Edit} {rest : List Edit} (h : EncR v (l ++ encE x) ex st' rest) : EncR v l ex st' (x :: rest) := by
  obtain ⟨h1, h2, h3, h4⟩ := h
  refine ⟨h1, h2, h3, ?_⟩
  have e : l ++ encL (x :: rest) = l ++ encE x ++ encL rest := by simp [encL]
  rw [e]
  exact h4
abbrev bxE (bx : Bx) (op n : Int) (ls : List (List UInt8)) : Bx := upd (upd bx 6 (nextB bx 6, [AV.int IntKind.i64 0, AV.int IntKind.i64 0, AV.sl 1 [] Perm.nil])) 6 (nextB bx 6, [AV.int IntKind.i64 op, AV.int IntKind.i64 n, AV.sl 1 (List.map AV.str ls) Perm.no])
set_option maxHeartbeats 2000000 in
theorem enc_loop (v : Nat) (s : List Edit) (hl : s.length ≤ 1099511627776) (hm : ∀ e ∈ s, mayB e = true) : ∀ (rest pre : List Edit) (j : Int) (l : List UInt8) (bx : Bx) (pm : Pm), s = pre ++ rest → j = pre.length → BS bx v l → l.length + (encL rest).length ≤ 1099511627776 →
    Res (RunD Sy (.loop L14x1) ⟨ofL [(4, .ptr 4 v 0), (12, sE s), (13, .int .i64 s.length), (14, .int .i64 j)], bx, pm, none⟩) fun ex st' => EncR v l ex st' rest
  | [], pre, j, l, bx, pm, hs, hj, hB, hll => by
    subst hj
    rw [List.append_nil] at hs
    subst hs
    rw [RunD_loop]
    simp [L14x1]
    exact ⟨rfl, rfl, by simp, by simpa [encL] using hB⟩
  | e :: rest, pre, j, l, bx, pm, hs, hj, hB, hll => by
    have hlt : (pre.length : Int) < s.length := by rw [hs]; simp; omega
    have hg : (s.map eE)[pre.length]? = some (eE e) := by rw [hs]; simp
    subst hj
    have hme := hm e (by rw [hs]; simp)
    obtain ⟨op, n, ls⟩ := e
    obtain ⟨hop, hn1, hn2, hn3, hn4⟩ := mayB_op hme
    simp only at hop hn1 hn2 hn3 hn4
    have hlsl : ls.length ≤ 1048576 := by
      by_cases h3 : op = 3
      · have := hn3 h3; omega
      · rw [hn4 h3]; simp
    simp only [eE] at hg
    have hc := chk_i64 ((pre.length : Int) + 1) (by omega)
    have hel : (encL (⟨op, n, ls⟩ :: rest)).length = (encHead ⟨op, n, ls⟩).length + (encLs ls).length + (encL rest).length := by simp only [encL, encE, List.flatMap_cons, List.length_append]
    rw [hel] at hll
    have hsl : (sgn op).length = 1 := by unfold sgn; split <;> (try split) <;> rfl
    have hhl : (encHead ⟨op, n, ls⟩).length = 1 + (Lib.itoa n).length + 1 := by simp [encHead, hsl]; omega
    rw [hhl] at hll
    have hit := itoa_den n ⟨by omega, by omega⟩
    have h1 : 1 + (Lib.itoa n).length ≤ 9223372036854775807 := by omega
    have h1' : (Lib.itoa n).length + 1 ≤ 9223372036854775807 := by omega
    have h2 : 1 + (Lib.itoa n).length + 1 ≤ 9223372036854775807 := by omega
    have h2' : (Lib.itoa n).length + 1 + 1 ≤ 9223372036854775807 := by omega
    have h3 : (Lib.itoa n).length + 1 + 1 ≤ 140737488355328 := by omega
    have h4 : l.length + ((Lib.itoa n).length + 1 + 1) ≤ 140737488355328 := by omega
    have k2 : chk .i64 2 = some (.int .i64 2) := rfl
    have k3 : chk .i64 3 = some (.int .i64 3) := rfl
    have k4 : chk .i64 4 = some (.int .i64 4) := rfl
    refine loop_step fun K hK => ?_
    rcases hB with ⟨rfl, b4⟩ | ⟨t, r, b4, bt, h200⟩
    · rcases hop with rfl | rfl | rfl
      · simp [L14x1, -deadC, byteC_dead, byteC_dead2, byteC_len, deadC_cells, asBytes_byteC, -getElem?_pos, -List.getElem?_map, hc, hlt, hg, hit, wr_den, b4, h1, h1', h2, h2', h3, k2, k3, k4]
        obtain ⟨ex, st', hL, rfl, bx', r', rfl, hB'⟩ := enc_lines (.int .i64 s.length) (.int .i64 pre.length) (sE s) v 200029 ls hlsl ls [] 0 (nextB (bxE bx 1 n ls) 200029) (61 :: (Lib.itoa n ++ [59])) (upd (upd (bxE bx 1 n ls) 200029 (nextB (bxE bx 1 n ls) 200029, byteC (61 :: (Lib.itoa n ++ [59])))) 4 (v, [.ptr 4 v 0, .own 1 false 200029 (nextB (bxE bx 1 n ls) 200029) ((Lib.itoa n).length + 1 + 1)])) pm rfl rfl ⟨by simp, by simp, by omega⟩ (by simp; simp at hll; omega)
        simp [hL, hc]
        rw [hK]
        refine Res.eqv (fun ex st h => EncR.step h) (enc_loop v s hl hm rest (pre ++ [⟨1, n, ls⟩]) _ _ _ _ ?_ ?_ (.inr ⟨200029, r', ?_⟩) ?_)
        · simp [hs]
        · simp
        · have e : [] ++ encE ⟨1, n, ls⟩ = 61 :: (Lib.itoa n ++ [59]) ++ encLs ls := by simp [encE, encHead, sgn]
          rw [e]
          exact hB'
        · simp only [encE, List.length_append, hhl]; omega
      · simp [L14x1, -deadC, byteC_dead, byteC_dead2, byteC_len, deadC_cells, asBytes_byteC, -getElem?_pos, -List.getElem?_map, hc, hlt, hg, hit, wr_den, b4, h1, h1', h2, h2', h3, k2, k3, k4]
        obtain ⟨ex, st', hL, rfl, bx', r', rfl, hB'⟩ := enc_lines (.int .i64 s.length) (.int .i64 pre.length) (sE s) v 200029 ls hlsl ls [] 0 (nextB (bxE bx 2 n ls) 200029) (45 :: (Lib.itoa n ++ [59])) (upd (upd (bxE bx 2 n ls) 200029 (nextB (bxE bx 2 n ls) 200029, byteC (45 :: (Lib.itoa n ++ [59])))) 4 (v, [.ptr 4 v 0, .own 1 false 200029 (nextB (bxE bx 2 n ls) 200029) ((Lib.itoa n).length + 1 + 1)])) pm rfl rfl ⟨by simp, by simp, by omega⟩ (by simp; simp at hll; omega)
        simp [hL, hc]
        rw [hK]
        refine Res.eqv (fun ex st h => EncR.step h) (enc_loop v s hl hm rest (pre ++ [⟨2, n, ls⟩]) _ _ _ _ ?_ ?_ (.inr ⟨200029, r', ?_⟩) ?_)
        · simp [hs]
        · simp
        · have e : [] ++ encE ⟨2, n, ls⟩ = 45 :: (Lib.itoa n ++ [59]) ++ encLs ls := by simp [encE, encHead, sgn]
          rw [e]
          exact hB'
        · simp only [encE, List.length_append, hhl]; omega
      · simp [L14x1, -deadC, byteC_dead, byteC_dead2, byteC_len, deadC_cells, asBytes_byteC, -getElem?_pos, -List.getElem?_map, hc, hlt, hg, hit, wr_den, b4, h1, h1', h2, h2', h3, k2, k3, k4]
        obtain ⟨ex, st', hL, rfl, bx', r', rfl, hB'⟩ := enc_lines (.int .i64 s.length) (.int .i64 pre.length) (sE s) v 200029 ls hlsl ls [] 0 (nextB (bxE bx 3 n ls) 200029) (43 :: (Lib.itoa n ++ [59])) (upd (upd (bxE bx 3 n ls) 200029 (nextB (bxE bx 3 n ls) 200029, byteC (43 :: (Lib.itoa n ++ [59])))) 4 (v, [.ptr 4 v 0, .own 1 false 200029 (nextB (bxE bx 3 n ls) 200029) ((Lib.itoa n).length + 1 + 1)])) pm rfl rfl ⟨by simp, by simp, by omega⟩ (by simp; simp at hll; omega)
        simp [hL, hc]
        rw [hK]
        refine Res.eqv (fun ex st h => EncR.step h) (enc_loop v s hl hm rest (pre ++ [⟨3, n, ls⟩]) _ _ _ _ ?_ ?_ (.inr ⟨200029, r', ?_⟩) ?_)
        · simp [hs]
        · simp
        · have e : [] ++ encE ⟨3, n, ls⟩ = 43 :: (Lib.itoa n ++ [59]) ++ encLs ls := by simp [encE, encHead, sgn]
          rw [e]
          exact hB'
        · simp only [encE, List.length_append, hhl]; omega
    · have h4t : ¬ 4 = t := by omega
      have ht4 : ¬ t = 4 := by omega
      have h6t : ¬ 6 = t := by omega
      have ht6 : ¬ t = 6 := by omega
      rcases hop with rfl | rfl | rfl
      · simp [L14x1, -deadC, byteC_dead, byteC_dead2, byteC_len, deadC_cells, asBytes_byteC, -getElem?_pos, -List.getElem?_map, hc, hlt, hg, hit, wr_den, b4, bt, h200, eq_false h4t, eq_false ht4, eq_false h6t, eq_false ht6, h1, h1', h2, h2', h3, h4, k2, k3, k4]
        obtain ⟨ex, st', hL, rfl, bx', r', rfl, hB'⟩ := enc_lines (.int .i64 s.length) (.int .i64 pre.length) (sE s) v t ls hlsl ls [] 0 (r + 1) (l ++ (61 :: (Lib.itoa n ++ [59]))) (upd (upd (bxE bx 1 n ls) t (r + 1, byteC l ++ byteC (61 :: (Lib.itoa n ++ [59])))) 4 (v, [.ptr 4 v 0, .own 1 false t (r + 1) (l.length + ((Lib.itoa n).length + 1 + 1))])) pm rfl rfl ⟨by simp, by simp [byteC_app, eq_false h4t, eq_false ht4], h200⟩ (by simp; omega)
        simp [hL, hc]
        rw [hK]
        refine Res.eqv (fun ex st h => EncR.step h) (enc_loop v s hl hm rest (pre ++ [⟨1, n, ls⟩]) _ _ _ _ ?_ ?_ (.inr ⟨t, r', ?_⟩) ?_)
        · simp [hs]
        · simp
        · have e : l ++ encE ⟨1, n, ls⟩ = l ++ (61 :: (Lib.itoa n ++ [59])) ++ encLs ls := by simp [encE, encHead, sgn]
          rw [e]
          exact hB'
        · simp only [encE, List.length_append, hhl]; omega
      · simp [L14x1, -deadC, byteC_dead, byteC_dead2, byteC_len, deadC_cells, asBytes_byteC, -getElem?_pos, -List.getElem?_map, hc, hlt, hg, hit, wr_den, b4, bt, h200, eq_false h4t, eq_false ht4, eq_false h6t, eq_false ht6, h1, h1', h2, h2', h3, h4, k2, k3, k4]
        obtain ⟨ex, st', hL, rfl, bx', r', rfl, hB'⟩ := enc_lines (.int .i64 s.length) (.int .i64 pre.length) (sE s) v t ls hlsl ls [] 0 (r + 1) (l ++ (45 :: (Lib.itoa n ++ [59]))) (upd (upd (bxE bx 2 n ls) t (r + 1, byteC l ++ byteC (45 :: (Lib.itoa n ++ [59])))) 4 (v, [.ptr 4 v 0, .own 1 false t (r + 1) (l.length + ((Lib.itoa n).length + 1 + 1))])) pm rfl rfl ⟨by simp, by simp [byteC_app, eq_false h4t, eq_false ht4], h200⟩ (by simp; omega)
        simp [hL, hc]
        rw [hK]
        refine Res.eqv (fun ex st h => EncR.step h) (enc_loop v s hl hm rest (pre ++ [⟨2, n, ls⟩]) _ _ _ _ ?_ ?_ (.inr ⟨t, r', ?_⟩) ?_)
        · simp [hs]
        · simp
        · have e : l ++ encE ⟨2, n, ls⟩ = l ++ (45 :: (Lib.itoa n ++ [59])) ++ encLs ls := by simp [encE, encHead, sgn]
          rw [e]
          exact hB'
        · simp only [encE, List.length_append, hhl]; omega
      · simp [L14x1, -deadC, byteC_dead, byteC_dead2, byteC_len, deadC_cells, asBytes_byteC, -getElem?_pos, -List.getElem?_map, hc, hlt, hg, hit, wr_den, b4, bt, h200, eq_false h4t, eq_false ht4, eq_false h6t, eq_false ht6, h1, h1', h2, h2', h3, h4, k2, k3, k4]
        obtain ⟨ex, st', hL, rfl, bx', r', rfl, hB'⟩ := enc_lines (.int .i64 s.length) (.int .i64 pre.length) (sE s) v t ls hlsl ls [] 0 (r + 1) (l ++ (43 :: (Lib.itoa n ++ [59]))) (upd (upd (bxE bx 3 n ls) t (r + 1, byteC l ++ byteC (43 :: (Lib.itoa n ++ [59])))) 4 (v, [.ptr 4 v 0, .own 1 false t (r + 1) (l.length + ((Lib.itoa n).length + 1 + 1))])) pm rfl rfl ⟨by simp, by simp [byteC_app, eq_false h4t, eq_false ht4], h200⟩ (by simp; omega)
        simp [hL, hc]
        rw [hK]
        refine Res.eqv (fun ex st h => EncR.step h) (enc_loop v s hl hm rest (pre ++ [⟨3, n, ls⟩]) _ _ _ _ ?_ ?_ (.inr ⟨t, r', ?_⟩) ?_)
        · simp [hs]
        · simp
        · have e : l ++ encE ⟨3, n, ls⟩ = l ++ (43 :: (Lib.itoa n ++ [59])) ++ encLs ls := by simp [encE, encHead, sgn]
          rw [e]
          exact hB'
        · simp only [encE, List.length_append, hhl]; omega
theorem encode_den (s : List Edit) (hl : s.length ≤ 1099511627776) (hb : (encL s).length ≤ 1099511627776) : Den Sy 14 [sE s] = some (if rightB s = true then .tup [.str (encL s), .int .i64 0] else .tup [.str [], .int .i64 1]) := by
  rw [Den_fun Sy (af := A14) rfl rfl _ rfl]
  have hrd := right_den s (by omega)
  by_cases hr : rightB s = true
  · obtain ⟨ex, st', hL, rfl, hdf, h4, hB⟩ := enc_loop (nextB (ofL []) 4) s hl (rightF_may hr) s [] 0 [] (upd (ofL []) 4 (nextB (ofL []) 4, [.bfresh 59 4 (nextB (ofL []) 4), .sl 1 [] .nil])) none' rfl rfl (.inl ⟨rfl, by simp⟩) (by simpa using hb)
    rw [List.nil_append] at hB
    rcases hB with ⟨h0, b4⟩ | ⟨t, r, b4, bt, h200⟩
    · simp [A14, hrd, hr, hL, hdf, h4, b4, str_den, h0]
    · have h4t : ¬ 4 = t := by omega
      have hb' : (encL s).length ≤ 140737488355328 := by omega
      simp [A14, -deadC, deadC_cells, byteC_dead, byteC_len, asBytes_byteC, hrd, hr, hL, hdf, h4, b4, bt, h200, eq_false h4t, str_den, hb']
  · simp [A14, hrd, hr]
end Go.Proofs.YtdcgldhhdajocaaDoor.Rx
namespace Go.Proofs.YtdcgldhhdajocaaDoor.Rx
open Go
set_option linter.unusedSimpArgs false
set_option linter.unusedVariables false

theorem dig_toNat (d : Nat) (h : d < 10) : (UInt8.ofNat (48 + d)).toNat = 48 + d := by
  rw [UInt8.toNat_ofNat']
  omega
theorem decDigits_dig : ∀ (u : Nat) (c : UInt8), c ∈ Lib.decDigits u → 48 ≤ c.toNat ∧ c.toNat ≤ 57 := by
  intro u
  induction u using Nat.strongRecOn with
  | _ u ih =>
    intro c hc
    rw [Lib.decDigits] at hc
    by_cases h : u < 10
    · rw [dif_pos h, List.mem_singleton] at hc
      subst hc
      rw [dig_toNat u h]
      omega
    · rw [dif_neg h, List.mem_append, List.mem_singleton] at hc
      rcases hc with hc | rfl
      · exact ih (u / 10) (by omega) c hc
      · rw [dig_toNat _ (by omega)]
        omega
theorem decDigits_ne (u : Nat) : Lib.decDigits u ≠ [] := by
  rw [Lib.decDigits]
  split <;> simp
theorem parse_app : ∀ (l r : List UInt8) (a m : Nat), Lib.parseUint10 a l = .ok m → Lib.parseUint10 a (l ++ r) = Lib.parseUint10 m r
  | [], r, a, m, h => by
    simp only [Lib.parseUint10, Lib.NumEnd.ok.injEq] at h
    subst h
    rfl
  | c :: l, r, a, m, h => by
    simp only [Lib.parseUint10, List.cons_append] at h ⊢
    split at h
    · rename_i h1
      rw [if_pos h1]
      split at h
      · cases h
      · rename_i h2
        rw [if_neg h2]
        split at h
        · cases h
        · rename_i h3
          rw [if_neg h3]
          exact parse_app l r _ m h
    · cases h
theorem parse_dec : ∀ (u : Nat), u < 9223372036854775808 → Lib.parseUint10 0 (Lib.decDigits u) = .ok u := by
  intro u
  induction u using Nat.strongRecOn with
  | _ u ih =>
    intro hu
    rw [Lib.decDigits]
    by_cases h : u < 10
    · rw [dif_pos h]
      simp only [Lib.parseUint10, dig_toNat u h]
      rw [if_pos (by omega), if_neg (by omega), if_neg (by omega)]
      congr 1
      omega
    · rw [dif_neg h, parse_app _ _ _ _ (ih (u / 10) (by omega) (by omega))]
      simp only [Lib.parseUint10, dig_toNat (u % 10) (by omega)]
      rw [if_pos (by omega), if_neg (by omega), if_neg (by omega)]
      congr 1
      omega
theorem itoa_nn {n : Int} (h : 0 ≤ n) : Lib.itoa n = Lib.decDigits n.toNat := by
  unfold Lib.itoa
  rw [if_neg (by omega)]
theorem atoi_itoa {n : Int} (h : 0 ≤ n) (h2 : n ≤ 9223372036854775807) : Lib.atoiAll (Lib.itoa n) = .ok n := by
  rw [itoa_nn h]
  have hne := decDigits_ne n.toNat
  have hd := decDigits_dig n.toNat
  have hp := parse_dec n.toNat (by omega)
  cases hq : Lib.decDigits n.toNat with
  | nil => exact absurd hq hne
  | cons c r =>
    rw [hq] at hd hp
    have hc := hd c (by simp)
    unfold Lib.atoiAll
    simp only
    rw [if_neg (by omega)]
    unfold Lib.parseMag
    rw [if_neg (by simp), hp]
    simp only
    rw [if_neg (by omega), if_neg (by omega), if_neg (by omega)]
    congr 1
    omega
theorem idx_app : ∀ (l r : List UInt8) (c : UInt8), c ∉ l → Lib.indexByte (l ++ c :: r) c = l.length
  | [], r, c, _ => by simp [Lib.indexByte]
  | b :: l, r, c, h => by
    have h1 : ¬ (b == c) = true := by simp; rintro rfl; simp at h
    have h2 := idx_app l r c (fun k => h (List.mem_cons_of_mem _ k))
    rw [List.cons_append]
    unfold Lib.indexByte
    rw [if_neg h1, h2, if_neg (by simp)]
    simp
theorem numF_itoa (c : UInt8) (hc : 57 < c.toNat) {n : Int} (h : 0 ≤ n) (h2 : n ≤ 9223372036854775807) (r : List UInt8) : numF c (Lib.itoa n ++ c :: r) = some (n, r) := by
  have hi : Lib.indexByte (Lib.itoa n ++ c :: r) c = (Lib.itoa n).length := by
    refine idx_app _ _ _ fun k => ?_
    rw [itoa_nn h] at k
    have := decDigits_dig _ _ k
    omega
  have hl : 0 < (Lib.itoa n).length := by
    rw [itoa_nn h]
    exact List.length_pos_iff.2 (decDigits_ne _)
  unfold numF
  rw [hi, if_pos (by omega)]
  have ht : (Lib.itoa n ++ c :: r).take (Lib.itoa n).length = Lib.itoa n := by simp
  simp only [Int.toNat_natCast]
  rw [ht, atoi_itoa h h2]
  simp only
  rw [if_pos ⟨h, trivial⟩]
  congr 2
  rw [← List.drop_drop]
  simp
theorem linesF_enc : ∀ (ls : List (List UInt8)) (r : List UInt8), (∀ l ∈ ls, l.length ≤ 9223372036854775807) → linesF ls.length (encLs ls ++ r) = some (ls, r)
  | [], r, _ => rfl
  | l :: ls, r, h => by
    have h1 := h l (by simp)
    have e : encLs (l :: ls) ++ r = Lib.itoa l.length ++ 58 :: (l ++ (encLs ls ++ r)) := by simp [encLs, encLine]
    rw [e, List.length_cons]
    unfold linesF
    rw [numF_itoa 58 (by decide) (by omega) (by omega)]
    simp only
    rw [if_pos (by simp; omega)]
    have e2 : (l ++ (encLs ls ++ r)).drop (l.length : Int).toNat = encLs ls ++ r := by simp
    have e3 : (l ++ (encLs ls ++ r)).take (l.length : Int).toNat = l := by simp
    rw [e2, e3, linesF_enc ls r (fun x hx => h x (List.mem_cons_of_mem _ hx))]
    rfl
theorem editF_enc (e : Edit) (hm : mayB e = true) (hl : ∀ l ∈ e.ls, l.length ≤ 9223372036854775807) (r : List UInt8) : editF (encE e ++ r) = some (e, r) := by
  obtain ⟨op, n, ls⟩ := e
  obtain ⟨hop, hn1, hn2, hn3, hn4⟩ := mayB_op hm
  simp only at hop hn1 hn2 hn3 hn4 hl
  have hnum := fun (r : List UInt8) => numF_itoa 59 (by decide) (n := n) (by omega) (by omega) r
  have e : encE ⟨op, n, ls⟩ ++ r = sgn op ++ (Lib.itoa n ++ 59 :: (encLs ls ++ r)) := by simp [encE, encHead]
  rw [e]
  rcases hop with rfl | rfl | rfl
  · have h0 : ls = [] := hn4 (by omega)
    subst h0
    have o : opF 61 = 1 := by decide
    simp [sgn, editF, o, hnum, hn2, encLs]
  · have h0 : ls = [] := hn4 (by omega)
    subst h0
    have o : opF 45 = 2 := by decide
    simp [sgn, editF, o, hnum, hn2, encLs]
  · have hn := hn3 rfl
    have ho : opF 43 = 3 := by decide
    have hle := linesF_enc ls r hl
    have hnt : n.toNat = ls.length := by omega
    simp [sgn, editF, ho, hnum, hn2, hnt, hle]
theorem encE_pos (e : Edit) : ∃ c r, encE e = c :: r := by
  unfold encE encHead sgn
  split
  · exact ⟨61, _, rfl⟩
  · split
    · exact ⟨45, _, rfl⟩
    · exact ⟨43, _, rfl⟩
theorem decL_enc : ∀ (s : List Edit) (k : Nat), (∀ e ∈ s, mayB e = true) → (∀ e ∈ s, ∀ l ∈ e.ls, l.length ≤ 9223372036854775807) → (encL s).length ≤ k → decL k (encL s) = some s
  | [], k, _, _, _ => by cases k <;> rfl
  | e :: s, k, hm, hl, hk => by
    obtain ⟨c, r, h⟩ := encE_pos e
    have he : encL (e :: s) = c :: (r ++ encL s) := by
      have : encL (e :: s) = encE e ++ encL s := by simp [encL]
      rw [this, h]
      rfl
    have hd := editF_enc e (hm e (by simp)) (hl e (by simp)) (encL s)
    rw [h] at hd
    rw [he] at hk ⊢
    cases k with
    | zero => simp at hk
    | succ k =>
      simp only [List.length_cons, List.length_append] at hk
      simp only [decL]
      rw [List.cons_append] at hd
      rw [hd]
      simp only
      rw [decL_enc s k (fun x hx => hm x (List.mem_cons_of_mem _ hx)) (fun x hx => hl x (List.mem_cons_of_mem _ hx)) (by omega)]
      rfl
theorem decF_enc {s : List Edit} (h : rightB s = true) (hl : ∀ e ∈ s, ∀ l ∈ e.ls, l.length ≤ 9223372036854775807) : decF (encL s) = some s := by
  unfold decF
  rw [decL_enc s _ (rightF_may h) hl (Nat.le_refl _)]
  simp only
  rw [if_pos h]

theorem idx_split : ∀ (t : List UInt8) (c : UInt8), 0 ≤ Lib.indexByte t c → t = t.take (Lib.indexByte t c).toNat ++ c :: t.drop ((Lib.indexByte t c).toNat + 1)
  | [], c, h => by simp [Lib.indexByte] at h
  | b :: l, c, h => by
    unfold Lib.indexByte at h ⊢
    split
    · rename_i hb
      have : b = c := by simpa using hb
      subst this
      simp
    · rename_i hb
      rw [if_neg hb] at h
      split
      · rename_i h2
        rw [if_pos h2] at h
        simp at h
      · rename_i h2
        have h3 := idx_lt l c
        have h4 : 0 ≤ Lib.indexByte l c := by
          rcases h3 with h3 | h3
          · rw [h3] at h2; simp at h2
          · exact h3.1
        have h5 := idx_split l c h4
        have h6 : (Lib.indexByte l c + 1).toNat = (Lib.indexByte l c).toNat + 1 := by omega
        rw [h6, List.take_succ_cons, List.drop_succ_cons, List.cons_append, ← h5]
theorem numF_eq {c : UInt8} {t r : List UInt8} {v : Int} (h : numF c t = some (v, r)) : t = Lib.itoa v ++ c :: r := by
  unfold numF at h
  split at h
  · rename_i h0
    split at h
    · split at h
      · rename_i h2
        simp only [Option.some.injEq, Prod.mk.injEq] at h
        obtain ⟨rfl, rfl⟩ := h
        rw [h2.2]
        exact idx_split t c (by omega)
      · simp at h
    · simp at h
  · simp at h
theorem linesF_eq : ∀ {n : Nat} {t r : List UInt8} {L : List (List UInt8)}, linesF n t = some (L, r) → t = encLs L ++ r
  | 0, t, r, L, h => by
    simp only [linesF, Option.some.injEq, Prod.mk.injEq] at h
    obtain ⟨rfl, rfl⟩ := h
    rfl
  | n + 1, t, r, L, h => by
    unfold linesF at h
    split at h
    · rename_i m u hq
      have h0 := numF_eq hq
      have h1 := numF_spec hq
      split at h
      · rename_i hm
        obtain ⟨⟨L', r'⟩, h2, h3⟩ := Option.map_eq_some_iff.1 h
        simp only [Prod.mk.injEq] at h3
        obtain ⟨rfl, rfl⟩ := h3
        have h4 := linesF_eq h2
        have h5 : ((u.take m.toNat).length : Int) = m := by rw [List.length_take]; omega
        have h6 : encLs (u.take m.toNat :: L') ++ r' = Lib.itoa m ++ 58 :: (u.take m.toNat ++ (encLs L' ++ r')) := by simp only [encLs, encLine, List.flatMap_cons, h5]; simp
        rw [h6, ← h4, List.take_append_drop]
        exact h0
      · simp at h
    · simp at h
theorem opF_sgn (c : UInt8) (h : 0 < opF c) : sgn (opF c) = [c] ∧ (opF c = 1 ∨ opF c = 2 ∨ opF c = 3) := by
  unfold opF at h ⊢
  simp only [Lib.indexByte] at h ⊢
  by_cases h1 : c = 63
  · subst h1; simp at h
  · by_cases h2 : c = 61
    · subst h2; decide
    · by_cases h3 : c = 45
      · subst h3; decide
      · by_cases h4 : c = 43
        · subst h4; decide
        · exfalso
          have a1 : ¬ 63 = c := fun e => h1 e.symm
          have a2 : ¬ 61 = c := fun e => h2 e.symm
          have a3 : ¬ 45 = c := fun e => h3 e.symm
          have a4 : ¬ 43 = c := fun e => h4 e.symm
          simp [a1, a2, a3, a4] at h
theorem editF_eq {t r : List UInt8} {e : Edit} (h : editF t = some (e, r)) : t = encE e ++ r := by
  unfold editF at h
  split at h
  · simp at h
  · rename_i c u
    split at h
    · rename_i h0
      obtain ⟨h1, h2⟩ := opF_sgn c h0
      split at h
      · rename_i n v hq
        have h3 := numF_eq hq
        split at h
        · split at h
          · rename_i h5
            split at h
            · rename_i ls w hw
              simp only [Option.some.injEq, Prod.mk.injEq] at h
              obtain ⟨rfl, rfl⟩ := h
              have h4 := linesF_eq hw
              rw [h5] at h1
              have : encE ⟨3, n, ls⟩ ++ w = sgn 3 ++ (Lib.itoa n ++ 59 :: (encLs ls ++ w)) := by simp [encE, encHead]
              rw [this, ← h4, ← h3, h1]
              rfl
            · simp at h
          · simp only [Option.some.injEq, Prod.mk.injEq] at h
            obtain ⟨rfl, rfl⟩ := h
            have : encE ⟨opF c, n, []⟩ ++ v = sgn (opF c) ++ (Lib.itoa n ++ 59 :: v) := by simp [encE, encHead, encLs]
            rw [this, ← h3, h1]
            rfl
        · simp at h
      · simp at h
    · simp at h
theorem decL_eq : ∀ {k : Nat} {t : List UInt8} {s : List Edit}, decL k t = some s → t = encL s
  | k, [], s, h => by
    have e : decL k [] = some [] := by cases k <;> rfl
    rw [e] at h
    simp only [Option.some.injEq] at h
    subst h
    rfl
  | 0, c :: r, s, h => by simp [decL] at h
  | k + 1, c :: r, s, h => by
    simp only [decL] at h
    split at h
    · rename_i e t he
      obtain ⟨l, h1, rfl⟩ := Option.map_eq_some_iff.1 h
      have h2 := decL_eq h1
      have h3 := editF_eq he
      rw [h3, h2]
      simp [encL]
    · simp at h
theorem decF_eq {t : List UInt8} {s : List Edit} (h : decF t = some s) : t = encL s ∧ rightB s = true := by
  unfold decF at h
  split at h
  · rename_i s' hs
    split at h
    · rename_i hr
      simp only [Option.some.injEq] at h
      subst h
      exact ⟨decL_eq hs, hr⟩
    · simp at h
  · simp at h
end Go.Proofs.YtdcgldhhdajocaaDoor.Rx
namespace Go.Proofs.YtdcgldhhdajocaaDoor.Rx
open Go
set_option linter.unusedSimpArgs false
set_option linter.unusedVariables false

def aw : List Edit := [⟨1, 1, []⟩, ⟨2, 1, []⟩, ⟨3, 1, [[120]]⟩]
abbrev aw1 : AV := .agg [.int .i64 1, .int .i64 1, .sl 1 [] .no]
abbrev aw2 : AV := .agg [.int .i64 2, .int .i64 1, .sl 1 [] .no]
abbrev aw3 : AV := .agg [.int .i64 3, .int .i64 1, .sl 1 [.str [120]] .no]
abbrev aw4 : AV := .agg [.int .i64 3, .int .i64 1, .sl 1 [.str [98]] .no]
abbrev aw0 : AV := .agg [.int .i64 0, .int .i64 0, .sl 1 [] .no]
abbrev awT : List UInt8 := [61, 49, 59, 45, 49, 59, 43, 49, 59, 49, 58, 120]
theorem aw_apply : Den Sy 21 [.sl 3 [aw1, aw2, aw3] .no, .sl 1 [.str [97], .str [98]] .no] = some (.tup [.sl 1 [.str [97], .str [120]] .no, .int .i64 0]) := apply_den aw (by decide) [[97], [98]]
theorem aw_apply0 : Den Sy 21 [.sl 3 [aw1, aw2, aw3] .no, .sl 1 [] .no] = some (.tup [.sl 1 [] .no, .int .i64 11]) := apply_den aw (by decide) []
theorem aw_apply1 : Den Sy 21 [.sl 3 [aw0] .no, .sl 1 [] .no] = some (.tup [.sl 1 [] .no, .int .i64 1]) := apply_den [⟨0, 0, []⟩] (by decide) []
theorem itoa_one : Lib.itoa 1 = [49] := by
  rw [itoa_nn (by decide), Lib.decDigits, dif_pos (by decide)]
  rfl
theorem aw_enc : encL aw = awT := by
  have h : Lib.itoa (([120] : List UInt8).length : Int) = [49] := itoa_one
  simp only [encL, aw, encE, encHead, encLs, encLine, List.flatMap_cons, List.flatMap_nil, itoa_one, h]
  decide
theorem aw_encode : Den Sy 14 [.sl 3 [aw1, aw2, aw3] .no] = some (.tup [.str awT, .int .i64 0]) := by
  have h := encode_den aw (by decide) (by rw [aw_enc]; decide)
  rw [aw_enc] at h
  exact h
theorem aw_dec : decF awT = some aw := by
  rw [← aw_enc]
  exact decF_enc (by decide) (by decide)
theorem aw_decode : Den Sy 28 [.str awT] = some (.tup [.sl 3 [aw1, aw2, aw3] .no, .int .i64 0]) := by
  have h := decode_den awT (by decide)
  rw [aw_dec] at h
  exact h
theorem aw_num0 : numF 59 [48, 49, 59] = none := by
  have h1 : Lib.indexByte [48, 49, 59] 59 = 2 := by decide
  have h2 : Lib.atoiAll ([48, 49, 59].take ((2 : Int).toNat)) = .ok 1 := by decide
  unfold numF
  rw [h1, if_pos (by decide), h2]
  simp only
  rw [if_neg]
  rw [itoa_one]
  decide
theorem aw_dec0 : decF [61, 48, 49, 59] = none := by
  have h : editF [61, 48, 49, 59] = none := by
    simp only [editF, aw_num0]
    exact if_pos (by decide)
  simp only [decF, List.length_cons, List.length_nil, decL, h]
theorem aw_decode0 : Den Sy 28 [.str [61, 48, 49, 59]] = some (.tup [.sl 3 [] .no, .int .i64 11]) := by
  have h := decode_den [61, 48, 49, 59] (by decide)
  rw [aw_dec0] at h
  exact h
theorem aw_invert : Den Sy 23 [.sl 3 [aw1, aw2, aw3] .no, .sl 1 [.str [97], .str [98]] .no] = some (.tup [.sl 3 [aw1, aw2, aw4] .no, .int .i64 0]) := invert_den aw (by decide) [[97], [98]] (by decide)
theorem aw_spans : Den Sy 12 [.sl 3 [aw1, aw2, aw3] .no] = some (.tup [.int .i64 2, .int .i64 2]) := spans_den aw (by decide)
theorem aw_cost : Den Sy 18 [.sl 3 [aw1, aw2, aw3] .no] = some (.int .i64 2) := cost_den aw (by decide)
theorem aw_right : Den Sy 16 [.sl 3 [aw1, aw2, aw3] .no] = some (.bool true) := right_den aw (by decide)
theorem aw_right0 : Den Sy 16 [.sl 3 [aw3, aw2] .no] = some (.bool false) := right_den [⟨3, 1, [[120]]⟩, ⟨2, 1, []⟩] (by decide)
theorem aw_texts : Den Sy 25 [.sl 1 [.str [97], .str [120]] .no, .sl 1 [.str [97], .str [120]] .no] = some (.bool true) := texts_den [[97], [120]] [[97], [120]] (by decide)
theorem aw_same : Den Sy 26 [.sl 3 [aw1, aw2, aw3] .no, .sl 3 [aw1, aw2, aw3] .no] = some (.bool true) := same_den aw aw (by decide) (by decide)
theorem aw_same2 : Den Sy 26 [.sl 3 [aw1, aw2, aw4] .no, .sl 3 [aw1, aw2, aw4] .no] = some (.bool true) := same_den [⟨1, 1, []⟩, ⟨2, 1, []⟩, ⟨3, 1, [[98]]⟩] [⟨1, 1, []⟩, ⟨2, 1, []⟩, ⟨3, 1, [[98]]⟩] (by decide) (by decide)
set_option maxHeartbeats 2000000 in
set_option maxRecDepth 20000 in
theorem awake_den : Den Sy 10 [] = some (.bool true) := by
  rw [Den_fun Sy (af := A10) rfl rfl _ rfl]
  simp [A10, aw_apply, aw_apply0, aw_apply1, aw_encode, aw_decode, aw_decode0, aw_invert, aw_spans, aw_cost, aw_right, aw_right0, aw_texts, aw_same, aw_same2]
end Go.Proofs.YtdcgldhhdajocaaDoor.Rx
namespace Go.Proofs.YtdcgldhhdajocaaDoor.Rx
open Go
set_option linter.unusedSimpArgs false
set_option linter.unusedVariables false

def applyB : List Edit → List (List UInt8) → List (List UInt8)
  | [], _ => []
  | e :: r, a => if e.op = 1 then a.take e.n.toNat ++ applyB r (a.drop e.n.toNat) else if e.op = 2 then applyB r (a.drop e.n.toNat) else e.ls ++ applyB r a
theorem applyA_map : ∀ (s : List Edit) (a : List (List UInt8)), applyA s (a.map .str) = (applyB s a).map .str
  | [], a => rfl
  | e :: r, a => by
    simp only [applyA, applyB, ← List.map_take, ← List.map_drop, applyA_map r]
    split
    · simp
    · split
      · rfl
      · simp
def swp (x : Edit) : List Edit → List Edit
  | [] => [x]
  | y :: l => if y.op = 2 then y :: x :: l else x :: y :: l
def invR : List Edit → List (List UInt8) → List Edit
  | [], _ => []
  | e :: r, a => if e.op = 1 then ⟨1, e.n, []⟩ :: invR r (a.drop e.n.toNat) else if e.op = 2 then swp ⟨3, e.n, a.take e.n.toNat⟩ (invR r (a.drop e.n.toNat)) else ⟨2, e.n, []⟩ :: invR r a
theorem many_swp (x y : Int) (e : Edit) (l : List Edit) : many x y (swp e l) = many x y (e :: l) := by
  cases l with
  | nil => rfl
  | cons f l =>
    simp only [swp]
    split
    · simp only [many]; omega
    · rfl
theorem many_inv : ∀ (s : List Edit) (a : List (List UInt8)), (∀ e ∈ s, mayB e = true) → many 1 2 (invR s a) = many 1 3 s ∧ many 1 3 (invR s a) = many 1 2 s ∧ many 2 3 (invR s a) = many 2 3 s
  | [], a, _ => ⟨rfl, rfl, rfl⟩
  | e :: r, a, h => by
    have hop := (mayB_op (h e (by simp))).1
    have hr : ∀ x ∈ r, mayB x = true := fun x hx => h x (List.mem_cons_of_mem _ hx)
    simp only [invR]
    rcases hop with h1 | h2 | h3
    · obtain ⟨i1, i2, i3⟩ := many_inv r (a.drop e.n.toNat) hr
      rw [if_pos h1]
      simp [many, h1, i1, i2, i3]
    · obtain ⟨i1, i2, i3⟩ := many_inv r (a.drop e.n.toNat) hr
      rw [if_neg (by omega), if_pos h2]
      simp [many_swp, many, h2, i1, i2, i3]
    · obtain ⟨i1, i2, i3⟩ := many_inv r a hr
      rw [if_neg (by omega), if_neg (by omega)]
      simp [many, h3, i1, i2, i3]
theorem inv_len : ∀ (s : List Edit) (a : List (List UInt8)), (invR s a).length = s.length
  | [], a => rfl
  | e :: r, a => by
    have hs : ∀ (x : Edit) (l : List Edit), (swp x l).length = l.length + 1 := by
      intro x l
      cases l with
      | nil => rfl
      | cons y l => simp only [swp]; split <;> rfl
    simp only [invR]
    split
    · simp [inv_len r]
    · split
      · simp [hs, inv_len r]
      · simp [inv_len r]
theorem apply_len : ∀ (s : List Edit) (a : List (List UInt8)), (∀ e ∈ s, mayB e = true) → many 1 2 s = a.length → ((applyB s a).length : Int) = many 1 3 s
  | [], a, _, _ => rfl
  | e :: r, a, h, ha => by
    obtain ⟨hop, hn1, hn2, hn3, hn4⟩ := mayB_op (h e (by simp))
    have hr : ∀ x ∈ r, mayB x = true := fun x hx => h x (List.mem_cons_of_mem _ hx)
    have hnn := many_nn 1 2 hr
    simp only [applyB]
    rcases hop with h1 | h2 | h3
    · have hm : many 1 2 (e :: r) = e.n + many 1 2 r := by simp [many, h1]
      have hm3 : many 1 3 (e :: r) = e.n + many 1 3 r := by simp [many, h1]
      have i := apply_len r (a.drop e.n.toNat) hr (by rw [List.length_drop]; omega)
      rw [if_pos h1, List.length_append, List.length_take]
      omega
    · have hm : many 1 2 (e :: r) = e.n + many 1 2 r := by simp [many, h2]
      have hm3 : many 1 3 (e :: r) = many 1 3 r := by simp [many, h2]
      have i := apply_len r (a.drop e.n.toNat) hr (by rw [List.length_drop]; omega)
      rw [if_neg (by omega), if_pos h2]
      omega
    · have hm : many 1 2 (e :: r) = many 1 2 r := by simp [many, h3]
      have hm3 : many 1 3 (e :: r) = e.n + many 1 3 r := by simp [many, h3]
      have i := apply_len r a hr (by omega)
      have := hn3 h3
      rw [if_neg (by omega), if_neg (by omega), List.length_append]
      omega
def headOp : List Edit → Int
  | [] => 0
  | e :: _ => e.op
theorem rightF_cons {last : Int} {e : Edit} {r : List Edit} (h : rightF last (e :: r) = true) : mayB e = true ∧ e.op ≠ last ∧ ¬ (last = 3 ∧ e.op = 2) ∧ rightF e.op r = true := by
  simp only [rightF, Bool.and_eq_true, decide_eq_true_eq, Bool.not_eq_true', decide_eq_false_iff_not] at h
  exact ⟨h.1.1.1, h.1.1.2, h.1.2, h.2⟩
theorem rightF_mk {last : Int} {e : Edit} {r : List Edit} (h1 : mayB e = true) (h2 : e.op ≠ last) (h3 : ¬ (last = 3 ∧ e.op = 2)) (h4 : rightF e.op r = true) : rightF last (e :: r) = true := by
  simp only [rightF, Bool.and_eq_true, decide_eq_true_eq, Bool.not_eq_true', decide_eq_false_iff_not]
  exact ⟨⟨⟨h1, h2⟩, h3⟩, h4⟩
theorem may_one {n : Int} (h1 : 1 ≤ n) (h2 : n ≤ 1048576) : mayB ⟨1, n, []⟩ = true := by simp [mayB, h1, h2]
theorem may_two {n : Int} (h1 : 1 ≤ n) (h2 : n ≤ 1048576) : mayB ⟨2, n, []⟩ = true := by simp [mayB, h1, h2]
theorem may_three {n : Int} {l : List (List UInt8)} (h1 : 1 ≤ n) (h2 : n ≤ 1048576) (h : (l.length : Int) = n) : mayB ⟨3, n, l⟩ = true := by simp [mayB, h1, h2, h]
/-- What may stand on the left of what is made back, by what stands on the left. -/
def LOk (last l' : Int) : Prop := (last = 0 → l' = 0) ∧ (last = 1 → l' = 1) ∧ (last = 2 → l' = 3) ∧ (last = 3 → l' = 2 ∨ l' = 3) ∧ (last = 0 ∨ last = 1 ∨ last = 2 ∨ last = 3)
structure Bk (l' : Int) (s : List Edit) (a : List (List UInt8)) : Prop where
  rt : rightF l' (invR s a) = true
  ap : applyB (invR s a) (applyB s a) = a
  iv : invR (invR s a) (applyB s a) = s
theorem edit_eta (e : Edit) (n : Int) (l : List (List UInt8)) (o : Int) (h1 : e.op = o) (h2 : e.n = n) (h3 : e.ls = l) : (⟨o, n, l⟩ : Edit) = e := by
  subst h1 h2 h3
  rfl
theorem back_all : ∀ (s : List Edit) (last l' : Int) (a : List (List UInt8)), rightF last s = true → LOk last l' → (last = 2 → headOp s ≠ 3) → many 1 2 s = a.length → Bk l' s a
  | [], last, l', a, h, hl, h2, ha => by
    have : a = [] := by
      simp [many] at ha
      exact List.length_eq_zero_iff.1 (by omega)
    subst this
    exact ⟨rfl, rfl, rfl⟩
  | e :: r, last, l', a, h, hl, h2, ha => by
    obtain ⟨hme, hne, hno, hr⟩ := rightF_cons h
    obtain ⟨hop, hn1, hn2, hn3, hn4⟩ := mayB_op hme
    obtain ⟨k0, k1, k2, k3, k4⟩ := hl
    have hnn := many_nn 1 2 (rightF_may hr)
    rcases hop with o1 | o2 | o3
    · have hm : many 1 2 (e :: r) = e.n + many 1 2 r := by simp [many, o1]
      have ht : (a.take e.n.toNat).length = e.n.toNat := by rw [List.length_take]; omega
      have hd : many 1 2 r = (a.drop e.n.toNat).length := by rw [List.length_drop]; omega
      rw [o1] at hr
      obtain ⟨i1, i2, i3⟩ := back_all r 1 1 (a.drop e.n.toNat) hr ⟨by omega, by omega, by omega, by omega, by omega⟩ (by omega) hd
      have hi : invR (e :: r) a = ⟨1, e.n, []⟩ :: invR r (a.drop e.n.toNat) := by simp [invR, o1]
      have hb : applyB (e :: r) a = a.take e.n.toNat ++ applyB r (a.drop e.n.toNat) := by simp [applyB, o1]
      have htk : (a.take e.n.toNat ++ applyB r (a.drop e.n.toNat)).take e.n.toNat = a.take e.n.toNat := List.take_left' ht
      have hdk : (a.take e.n.toNat ++ applyB r (a.drop e.n.toNat)).drop e.n.toNat = applyB r (a.drop e.n.toNat) := List.drop_left' ht
      refine ⟨?_, ?_, ?_⟩
      · rw [hi]
        exact rightF_mk (may_one hn1 hn2) (show (1 : Int) ≠ l' by omega) (show ¬ (l' = 3 ∧ (1 : Int) = 2) by omega) i1
      · rw [hi, hb]
        simp [applyB, htk, hdk, i2]
      · rw [hi, hb]
        simp only [invR, if_true, hdk, i3]
        rw [edit_eta e _ _ _ o1 rfl (hn4 (by omega))]
    · have hm : many 1 2 (e :: r) = e.n + many 1 2 r := by simp [many, o2]
      have ht : (a.take e.n.toNat).length = e.n.toNat := by rw [List.length_take]; omega
      have hd : many 1 2 r = (a.drop e.n.toNat).length := by rw [List.length_drop]; omega
      have hi : invR (e :: r) a = swp ⟨3, e.n, a.take e.n.toNat⟩ (invR r (a.drop e.n.toNat)) := by simp [invR, o2]
      have hb : applyB (e :: r) a = applyB r (a.drop e.n.toNat) := by simp [applyB, o2]
      have hm3 : mayB ⟨3, e.n, a.take e.n.toNat⟩ = true := may_three hn1 hn2 (by omega)
      rw [o2] at hr
      by_cases hh : headOp r = 3
      · match r, hh with
        | f :: r', hh =>
          have o3 : f.op = 3 := hh
          obtain ⟨hmf, hnf, hof, hrf⟩ := rightF_cons hr
          obtain ⟨_, fn1, fn2, fn3, fn4⟩ := mayB_op hmf
          have fl := fn3 o3
          rw [o3] at hrf
          have hmf' : many 1 2 (f :: r') = many 1 2 r' := by simp [many, o3]
          obtain ⟨i1, i2, i3⟩ := back_all r' 3 3 (a.drop e.n.toNat) hrf ⟨by omega, by omega, by omega, by omega, by omega⟩ (by omega) (by rw [← hmf']; exact hd)
          have hi2 : invR (f :: r') (a.drop e.n.toNat) = ⟨2, f.n, []⟩ :: invR r' (a.drop e.n.toNat) := by simp [invR, o3]
          have hb2 : applyB (f :: r') (a.drop e.n.toNat) = f.ls ++ applyB r' (a.drop e.n.toNat) := by simp [applyB, o3]
          have hlf : f.ls.length = f.n.toNat := by omega
          have htk : (f.ls ++ applyB r' (a.drop e.n.toNat)).take f.n.toNat = f.ls := List.take_left' hlf
          have hdk : (f.ls ++ applyB r' (a.drop e.n.toNat)).drop f.n.toNat = applyB r' (a.drop e.n.toNat) := List.drop_left' hlf
          have hsw : invR (e :: f :: r') a = ⟨2, f.n, []⟩ :: ⟨3, e.n, a.take e.n.toNat⟩ :: invR r' (a.drop e.n.toNat) := by rw [hi, hi2]; simp [swp]
          refine ⟨?_, ?_, ?_⟩
          · rw [hsw]
            exact rightF_mk (may_two fn1 fn2) (show (2 : Int) ≠ l' by omega) (show ¬ (l' = 3 ∧ (2 : Int) = 2) by omega) (rightF_mk hm3 (show (3 : Int) ≠ 2 by omega) (show ¬ ((2 : Int) = 3 ∧ (3 : Int) = 2) by omega) i1)
          · rw [hsw, hb, hb2]
            simp [applyB, hdk, i2]
          · rw [hsw, hb, hb2]
            simp only [invR, show ¬ (2 : Int) = 1 by decide, show ¬ (3 : Int) = 1 by decide, show ¬ (3 : Int) = 2 by decide, if_false, if_true, hdk, htk, i3, swp]
            rw [edit_eta e _ _ _ o2 rfl (hn4 (by omega)), edit_eta f _ _ _ o3 rfl rfl]
        | [], hh => simp [headOp] at hh
      · obtain ⟨i1, i2, i3⟩ := back_all r 2 3 (a.drop e.n.toNat) hr ⟨by omega, by omega, by omega, by omega, by omega⟩ (fun _ => hh) hd
        have hsw : invR (e :: r) a = ⟨3, e.n, a.take e.n.toNat⟩ :: invR r (a.drop e.n.toNat) := by
          rw [hi]
          match r, hh, hr with
          | [], _, _ => rfl
          | f :: r', hh, hr =>
            obtain ⟨hmf, hnf, hof, hrf⟩ := rightF_cons hr
            have o1 : f.op = 1 := by
              rcases (mayB_op hmf).1 with k | k | k
              · exact k
              · exact absurd k hnf
              · exact absurd k hh
            simp [invR, o1, swp]
        refine ⟨?_, ?_, ?_⟩
        · rw [hsw]
          exact rightF_mk hm3 (show (3 : Int) ≠ l' by omega) (show ¬ (l' = 3 ∧ (3 : Int) = 2) by omega) i1
        · rw [hsw, hb]
          simp [applyB, i2]
        · rw [hsw, hb]
          simp only [invR, show ¬ (3 : Int) = 1 by decide, show ¬ (3 : Int) = 2 by decide, if_false, i3]
          rw [edit_eta e _ _ _ o2 rfl (hn4 (by omega))]
    · have hm : many 1 2 (e :: r) = many 1 2 r := by simp [many, o3]
      have hl2 : last ≠ 2 := fun k => h2 k o3
      have fl := hn3 o3
      rw [o3] at hr
      obtain ⟨i1, i2, i3⟩ := back_all r 3 2 a hr ⟨by omega, by omega, by omega, by omega, by omega⟩ (by omega) (by omega)
      have hi : invR (e :: r) a = ⟨2, e.n, []⟩ :: invR r a := by simp [invR, o3]
      have hb : applyB (e :: r) a = e.ls ++ applyB r a := by simp [applyB, o3]
      have hlf : e.ls.length = e.n.toNat := by omega
      have htk : (e.ls ++ applyB r a).take e.n.toNat = e.ls := List.take_left' hlf
      have hdk : (e.ls ++ applyB r a).drop e.n.toNat = applyB r a := List.drop_left' hlf
      refine ⟨?_, ?_, ?_⟩
      · rw [hi]
        exact rightF_mk (may_two hn1 hn2) (show (2 : Int) ≠ l' by omega) (show ¬ (l' = 3 ∧ (2 : Int) = 2) by omega) i1
      · rw [hi, hb]
        simp [applyB, hdk, i2]
      · rw [hi, hb]
        simp only [invR, show ¬ (2 : Int) = 1 by decide, if_false, if_true, hdk, htk, i3]
        rw [edit_eta e _ _ _ o3 rfl rfl]
        match r, hr with
        | [], _ => rfl
        | f :: r', hr =>
          obtain ⟨_, _, hof, _⟩ := rightF_cons hr
          have : ¬ f.op = 2 := fun k => hof ⟨rfl, k⟩
          simp [swp, this]
theorem invS_eq : ∀ (s : List Edit) (last : Int) (out : List Edit) (a : List (List UInt8)), rightF last s = true → (last = 2 → headOp s ≠ 3) → (headOp s = 3 → lastOp out ≠ 3) → invS s out a = out ++ invR s a
  | [], last, out, a, h, h2, ho => by simp [invS, invR]
  | e :: r, last, out, a, h, h2, ho => by
    obtain ⟨hme, hne, hno, hr⟩ := rightF_cons h
    obtain ⟨hop, hn1, hn2, hn3, hn4⟩ := mayB_op hme
    rcases hop with o1 | o2 | o3
    · rw [o1] at hr
      have hl : lastOp (out ++ [⟨1, e.n, []⟩]) = 1 := lastOp_snoc _ _
      have i := invS_eq r 1 (out ++ [⟨1, e.n, []⟩]) (a.drop e.n.toNat) hr (by omega) (fun _ => by rw [hl]; omega)
      simp only [invS, invStep, invR, if_pos o1, if_neg (show ¬ e.op = 3 by omega), i]
      simp
    · rw [o2] at hr
      have hi : invR (e :: r) a = swp ⟨3, e.n, a.take e.n.toNat⟩ (invR r (a.drop e.n.toNat)) := by simp [invR, o2]
      by_cases hh : headOp r = 3
      · match r, hh with
        | f :: r', hh =>
          have o3 : f.op = 3 := hh
          obtain ⟨hmf, hnf, hof, hrf⟩ := rightF_cons hr
          rw [o3] at hrf
          have hl : lastOp (out ++ [⟨3, e.n, a.take e.n.toNat⟩]) = 3 := lastOp_snoc _ _
          have hh' : headOp r' ≠ 3 := by
            cases r' with
            | nil => simp [headOp]
            | cons g r' => exact (rightF_cons hrf).2.1
          have i := invS_eq r' 3 (out ++ [⟨2, f.n, []⟩, ⟨3, e.n, a.take e.n.toNat⟩]) (a.drop e.n.toNat) hrf (by omega) (fun k => absurd k hh')
          have hi2 : invR (f :: r') (a.drop e.n.toNat) = ⟨2, f.n, []⟩ :: invR r' (a.drop e.n.toNat) := by simp [invR, o3]
          have hst : invStep out e a = out ++ [⟨3, e.n, a.take e.n.toNat⟩] := by simp [invStep, o2]
          have hst2 : invStep (out ++ [⟨3, e.n, a.take e.n.toNat⟩]) f (a.drop e.n.toNat) = out ++ [⟨2, f.n, []⟩, ⟨3, e.n, a.take e.n.toNat⟩] := by simp [invStep, o3, hl]
          rw [hi, hi2]
          simp only [invS, hst, if_neg (show ¬ e.op = 3 by omega), hst2, if_pos o3, i]
          simp [swp]
        | [], hh => simp [headOp] at hh
      · have i := invS_eq r 2 (out ++ [⟨3, e.n, a.take e.n.toNat⟩]) (a.drop e.n.toNat) hr (fun _ => hh) (fun k => absurd k hh)
        have hsw : invR (e :: r) a = ⟨3, e.n, a.take e.n.toNat⟩ :: invR r (a.drop e.n.toNat) := by
          rw [hi]
          match r, hh, hr with
          | [], _, _ => rfl
          | f :: r', hh, hr =>
            obtain ⟨hmf, hnf, hof, hrf⟩ := rightF_cons hr
            have o1 : f.op = 1 := by
              rcases (mayB_op hmf).1 with k | k | k
              · exact k
              · exact absurd k hnf
              · exact absurd k hh
            simp [invR, o1, swp]
        have hst : invStep out e a = out ++ [⟨3, e.n, a.take e.n.toNat⟩] := by simp [invStep, o2]
        simp only [invS, hst, if_neg (show ¬ e.op = 3 by omega), i, hsw]
        simp
    · rw [o3] at hr
      have hl := ho o3
      have hst : invStep out e a = out ++ [⟨2, e.n, []⟩] := by simp [invStep, o3, hl]
      have hh' : headOp r ≠ 3 := by
        cases r with
        | nil => simp [headOp]
        | cons g r' => exact (rightF_cons hr).2.1
      have i := invS_eq r 3 (out ++ [⟨2, e.n, []⟩]) a hr (by omega) (fun k => absurd k hh')
      simp only [invS, hst, if_pos o3, i, invR, if_neg (show ¬ e.op = 1 by omega), if_neg (show ¬ e.op = 2 by omega)]
      simp
set_option maxHeartbeats 2000000 in
set_option maxRecDepth 20000 in
theorem back_den (raw lines : List Int) (hr : ∀ c ∈ raw, inR c) (hl : ∀ c ∈ lines, inR c) : Den Sy 4 [iS raw, iS lines] = some (.bool true) := by
  rw [Den_fun Sy (af := A4) rfl rfl _ rfl]
  have hsd := script_den raw lines hr hl
  have hsr := scriptF_right raw
  obtain ⟨hm1, hm2, hlen⟩ := script_many raw 1 2
  obtain ⟨hm3, hm4, _⟩ := script_many raw 1 3
  generalize ha : fullF lines (many 1 2 (scriptF raw)).toNat = a at hsd
  have hal : many 1 2 (scriptF raw) = a.length := by rw [← ha, fullF, fullG_len]; omega
  generalize scriptF raw = s at hsd hsr hm1 hm2 hlen hm3 hm4 hal
  have hmay := rightF_may hsr
  have hB := back_all s 0 0 a hsr ⟨by omega, by omega, by omega, by omega, by omega⟩ (by omega) hal
  obtain ⟨b1, b2, b3⟩ := hB
  have hinv : invS s [] a = invR s a := by simpa using invS_eq s 0 [] a hsr (by omega) (by simp [lastOp])
  have hbl := apply_len s a hmay hal
  obtain ⟨q1, q2, q3⟩ := many_inv s a hmay
  have htl := inv_len s a
  generalize hb : applyB s a = b at b2 b3 hbl
  generalize ht : invR s a = t at b1 b2 b3 hinv q1 q2 q3 htl
  have htr : rightB t = true := b1
  have hal2 : many 1 2 t = b.length := by rw [q1]; exact hbl.symm
  have hinv2 : invS t [] b = s := by
    have := invS_eq t 0 [] b b1 (by omega) (by simp [lastOp])
    rw [this, b3]
    rfl
  have f1 : fitsF s a.length = 0 := by simp [fitsF, hsr, hal]
  have f2 : fitsF t b.length = 0 := by simp [fitsF, htr, hal2]
  have d1 := apply_den s (by omega) a
  have d2 := invert_den s (by omega) a (by omega)
  have d3 := apply_den t (by omega) b
  have d4 := invert_den t (by omega) b (by omega)
  rw [f1] at d1 d2
  rw [f2] at d3 d4
  simp only [applyF, f1, f2, if_true, applyA_map, hb, hinv, hinv2, b2] at d1 d2 d3 d4
  have d5 := spans_den s (by omega)
  have d6 := spans_den t (by omega)
  have d7 := cost_den s (by omega)
  have d8 := cost_den t (by omega)
  have d9 := right_den t (by omega)
  have d10 := texts_den a a (by omega)
  have hls : ∀ e ∈ s, e.ls.length ≤ 1099511627776 := by
    intro e he
    obtain ⟨hop, hn1, hn2, hn3, hn4⟩ := mayB_op (hmay e he)
    by_cases h3 : e.op = 3
    · have := hn3 h3; omega
    · rw [hn4 h3]; simp
  have d11 := same_den s s (by omega) hls
  simp only [spansF, costF, hsr, htr, if_true, q1, q2, q3, decide_true, hal, ← hbl] at d5 d6 d7 d8 d9 d10 d11
  simp [A4, awake_den, hsd, d1, d2, d3, d4, d5, d6, d7, d8, d9, d10, d11]
end Go.Proofs.YtdcgldhhdajocaaDoor.Rx
