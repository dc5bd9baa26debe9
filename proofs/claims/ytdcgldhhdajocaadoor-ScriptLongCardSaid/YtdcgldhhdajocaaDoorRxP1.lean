/-
  The script's laws, plain: the equations by which the plain program is run.
-/
import Derived.Test.YtdcgldhhdajocaaDoorRxE8
namespace Go.Proofs.YtdcgldhhdajocaaDoor.Rx
open Go

theorem RunD_cond' (S : Sys) (c : Opd) (a b : ACode) (st : St) : RunD S (.cond c a b) st = match evo st.env c with
    | some (.bool true) => RunD S a st
    | some (.bool false) => RunD S b st
    | _ => none := by
  split
  · rename_i h; rw [RunD_cond S c a b st h]; rfl
  · rename_i h; rw [RunD_cond S c a b st h]; rfl
  · rename_i h1 h2
    refine opt_eq fun r => ?_
    rw [RunD_iff]
    constructor
    · rintro ⟨n, hn⟩
      simp only [run] at hn
      simp at hn
    · intro h; simp at h

structure Edit where
  op : Int
  n : Int
  ls : List (List UInt8)
  deriving DecidableEq
def eE (e : Edit) : AV := .agg [.int .i64 e.op, .int .i64 e.n, .sl 1 (e.ls.map .str) .no]

theorem ofL_at {α : Type} (l : List (Nat × α)) (i : Nat) : ofL l i = get l i := rfl
theorem none'_at {α : Type} (i : Nat) : (none' : Nat → Option α) i = none := rfl
theorem outside_at (ops : List AOper) (e : Env) (i : Nat) : outside ops e i = if ops.any (fun o => o.d == some i) = true then none else e i := rfl
theorem stepsD_nil (D : Fun) (i : Nat) (fs : List (Nat × List Nat × List Nat)) (st : St) : stepsD D i fs [] st = some (.nrm, st) := rfl
/-- One operation of a row that draws its order, what it touches laid open. -/
def sdP (D : Fun) (i : Nat) (fs : List (Nat × List Nat × List Nat)) (o : AOper) (os : List AOper) (f : Option (List Nat × List Nat)) : Option (Bool × St) → Option (Ex × St)
  | some (false, st') => stepsD D (i + 1) (withF i f fs) os st'
  | some (true, st') => if fs.all (fun g => o.bf.contains g.1 || g.2.2.isEmpty) = true ∧ ahead i os = true then some (.pan, st') else none
  | none => none
theorem sdP_false (D : Fun) (i : Nat) (fs : List (Nat × List Nat × List Nat)) (o : AOper) (os : List AOper) (f : Option (List Nat × List Nat)) (st' : St) : sdP D i fs o os f (some (false, st')) = stepsD D (i + 1) (withF i f fs) os st' := rfl
theorem sdP_true (D : Fun) (i : Nat) (fs : List (Nat × List Nat × List Nat)) (o : AOper) (os : List AOper) (f : Option (List Nat × List Nat)) (st' : St) : sdP D i fs o os f (some (true, st')) = if fs.all (fun g => o.bf.contains g.1 || g.2.2.isEmpty) = true ∧ ahead i os = true then some (.pan, st') else none := rfl
def sdK (D : Fun) (i : Nat) (fs : List (Nat × List Nat × List Nat)) (o : AOper) (os : List AOper) (st : St) : Bool → Option (List Nat × List Nat) → Option (Ex × St)
  | false, none => sdP D i fs o os none (stepO D st o)
  | false, some f => if fs.all (fun g => o.bf.contains g.1 || apart g.2 f) = true then sdP D i fs o os (some f) (stepO D st o) else none
  | true, f => if fs.all (fun g => o.bf.contains g.1) = true ∧ ahead i os = true then sdP D i fs o os f (stepO D st o) else none
theorem stepsD_cons (D : Fun) (i : Nat) (fs : List (Nat × List Nat × List Nat)) (o : AOper) (os : List AOper) (st : St) : stepsD D i fs (o :: os) st = sdK D i fs o os st (barrier o.op) (foot st o.d o.op) := by
  have b1 : barrier o.op = true → ∀ f, behind fs o f = fs.all fun g => o.bf.contains g.1 := fun hb f => by unfold behind; rw [if_pos hb]
  have b2 : barrier o.op = false → behind fs o none = true := fun hb => by unfold behind; rw [if_neg (by rw [hb]; simp)]
  have b3 : barrier o.op = false → ∀ f, behind fs o (some f) = fs.all fun g => o.bf.contains g.1 || apart g.2 f := fun hb f => by unfold behind; rw [if_neg (by rw [hb]; simp)]
  unfold stepsD
  cases hb : barrier o.op with
  | true =>
    simp only [b1 hb, sdK, Bool.true_eq_false, false_or]
    by_cases h : (fs.all fun g => o.bf.contains g.1) = true ∧ ahead i os = true
    · rw [if_pos h, if_pos h]
      rcases stepO D st o with _ | ⟨_ | _, st'⟩ <;> rfl
    · rw [if_neg h, if_neg h]
  | false => cases hf : foot st o.d o.op with
    | none =>
      simp only [b2 hb, sdK]
      rw [if_pos ⟨trivial, .inl trivial⟩]
      rcases stepO D st o with _ | ⟨_ | _, st'⟩ <;> rfl
    | some f =>
      simp only [b3 hb, sdK]
      by_cases h : (fs.all fun g => o.bf.contains g.1 || apart g.2 f) = true
      · rw [if_pos ⟨h, .inl trivial⟩, if_pos h]
        rcases stepO D st o with _ | ⟨_ | _, st'⟩ <;> rfl
      · rw [if_neg (fun k => h k.1), if_neg h]
theorem sdK_none (D : Fun) (i : Nat) (fs : List (Nat × List Nat × List Nat)) (o : AOper) (os : List AOper) (st : St) : sdK D i fs o os st false none = sdP D i fs o os none (stepO D st o) := rfl
theorem sdK_some (D : Fun) (i : Nat) (fs : List (Nat × List Nat × List Nat)) (o : AOper) (os : List AOper) (st : St) (f : List Nat × List Nat) : sdK D i fs o os st false (some f) = if fs.all (fun g => o.bf.contains g.1 || apart g.2 f) = true then sdP D i fs o os (some f) (stepO D st o) else none := rfl
theorem sdK_true (D : Fun) (i : Nat) (fs : List (Nat × List Nat × List Nat)) (o : AOper) (os : List AOper) (st : St) (f : Option (List Nat × List Nat)) : sdK D i fs o os st true f = if fs.all (fun g => o.bf.contains g.1) = true ∧ ahead i os = true then sdP D i fs o os f (stepO D st o) else none := rfl
set_option linter.unusedSimpArgs false
set_option linter.unusedVariables false
attribute [simp] RunD_seq RunD_reg RunD_regD RunD_cond' RunD_blk RunD_ret RunD_skip RunD_exit stepsO stepO stepG step flat evo ofL_at get params paramsB eff setd updL upd_apply trim keepE outside_at andThen outOf AV.okC deadC AV.cells fillB none'_at mkv bin binI fin settle1 settleF finK tell tells tell1 refsOut noRefs AV.pub1 AV.pubC AV.pub un evos callE passL pass1 comeR comeB plainR place stepsD_nil stepsD_cons sdK_none sdK_some sdK_true sdP_false sdP_true ahead foot barrier withF apart names orNone
def mayB (e : Edit) : Bool := decide (1 ≤ e.n ∧ e.n ≤ 1048576) && (if e.op = 1 ∨ e.op = 2 then decide (e.ls = []) else if e.op = 3 then decide ((e.ls.length : Int) = e.n) else false)
theorem may_den (e : Edit) : Den Sy 36 [eE e] = some (.bool (mayB e)) := by
  rw [Den_fun Sy (af := A36) rfl rfl _ rfl]
  by_cases h1 : e.n < 1
  · have : ¬ 1 ≤ e.n := by omega
    simp [A36, eE, h1, mayB, this]
  · by_cases h2 : 1048576 < e.n
    · have : ¬ e.n ≤ 1048576 := by omega
      simp [A36, eE, h1, h2, mayB, this]
    · have : 1 ≤ e.n ∧ e.n ≤ 1048576 := by omega
      by_cases h3 : e.op = 1
      · simp [A36, eE, h1, h2, mayB, this, h3]
      · by_cases h4 : e.op = 2
        · simp [A36, eE, h1, h2, mayB, this, h3, h4]
        · by_cases h5 : e.op = 3
          · simp [A36, eE, h1, h2, mayB, this, h3, h4, h5]
          · simp [A36, eE, h1, h2, mayB, this, h3, h4, h5]
theorem eE_pub (e : Edit) : (eE e).pub = eE e := rfl
theorem plain_bool (b : Bool) : plainR (.bool b) = true := rfl
def rightF : Int → List Edit → Bool
  | _, [] => true
  | last, e :: r => mayB e && decide (e.op ≠ last) && !decide (last = 3 ∧ e.op = 2) && rightF e.op r
def Res (x : Option (Ex × St)) (Q : Ex → St → Prop) : Prop := ∃ ex st', x = some (ex, st') ∧ Q ex st'
theorem Res_some (ex : Ex) (st : St) (Q : Ex → St → Prop) : Res (some (ex, st)) Q ↔ Q ex st := by
  constructor
  · rintro ⟨_, _, h, hq⟩
    simp only [Option.some.injEq, Prod.mk.injEq] at h
    obtain ⟨rfl, rfl⟩ := h
    exact hq
  · exact fun h => ⟨_, _, rfl, h⟩
theorem andThen_some (st : St) (ex : Ex) (k : St → Option (Ex × St)) : andThen (some (ex, st)) k = match ex with | .nrm => k st | ex => some (ex, st) := by cases ex <;> rfl
theorem chk_i64 (n : Int) (h : -9223372036854775808 ≤ n ∧ n ≤ 9223372036854775807) : chk .i64 n = some (.int .i64 n) := by
  unfold chk
  rw [if_pos (by rw [IntKind.wrap_i64]; omega)]
theorem nn1 (n : Nat) : 0 ≤ (n : Int) + 1 := by omega
theorem nn2 (n : Nat) : 0 < (n : Int) + 1 := by omega
theorem nn3 (n : Nat) : ((n : Int) + 1).toNat = n + 1 := by omega
attribute [simp] Res_some nn1 nn2 nn3
theorem right_loop (s : List Edit) (hl : s.length ≤ 1099511627776) : ∀ (rest pre : List Edit) (last i : Int) (bx : Bx) (pm : Pm), s = pre ++ rest → i = pre.length →
    Res (RunD Sy (.loop L16x0) ⟨ofL [(3, .int .i64 last), (6, .sl 3 (s.map eE) .no), (7, .int .i64 s.length), (8, .int .i64 i)], bx, pm, none⟩) fun ex st' => st'.df = none ∧ if rightF last rest = true then ex = .exit 0 else ex = .ret ∧ st'.env 2 = some (.bool false)
  | [], pre, last, i, bx, pm, hs, hi => by
    subst hi
    rw [List.append_nil] at hs
    subst hs
    rw [RunD_loop]
    simp [L16x0, rightF]
  | e :: rest, pre, last, i, bx, pm, hs, hi => by
    have hlt : (pre.length : Int) < s.length := by rw [hs]; simp; omega
    have hg : (s.map eE)[pre.length]? = some (eE e) := by rw [hs]; simp
    subst hi
    rw [RunD_loop]
    have hm := may_den e
    simp only [eE] at hm hg
    have hc := chk_i64 ((pre.length : Int) + 1) (by omega)
    by_cases h1 : mayB e = true
    · by_cases h2 : e.op = last
      · simp [L16x0, hc, hlt, hg, hm, h1, rightF, eq_true h2]
      · by_cases h3 : last = 3
        · by_cases h4 : e.op = 2
          · simp [L16x0, hc, hlt, hg, hm, h1, rightF, eq_false h2, eq_true h3, eq_true h4]
          · simp [L16x0, hc, hlt, hg, hm, h1, rightF, eq_false h2, eq_true h3, eq_false h4]
            exact right_loop s hl rest (pre ++ [e]) e.op _ _ _ (by simp [hs]) (by simp)
        · simp [L16x0, hc, hlt, hg, hm, h1, rightF, eq_false h2, eq_false h3]
          exact right_loop s hl rest (pre ++ [e]) e.op _ _ _ (by simp [hs]) (by simp)
    · simp [L16x0, hc, hlt, hg, hm, h1, rightF]
def rightB (s : List Edit) : Bool := rightF 0 s
abbrev lim40 : Nat := 1099511627776
/-- A row of edits, as it is handed over. -/
abbrev sE (s : List Edit) : AV := .sl 3 (s.map eE) .no
abbrev sS (s : List (List UInt8)) : AV := .sl 1 (s.map .str) .no
theorem right_den (s : List Edit) (hl : s.length ≤ 1099511627776) : Den Sy 16 [sE s] = some (.bool (rightB s)) := by
  rw [Den_fun Sy (af := A16) rfl rfl _ rfl]
  obtain ⟨ex, st', h, hd, hr⟩ := right_loop s hl s [] 0 0 (ofL []) none' rfl rfl
  by_cases hb : rightF 0 s = true
  · rw [if_pos hb] at hr
    subst hr
    simp [A16, h, rightB, hb, hd]
  · rw [if_neg hb] at hr
    obtain ⟨rfl, h2⟩ := hr
    simp [A16, h, rightB, hb, hd, h2]
theorem may2_den (e : Edit) : Den Sy 37 [eE e] = some (.bool (mayB e)) := by
  rw [Den_fun Sy (af := A37) rfl rfl _ rfl]
  by_cases h1 : e.op < 1
  · have : ¬ e.op = 1 ∧ ¬ e.op = 2 ∧ ¬ e.op = 3 := by omega
    simp [A37, eE, h1, mayB, this]
  · by_cases h2 : 3 < e.op
    · have : ¬ e.op = 1 ∧ ¬ e.op = 2 ∧ ¬ e.op = 3 := by omega
      simp [A37, eE, h1, h2, mayB, this]
    · by_cases h3 : e.n < 1
      · have : ¬ 1 ≤ e.n := by omega
        simp [A37, eE, h1, h2, h3, mayB, this]
      · by_cases h4 : 1048576 < e.n
        · have : ¬ e.n ≤ 1048576 := by omega
          simp [A37, eE, h1, h2, h3, h4, mayB, this]
        · have h6 : 1 ≤ e.n ∧ e.n ≤ 1048576 := by omega
          by_cases h5 : e.op = 3
          · have : ¬ e.op = 1 ∧ ¬ e.op = 2 := by omega
            simp [A37, eE, h1, h2, h3, h4, mayB, eq_true h5, this, h6]
          · have : e.op = 1 ∨ e.op = 2 := by omega
            simp [A37, eE, h1, h2, h3, h4, mayB, eq_false h5, this, h6]
theorem mayB_op {e : Edit} (h : mayB e = true) : (e.op = 1 ∨ e.op = 2 ∨ e.op = 3) ∧ 1 ≤ e.n ∧ e.n ≤ 1048576 ∧ (e.op = 3 → (e.ls.length : Int) = e.n) ∧ (e.op ≠ 3 → e.ls = []) := by
  unfold mayB at h
  simp only [Bool.and_eq_true, decide_eq_true_eq] at h
  obtain ⟨h1, h2⟩ := h
  split at h2
  · rename_i h3
    simp only [decide_eq_true_eq] at h2
    exact ⟨by omega, h1.1, h1.2, fun h => by omega, fun _ => h2⟩
  · split at h2
    · rename_i h4
      simp only [decide_eq_true_eq] at h2
      exact ⟨by omega, h1.1, h1.2, fun _ => h2, fun h => absurd h4 h⟩
    · simp at h2
def lastOp (pre : List Edit) : Int := match pre.getLast? with | some e => e.op | none => 0
theorem nil_or_last {α : Type} (l : List α) : l = [] ∨ ∃ m x, l = m ++ [x] := by
  rcases List.eq_nil_or_concat l with h | ⟨m, x, h⟩
  · exact .inl h
  · exact .inr ⟨m, x, by rw [h, List.concat_eq_append]⟩
theorem right2_loop (s : List Edit) (hl : s.length ≤ 1099511627776) : ∀ (rest pre : List Edit) (last i : Int) (bx : Bx) (pm : Pm), s = pre ++ rest → i = pre.length → last = lastOp pre →
    Res (RunD Sy (.loop L17x0) ⟨ofL [(0, sE s), (3, .int .i64 i)], bx, pm, none⟩) fun ex st' => st'.df = none ∧ if rightF last rest = true then ex = .exit 0 else ex = .ret ∧ st'.env 2 = some (.bool false)
  | [], pre, last, i, bx, pm, hs, hi, hla => by
    subst hi
    rw [List.append_nil] at hs
    subst hs
    rw [RunD_loop]
    simp [L17x0, rightF]
  | e :: rest, pre, last, i, bx, pm, hs, hi, hla => by
    have hlt : (pre.length : Int) < s.length := by rw [hs]; simp; omega
    have hg : (s.map eE)[pre.length]? = some (eE e) := by rw [hs]; simp
    have hm := may2_den e
    simp only [eE] at hm hg
    rcases nil_or_last pre with rfl | ⟨l, p, rfl⟩
    · have hla : last = 0 := hla
      subst hla
      have hi0 : i = 0 := by simpa using hi
      have hlt0 : 0 < s.length := by rw [hs]; simp
      subst hi0
      rw [RunD_loop]
      simp only [List.length_nil] at hg
      have hc := chk_i64 1 (by omega)
      by_cases h1 : mayB e = true
      · have h0 : ¬ e.op = 0 := by have := (mayB_op h1).1; omega
        simp [-getElem?_pos, L17x0, hc, hlt0, hg, hm, h1, rightF, h0]
        exact right2_loop s hl rest [e] e.op _ _ _ (by simp [hs]) (by simp) rfl
      · simp [-getElem?_pos, L17x0, hc, hlt0, hg, hm, h1, rightF]
    · have hla : last = p.op := by rw [hla]; simp [lastOp]
      subst hla
      have hp : (s.map eE)[l.length]? = some (eE p) := by rw [hs]; simp
      simp only [eE, List.length_append, List.length_cons, List.length_nil, Nat.zero_add] at hp hg
      have hln : (l.length : Int) + 1 < s.length := by simpa using hlt
      have hc := chk_i64 ((l.length : Int) + 1 + 1) (by omega)
      have hc2 := chk_i64 (l.length : Int) (by omega)
      subst hi
      rw [RunD_loop]
      by_cases h1 : mayB e = true
      · by_cases h2 : p.op = e.op
        · simp [L17x0, hc, hc2, hln, hg, hp, hm, h1, rightF, eq_true h2, eq_true h2.symm]
        · have h2' : ¬ e.op = p.op := fun h => h2 h.symm
          by_cases h3 : p.op = 3
          · by_cases h4 : e.op = 2
            · simp [L17x0, hc, hc2, hln, hg, hp, hm, h1, rightF, eq_false h2, eq_false h2', eq_true h3, eq_true h4]
            · simp [L17x0, hc, hc2, hln, hg, hp, hm, h1, rightF, eq_false h2, eq_false h2', eq_true h3, eq_false h4]
              exact right2_loop s hl rest (l ++ [p] ++ [e]) e.op _ _ _ (by simp [hs]) (by simp; omega) (by simp [lastOp])
          · simp [L17x0, hc, hc2, hln, hg, hp, hm, h1, rightF, eq_false h2, eq_false h2', eq_false h3]
            exact right2_loop s hl rest (l ++ [p] ++ [e]) e.op _ _ _ (by simp [hs]) (by simp; omega) (by simp [lastOp])
      · simp [L17x0, hc, hc2, hln, hg, hp, hm, h1, rightF]
theorem right2_den (s : List Edit) (hl : s.length ≤ 1099511627776) : Den Sy 17 [sE s] = some (.bool (rightB s)) := by
  rw [Den_fun Sy (af := A17) rfl rfl _ rfl]
  obtain ⟨ex, st', h, hd, hr⟩ := right2_loop s hl s [] 0 0 (ofL []) none' rfl rfl rfl
  by_cases hb : rightF 0 s = true
  · rw [if_pos hb] at hr
    subst hr
    simp [A17, h, rightB, hb, hd]
  · rw [if_neg hb] at hr
    obtain ⟨rfl, h2⟩ := hr
    simp [A17, h, rightB, hb, hd, h2]
end Go.Proofs.YtdcgldhhdajocaaDoor.Rx
