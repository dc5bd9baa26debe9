/-
  Plain proofs: the equations by which a plain program is run; what scripts are; their bytes, there and back (no program here).
-/
import Derived.Test.YtdjgdipmjbkilaaGreatDoorRxF8
import Derived.Lib.ItoaLen
namespace Go.Proofs.YtdjgdipmjbkilaaGreatDoor.Rx
open Go
set_option linter.unusedSimpArgs false
set_option linter.unusedVariables false

theorem RunD_cond' (S : Sys) (c : Opd) (a b : ACode) (st : St) : RunD S (.cond c a b) st = match evo st.env c with
    | some (.bool true) => RunD S a st
    | some (.bool false) => RunD S b st
    | _ => none := by
  split
  · rename_i h; rw [RunD_cond S c a b st h]; rfl
  · rename_i h; rw [RunD_cond S c a b st h]; rfl
  · rename_i h1 h2
    refine opt_eq fun r => ?_
    rw [RunD_iff]
    constructor
    · rintro ⟨n, hn⟩
      simp only [run] at hn
      simp at hn
    · intro h; simp at h

structure Edit where
  op : Int
  n : Int
  ls : List (List UInt8)
  deriving DecidableEq
def eE (e : Edit) : AV := .agg [.int .i64 e.op, .int .i64 e.n, .sl 1 (e.ls.map .str) .no]

theorem ofL_at {α : Type} (l : List (Nat × α)) (i : Nat) : ofL l i = get l i := rfl
theorem none'_at {α : Type} (i : Nat) : (none' : Nat → Option α) i = none := rfl
theorem outside_at (ops : List AOper) (e : Env) (i : Nat) : outside ops e i = if ops.any (fun o => o.d == some i) = true then none else e i := rfl
theorem stepsD_nil (D : Fun) (i : Nat) (fs : List (Nat × List Nat × List Nat)) (st : St) : stepsD D i fs [] st = some (.nrm, st) := rfl
/-- One operation of a row that draws its order, what it touches laid open. -/
def sdP (D : Fun) (i : Nat) (fs : List (Nat × List Nat × List Nat)) (o : AOper) (os : List AOper) (f : Option (List Nat × List Nat)) : Option (Bool × St) → Option (Ex × St)
  | some (false, st') => stepsD D (i + 1) (withF i f fs) os st'
  | some (true, st') => if fs.all (fun g => o.bf.contains g.1 || g.2.2.isEmpty) = true ∧ ahead i os = true then some (.pan, st') else none
  | none => none
theorem sdP_false (D : Fun) (i : Nat) (fs : List (Nat × List Nat × List Nat)) (o : AOper) (os : List AOper) (f : Option (List Nat × List Nat)) (st' : St) : sdP D i fs o os f (some (false, st')) = stepsD D (i + 1) (withF i f fs) os st' := rfl
theorem sdP_true (D : Fun) (i : Nat) (fs : List (Nat × List Nat × List Nat)) (o : AOper) (os : List AOper) (f : Option (List Nat × List Nat)) (st' : St) : sdP D i fs o os f (some (true, st')) = if fs.all (fun g => o.bf.contains g.1 || g.2.2.isEmpty) = true ∧ ahead i os = true then some (.pan, st') else none := rfl
def sdK (D : Fun) (i : Nat) (fs : List (Nat × List Nat × List Nat)) (o : AOper) (os : List AOper) (st : St) : Bool → Option (List Nat × List Nat) → Option (Ex × St)
  | false, none => sdP D i fs o os none (stepO D st o)
  | false, some f => if fs.all (fun g => o.bf.contains g.1 || apart g.2 f) = true then sdP D i fs o os (some f) (stepO D st o) else none
  | true, f => if fs.all (fun g => o.bf.contains g.1) = true ∧ ahead i os = true then sdP D i fs o os f (stepO D st o) else none
theorem stepsD_cons (D : Fun) (i : Nat) (fs : List (Nat × List Nat × List Nat)) (o : AOper) (os : List AOper) (st : St) : stepsD D i fs (o :: os) st = sdK D i fs o os st (barrier o.op) (foot st o.d o.op) := by
  have b1 : barrier o.op = true → ∀ f, behind fs o f = fs.all fun g => o.bf.contains g.1 := fun hb f => by unfold behind; rw [if_pos hb]
  have b2 : barrier o.op = false → behind fs o none = true := fun hb => by unfold behind; rw [if_neg (by rw [hb]; simp)]
  have b3 : barrier o.op = false → ∀ f, behind fs o (some f) = fs.all fun g => o.bf.contains g.1 || apart g.2 f := fun hb f => by unfold behind; rw [if_neg (by rw [hb]; simp)]
  unfold stepsD
  cases hb : barrier o.op with
  | true =>
    simp only [b1 hb, sdK, Bool.true_eq_false, false_or]
    by_cases h : (fs.all fun g => o.bf.contains g.1) = true ∧ ahead i os = true
    · rw [if_pos h, if_pos h]
      rcases stepO D st o with _ | ⟨_ | _, st'⟩ <;> rfl
    · rw [if_neg h, if_neg h]
  | false => cases hf : foot st o.d o.op with
    | none =>
      simp only [b2 hb, sdK]
      rw [if_pos ⟨trivial, .inl trivial⟩]
      rcases stepO D st o with _ | ⟨_ | _, st'⟩ <;> rfl
    | some f =>
      simp only [b3 hb, sdK]
      by_cases h : (fs.all fun g => o.bf.contains g.1 || apart g.2 f) = true
      · rw [if_pos ⟨h, .inl trivial⟩, if_pos h]
        rcases stepO D st o with _ | ⟨_ | _, st'⟩ <;> rfl
      · rw [if_neg (fun k => h k.1), if_neg h]
theorem sdK_none (D : Fun) (i : Nat) (fs : List (Nat × List Nat × List Nat)) (o : AOper) (os : List AOper) (st : St) : sdK D i fs o os st false none = sdP D i fs o os none (stepO D st o) := rfl
theorem sdK_some (D : Fun) (i : Nat) (fs : List (Nat × List Nat × List Nat)) (o : AOper) (os : List AOper) (st : St) (f : List Nat × List Nat) : sdK D i fs o os st false (some f) = if fs.all (fun g => o.bf.contains g.1 || apart g.2 f) = true then sdP D i fs o os (some f) (stepO D st o) else none := rfl
theorem sdK_true (D : Fun) (i : Nat) (fs : List (Nat × List Nat × List Nat)) (o : AOper) (os : List AOper) (st : St) (f : Option (List Nat × List Nat)) : sdK D i fs o os st true f = if fs.all (fun g => o.bf.contains g.1) = true ∧ ahead i os = true then sdP D i fs o os f (stepO D st o) else none := rfl
attribute [simp] RunD_seq RunD_reg RunD_regD RunD_cond' RunD_blk RunD_ret RunD_skip RunD_exit stepsO stepO stepG step flat evo ofL_at get params paramsB eff setd updL upd_apply trim keepE outside_at andThen outOf AV.okC deadC AV.cells fillB none'_at mkv bin binI fin settle1 settleF finK tell tells tell1 refsOut noRefs AV.pub1 AV.pubC AV.pub un evos callE passL pass1 comeR comeB plainR place stepsD_nil stepsD_cons sdK_none sdK_some sdK_true sdP_false sdP_true ahead foot barrier withF apart names orNone
def mayB (e : Edit) : Bool := decide (1 ≤ e.n ∧ e.n ≤ 1048576) && (if e.op = 1 ∨ e.op = 2 then decide (e.ls = []) else if e.op = 3 then decide ((e.ls.length : Int) = e.n) else false)
theorem eE_pub (e : Edit) : (eE e).pub = eE e := rfl
theorem plain_bool (b : Bool) : plainR (.bool b) = true := rfl
def rightF : Int → List Edit → Bool
  | _, [] => true
  | last, e :: r => mayB e && decide (e.op ≠ last) && !decide (last = 3 ∧ e.op = 2) && rightF e.op r
def Res (x : Option (Ex × St)) (Q : Ex → St → Prop) : Prop := ∃ ex st', x = some (ex, st') ∧ Q ex st'
theorem Res_some (ex : Ex) (st : St) (Q : Ex → St → Prop) : Res (some (ex, st)) Q ↔ Q ex st := by
  constructor
  · rintro ⟨_, _, h, hq⟩
    simp only [Option.some.injEq, Prod.mk.injEq] at h
    obtain ⟨rfl, rfl⟩ := h
    exact hq
  · exact fun h => ⟨_, _, rfl, h⟩
theorem andThen_some (st : St) (ex : Ex) (k : St → Option (Ex × St)) : andThen (some (ex, st)) k = match ex with | .nrm => k st | ex => some (ex, st) := by cases ex <;> rfl
theorem chk_i64 (n : Int) (h : -9223372036854775808 ≤ n ∧ n ≤ 9223372036854775807) : chk .i64 n = some (.int .i64 n) := by
  unfold chk
  rw [if_pos (by rw [IntKind.wrap_i64]; omega)]
theorem nn1 (n : Nat) : 0 ≤ (n : Int) + 1 := by omega
theorem nn2 (n : Nat) : 0 < (n : Int) + 1 := by omega
theorem nn3 (n : Nat) : ((n : Int) + 1).toNat = n + 1 := by omega
attribute [simp] Res_some nn1 nn2 nn3
def rightB (s : List Edit) : Bool := rightF 0 s
abbrev lim40 : Nat := 1099511627776
/-- A row of edits, as it is handed over. -/
abbrev sE (s : List Edit) : AV := .sl 3 (s.map eE) .no
abbrev sS (s : List (List UInt8)) : AV := .sl 1 (s.map .str) .no
theorem mayB_op {e : Edit} (h : mayB e = true) : (e.op = 1 ∨ e.op = 2 ∨ e.op = 3) ∧ 1 ≤ e.n ∧ e.n ≤ 1048576 ∧ (e.op = 3 → (e.ls.length : Int) = e.n) ∧ (e.op ≠ 3 → e.ls = []) := by
  unfold mayB at h
  simp only [Bool.and_eq_true, decide_eq_true_eq] at h
  obtain ⟨h1, h2⟩ := h
  split at h2
  · rename_i h3
    simp only [decide_eq_true_eq] at h2
    exact ⟨by omega, h1.1, h1.2, fun h => by omega, fun _ => h2⟩
  · split at h2
    · rename_i h4
      simp only [decide_eq_true_eq] at h2
      exact ⟨by omega, h1.1, h1.2, fun _ => h2, fun h => absurd h4 h⟩
    · simp at h2
def lastOp (pre : List Edit) : Int := match pre.getLast? with | some e => e.op | none => 0
theorem nil_or_last {α : Type} (l : List α) : l = [] ∨ ∃ m x, l = m ++ [x] := by
  rcases List.eq_nil_or_concat l with h | ⟨m, x, h⟩
  · exact .inl h
  · exact .inr ⟨m, x, by rw [h, List.concat_eq_append]⟩
def many (a b : Int) : List Edit → Int
  | [] => 0
  | e :: r => (if e.op = a ∨ e.op = b then e.n else 0) + many a b r
theorem rightF_may : ∀ {s : List Edit} {last : Int}, rightF last s = true → ∀ e ∈ s, mayB e = true
  | [], _, _, e, he => by simp at he
  | x :: s, last, h, e, he => by
    simp only [rightF, Bool.and_eq_true] at h
    rcases List.mem_cons.1 he with rfl | he
    · exact h.1.1.1
    · exact rightF_may h.2 e he
theorem many_le (a b : Int) : ∀ {s : List Edit}, (∀ e ∈ s, mayB e = true) → 0 ≤ many a b s ∧ many a b s ≤ 1048576 * s.length
  | [], _ => by simp [many]
  | e :: s, h => by
    have h1 := (mayB_op (h e (by simp))).2
    have h2 := many_le a b (s := s) (fun x hx => h x (by simp [hx]))
    simp only [many, List.length_cons]
    split <;> omega
/-- How many lines a script takes, and makes. -/
def spansF (s : List Edit) : Int × Int := if rightB s = true then (many 1 2 s, many 1 3 s) else (0, 0)
def costF (s : List Edit) : Int := if rightB s = true then many 2 3 s else 0
/-- What is wrong with a script and lines (1: what may not be; 11: what does not fit). -/
def fitsF (s : List Edit) (n : Nat) : Int := if rightB s = true then (if many 1 2 s = n then 0 else 11) else 1
attribute [simp] slc bnd optv

/-- What may be appended to. -/
def AppOk (pm : Pm) (p : Perm) : Prop := p = .nil ∨ ∃ s v, p = .tok s v ∧ pm s = some (v, true)
theorem AppOk.tok {pm : Pm} {s v : Nat} (h : pm s = some (v, true)) : AppOk pm (.tok s v) := .inr ⟨s, v, rfl, h⟩
theorem AppOk.nil (pm : Pm) : AppOk pm .nil := .inl rfl
theorem isSl_pub (k : Nat) (xs : List AV) (p : Perm) : (AV.sl k xs p).pub = .sl k xs .no := rfl

def applyA : List Edit → List AV → List AV
  | [], _ => []
  | e :: r, a => if e.op = 1 then a.take e.n.toNat ++ applyA r (a.drop e.n.toNat) else if e.op = 2 then applyA r (a.drop e.n.toNat) else e.ls.map .str ++ applyA r a
def applyF (s : List Edit) (n : Nat) (a : List AV) : List AV := if fitsF s n = 0 then applyA s a else []
theorem many_nn (a b : Int) {s : List Edit} (h : ∀ e ∈ s, mayB e = true) : 0 ≤ many a b s := (many_le a b h).1
theorem fitsF_zero {s : List Edit} {n : Nat} (h : fitsF s n = 0) : rightB s = true ∧ many 1 2 s = n := by
  unfold fitsF at h
  split at h
  · rename_i h1
    split at h
    · rename_i h2; exact ⟨h1, h2⟩
    · simp at h
  · simp at h
attribute [simp] rowsOf AV.isAgg

def inR (c : Int) : Prop := -9223372036854775808 ≤ c ∧ c ≤ 9223372036854775807
def pickF (c n : Int) : Int := (if c < 0 then -(c + 1) else c).tmod n
theorem pickF_lt (c : Int) {n : Int} (hn : 0 < n) : 0 ≤ pickF c n ∧ pickF c n < n := by
  unfold pickF
  split
  · exact ⟨Int.tmod_nonneg _ (by omega), Int.tmod_lt_of_pos _ hn⟩
  · exact ⟨Int.tmod_nonneg _ (by omega), Int.tmod_lt_of_pos _ hn⟩
def kinds : List (List UInt8) := [[97, 10], [98, 10], [99, 10], [], [120, 58, 121, 59]]
def kindF (j : Int) : List UInt8 := kinds.getD j.toNat []
theorem kinds_get (j : Int) (h : 0 ≤ j ∧ j < 5) : [AV.str [97, 10], AV.str [98, 10], AV.str [99, 10], AV.str [], AV.str [120, 58, 121, 59]][j.toNat]? = some (.str (kindF j)) := by
  obtain ⟨k, rfl⟩ : ∃ k : Nat, j = k := ⟨j.toNat, by omega⟩
  have : k < 5 := by omega
  simp only [Int.toNat_natCast, kindF]
  match k, this with
  | 0, _ => rfl
  | 1, _ => rfl
  | 2, _ => rfl
  | 3, _ => rfl
  | 4, _ => rfl
abbrev iS (raw : List Int) : AV := .sl 1 (raw.map (.int .i64)) .no
/-- So many lines, of raw numbers, from the i-th on. -/
def fullG (raw : List Int) : Nat → Nat → List (List UInt8)
  | _, 0 => []
  | i, n + 1 => kindF (pickF (raw.getD i i) 5) :: fullG raw (i + 1) n
def fullF (raw : List Int) (n : Nat) : List (List UInt8) := fullG raw 0 n
theorem fullG_len (raw : List Int) : ∀ (n i : Nat), (fullG raw i n).length = n
  | 0, _ => rfl
  | n + 1, i => by simp [fullG, fullG_len raw n]
theorem loop_step {S : Sys} {a : ACode} {st : St} {Q : Ex → St → Prop} (h : ∀ K, K = RunD S (.loop a) → Res (andThen (RunD S a st) K) Q) : Res (RunD S (.loop a) st) Q := by
  rw [RunD_loop]
  exact h _ rfl
def mkE (c : Int) (r : List Int) : Edit := ⟨1 + pickF c 3, 1 + pickF (c.tdiv 3) 4, if 1 + pickF c 3 = 3 then fullF (c :: r) (1 + pickF (c.tdiv 3) 4).toNat else []⟩
def skipB (last op : Int) : Bool := decide (last = op) || decide (last = 3 ∧ op = 2)
def scriptG : Nat → List Int → Int → List Edit
  | 0, _, _ => []
  | _ + 1, [], _ => []
  | k + 1, c :: r, last => if skipB last (mkE c r).op = true then scriptG k r last else mkE c r :: scriptG k r (mkE c r).op
def scriptF (raw : List Int) : List Edit := scriptG 10 raw 0
theorem mkE_may (c : Int) (r : List Int) : mayB (mkE c r) = true := by
  have h1 := pickF_lt c (n := 3) (by omega)
  have h2 := pickF_lt (c.tdiv 3) (n := 4) (by omega)
  have e1 : (mkE c r).op = 1 + pickF c 3 := rfl
  have e2 : (mkE c r).n = 1 + pickF (c.tdiv 3) 4 := rfl
  unfold mayB
  simp only [Bool.and_eq_true, decide_eq_true_eq]
  refine ⟨by omega, ?_⟩
  by_cases h3 : 1 + pickF c 3 = 3
  · rw [if_neg (by omega), if_pos (by omega)]
    simp only [mkE, if_pos h3, decide_eq_true_eq, fullF, fullG_len]
    omega
  · rw [if_pos (by omega)]
    simp [mkE, if_neg h3]
theorem scriptG_right : ∀ (k : Nat) (r : List Int) (last : Int), rightF last (scriptG k r last) = true
  | 0, _, _ => rfl
  | _ + 1, [], _ => rfl
  | k + 1, c :: r, last => by
    unfold scriptG
    split
    · exact scriptG_right k r last
    · rename_i h
      simp only [skipB, Bool.or_eq_true, decide_eq_true_eq, not_or] at h
      simp only [rightF, mkE_may, scriptG_right k r, Bool.and_true, Bool.true_and, Bool.and_eq_true, decide_eq_true_eq, Bool.not_eq_true', decide_eq_false_iff_not]
      exact ⟨fun e => h.1 e.symm, h.2⟩
theorem scriptF_right (raw : List Int) : rightB (scriptF raw) = true := scriptG_right _ _ _
theorem scriptG_len : ∀ (k : Nat) (r : List Int) (last : Int), (scriptG k r last).length ≤ k
  | 0, _, _ => by simp [scriptG]
  | _ + 1, [], _ => by simp [scriptG]
  | k + 1, c :: r, last => by
    unfold scriptG
    split
    · have := scriptG_len k r last; omega
    · have := scriptG_len k r (mkE c r).op
      simp
      omega
theorem scriptG_small : ∀ (k : Nat) (r : List Int) (last : Int), ∀ e ∈ scriptG k r last, e.n ≤ 4
  | 0, _, _, e, he => by simp [scriptG] at he
  | _ + 1, [], _, e, he => by simp [scriptG] at he
  | k + 1, c :: r, last, e, he => by
    unfold scriptG at he
    split at he
    · exact scriptG_small k r last e he
    · rcases List.mem_cons.1 he with rfl | he
      · have h2 := pickF_lt (c.tdiv 3) (n := 4) (by omega)
        have e2 : (mkE c r).n = 1 + pickF (c.tdiv 3) 4 := rfl
        omega
      · exact scriptG_small k r _ e he
attribute [simp] build

theorem lastOp_snoc (l : List Edit) (p : Edit) : lastOp (l ++ [p]) = p.op := by simp [lastOp]
theorem tdiv3_in {c : Int} (h : inR c) : inR (c.tdiv 3) := by
  obtain ⟨h1, h2⟩ := h
  rcases Int.lt_or_le c 0 with h | h
  · have e : c.tdiv 3 = -((-c).tdiv 3) := by rw [Int.neg_tdiv, Int.neg_neg]
    have e2 : (-c).tdiv 3 = (-c) / 3 := Int.tdiv_eq_ediv_of_nonneg (by omega)
    constructor <;> omega
  · have e2 : c.tdiv 3 = c / 3 := Int.tdiv_eq_ediv_of_nonneg h
    constructor <;> omega
theorem many_le4 (a b : Int) : ∀ {s : List Edit}, (∀ e ∈ s, e.n ≤ 4) → many a b s ≤ 4 * s.length
  | [], _ => by simp [many]
  | e :: s, h => by
    have h1 := h e (by simp)
    have h2 := many_le4 a b (s := s) (fun x hx => h x (by simp [hx]))
    simp only [many, List.length_cons]
    split <;> omega
theorem script_many (raw : List Int) (a b : Int) : 0 ≤ many a b (scriptF raw) ∧ many a b (scriptF raw) ≤ 40 ∧ (scriptF raw).length ≤ 10 := by
  have h1 := many_nn a b (rightF_may (scriptF_right raw))
  have h2 := many_le4 a b (scriptG_small 10 raw 0)
  have h3 := scriptG_len 10 raw 0
  have e : scriptG 10 raw 0 = scriptF raw := rfl
  rw [e] at h2 h3
  exact ⟨h1, by omega, h3⟩
attribute [simp] comeB binS refsOut rcvK

theorem idx_lt : ∀ (t : List UInt8) (c : UInt8), Lib.indexByte t c = -1 ∨ (0 ≤ Lib.indexByte t c ∧ Lib.indexByte t c < t.length)
  | [], c => .inl rfl
  | b :: l, c => by
    unfold Lib.indexByte
    split
    · exact .inr ⟨by omega, by simp⟩
    · split
      · exact .inl rfl
      · rename_i h
        rcases idx_lt l c with h1 | ⟨h1, h2⟩
        · rw [h1] at h; simp at h
        · exact .inr ⟨by omega, by simp; omega⟩
theorem atoi_in {t : List UInt8} {v : Int} (h : Lib.atoiAll t = .ok v) : inR v := by
  unfold Lib.atoiAll at h
  split at h
  · cases h
  · simp only at h
    split at h
    · cases h
    · cases h
    · split at h
      · cases h
      · split at h
        · cases h
        · rename_i u _ h1 h2
          simp only [Lib.NumEnd.ok.injEq] at h
          subst h
          split
          · rename_i h3
            have : ¬ 9223372036854775808 < u := fun k => h2 ⟨h3, k⟩
            constructor <;> omega
          · rename_i h3
            have : ¬ 9223372036854775808 ≤ u := fun k => h1 ⟨h3, k⟩
            constructor <;> omega
/-- The number with which bytes begin, and what stands behind the sign that ends it. -/
def numF (c : UInt8) (t : List UInt8) : Option (Int × List UInt8) :=
  if 0 < Lib.indexByte t c then match Lib.atoiAll (t.take (Lib.indexByte t c).toNat) with
    | .ok v => if 0 ≤ v ∧ Lib.itoa v = t.take (Lib.indexByte t c).toNat then some (v, t.drop ((Lib.indexByte t c).toNat + 1)) else none
    | _ => none
  else none
theorem nn5 (n : Nat) : 1 ≤ (n : Int) + 1 := by omega
attribute [simp] nn5
theorem numF_spec {c : UInt8} {t r : List UInt8} {m : Int} (h : numF c t = some (m, r)) : 0 ≤ m ∧ inR m ∧ r.length < t.length := by
  unfold numF at h
  have hb := idx_lt t c
  split at h
  · split at h
    · rename_i hv
      split at h
      · rename_i h2
        simp only [Option.some.injEq, Prod.mk.injEq] at h
        obtain ⟨rfl, rfl⟩ := h
        exact ⟨h2.1, atoi_in hv, by rw [List.length_drop]; omega⟩
      · simp at h
    · simp at h
  · simp at h
def linesF : Nat → List UInt8 → Option (List (List UInt8) × List UInt8)
  | 0, t => some ([], t)
  | n + 1, t => match numF 58 t with
    | some (m, r) => if m ≤ r.length then (linesF n (r.drop m.toNat)).map fun p => (r.take m.toNat :: p.1, p.2) else none
    | none => none
def opF (c : UInt8) : Int := Lib.indexByte [63, 61, 45, 43] c
/-- The edit with which bytes begin, and what stands behind it. -/
def editF : List UInt8 → Option (Edit × List UInt8)
  | [] => none
  | c :: r => if 0 < opF c then match numF 59 r with
      | some (n, u) => if n ≤ 1048576 then (if opF c = 3 then match linesF n.toNat u with
            | some (ls, v) => some (⟨3, n, ls⟩, v)
            | none => none
          else some (⟨opF c, n, []⟩, u)) else none
      | none => none
    else none
def decL : Nat → List UInt8 → Option (List Edit)
  | _, [] => some []
  | 0, _ :: _ => none
  | k + 1, c :: r => match editF (c :: r) with
    | some (e, t) => (decL k t).map (e :: ·)
    | none => none
def decF (t : List UInt8) : Option (List Edit) := match decL t.length t with
  | some s => if rightB s = true then some s else none
  | none => none

/-- What may be appended to, by the one mark. -/
def AppAt (d : Nat) (pm : Pm) (p : Perm) : Prop := p = .nil ∨ ∃ v, p = .tok d v ∧ pm d = some (v, true)
abbrev envD (l : List (Nat × AV)) : Env := ofL ((1, .ptr 1 0 0) :: (2, .ptr 2 0 0) :: (3, .ptr 3 0 0) :: (4, .clo 85 [.ptr 1 0 0]) :: l)
abbrev dfD : Option (Nat × List AV) := some (84, [.ptr 2 0 0, .ptr 3 0 0])
/-- It has gone up: what is put off finds its boxes. -/
structure Fell (ex : Ex) (st' : St) : Prop where
  pan : ex = .pan
  df : st'.df = dfD
  b2 : ∃ xs p, st'.bx 2 = some (0, [.sl 3 xs p])
  b3 : ∃ n, st'.bx 3 = some (0, [.int .i64 n])
  e2 : st'.env 2 = some (.ptr 2 0 0)
  e3 : st'.env 3 = some (.ptr 3 0 0)
structure Boxes (bx : Bx) (t : List UInt8) (out : List AV) (p : Perm) : Prop where
  b1 : bx 1 = some (0, [.str t])
  b2 : bx 2 = some (0, [.sl 3 out p])
  b3 : bx 3 = some (0, [.int .i64 0])
def LinesR (n v6 : Nat) (out : List AV) (p2 : Perm) (t : List UInt8) (ls : List AV) (pm : Pm) (ex : Ex) (st' : St) : Option (List (List UInt8) × List UInt8) → Prop
  | some (L, r) => ex = .exit 2 ∧ ∃ bx' pm' p', st' = ⟨envD [(5, .int .i64 3), (6, .ptr 6 v6 0), (7, .int .i64 n), (36, .bool false)], bx', pm', dfD⟩ ∧ Boxes bx' r out p2 ∧ bx' 6 = some (v6, [.int .i64 3, .int .i64 n, .sl 1 (ls ++ L.map .str) p']) ∧ pm' 60 = pm 60 ∧ r.length ≤ t.length
  | none => Fell ex st'
theorem LinesR.step {n v6 : Nat} {out : List AV} {p2 : Perm} {t t' : List UInt8} {ls : List AV} {pm pm' : Pm} {ex : Ex} {st' : St} {x : List UInt8} {o : Option (List (List UInt8) × List UInt8)} (h : LinesR n v6 out p2 t' (ls ++ [.str x]) pm' ex st' o) (hpm : pm' 60 = pm 60) (ht : t'.length ≤ t.length) :
    LinesR n v6 out p2 t ls pm ex st' (o.map fun p => (x :: p.1, p.2)) := by
  cases o with
  | none => exact h
  | some Lr =>
    obtain ⟨L, r⟩ := Lr
    obtain ⟨h1, bx', pm2, p', h2, h3, h4, h5, h6⟩ := h
    exact ⟨h1, bx', pm2, p', h2, h3, by rw [h4]; simp, h5.trans hpm, Nat.le_trans h6 ht⟩
theorem Res.eqv {x : Option (Ex × St)} {Q Q' : Ex → St → Prop} (h : ∀ ex st, Q ex st → Q' ex st) (k : Res x Q) : Res x Q' := by
  obtain ⟨ex, st, h1, h2⟩ := k
  exact ⟨ex, st, h1, h ex st h2⟩
theorem linesF_len : ∀ {n : Nat} {t r : List UInt8} {L : List (List UInt8)}, linesF n t = some (L, r) → L.length = n ∧ r.length ≤ t.length
  | 0, t, r, L, h => by
    simp only [linesF, Option.some.injEq, Prod.mk.injEq] at h
    obtain ⟨rfl, rfl⟩ := h
    exact ⟨rfl, Nat.le_refl _⟩
  | n + 1, t, r, L, h => by
    unfold linesF at h
    split at h
    · rename_i m u hq
      obtain ⟨_, _, hl⟩ := numF_spec hq
      split at h
      · obtain ⟨⟨L', r'⟩, h1, h2⟩ := Option.map_eq_some_iff.1 h
        simp only [Prod.mk.injEq] at h2
        obtain ⟨rfl, rfl⟩ := h2
        obtain ⟨h3, h4⟩ := linesF_len h1
        rw [List.length_drop] at h4
        exact ⟨by simp [h3], by omega⟩
      · simp at h
    · simp at h
theorem editF_len {t r : List UInt8} {e : Edit} (h : editF t = some (e, r)) : r.length < t.length := by
  unfold editF at h
  split at h
  · simp at h
  · split at h
    · split at h
      · rename_i c u n v hq
        obtain ⟨_, _, hl⟩ := numF_spec hq
        split at h
        · split at h
          · split at h
            · rename_i ls w hw
              simp only [Option.some.injEq, Prod.mk.injEq] at h
              obtain ⟨rfl, rfl⟩ := h
              have := (linesF_len hw).2
              simp only [List.length_cons]
              omega
            · simp at h
          · simp only [Option.some.injEq, Prod.mk.injEq] at h
            obtain ⟨rfl, rfl⟩ := h
            simp only [List.length_cons]
            omega
        · simp at h
      · simp at h
    · simp at h

def DecR (out : List AV) (ex : Ex) (st' : St) : Option (List Edit) → Prop
  | some L => ex = .exit 0 ∧ ∃ e bx' pm' p', st' = ⟨e, bx', pm', dfD⟩ ∧ e 2 = some (.ptr 2 0 0) ∧ e 3 = some (.ptr 3 0 0) ∧ Boxes bx' [] (out ++ L.map eE) p'
  | none => Fell ex st'
theorem DecR.step {out : List AV} {x : Edit} {ex : Ex} {st' : St} {o : Option (List Edit)} (h : DecR (out ++ [eE x]) ex st' o) : DecR out ex st' (o.map (x :: ·)) := by
  cases o with
  | none => exact h
  | some L =>
    obtain ⟨h1, e, bx', pm', p', h2, h3, h4, h5⟩ := h
    exact ⟨h1, e, bx', pm', p', h2, h3, h4, by simpa using h5⟩
theorem decL_len : ∀ {k : Nat} {t : List UInt8} {s : List Edit}, decL k t = some s → s.length ≤ t.length
  | k, [], s, h => by
    have e : decL k [] = some [] := by cases k <;> rfl
    rw [e] at h
    simp only [Option.some.injEq] at h
    subst h
    simp
  | 0, c :: r, s, h => by simp [decL] at h
  | k + 1, c :: r, s, h => by
    simp only [decL] at h
    split at h
    · rename_i e t he
      obtain ⟨l, h1, rfl⟩ := Option.map_eq_some_iff.1 h
      have h2 := decL_len h1
      have h3 := editF_len he
      simp only [List.length_cons] at h3 ⊢
      omega
    · simp at h
theorem RunD_dfr' (S : Sys) (d f : Nat) (caps : List Opd) (st : St) : RunD S (.dfr d f caps) st = match st.df, evos st.env caps with
    | none, some l => some (.nrm, { st with env := upd st.env d .opq, df := some (f, l) })
    | _, _ => none := by rw [RunD_dfr]; rfl
attribute [simp] wrsK wrsB selfP bstrK bstrB

def sgn (op : Int) : List UInt8 := if op = 1 then [61] else if op = 2 then [45] else [43]
def encLine (l : List UInt8) : List UInt8 := Lib.itoa l.length ++ [58] ++ l
def encLs (ls : List (List UInt8)) : List UInt8 := ls.flatMap encLine
def encHead (e : Edit) : List UInt8 := sgn e.op ++ Lib.itoa e.n ++ [59]
def encE (e : Edit) : List UInt8 := encHead e ++ encLs e.ls
def encL (s : List Edit) : List UInt8 := s.flatMap encE
theorem byteC_len (l : List UInt8) : (byteC l).length = l.length := by simp [byteC]
theorem byteC_app (a b : List UInt8) : byteC a ++ byteC b = byteC (a ++ b) := by simp [byteC]
theorem byteC_dead (l : List UInt8) : deadC (byteC l) = false := by
  cases l with
  | nil => rfl
  | cons c l => cases l <;> rfl
theorem byteC_dead2 (a b : List UInt8) : deadC (byteC a ++ byteC b) = false := by rw [byteC_app]; exact byteC_dead _
theorem asBytes_byteC (l : List UInt8) : asBytes (byteC l) = some l := by
  induction l with
  | nil => rfl
  | cons c l ih =>
    have h : c.toNat < 256 := c.toNat_lt
    simp only [byteC, List.map_cons, asBytes] at ih ⊢
    rw [if_pos (by omega), ih]
    simp
/-- What a builder has. -/
structure Bd (bx : Bx) (v t r : Nat) (l : List UInt8) : Prop where
  b4 : bx 4 = some (v, [.ptr 4 v 0, .own 1 false t r l.length])
  bt : bx t = some (r, byteC l)
  h : 200000 ≤ t
theorem itoa_len (n : Int) (h : inR n) : (Lib.itoa n).length ≤ 21 := Lib.itoa_length_le n h.1 h.2
def EnvT (v : Nat) (a12 a13 a14 : AV) (ls : List (List UInt8)) (j : Int) : Env := ofL [(4, .ptr 4 v 0), (12, a12), (13, a13), (14, a14), (31, sS ls), (32, .int .i64 ls.length), (33, .int .i64 j)]
def EncLR (v t : Nat) (a12 a13 a14 : AV) (ls : List (List UInt8)) (l : List UInt8) (pm : Pm) (ex : Ex) (st' : St) (rest : List (List UInt8)) : Prop :=
  ex = .exit 2 ∧ ∃ bx' r', st' = ⟨ofL [(4, .ptr 4 v 0), (12, a12), (13, a13), (14, a14), (31, sS ls), (32, .int .i64 ls.length), (33, .int .i64 ls.length), (34, .bool false)], bx', pm, none⟩ ∧ Bd bx' v t r' (l ++ encLs rest)
theorem EncLR.step {v t : Nat} {a12 a13 a14 : AV} {ls : List (List UInt8)} {l : List UInt8} {pm : Pm} {ex : Ex} {st' : St} {x : List UInt8} {rest : List (List UInt8)} (h : EncLR v t a12 a13 a14 ls (l ++ encLine x) pm ex st' rest) : EncLR v t a12 a13 a14 ls l pm ex st' (x :: rest) := by
  obtain ⟨h1, bx', r', h2, h3⟩ := h
  refine ⟨h1, bx', r', h2, ?_⟩
  have e : l ++ encLs (x :: rest) = l ++ encLine x ++ encLs rest := by simp [encLs]
  rw [e]
  exact h3
def BS (bx : Bx) (v : Nat) (l : List UInt8) : Prop := (l = [] ∧ bx 4 = some (v, [.bfresh 65 4 v, .sl 1 [] .nil])) ∨ ∃ t r, Bd bx v t r l
def EncR (v : Nat) (l : List UInt8) (ex : Ex) (st' : St) (rest : List Edit) : Prop := ex = .exit 0 ∧ st'.df = none ∧ st'.env 4 = some (.ptr 4 v 0) ∧ BS st'.bx v (l ++ encL rest)
theorem EncR.step {v : Nat} {l : List UInt8} {ex : Ex} {st' : St} {x : Edit} {rest : List Edit} (h : EncR v (l ++ encE x) ex st' rest) : EncR v l ex st' (x :: rest) := by
  obtain ⟨h1, h2, h3, h4⟩ := h
  refine ⟨h1, h2, h3, ?_⟩
  have e : l ++ encL (x :: rest) = l ++ encE x ++ encL rest := by simp [encL]
  rw [e]
  exact h4
abbrev bxE (bx : Bx) (op n : Int) (ls : List (List UInt8)) : Bx := upd (upd bx 6 (nextB bx 6, [AV.int IntKind.i64 0, AV.int IntKind.i64 0, AV.sl 1 [] Perm.nil])) 6 (nextB bx 6, [AV.int IntKind.i64 op, AV.int IntKind.i64 n, AV.sl 1 (List.map AV.str ls) Perm.no])
theorem dig_toNat (d : Nat) (h : d < 10) : (UInt8.ofNat (48 + d)).toNat = 48 + d := by
  rw [UInt8.toNat_ofNat']
  omega
theorem decDigits_dig : ∀ (u : Nat) (c : UInt8), c ∈ Lib.decDigits u → 48 ≤ c.toNat ∧ c.toNat ≤ 57 := by
  intro u
  induction u using Nat.strongRecOn with
  | _ u ih =>
    intro c hc
    rw [Lib.decDigits] at hc
    by_cases h : u < 10
    · rw [dif_pos h, List.mem_singleton] at hc
      subst hc
      rw [dig_toNat u h]
      omega
    · rw [dif_neg h, List.mem_append, List.mem_singleton] at hc
      rcases hc with hc | rfl
      · exact ih (u / 10) (by omega) c hc
      · rw [dig_toNat _ (by omega)]
        omega
theorem decDigits_ne (u : Nat) : Lib.decDigits u ≠ [] := by
  rw [Lib.decDigits]
  split <;> simp
theorem parse_app : ∀ (l r : List UInt8) (a m : Nat), Lib.parseUint10 a l = .ok m → Lib.parseUint10 a (l ++ r) = Lib.parseUint10 m r
  | [], r, a, m, h => by
    simp only [Lib.parseUint10, Lib.NumEnd.ok.injEq] at h
    subst h
    rfl
  | c :: l, r, a, m, h => by
    simp only [Lib.parseUint10, List.cons_append] at h ⊢
    split at h
    · rename_i h1
      rw [if_pos h1]
      split at h
      · cases h
      · rename_i h2
        rw [if_neg h2]
        split at h
        · cases h
        · rename_i h3
          rw [if_neg h3]
          exact parse_app l r _ m h
    · cases h
theorem parse_dec : ∀ (u : Nat), u < 9223372036854775808 → Lib.parseUint10 0 (Lib.decDigits u) = .ok u := by
  intro u
  induction u using Nat.strongRecOn with
  | _ u ih =>
    intro hu
    rw [Lib.decDigits]
    by_cases h : u < 10
    · rw [dif_pos h]
      simp only [Lib.parseUint10, dig_toNat u h]
      rw [if_pos (by omega), if_neg (by omega), if_neg (by omega)]
      congr 1
      omega
    · rw [dif_neg h, parse_app _ _ _ _ (ih (u / 10) (by omega) (by omega))]
      simp only [Lib.parseUint10, dig_toNat (u % 10) (by omega)]
      rw [if_pos (by omega), if_neg (by omega), if_neg (by omega)]
      congr 1
      omega
theorem itoa_nn {n : Int} (h : 0 ≤ n) : Lib.itoa n = Lib.decDigits n.toNat := by
  unfold Lib.itoa
  rw [if_neg (by omega)]
theorem atoi_itoa {n : Int} (h : 0 ≤ n) (h2 : n ≤ 9223372036854775807) : Lib.atoiAll (Lib.itoa n) = .ok n := by
  rw [itoa_nn h]
  have hne := decDigits_ne n.toNat
  have hd := decDigits_dig n.toNat
  have hp := parse_dec n.toNat (by omega)
  cases hq : Lib.decDigits n.toNat with
  | nil => exact absurd hq hne
  | cons c r =>
    rw [hq] at hd hp
    have hc := hd c (by simp)
    unfold Lib.atoiAll
    simp only
    rw [if_neg (by omega)]
    unfold Lib.parseMag
    rw [if_neg (by simp), hp]
    simp only
    rw [if_neg (by omega), if_neg (by omega), if_neg (by omega)]
    congr 1
    omega
theorem idx_app : ∀ (l r : List UInt8) (c : UInt8), c ∉ l → Lib.indexByte (l ++ c :: r) c = l.length
  | [], r, c, _ => by simp [Lib.indexByte]
  | b :: l, r, c, h => by
    have h1 : ¬ (b == c) = true := by simp; rintro rfl; simp at h
    have h2 := idx_app l r c (fun k => h (List.mem_cons_of_mem _ k))
    rw [List.cons_append]
    unfold Lib.indexByte
    rw [if_neg h1, h2, if_neg (by simp)]
    simp
theorem numF_itoa (c : UInt8) (hc : 57 < c.toNat) {n : Int} (h : 0 ≤ n) (h2 : n ≤ 9223372036854775807) (r : List UInt8) : numF c (Lib.itoa n ++ c :: r) = some (n, r) := by
  have hi : Lib.indexByte (Lib.itoa n ++ c :: r) c = (Lib.itoa n).length := by
    refine idx_app _ _ _ fun k => ?_
    rw [itoa_nn h] at k
    have := decDigits_dig _ _ k
    omega
  have hl : 0 < (Lib.itoa n).length := by
    rw [itoa_nn h]
    exact List.length_pos_iff.2 (decDigits_ne _)
  unfold numF
  rw [hi, if_pos (by omega)]
  have ht : (Lib.itoa n ++ c :: r).take (Lib.itoa n).length = Lib.itoa n := by simp
  simp only [Int.toNat_natCast]
  rw [ht, atoi_itoa h h2]
  simp only
  rw [if_pos ⟨h, trivial⟩]
  congr 2
  rw [← List.drop_drop]
  simp
theorem linesF_enc : ∀ (ls : List (List UInt8)) (r : List UInt8), (∀ l ∈ ls, l.length ≤ 9223372036854775807) → linesF ls.length (encLs ls ++ r) = some (ls, r)
  | [], r, _ => rfl
  | l :: ls, r, h => by
    have h1 := h l (by simp)
    have e : encLs (l :: ls) ++ r = Lib.itoa l.length ++ 58 :: (l ++ (encLs ls ++ r)) := by simp [encLs, encLine]
    rw [e, List.length_cons]
    unfold linesF
    rw [numF_itoa 58 (by decide) (by omega) (by omega)]
    simp only
    rw [if_pos (by simp; omega)]
    have e2 : (l ++ (encLs ls ++ r)).drop (l.length : Int).toNat = encLs ls ++ r := by simp
    have e3 : (l ++ (encLs ls ++ r)).take (l.length : Int).toNat = l := by simp
    rw [e2, e3, linesF_enc ls r (fun x hx => h x (List.mem_cons_of_mem _ hx))]
    rfl
theorem editF_enc (e : Edit) (hm : mayB e = true) (hl : ∀ l ∈ e.ls, l.length ≤ 9223372036854775807) (r : List UInt8) : editF (encE e ++ r) = some (e, r) := by
  obtain ⟨op, n, ls⟩ := e
  obtain ⟨hop, hn1, hn2, hn3, hn4⟩ := mayB_op hm
  simp only at hop hn1 hn2 hn3 hn4 hl
  have hnum := fun (r : List UInt8) => numF_itoa 59 (by decide) (n := n) (by omega) (by omega) r
  have e : encE ⟨op, n, ls⟩ ++ r = sgn op ++ (Lib.itoa n ++ 59 :: (encLs ls ++ r)) := by simp [encE, encHead]
  rw [e]
  rcases hop with rfl | rfl | rfl
  · have h0 : ls = [] := hn4 (by omega)
    subst h0
    have o : opF 61 = 1 := by decide
    simp [sgn, editF, o, hnum, hn2, encLs]
  · have h0 : ls = [] := hn4 (by omega)
    subst h0
    have o : opF 45 = 2 := by decide
    simp [sgn, editF, o, hnum, hn2, encLs]
  · have hn := hn3 rfl
    have ho : opF 43 = 3 := by decide
    have hle := linesF_enc ls r hl
    have hnt : n.toNat = ls.length := by omega
    simp [sgn, editF, ho, hnum, hn2, hnt, hle]
theorem encE_pos (e : Edit) : ∃ c r, encE e = c :: r := by
  unfold encE encHead sgn
  split
  · exact ⟨61, _, rfl⟩
  · split
    · exact ⟨45, _, rfl⟩
    · exact ⟨43, _, rfl⟩
theorem decL_enc : ∀ (s : List Edit) (k : Nat), (∀ e ∈ s, mayB e = true) → (∀ e ∈ s, ∀ l ∈ e.ls, l.length ≤ 9223372036854775807) → (encL s).length ≤ k → decL k (encL s) = some s
  | [], k, _, _, _ => by cases k <;> rfl
  | e :: s, k, hm, hl, hk => by
    obtain ⟨c, r, h⟩ := encE_pos e
    have he : encL (e :: s) = c :: (r ++ encL s) := by
      have : encL (e :: s) = encE e ++ encL s := by simp [encL]
      rw [this, h]
      rfl
    have hd := editF_enc e (hm e (by simp)) (hl e (by simp)) (encL s)
    rw [h] at hd
    rw [he] at hk ⊢
    cases k with
    | zero => simp at hk
    | succ k =>
      simp only [List.length_cons, List.length_append] at hk
      simp only [decL]
      rw [List.cons_append] at hd
      rw [hd]
      simp only
      rw [decL_enc s k (fun x hx => hm x (List.mem_cons_of_mem _ hx)) (fun x hx => hl x (List.mem_cons_of_mem _ hx)) (by omega)]
      rfl
theorem decF_enc {s : List Edit} (h : rightB s = true) (hl : ∀ e ∈ s, ∀ l ∈ e.ls, l.length ≤ 9223372036854775807) : decF (encL s) = some s := by
  unfold decF
  rw [decL_enc s _ (rightF_may h) hl (Nat.le_refl _)]
  simp only
  rw [if_pos h]

theorem idx_split : ∀ (t : List UInt8) (c : UInt8), 0 ≤ Lib.indexByte t c → t = t.take (Lib.indexByte t c).toNat ++ c :: t.drop ((Lib.indexByte t c).toNat + 1)
  | [], c, h => by simp [Lib.indexByte] at h
  | b :: l, c, h => by
    unfold Lib.indexByte at h ⊢
    split
    · rename_i hb
      have : b = c := by simpa using hb
      subst this
      simp
    · rename_i hb
      rw [if_neg hb] at h
      split
      · rename_i h2
        rw [if_pos h2] at h
        simp at h
      · rename_i h2
        have h3 := idx_lt l c
        have h4 : 0 ≤ Lib.indexByte l c := by
          rcases h3 with h3 | h3
          · rw [h3] at h2; simp at h2
          · exact h3.1
        have h5 := idx_split l c h4
        have h6 : (Lib.indexByte l c + 1).toNat = (Lib.indexByte l c).toNat + 1 := by omega
        rw [h6, List.take_succ_cons, List.drop_succ_cons, List.cons_append, ← h5]
theorem numF_eq {c : UInt8} {t r : List UInt8} {v : Int} (h : numF c t = some (v, r)) : t = Lib.itoa v ++ c :: r := by
  unfold numF at h
  split at h
  · rename_i h0
    split at h
    · split at h
      · rename_i h2
        simp only [Option.some.injEq, Prod.mk.injEq] at h
        obtain ⟨rfl, rfl⟩ := h
        rw [h2.2]
        exact idx_split t c (by omega)
      · simp at h
    · simp at h
  · simp at h
theorem linesF_eq : ∀ {n : Nat} {t r : List UInt8} {L : List (List UInt8)}, linesF n t = some (L, r) → t = encLs L ++ r
  | 0, t, r, L, h => by
    simp only [linesF, Option.some.injEq, Prod.mk.injEq] at h
    obtain ⟨rfl, rfl⟩ := h
    rfl
  | n + 1, t, r, L, h => by
    unfold linesF at h
    split at h
    · rename_i m u hq
      have h0 := numF_eq hq
      have h1 := numF_spec hq
      split at h
      · rename_i hm
        obtain ⟨⟨L', r'⟩, h2, h3⟩ := Option.map_eq_some_iff.1 h
        simp only [Prod.mk.injEq] at h3
        obtain ⟨rfl, rfl⟩ := h3
        have h4 := linesF_eq h2
        have h5 : ((u.take m.toNat).length : Int) = m := by rw [List.length_take]; omega
        have h6 : encLs (u.take m.toNat :: L') ++ r' = Lib.itoa m ++ 58 :: (u.take m.toNat ++ (encLs L' ++ r')) := by simp only [encLs, encLine, List.flatMap_cons, h5]; simp
        rw [h6, ← h4, List.take_append_drop]
        exact h0
      · simp at h
    · simp at h
theorem opF_sgn (c : UInt8) (h : 0 < opF c) : sgn (opF c) = [c] ∧ (opF c = 1 ∨ opF c = 2 ∨ opF c = 3) := by
  unfold opF at h ⊢
  simp only [Lib.indexByte] at h ⊢
  by_cases h1 : c = 63
  · subst h1; simp at h
  · by_cases h2 : c = 61
    · subst h2; decide
    · by_cases h3 : c = 45
      · subst h3; decide
      · by_cases h4 : c = 43
        · subst h4; decide
        · exfalso
          have a1 : ¬ 63 = c := fun e => h1 e.symm
          have a2 : ¬ 61 = c := fun e => h2 e.symm
          have a3 : ¬ 45 = c := fun e => h3 e.symm
          have a4 : ¬ 43 = c := fun e => h4 e.symm
          simp [a1, a2, a3, a4] at h
theorem editF_eq {t r : List UInt8} {e : Edit} (h : editF t = some (e, r)) : t = encE e ++ r := by
  unfold editF at h
  split at h
  · simp at h
  · rename_i c u
    split at h
    · rename_i h0
      obtain ⟨h1, h2⟩ := opF_sgn c h0
      split at h
      · rename_i n v hq
        have h3 := numF_eq hq
        split at h
        · split at h
          · rename_i h5
            split at h
            · rename_i ls w hw
              simp only [Option.some.injEq, Prod.mk.injEq] at h
              obtain ⟨rfl, rfl⟩ := h
              have h4 := linesF_eq hw
              rw [h5] at h1
              have : encE ⟨3, n, ls⟩ ++ w = sgn 3 ++ (Lib.itoa n ++ 59 :: (encLs ls ++ w)) := by simp [encE, encHead]
              rw [this, ← h4, ← h3, h1]
              rfl
            · simp at h
          · simp only [Option.some.injEq, Prod.mk.injEq] at h
            obtain ⟨rfl, rfl⟩ := h
            have : encE ⟨opF c, n, []⟩ ++ v = sgn (opF c) ++ (Lib.itoa n ++ 59 :: v) := by simp [encE, encHead, encLs]
            rw [this, ← h3, h1]
            rfl
        · simp at h
      · simp at h
    · simp at h
theorem decL_eq : ∀ {k : Nat} {t : List UInt8} {s : List Edit}, decL k t = some s → t = encL s
  | k, [], s, h => by
    have e : decL k [] = some [] := by cases k <;> rfl
    rw [e] at h
    simp only [Option.some.injEq] at h
    subst h
    rfl
  | 0, c :: r, s, h => by simp [decL] at h
  | k + 1, c :: r, s, h => by
    simp only [decL] at h
    split at h
    · rename_i e t he
      obtain ⟨l, h1, rfl⟩ := Option.map_eq_some_iff.1 h
      have h2 := decL_eq h1
      have h3 := editF_eq he
      rw [h3, h2]
      simp [encL]
    · simp at h
theorem decF_eq {t : List UInt8} {s : List Edit} (h : decF t = some s) : t = encL s ∧ rightB s = true := by
  unfold decF at h
  split at h
  · rename_i s' hs
    split at h
    · rename_i hr
      simp only [Option.some.injEq] at h
      subst h
      exact ⟨decL_eq hs, hr⟩
    · simp at h
  · simp at h
def headOp : List Edit → Int
  | [] => 0
  | e :: _ => e.op
theorem rightF_cons {last : Int} {e : Edit} {r : List Edit} (h : rightF last (e :: r) = true) : mayB e = true ∧ e.op ≠ last ∧ ¬ (last = 3 ∧ e.op = 2) ∧ rightF e.op r = true := by
  simp only [rightF, Bool.and_eq_true, decide_eq_true_eq, Bool.not_eq_true', decide_eq_false_iff_not] at h
  exact ⟨h.1.1.1, h.1.1.2, h.1.2, h.2⟩
theorem rightF_mk {last : Int} {e : Edit} {r : List Edit} (h1 : mayB e = true) (h2 : e.op ≠ last) (h3 : ¬ (last = 3 ∧ e.op = 2)) (h4 : rightF e.op r = true) : rightF last (e :: r) = true := by
  simp only [rightF, Bool.and_eq_true, decide_eq_true_eq, Bool.not_eq_true', decide_eq_false_iff_not]
  exact ⟨⟨⟨h1, h2⟩, h3⟩, h4⟩
theorem may_one {n : Int} (h1 : 1 ≤ n) (h2 : n ≤ 1048576) : mayB ⟨1, n, []⟩ = true := by simp [mayB, h1, h2]
theorem may_two {n : Int} (h1 : 1 ≤ n) (h2 : n ≤ 1048576) : mayB ⟨2, n, []⟩ = true := by simp [mayB, h1, h2]
theorem may_three {n : Int} {l : List (List UInt8)} (h1 : 1 ≤ n) (h2 : n ≤ 1048576) (h : (l.length : Int) = n) : mayB ⟨3, n, l⟩ = true := by simp [mayB, h1, h2, h]
attribute [simp] extreme foldI

theorem kindF_len (j : Int) : (kindF j).length ≤ 4 := by
  unfold kindF
  generalize j.toNat = k
  match k with
  | 0 => decide
  | 1 => decide
  | 2 => decide
  | 3 => decide
  | 4 => decide
  | n + 5 => exact Nat.zero_le _
theorem fullG_small (raw : List Int) : ∀ (n i : Nat), ∀ l ∈ fullG raw i n, l.length ≤ 4
  | 0, _, l, h => by simp [fullG] at h
  | n + 1, i, l, h => by
    rcases List.mem_cons.1 h with rfl | h
    · exact kindF_len _
    · exact fullG_small raw n (i + 1) l h
theorem scriptG_ls : ∀ (k : Nat) (r : List Int) (last : Int), ∀ e ∈ scriptG k r last, ∀ l ∈ e.ls, l.length ≤ 4
  | 0, _, _, e, he => by simp [scriptG] at he
  | _ + 1, [], _, e, he => by simp [scriptG] at he
  | k + 1, c :: r, last, e, he => by
    unfold scriptG at he
    split at he
    · exact scriptG_ls k r last e he
    · rcases List.mem_cons.1 he with rfl | he
      · intro l hl
        simp only [mkE] at hl
        split at hl
        · exact fullG_small _ _ _ l hl
        · simp at hl
      · exact scriptG_ls k r _ e he
theorem scriptF_ls (raw : List Int) : ∀ e ∈ scriptF raw, ∀ l ∈ e.ls, l.length ≤ 4 := scriptG_ls 10 raw 0
theorem encLs_le : ∀ (ls : List (List UInt8)), (∀ l ∈ ls, l.length ≤ 4) → (encLs ls).length ≤ 26 * ls.length
  | [], _ => by simp [encLs]
  | l :: ls, h => by
    have h1 := h l (by simp)
    have h2 := encLs_le ls (fun x hx => h x (List.mem_cons_of_mem _ hx))
    have h3 := itoa_len l.length ⟨by omega, by omega⟩
    have e : (encLs (l :: ls)).length = (Lib.itoa l.length).length + 1 + l.length + (encLs ls).length := by simp [encLs, encLine]; omega
    rw [e, List.length_cons]
    omega
theorem encE_le {e : Edit} (hm : mayB e = true) (h4 : e.n ≤ 4) (hl : ∀ l ∈ e.ls, l.length ≤ 4) : (encE e).length ≤ 127 := by
  obtain ⟨hop, hn1, hn2, hn3, hn4⟩ := mayB_op hm
  have h1 := encLs_le e.ls hl
  have h2 : e.ls.length ≤ 4 := by
    by_cases h3 : e.op = 3
    · have := hn3 h3; omega
    · rw [hn4 h3]; simp
  have h3 := itoa_len e.n ⟨by omega, by omega⟩
  have h5 : (sgn e.op).length = 1 := by unfold sgn; split <;> (try split) <;> rfl
  simp only [encE, encHead, List.length_append, List.length_cons, List.length_nil, h5]
  omega
theorem encL_le : ∀ {s : List Edit}, (∀ e ∈ s, mayB e = true ∧ e.n ≤ 4 ∧ ∀ l ∈ e.ls, l.length ≤ 4) → (encL s).length ≤ 127 * s.length
  | [], _ => by simp [encL]
  | e :: s, h => by
    have h1 := encL_le (s := s) (fun x hx => h x (List.mem_cons_of_mem _ hx))
    obtain ⟨k1, k2, k3⟩ := h e (by simp)
    have h2 := encE_le k1 k2 k3
    have e1 : encL (e :: s) = encE e ++ encL s := by simp [encL]
    rw [e1, List.length_append, List.length_cons]
    omega
theorem script_enc (raw : List Int) : (encL (scriptF raw)).length ≤ 1270 ∧ ∀ e ∈ scriptF raw, ∀ l ∈ e.ls, l.length ≤ 9223372036854775807 := by
  have h1 := rightF_may (scriptF_right raw)
  have h2 := scriptG_small 10 raw 0
  have h3 := scriptF_ls raw
  have h4 := (script_many raw 1 2).2.2
  have h := encL_le (s := scriptF raw) (fun e he => ⟨h1 e he, h2 e he, h3 e he⟩)
  exact ⟨by omega, fun e he l hl => Nat.le_trans (h3 e he l hl) (by decide)⟩
theorem small_ls {s : List Edit} (hm : ∀ e ∈ s, mayB e = true) : ∀ e ∈ s, e.ls.length ≤ 1099511627776 := by
  intro e he
  obtain ⟨hop, hn1, hn2, hn3, hn4⟩ := mayB_op (hm e he)
  by_cases h3 : e.op = 3
  · have := hn3 h3; omega
  · rw [hn4 h3]; simp
theorem decF_len {t : List UInt8} {s : List Edit} (h : decF t = some s) : s.length ≤ t.length := by
  unfold decF at h
  split at h
  · rename_i s' hs
    split at h
    · simp only [Option.some.injEq] at h
      subst h
      exact decL_len hs
    · simp at h
  · simp at h
theorem encL_app (a b : List Edit) : encL (a ++ b) = encL a ++ encL b := by simp [encL]
theorem encL_cons (e : Edit) (s : List Edit) : encL (e :: s) = encE e ++ encL s := by simp [encL]
theorem encLs_mem : ∀ {ls : List (List UInt8)} {l : List UInt8}, l ∈ ls → l.length ≤ (encLs ls).length
  | x :: ls, l, h => by
    have e : (encLs (x :: ls)).length = (Lib.itoa x.length).length + 1 + x.length + (encLs ls).length := by simp [encLs, encLine]; omega
    rw [e]
    rcases List.mem_cons.1 h with rfl | h
    · omega
    · have := encLs_mem h; omega
theorem encL_mem : ∀ {s : List Edit} {e : Edit}, e ∈ s → ∀ l ∈ e.ls, l.length ≤ (encL s).length
  | x :: s, e, h, l, hl => by
    have e1 : (encL (x :: s)).length = (encHead x).length + (encLs x.ls).length + (encL s).length := by simp only [encL_cons, encE, List.length_append]
    rw [e1]
    rcases List.mem_cons.1 h with rfl | h
    · have := encLs_mem hl; omega
    · have := encL_mem h l hl; omega
theorem pre_code : ∀ (d s : List Edit) (r : List UInt8), (∀ e ∈ d, mayB e = true) → (∀ e ∈ s, mayB e = true) → (encL s).length ≤ 9223372036854775807 → encL d ++ r = encL s → ∃ i, i ≤ s.length ∧ d = s.take i
  | [], s, r, _, _, _, _ => ⟨0, Nat.zero_le _, rfl⟩
  | e :: d, [], r, _, _, _, h => by
    obtain ⟨c, u, hc⟩ := encE_pos e
    rw [encL_cons, hc] at h
    simp [encL] at h
  | e :: d, f :: s, r, hd, hs, hl, h => by
    have hlen : (encL (e :: d)).length + r.length = (encL (f :: s)).length := by rw [← h, List.length_append]
    have h1 := editF_enc e (hd e (by simp)) (fun l k => by have := encL_mem (s := e :: d) (by simp) l k; omega) (encL d ++ r)
    have h2 := editF_enc f (hs f (by simp)) (fun l k => by have := encL_mem (s := f :: s) (by simp) l k; omega) (encL s)
    rw [encL_cons, encL_cons, List.append_assoc] at h
    rw [h, h2] at h1
    simp only [Option.some.injEq, Prod.mk.injEq] at h1
    obtain ⟨rfl, h3⟩ := h1
    have hl2 : (encL s).length ≤ 9223372036854775807 := by
      rw [encL_cons, List.length_append] at hl
      omega
    obtain ⟨i, hi, rfl⟩ := pre_code d s r (fun x hx => hd x (List.mem_cons_of_mem _ hx)) (fun x hx => hs x (List.mem_cons_of_mem _ hx)) hl2 h3.symm
    exact ⟨i + 1, by simp; omega, rfl⟩
theorem rightF_take : ∀ (s : List Edit) (last : Int) (i : Nat), rightF last s = true → rightF last (s.take i) = true
  | [], last, i, h => by simp [rightF]
  | e :: s, last, 0, h => rfl
  | e :: s, last, i + 1, h => by
    obtain ⟨h1, h2, h3, h4⟩ := rightF_cons h
    rw [List.take_succ_cons]
    exact rightF_mk h1 h2 h3 (rightF_take s e.op i h4)
theorem rightB_of : ∀ {s : List Edit} {last : Int}, rightF last s = true → rightB s = true
  | [], _, _ => rfl
  | e :: s, last, h => by
    obtain ⟨h1, h2, h3, h4⟩ := rightF_cons h
    have := (mayB_op h1).1
    exact rightF_mk h1 (by omega) (by omega) h4
theorem rightF_drop : ∀ (s : List Edit) (last : Int) (i : Nat), rightF last s = true → rightB (s.drop i) = true
  | [], last, i, h => by simp [rightB, rightF]
  | e :: s, last, 0, h => rightB_of h
  | e :: s, last, i + 1, h => rightF_drop s e.op i (rightF_cons h).2.2.2
/-- Whether one of the heads, from the i-th on, has just so many bytes. -/
def cutA (s : List Edit) (k : Nat) : Nat → Nat → Bool → Bool
  | _, 0, b => b
  | i, n + 1, b => cutA s k (i + 1) n (b || decide ((encL (s.take i)).length = k))
theorem cutA_iff (s : List Edit) (k : Nat) : ∀ (n i : Nat) (b : Bool), cutA s k i n b = true ↔ b = true ∨ ∃ j, i ≤ j ∧ j < i + n ∧ (encL (s.take j)).length = k
  | 0, i, b => by
    simp only [cutA]
    constructor
    · exact .inl
    · rintro (h | ⟨j, h1, h2, _⟩)
      · exact h
      · omega
  | n + 1, i, b => by
    simp only [cutA, cutA_iff s k n (i + 1), Bool.or_eq_true, decide_eq_true_eq]
    constructor
    · rintro ((h | h) | ⟨j, h1, h2, h3⟩)
      · exact .inl h
      · exact .inr ⟨i, Nat.le_refl _, by omega, h⟩
      · exact .inr ⟨j, by omega, by omega, h3⟩
    · rintro (h | ⟨j, h1, h2, h3⟩)
      · exact .inl (.inl h)
      · by_cases hj : j = i
        · subst hj; exact .inl (.inr h3)
        · exact .inr ⟨j, by omega, by omega, h3⟩
theorem cut_iff {s : List Edit} (hr : rightB s = true) (hl : (encL s).length ≤ 9223372036854775807) {k : Nat} (hk : k ≤ (encL s).length) : (decF ((encL s).take k)).isSome = cutA s k 0 (s.length + 1) (decide (k = 0)) := by
  have hm := rightF_may hr
  rw [Bool.eq_iff_iff, cutA_iff]
  constructor
  · intro h
    obtain ⟨d, hd⟩ := Option.isSome_iff_exists.1 h
    obtain ⟨h1, h2⟩ := decF_eq hd
    have h3 : encL d ++ (encL s).drop k = encL s := by rw [← h1, List.take_append_drop]
    obtain ⟨i, hi, rfl⟩ := pre_code d s _ (rightF_may h2) hm hl h3
    refine .inr ⟨i, Nat.zero_le _, by omega, ?_⟩
    rw [← h1, List.length_take]
    omega
  · intro h
    have hx : ∃ j, (encL (s.take j)).length = k := by
      rcases h with h | ⟨j, _, _, h⟩
      · exact ⟨0, by simpa [encL] using (of_decide_eq_true h).symm⟩
      · exact ⟨j, h⟩
    obtain ⟨j, hj⟩ := hx
    have h1 : encL s = encL (s.take j) ++ encL (s.drop j) := by rw [← encL_app, List.take_append_drop]
    have h2 : (encL s).take k = encL (s.take j) := by rw [h1, List.take_left' hj]
    rw [h2, decF_enc (rightF_take s 0 j hr) (fun e he l k => by
      have := encL_mem he l k
      have h3 : (encL (s.take j)).length ≤ (encL s).length := by rw [h1, List.length_append]; omega
      omega)]
    rfl
def CutR (s : List Edit) (B : Bool) (ex : Ex) (st' : St) : Prop := ex = .exit 0 ∧ st'.df = none ∧ st'.env 5 = some (.bool true) ∧ st'.env 8 = some (.str (encL s)) ∧ st'.env 11 = some (.bool B)
theorem dig_slice : ∀ u : Nat, u < 10 → (([48, 49, 50, 51, 52, 53, 54, 55, 56, 57] : List UInt8).take (u + 1)).drop u = [UInt8.ofNat (48 + u)]
  | 0, _ => rfl
  | 1, _ => rfl
  | 2, _ => rfl
  | 3, _ => rfl
  | 4, _ => rfl
  | 5, _ => rfl
  | 6, _ => rfl
  | 7, _ => rfl
  | 8, _ => rfl
  | 9, _ => rfl
  | n + 10, h => by omega
theorem decDigits_len (u : Nat) (h : u ≤ 9223372036854775807) : (Lib.decDigits u).length ≤ 21 := by
  have := itoa_len u ⟨by omega, by omega⟩
  rwa [itoa_nn (by omega), Int.toNat_natCast] at this
theorem decDigits_zero : ∀ (u : Nat) (r : List UInt8), Lib.decDigits u = 48 :: r → u = 0 ∧ r = [] := by
  intro u
  induction u using Nat.strongRecOn with
  | _ u ih =>
    intro r h
    rw [Lib.decDigits] at h
    by_cases hu : u < 10
    · rw [dif_pos hu] at h
      simp only [List.cons.injEq] at h
      have := congrArg UInt8.toNat h.1
      rw [dig_toNat u hu] at this
      have h48 : (48 : UInt8).toNat = 48 := rfl
      exact ⟨by omega, h.2.symm⟩
    · rw [dif_neg hu] at h
      cases hd : Lib.decDigits (u / 10) with
      | nil => exact absurd hd (decDigits_ne _)
      | cons c l =>
        rw [hd, List.cons_append] at h
        simp only [List.cons.injEq] at h
        obtain ⟨rfl, _⟩ := h
        have := (ih (u / 10) (by omega) l hd).1
        omega
theorem decF_none {c : UInt8} {r : List UInt8} (h : editF (c :: r) = none) : decF (c :: r) = none := by
  unfold decF
  have : decL (c :: r).length (c :: r) = none := by simp only [List.length_cons, decL, h]
  rw [this]
theorem editF_none {c : UInt8} {r : List UInt8} (h : numF 59 r = none) : editF (c :: r) = none := by
  simp only [editF, h]
  split <;> rfl
theorem idx_pos {l : List UInt8} (h : ∀ c ∈ l, 48 ≤ c.toNat ∧ c.toNat ≤ 57) (r : List UInt8) : Lib.indexByte (l ++ 59 :: r) 59 = l.length := by
  refine idx_app _ _ _ fun k => ?_
  have := h _ k
  have h59 : (59 : UInt8).toNat = 59 := rfl
  omega
theorem num_zero (k : Nat) : numF 59 (48 :: (Lib.decDigits k ++ [59])) = none := by
  have hi : Lib.indexByte (48 :: Lib.decDigits k ++ [59]) 59 = (48 :: Lib.decDigits k).length := idx_pos (fun c hc => by
    rcases List.mem_cons.1 hc with rfl | hc
    · decide
    · exact decDigits_dig k c hc) []
  rw [List.cons_append] at hi
  unfold numF
  rw [hi, if_pos (by simp)]
  have ht : (48 :: (Lib.decDigits k ++ [59])).take ((48 :: Lib.decDigits k).length : Int).toNat = 48 :: Lib.decDigits k := by
    simp
  rw [ht]
  split
  · rename_i v _
    rw [if_neg]
    rintro ⟨h0, h1⟩
    rw [itoa_nn h0] at h1
    exact decDigits_ne k (decDigits_zero _ _ h1).2
  · rfl
theorem long_one (c : UInt8) (o : Int) (ho : o = 1 ∨ o = 2) (hc : opF c = o) (k : Nat) (hk : k ≤ 1048580) (hk1 : 1 ≤ k) :
    decF (c :: (Lib.decDigits k ++ [59])) = (if k ≤ 1048576 then some [⟨o, k, []⟩] else none) ∧ (encL [⟨o, k, []⟩] = c :: (Lib.decDigits k ++ [59])) ∧ rightB [⟨o, k, []⟩] = decide (k ≤ 1048576) := by
  have hs := opF_sgn c (by omega)
  rw [hc] at hs
  have he : encL [⟨o, k, []⟩] = c :: (Lib.decDigits k ++ [59]) := by
    simp [encL, encE, encHead, encLs, hs.1, itoa_nn (show 0 ≤ (k : Int) by omega)]
  have hr : rightB [⟨o, k, []⟩] = decide (k ≤ 1048576) := by
    have h1 : ¬ o = 0 := by omega
    have h2 : ((1 : Int) ≤ k ∧ (k : Int) ≤ 1048576) ↔ k ≤ 1048576 := by omega
    simp only [rightB, rightF, mayB, h1, ho, h2, if_true]
    simp [h1]
  refine ⟨?_, he, hr⟩
  by_cases h : k ≤ 1048576
  · rw [if_pos h, ← he]
    exact decF_enc (by rw [hr]; simpa using h) (by simp)
  · rw [if_neg h]
    refine decF_none ?_
    have hn := numF_itoa 59 (by decide) (n := k) (by omega) (by omega) []
    rw [itoa_nn (by omega), Int.toNat_natCast] at hn
    simp only [editF, hn]
    rw [if_pos (by omega), if_neg (by omega)]
theorem long_zero (c : UInt8) (o : Int) (ho : o = 1 ∨ o = 2) (hc : opF c = o) : decF [c, 48, 59] = none := by
  have hn := numF_itoa 59 (by decide) (n := 0) (by omega) (by omega) []
  have hz : Lib.itoa 0 ++ [59] = [48, 59] := by
    rw [itoa_nn (by decide), Lib.decDigits, dif_pos (by decide)]
    rfl
  rw [hz] at hn
  have he : editF [c, 48, 59] = some (⟨o, 0, []⟩, []) := by
    simp only [editF, hn, hc]
    rw [if_pos (by omega), if_pos (by decide), if_neg (by omega)]
  have hd : decL 3 [c, 48, 59] = some [⟨o, 0, []⟩] := by
    simp only [decL, he]
    rfl
  unfold decF
  simp only [List.length_cons, List.length_nil, hd]
  rw [if_neg]
  simp [rightB, rightF, mayB]
theorem long_nines (c : UInt8) : decF (c :: [57, 57, 57, 57, 57, 57, 57, 57, 57, 57, 57, 57, 57, 57, 57, 57, 57, 57, 57, 57, 59]) = none := by
  refine decF_none (editF_none ?_)
  have h1 : Lib.indexByte [57, 57, 57, 57, 57, 57, 57, 57, 57, 57, 57, 57, 57, 57, 57, 57, 57, 57, 57, 57, 59] 59 = 20 := by decide
  have h2 : Lib.atoiAll (([57, 57, 57, 57, 57, 57, 57, 57, 57, 57, 57, 57, 57, 57, 57, 57, 57, 57, 57, 57, 59] : List UInt8).take ((20 : Int).toNat)) = .range := by decide
  unfold numF
  rw [h1, if_pos (by decide), h2]
def longX (o : Int) (k : Nat) : AV := .agg [.int .i64 o, .int .i64 k, .sl 1 [] .no]
theorem encLs_cons (x : List UInt8) (r : List (List UInt8)) : encLs (x :: r) = encLine x ++ encLs r := by simp [encLs]
def En0 (s : List Edit) (i : Nat) (n : Nat) (bx : Bx) (pm : Pm) (F : List UInt8) (ex : Ex) (st' : St) : Prop := ex = .exit 2 ∧ st' = ⟨ofL [(0, sE s), (5, .str F), (6, .int .i64 i), (7, .int .i64 n), (47, .bool false)], bx, pm, none⟩
def En1 (s : List Edit) (bx : Bx) (pm : Pm) (F : List UInt8) (ex : Ex) (st' : St) : Prop := ex = .exit 0 ∧ st' = ⟨ofL [(0, sE s), (5, .str F), (6, .int .i64 s.length), (15, .bool false)], bx, pm, none⟩
def isD (c : UInt8) : Prop := 48 ≤ c.toNat ∧ c.toNat ≤ 57
instance (c : UInt8) : Decidable (isD c) := inferInstanceAs (Decidable (_ ∧ _))
def valD (l : List UInt8) : Nat := l.foldl (fun n c => 10 * n + (c.toNat - 48)) 0
theorem valD_snoc (l : List UInt8) (c : UInt8) : valD (l ++ [c]) = 10 * valD l + (c.toNat - 48) := by simp [valD]
/-- A numeral without a 0 too many. -/
def fineD (l : List UInt8) : Bool := decide (0 < l.length) && (decide (l.length = 1) || decide (l.head? ≠ some 48))
theorem ofNat_dig {c : UInt8} (h : isD c) : UInt8.ofNat (48 + (c.toNat - 48)) = c := by
  have : 48 + (c.toNat - 48) = c.toNat := by have := h.1; omega
  rw [this]
  exact UInt8.ofNat_toNat
theorem snoc_cases (l : List UInt8) : l = [] ∨ ∃ a c, l = a ++ [c] := by
  rcases List.eq_nil_or_concat l with h | ⟨a, c, h⟩
  · exact .inl h
  · exact .inr ⟨a, c, by simpa using h⟩
theorem dec_val : ∀ (k : Nat) (l : List UInt8), l.length = k → (∀ c ∈ l, isD c) → fineD l = true → Lib.decDigits (valD l) = l ∧ valD l < 10 ^ l.length ∧ (l.head? ≠ some 48 → 1 ≤ valD l) := by
  intro k
  induction k with
  | zero =>
    intro l hl _ hf
    simp [fineD, hl] at hf
  | succ k ih =>
    intro l hl hd hf
    rcases snoc_cases l with rfl | ⟨a, c, rfl⟩
    · simp at hl
    · have hc : isD c := hd c (by simp)
      have hak : a.length = k := by simpa using hl
      have hc' := hc
      obtain ⟨hc1, hc2⟩ := hc'
      rw [valD_snoc]
      by_cases ha : a = []
      · subst ha
        have h0 : valD [] = 0 := rfl
        rw [h0]
        refine ⟨?_, by simp; omega, fun h => ?_⟩
        · rw [Lib.decDigits, dif_pos (by omega)]
          have := ofNat_dig hc
          simpa using this
        · have : c ≠ 48 := by simpa using h
          have : c.toNat ≠ 48 := fun e => this (by
            have h2 := UInt8.ofNat_toNat (x := c)
            rw [e] at h2
            exact h2.symm)
          omega
      · have hal : 0 < a.length := List.length_pos_iff.2 ha
        have hh : (a ++ [c]).head? = a.head? := by cases a with
          | nil => exact absurd rfl ha
          | cons x a => rfl
        have hne : a.head? ≠ some 48 := by
          simp only [fineD, Bool.and_eq_true, Bool.or_eq_true, decide_eq_true_eq, hh] at hf
          rcases hf.2 with h | h
          · simp at h; exact absurd h ha
          · exact h
        have hfa : fineD a = true := by simp [fineD, hal, hne]
        obtain ⟨i1, i2, i3⟩ := ih a hak (fun x hx => hd x (by simp [hx])) hfa
        have i4 := i3 hne
        refine ⟨?_, ?_, fun _ => by omega⟩
        · rw [Lib.decDigits, dif_neg (by omega)]
          have e1 : (10 * valD a + (c.toNat - 48)) / 10 = valD a := by omega
          have e2 : (10 * valD a + (c.toNat - 48)) % 10 = c.toNat - 48 := by omega
          rw [e1, e2, i1, ofNat_dig hc]
        · rw [List.length_append, List.length_cons, List.length_nil, Nat.pow_succ]
          omega
theorem val_dec : ∀ u : Nat, valD (Lib.decDigits u) = u ∧ fineD (Lib.decDigits u) = true := by
  intro u
  induction u using Nat.strongRecOn with
  | _ u ih =>
    rw [Lib.decDigits]
    by_cases h : u < 10
    · rw [dif_pos h]
      refine ⟨?_, by simp [fineD]⟩
      simp only [valD, List.foldl_cons, List.foldl_nil, dig_toNat u h]
      omega
    · rw [dif_neg h]
      obtain ⟨i1, i2⟩ := ih (u / 10) (by omega)
      refine ⟨?_, ?_⟩
      · rw [valD_snoc, i1, dig_toNat _ (by omega)]
        omega
      · cases hd : Lib.decDigits (u / 10) with
        | nil => exact absurd hd (decDigits_ne _)
        | cons x l =>
          have hx : x ≠ 48 := by
            rintro rfl
            have := (decDigits_zero _ _ hd).1
            omega
          simp [fineD, hx]
theorem dec_len9 (u : Nat) (h : (Lib.decDigits u).length ≤ 9) : u < 1000000000 := by
  have := (dec_val _ (Lib.decDigits u) rfl (decDigits_dig u) (val_dec u).2).2.1
  rw [(val_dec u).1] at this
  exact Nat.lt_of_lt_of_le this (Nat.pow_le_pow_right (by decide) h)
theorem dec_len10 : ∀ (k u : Nat), k < (Lib.decDigits u).length → 10 ^ k ≤ u ∨ k = 0
  | 0, u, h => .inr rfl
  | k + 1, u, h => by
    left
    rw [Lib.decDigits] at h
    by_cases hu : u < 10
    · rw [dif_pos hu] at h; simp at h
    · rw [dif_neg hu, List.length_append, List.length_cons, List.length_nil] at h
      rw [Nat.pow_succ]
      rcases dec_len10 k (u / 10) (by omega) with i | i
      · omega
      · subst i; omega
/-- What the document's Number reads. -/
def num2F (t : List UInt8) (c : UInt8) : List UInt8 → Nat → Nat → Int × List UInt8 × Bool
  | [], _, _ => (0, [], false)
  | x :: r, i, n => if i < 10 then (if x = c then ((n : Int), r, fineD (t.take i)) else if isD x then num2F t c r (i + 1) (10 * n + (x.toNat - 48)) else (0, [], false)) else (0, [], false)
theorem num2_sound (t : List UInt8) (c : UInt8) : ∀ (rest : List UInt8) (i n : Nat) (m : Int) (r : List UInt8), t = t.take i ++ rest → (t.take i).length = i → (∀ x ∈ t.take i, isD x) → n = valD (t.take i) → num2F t c rest i n = (m, r, true) →
    ∃ D : List UInt8, (∀ x ∈ D, isD x) ∧ D.length ≤ 9 ∧ fineD D = true ∧ t = D ++ c :: r ∧ m = valD D
  | [], i, n, m, r, ht, hi, hd, hn, h => by simp [num2F] at h
  | x :: rest, i, n, m, r, ht, hi, hd, hn, h => by
    simp only [num2F] at h
    split at h
    · rename_i h10
      split at h
      · rename_i hx
        simp only [Prod.mk.injEq] at h
        obtain ⟨rfl, rfl, h3⟩ := h
        subst hx
        exact ⟨t.take i, hd, by omega, h3, ht, by rw [hn]⟩
      · split at h
        · rename_i hxd
          have hti : t.take (i + 1) = t.take i ++ [x] := by
            conv => lhs; rw [ht]
            rw [List.take_append, hi]
            simp [List.take_of_length_le (show (t.take i).length ≤ i + 1 by omega)]
          refine num2_sound t c rest (i + 1) _ m r (by rw [hti, List.append_assoc]; exact ht) (by rw [hti]; simp [hi]) ?_ ?_ h
          · intro y hy
            rw [hti] at hy
            rcases List.mem_append.1 hy with hy | hy
            · exact hd y hy
            · rw [List.mem_singleton.1 hy]; exact hxd
          · rw [hti, valD_snoc, ← hn]
        · simp at h
    · simp at h
theorem num2_full (t : List UInt8) (c : UInt8) (r : List UInt8) (hc : ¬ isD c) : ∀ (E : List UInt8) (i n : Nat), t = t.take i ++ (E ++ c :: r) → (t.take i).length = i → n = valD (t.take i) → (∀ x ∈ E, isD x) → i + E.length ≤ 9 → num2F t c (E ++ c :: r) i n = ((valD (t.take i ++ E) : Int), r, fineD (t.take i ++ E))
  | [], i, n, ht, hi, hn, hE, h9 => by
    simp only [List.nil_append, num2F, List.append_nil]
    simp at h9
    rw [if_pos (by omega), if_pos trivial, hn]
  | x :: E, i, n, ht, hi, hn, hE, h9 => by
    have hx := hE x (by simp)
    have hxc : ¬ x = c := fun e => hc (e ▸ hx)
    simp only [List.length_cons] at h9
    simp only [List.cons_append, num2F]
    rw [if_pos (by omega), if_neg hxc, if_pos hx]
    have hti : t.take (i + 1) = t.take i ++ [x] := by
      conv => lhs; rw [ht]
      rw [List.take_append, hi]
      simp [List.take_of_length_le (show (t.take i).length ≤ i + 1 by omega)]
    have := num2_full t c r hc E (i + 1) (10 * n + (x.toNat - 48)) (by rw [hti, List.append_assoc]; exact ht) (by rw [hti]; simp [hi]) (by rw [hti, valD_snoc, ← hn]) (fun y hy => hE y (List.mem_cons_of_mem _ hy)) (by omega)
    rw [this, hti, List.append_assoc]
    rfl
/-- The document's Number and the program's. -/
theorem num2_iff (c : UInt8) (hc : 57 < c.toNat) (t : List UInt8) (m : Int) (r : List UInt8) : num2F t c t 0 0 = (m, r, true) ↔ numF c t = some (m, r) ∧ m < 1000000000 := by
  have hnd : ¬ isD c := fun h => by have := h.2; omega
  constructor
  · intro h
    obtain ⟨D, h1, h2, h3, h4, h5⟩ := num2_sound t c t 0 0 m r (by simp) (by simp) (by simp) rfl h
    obtain ⟨k1, k2, _⟩ := dec_val _ D rfl h1 h3
    have hlt : valD D < 1000000000 := Nat.lt_of_lt_of_le k2 (Nat.pow_le_pow_right (by decide) h2)
    refine ⟨?_, by omega⟩
    have := numF_itoa c hc (n := m) (by omega) (by omega) r
    rw [itoa_nn (by omega), h5, Int.toNat_natCast, k1, ← h4] at this
    rw [this, h5]
  · rintro ⟨h, hlt⟩
    have h1 := numF_eq h
    obtain ⟨h0, _, _⟩ := numF_spec h
    rw [itoa_nn h0] at h1
    have hl : (Lib.decDigits m.toNat).length ≤ 9 := by
      refine Nat.le_of_not_lt fun h9 => ?_
      rcases dec_len10 9 m.toNat h9 with i | i
      · have : (10 : Nat) ^ 9 = 1000000000 := by decide
        omega
      · simp at i
    have := num2_full t c r hnd (Lib.decDigits m.toNat) 0 0 (by simpa using h1) (by simp) rfl (decDigits_dig _) (by omega)
    rw [← h1] at this
    obtain ⟨k1, k2⟩ := val_dec m.toNat
    simp only [List.take_zero, List.nil_append, k1, k2] at this
    rw [this]
    congr 1
    omega
def Nu2R (x : Int × List UInt8 × Bool) (ex : Ex) (st' : St) : Prop := st'.df = none ∧ ((ex = .exit 0 ∧ x = (0, [], false)) ∨ (ex = .ret ∧ st'.env 4 = some (.int .i64 x.1) ∧ st'.env 5 = some (.str x.2.1) ∧ st'.env 6 = some (.bool x.2.2)))
def op2F (c : UInt8) : Int := if c = 61 then 1 else if c = 45 then 2 else if c = 43 then 3 else 0
theorem op2_opF (c : UInt8) : (0 < opF c → op2F c = opF c) ∧ (¬ 0 < opF c → op2F c = 0) := by
  by_cases h1 : c = 61
  · subst h1; exact ⟨fun _ => by decide, fun h => absurd (by decide) h⟩
  · by_cases h2 : c = 45
    · subst h2; exact ⟨fun _ => by decide, fun h => absurd (by decide) h⟩
    · by_cases h3 : c = 43
      · subst h3; exact ⟨fun _ => by decide, fun h => absurd (by decide) h⟩
      · have e : op2F c = 0 := by simp [op2F, h1, h2, h3]
        refine ⟨fun h => ?_, fun _ => e⟩
        have := opF_sgn c h
        rcases this.2 with k | k | k
        · rw [k] at this; simp [sgn] at this; exact absurd this.symm h1
        · rw [k] at this; simp [sgn] at this; exact absurd this.symm h2
        · rw [k] at this; simp [sgn] at this; exact absurd this.symm h3
def Sg (c : UInt8) (r : List UInt8) (v : Nat) (bx : Bx) (pm : Pm) (o : Int) (ex : Ex) (st' : St) : Prop := ex = .exit 0 ∧ st' = ⟨ofL [(0, .str (c :: r)), (2, .ptr 2 v 0), (5, .int .i64 o), (6, .int .i64 3), (16, .bool false)], bx, pm, none⟩
theorem ne_nat {a c : UInt8} (h : ¬ c = a) : ¬ (a.toNat : Int) = c.toNat := fun e => h (UInt8.toNat_inj.1 (Int.ofNat_inj.1 e)).symm
/-- What the document's Number reads of few bytes is what the program's does, where it reads any. -/
theorem num2_none {c : UInt8} (hc : 57 < c.toNat) {t : List UInt8} (h : (num2F t c t 0 0).2.2 = false) : ∀ m r, numF c t = some (m, r) → 1000000000 ≤ m := by
  intro m r hm
  refine Int.not_lt.1 fun hlt => ?_
  have := (num2_iff c hc t m r).2 ⟨hm, hlt⟩
  rw [this] at h
  simp at h
theorem num2_some {c : UInt8} (hc : 57 < c.toNat) {t : List UInt8} (h : (num2F t c t 0 0).2.2 = true) : numF c t = some ((num2F t c t 0 0).1, (num2F t c t 0 0).2.1) := by
  exact ((num2_iff c hc t _ _).1 (by rw [← h])).1
/-- Where a box stands as the edit that is told. -/
abbrev zEd : List AV := [.int .i64 0, .int .i64 0, .sl 1 [] .nil]
def Li2 (n v2 v10 : Nat) (ls : List AV) (ex : Ex) (st' : St) : Option (List (List UInt8) × List UInt8) → Prop
  | some (L, r) => ex = .exit 2 ∧ ∃ bx' pm' p', st' = ⟨ofL [(2, .ptr 2 v2 0), (5, .int .i64 3), (7, .int .i64 n), (8, .str r), (10, .ptr 10 v10 0), (11, .int .i64 n), (53, .bool false)], bx', pm', none⟩ ∧ bx' 2 = some (v2, zEd) ∧ bx' 10 = some (v10, [.int .i64 3, .int .i64 n, .sl 1 (ls ++ L.map .str) p'])
  | none => ex = .ret ∧ st'.df = none ∧ st'.env 2 = some (.ptr 2 v2 0) ∧ st'.env 3 = some (.str []) ∧ st'.env 4 = some (.bool false) ∧ st'.bx 2 = some (v2, zEd)
theorem Li2.step {n v2 v10 : Nat} {ls : List AV} {x : List UInt8} {ex : Ex} {st' : St} {o : Option (List (List UInt8) × List UInt8)} (h : Li2 n v2 v10 (ls ++ [.str x]) ex st' o) : Li2 n v2 v10 ls ex st' (o.map fun p => (x :: p.1, p.2)) := by
  cases o with
  | none => exact h
  | some Lr =>
    obtain ⟨L, r⟩ := Lr
    obtain ⟨h1, bx', pm', p', h2, h3, h4⟩ := h
    exact ⟨h1, bx', pm', p', h2, h3, by rw [h4]; simp⟩
theorem linesF_none {k : Nat} {t : List UInt8} (ht : t.length < 1000000000) (h : (num2F t 58 t 0 0).2.2 = false) : linesF (k + 1) t = none := by
  unfold linesF
  cases hm : numF 58 t with
  | none => rfl
  | some mr =>
    obtain ⟨m, r⟩ := mr
    have h9 := num2_none (by decide) h m r hm
    have := (numF_spec hm).2.2
    simp only
    rw [if_neg (by omega)]
theorem linesF_some {k : Nat} {t r : List UInt8} {m : Int} (h : numF 58 t = some (m, r)) : linesF (k + 1) t = if m ≤ r.length then (linesF k (r.drop m.toNat)).map fun p => (r.take m.toNat :: p.1, p.2) else none := by
  conv => lhs; unfold linesF
  rw [h]
def De2 (out : List AV) (ex : Ex) (st' : St) : Option (List Edit) → Prop
  | some L => ex = .exit 0 ∧ st'.df = none ∧ ∃ q, st'.env 4 = some (.sl 3 (out ++ L.map eE) q)
  | none => ex = .ret ∧ st'.df = none ∧ st'.env 2 = some (.sl 3 [] .nil) ∧ st'.env 3 = some (.int .i64 11)
theorem De2.step {out : List AV} {x : Edit} {ex : Ex} {st' : St} {o : Option (List Edit)} (h : De2 (out ++ [eE x]) ex st' o) : De2 out ex st' (o.map (x :: ·)) := by
  cases o with
  | none => exact h
  | some L =>
    obtain ⟨h1, h2, q, h3⟩ := h
    exact ⟨h1, h2, q, by rw [h3]; simp⟩
attribute [simp] selfAny
theorem deadC_cells (x y : AV) (l : List AV) : deadC (x :: y :: l) = false := by simp [deadC]
end Go.Proofs.YtdjgdipmjbkilaaGreatDoor.Rx
