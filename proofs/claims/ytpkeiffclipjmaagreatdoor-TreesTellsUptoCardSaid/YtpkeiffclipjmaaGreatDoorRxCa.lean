/-
  Plain proofs: equations; plain data.
-/
import Derived.Test.YtpkeiffclipjmaaGreatDoorRxV
namespace Go.Proofs.YtpkeiffclipjmaaGreatDoor.Rx
open Go
set_option linter.unusedSimpArgs false
set_option linter.unusedVariables false

theorem RunD_cond' (S : Sys) (c : Opd) (a b : ACode) (st : St) : RunD S (.cond c a b) st = match evo st.env c with
    | some (.bool true) => RunD S a st
    | some (.bool false) => RunD S b st
    | _ => none := by
  split
  · rename_i h; rw [RunD_cond S c a b st h]; rfl
  · rename_i h; rw [RunD_cond S c a b st h]; rfl
  · rename_i h1 h2
    refine opt_eq fun r => ?_
    rw [RunD_iff]
    constructor
    · rintro ⟨n, hn⟩
      simp only [run] at hn
      simp at hn
    · intro h; simp at h
theorem ofL_at {α : Type} (l : List (Nat × α)) (i : Nat) : ofL l i = get l i := rfl
theorem none'_at {α : Type} (i : Nat) : (none' : Nat → Option α) i = none := rfl
theorem outside_at (ops : List AOper) (e : Env) (i : Nat) : outside ops e i = if ops.any (fun o => o.d == some i) = true then none else e i := rfl
theorem stepsD_nil (D : Fun) (i : Nat) (fs : List (Nat × List Nat × List Nat)) (st : St) : stepsD D i fs [] st = some (.nrm, st) := rfl
/-- One operation of a row that draws its order, what it touches laid open. -/
def sdP (D : Fun) (i : Nat) (fs : List (Nat × List Nat × List Nat)) (o : AOper) (os : List AOper) (f : Option (List Nat × List Nat)) : Option (Bool × St) → Option (Ex × St)
  | some (false, st') => stepsD D (i + 1) (withF i f fs) os st'
  | some (true, st') => if fs.all (fun g => o.bf.contains g.1 || g.2.2.isEmpty) = true ∧ ahead i os = true then some (.pan, st') else none
  | none => none
theorem sdP_false (D : Fun) (i : Nat) (fs : List (Nat × List Nat × List Nat)) (o : AOper) (os : List AOper) (f : Option (List Nat × List Nat)) (st' : St) : sdP D i fs o os f (some (false, st')) = stepsD D (i + 1) (withF i f fs) os st' := rfl
theorem sdP_true (D : Fun) (i : Nat) (fs : List (Nat × List Nat × List Nat)) (o : AOper) (os : List AOper) (f : Option (List Nat × List Nat)) (st' : St) : sdP D i fs o os f (some (true, st')) = if fs.all (fun g => o.bf.contains g.1 || g.2.2.isEmpty) = true ∧ ahead i os = true then some (.pan, st') else none := rfl
def sdK (D : Fun) (i : Nat) (fs : List (Nat × List Nat × List Nat)) (o : AOper) (os : List AOper) (st : St) : Bool → Option (List Nat × List Nat) → Option (Ex × St)
  | false, none => sdP D i fs o os none (stepO D st o)
  | false, some f => if fs.all (fun g => o.bf.contains g.1 || apart g.2 f) = true then sdP D i fs o os (some f) (stepO D st o) else none
  | true, f => if fs.all (fun g => o.bf.contains g.1) = true ∧ ahead i os = true then sdP D i fs o os f (stepO D st o) else none
theorem stepsD_cons (D : Fun) (i : Nat) (fs : List (Nat × List Nat × List Nat)) (o : AOper) (os : List AOper) (st : St) : stepsD D i fs (o :: os) st = sdK D i fs o os st (barrier o.op) (foot st o.d o.op) := by
  have b1 : barrier o.op = true → ∀ f, behind fs o f = fs.all fun g => o.bf.contains g.1 := fun hb f => by unfold behind; rw [if_pos hb]
  have b2 : barrier o.op = false → behind fs o none = true := fun hb => by unfold behind; rw [if_neg (by rw [hb]; simp)]
  have b3 : barrier o.op = false → ∀ f, behind fs o (some f) = fs.all fun g => o.bf.contains g.1 || apart g.2 f := fun hb f => by unfold behind; rw [if_neg (by rw [hb]; simp)]
  unfold stepsD
  cases hb : barrier o.op with
  | true =>
    simp only [b1 hb, sdK, Bool.true_eq_false, false_or]
    by_cases h : (fs.all fun g => o.bf.contains g.1) = true ∧ ahead i os = true
    · rw [if_pos h, if_pos h]
      rcases stepO D st o with _ | ⟨_ | _, st'⟩ <;> rfl
    · rw [if_neg h, if_neg h]
  | false => cases hf : foot st o.d o.op with
    | none =>
      simp only [b2 hb, sdK]
      rw [if_pos ⟨trivial, .inl trivial⟩]
      rcases stepO D st o with _ | ⟨_ | _, st'⟩ <;> rfl
    | some f =>
      simp only [b3 hb, sdK]
      by_cases h : (fs.all fun g => o.bf.contains g.1 || apart g.2 f) = true
      · rw [if_pos ⟨h, .inl trivial⟩, if_pos h]
        rcases stepO D st o with _ | ⟨_ | _, st'⟩ <;> rfl
      · rw [if_neg (fun k => h k.1), if_neg h]
theorem sdK_none (D : Fun) (i : Nat) (fs : List (Nat × List Nat × List Nat)) (o : AOper) (os : List AOper) (st : St) : sdK D i fs o os st false none = sdP D i fs o os none (stepO D st o) := rfl
theorem sdK_some (D : Fun) (i : Nat) (fs : List (Nat × List Nat × List Nat)) (o : AOper) (os : List AOper) (st : St) (f : List Nat × List Nat) : sdK D i fs o os st false (some f) = if fs.all (fun g => o.bf.contains g.1 || apart g.2 f) = true then sdP D i fs o os (some f) (stepO D st o) else none := rfl
theorem sdK_true (D : Fun) (i : Nat) (fs : List (Nat × List Nat × List Nat)) (o : AOper) (os : List AOper) (st : St) (f : Option (List Nat × List Nat)) : sdK D i fs o os st true f = if fs.all (fun g => o.bf.contains g.1) = true ∧ ahead i os = true then sdP D i fs o os f (stepO D st o) else none := rfl
attribute [simp] RunD_seq RunD_reg RunD_regD RunD_cond' RunD_blk RunD_ret RunD_skip RunD_exit stepsO stepO stepG step flat evo ofL_at get params paramsB eff setd updL upd_apply trim keepE outside_at andThen outOf AV.okC deadC AV.cells fillB none'_at mkv bin binI fin settle1 settleF finK tell tells tell1 refsOut noRefs AV.pub1 AV.pubC AV.pub un evos callE passL pass1 comeR comeB plainR place stepsD_nil stepsD_cons sdK_none sdK_some sdK_true sdP_false sdP_true ahead foot barrier withF apart names orNone

theorem plain_bool (b : Bool) : plainR (.bool b) = true := rfl
def Res (x : Option (Ex × St)) (Q : Ex → St → Prop) : Prop := ∃ ex st', x = some (ex, st') ∧ Q ex st'
theorem Res_some (ex : Ex) (st : St) (Q : Ex → St → Prop) : Res (some (ex, st)) Q ↔ Q ex st := by
  constructor
  · rintro ⟨_, _, h, hq⟩
    simp only [Option.some.injEq, Prod.mk.injEq] at h
    obtain ⟨rfl, rfl⟩ := h
    exact hq
  · exact fun h => ⟨_, _, rfl, h⟩
theorem andThen_some (st : St) (ex : Ex) (k : St → Option (Ex × St)) : andThen (some (ex, st)) k = match ex with | .nrm => k st | ex => some (ex, st) := by cases ex <;> rfl
theorem chk_i64 (n : Int) (h : -9223372036854775808 ≤ n ∧ n ≤ 9223372036854775807) : chk .i64 n = some (.int .i64 n) := by
  unfold chk
  rw [if_pos (by rw [IntKind.wrap_i64]; omega)]
theorem nn1 (n : Nat) : 0 ≤ (n : Int) + 1 := by omega
theorem nn2 (n : Nat) : 0 < (n : Int) + 1 := by omega
theorem nn3 (n : Nat) : ((n : Int) + 1).toNat = n + 1 := by omega
attribute [simp] Res_some nn1 nn2 nn3

abbrev sS (s : List (List UInt8)) : AV := .sl 1 (s.map .str) .no
theorem nil_or_last {α : Type} (l : List α) : l = [] ∨ ∃ m x, l = m ++ [x] := by
  rcases List.eq_nil_or_concat l with h | ⟨m, x, h⟩
  · exact .inl h
  · exact .inr ⟨m, x, by rw [h, List.concat_eq_append]⟩
attribute [simp] slc bnd optv

/-- What may be appended to. -/
def AppOk (pm : Pm) (p : Perm) : Prop := p = .nil ∨ ∃ s v, p = .tok s v ∧ pm s = some (v, true)
theorem AppOk.tok {pm : Pm} {s v : Nat} (h : pm s = some (v, true)) : AppOk pm (.tok s v) := .inr ⟨s, v, rfl, h⟩
theorem AppOk.nil (pm : Pm) : AppOk pm .nil := .inl rfl
theorem isSl_pub (k : Nat) (xs : List AV) (p : Perm) : (AV.sl k xs p).pub = .sl k xs .no := rfl
attribute [simp] rowsOf AV.isAgg

def inR (c : Int) : Prop := -9223372036854775808 ≤ c ∧ c ≤ 9223372036854775807
def pickF (c n : Int) : Int := (if c < 0 then -(c + 1) else c).tmod n
theorem pickF_lt (c : Int) {n : Int} (hn : 0 < n) : 0 ≤ pickF c n ∧ pickF c n < n := by
  unfold pickF
  split
  · exact ⟨Int.tmod_nonneg _ (by omega), Int.tmod_lt_of_pos _ hn⟩
  · exact ⟨Int.tmod_nonneg _ (by omega), Int.tmod_lt_of_pos _ hn⟩
abbrev iS (raw : List Int) : AV := .sl 1 (raw.map (.int .i64)) .no
theorem loop_step {S : Sys} {a : ACode} {st : St} {Q : Ex → St → Prop} (h : ∀ K, K = RunD S (.loop a) → Res (andThen (RunD S a st) K) Q) : Res (RunD S (.loop a) st) Q := by
  rw [RunD_loop]
  exact h _ rfl
attribute [simp] build

attribute [simp] comeB binS refsOut rcvK

theorem nn5 (n : Nat) : 1 ≤ (n : Int) + 1 := by omega
attribute [simp] nn5

/-- What may be appended to, by the one mark. -/
def AppAt (d : Nat) (pm : Pm) (p : Perm) : Prop := p = .nil ∨ ∃ v, p = .tok d v ∧ pm d = some (v, true)
theorem Res.eqv {x : Option (Ex × St)} {Q Q' : Ex → St → Prop} (h : ∀ ex st, Q ex st → Q' ex st) (k : Res x Q) : Res x Q' := by
  obtain ⟨ex, st, h1, h2⟩ := k
  exact ⟨ex, st, h1, h ex st h2⟩
theorem RunD_dfr' (S : Sys) (d f : Nat) (caps : List Opd) (st : St) : RunD S (.dfr d f caps) st = match st.df, evos st.env caps with
    | none, some l => some (.nrm, { st with env := upd st.env d .opq, df := some (f, l) })
    | _, _ => none := by rw [RunD_dfr]; rfl
attribute [simp] wrsK wrsB selfP bstrK bstrB

attribute [simp] extreme foldI

attribute [simp] selfAny


def joinF (d n : List UInt8) : List UInt8 := if d = [] then n else d ++ [47] ++ n
def may01 (s : List UInt8) : Bool := !(decide (s = []) || decide (s = [46]) || decide (s = [46, 46]) || decide (64 < s.length)) && s.all fun c => decide (c ≠ 0)
theorem u8_zero (c : UInt8) : (c.toNat = 0) ↔ c = 0 := by
  constructor
  · intro h
    exact UInt8.toNat_inj.1 h
  · rintro rfl; rfl
def May1 (b : Bool) (ex : Ex) (st' : St) : Prop := st'.df = none ∧ if b = true then ex = .exit 0 else ex = .ret ∧ st'.env 2 = some (.bool false)
def splitG : List UInt8 → List UInt8 → List (List UInt8)
  | cur, [] => [cur]
  | cur, c :: r => if c = 47 then cur :: splitG [] r else splitG (cur ++ [c]) r
def splitP (s : List UInt8) : List (List UInt8) := splitG [] s
theorem splitG_len : ∀ (r cur : List UInt8), (splitG cur r).length ≤ r.length + 1
  | [], cur => by simp [splitG]
  | c :: r, cur => by
    unfold splitG
    split
    · have := splitG_len r []; simp; omega
    · have := splitG_len r (cur ++ [c]); simp; omega
theorem splitG_mem : ∀ (r cur x : List UInt8), x ∈ splitG cur r → x.length ≤ cur.length + r.length
  | [], cur, x, h => by simp [splitG] at h; subst h; simp
  | c :: r, cur, x, h => by
    unfold splitG at h
    split at h
    · rcases List.mem_cons.1 h with rfl | h
      · simp
      · have := splitG_mem r [] x h; simp at this ⊢; omega
    · have := splitG_mem r (cur ++ [c]) x h; simp at this ⊢; omega
theorem splitP_len (s : List UInt8) : (splitP s).length ≤ s.length + 1 := splitG_len s []
theorem splitP_mem {s x : List UInt8} (h : x ∈ splitP s) : x.length ≤ s.length := by simpa using splitG_mem s [] x h
theorem u8_47 (c : UInt8) : ((c.toNat : Int) = 47) ↔ c = 47 := by
  constructor
  · intro h
    exact UInt8.toNat_inj.1 (by have : (47 : UInt8).toNat = 47 := rfl; omega)
  · rintro rfl; rfl
def Spl (s : List UInt8) (R : List AV) (bx : Bx) (ex : Ex) (st' : St) : Prop := ex = .exit 0 ∧ ∃ (O : List AV) (q : Perm) (f : Nat) (i : AV) (pm' : Pm), st' = ⟨ofL [(0, .str s), (3, .sl 1 O q), (4, .int .i64 f), (5, i), (9, .bool false)], bx, pm', none⟩ ∧ AppOk pm' q ∧ f ≤ s.length ∧ O.length ≤ s.length ∧ R = O ++ [.str (s.drop f)]
theorem loop_eq {S : Sys} {a : ACode} {st : St} {v : Option (Ex × St)} (h : ∀ K, K = RunD S (.loop a) → andThen (RunD S a st) K = v) : RunD S (.loop a) st = v := by
  rw [RunD_loop]
  exact h _ rfl
def check01F (s : List UInt8) : Int := if (splitP s).all may01 = true then (if 16 < (splitP s).length then 3 else 0) else 2
def partsF (s : List UInt8) : List (List UInt8) := if check01F s = 0 then splitP s else []
theorem partsF_len (s : List UInt8) : (partsF s).length ≤ 16 := by
  by_cases h : check01F s = 0
  · unfold partsF
    rw [if_pos h]
    unfold check01F at h
    by_cases h1 : (splitP s).all may01 = true
    · rw [if_pos h1] at h
      by_cases h2 : 16 < (splitP s).length
      · rw [if_pos h2] at h; omega
      · omega
    · rw [if_neg h1] at h; omega
  · unfold partsF
    rw [if_neg h]
    simp
theorem partsF_mem {s x : List UInt8} (h : x ∈ partsF s) : x.length ≤ 64 := by
  by_cases hc : check01F s = 0
  · unfold partsF at h
    rw [if_pos hc] at h
    unfold check01F at hc
    by_cases h1 : (splitP s).all may01 = true
    · have := List.all_eq_true.1 h1 x h
      unfold may01 at this
      simp at this
      omega
    · rw [if_neg h1] at hc; omega
  · unfold partsF at h
    rw [if_neg hc] at h
    simp at h
def dirG : List UInt8 → List (List UInt8) → List UInt8
  | out, [] => out
  | out, [_] => out
  | out, a :: b :: r => dirG (joinF out a) (b :: r)
def dirF (s : List UInt8) : List UInt8 := dirG [] (partsF s)
theorem joinF_len (d n : List UInt8) : (joinF d n).length ≤ d.length + n.length + 1 := by
  unfold joinF
  split
  · subst_vars; simp
  · simp; omega
theorem dirG_len : ∀ (l : List (List UInt8)) (out : List UInt8), (∀ x ∈ l, x.length ≤ 64) → (dirG out l).length ≤ out.length + 65 * l.length
  | [], out, _ => by simp [dirG]
  | [_], out, _ => by simp [dirG]
  | a :: b :: r, out, h => by
    have h1 := dirG_len (b :: r) (joinF out a) (fun x hx => h x (List.mem_cons_of_mem _ hx))
    have h2 := joinF_len out a
    have h3 := h a (by simp)
    unfold dirG
    simp only [List.length_cons] at h1 ⊢
    omega
theorem dirF_len (s : List UInt8) : (dirF s).length ≤ 1040 := by
  have h1 := dirG_len (partsF s) [] (fun x hx => partsF_mem hx)
  have h2 := partsF_len s
  simp only [List.length_nil] at h1
  unfold dirF
  omega
def cmpQ : List (List UInt8) → List (List UInt8) → Option Int
  | a :: x, b :: y => if lessS a b = true then some (-1) else if a = b then cmpQ x y else some 1
  | _, _ => none
def cmpL (x y : List (List UInt8)) : Int := match cmpQ x y with
  | some c => c
  | none => if x.length < y.length then -1 else if y.length < x.length then 1 else 0
def cmpP (a b : List UInt8) : Int := cmpL (splitP a) (splitP b)
theorem cmpQ_none : ∀ {x y : List (List UInt8)}, cmpQ x y = none → True := fun _ => trivial
def namesF : List (List UInt8) := [[97], [98], [97, 98], [97, 33], [97, 46, 98], [46, 46, 46], [90], [255]]
def nameF (c : Int) : List UInt8 := namesF.getD (pickF c 8).toNat []
def pathG (out : List UInt8) : List Int → List UInt8
  | [] => out
  | c :: r => pathG (joinF out (nameF c)) r
def pathF (raw : List Int) : List UInt8 := if pathG [] (raw.take 8) = [] then [97] else pathG [] (raw.take 8)
theorem nameF_at (c : Int) : namesF[(pickF c 8).toNat]? = some (nameF c) := by
  have h := pickF_lt c (n := 8) (by omega)
  have h2 : (pickF c 8).toNat < namesF.length := by have : namesF.length = 8 := rfl; omega
  unfold nameF
  rw [List.getD_eq_getElem?_getD, List.getElem?_eq_getElem h2]
  rfl
theorem nameF_mem (c : Int) : nameF c ∈ namesF := List.mem_of_getElem? (nameF_at c)
theorem nameF_len (c : Int) : (nameF c).length ≤ 3 := by
  have : ∀ x ∈ namesF, x.length ≤ 3 := by decide
  exact this _ (nameF_mem c)
theorem pathG_len : ∀ (l : List Int) (out : List UInt8), (pathG out l).length ≤ out.length + 4 * l.length
  | [], out => by simp [pathG]
  | c :: r, out => by
    have h1 := pathG_len r (joinF out (nameF c))
    have h2 := joinF_len out (nameF c)
    have h3 := nameF_len c
    unfold pathG
    simp only [List.length_cons]
    omega
theorem pathF_len (raw : List Int) : (pathF raw).length ≤ 32 := by
  have h1 := pathG_len (raw.take 8) []
  have h2 : (raw.take 8).length ≤ 8 := by simp; omega
  simp only [List.length_nil] at h1
  unfold pathF
  split
  · simp
  · omega
structure It where
  path : List UInt8
  kind : Int
  data : List UInt8
  bad : Bool
  deriving DecidableEq
def iA (x : It) : AV := .agg [.str x.path, .int .i64 x.kind, .str x.data, .bool x.bad]
theorem iA_pub (x : It) : (iA x).pub = iA x := rfl
abbrev sI (t : List It) : AV := .sl 4 (t.map iA) .no
def countF (t : List It) (p : List UInt8) : Nat := (t.filter fun x => decide (x.path = p)).length
theorem countF_le (t : List It) (p : List UInt8) : countF t p ≤ t.length := List.length_filter_le _ _
def dirB (t : List It) (p : List UInt8) : Bool := t.any fun x => decide (x.path = p) && decide (x.kind = 1)
def findF (t : List It) (p : List UInt8) : Option It := t.find? fun x => decide (x.path = p)
abbrev zI : It := ⟨[], 0, [], false⟩
/-- What Find tells. -/
def fA : Option It → AV
  | some x => .tup [iA x, .bool true]
  | none => .tup [iA zI, .bool false]
def some1 (x : It) (size which : Int) : Bool := if which = 5 then decide (x.kind < 1) || decide (3 < x.kind) || (decide (x.kind = 1) && decide (x.data ≠ [])) else if which = 7 then decide (size < x.data.length) else x.bad
def someB (t : List It) (p : List UInt8) (size which : Int) : Bool := t.any fun x => decide (x.path = p) && some1 x size which
theorem Res.at {X Y : Option (Ex × St)} {Q : Ex → St → Prop} (h : Y = X) (k : Res Y Q) : Res X Q := h ▸ k
structure Lim where
  depth : Int
  size : Int
  count : Int
def lA (l : Lim) : AV := .agg [.int .i64 l.depth, .int .i64 l.size, .int .i64 l.count]
def faultF (t : List It) (l : Lim) (p : List UInt8) : Int :=
  if check01F p ≠ 0 then check01F p
  else if l.depth < (partsF p).length then 3
  else if 1 < countF t p then 4
  else if someB t p l.size 5 = true then 5
  else if dirF p ≠ [] ∧ dirB t (dirF p) = false then 6
  else if someB t p l.size 7 = true then 7
  else if someB t p l.size 9 = true then 9
  else 0
def checkG (t : List It) (l : Lim) (path : List UInt8) (code : Int) : List It → List UInt8 × Int
  | [] => (path, code)
  | x :: r => if faultF t l x.path ≠ 0 ∧ (code = 0 ∨ cmpP x.path path < 0) then checkG t l x.path (faultF t l x.path) r else checkG t l path code r
def checkF (t : List It) (l : Lim) : List UInt8 × Int := if l.count < t.length then ([], 8) else checkG t l [] 0 t
def ftA (f : List UInt8 × Int) : AV := .agg [.str f.1, .int .i64 f.2]
/-- Behind how many things another one stands (they are handed over from behind). -/
def atF {α : Type} (lt : α → α → Bool) (x : α) : List α → Nat
  | [] => 0
  | y :: r => if lt x y = true then atF lt x r else r.length + 1
def insF {α : Type} (lt : α → α → Bool) (x : α) (out : List α) : List α := out.take (atF lt x out.reverse) ++ x :: out.drop (atF lt x out.reverse)
def sortG {α : Type} (lt : α → α → Bool) (out : List α) : List α → List α
  | [] => out
  | x :: r => sortG lt (insF lt x out) r
def itLt (x y : It) : Bool := decide (cmpP x.path y.path < 0)
def sortF (t : List It) : List It := sortG itLt [] t
theorem atF_le {α : Type} (lt : α → α → Bool) (x : α) : ∀ l : List α, atF lt x l ≤ l.length
  | [] => by simp [atF]
  | y :: r => by
    have := atF_le lt x r
    unfold atF
    split
    · simp; omega
    · simp
theorem insF_len {α : Type} (lt : α → α → Bool) (x : α) (out : List α) : (insF lt x out).length = out.length + 1 := by
  have h := atF_le lt x out.reverse
  simp at h
  unfold insF
  simp
  omega
theorem insF_mem {α : Type} (lt : α → α → Bool) (x y : α) (out : List α) : y ∈ insF lt x out ↔ y = x ∨ y ∈ out := by
  unfold insF
  rw [List.mem_append, List.mem_cons]
  constructor
  · rintro (h | h | h)
    · exact .inr (List.mem_of_mem_take h)
    · exact .inl h
    · exact .inr (List.mem_of_mem_drop h)
  · rintro (h | h)
    · exact .inr (.inl h)
    · rw [← List.take_append_drop (atF lt x out.reverse) out, List.mem_append] at h
      rcases h with h | h
      · exact .inl h
      · exact .inr (.inr h)
theorem sortG_mem {α : Type} (lt : α → α → Bool) (y : α) : ∀ (l out : List α), y ∈ sortG lt out l ↔ y ∈ out ∨ y ∈ l
  | [], out => by simp [sortG]
  | x :: r, out => by
    unfold sortG
    rw [sortG_mem lt y r, insF_mem, List.mem_cons]
    constructor
    · rintro ((h | h) | h)
      · exact .inr (.inl h)
      · exact .inl h
      · exact .inr (.inr h)
    · rintro (h | h | h)
      · exact .inl (.inr h)
      · exact .inl (.inl h)
      · exact .inr h
theorem sortG_len {α : Type} (lt : α → α → Bool) : ∀ (l out : List α), (sortG lt out l).length = out.length + l.length
  | [], out => by simp [sortG]
  | x :: r, out => by
    unfold sortG
    rw [sortG_len lt r, insF_len]
    simp
    omega
structure Raw where
  path : List Int
  kind : Int
  data : List UInt8
  bad : Int
def rA (x : Raw) : AV := .agg [.sl 1 (x.path.map (.int .i64)) .no, .int .i64 x.kind, .str x.data, .int .i64 x.bad]
abbrev sR (l : List Raw) : AV := .sl 4 (l.map rA) .no
def Raw.ok (x : Raw) : Prop := (∀ c ∈ x.path, inR c) ∧ inR x.kind ∧ inR x.bad ∧ x.data.length ≤ 281474976710656
def itemF (x : Raw) : It := ⟨pathF x.path, 1 + pickF x.kind 3, if 1 + pickF x.kind 3 = 1 then [] else x.data.take 60, decide (pickF x.bad 12 = 0)⟩
/-- The dirs of a path, with a tree's. -/
def withG : List It → List UInt8 → List (List UInt8) → List It
  | w, _, [] => w
  | w, _, [_] => w
  | w, p, a :: b :: r => withG (if (findF w (joinF p a)).isSome = true then w else w ++ [⟨joinF p a, 1, [], false⟩]) (joinF p a) (b :: r)
def itemT (x : Raw) : It := { itemF x with bad := false }
def wide : Lim := ⟨16, 1000, 200⟩
def stepT (t : List It) (x : Raw) : List It :=
  let w := withG t [] (partsF (itemT x).path) ++ [itemT x]
  if (checkF w wide).2 = 0 then w else t
def treeG (t : List It) : List Raw → List It
  | [] => t
  | x :: r => treeG (stepT t x) r
def treeF (raw : List Raw) : List It := treeG [] (raw.take 14)
theorem withG_len : ∀ (l : List (List UInt8)) (w : List It) (p : List UInt8), (withG w p l).length ≤ w.length + (l.length - 1)
  | [], w, p => by simp [withG]
  | [_], w, p => by simp [withG]
  | a :: b :: r, w, p => by
    unfold withG
    have := withG_len (b :: r) (if (findF w (joinF p a)).isSome = true then w else w ++ [⟨joinF p a, 1, [], false⟩]) (joinF p a)
    have h2 : (if (findF w (joinF p a)).isSome = true then w else w ++ [⟨joinF p a, 1, [], false⟩]).length ≤ w.length + 1 := by split <;> simp
    simp only [List.length_cons] at this ⊢
    omega
def WQ (l : List (List UInt8)) (i4 raw T : AV) (v5 : Nat) (c5 : List AV) (R : List It) (ex : Ex) (st' : St) : Prop := ex = .exit 2 ∧ ∃ (q' : Perm) (p' k' : AV) (pm' : Pm) (bx' : Bx), AppOk pm' q' ∧ bx' 5 = some (v5, c5) ∧ st' = ⟨ofL [(0, raw), (3, T), (4, i4), (5, .ptr 5 v5 0), (6, sS l), (7, .sl 4 (R.map iA) q'), (8, p'), (9, k'), (37, .bool false)], bx', pm', none⟩
theorem treeG_cons (t : List It) (x : Raw) (r : List Raw) : treeG t (x :: r) = treeG (stepT t x) r := rfl
theorem itemT_len (x : Raw) : (itemT x).path.length ≤ 32 ∧ (itemT x).data.length ≤ 60 := by
  refine ⟨pathF_len x.path, ?_⟩
  unfold itemT itemF
  simp only
  split
  · simp
  · simp; omega
theorem withG_mem : ∀ (l : List (List UInt8)) (w : List It) (p : List UInt8) (y : It), y ∈ withG w p l → y ∈ w ∨ y.kind = 1 ∧ y.data = [] ∧ y.bad = false ∧ y.path.length ≤ p.length + (l.map List.length).sum + l.length
  | [], w, p, y, h => .inl h
  | [_], w, p, y, h => .inl h
  | a :: b :: r, w, p, y, h => by
    unfold withG at h
    have hj := joinF_len p a
    rcases withG_mem (b :: r) _ _ y h with h | ⟨h1, h2, h3, h4⟩
    · split at h
      · exact .inl h
      · rcases List.mem_append.1 h with h | h
        · exact .inl h
        · simp only [List.mem_singleton] at h
          subst h
          refine .inr ⟨rfl, rfl, rfl, ?_⟩
          simp only [List.map_cons, List.sum_cons, List.length_cons]
          omega
    · refine .inr ⟨h1, h2, h3, ?_⟩
      simp only [List.map_cons, List.sum_cons, List.length_cons] at h4 ⊢
      omega
theorem treeG_take (k : Nat) (t : List It) (c : Raw) (rest : List Raw) : treeG t ((c :: rest).take (k + 1)) = treeG (stepT t c) (rest.take k) := rfl
def TQ (raw : List Raw) (R : List It) (ex : Ex) (st' : St) : Prop := ex = .exit 0 ∧ ∃ (q' : Perm) (i' : AV) (pm' : Pm) (bx' : Bx), st' = ⟨ofL [(0, sR raw), (3, .sl 4 (R.map iA) q'), (4, i'), (19, .bool false)], bx', pm', none⟩

/-! ### The program's order of paths -/
def rk1 (c : UInt8) : Int := if c = 47 then 1 else 2 + c.toNat
def rkF (s : List UInt8) (i : Nat) : Int := match s[i]? with
  | none => 0
  | some c => rk1 c
theorem rk1_pos (c : UInt8) : 0 < rk1 c := by unfold rk1; split <;> omega
/-- The program's order. -/
def cmpS : List UInt8 → List UInt8 → Int
  | [], [] => 0
  | [], _ :: _ => -1
  | _ :: _, [] => 1
  | x :: a, y :: b => if rk1 x < rk1 y then -1 else if rk1 y < rk1 x then 1 else cmpS a b
theorem rkF_end (s : List UInt8) (i : Nat) (h : s.length ≤ i) : rkF s i = 0 := by unfold rkF; rw [List.getElem?_eq_none h]
theorem rkF_at (p r : List UInt8) (x : UInt8) : rkF (p ++ x :: r) p.length = rk1 x := by unfold rkF; simp
end Go.Proofs.YtpkeiffclipjmaaGreatDoor.Rx
