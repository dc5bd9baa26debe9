/-
  Rx, part A: plain values that Go's data read as, plain operations on them, and what a row of such code does with them. No memory and no program here.
-/
import GoSem.Core.Ast
import GoSem.Core.Next
namespace Go.Proofs.YtpkeiffclipjmaaGreatDoor.Rx
open Go

/-- What may be done with a slice besides reading it: nothing more; it is nil; it has no room behind it; it is the call's own, by this mark. -/
inductive Perm where
  | no
  | nil
  | clip
  | tok (s v : Nat)
  deriving DecidableEq

inductive AV where
  | int (k : IntKind) (n : Int)
  | bool (b : Bool)
  | str (s : List UInt8)
  | agg (cs : List AV)
  | sl (k : Nat) (xs : List AV) (p : Perm)
  | ptr (s v o : Nat)
  | eptr (cs : List AV)
  | tup (xs : List AV)
  | nilI
  | nilP
  | ifc
  | own (k : Nat) (ag : Bool) (s v n : Nat)
  | clo (f : Nat) (caps : List AV)
  | ref (o : Nat) (cs : List AV)
  | out (pan : Bool) (v : AV) (refs : List (List AV))
  | rcv (refs : List (List AV))
  | ins (xs : List AV)
  | wr (T : Nat) (s : List UInt8)
  /-- No pointer; the box (s, v) lies where a variable of type T, of two cells, lies. -/
  | bfresh (T s v : Nat)
  /-- A map of flags, by name. -/
  | mp (s v : Nat)
  /-- A row that is handed over, its cells to be turned; one of the call's own that is to be handed over so. -/
  | row (k : Nat) (ag : Bool) (n : Nat) (cs : List AV)
  | lnd (k : Nat) (ag : Bool) (s v n : Nat)
  /-- A method of a struct without cells, as a function. -/
  | met (f : Nat)
  | opq

namespace AV
def cells : AV → List AV
  | agg cs => cs
  | x => [x]
def isAgg : AV → Bool
  | agg _ => true
  | _ => false
/-- What one cell or more can hold. -/
def okC : AV → Bool
  | tup _ => false
  | ref _ _ => false
  | out _ _ _ => false
  | rcv _ => false
  | ins _ => false
  | wr _ _ => false
  | mp _ _ => false
  | row _ _ _ _ => false
  | lnd _ _ _ _ _ => false
  | opq => false
  | _ => true
/-- One cell that stays what it is outside the call. -/
def pubC : AV → AV
  | sl k xs _ => sl k xs .no
  | int k n => int k n
  | bool b => bool b
  | str s => str s
  | nilI => nilI
  | nilP => nilP
  | ifc => ifc
  | met f => met f
  | _ => opq
def pub1 : AV → AV
  | agg cs => agg (cs.map pubC)
  | x => pubC x
def pub : AV → AV
  | tup xs => tup (xs.map pub1)
  | x => pub1 x
end AV

def mkv (ag : Bool) (cs : List AV) : Option AV :=
  match ag, cs with
  | true, cs => some (.agg cs)
  | false, [c] => some c
  | _, _ => none

section
variable {α : Type}
def get : List (Nat × α) → Nat → Option α
  | [], _ => none
  | (k, v) :: l, i => if k = i then some v else get l i
def upd (f : Nat → Option α) (i : Nat) (a : α) : Nat → Option α := fun j => if i = j then some a else f j
theorem upd_apply (f : Nat → Option α) (i : Nat) (a : α) (j : Nat) : upd f i a j = if i = j then some a else f j := rfl
theorem upd_same (f : Nat → Option α) (i : Nat) (a : α) : upd f i a i = some a := if_pos rfl
theorem upd_ne (f : Nat → Option α) {i j : Nat} (a : α) (h : i ≠ j) : upd f i a j = f j := if_neg h
theorem upd_comm (f : Nat → Option α) {i j : Nat} (a b : α) (h : i ≠ j) : upd (upd f i a) j b = upd (upd f j b) i a := by
  funext k
  simp only [upd]
  by_cases h1 : i = k
  · subst h1; rw [if_pos rfl, if_pos rfl, if_neg (fun e => h e.symm)]
  · simp [h1]
end

def updL {α : Type} (f : Nat → Option α) : List (Nat × α) → Nat → Option α
  | [] => f
  | (i, a) :: l => updL (upd f i a) l

abbrev Env := Nat → Option AV
abbrev Bx := Nat → Option (Nat × List AV)
abbrev Pm := Nat → Option (Nat × Bool)
def ofL {α : Type} (l : List (Nat × α)) : Nat → Option α := get l
def none' {α : Type} : Nat → Option α := fun _ => none

inductive Opd where
  | t (n : Nat)
  | c (v : AV)

def evo (e : Env) : Opd → Option AV
  | .c v => some v
  | .t n => e n

inductive Cv where
  | same
  | toInt (k : IntKind)
  | ofBytes

inductive AOp where
  | mv (x : Opd)
  | pick (c a b : Opd)
  | alloc (z : List AV)
  | box (x : Opd)
  | agg (z : List AV) (ps : List (Nat × Nat × Opd))
  | mks (n k : Nat) (ag : Bool) (z : List AV) (ps : List (Nat × Opd))
  | load (ag : Bool) (n : Nat) (x : Opd)
  | store (n : Nat) (x v : Opd)
  | nilc (x : Opd)
  | bin (op : BinOp) (x y : Opd)
  | eqv (neg : Bool) (ks : Option (List Nat)) (x y : Opd)
  | un (op : UnOp) (x : Opd)
  | conv (c : Cv) (x : Opd)
  | mksl (k bytes : Nat) (ag : Bool) (z : List AV) (l c : Opd)
  | slice (st : Option Nat) (x : Opd) (lo hi mx : Option Opd)
  | faddr (off : Nat) (x : Opd)
  | fld (ag : Bool) (off n : Nat) (x : Opd)
  | iaddr (k : Nat) (x i : Opd)
  | aaddr (len k : Nat) (x i : Opd)
  | aidx (ag : Bool) (len k : Nat) (x i : Opd)
  | sidx (x i : Opd)
  | ext (x : Opd) (i : Nat)
  | call (f : Nat) (args : List Opd)
  | callv (x : Opd) (args : List Opd)
  | mkf (f : Nat) (caps : List Opd)
  | isn (neg : Bool) (x : Opd)
  | half (x : Opd)
  | callr (f : Nat) (args : List Opd)
  | ins (f : Nat) (x i y : Opd)
  | wrs (f : Nat) (x : Opd) (args : List Opd)
  | bstr (f : Nat) (x : Opd)
  | mkmap
  | mput (x k v : Opd)
  | mget (x k : Opd)
  | mkown (k bytes : Nat) (ag : Bool) (z : List AV) (l c : Opd)
  | len (st : Bool) (x : Opd)
  | min (xs : List Opd)
  | max (xs : List Opd)
  | app (own : Option Bool) (k bytes : Nat) (x y : Opd)

/-- A number that its kind holds. -/
def chk (k : IntKind) (n : Int) : Option AV := if k.wrap n = n then some (.int k n) else none

/-- '==' of bools (0), numbers (1), strings (2). -/
def eqK : Nat → AV → AV → Option Bool
  | 0, .bool a, .bool b => some (a == b)
  | 1, .int k a, .int k' b => if k = k' then some (decide (a = b)) else none
  | 2, .str a, .str b => some (decide (a = b))
  | _, _, _ => none
def eqL : List Nat → List AV → List AV → Option Bool
  | [], [], [] => some true
  | k :: ks, x :: xs, y :: ys => match eqK k x y, eqL ks xs ys with
    | some a, some b => some (a && b)
    | _, _ => none
  | _, _, _ => none

def lessS : List UInt8 → List UInt8 → Bool
  | _, [] => false
  | [], _ :: _ => true
  | a :: x, b :: y => a < b || (a == b && lessS x y)

def binI (k : IntKind) (a b : Int) : BinOp → Option AV
  | .add => chk k (a + b)
  | .sub => chk k (a - b)
  | .mul => chk k (a * b)
  | .quo => if b = 0 then none else chk k (a.tdiv b)
  | .rem => if b = 0 then none else some (.int k (a.tmod b))
  | .eql => some (.bool (decide (a = b)))
  | .neq => some (.bool (decide (a ≠ b)))
  | .lss => some (.bool (decide (a < b)))
  | .leq => some (.bool (decide (a ≤ b)))
  | .gtr => some (.bool (decide (b < a)))
  | .geq => some (.bool (decide (b ≤ a)))
  | _ => none
def binS (a b : List UInt8) : BinOp → Option AV
  | .add => if a.length + b.length ≤ 9223372036854775807 then some (.str (a ++ b)) else none
  | .eql => some (.bool (decide (a = b)))
  | .neq => some (.bool (decide (a ≠ b)))
  | .lss => some (.bool (lessS a b))
  | .geq => some (.bool (!lessS a b))
  | .gtr => some (.bool (!(lessS a b || decide (a = b))))
  | .leq => some (.bool (lessS a b || decide (a = b)))
  | _ => none
def bin (op : BinOp) : AV → AV → Option AV
  | .int k a, .int k' b => if k = k' then binI k a b op else none
  | .str a, .str b => binS a b op
  | _, _ => none
/-- '==' of bools, or of structs and arrays of numbers, bools, strings. -/
def eqv : Option (List Nat) → AV → AV → Option Bool
  | none, .bool a, .bool b => some (a == b)
  | some ks, .agg a, .agg b => eqL ks a b
  | _, _, _ => none
def un : UnOp → AV → Option AV
  | .not, .bool b => some (.bool (!b))
  | .neg, .int k n => chk k (0 - n)
  | _, _ => none
def bytesOf : List AV → Option (List UInt8)
  | [] => some []
  | .int .u8 n :: l => (bytesOf l).map (UInt8.ofNat n.toNat :: ·)
  | _ => none
def conv : Cv → AV → Option AV
  | .same, .str s => some (.str s)
  | .toInt k, .int _ n => chk k n
  | .ofBytes, .sl _ xs _ => (bytesOf xs).map .str
  | _, _ => none

/-- Bounds of a slice: each from 0 on, in order, at most n. -/
def bnd (n : Nat) (d : Nat) : Option AV → Option Nat
  | none => some d
  | some (.int _ i) => if 0 ≤ i ∧ i ≤ n then some i.toNat else none
  | _ => none
def slc (st : Option Nat) (x : AV) (lo hi mx : Option AV) : Option AV :=
  match st, x with
  | none, .str s => match mx, bnd s.length s.length hi with
    | none, some h => (bnd h 0 lo).map fun l => .str ((s.take h).drop l)
    | _, _ => none
  | some k, .sl k' xs p => if k' = k then match bnd xs.length xs.length hi with
    | some h => (bnd h 0 lo).bind fun l => match mx with
      | none => some (.sl k ((xs.take h).drop l) (if l = 0 ∧ h = xs.length then p else .no))
      | some (.int _ m) => if m = h ∧ hi.isSome = true then some (.sl k ((xs.take h).drop l) .clip) else none
      | _ => none
    | none => none
    else none
  | _, _ => none

def place (cs : List AV) (off size : Nat) (v : AV) : Option (List AV) :=
  if v.okC = true ∧ v.cells.length = size ∧ off + size ≤ cs.length then some (cs.take off ++ v.cells ++ cs.drop (off + size)) else none
def build (e : Env) : List AV → List (Nat × Nat × Opd) → Option (List AV)
  | cs, [] => some cs
  | cs, (o, n, x) :: ps => match evo e x with
    | some v => match place cs o n v with
      | some cs' => build e cs' ps
      | none => none
    | none => none
def rowsOf (e : Env) (k : Nat) (ag : Bool) : List AV → List (Nat × Opd) → Option (List AV)
  | xs, [] => some xs
  | xs, (i, x) :: ps => match evo e x with
    | some v => if v.okC = true ∧ v.cells.length = k ∧ v.isAgg = ag ∧ i < xs.length then rowsOf e k ag (xs.set i v.pub1) ps else none
    | none => none

def evos (e : Env) : List Opd → Option (List AV)
  | [] => some []
  | x :: xs => match evo e x, evos e xs with
    | some a, some l => some (a :: l)
    | _, _ => none
def optv (e : Env) : Option Opd → Option (Option AV)
  | none => some none
  | some x => (evo e x).map some

def foldI (lt : Int → Int → Bool) (k : IntKind) : Int → List AV → Option AV
  | a, [] => some (.int k a)
  | a, .int k' b :: l => if k = k' then foldI lt k (if lt b a then b else a) l else none
  | _, _ => none
def extreme (lt : Int → Int → Bool) : List AV → Option AV
  | .int k a :: l => foldI lt k a l
  | _ => none

def nextB (b : Bx) (d : Nat) : Nat := match b d with | some (v, _) => v + 1 | none => 0
def nextP (p : Pm) (d : Nat) : Nat := match p d with | some (v, _) => v + 1 | none => 0

structure St where
  env : Env
  bx : Bx
  pm : Pm
  df : Option (Nat × List AV)
/-- What an operation does: what comes into its slot, what becomes of boxes, of marks. -/
structure Eff where
  v : AV
  b : List (Nat × Nat × List AV)
  p : List (Nat × Nat × Bool)
  pan : Bool

/-- A box that is no more. -/
def deadC : List AV → Bool
  | [.tup _] => true
  | _ => false
def gone : List AV := [.tup []]

/-- Flags by texts, as a map has them. -/
def kvs : List AV → List AV → Option (List (List UInt8 × Bool))
  | .str k :: ks, .bool b :: vs => (kvs ks vs).map ((k, b) :: ·)
  | [], [] => some []
  | _, _ => none
def mapC (l : List (List UInt8 × Bool)) : List AV := [.tup [.agg (l.map fun p => .str p.1), .agg (l.map fun p => .bool p.2)]]
def mapOf : List AV → Option (List (List UInt8 × Bool))
  | [.tup [.agg ks, .agg vs]] => kvs ks vs
  | _ => none
def kget (k : List UInt8) : List (List UInt8 × Bool) → Bool
  | [] => false
  | p :: l => if p.1 = k then p.2 else kget k l
def kput (k : List UInt8) (b : Bool) : List (List UInt8 × Bool) → List (List UInt8 × Bool)
  | [] => [(k, b)]
  | p :: l => if p.1 = k then (k, b) :: l else p :: kput k b l
theorem kvs_map : ∀ l : List (List UInt8 × Bool), kvs (l.map fun p => .str p.1) (l.map fun p => .bool p.2) = some l
  | [] => rfl
  | p :: l => by simp [kvs, kvs_map l]
theorem mapOf_mapC (l : List (List UInt8 × Bool)) : mapOf (mapC l) = some l := kvs_map l
theorem kvs_inv : ∀ {ks vs : List AV} {l : List (List UInt8 × Bool)}, kvs ks vs = some l → ks = l.map (fun p => .str p.1) ∧ vs = l.map (fun p => .bool p.2)
  | [], vs, l, h => by
    cases vs with
    | nil => simp only [kvs, Option.some.injEq] at h; subst h; exact ⟨rfl, rfl⟩
    | cons v vs => simp [kvs] at h
  | x :: ks, vs, l, h => by
    unfold kvs at h
    split at h
    · rename_i k ks' b vs' e
      simp only [List.cons.injEq] at e
      obtain ⟨rfl, rfl⟩ := e
      obtain ⟨l', h1, rfl⟩ := Option.map_eq_some_iff.1 h
      obtain ⟨rfl, rfl⟩ := kvs_inv h1
      exact ⟨rfl, rfl⟩
    · rename_i e; simp at e
    · simp at h
theorem mapOf_inv {cs : List AV} {l : List (List UInt8 × Bool)} (h : mapOf cs = some l) : cs = mapC l := by
  unfold mapOf at h
  split at h
  · obtain ⟨rfl, rfl⟩ := kvs_inv h
    rfl
  · simp at h
theorem deadC_mapC (l : List (List UInt8 × Bool)) : deadC (mapC l) = true := rfl
theorem mapC_ne_gone (l : List (List UInt8 × Bool)) : gone ≠ mapC l := by simp [gone, mapC]

/-- What a new variable holds, its own name put in. -/
def fillB (d v : Nat) : List AV → List AV
  | .bfresh T _ _ :: l => .bfresh T d v :: l
  | l => l

/-- Elements of k cells each, as they stay outside the call. -/
def mkp : Bool → List AV → Option AV
  | true, l => some (.agg (l.map .pubC))
  | false, [c] => some c.pubC
  | _, _ => none
def chunks (k : Nat) (ag : Bool) : Nat → List AV → Option (List AV)
  | 0, _ => some []
  | n + 1, cs => match mkp ag (cs.take k), chunks k ag n (cs.drop k) with
    | some x, some l => some (x :: l)
    | _, _ => none

/-- What a call is handed; the boxes that it may turn (some: as many cells as before), or that it makes known. -/
def pass1 (b : Bx) : AV → Option (AV × List (Nat × Nat × Option Nat))
  | .ptr s v o => match b s with
    | some (v', cs) => if v' = v ∧ deadC cs = false then some (.ref o (cs.map .pubC), [(s, v, some cs.length)]) else none
    | none => none
  | .own k ag s v n => match b s with
    | some (v', cs) => if v' = v ∧ deadC cs = false ∧ cs.length = n * k ∧ 0 < k ∧ s < 100000 then (chunks k ag n cs).map fun xs => (.sl k xs .no, [(s, v, none)]) else none
    | none => none
  | .lnd k ag s v n => match b s with
    | some (v', cs) => if v' = v ∧ deadC cs = false ∧ cs.length = n * k then some (.row k ag n (cs.map .pubC), [(s, v, some cs.length)]) else none
    | none => none
  | x => some (x.pub, [])
/-- A row of the call's own, to be handed over and to come back. -/
def lend : AV → AV
  | .own k ag s v n => .lnd k ag s v n
  | x => x
def passL (b : Bx) : List AV → Option (List AV × List (Nat × Nat × Option Nat))
  | [] => some ([], [])
  | x :: xs => match pass1 b x, passL b xs with
    | some (y, t), some (l, ts) => if t.all (fun t => ts.all fun u => t.1 != u.1) = true then some (y :: l, t ++ ts) else none
    | _, _ => none
/-- What has become of these boxes. -/
def comeB : List (Nat × Nat × Option Nat) → List (List AV) → Option (List (Nat × Nat × List AV))
  | [], [] => some []
  | (s, v, some n) :: ts, cs :: rs => if cs.length = n ∧ deadC cs = false then (comeB ts rs).map ((s, v, cs) :: ·) else none
  | (s, v, none) :: ts, rs => (comeB ts rs).map ((s, v, gone) :: ·)
  | _, _ => none
def plainR : AV → Bool
  | .out _ _ _ => false
  | .rcv _ => false
  | .ins _ => false
  | .wr _ _ => false
  | .ref _ _ => false
  | .row _ _ _ _ => false
  | _ => true
def comeR (ts : List (Nat × Nat × Option Nat)) : AV → Option Eff
  | .out pan v rs => (comeB ts rs).map fun b => ⟨v, b, [], pan⟩
  | r => if plainR r = true then (comeB ts []).map fun b => ⟨r, b, [], false⟩ else none

/-- What comes of an operation that asks nothing of boxes and marks. -/
def flat (e : Env) : AOp → Option AV
  | .mv x => evo e x
  | .pick c a b => match evo e c with
    | some (.bool true) => evo e a
    | some (.bool false) => evo e b
    | _ => none
  | .agg z ps => (build e z ps).map .agg
  | .mks n k ag z ps => match mkv ag z with
    | some r => if z.length = k then (rowsOf e k ag (List.replicate n r.pub1) ps).map fun xs => .sl k xs .clip else none
    | none => none
  | .nilc x => match evo e x with
    | some (.ptr s v o) => some (.ptr s v o)
    | some (.eptr cs) => some (.eptr cs)
    | _ => none
  | .bin op x y => match evo e x, evo e y with
    | some a, some b => bin op a b
    | _, _ => none
  | .eqv neg ks x y => match evo e x, evo e y with
    | some a, some b => (eqv ks a b).map fun r => .bool (r != neg)
    | _, _ => none
  | .un op x => (evo e x).bind (un op)
  | .conv c x => (evo e x).bind (conv c)
  | .mksl k bytes ag z l c => match evo e l, evo e c, mkv ag z with
    | some (.int .i64 n), some (.int .i64 m), some r => if n = m ∧ 0 ≤ n ∧ n * bytes ≤ 140737488355328 ∧ z.length = k ∧ 0 < k ∧ 0 < bytes then some (.sl k (List.replicate n.toNat r.pub1) .clip) else none
    | _, _, _ => none
  | .slice st x lo hi mx => match evo e x, optv e lo, optv e hi, optv e mx with
    | some a, some l, some h, some m => slc st a l h m
    | _, _, _, _ => none
  | .faddr off x => match evo e x with
    | some (.ptr s v o) => some (.ptr s v (o + off))
    | some (.eptr cs) => if off ≤ cs.length then some (.eptr (cs.drop off)) else none
    | _ => none
  | .fld ag off n x => match evo e x with
    | some (.agg cs) => if off + n ≤ cs.length then mkv ag ((cs.drop off).take n) else none
    | _ => none
  | .iaddr k x i => match evo e x, evo e i with
    | some (.own k' _ s v m), some (.int _ n) => if k' = k ∧ 0 ≤ n ∧ n < m then some (.ptr s v (n.toNat * k)) else none
    | some (.sl k' xs _), some (.int _ n) => if k' = k ∧ 0 ≤ n then (xs[n.toNat]?).bind fun r => if r.okC = true then some (.eptr r.cells) else none else none
    | _, _ => none
  | .aaddr len k x i => match evo e x, evo e i with
    | some (.ptr s v o), some (.int _ n) => if 0 ≤ n ∧ n < len then some (.ptr s v (o + n.toNat * k)) else none
    | _, _ => none
  | .aidx ag len k x i => match evo e x, evo e i with
    | some (.agg cs), some (.int _ n) => if 0 ≤ n ∧ n < len ∧ n.toNat * k + k ≤ cs.length then mkv ag ((cs.drop (n.toNat * k)).take k) else none
    | _, _ => none
  | .sidx x i => match evo e x, evo e i with
    | some (.str s), some (.int _ n) => if 0 ≤ n then (s[n.toNat]?).map fun c => .int .u8 c.toNat else none
    | _, _ => none
  | .ext x i => match evo e x with
    | some (.tup xs) => xs[i]?
    | _ => none
  | .mkf f caps => (evos e caps).map (.clo f)
  | .half x => match evo e x with
    | some (.int k n) => some (.int k (n / 2))
    | _ => none
  | .isn neg x => match evo e x with
    | some .nilI => some (.bool (!neg))
    | some .ifc => some (.bool neg)
    | _ => none
  | .len st x => match st, evo e x with
    | true, some (.str s) => some (.int .i64 s.length)
    | false, some (.sl _ xs _) => some (.int .i64 xs.length)
    | false, some (.own _ _ _ _ n) => some (.int .i64 n)
    | _, _ => none
  | .min xs => (evos e xs).bind (extreme (fun b a => decide (b < a)))
  | .max xs => (evos e xs).bind (extreme (fun b a => decide (a < b)))
  | _ => none

/-- A call. -/
def callE (D : Nat → List AV → Option AV) (b : Bx) (f : Nat) (l : List AV) : Option Eff :=
  match passL b l with
  | some (l', ts) => (D f l').bind (comeR ts)
  | none => none

def insK (k : Nat) (ag : Bool) (s v : Nat) : Option AV → Option Eff
  | some (.ins xs) => if xs.all (fun y => y.okC && y.cells.length == k) = true ∧ deadC (xs.flatMap AV.cells) = false ∧ s < 200000 then some ⟨.own k ag s (v + 1) xs.length, [(s, v + 1, xs.flatMap AV.cells)], [], false⟩ else none
  | _ => none
/-- slices.Insert into none: a new row of the call's own. -/
def insN (k d v : Nat) : Option AV → Option Eff
  | some (.ins xs) => if xs.all (fun y => y.okC && y.cells.length == k) = true ∧ deadC (xs.flatMap AV.cells) = false ∧ d < 200000 then some ⟨.own k true d v xs.length, [(d, v, xs.flatMap AV.cells)], [], false⟩ else none
  | _ => none
def byteC (bs : List UInt8) : List AV := bs.map fun c => .int .u8 c.toNat
def asBytes : List AV → Option (List UInt8)
  | [] => some []
  | .int .u8 n :: l => if 0 ≤ n ∧ n < 256 then (asBytes l).map (UInt8.ofNat n.toNat :: ·) else none
  | _ => none
/-- Bytes are written to what a builder has. -/
def wrsB (d : Nat) (st : St) (s v : Nat) (bs : List UInt8) : AV → Option Eff
  | .sl 1 [] .nil => if bs = [] then some ⟨.opq, [(s, v, [.ptr s v 0, .sl 1 [] .nil])], [], false⟩
      else if s ≠ d ∧ bs.length ≤ 140737488355328 ∧ deadC (byteC bs) = false then some ⟨.opq, [(d, nextB st.bx d, byteC bs), (s, v, [.ptr s v 0, .own 1 false d (nextB st.bx d) bs.length])], [], false⟩ else none
  | .own 1 false t r n => match st.bx t with
    | some (r', cs) => if r' = r ∧ deadC cs = false ∧ cs.length = n ∧ s ≠ t ∧ 200000 ≤ t ∧ n + bs.length ≤ 140737488355328 ∧ (asBytes cs).isSome = true ∧ deadC (cs ++ byteC bs) = false then
        some ⟨.opq, [(t, r + 1, cs ++ byteC bs), (s, v, [.ptr s v 0, .own 1 false t (r + 1) (n + bs.length)])], [], false⟩ else none
    | none => none
  | _ => none
/-- A builder's mark on itself. -/
def selfP (T s v : Nat) : AV → Bool
  | .bfresh T' s' v' => T' == T && s' == s && v' == v
  | .ptr s' v' 0 => s' == s && v' == v
  | _ => false
def wrsK (d : Nat) (st : St) (s v : Nat) : Option AV → Option Eff
  | some (.wr T bs) => match st.bx s with
    | some (v', [a0, buf]) => if v' = v ∧ selfP T s v a0 = true then wrsB d st s v bs buf else none
    | _ => none
  | _ => none
def bstrB (st : St) (s : Nat) : AV → Option Eff
  | .sl 1 [] .nil => some ⟨.str [], [], [], false⟩
  | .own 1 false t r n => match st.bx t with
    | some (r', cs) => if r' = r ∧ deadC cs = false ∧ cs.length = n ∧ s ≠ t ∧ 200000 ≤ t ∧ n ≤ 140737488355328 then (asBytes cs).map fun l => ⟨.str l, [(t, r, gone)], [], false⟩ else none
    | none => none
  | _ => none
def selfAny (s v : Nat) : AV → Bool
  | .bfresh _ s' v' => s' == s && v' == v
  | .ptr s' v' 0 => s' == s && v' == v
  | _ => false
def bstrK (st : St) (s v : Nat) : Option AV → Option Eff
  | some (.wr _ []) => match st.bx s with
    | some (v', [a0, buf]) => if v' = v ∧ selfAny s v a0 = true then bstrB st s buf else none
    | _ => none
  | _ => none

def mputK (st : St) (key : List UInt8) (b : Bool) (s v : Nat) : Option Eff :=
  match st.bx s with
  | some (v', cs) => if v' = v then (mapOf cs).map fun l => ⟨.opq, [(s, v, mapC (kput key b l))], [], false⟩ else none
  | none => none
def mgetK (st : St) (key : List UInt8) (s v : Nat) : Option Eff :=
  match st.bx s with
  | some (v', cs) => if v' = v then (mapOf cs).map fun l => ⟨.bool (kget key l), [], [], false⟩ else none
  | none => none
/-- The name of a row that is made at d for the c-th time, and of what counts them. -/
def rowName (d c : Nat) : Nat := 1000 + c * 100 + d
def rowCnt (d : Nat) : Nat := 900000 + d
/-- An operation: what comes into its slot, and what becomes of boxes and marks. -/
def step (D : Nat → List AV → Option AV) (d : Option Nat) (st : St) : AOp → Option Eff
  | .alloc z => match d with
    | some d => if deadC z = false then some ⟨.ptr d (nextB st.bx d) 0, [(d, nextB st.bx d, fillB d (nextB st.bx d) z)], [], false⟩ else none
    | none => none
  | .box x => match d, evo st.env x with
    | some d, some v => if v.okC = true ∧ deadC v.cells = false then some ⟨.ptr d (nextB st.bx d) 0, [(d, nextB st.bx d, v.cells)], [], false⟩ else none
    | _, _ => none
  | .load ag n x => match evo st.env x with
    | some (.ptr s v o) => match st.bx s with
      | some (v', cs) => if v' = v ∧ deadC cs = false ∧ o + n ≤ cs.length then (mkv ag ((cs.drop o).take n)).map fun r => ⟨r, [], [], false⟩ else none
      | none => none
    | some (.eptr cs) => if n ≤ cs.length then (mkv ag (cs.take n)).map fun r => ⟨r, [], [], false⟩ else none
    | _ => none
  | .store n x y => match evo st.env x, evo st.env y with
    | some (.ptr s v o), some a => match st.bx s with
      | some (v', cs) => if v' = v ∧ deadC cs = false then (place cs o n a).bind fun cs' => if deadC cs' = false then some ⟨.opq, [(s, v, cs')], [], false⟩ else none else none
      | none => none
    | _, _ => none
  | .app own k bytes x y => match d, evo st.env x, evo st.env y with
    | some d, some (.sl k' xs p), some (.sl k'' ys _) =>
      if k' = k ∧ k'' = k ∧ (xs.length + ys.length) * bytes ≤ 140737488355328 then
        match p with
        | .no => none
        | .nil => match own with
          | none => some ⟨.sl k (xs ++ ys) (.tok d (nextP st.pm d)), [], [(d, nextP st.pm d, true)], false⟩
          | some ag => match ys with
            | [] => some ⟨.sl k xs .nil, [], [], false⟩
            | _ :: _ => if ys.all (fun y => y.okC && y.cells.length == k) = true ∧ deadC (ys.flatMap AV.cells) = false ∧ d < 200000 then some ⟨.own k ag d (nextB st.bx d) ys.length, [(d, nextB st.bx d, ys.flatMap AV.cells)], [], false⟩ else none
        | .clip => match ys with
          | [] => some ⟨.sl k xs .no, [], [], false⟩
          | _ :: _ => some ⟨.sl k (xs ++ ys) (.tok d (nextP st.pm d)), [], [(d, nextP st.pm d, true)], false⟩
        | .tok s v => match st.pm s with
          | some (v', true) => if v' = v then
              some ⟨.sl k (xs ++ ys) (.tok d (if s = d then v + 1 else nextP st.pm d)), [], [(s, v, false), (d, if s = d then v + 1 else nextP st.pm d, true)], false⟩
            else none
          | _ => none
      else none
    | _, some (.own k' ag s v n), some (.sl k'' ys _) => match st.bx s with
      | some (v', cs) => if k' = k ∧ k'' = k ∧ (n + ys.length) * bytes ≤ 140737488355328 ∧ v' = v ∧ deadC cs = false ∧ cs.length = n * k ∧ ys.all (fun y => y.okC && y.cells.length == k) = true ∧ deadC (cs ++ ys.flatMap AV.cells) = false ∧ s < 200000 then
          some ⟨.own k ag s (v + 1) (n + ys.length), [(s, v + 1, cs ++ ys.flatMap AV.cells)], [], false⟩
        else none
      | none => none
    | _, _, _ => none
  | .call f args => match evos st.env args with
    | some l => callE D st.bx f l
    | none => none
  | .callv x args => match evo st.env x, evos st.env args with
    | some (.clo f caps), some l => callE D st.bx f (l ++ caps)
    | some (.met f), some l => callE D st.bx f (.agg [] :: l)
    | _, _ => none
  | .callr f args => match evos st.env args with
    | some l => callE D st.bx f (l.map lend)
    | none => none
  | .ins f x i y => match evo st.env x, evo st.env i, evo st.env y with
    | some (.own k ag s v n), some i, some y => match st.bx s with
      | some (v', cs) => if v' = v ∧ deadC cs = false ∧ cs.length = n * k ∧ 0 < k then match chunks k ag n cs with
          | some xs => insK k ag s v (D f [.sl k xs .no, i.pub, y.pub])
          | none => none
        else none
      | none => none
    | some (.sl k [] .nil), some i, some y => match d with
      | some d => insN k d (nextB st.bx d) (D f [.sl k [] .nil, i.pub, y.pub])
      | none => none
    | _, _, _ => none
  | .wrs f x args => match d, evo st.env x, evos st.env args with
    | some d, some (.ptr s v 0), some (y :: l) => wrsK (200000 + d) st s v (D f ((y :: l).map .pub))
    | _, _, _ => none
  | .bstr f x => match evo st.env x with
    | some (.ptr s v 0) => bstrK st s v (D f [])
    | _ => none
  | .mkmap => match d with
    | some d => some ⟨.mp d (nextB st.bx d), [(d, nextB st.bx d, mapC [])], [], false⟩
    | none => none
  | .mput x k y => match evo st.env x, evo st.env k, evo st.env y with
    | some (.mp s v), some (.str key), some (.bool b) => mputK st key b s v
    | _, _, _ => none
  | .mget x k => match evo st.env x, evo st.env k with
    | some (.mp s v), some (.str key) => mgetK st key s v
    | _, _ => none
  | .mkown k bytes ag z l c => match d, evo st.env l, evo st.env c with
    | some d, some (.int .i64 n), some (.int .i64 m) =>
      if n = m ∧ 0 < n ∧ n * bytes ≤ 140737488355328 ∧ z.length = k ∧ 0 < k ∧ 0 < bytes ∧ rowName d (nextB st.bx (rowCnt d)) < 100000 ∧ deadC (List.replicate n.toNat z).flatten = false then
        some ⟨.own k ag (rowName d (nextB st.bx (rowCnt d))) (nextB st.bx (rowName d (nextB st.bx (rowCnt d)))) n.toNat,
          [(rowCnt d, nextB st.bx (rowCnt d), gone), (rowName d (nextB st.bx (rowCnt d)), nextB st.bx (rowName d (nextB st.bx (rowCnt d))), (List.replicate n.toNat z).flatten)], [], false⟩
      else none
    | _, _, _ => none
  | o => (flat st.env o).map fun r => ⟨r, [], [], false⟩

structure AOper where
  d : Option Nat
  g : Option (Nat × Bool)
  op : AOp
  bf : List Nat

def setd (e : Env) (d : Option Nat) (v : AV) : Env := match d with | some d => upd e d v | none => e

def eff (st : St) (d : Option Nat) (e : Eff) : St := ⟨setd st.env d e.v, updL st.bx e.b, updL st.pm e.p, st.df⟩

/-- What an operation does, its guard looked at: nothing, where the guard is another. -/
def stepG (D : Nat → List AV → Option AV) (st : St) (o : AOper) : Option Eff :=
  match o.g with
  | none => step D o.d st o.op
  | some (j, want) => match st.env j with
    | some (.bool b) => if b = want then step D o.d st o.op else some ⟨.tup [], [], [], false⟩
    | some (.tup []) => some ⟨.tup [], [], [], false⟩
    | _ => none
/-- True: it went up. -/
def stepO (D : Nat → List AV → Option AV) (st : St) (o : AOper) : Option (Bool × St) := (stepG D st o).map fun e => (e.pan, eff st o.d e)

inductive Ex where
  | nrm
  | exit (id : Nat)
  | ret
  | pan
  deriving DecidableEq

def stepsO (D : Nat → List AV → Option AV) : List AOper → St → Option (Ex × St)
  | [], st => some (.nrm, st)
  | o :: os, st => match stepO D st o with
    | some (false, st') => stepsO D os st'
    | some (true, st') => some (.pan, st')
    | none => none

def names (e : Env) (l : List Opd) : List Nat := l.flatMap fun x => match evo e x with
  | some (.ptr s _ _) => [2 * s]
  | some (.own _ _ s _ _) => [2 * s]
  | some (.lnd _ _ s _ _) => [2 * s]
  | some (.clo _ caps) => caps.flatMap fun
    | .ptr s _ _ => [2 * s]
    | .own _ _ s _ _ => [2 * s]
    | .lnd _ _ s _ _ => [2 * s]
    | _ => []
  | _ => []
def orNone (l : List Nat) : Option (List Nat × List Nat) := match l with | [] => none | l => some ([], l)
/-- Which boxes (even numbers) and marks (odd numbers) an operation reads and writes; none, if it asks nothing of them. -/
def foot (st : St) (d : Option Nat) : AOp → Option (List Nat × List Nat)
  | .load _ _ x => match evo st.env x with | some (.ptr s _ _) => some ([2 * s], []) | _ => none
  | .store _ x _ => match evo st.env x with | some (.ptr s _ _) => some ([], [2 * s]) | _ => none
  | .alloc _ => match d with | some d => some ([], [2 * d]) | none => none
  | .box _ => match d with | some d => some ([], [2 * d]) | none => none
  | .app _ _ _ x _ => match d, evo st.env x with
    | some d, some (.sl _ _ (.tok s _)) => some ([], [2 * d + 1, 2 * s + 1])
    | _, some (.own _ _ s _ _) => some ([], [2 * s])
    | some d, _ => some ([], [2 * d + 1, 2 * d])
    | _, _ => none
  | .call _ args => orNone (names st.env args)
  | .callv x args => orNone (names st.env (x :: args))
  | _ => none
/-- Operations that stand behind all that is ahead, and ahead of all that is behind. -/
def barrier : AOp → Bool
  | .ins _ _ _ _ => true
  | .wrs _ _ _ => true
  | .bstr _ _ => true
  | .mkmap => true
  | .mput _ _ _ => true
  | .mget _ _ => true
  | .mkown _ _ _ _ _ _ => true
  | .callr _ _ => true
  | _ => false
def apart (a b : List Nat × List Nat) : Bool :=
  a.2.all (fun x => !b.1.contains x && !b.2.contains x) && a.1.all (fun x => !b.2.contains x)
/-- Is it in order, behind those that have been ('fs': by their numbers), ahead of those that are to come? -/
def behind (fs : List (Nat × List Nat × List Nat)) (o : AOper) (f : Option (List Nat × List Nat)) : Bool :=
  if barrier o.op = true then fs.all fun g => o.bf.contains g.1 else match f with
    | none => true
    | some f => fs.all fun g => o.bf.contains g.1 || apart g.2 f
def ahead (i : Nat) (os : List AOper) : Bool := os.all fun o => o.bf.contains i
def withF (i : Nat) (f : Option (List Nat × List Nat)) (fs : List (Nat × List Nat × List Nat)) : List (Nat × List Nat × List Nat) := match f with
  | none => fs
  | some f => (i, f) :: fs
/-- The operations in their order, none of them at odds with one that may come ahead of it just as well. Where one goes up: nothing that may come behind it has turned anything, and all that is left stands behind it. -/
def stepsD (D : Nat → List AV → Option AV) : Nat → List (Nat × List Nat × List Nat) → List AOper → St → Option (Ex × St)
  | _, _, [], st => some (.nrm, st)
  | i, fs, o :: os, st =>
    if behind fs o (foot st o.d o.op) = true ∧ (barrier o.op = false ∨ ahead i os = true) then
      match stepO D st o with
      | some (false, st') => stepsD D (i + 1) (withF i (foot st o.d o.op) fs) os st'
      | some (true, st') => if fs.all (fun g => o.bf.contains g.1 || g.2.2.isEmpty) = true ∧ ahead i os = true then some (.pan, st') else none
      | none => none
    else none

def keepE (e : Env) : List Nat → Option (List (Nat × AV))
  | [] => some []
  | k :: ks => match e k, keepE e ks with
    | some v, some l => some ((k, v) :: l)
    | _, _ => none

inductive ACode where
  | skip
  | reg (ops : List AOper) (keep : List Nat)
  | regD (ops : List AOper) (keep : List Nat)
  | seq (a b : ACode)
  | cond (c : Opd) (a b : ACode)
  | blk (id : Nat) (a : ACode)
  | loop (a : ACode)
  | exit (id : Nat)
  | ret
  | dfr (d f : Nat) (caps : List Opd)

def iter (f : St → Option (Ex × St)) : Nat → St → Option (Ex × St)
  | 0, _ => none
  | n + 1, st => match f st with
    | some (.nrm, st') => iter f n st'
    | r => r

/-- What a row's operations leave alone. -/
def outside (ops : List AOper) (e : Env) : Env := fun i => if ops.any (fun o => o.d == some i) = true then none else e i
def trim (keep : List Nat) (e0 : Env) : Ex × St → Option (Ex × St)
  | (.nrm, st) => (keepE st.env keep).map fun e => (.nrm, { st with env := ofL e })
  | (.pan, st) => some (.pan, { st with env := e0 })
  | r => some r

def run (D : Nat → List AV → Option AV) (n : Nat) : ACode → St → Option (Ex × St)
  | .skip, st => some (.nrm, st)
  | .reg ops keep, st => (stepsO D ops st).bind (trim keep (outside ops st.env))
  | .regD ops keep, st => (stepsD D 0 [] ops st).bind (trim keep (outside ops st.env))
  | .seq a b, st => match run D n a st with
    | some (.nrm, st') => run D n b st'
    | r => r
  | .cond c a b, st => match evo st.env c with
    | some (.bool true) => run D n a st
    | some (.bool false) => run D n b st
    | _ => none
  | .blk id a, st => match run D n a st with
    | some (.exit i, st') => if i = id then some (.nrm, st') else some (.exit i, st')
    | r => r
  | .loop a, st => iter (run D n a) n st
  | .exit id, st => some (.exit id, st)
  | .ret, st => some (.ret, st)
  | .dfr d f caps, st => match st.df, evos st.env caps with
    | none, some l => some (.nrm, { st with env := upd st.env d .opq, df := some (f, l) })
    | _, _ => none

/-- Where a result stands: in a slot, or in a box of which the slot tells. -/
inductive RV where
  | t (n : Nat)
  | g (n : Nat)
  | c (n : Nat) (ag : Bool) (k : Nat)
structure AFunc where
  np : Nat
  res : List RV
  code : ACode

/-- Rows of the call's own, in a row: each as it is told; none of those whose names have been. -/
def gridR (b : Bx) : List Nat → List AV → Option (List AV × List (Nat × Nat × List AV))
  | _, [] => some ([], [])
  | seen, .own k ag s v n :: l => match b s, gridR b (s :: seen) l with
    | some (v', cs), some (xs, ts) => if v' = v ∧ deadC cs = false ∧ cs.length = n * k ∧ 0 < k ∧ s < 100000 ∧ seen.contains s = false then (chunks k ag n cs).map fun ys => (.sl k ys .no :: xs, (s, v, gone) :: ts) else none
    | _, _ => none
  | _, _ :: _ => none
def tell1 (st : St) : RV → Option (AV × List (Nat × Nat × List AV))
  | .t n => match st.env n with
    | some (.own k ag s v m) => match st.bx s with
      | some (v', cs) => if v' = v ∧ deadC cs = false ∧ cs.length = m * k ∧ 0 < k ∧ s < 100000 then (chunks k ag m cs).map fun xs => (.sl k xs .no, [(s, v, gone)]) else none
      | none => none
    | some x => some (x.pub1, [])
    | none => none
  | .g n => match st.env n with
    | some (.own 1 false s v m) => match st.bx s with
      | some (v', cs) => if v' = v ∧ deadC cs = false ∧ cs.length = m ∧ s < 100000 then (gridR st.bx [s] cs).map fun r => (.sl 1 r.1 .no, r.2 ++ [(s, v, gone)]) else none
      | none => none
    | _ => none
  | .c n ag k => match st.env n with
    | some (.ptr s v o) => match st.bx s with
      | some (v', cs) => if v' = v ∧ deadC cs = false ∧ o + k ≤ cs.length then (mkv ag ((cs.drop o).take k)).map fun x => (x.pub1, []) else none
      | none => none
    | _ => none
def tells (st : St) : List RV → Option (List AV)
  | [] => some []
  | r :: rs => match tell1 st r with
    | some (x, b) => (tells { st with bx := updL st.bx b } rs).map (x :: ·)
    | none => none
def tell (res : List RV) (st : St) : Option AV :=
  match tells st res with
  | some [x] => some x
  | some l => some (.tup l)
  | none => none

/-- The first of the names of boxes that a function is handed. -/
def handed : Nat := 100000
def params : Nat → List AV → List (Nat × AV)
  | _, [] => []
  | i, .ref o _ :: l => (i, .ptr (handed + i) 0 o) :: params (i + 1) l
  | i, .row k ag n _ :: l => (i, if i < 100000 then .own k ag (handed + i) 0 n else .opq) :: params (i + 1) l
  | i, a :: l => (i, a) :: params (i + 1) l
def paramsB : Nat → List AV → List (Nat × Nat × List AV)
  | _, [] => []
  | i, .ref _ cs :: l => (handed + i, 0, cs) :: paramsB (i + 1) l
  | i, .row _ _ _ cs :: l => (handed + i, 0, cs) :: paramsB (i + 1) l
  | i, _ :: l => paramsB (i + 1) l
/-- What has become of what it was handed. -/
def refsOut (b : Bx) : Nat → List AV → Option (List (List AV))
  | _, [] => some []
  | i, .ref _ cs :: l => match b (handed + i), refsOut b (i + 1) l with
    | some (0, cs'), some r => if deadC cs' = false ∧ cs'.length = cs.length then some (cs'.map .pubC :: r) else none
    | _, _ => none
  | i, .row _ _ _ cs :: l => match b (handed + i), refsOut b (i + 1) l with
    | some (0, cs'), some r => if deadC cs' = false ∧ cs'.length = cs.length then some (cs'.map .pubC :: r) else none
    | _, _ => none
  | i, _ :: l => refsOut b (i + 1) l
def noRefs : List AV → Bool
  | [] => true
  | .ref _ _ :: _ => false
  | .row _ _ _ _ :: _ => false
  | _ :: l => noRefs l
def rcvK (st : St) (ts : List (Nat × Nat × Option Nat)) : Option AV → Option (Bool × St)
  | some (.rcv rs) => (comeB ts rs).map fun b => (false, { st with bx := updL st.bx b })
  | _ => none
/-- What the calls that were put off do. -/
def settleF (D : Nat → List AV → Option AV) (pan : Bool) (st : St) : Option (Bool × St) :=
  match st.df with
  | none => some (pan, st)
  | some (f, caps) => match passL st.bx caps with
    | some (l, ts) => rcvK st ts (D f (.bool pan :: l))
    | none => none
def settle1 (D : Nat → List AV → Option AV) : Ex → St → Option (Bool × St)
  | .ret, st => settleF D false st
  | .nrm, st => settleF D false st
  | .pan, st => settleF D true st
  | .exit _, _ => none
def finK (args : List AV) (res : List RV) : Bool × St → Option AV
  | (true, st) => (refsOut st.bx 0 args).map (.out true .opq)
  | (false, st) => match tell res st, refsOut st.bx 0 args with
    | some v, some rs => if noRefs args = true then some v else some (.out false v rs)
    | _, _ => none
def fin (D : Nat → List AV → Option AV) (args : List AV) (res : List RV) (ex : Ex) (st : St) : Option AV := (settle1 D ex st).bind (finK args res)
def callF (D : Nat → List AV → Option AV) (n : Nat) (af : AFunc) (args : List AV) : Option AV :=
  if args.length = af.np then (run D n af.code ⟨ofL (params 0 args), ofL (paramsB 0 args), none', none⟩).bind fun r => fin D args af.res r.1 r.2 else none

structure Sys where
  ext : Nat → Option (List AV → Option AV)
  tbl : Nat → Option AFunc

def T (S : Sys) : Nat → Nat → List AV → Option AV
  | 0, _, _ => none
  | n + 1, f, args => match S.ext f with
    | some F => F args
    | none => match S.tbl f with
      | some af => callF (T S n) n af args
      | none => none
end Go.Proofs.YtpkeiffclipjmaaGreatDoor.Rx
