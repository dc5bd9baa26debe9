/-
  Rx, part K: the program's own code, told as rows of plain operations: each number that a type hides is laid open.
-/
import Derived.Test.YtpkeiffclipjmaaGreatDoorRxP
import GoSem.Core.Region
import GoSem.Core.Layout
import GoSem.Op.Equal
namespace Go.Proofs.YtpkeiffclipjmaaGreatDoor.Rx
open Go

/-- What is asked beside the program: which functions are called in ways of their own (1: slices.Insert, 2: bytes are written to a builder, 3: a builder's string); whether what is appended to makes rows of the call's own; whether what is made does, and what is told is a row of such. -/
structure Cfg where
  sp : List (Nat × Nat)
  own : Bool
  grid : Bool := false

section
variable (P : Program)
def szT (t : TypeId) : Option Nat := (P.info? t).map (·.size)
def agT (t : TypeId) : Option Bool := match P.underlying t with
  | some (.struct _) => some true
  | some (.array _ _) => some true
  | some _ => some false
  | none => none
def leafT : Nat → TypeId → List TypeId
  | 0, t => [t]
  | n + 1, t => match P.underlying t with
    | some (.struct fs) => fs.toList.flatMap fun f => leafT n f.type
    | some (.array m e) => (List.replicate m (leafT n e)).flatten
    | _ => [t]
def cst1 (t : TypeId) : Value → Option AV
  | .int k n => some (.int k n)
  | .bool b => some (.bool b)
  | .string s => some (.str s.data.toList)
  | .slice none 0 0 => match P.underlying t with
    | some (.slice e) => (szT P e).map fun k => .sl k [] .nil
    | _ => none
  | .nilIface => some .nilI
  | .pointer none => some .nilP
  | _ => none
def cstL : List TypeId → List Value → Option (List AV)
  | t :: ts, v :: vs => match cst1 P t v, cstL ts vs with
    | some x, some l => some (x :: l)
    | _, _ => none
  | [], [] => some []
  | _, _ => none
def cst (t : TypeId) : Value → Option AV
  | .agg vs => (cstL P (leafT P 8 t) vs.toList).map .agg
  | v => cst1 P t v
/-- What a new variable holds: one that may be a builder bears its type. -/
def newC (e : TypeId) : List AV → List AV
  | [.nilP, .sl 1 [] .nil] => [.bfresh e 0 0, .sl 1 [] .nil]
  | .bfresh _ _ _ :: _ => gone
  | l => l
def zeroT (t : TypeId) : Option AV := match P.info? t with
  | some i => match i.zero with
    | some v => cst P t v
    | none => none
  | none => none
def opd (t : TypeId) : Operand → Option Opd
  | .tmp n => some (.t n)
  | .const v => (cst P t v).map .c
  | _ => none
def opdO (t : TypeId) : Option Operand → Option (Option Opd)
  | none => some none
  | some x => (opd P t x).map some
def opds : List TypeId → List Operand → Option (List Opd)
  | t :: ts, x :: xs => match opd P t x, opds ts xs with
    | some y, some l => some (y :: l)
    | _, _ => none
  | [], [] => some []
  | _, _ => none
def parts (place : Nat → Option (Nat × Nat × TypeId)) : List (Nat × Operand) → Option (List (Nat × Nat × Opd))
  | [] => some []
  | (i, x) :: ps => match place i with
    | some (o, n, t) => match opd P t x, parts place ps with
      | some y, some l => some ((o, n, y) :: l)
      | _, _ => none
    | none => none
def partsS (e : TypeId) : List (Nat × Operand) → Option (List (Nat × Opd))
  | [] => some []
  | (i, x) :: ps => match opd P e x, partsS e ps with
    | some y, some l => some ((i, y) :: l)
    | _, _ => none
def kindT (t : TypeId) : Option Nat := match P.underlying t with
  | some .bool => some 0
  | some (.int _) => some 1
  | some .string => some 2
  | _ => none
def kindsF : List Field → Option (List Nat)
  | [] => some []
  | f :: fs => match kindT P f.type, kindsF fs with
    | some k, some l => if f.name = "_" then none else some (k :: l)
    | _, _ => none
/-- What '==' is asked of: bools; structs and arrays of numbers, strings, bools. Numbers and strings go another way. -/
def eqN (t : TypeId) : Option (Option (List Nat)) := match P.underlying t with
  | some .bool => some none
  | some (.struct fs) => if !P.stoodInHeld t && (fs.toList.map (·.offset) == List.range fs.size) && !P.eqGuardType P.depth t then (kindsF P fs.toList).map some else none
  | some (.array n e) => if szT P e == some 1 && !P.eqGuardType P.depth t then (kindT P e).map fun k => some (List.replicate n k) else none
  | _ => none
def numT (t : TypeId) : Bool := match P.underlying t with
  | some (.int _) => true
  | some .string => true
  | _ => false
def isEq : BinOp → Bool
  | .eql => true
  | .neq => true
  | _ => false

variable (C : Cfg)
def cmpSp (f : Nat) (l : List Opd) : Option AOp :=
  match get C.sp f with
  | none => some (.call f l)
  | some 1 => match l with | [x, i, y] => some (.ins f x i y) | _ => none
  | some 2 => match l with | x :: l => some (.wrs f x l) | _ => none
  | some 3 => match l with | [x] => some (.bstr f x) | _ => none
  | some 4 => some (.callr f l)
  | some _ => none
def cmpCall (c : Call) : Option AOp :=
  match c.callee with
  | .value (.func f) => match P.funcs[f]? with
    | some fn => if fn.body.isSome && fn.name != "runtime.NumGoroutine" then (opds P c.argTypes.toList c.args.toList).bind (cmpSp C f) else none
    | none => none
  | .value (.tmp t) => (opds P c.argTypes.toList c.args.toList).map (.callv (.t t))
  | .builtin .len => match c.args.toList, c.argTypes.toList with
    | [x], [t] => match P.underlying t with
      | some (.slice _) => (opd P t x).map (.len false)
      | some .string => (opd P t x).map (.len true)
      | _ => none
    | _, _ => none
  | .builtin .min => (opds P c.argTypes.toList c.args.toList).map .min
  | .builtin .max => (opds P c.argTypes.toList c.args.toList).map .max
  | .builtin .append => match c.args.toList, c.argTypes.toList with
    | [x, y], [t, u] => if t = u then match P.underlying t with
      | some (.slice e) => match P.info? e, opd P t x, opd P u y with
        | some i, some x, some y => match i.zero with
          | some z => if 0 < i.size ∧ 0 < i.bytes ∧ z.cells.size = i.size then (if C.own = true then (agT P e).map fun ag => .app (some ag) i.size i.bytes x y else some (.app none i.size i.bytes x y)) else none
          | none => none
        | _, _, _ => none
      | _ => none
      else none
    | _, _ => none
  | _ => none

def cmp (o : Oper) : Option AOp :=
  match o.op with
  | .move x => (opd P o.type x).map .mv
  | .assign x => (opd P o.type x).map .mv
  | .pick c a b => match opd P 0 c, opd P o.type a, opd P o.type b with
    | some c, some a, some b => some (.pick c a b)
    | _, _, _ => none
  | .alloc e => (zeroT P e).bind fun z => if z.okC = true then some (.alloc (newC e z.cells)) else none
  | .box e x => (opd P e x).map .box
  | .build t ps => match P.underlying t, zeroT P t with
    | some (.struct fs), some (.agg z) => if (fs.toList.all fun f => (szT P f.type).isSome) = true then (parts P (fun i => match fs[i]? with | some f => (szT P f.type).map fun n => (f.offset, n, f.type) | none => none) ps.toList).map (.agg z) else none
    | some (.array _ e), some (.agg z) => match szT P e with
      | some k => (parts P (fun i => some (i * k, k, e)) ps.toList).map (.agg z)
      | none => none
    | _, _ => none
  | .buildSlice t len ps => match P.underlying t with
    | some (.slice e) => match szT P e, agT P e, zeroT P e, partsS P e ps.toList with
      | some k, some ag, some z, some ps => if 0 < k ∧ len * k ≤ 16777216 ∧ z.okC = true ∧ z.isAgg = ag then some (.mks len k ag z.cells ps) else none
      | _, _, _, _ => none
    | _ => none
  | .load t x => match szT P t, agT P t, opd P 0 x with
    | some n, some ag, some x => if ag = true ∨ n = 1 then some (.load ag n x) else none
    | _, _, _ => none
  | .store t x y => match szT P t, opd P 0 x, opd P t y with
    | some n, some x, some y => some (.store n x y)
    | _, _, _ => none
  | .nilCheck x => (opd P 0 x).map .nilc
  | .binOp .shr t x (.const (.int _ 1)) _ => (opd P t x).map .half
  | .binOp op t x (.const .nilIface) _ => match P.underlying t, opd P t x with
    | some (.interface _), some x => if isEq op = true then some (.isn (match op with | .neq => true | _ => false) x) else none
    | _, _ => none
  | .makeFunc (.func f) first caps => if first.size = 0 then (opds P (List.replicate caps.size 0) caps.toList).map (.mkf f) else none
  | .binOp op t x y _ => match opd P t x, opd P t y with
    | some x, some y => if isEq op = true then
        (if numT P t = true then some (.bin op x y) else (eqN P t).map fun n => .eqv (match op with | .neq => true | _ => false) n x y)
      else some (.bin op x y)
    | _, _ => none
  | .unOp op t x => (opd P t x).map (.un op)
  | .convert s d x => match P.underlying s, P.underlying d, opd P s x with
    | some (.int _), some (.int k), some x => some (.conv (.toInt k) x)
    | some .string, some .string, some x => some (.conv .same x)
    | some (.slice e), some .string, some x => match P.underlying e with
      | some (.int .u8) => some (.conv .ofBytes x)
      | _ => none
    | _, _, _ => none
  | .makeSlice t l c => match P.underlying t with
    | some (.slice e) => match P.info? e, agT P e, zeroT P e, opd P 0 l, opd P 0 c with
      | some i, some ag, some z, some l, some c => if z.okC = true ∧ z.isAgg = ag then (if C.grid = true then some (.mkown i.size i.bytes ag z.cells l c) else some (.mksl i.size i.bytes ag z.cells l c)) else none
      | _, _, _, _, _ => none
    | _ => none
  | .slice t x lo hi mx => match P.underlying t, opd P t x, opdO P 0 lo, opdO P 0 hi, opdO P 0 mx with
    | some .string, some x, some lo, some hi, some mx => some (.slice none x lo hi mx)
    | some (.slice e), some x, some lo, some hi, some mx => match szT P e with
      | some k => some (.slice (some k) x lo hi mx)
      | none => none
    | _, _, _, _, _ => none
  | .fieldAddr s x f => match P.underlying s with
    | some (.struct fs) => match fs[f]? with
      | some f => match szT P f.type, opd P 0 x with
        | some n, some x => if 0 < n then some (.faddr f.offset x) else none
        | _, _ => none
      | none => none
    | _ => none
  | .field t x f => match P.underlying t, opd P t x with
    | some (.struct fs), some x => match fs[f]? with
      | some f => match szT P f.type, agT P f.type with
        | some n, some ag => if ag = true ∨ n = 1 then some (.fld ag f.offset n x) else none
        | _, _ => none
      | none => none
    | _, _ => none
  | .indexAddr t x i => match P.underlying t, opd P t x, opd P 0 i with
    | some (.slice e), some x, some i => (szT P e).map fun k => .iaddr k x i
    | some (.array n e), some x, some i => (szT P e).map fun k => .aaddr n k x i
    | _, _, _ => none
  | .index t x i => match P.underlying t, opd P t x, opd P 0 i with
    | some (.array n e), some x, some i => match szT P e, agT P e with
      | some k, some ag => if ag = true ∨ k = 1 then some (.aidx ag n k x i) else none
      | _, _ => none
    | some .string, some x, some i => some (.sidx x i)
    | _, _, _ => none
  | .makeMap t none => match P.underlying t with
    | some (.map kt et) => match P.underlying kt, P.underlying et with
      | some .string, some .bool => some .mkmap
      | _, _ => none
    | _ => none
  | .mapUpdate t m k v => match P.underlying t with
    | some (.map kt et) => match P.underlying kt, P.underlying et, opd P 0 m, opd P kt k, opd P et v with
      | some .string, some .bool, some m, some k, some v => some (.mput m k v)
      | _, _, _, _, _ => none
    | _ => none
  | .lookup t m k false => match P.underlying t with
    | some (.map kt et) => match P.underlying kt, P.underlying et, opd P 0 m, opd P kt k, ((P.info? et).bind fun i => i.zero : Option Value) with
      | some .string, some .bool, some m, some k, some (.bool false) => some (.mget m k)
      | _, _, _, _, _ => none
    | _ => none
  | .extract x i => (opd P 0 x).map fun x => .ext x i
  | .call c => cmpCall P C c
  | _ => none

def direct (o : Oper) : List Nat := (o.after.toList.filter (Region.binds .any)).map (·.on)
def bfL : List Oper → List (List Nat) → List (List Nat)
  | [], acc => acc
  | o :: os, acc => bfL os (acc ++ [(direct o ++ (direct o).flatMap fun j => acc.getD j []).eraseDups])

def callO (o : Oper) : Bool := match o.op with
  | .call { callee := .value _, .. } => true
  | _ => false
def memO (o : Oper) : Bool := match o.op with
  | .load _ _ => true
  | .store _ _ _ => true
  | .alloc _ => true
  | .box _ _ => true
  | .call { callee := .builtin .append, .. } => true
  | _ => callO o
/-- Of what stands ahead of an operation: the calls; and if it asks boxes or marks, those that ask them, too. -/
def bfO (ops : Array Oper) (o : Oper) (bf : List Nat) : List Nat := bf.filter fun j => (ops[j]?).any fun p => callO p || (memO o && memO p)

def cmpG (ops : Array Oper) (o : Oper) : Option (Option (Nat × Bool)) :=
  match o.guard with
  | none => some none
  | some (j, w) => match (ops[j]?).bind (·.dst) with
    | some d => some (some (d, w))
    | none => none
def dstOk (nt : Nat) : Option Tmp → Bool
  | some d => decide (d < nt)
  | none => true
def cmpO (nt : Nat) (ops : Array Oper) (o : Oper) (bf : List Nat) : Option AOper :=
  match cmpG ops o, cmp P C o with
  | some g, some p => if dstOk nt o.dst = true then some ⟨o.dst, g, p, bfO ops o bf⟩ else none
  | _, _ => none
def cmpOs (nt : Nat) (ops : Array Oper) : List Oper → List (List Nat) → Option (List AOper)
  | o :: os, b :: bs => match cmpO P C nt ops o b, cmpOs nt ops os bs with
    | some x, some l => some (x :: l)
    | _, _ => none
  | [], _ => some []
  | _, _ => none
/-- The edges go back; slots are not at odds, or their operations in order. -/
def drawOk (ops : List Oper) (bf : List (List Nat)) (aops : List AOper) : Bool :=
  (ops.zipIdx.all fun (o, i) => (direct o).all (· < i)) &&
  (aops.zipIdx.all fun (y, j) => (aops.take j).zipIdx.all fun (x, i) => (bf.getD j []).contains i || apartT x y)

/-- A call that is put off: of a function with what it takes along. -/
def cmpDfr (nt : Nat) (ops : List Oper) : Option (Nat × Nat × List Opd) :=
  match ops with
  | [a, b] => match a.op, b.op, a.dst with
    | .makeFunc (.func f) first caps, .defer c, some d => match c.callee, opds P (List.replicate caps.size 0) caps.toList, P.funcs[f]? with
      | .value (.tmp t), some l, some fn => if t = d ∧ d < nt ∧ a.guard.isNone = true ∧ b.guard.isNone = true ∧ b.dst.isNone = true ∧ first.size = 0 ∧ c.args.size = 0 ∧ fn.body.isSome = true ∧ (fn.name != "runtime.NumGoroutine") = true then some (d, f, l) else none
      | _, _, _ => none
    | _, _, _ => none
  | _ => none
def cmpC (nt : Nat) : Code → List (List Nat) → Option (ACode × List (List Nat))
  | .skip, ks => some (.skip, ks)
  | .region _ ops draw, k :: ks => match (if draw = true then none else cmpDfr P nt ops.toList) with
    | some (d, f, l) => some (.dfr d f l, ks)
    | none => match cmpOs P C nt ops ops.toList (if draw = true then bfL ops.toList [] else List.replicate ops.size []) with
    | some l => if draw = true then (if drawOk ops.toList (bfL ops.toList []) l = true then some (.regD l k, ks) else none) else some (.reg l k, ks)
    | none => none
  | .seq a b, ks => match cmpC nt a ks with
    | some (a', ks') => match cmpC nt b ks' with
      | some (b', r) => some (.seq a' b', r)
      | none => none
    | none => none
  | .cond c a b, ks => match opd P 0 c, cmpC nt a ks with
    | some c', some (a', ks') => match cmpC nt b ks' with
      | some (b', r) => some (.cond c' a' b', r)
      | none => none
    | _, _ => none
  | .block id a, ks => match cmpC nt a ks with
    | some (a', r) => some (.blk id a', r)
    | none => none
  | .loop a, ks => match cmpC nt a ks with
    | some (a', r) => some (.loop a', r)
    | none => none
  | .exit id, ks => some (.exit id, ks)
  | .ret, ks => some (.ret, ks)
  | _, _ => none

def resL (grid : Bool) : List ResultVar → Option (List RV)
  | [] => some []
  | .tmp t :: l => (resL grid l).map ((if grid = true then .g t else .t t) :: ·)
  | .cell a t :: l => match agT P t, szT P t, resL grid l with
    | some ag, some k, some l => if ag = true ∨ k = 1 then some (.c a ag k :: l) else none
    | _, _, _ => none
def cmpF (fn : Func) (ks : List (List Nat)) : Option AFunc :=
  match fn.body, resL P C.grid fn.results.toList with
  | some c, some r => match cmpC P C fn.ntmps c ks with
    | some (c', []) => if (fn.name != "runtime.NumGoroutine") = true then some ⟨fn.params.size + fn.nfree, r, c'⟩ else none
    | _ => none
  | _, _ => none
end
/-- Operations as they are printed: one that no other one guards; one that moves. -/
@[simp] def Oo (d : Nat) (x : AOp) : AOper := ⟨some d, none, x, []⟩
@[simp] def Mo (d s : Nat) : AOper := ⟨some d, none, .mv (.t s), []⟩
end Go.Proofs.YtpkeiffclipjmaaGreatDoor.Rx
