/-
  Rx, part R: how plain values lie in memory.
-/
import Derived.Test.YtpkeiffclipjmaaGreatDoorRxP
import Derived.Calls
import Derived.Below
import Derived.Laws.OwnMore
import Derived.RowKit
namespace Go.Proofs.YtpkeiffclipjmaaGreatDoor.Rx
open Go Go.RowKit

/-- What is known of memory: cells that stay as they are; the slices that bear marks; the blocks of boxes. -/
structure Gh where
  pr : Nat → Nat → Prop
  lv : Nat → Nat → Option (Value × Nat)
  bx : Nat → Nat → Option (Nat × Nat)
def Gh.pub (g : Gh) : Gh := ⟨g.pr, fun _ _ => none, fun _ _ => none⟩

/-- The type of what lies in a block. -/
def tyAt (w : World) (b : Nat) : Option TypeId := match w.heap[b]? with
  | some (.cells _ T _) => some T
  | _ => none

/-- The type of a byte. -/
def byteT : TypeId := 5

def flatV (us : List Value) : List Value := us.flatMap fun u => u.cells.toList

/-- Cells from an address on. -/
def CellsR (w : World) (pr : Nat → Nat → Prop) (b o : Nat) (cs : List Value) : Prop :=
  ∀ j c, cs[j]? = some c → w.cell? ⟨b, o + j, none⟩ = some c ∧ pr b (o + j)

/-- A slice's value, and its elements, each of k cells. -/
def SlR (w : World) (pr : Nat → Nat → Prop) (k : Nat) (us : List Value) (v : Value) : Prop :=
  ∃ a cap, v = .slice a us.length cap ∧ us.length ≤ cap ∧ (∀ u ∈ us, u.cells.size = k) ∧ (∀ c ∈ flatV us, c.oneCell' = true) ∧
    (us ≠ [] → ∃ b o, a = some ⟨b, o, none⟩ ∧ CellsR w pr b o (flatV us))

def PmR (g : Gh) (k : Nat) (v : Value) : Perm → Prop
  | .no => True
  | .nil => v = .slice none 0 0
  | .clip => ∃ a n, v = .slice a n n
  | .tok s r => g.lv s r = some (v, k)

mutual
def Rd (w : World) (g : Gh) : AV → Value → Prop
  | .int k n, v => v = .int k n
  | .bool b, v => v = .bool b
  | .str s, v => v = .string ⟨s.toArray⟩
  | .agg cs, v => ∃ vs, v = .agg vs ∧ RdL w g cs vs.toList ∧ ∀ u ∈ vs.toList, u.oneCell' = true
  | .sl k xs p, v => ∃ us, RdL w g.pub xs us ∧ SlR w g.pr k us v ∧ PmR g k v p
  | .ptr s r o, v => ∃ b n, g.bx s r = some (b, n) ∧ v = .pointer (some ⟨b, o, none⟩)
  | .own k _ s r n, v => ∃ b cap, g.bx s r = some (b, cap * k) ∧ n ≤ cap ∧ v = .slice (some ⟨b, 0, none⟩) n cap ∧ (200000 ≤ s → tyAt w b = some byteT)
  | .clo f caps, v => ∃ cv, v = .func (.func f) #[] cv ∧ RdL w g caps cv.toList
  | .nilP, v => v = .pointer none
  | .bfresh T s r, v => v = .pointer none ∧ ∃ b, g.bx s r = some (b, 2) ∧ tyAt w b = some T
  | .ifc, v => ∃ t p, v = .iface t p
  | .eptr cs, v => ∃ b o us, v = .pointer (some ⟨b, o, none⟩) ∧ RdL w g.pub cs us ∧ (∀ u ∈ us, u.oneCell' = true) ∧ CellsR w g.pr b o us
  | .tup xs, v => ∃ vs, v = .tuple vs ∧ RdL w g xs vs.toList
  | .nilI, v => v = .nilIface
  | .mp s r, v => ∃ b, g.bx s r = some (b, 0) ∧ v = .map (some b)
  | .lnd k _ s r n, v => ∃ b cap, g.bx s r = some (b, cap * k) ∧ n ≤ cap ∧ v = .slice (some ⟨b, 0, none⟩) n cap
  | .met f, v => v = .func (.func f) #[.agg #[]] #[]
  | _, _ => True
def RdL (w : World) (g : Gh) : List AV → List Value → Prop
  | [], us => us = []
  | x :: xs, us => ∃ u us', us = u :: us' ∧ Rd w g x u ∧ RdL w g xs us'
end

/-- Memory and what is known of it have come further: what was to stay has stayed. -/
structure Later (w : World) (g : Gh) (w' : World) (g' : Gh) : Prop where
  cell : ∀ b o, g.pr b o → w'.cell? ⟨b, o, none⟩ = w.cell? ⟨b, o, none⟩
  pr : ∀ b o, g.pr b o → g'.pr b o
  lv : ∀ s r v, g.lv s r = some v → g'.lv s r = some v
  bx : ∀ s r b, g.bx s r = some b → g'.bx s r = some b
  ty : ∀ b T, tyAt w b = some T → tyAt w' b = some T
theorem Later.refl (w : World) (g : Gh) : Later w g w g := ⟨fun _ _ _ => rfl, fun _ _ h => h, fun _ _ _ h => h, fun _ _ _ h => h, fun _ _ h => h⟩
theorem Later.trans {w w1 w2 : World} {g g1 g2 : Gh} (h : Later w g w1 g1) (k : Later w1 g1 w2 g2) : Later w g w2 g2 :=
  ⟨fun b o p => (k.cell b o (h.pr b o p)).trans (h.cell b o p), fun b o p => k.pr b o (h.pr b o p), fun s r v e => k.lv s r v (h.lv s r v e), fun s r b e => k.bx s r b (h.bx s r b e), fun b T e => k.ty b T (h.ty b T e)⟩
theorem Later.pub {w w' : World} {g g' : Gh} (h : Later w g w' g') : Later w g.pub w' g'.pub :=
  ⟨h.cell, h.pr, fun _ _ _ e => by simp [Gh.pub] at e, fun _ _ _ e => by simp [Gh.pub] at e, h.ty⟩

theorem CellsR.later {w w' : World} {g g' : Gh} (h : Later w g w' g') {b o : Nat} {cs : List Value} (hc : CellsR w g.pr b o cs) : CellsR w' g'.pr b o cs := by
  intro j c e
  obtain ⟨h1, h2⟩ := hc j c e
  exact ⟨(h.cell _ _ h2).trans h1, h.pr _ _ h2⟩
theorem SlR.later {w w' : World} {g g' : Gh} (h : Later w g w' g') {k : Nat} {us : List Value} {v : Value} (hs : SlR w g.pr k us v) : SlR w' g'.pr k us v := by
  obtain ⟨a, cap, h1, h2, h3, h4, h5⟩ := hs
  refine ⟨a, cap, h1, h2, h3, h4, fun hn => ?_⟩
  obtain ⟨b, o, e, hc⟩ := h5 hn
  exact ⟨b, o, e, hc.later h⟩

mutual
theorem Rd.later {w w' : World} : ∀ (x : AV) {g g' : Gh} (_ : Later w g w' g') {v : Value}, Rd w g x v → Rd w' g' x v
  | .int k n, _, _, _, _, hr => hr
  | .bool b, _, _, _, _, hr => hr
  | .str s, _, _, _, _, hr => hr
  | .agg cs, _, _, h, _, hr => by
    simp only [Rd] at hr ⊢
    obtain ⟨vs, e, h1, h2⟩ := hr
    exact ⟨vs, e, RdL.later cs h h1, h2⟩
  | .sl k xs p, _, _, h, _, hr => by
    simp only [Rd] at hr ⊢
    obtain ⟨us, h1, h2, h3⟩ := hr
    refine ⟨us, RdL.later xs h.pub h1, h2.later h, ?_⟩
    cases p with
    | tok s r => exact h.lv s r _ h3
    | _ => exact h3
  | .ptr s r o, _, _, h, _, hr => by
    simp only [Rd] at hr ⊢
    obtain ⟨b, n, h1, h2⟩ := hr
    exact ⟨b, n, h.bx s r _ h1, h2⟩
  | .own k ag s r n, _, _, h, _, hr => by
    simp only [Rd] at hr ⊢
    obtain ⟨b, cap, h1, h2, h3, h4⟩ := hr
    exact ⟨b, cap, h.bx s r _ h1, h2, h3, fun e => h.ty _ _ (h4 e)⟩
  | .clo f caps, _, _, h, _, hr => by
    simp only [Rd] at hr ⊢
    obtain ⟨cv, e, h1⟩ := hr
    exact ⟨cv, e, RdL.later caps h h1⟩
  | .nilP, _, _, _, _, hr => by simp only [Rd] at hr ⊢; exact hr
  | .ifc, _, _, _, _, hr => by simp only [Rd] at hr ⊢; exact hr
  | .ref _ _, _, _, _, _, _ => by simp only [Rd]
  | .out _ _ _, _, _, _, _, _ => by simp only [Rd]
  | .rcv _, _, _, _, _, _ => by simp only [Rd]
  | .mp s r, _, _, h, _, hr => by
    simp only [Rd] at hr ⊢
    obtain ⟨b, h1, h2⟩ := hr
    exact ⟨b, h.bx s r _ h1, h2⟩
  | .ins _, _, _, _, _, _ => by simp only [Rd]
  | .wr _ _, _, _, _, _, _ => by simp only [Rd]
  | .row _ _ _ _, _, _, _, _, _ => by simp only [Rd]
  | .met _, _, _, _, _, hr => by simp only [Rd] at hr ⊢; exact hr
  | .lnd k ag s r n, _, _, h, _, hr => by
    simp only [Rd] at hr ⊢
    obtain ⟨b, cap, h1, h2, h3⟩ := hr
    exact ⟨b, cap, h.bx s r _ h1, h2, h3⟩
  | .bfresh T s r, _, _, hl, _, hr => by
    simp only [Rd] at hr ⊢
    obtain ⟨h1, b, h2, h3⟩ := hr
    exact ⟨h1, b, hl.bx _ _ _ h2, hl.ty _ _ h3⟩
  | .eptr cs, _, _, h, _, hr => by
    simp only [Rd] at hr ⊢
    obtain ⟨b, o, us, e, h1, h2, h3⟩ := hr
    exact ⟨b, o, us, e, RdL.later cs h.pub h1, h2, h3.later h⟩
  | .tup xs, _, _, h, _, hr => by
    simp only [Rd] at hr ⊢
    obtain ⟨vs, e, h1⟩ := hr
    exact ⟨vs, e, RdL.later xs h h1⟩
  | .nilI, _, _, _, _, hr => hr
  | .opq, _, _, _, _, _ => by simp only [Rd]
theorem RdL.later {w w' : World} : ∀ (xs : List AV) {g g' : Gh} (_ : Later w g w' g') {us : List Value}, RdL w g xs us → RdL w' g' xs us
  | [], _, _, _, _, hr => hr
  | x :: xs, _, _, h, _, hr => by
    simp only [RdL] at hr ⊢
    obtain ⟨u, us', e, h1, h2⟩ := hr
    exact ⟨u, us', e, Rd.later x h h1, RdL.later xs h h2⟩
end

section
variable {w : World} {g : Gh}
theorem RdL.length : ∀ {xs : List AV} {us : List Value}, RdL w g xs us → us.length = xs.length
  | [], _, h => by simp only [RdL] at h; subst h; rfl
  | x :: xs, _, h => by
    simp only [RdL] at h
    obtain ⟨u, us', rfl, _, h2⟩ := h
    simp [RdL.length h2]
theorem RdL.get : ∀ {xs : List AV} {us : List Value}, RdL w g xs us → ∀ {i : Nat} {x : AV}, xs[i]? = some x → ∃ u, us[i]? = some u ∧ Rd w g x u
  | [], _, _, i, x, e => by simp at e
  | y :: xs, _, h, i, x, e => by
    simp only [RdL] at h
    obtain ⟨u, us', rfl, h1, h2⟩ := h
    cases i with
    | zero => simp at e; subst e; exact ⟨u, rfl, h1⟩
    | succ i => simp at e ⊢; exact RdL.get h2 e
theorem RdL.get' : ∀ {xs : List AV} {us : List Value}, RdL w g xs us → ∀ {i : Nat} {u : Value}, us[i]? = some u → ∃ x, xs[i]? = some x ∧ Rd w g x u
  | [], _, h, i, x, e => by simp only [RdL] at h; subst h; simp at e
  | y :: xs, _, h, i, x, e => by
    simp only [RdL] at h
    obtain ⟨u, us', rfl, h1, h2⟩ := h
    cases i with
    | zero => simp at e; subst e; exact ⟨y, rfl, h1⟩
    | succ i => simp at e ⊢; exact RdL.get' h2 e
theorem RdL.append : ∀ {xs ys : List AV} {us vs : List Value}, RdL w g xs us → RdL w g ys vs → RdL w g (xs ++ ys) (us ++ vs)
  | [], ys, us, vs, h, k => by simp only [RdL] at h; subst h; exact k
  | x :: xs, ys, us, vs, h, k => by
    simp only [RdL] at h
    obtain ⟨u, us', rfl, h1, h2⟩ := h
    simp only [List.cons_append, RdL]
    exact ⟨u, us' ++ vs, rfl, h1, RdL.append h2 k⟩
theorem RdL.take : ∀ (n : Nat) {xs : List AV} {us : List Value}, RdL w g xs us → RdL w g (xs.take n) (us.take n)
  | 0, _, _, _ => by simp [RdL]
  | n + 1, [], _, h => by simp only [RdL] at h; subst h; simp [RdL]
  | n + 1, x :: xs, _, h => by
    simp only [RdL] at h
    obtain ⟨u, us', rfl, h1, h2⟩ := h
    simp only [List.take_succ_cons, RdL]
    exact ⟨u, _, rfl, h1, RdL.take n h2⟩
theorem RdL.drop : ∀ (n : Nat) {xs : List AV} {us : List Value}, RdL w g xs us → RdL w g (xs.drop n) (us.drop n)
  | 0, _, _, h => h
  | n + 1, [], _, h => by simp only [RdL] at h; subst h; simp [RdL]
  | n + 1, x :: xs, _, h => by
    simp only [RdL] at h
    obtain ⟨u, us', rfl, h1, h2⟩ := h
    simp only [List.drop_succ_cons]
    exact RdL.drop n h2
theorem RdL.set : ∀ {xs : List AV} {us : List Value}, RdL w g xs us → ∀ (i : Nat) {x : AV} {u : Value}, Rd w g x u → RdL w g (xs.set i x) (us.set i u)
  | [], _, h, i, x, u, _ => by simp only [RdL] at h; subst h; simp [RdL]
  | y :: xs, _, h, i, x, u, k => by
    simp only [RdL] at h
    obtain ⟨v, us', rfl, h1, h2⟩ := h
    cases i with
    | zero => simp only [List.set_cons_zero, RdL]; exact ⟨u, us', rfl, k, h2⟩
    | succ i => simp only [List.set_cons_succ, RdL]; exact ⟨v, _, rfl, h1, RdL.set h2 i k⟩
theorem RdL.replicate (n : Nat) {x : AV} {u : Value} (h : Rd w g x u) : RdL w g (List.replicate n x) (List.replicate n u) := by
  induction n with
  | zero => simp [RdL]
  | succ n ih => simp only [List.replicate_succ, RdL]; exact ⟨u, _, rfl, h, ih⟩
theorem RdL.one {x : AV} {u : Value} (h : Rd w g x u) : RdL w g [x] [u] := by simp only [RdL]; exact ⟨u, [], rfl, h, rfl⟩

/-- A value's cells. -/
theorem Rd.cells {x : AV} {v : Value} (hx : x.okC = true) (h : Rd w g x v) : RdL w g x.cells v.cells.toList ∧ (∀ u ∈ v.cells.toList, u.oneCell' = true) := by
  cases x with
  | agg cs =>
    simp only [Rd] at h
    obtain ⟨vs, rfl, h1, h2⟩ := h
    exact ⟨h1, h2⟩
  | tup xs => simp [AV.okC] at hx
  | opq => simp [AV.okC] at hx
  | ref _ _ => simp [AV.okC] at hx
  | out _ _ _ => simp [AV.okC] at hx
  | rcv _ => simp [AV.okC] at hx
  | mp _ _ => simp [AV.okC] at hx
  | ins _ => simp [AV.okC] at hx
  | wr _ _ => simp [AV.okC] at hx
  | row _ _ _ _ => simp [AV.okC] at hx
  | lnd _ _ _ _ _ => simp [AV.okC] at hx
  | met _ => have h' := h; simp only [Rd] at h; subst h; exact ⟨RdL.one h', by simp [Value.cells, Value.oneCell']⟩
  | bfresh _ _ _ => have h' := h; simp only [Rd] at h; rw [h.1] at h' ⊢; exact ⟨RdL.one h', by simp [Value.cells, Value.oneCell']⟩
  | nilP => have h' := h; simp only [Rd] at h; subst h; exact ⟨RdL.one h', by simp [Value.cells, Value.oneCell']⟩
  | ifc =>
    have h' := h
    simp only [Rd] at h
    obtain ⟨t, p, rfl⟩ := h
    exact ⟨RdL.one h', by simp [Value.cells, Value.oneCell']⟩
  | clo f caps =>
    have h' := h
    simp only [Rd] at h
    obtain ⟨cv, rfl, _⟩ := h
    exact ⟨RdL.one h', by simp [Value.cells, Value.oneCell']⟩
  | own k ag s r n =>
    have h' := h
    simp only [Rd] at h
    obtain ⟨b, cap, _, _, rfl, _⟩ := h
    exact ⟨RdL.one h', by simp [Value.cells, Value.oneCell']⟩
  | int k n => have h' := h; simp only [Rd] at h; subst h; exact ⟨RdL.one h', by simp [Value.cells, Value.oneCell']⟩
  | bool b => have h' := h; simp only [Rd] at h; subst h; exact ⟨RdL.one h', by simp [Value.cells, Value.oneCell']⟩
  | str s => have h' := h; simp only [Rd] at h; subst h; exact ⟨RdL.one h', by simp [Value.cells, Value.oneCell']⟩
  | nilI => have h' := h; simp only [Rd] at h; subst h; exact ⟨RdL.one h', by simp [Value.cells, Value.oneCell']⟩
  | sl k xs p =>
    have h' := h
    simp only [Rd] at h
    obtain ⟨us, _, ⟨a, cap, rfl, _⟩, _⟩ := h
    exact ⟨RdL.one h', by simp [Value.cells, Value.oneCell']⟩
  | ptr s r o =>
    have h' := h
    simp only [Rd] at h
    obtain ⟨b, n, _, rfl⟩ := h
    exact ⟨RdL.one h', by simp [Value.cells, Value.oneCell']⟩
  | eptr cs =>
    have h' := h
    simp only [Rd] at h
    obtain ⟨b, o, us, rfl, _⟩ := h
    exact ⟨RdL.one h', by simp [Value.cells, Value.oneCell']⟩
theorem Rd.size {x : AV} {v : Value} (hx : x.okC = true) (h : Rd w g x v) : v.cells.size = x.cells.length := by
  have := (Rd.cells hx h).1.length
  simpa using this

/-- A value that is made of cells. -/
theorem Rd.mkv {ag : Bool} {cs : List AV} {us : List Value} {r : AV} (h : RdL w g cs us) (h1 : ∀ u ∈ us, u.oneCell' = true) (e : mkv ag cs = some r) :
    ∃ v, Rd w g r v ∧ v.cells.toList = us ∧ (ag = true → v = .agg us.toArray) ∧ (ag = false → us = [v]) := by
  cases ag with
  | true =>
    simp only [Rx.mkv, Option.some.injEq] at e
    subst e
    exact ⟨.agg us.toArray, by simp only [Rd]; exact ⟨us.toArray, rfl, by simpa using h, by simpa using h1⟩, by simp [Value.cells], fun _ => rfl, fun h => by simp at h⟩
  | false =>
    match cs, e with
    | [c], e =>
      simp only [Rx.mkv, Option.some.injEq] at e
      subst e
      simp only [RdL] at h
      obtain ⟨u, us', rfl, h2, h3⟩ := h
      subst h3
      refine ⟨u, h2, ?_, fun h => by simp at h, fun _ => rfl⟩
      have := h1 u (by simp)
      cases u <;> simp [Value.oneCell'] at this <;> simp [Value.cells]

/-- What is known without boxes and marks. -/
theorem Rd.pubC {x : AV} {v : Value} (h : Rd w g x v) : Rd w g.pub x.pubC v := by
  cases x with
  | sl k xs p =>
    simp only [Rd] at h
    obtain ⟨us, h1, h2, _⟩ := h
    simp only [AV.pubC, Rd]
    exact ⟨us, h1, h2, trivial⟩
  | int k n => exact h
  | bool b => exact h
  | str s => exact h
  | nilI => exact h
  | nilP => simp only [AV.pubC, Rd] at h ⊢; exact h
  | ifc => simp only [AV.pubC, Rd] at h ⊢; exact h
  | met f => simp only [AV.pubC, Rd] at h ⊢; exact h
  | _ => simp only [AV.pubC, Rd]
theorem RdL.pubC : ∀ {xs : List AV} {us : List Value}, RdL w g xs us → RdL w g.pub (xs.map AV.pubC) us
  | [], _, h => h
  | x :: xs, _, h => by
    simp only [RdL] at h
    obtain ⟨u, us', rfl, h1, h2⟩ := h
    simp only [List.map_cons, RdL]
    exact ⟨u, us', rfl, Rd.pubC h1, RdL.pubC h2⟩
theorem Rd.pub1 {x : AV} {v : Value} (h : Rd w g x v) : Rd w g.pub x.pub1 v := by
  cases x with
  | agg cs =>
    simp only [Rd] at h
    obtain ⟨vs, rfl, h1, h2⟩ := h
    simp only [AV.pub1, Rd]
    exact ⟨vs, rfl, RdL.pubC h1, h2⟩
  | _ => exact Rd.pubC h
theorem RdL.pub1 : ∀ {xs : List AV} {us : List Value}, RdL w g xs us → RdL w g.pub (xs.map AV.pub1) us
  | [], _, h => h
  | x :: xs, _, h => by
    simp only [RdL] at h
    obtain ⟨u, us', rfl, h1, h2⟩ := h
    simp only [List.map_cons, RdL]
    exact ⟨u, us', rfl, Rd.pub1 h1, RdL.pub1 h2⟩
theorem Rd.pub {x : AV} {v : Value} (h : Rd w g x v) : Rd w g.pub x.pub v := by
  cases x with
  | tup xs =>
    simp only [Rd] at h
    obtain ⟨vs, rfl, h1⟩ := h
    simp only [AV.pub, Rd]
    exact ⟨vs, rfl, RdL.pub1 h1⟩
  | _ => exact Rd.pub1 h
theorem RdL.pub : ∀ {xs : List AV} {us : List Value}, RdL w g xs us → RdL w g.pub (xs.map AV.pub) us
  | [], _, h => h
  | x :: xs, _, h => by
    simp only [RdL] at h
    obtain ⟨u, us', rfl, h1, h2⟩ := h
    simp only [List.map_cons, RdL]
    exact ⟨u, us', rfl, Rd.pub h1, RdL.pub h2⟩
end
/-- What is known anew may be more. -/
theorem Later.of_pub (w : World) (g : Gh) : Later w g.pub w g := ⟨fun _ _ _ => rfl, fun _ _ h => h, fun _ _ _ e => by simp [Gh.pub] at e, fun _ _ _ e => by simp [Gh.pub] at e, fun _ _ h => h⟩
end Go.Proofs.YtpkeiffclipjmaaGreatDoor.Rx
