/-
  Rx, part S: calls: what is handed over, what comes back.
-/
import Derived.Test.YtpkeiffclipjmaaGreatDoorRxQ4
import Derived.Test.YtpkeiffclipjmaaGreatDoorRxO2
import Derived.Orders
import Derived.Defers
namespace Go.Proofs.YtpkeiffclipjmaaGreatDoor.Rx
open Go Go.RowKit
set_option linter.unusedSimpArgs false

def pubG (pr : Nat → Nat → Prop) : Gh := ⟨pr, fun _ _ => none, fun _ _ => none⟩
theorem Gh.pub_eq (g : Gh) : g.pub = pubG g.pr := rfl
theorem Later.pubG {w : World} {pr pr' : Nat → Nat → Prop} (h : ∀ b o, pr b o → pr' b o) : Later w (pubG pr) w (pubG pr') := ⟨fun _ _ _ => rfl, h, fun _ _ _ e => by simp [Rx.pubG] at e, fun _ _ _ e => by simp [Rx.pubG] at e, fun _ _ h => h⟩

/-- The cells of a box lie in a block. -/
def Lies (w : World) (g : Gh) (cs : List AV) (b n : Nat) : Prop := ∃ us cur T, w.heap[b]? = some (.cells cur T (0, 0)) ∧ cur.size = n ∧ cur.toList.take us.length = us ∧ RdL w g cs us ∧ ∀ u ∈ us, u.oneCell' = true
theorem Lies.later {w : World} {g g' : Gh} {cs : List AV} {b n : Nat} (h : Lies w g cs b n) (hl : Later w g w g') : Lies w g' cs b n := by
  obtain ⟨us, cur, T, h1, h2, h3, h4, h5⟩ := h
  exact ⟨us, cur, T, h1, h2, h3, RdL.later cs hl h4, h5⟩

/-- What is handed over: values, and boxes. -/
def HandR (w : World) (pr : Nat → Nat → Prop) : List AV → List Value → List (Nat × Nat) → Prop
  | [], vs, bs => vs = [] ∧ bs = []
  | .ref o cs :: l, vs, bs => ∃ vs' b n bs', vs = .pointer (some ⟨b, o, none⟩) :: vs' ∧ bs = (b, n) :: bs' ∧ Lies w (pubG pr) cs b n ∧ deadC cs = false ∧ (∀ o, ¬ pr b o) ∧ (∀ m, (b, m) ∉ bs') ∧ HandR w pr l vs' bs'
  | .row k _ m cs :: l, vs, bs => ∃ vs' b n bs', (∃ cap, vs = .slice (some ⟨b, 0, none⟩) m cap :: vs' ∧ n = cap * k ∧ m ≤ cap ∧ cs.length = m * k) ∧ bs = (b, n) :: bs' ∧ Lies w (pubG pr) cs b n ∧ deadC cs = false ∧ (∀ o, ¬ pr b o) ∧ (∀ m, (b, m) ∉ bs') ∧ HandR w pr l vs' bs'
  | x :: l, vs, bs => ∃ v vs', vs = v :: vs' ∧ Rd w (pubG pr) x v ∧ HandR w pr l vs' bs
/-- What comes back of boxes. -/
def BackR (w : World) (pr : Nat → Nat → Prop) : List (List AV) → List (Nat × Nat) → Prop
  | [], [] => True
  | cs :: rs, (b, n) :: bs => Lies w (pubG pr) cs b n ∧ BackR w pr rs bs
  | _, _ => False
def inB (bs : List (Nat × Nat)) (k : Nat) : Prop := ∃ n, (k, n) ∈ bs
structure Aft (w w' : World) (pr pr' : Nat → Nat → Prop) (Y : Nat → Prop) : Prop where
  below : BelX Y w w'
  old : ∀ b o, pr b o → pr' b o
  prn : ∀ b o, pr' b o → pr b o ∨ w.heap.size ≤ b
  prlt : ∀ b o, pr' b o → b < w'.heap.size

/-- The program; what is so of its variables, in the blocks below B; what goes up in it. -/
structure Cx where
  P : Program
  G : World → Prop
  B : Nat
  od : Value → Prop
structure Cx.Fine (C : Cx) : Prop where
  base : ∀ w, C.G w → C.B ≤ w.heap.size
  keep : ∀ w w', C.G w → BelX (fun k => C.B ≤ k) w w' → C.G w'
theorem BelX.mono {X Y : Nat → Prop} {w w' : World} (h : BelX X w w') (hXY : ∀ k, X k → Y k) : BelX Y w w' := ⟨h.os, h.tape, h.output, h.size, fun k hk hy => h.block k hk (fun hx => hy (hXY k hx)), h.ty⟩

def Post (C : Cx) (w : World) (pr : Nat → Nat → Prop) (bs : List (Nat × Nat)) : AV → Ending → World → Prop
  | .out true _ rs, .panicked ch, w' => ∃ v, C.od v ∧ ch = [{ v := v, recovered := false }] ∧ ∃ pr', Aft w w' pr pr' (inB bs) ∧ BackR w' pr' rs bs
  | .out false r rs, .returned v, w' => ∃ pr', Aft w w' pr pr' (inB bs) ∧ Rd w' (pubG pr') r v ∧ BackR w' pr' rs bs
  | .out _ _ _, _, _ => False
  | r, .returned v, w' => ∃ pr', Aft w w' pr pr' (inB bs) ∧ Rd w' (pubG pr') r v
  | _, _, _ => False
def Enters (P : Program) (f : Nat) : Prop := ∃ fn, P.funcs[f]? = some fn ∧ fn.body.isSome = true ∧ (fn.name != "runtime.NumGoroutine") = true
def SaysCall (C : Cx) (f : Nat) (args : List AV) (r : AV) : Prop :=
  Enters C.P f ∧ ∀ (w : World) (pr : Nat → Nat → Prop) (vals : List Value) (bs : List (Nat × Nat)), C.G w → (∀ b o, pr b o → b < w.heap.size) → (∀ b n, (b, n) ∈ bs → C.B ≤ b) → HandR w pr args vals bs →
    Calls C.P f vals.toArray w (Post C w pr bs r)
def SaysRcv (C : Cx) (f : Nat) (args : List AV) (rs : List (List AV)) : Prop :=
  match args with
  | .bool pan :: l => Enters C.P f ∧ ∀ (w : World) (pr : Nat → Nat → Prop) (vals : List Value) (bs : List (Nat × Nat)) (u : FrameMode), C.G w → (∀ b o, pr b o → b < w.heap.size) → (∀ b n, (b, n) ∈ bs → C.B ≤ b) → HandR w pr l vals bs →
      (pan = true → ∃ v, C.od v ∧ u = .panicking [{ v := v, recovered := false }]) → (pan = false → u = .returning) →
        CallsD C.P f vals.toArray u w fun e u' w' => ∃ v, e = .returned v ∧ settle u' = .returning ∧ ∃ pr', Aft w w' pr pr' (inB bs) ∧ BackR w' pr' rs bs
  | _ => False
/-- slices.Insert, into a row of the call's own. -/
def SaysIns (C : Cx) (f : Nat) (args : List AV) (xs' : List AV) : Prop :=
  match args with
  | [.sl k xs .no, i, y] => Enters C.P f ∧ ∀ (w : World) (pr : Nat → Nat → Prop) (b n cap : Nat) (iv yv : Value), C.G w → (∀ b o, pr b o → b < w.heap.size) → C.B ≤ b → (∀ o, ¬ pr b o) → n = xs.length → n ≤ cap →
      Lies w (pubG pr) (xs.flatMap AV.cells) b (cap * k) → Rd w (pubG pr) i iv → Rd w (pubG pr) y yv →
        Calls C.P f #[.slice (some ⟨b, 0, none⟩) n cap, iv, yv] w fun e w' => ∃ b' cap' pr', e = .returned (.slice (some ⟨b', 0, none⟩) xs'.length cap') ∧ Aft w w' pr pr' (fun k => k = b) ∧ (b' = b ∨ w.heap.size ≤ b') ∧ xs'.length ≤ cap' ∧
          Lies w' (pubG pr') (xs'.flatMap AV.cells) b' (cap' * k) ∧ ∀ o, ¬ pr' b' o
  | [.sl k [] .nil, i, y] => Enters C.P f ∧ ∀ (w : World) (pr : Nat → Nat → Prop) (iv yv : Value), C.G w → (∀ b o, pr b o → b < w.heap.size) → Rd w (pubG pr) i iv → Rd w (pubG pr) y yv →
        Calls C.P f #[.slice none 0 0, iv, yv] w fun e w' => ∃ b' cap' pr', e = .returned (.slice (some ⟨b', 0, none⟩) xs'.length cap') ∧ Aft w w' pr pr' (fun _ => False) ∧ w.heap.size ≤ b' ∧ xs'.length ≤ cap' ∧
          Lies w' (pubG pr') (xs'.flatMap AV.cells) b' (cap' * k) ∧ ∀ o, ¬ pr' b' o
  | _ => False
/-- What a builder has: bytes in a row, or none. -/
def BufR (w : World) (b : Nat) (bs : List UInt8) (buf : Value) (t : Option Nat) : Prop :=
  (t = none ∧ bs = [] ∧ buf = .slice none 0 0) ∨ ∃ t' n cap cur, t = some t' ∧ t' ≠ b ∧ buf = .slice (some ⟨t', 0, none⟩) n cap ∧ n = bs.length ∧ n ≤ cap ∧ w.heap[t']? = some (.cells cur byteT (0, 0)) ∧ cur.size = cap ∧
    cur.toList.take n = bs.map fun c => Value.int .u8 c.toNat
def Cells2 (w : World) (b n : Nat) (T : TypeId) (x y : Value) : Prop := ∃ cur, w.heap[b]? = some (.cells cur T (0, 0)) ∧ cur.size = n ∧ cur.toList.take 2 = [x, y]
structure WrAt (C : Cx) (Tb : TypeId) (w : World) (pr : Nat → Nat → Prop) (b n : Nat) (a0 buf : Value) (T : TypeId) (t : Option Nat) (l : List UInt8) : Prop where
  hg : C.G w
  hpr : ∀ b o, pr b o → b < w.heap.size
  hb : C.B ≤ b
  ht : ∀ t', t = some t' → C.B ≤ t'
  nb : ∀ o, ¬ pr b o
  nt : ∀ t' o, t = some t' → ¬ pr t' o
  cells : Cells2 w b n T a0 buf
  self : (a0 = .pointer none ∧ T = Tb ∧ n = 2) ∨ a0 = .pointer (some ⟨b, 0, none⟩)
  hbuf : BufR w b l buf t
def SaysWr (C : Cx) (Tb : TypeId) (f : Nat) (args : List AV) (bs : List UInt8) : Prop :=
  Enters C.P f ∧ ∀ (w : World) (pr : Nat → Nat → Prop) (b n : Nat) (a0 buf : Value) (T : TypeId) (t : Option Nat) (l : List UInt8) (vals : List Value), WrAt C Tb w pr b n a0 buf T t l → l.length + bs.length ≤ 140737488355328 → RdL w (pubG pr) args vals →
      Calls C.P f (.pointer (some ⟨b, 0, none⟩) :: vals).toArray w fun e w' => ∃ v buf' t' pr', e = .returned v ∧ Aft w w' pr pr' (fun k => k = b ∨ t = some k) ∧ Cells2 w' b n T (.pointer (some ⟨b, 0, none⟩)) buf' ∧ BufR w' b (l ++ bs) buf' t' ∧
        (∀ k, t' = some k → t = some k ∨ w.heap.size ≤ k) ∧ (∀ k o, t' = some k → ¬ pr' k o) ∧ (t' = none ↔ t = none ∧ bs = [])
def SaysStr (C : Cx) (Tb : TypeId) (f : Nat) : Prop :=
  Enters C.P f ∧ ∀ (w : World) (pr : Nat → Nat → Prop) (b n : Nat) (a0 buf : Value) (T : TypeId) (t : Option Nat) (l : List UInt8), WrAt C Tb w pr b n a0 buf T t l → l.length ≤ 140737488355328 →
      Calls C.P f #[.pointer (some ⟨b, 0, none⟩)] w fun e w' => ∃ pr', e = .returned (.string ⟨l.toArray⟩) ∧ Aft w w' pr pr' (fun k => t = some k)
/-- What D says of a function is so of the program's. -/
def Says (C : Cx) (f : Nat) (args : List AV) (r : AV) : Prop :=
  match r with
  | .rcv rs => SaysRcv C f args rs
  | .ins xs => SaysIns C f args xs
  | .wr Tb bs => match args with
    | [] => bs = [] ∧ ∀ T, SaysStr C T f
    | _ => SaysWr C Tb f args bs
  | r => SaysCall C f args r
def Sound (C : Cx) (D : Fun) : Prop := ∀ f args r, D f args = some r → Says C f args r

section
variable {X : Nat → Prop} {w0 w : World} {pr0 : Nat → Nat → Prop} {bx : Bx} {pm : Pm} {g : Gh}

abbrev Ts := List (Nat × Nat × Option Nat)
def pubs : Ts → List (Nat × Nat × List AV)
  | [] => []
  | (s, v, none) :: ts => (s, v, gone) :: pubs ts
  | (_, _, some _) :: ts => pubs ts
def bsOf (gb : Nat → Nat → Option (Nat × Nat)) : Ts → List (Nat × Nat)
  | [] => []
  | (s, v, some _) :: ts => (gb s v).toList ++ bsOf gb ts
  | (_, _, none) :: ts => bsOf gb ts

theorem updL_get {α : Type} : ∀ (l : List (Nat × α)) (f : Nat → Option α), l.Pairwise (fun x y => x.1 ≠ y.1) → ∀ x ∈ l, updL f l x.1 = some x.2
  | [], _, _, x, hx => by simp at hx
  | y :: l, f, hp, x, hx => by
    obtain ⟨h1, h2⟩ := List.pairwise_cons.1 hp
    simp only [updL]
    rcases List.mem_cons.1 hx with rfl | hx
    · rw [updL_ne l _ _ (fun z hz => (h1 z hz).symm)]
      exact upd_same _ _ _
    · exact updL_get l _ h2 x hx

theorem passL_nodup {b : Bx} : ∀ {l l' : List AV} {ts : Ts}, passL b l = some (l', ts) → ts.Pairwise fun t u => t.1 ≠ u.1
  | [], l', ts, h => by simp only [passL, Option.some.injEq, Prod.mk.injEq] at h; obtain ⟨_, rfl⟩ := h; exact .nil
  | x :: l, l', ts, h => by
    simp only [passL] at h
    split at h
    · rename_i y t l2 ts2 h1 h2
      split at h
      · rename_i hd
        simp only [Option.some.injEq, Prod.mk.injEq] at h
        obtain ⟨_, rfl⟩ := h
        refine List.pairwise_append.2 ⟨?_, passL_nodup h2, fun a ha b hb => ?_⟩
        · unfold pass1 at h1
          split at h1
          · split at h1
            · split at h1
              · simp only [Option.some.injEq, Prod.mk.injEq] at h1; obtain ⟨_, rfl⟩ := h1; simp
              · simp at h1
            · simp at h1
          · split at h1
            · split at h1
              · obtain ⟨_, _, h1⟩ := Option.map_eq_some_iff.1 h1
                simp only [Prod.mk.injEq] at h1; obtain ⟨_, rfl⟩ := h1; simp
              · simp at h1
            · simp at h1
          · split at h1
            · split at h1
              · simp only [Option.some.injEq, Prod.mk.injEq] at h1; obtain ⟨_, rfl⟩ := h1; simp
              · simp at h1
            · simp at h1
          · simp only [Option.some.injEq, Prod.mk.injEq] at h1; obtain ⟨_, rfl⟩ := h1; simp
        · have := List.all_eq_true.1 (List.all_eq_true.1 hd a ha) b hb
          simpa using this
      · simp at h
    · simp at h

theorem pubs_mem : ∀ {ts : Ts} {x}, x ∈ pubs ts → (x.1, x.2.1, none) ∈ ts ∧ x.2.2 = gone
  | [], x, h => by simp [pubs] at h
  | (s, v, none) :: ts, x, h => by
    simp only [pubs] at h
    rcases List.mem_cons.1 h with rfl | h
    · simp
    · obtain ⟨h1, h2⟩ := pubs_mem h
      exact ⟨by simp [h1], h2⟩
  | (s, v, some n) :: ts, x, h => by
    simp only [pubs] at h
    obtain ⟨h1, h2⟩ := pubs_mem h
    exact ⟨by simp [h1], h2⟩

/-- Elements that are made known. -/
theorem mkp_rd {w : World} {g : Gh} {ag : Bool} {cs : List AV} {us : List Value} {x : AV} (h : mkp ag cs = some x) (hr : RdL w g cs us) (h1 : ∀ u ∈ us, u.oneCell' = true) : ∃ v, Rd w g.pub x v ∧ v.cells.toList = us ∧ x.cells = cs.map .pubC := by
  cases ag with
  | true =>
    simp only [mkp, Option.some.injEq] at h
    subst h
    exact ⟨.agg us.toArray, by simp only [Rd]; exact ⟨_, rfl, by simpa using RdL.pubC hr, by simpa using h1⟩, by simp [Value.cells], rfl⟩
  | false =>
    match cs, h with
    | [c], h =>
      simp only [mkp, Option.some.injEq] at h
      subst h
      simp only [RdL] at hr
      obtain ⟨u, us', rfl, h2, h3⟩ := hr
      subst h3
      refine ⟨u, Rd.pubC h2, ?_, by cases c <;> rfl⟩
      have := h1 u (by simp)
      cases u <;> simp [Value.oneCell'] at this <;> simp [Value.cells]
theorem chunks_rd {w : World} {g : Gh} {k : Nat} {ag : Bool} : ∀ {n : Nat} {cs : List AV} {us : List Value} {xs : List AV}, chunks k ag n cs = some xs → cs.length = n * k → RdL w g cs us → (∀ u ∈ us, u.oneCell' = true) →
    xs.length = n ∧ xs.flatMap AV.cells = cs.map .pubC ∧ ∃ vs, RdL w g.pub xs vs ∧ vs.length = n ∧ (∀ v ∈ vs, v.cells.size = k) ∧ flatV vs = us
  | 0, cs, us, xs, h, hl, hr, _ => by
    simp only [chunks, Option.some.injEq] at h
    subst h
    have : cs = [] := List.eq_nil_of_length_eq_zero (by omega)
    subst this
    simp only [RdL] at hr
    subst hr
    exact ⟨rfl, rfl, [], by simp [RdL], rfl, by simp, rfl⟩
  | n + 1, cs, us, xs, h, hl, hr, h1 => by
    simp only [chunks] at h
    split at h
    · rename_i x l hx hl2
      simp only [Option.some.injEq] at h
      subst h
      rw [Nat.add_mul, Nat.one_mul] at hl
      have hus := hr.length
      obtain ⟨v, hv, hvc, hxc⟩ := mkp_rd hx (hr.take k) (fun u hu => h1 u (List.mem_of_mem_take hu))
      obtain ⟨e1, e2, vs, e3, e4, e5, e6⟩ := chunks_rd hl2 (by rw [List.length_drop]; omega) (hr.drop k) (fun u hu => h1 u (List.mem_of_mem_drop hu))
      refine ⟨by simp [e1], ?_, v :: vs, by simp only [RdL]; exact ⟨v, vs, rfl, hv, e3⟩, by simp [e4], ?_, ?_⟩
      · rw [List.flatMap_cons, hxc, e2, ← List.map_append, List.take_append_drop]
      · intro u hu
        rcases List.mem_cons.1 hu with rfl | hu
        · have := congrArg List.length hvc
          simp only [Array.length_toList, List.length_take] at this
          omega
        · exact e5 u hu
      · simp only [flatV, List.flatMap_cons] at e6 ⊢
        rw [e6, hvc, List.take_append_drop]
    · simp at h

/-- A row of the call's own, made known, as a slice. -/
theorem publish_rd (hM : Mem X w0 pr0 bx pm w g) {k : Nat} {ag : Bool} {s v n : Nat} {cs xs : List AV} {val : Value} (hd : bx s = some (v, cs)) (hdd : deadC cs = false) (hlt : s < handed) (hl : cs.length = n * k) (hx : chunks k ag n cs = some xs)
    (hr : Rd w g (.own k ag s v n) val) : ∃ Q, Mem X w0 pr0 (upd bx s (v, gone)) pm w (g.more Q) ∧ Later w g w (g.more Q) ∧ Rd w (pubG (g.more Q).pr) (.sl k xs .no) val := by
  simp only [Rd] at hr
  obtain ⟨b, cap, hb, hle, rfl, _⟩ := hr
  obtain ⟨b', n', us, cur, T, k1, k2, kn, kf, k3, k4⟩ := hM.box s v cs hd hdd
  rw [hb] at k1
  simp only [Option.some.injEq, Prod.mk.injEq] at k1
  obtain ⟨rfl, rfl⟩ := k1
  obtain ⟨m1, m2⟩ := hM.publish hd hdd hlt hb (n * k)
  obtain ⟨e1, e2, vs, e3, e4, e5, e6⟩ := chunks_rd hx hl k3 k4
  refine ⟨_, m1, m2, ?_⟩
  simp only [Rd]
  refine ⟨vs, RdL.later xs m2.pub e3, ⟨some ⟨b, 0, none⟩, cap, by rw [e4], by omega, e5, by rw [e6]; exact k4, fun _ => ⟨b, 0, rfl, fun j c hj => ?_⟩⟩, trivial⟩
  have hlt2 : j < n * k := by
    have h5 := (List.getElem?_eq_some_iff.1 hj).1
    rw [flatV_length vs e5, e4] at h5
    exact h5
  refine ⟨?_, .inr ⟨rfl, by omega⟩⟩
  rw [Nat.zero_add, cell_of_row w b j cur T (0, 0) k2]
  rw [e6] at hj
  exact front_get kf hj

def PassR (w : World) (pr : Nat → Nat → Prop) (bx : Bx) (gb : Nat → Nat → Option (Nat × Nat)) : List AV → List Value → Ts → Prop
  | [], vs, ts => vs = [] ∧ ts = []
  | .ref o cs' :: l, vs, ts => ∃ vs' b n s v cs ts', vs = .pointer (some ⟨b, o, none⟩) :: vs' ∧ ts = (s, v, some cs.length) :: ts' ∧ bx s = some (v, cs) ∧ deadC cs = false ∧ cs' = cs.map .pubC ∧ gb s v = some (b, n) ∧ PassR w pr bx gb l vs' ts'
  | .row k _ m cs' :: l, vs, ts => ∃ vs' b n s v cs ts', (∃ cap, vs = .slice (some ⟨b, 0, none⟩) m cap :: vs' ∧ n = cap * k ∧ m ≤ cap ∧ cs'.length = m * k) ∧ ts = (s, v, some cs.length) :: ts' ∧ bx s = some (v, cs) ∧ deadC cs = false ∧ cs' = cs.map .pubC ∧ gb s v = some (b, n) ∧ PassR w pr bx gb l vs' ts'
  | x :: l, vs, ts => ∃ v vs', vs = v :: vs' ∧ Rd w (pubG pr) x v ∧ ((PassR w pr bx gb l vs' ts) ∨ ∃ s r ts' cs, ts = (s, r, none) :: ts' ∧ bx s = some (r, cs) ∧ PassR w pr bx gb l vs' ts')
theorem PassR.mono {w : World} {pr pr' : Nat → Nat → Prop} {gb} (h : ∀ b o, pr b o → pr' b o) : ∀ {l : List AV} {vs : List Value} {ts : Ts}, PassR w pr bx gb l vs ts → PassR w pr' bx gb l vs ts
  | [], _, _, k => k
  | x :: l, vs, ts, k => by
    cases x with
    | ref o cs' =>
      simp only [PassR] at k ⊢
      obtain ⟨vs', b, n, s, v, cs, ts', e1, e2, e3, e4, e5, e6, k⟩ := k
      exact ⟨vs', b, n, s, v, cs, ts', e1, e2, e3, e4, e5, e6, PassR.mono h k⟩
    | row kk ag m cs' =>
      simp only [PassR] at k ⊢
      obtain ⟨vs', b, n, s, v, cs, ts', e1, e2, e3, e4, e5, e6, k⟩ := k
      exact ⟨vs', b, n, s, v, cs, ts', e1, e2, e3, e4, e5, e6, PassR.mono h k⟩
    | _ =>
      simp only [PassR] at k ⊢
      obtain ⟨v, vs', e1, e2, k⟩ := k
      refine ⟨v, vs', e1, Rd.later _ (Later.pubG h) e2, ?_⟩
      rcases k with k | ⟨s, r, ts', cs, e3, e4, k⟩
      · exact .inl (PassR.mono h k)
      · exact .inr ⟨s, r, ts', cs, e3, e4, PassR.mono h k⟩

theorem pass_plain {x : AV} (h1 : ∀ s v o, x ≠ .ptr s v o) (h2 : ∀ k ag s v n, x ≠ .own k ag s v n) (h3 : ∀ k ag s v n, x ≠ .lnd k ag s v n) (b : Bx) : pass1 b x = some (x.pub, []) := by
  cases x <;> first | rfl | exact absurd rfl (h1 _ _ _) | exact absurd rfl (h2 _ _ _ _ _) | exact absurd rfl (h3 _ _ _ _ _)
theorem pub_noref {x : AV} : ∀ o cs, x.pub ≠ .ref o cs := by
  intro o cs
  cases x <;> simp [AV.pub, AV.pub1, AV.pubC]
theorem pub_norow {x : AV} : ∀ k ag n cs, x.pub ≠ .row k ag n cs := by
  intro k ag n cs
  cases x <;> simp [AV.pub, AV.pub1, AV.pubC]
theorem PassR.cons {w : World} {pr : Nat → Nat → Prop} {gb} {x : AV} (hx : ∀ o cs, x ≠ .ref o cs) (hx2 : ∀ k ag n cs, x ≠ .row k ag n cs) {v : Value} {l : List AV} {vs : List Value} {ts : Ts} (hr : Rd w (pubG pr) x v)
    (k : (PassR w pr bx gb l vs ts) ∨ ∃ s r ts' cs, ts = (s, r, none) :: ts' ∧ bx s = some (r, cs) ∧ PassR w pr bx gb l vs ts') : PassR w pr bx gb (x :: l) (v :: vs) ts := by
  cases x <;> first | exact absurd rfl (hx _ _) | exact absurd rfl (hx2 _ _ _ _) | (simp only [PassR]; exact ⟨v, vs, rfl, hr, k⟩)

theorem pass_ok : ∀ {l l' : List AV} {vals : List Value} {ts : Ts}, Mem X w0 pr0 bx pm w g → passL bx l = some (l', ts) → RdL w g l vals →
    ∃ Q, Mem X w0 pr0 (updL bx (pubs ts)) pm w (g.more Q) ∧ Later w g w (g.more Q) ∧ PassR w (g.more Q).pr bx g.bx l' vals ts
  | [], l', vals, ts, hM, h, hr => by
    simp only [passL, Option.some.injEq, Prod.mk.injEq] at h
    obtain ⟨rfl, rfl⟩ := h
    simp only [RdL] at hr
    subst hr
    refine ⟨fun _ _ => False, hM.more _ (fun _ _ h => h.elim) (fun _ _ h => h.elim) (fun _ _ h => h.elim), Later.more w g _, rfl, rfl⟩
  | x :: l, l', vals, ts, hM, h, hr => by
    have hnd := passL_nodup h
    simp only [passL] at h
    split at h
    · rename_i y t l2 ts2 h1 h2
      split at h
      · simp only [Option.some.injEq, Prod.mk.injEq] at h
        obtain ⟨rfl, rfl⟩ := h
        simp only [RdL] at hr
        obtain ⟨u, us, rfl, hu, hus⟩ := hr
        obtain ⟨Q, m, q, hp⟩ := pass_ok hM h2 hus
        by_cases hptr : ∃ s v o, x = .ptr s v o
        · obtain ⟨s, v, o, rfl⟩ := hptr
          simp only [pass1] at h1
          split at h1
          · rename_i v' cs hbs
            split at h1
            · rename_i hc
              obtain ⟨rfl, hdd⟩ := hc
              simp only [Option.some.injEq, Prod.mk.injEq] at h1
              obtain ⟨rfl, rfl⟩ := h1
              simp only [Rd] at hu
              obtain ⟨b, n, hb, rfl⟩ := hu
              refine ⟨Q, m, q, ?_⟩
              simp only [PassR, List.cons_append, List.nil_append]
              exact ⟨us, b, n, s, v', cs, ts2, rfl, rfl, hbs, hdd, rfl, hb, hp⟩
            · simp at h1
          · simp at h1
        · by_cases hown : ∃ k ag s v n, x = .own k ag s v n
          · obtain ⟨k, ag, s, v, n, rfl⟩ := hown
            simp only [pass1] at h1
            split at h1
            · rename_i v' cs hbs
              split at h1
              · rename_i hc
                obtain ⟨rfl, hdd, hl, hk0, hlt⟩ := hc
                obtain ⟨xs, hxs, h1⟩ := Option.map_eq_some_iff.1 h1
                simp only [Prod.mk.injEq] at h1
                obtain ⟨rfl, rfl⟩ := h1
                have hs : updL bx (pubs ts2) s = some (v', cs) := by
                  rw [updL_ne _ _ _ (fun z hz e => ?_)]
                  · exact hbs
                  · obtain ⟨hz1, _⟩ := pubs_mem hz
                    exact (List.pairwise_cons.1 hnd).1 _ hz1 e.symm
                obtain ⟨Q2, m2, q2, hrd⟩ := publish_rd m hs hdd hlt hl hxs (Rd.later _ q hu)
                have hmono : ∀ b o, (g.more Q).pr b o → ((g.more Q).more Q2).pr b o := fun b o h => .inl h
                have hcomm : updL bx (pubs ([(s, v', none)] ++ ts2)) = upd (updL bx (pubs ts2)) s (v', gone) := by
                  simp only [List.cons_append, List.nil_append, pubs, updL]
                  have := updL_comm [(s, v', gone)] (pubs ts2) bx (fun x hx y hy e => by
                    simp only [List.mem_singleton] at hx
                    subst hx
                    obtain ⟨hz1, _⟩ := pubs_mem hy
                    exact (List.pairwise_cons.1 hnd).1 _ hz1 e)
                  simpa [updL] using this
                have hg : (g.more Q).more Q2 = g.more (fun b o => Q b o ∨ Q2 b o) := by
                  simp only [Gh.more, Gh.mk.injEq, and_self, and_true]
                  funext b o
                  exact propext or_assoc
                rw [hg] at m2 hrd hmono
                refine ⟨fun b o => Q b o ∨ Q2 b o, by rw [hcomm]; exact m2, Later.more w g _, ?_⟩
                exact PassR.cons (by simp) (by simp) hrd (.inr ⟨s, v', ts2, cs, rfl, hbs, hp.mono hmono⟩)
              · simp at h1
            · simp at h1
          · by_cases hlnd : ∃ k ag s v n, x = .lnd k ag s v n
            · obtain ⟨k, ag, s, v, n, rfl⟩ := hlnd
              simp only [pass1] at h1
              split at h1
              · rename_i v' cs hbs
                split at h1
                · rename_i hc
                  obtain ⟨rfl, hdd, hl⟩ := hc
                  simp only [Option.some.injEq, Prod.mk.injEq] at h1
                  obtain ⟨rfl, rfl⟩ := h1
                  simp only [Rd] at hu
                  obtain ⟨b, cap, hb, hle, rfl⟩ := hu
                  refine ⟨Q, m, q, ?_⟩
                  simp only [PassR, List.cons_append, List.nil_append]
                  exact ⟨us, b, _, s, v', cs, ts2, ⟨cap, rfl, rfl, hle, by simpa using hl⟩, rfl, hbs, hdd, rfl, hb, hp⟩
                · simp at h1
              · simp at h1
            · rw [pass_plain (fun s v o e => hptr ⟨s, v, o, e⟩) (fun k ag s v n e => hown ⟨k, ag, s, v, n, e⟩) (fun k ag s v n e => hlnd ⟨k, ag, s, v, n, e⟩)] at h1
              simp only [Option.some.injEq, Prod.mk.injEq] at h1
              obtain ⟨rfl, rfl⟩ := h1
              exact ⟨Q, m, q, PassR.cons pub_noref pub_norow (Rd.later _ q.pub (Rd.pub hu)) (.inl hp)⟩
      · simp at h
    · simp at h

theorem PassR.ref_mem {w : World} {pr : Nat → Nat → Prop} {gb} : ∀ {l : List AV} {vs : List Value} {ts : Ts}, PassR w pr bx gb l vs ts → ∀ s v m, (s, v, m) ∈ ts → ∃ cs, bx s = some (v, cs) ∧ ∀ n, m = some n → deadC cs = false ∧ ∃ b k, gb s v = some (b, k) ∧ (b, k) ∈ bsOf gb ts
  | [], vs, ts, h, s, v, m, hm => by simp only [PassR] at h; rw [h.2] at hm; simp at hm
  | x :: l, vs, ts, h, s, v, m, hm => by
    cases x with
    | ref o cs' =>
      simp only [PassR] at h
      obtain ⟨vs', b, n, s', v', cs, ts', e1, rfl, e3, e4, e5, e6, k⟩ := h
      rcases List.mem_cons.1 hm with e | hm
      · simp only [Prod.mk.injEq] at e
        obtain ⟨rfl, rfl, rfl⟩ := e
        exact ⟨cs, e3, fun _ _ => ⟨e4, b, n, e6, by simp [bsOf, e6]⟩⟩
      · obtain ⟨cs, h1, h2⟩ := PassR.ref_mem k s v m hm
        refine ⟨cs, h1, fun n hn => ?_⟩
        obtain ⟨h3, b', k', h4, h5⟩ := h2 n hn
        exact ⟨h3, b', k', h4, by simp [bsOf, h5]⟩
    | row kk ag mm cs' =>
      simp only [PassR] at h
      obtain ⟨vs', b, n, s', v', cs, ts', e1, rfl, e3, e4, e5, e6, k⟩ := h
      rcases List.mem_cons.1 hm with e | hm
      · simp only [Prod.mk.injEq] at e
        obtain ⟨rfl, rfl, rfl⟩ := e
        exact ⟨cs, e3, fun _ _ => ⟨e4, b, n, e6, by simp [bsOf, e6]⟩⟩
      · obtain ⟨cs, h1, h2⟩ := PassR.ref_mem k s v m hm
        refine ⟨cs, h1, fun n hn => ?_⟩
        obtain ⟨h3, b', k', h4, h5⟩ := h2 n hn
        exact ⟨h3, b', k', h4, by simp [bsOf, h5]⟩
    | _ =>
      simp only [PassR] at h
      obtain ⟨u, vs', e1, e2, k⟩ := h
      rcases k with k | ⟨s', r, ts', cs, rfl, e4, k⟩
      · exact PassR.ref_mem k s v m hm
      · rcases List.mem_cons.1 hm with e | hm
        · simp only [Prod.mk.injEq] at e
          obtain ⟨rfl, rfl, rfl⟩ := e
          exact ⟨cs, e4, fun _ e => by simp at e⟩
        · obtain ⟨cs, h1, h2⟩ := PassR.ref_mem k s v m hm
          refine ⟨cs, h1, fun n hn => ?_⟩
          obtain ⟨h3, b', k', h4, h5⟩ := h2 n hn
          exact ⟨h3, b', k', h4, by simp [bsOf, h5]⟩
theorem bsOf_mem {gb : Nat → Nat → Option (Nat × Nat)} : ∀ {ts : Ts} {x}, x ∈ bsOf gb ts → ∃ s v n, (s, v, some n) ∈ ts ∧ gb s v = some x
  | [], x, h => by simp [bsOf] at h
  | (s, v, none) :: ts, x, h => by
    simp only [bsOf] at h
    obtain ⟨s', v', n, h1, h2⟩ := bsOf_mem h
    exact ⟨s', v', n, by simp [h1], h2⟩
  | (s, v, some n) :: ts, x, h => by
    simp only [bsOf] at h
    rcases List.mem_append.1 h with h | h
    · exact ⟨s, v, n, by simp, by simpa using h⟩
    · obtain ⟨s', v', n, h1, h2⟩ := bsOf_mem h
      exact ⟨s', v', n, by simp [h1], h2⟩

/-- What is handed over stands as a call's arguments do. -/
theorem pass_hand {bx' : Bx} (hM : Mem X w0 pr0 bx' pm w g) : ∀ {l : List AV} {vs : List Value} {ts : Ts}, PassR w g.pr bx g.bx l vs ts → (ts.Pairwise fun t u => t.1 ≠ u.1) → (∀ s v n, (s, v, some n) ∈ ts → bx' s = bx s) → HandR w g.pr l vs (bsOf g.bx ts)
  | [], vs, ts, h, _, _ => by simp only [PassR] at h; obtain ⟨rfl, rfl⟩ := h; simp [HandR, bsOf]
  | x :: l, vs, ts, h, hnd, hbx => by
    cases x with
    | ref o cs' =>
      simp only [PassR] at h
      obtain ⟨vs', b, n, s', v', cs, ts', rfl, rfl, e3, e4, rfl, e6, k⟩ := h
      obtain ⟨hn1, hn2⟩ := List.pairwise_cons.1 hnd
      have hs : bx' s' = some (v', cs) := by rw [hbx s' v' cs.length (by simp)]; exact e3
      have hLB : LB bx' g s' b n := ⟨v', cs, hs, e4, e6⟩
      obtain ⟨b', n', us, cur, T, k1, k2, kn, kf, k3, k4⟩ := hM.box s' v' cs hs e4
      rw [e6] at k1
      simp only [Option.some.injEq, Prod.mk.injEq] at k1
      obtain ⟨rfl, rfl⟩ := k1
      have hdp : deadC (cs.map AV.pubC) = false := by
        cases cs with
        | nil => rfl
        | cons c cs => cases cs with
          | nil => cases c <;> first | rfl | simp [deadC] at e4
          | cons => simp [deadC]
      simp only [HandR, bsOf, e6, Option.toList_some, List.cons_append, List.nil_append]
      refine ⟨vs', b, n, _, rfl, rfl, ⟨us, cur, T, k2, kn, kf, RdL.pubC k3, k4⟩, hdp, (hM.bxb s' b n hLB).2.2, fun m hm => ?_, pass_hand hM k hn2 (fun s v n h => hbx s v n (by simp [h]))⟩
      obtain ⟨s2, v2, n2, h1, h2⟩ := bsOf_mem hm
      obtain ⟨cs2, h3, h4⟩ := k.ref_mem s2 v2 _ h1
      obtain ⟨h5, _⟩ := h4 n2 rfl
      exact hn1 _ h1 (hM.bxi s' s2 b n m hLB ⟨v2, cs2, by rw [hbx s2 v2 n2 (by simp [h1])]; exact h3, h5, h2⟩)
    | row kk ag mm cs' =>
      simp only [PassR] at h
      obtain ⟨vs', b, n, s', v', cs, ts', e1, rfl, e3, e4, rfl, e6, k⟩ := h
      obtain ⟨hn1, hn2⟩ := List.pairwise_cons.1 hnd
      have hs : bx' s' = some (v', cs) := by rw [hbx s' v' cs.length (by simp)]; exact e3
      have hLB : LB bx' g s' b n := ⟨v', cs, hs, e4, e6⟩
      obtain ⟨b', n', us, cur, T, k1, k2, kn, kf, k3, k4⟩ := hM.box s' v' cs hs e4
      rw [e6] at k1
      simp only [Option.some.injEq, Prod.mk.injEq] at k1
      obtain ⟨rfl, rfl⟩ := k1
      have hdp : deadC (cs.map AV.pubC) = false := by
        cases cs with
        | nil => rfl
        | cons c cs => cases cs with
          | nil => cases c <;> first | rfl | simp [deadC] at e4
          | cons => simp [deadC]
      simp only [HandR, bsOf, e6, Option.toList_some, List.cons_append, List.nil_append]
      refine ⟨vs', b, n, _, e1, rfl, ⟨us, cur, T, k2, kn, kf, RdL.pubC k3, k4⟩, hdp, (hM.bxb s' b n hLB).2.2, fun m hm => ?_, pass_hand hM k hn2 (fun s v n h => hbx s v n (by simp [h]))⟩
      obtain ⟨s2, v2, n2, h1, h2⟩ := bsOf_mem hm
      obtain ⟨cs2, h3, h4⟩ := k.ref_mem s2 v2 _ h1
      obtain ⟨h5, _⟩ := h4 n2 rfl
      exact hn1 _ h1 (hM.bxi s' s2 b n m hLB ⟨v2, cs2, by rw [hbx s2 v2 n2 (by simp [h1])]; exact h3, h5, h2⟩)
    | _ =>
      simp only [PassR] at h
      obtain ⟨u, vs', rfl, e2, k⟩ := h
      rcases k with k | ⟨s', r, ts', cs, rfl, e4, k⟩
      · simp only [HandR]
        exact ⟨u, vs', rfl, e2, pass_hand hM k hnd hbx⟩
      · simp only [HandR, bsOf]
        exact ⟨u, vs', rfl, e2, pass_hand hM k (List.pairwise_cons.1 hnd).2 (fun s v n h => hbx s v n (by simp [h]))⟩

theorem comeB_fst : ∀ {ts : Ts} {rs : List (List AV)} {b : List (Nat × Nat × List AV)}, comeB ts rs = some b → b.map (·.1) = ts.map (·.1)
  | [], [], b, h => by simp only [comeB, Option.some.injEq] at h; subst h; rfl
  | [], _ :: _, b, h => by simp [comeB] at h
  | (s, v, none) :: ts, rs, b, h => by
    simp only [comeB] at h
    obtain ⟨b', h1, rfl⟩ := Option.map_eq_some_iff.1 h
    simp [comeB_fst h1]
  | (s, v, some n) :: ts, [], b, h => by simp [comeB] at h
  | (s, v, some n) :: ts, cs :: rs, b, h => by
    simp only [comeB] at h
    split at h
    · obtain ⟨b', h1, rfl⟩ := Option.map_eq_some_iff.1 h
      simp [comeB_fst h1]
    · simp at h
theorem comeB_mem {w : World} {pr : Nat → Nat → Prop} {gb : Nat → Nat → Option (Nat × Nat)} : ∀ {ts : Ts} {rs : List (List AV)} {bl : List (Nat × Nat × List AV)}, comeB ts rs = some bl → BackR w pr rs (bsOf gb ts) → (∀ s v n, (s, v, some n) ∈ ts → ∃ x, gb s v = some x) →
    ∀ x ∈ bl, ((x.1, x.2.1, none) ∈ ts ∧ x.2.2 = gone) ∨ ∃ n b k, (x.1, x.2.1, some n) ∈ ts ∧ gb x.1 x.2.1 = some (b, k) ∧ deadC x.2.2 = false ∧ Lies w (pubG pr) x.2.2 b k
  | [], [], bl, h, _, _, x, hx => by simp only [comeB, Option.some.injEq] at h; subst h; simp at hx
  | [], _ :: _, bl, h, _, _, _, _ => by simp [comeB] at h
  | (s, v, none) :: ts, rs, bl, h, hb, hg, x, hx => by
    simp only [comeB] at h
    obtain ⟨b', h1, rfl⟩ := Option.map_eq_some_iff.1 h
    rcases List.mem_cons.1 hx with rfl | hx
    · exact .inl ⟨by simp, rfl⟩
    · rcases comeB_mem h1 hb (fun s v n h => hg s v n (by simp [h])) x hx with ⟨h2, h3⟩ | ⟨n, b, k, h2, h3⟩
      · exact .inl ⟨by simp [h2], h3⟩
      · exact .inr ⟨n, b, k, by simp [h2], h3⟩
  | (s, v, some n) :: ts, [], bl, h, _, _, _, _ => by simp [comeB] at h
  | (s, v, some n) :: ts, cs :: rs, bl, h, hb, hg, x, hx => by
    simp only [comeB] at h
    split at h
    · rename_i hc
      obtain ⟨b', h1, rfl⟩ := Option.map_eq_some_iff.1 h
      obtain ⟨⟨b, k⟩, hgx⟩ := hg s v n (by simp)
      simp only [bsOf, hgx, Option.toList_some, List.cons_append, List.nil_append, BackR] at hb
      rcases List.mem_cons.1 hx with rfl | hx
      · exact .inr ⟨n, b, k, by simp, hgx, hc.2, hb.1⟩
      · rcases comeB_mem h1 hb.2 (fun s v n h => hg s v n (by simp [h])) x hx with ⟨h2, h3⟩ | ⟨n, b, k, h2, h3⟩
        · exact .inl ⟨by simp [h2], h3⟩
        · exact .inr ⟨n, b, k, by simp [h2], h3⟩
    · simp at h

/-- What comes back lies in the boxes. -/
theorem come_ok {ts : Ts} (hM : Mem X w0 pr0 (updL bx (pubs ts)) pm w g) (hnd : ts.Pairwise fun t u => t.1 ≠ u.1) {l : List AV} {vs : List Value} (hp : PassR w g.pr bx g.bx l vs ts) {rs : List (List AV)} {bl : List (Nat × Nat × List AV)}
    (hc : comeB ts rs = some bl) {w' : World} {pr' : Nat → Nat → Prop} (ha : Aft w w' g.pr pr' (inB (bsOf g.bx ts))) (hb : BackR w' pr' rs (bsOf g.bx ts)) :
    Mem X w0 pr0 (updL bx bl) pm w' (g.more fun b o => pr' b o ∧ w.heap.size ≤ b) ∧ Later w g w' (g.more fun b o => pr' b o ∧ w.heap.size ≤ b) ∧ Later w' (pubG pr') w' (g.more fun b o => pr' b o ∧ w.heap.size ≤ b) := by
  have hfst := comeB_fst hc
  have hndb : bl.Pairwise fun x y => x.1 ≠ y.1 := by
    have h1 : (ts.map (·.1)).Pairwise (· ≠ ·) := List.pairwise_map.2 hnd
    rw [← hfst] at h1
    exact List.pairwise_map.1 h1
  have hrefs := hp.ref_mem
  have hmem := comeB_mem (w := w') (pr := pr') (gb := g.bx) hc hb (fun s v n h => by
    obtain ⟨cs, _, h2⟩ := hrefs s v _ h
    obtain ⟨_, b, k, h3, _⟩ := h2 n rfl
    exact ⟨_, h3⟩)
  have toG : Later w' (pubG pr') w' (g.more fun b o => pr' b o ∧ w.heap.size ≤ b) := by
    refine ⟨fun _ _ _ => rfl, fun b o p => ?_, fun _ _ _ e => by simp [pubG] at e, fun _ _ _ e => by simp [pubG] at e, fun _ _ h => h⟩
    rcases ha.prn b o p with h | h
    · exact .inl h
    · exact .inr ⟨p, h⟩
  -- a name that is not handed over
  have hpubs : ∀ s, (∀ t ∈ ts, t.1 ≠ s) → updL bx (pubs ts) s = bx s := fun s h => updL_ne _ _ _ (fun z hz e => h _ (pubs_mem hz).1 e)
  have hout : ∀ s, (∀ t ∈ ts, t.1 ≠ s) → updL bx bl s = bx s := fun s h => updL_ne _ _ _ (fun z hz e => by
    have : z.1 ∈ ts.map (·.1) := by rw [← hfst]; exact List.mem_map.2 ⟨z, hz, rfl⟩
    obtain ⟨t, ht, e2⟩ := List.mem_map.1 this
    exact h t ht (e2.trans e))
  have href : ∀ s v n, (s, v, some n) ∈ ts → updL bx (pubs ts) s = bx s := fun s v n h => updL_ne _ _ _ (fun z hz e => by
    obtain ⟨hz1, _⟩ := pubs_mem hz
    have hne : (z.1, z.2.1, (none : Option Nat)) ≠ (s, v, some n) := by simp
    have hg := List.pairwise_iff_getElem.1 hnd
    obtain ⟨i, hi, hii⟩ := List.getElem_of_mem hz1
    obtain ⟨j, hj, hjj⟩ := List.getElem_of_mem h
    rcases Nat.lt_trichotomy i j with hlt | heq | hgt
    · have := hg i j hi hj hlt
      rw [hii, hjj] at this
      exact this e
    · subst heq
      rw [hii] at hjj
      exact hne hjj
    · have := hg j i hj hi hgt
      rw [hii, hjj] at this
      exact this e.symm)
  have hinb : ∀ s, (∃ t ∈ ts, t.1 = s) → ∃ x ∈ bl, x.1 = s := by
    rintro s ⟨t, ht, rfl⟩
    have : t.1 ∈ bl.map (·.1) := by rw [hfst]; exact List.mem_map.2 ⟨t, ht, rfl⟩
    obtain ⟨x, hx, e⟩ := List.mem_map.1 this
    exact ⟨x, hx, e⟩
  have hY : ∀ b, inB (bsOf g.bx ts) b → ∃ s n, LB (updL bx (pubs ts)) g s b n ∧ ∃ t ∈ ts, t.1 = s := by
    rintro b ⟨n, hn⟩
    obtain ⟨s, v, m, h1, h2⟩ := bsOf_mem hn
    obtain ⟨cs, h3, h4⟩ := hrefs s v _ h1
    exact ⟨s, n, ⟨v, cs, by rw [href s v m h1]; exact h3, (h4 m rfl).1, h2⟩, _, h1, rfl⟩
  have hpubv : ∀ x ∈ pubs ts, updL bx (pubs ts) x.1 = some x.2 := fun x hx => by
    refine updL_get (pubs ts) bx ?_ x hx
    have hsub : ∀ (ts : Ts), (ts.Pairwise fun t u => t.1 ≠ u.1) → (pubs ts).Pairwise fun x y => x.1 ≠ y.1 := by
      intro ts
      induction ts with
      | nil => intro _; exact .nil
      | cons t ts ih =>
        intro h
        obtain ⟨h1, h2⟩ := List.pairwise_cons.1 h
        obtain ⟨s, v, m⟩ := t
        cases m with
        | none => exact List.pairwise_cons.2 ⟨fun y hy => h1 _ (pubs_mem hy).1, ih h2⟩
        | some m => exact ih h2
    exact hsub ts hnd
  have hpubin : ∀ (ts : Ts) s v, (s, v, none) ∈ ts → (s, v, gone) ∈ pubs ts := by
    intro ts
    induction ts with
    | nil => intro s v h; simp at h
    | cons t ts ih =>
      intro s v h
      obtain ⟨s', v', m⟩ := t
      rcases List.mem_cons.1 h with e | h1
      · simp only [Prod.mk.injEq] at e
        obtain ⟨rfl, rfl, rfl⟩ := e
        simp [pubs]
      · cases m with
        | none => simp [pubs, ih s v h1]
        | some m => simpa [pubs] using ih s v h1
  refine (fun h => ⟨h.1, h.2, toG⟩) (hM.turnedL (bx' := updL bx bl) ha.below (fun b h => by obtain ⟨s, n, h1, _⟩ := hY b h; exact ⟨s, n, h1⟩) (fun b o => pr' b o ∧ w.heap.size ≤ b) (fun b o h => ⟨h.2, ha.prlt b o h.1⟩) ?_ ?_ ?_)
  · intro s r cs h
    by_cases hs : ∃ t ∈ ts, t.1 = s
    · obtain ⟨x, hx, rfl⟩ := hinb s hs
      rw [updL_get bl bx hndb x hx]
      refine ⟨x.2.2, ?_⟩
      rcases hmem x hx with ⟨h1, h2⟩ | ⟨n, b, k, h1, h2, _⟩
      · have := hpubv _ (hpubin ts _ _ h1)
        simp only at this
        rw [this] at h
        simp only [Option.some.injEq, Prod.mk.injEq] at h
        rw [← h.1]
      · obtain ⟨cs2, h3, _⟩ := hrefs _ _ _ h1
        rw [href _ _ _ h1, h3] at h
        simp only [Option.some.injEq, Prod.mk.injEq] at h
        rw [← h.1]
    · have hs' : ∀ t ∈ ts, t.1 ≠ s := fun t ht e => hs ⟨t, ht, e⟩
      rw [hpubs s hs'] at h
      exact ⟨cs, by rw [hout s hs']; exact h⟩
  · intro s r l h
    by_cases hs : ∃ t ∈ ts, t.1 = s
    · obtain ⟨x, hx, rfl⟩ := hinb s hs
      rw [updL_get bl bx hndb x hx] at h
      simp only [Option.some.injEq] at h
      have e2 : x.2.2 = mapC l := by rw [h]
      rcases hmem x hx with ⟨h1, h2⟩ | ⟨n, b, k, h1, h2, h3, us, cur, T, k1, k2, k3, k4, k5⟩
      · exact absurd (h2.symm.trans e2) (mapC_ne_gone l)
      · exact absurd e2 (not_map k4 k5 l)
    · have hs' : ∀ t ∈ ts, t.1 ≠ s := fun t ht e => hs ⟨t, ht, e⟩
      rw [hpubs s hs', ← hout s hs']
      exact h
  · intro s r cs' h hd
    by_cases hs : ∃ t ∈ ts, t.1 = s
    · obtain ⟨x, hx, rfl⟩ := hinb s hs
      rw [updL_get bl bx hndb x hx] at h
      simp only [Option.some.injEq] at h
      rcases hmem x hx with ⟨h1, h2⟩ | ⟨n, b, k, h1, h2, h3, us, cur, T, k1, k2, k3, k4, k5⟩
      · have e2 : x.2.2 = cs' := by rw [h]
        rw [← e2, h2] at hd
        simp [deadC, gone] at hd
      · obtain ⟨cs2, h5, h6⟩ := hrefs _ _ _ h1
        have e1 : x.2.1 = r := by rw [h]
        have e2 : x.2.2 = cs' := by rw [h]
        rw [e1] at h5 h2
        rw [e2] at k4
        exact .inr ⟨cs2, b, k, us, cur, T, by rw [href _ _ _ h1]; exact h5, (h6 n rfl).1, h2, k1, k2, k3, RdL.later cs' toG k4, k5⟩
    · have hs' : ∀ t ∈ ts, t.1 ≠ s := fun t ht e => hs ⟨t, ht, e⟩
      rw [hout s hs'] at h
      have h' : updL bx (pubs ts) s = some (r, cs') := by rw [hpubs s hs']; exact h
      refine .inl ⟨h', fun b n hb hy => ?_⟩
      obtain ⟨s2, n2, h1, t, ht, e⟩ := hY b hy
      exact hs' t ht (e.trans (hM.bxi s2 s b n2 n h1 ⟨r, cs', h', hd, hb⟩))
end
end Go.Proofs.YtpkeiffclipjmaaGreatDoor.Rx
