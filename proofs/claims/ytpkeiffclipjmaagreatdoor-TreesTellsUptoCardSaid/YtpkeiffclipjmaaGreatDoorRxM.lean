/-
  Rx, part M: memory while a function runs: its boxes, its own slices, and what is to stay as it is.
-/
import Derived.Test.YtpkeiffclipjmaaGreatDoorRxR
import Derived.MapKept
namespace Go.Proofs.YtpkeiffclipjmaaGreatDoor.Rx
open Go Go.RowKit

/-- A slice that the call may append to: nothing of it, from its end on, is known to anybody. -/
def Own (w : World) (base : Nat) (pr : Nat → Nat → Prop) (k : Nat) (v : Value) : Prop :=
  v = .slice none 0 0 ∨ ∃ b n cap cur e, v = .slice (some ⟨b, 0, none⟩) n cap ∧ base ≤ b ∧ w.heap[b]? = some (.cells cur e (0, 0)) ∧ n ≤ cap ∧ cur.size = cap * k ∧ ∀ o, n * k ≤ o → ¬ pr b o

/-- What was there is there, but for blocks that were handed over. -/
structure BelX (X : Nat → Prop) (w0 w : World) : Prop where
  os : w.os = w0.os
  tape : w.tape = w0.tape
  output : w.output = w0.output
  size : w0.heap.size ≤ w.heap.size
  block : ∀ k, k < w0.heap.size → ¬ X k → w.heap[k]? = w0.heap[k]?
  ty : ∀ b T, tyAt w0 b = some T → tyAt w b = some T
theorem tyAt_lt {w : World} {b : Nat} {T : TypeId} (h : tyAt w b = some T) : b < w.heap.size := by
  unfold tyAt at h
  split at h
  · rename_i h1
    exact (Array.getElem?_eq_some_iff.1 h1).1
  · simp at h
theorem tyAt_of {w : World} {b : Nat} {cs : Array Value} {T : TypeId} {z : Nat × Nat} (h : w.heap[b]? = some (.cells cs T z)) : tyAt w b = some T := by simp [tyAt, h]
theorem tyAt_block {w w' : World} {b : Nat} (h : w'.heap[b]? = w.heap[b]?) : tyAt w' b = tyAt w b := by simp [tyAt, h]
theorem tyAt_below {w w' : World} (h : Below w.heap.size w w') : ∀ b T, tyAt w b = some T → tyAt w' b = some T := fun b T e => by rw [tyAt_block (h.block b (tyAt_lt e))]; exact e
theorem tyAt_setRow (w : World) (b : Nat) (cs : Array Value) (b' : Nat) : tyAt (w.setRow b cs) b' = tyAt w b' := by
  by_cases h : b' = b
  · subst h
    cases h1 : w.heap[b']? with
    | none => simp [tyAt, World.setRow, h1, Array.getElem?_modify]
    | some o => cases o with
      | cells c T z => rw [tyAt_of (setRow_heap w b' c cs T z h1), tyAt_of h1]
      | _ => simp [tyAt, World.setRow, h1, Array.getElem?_modify]
  · exact tyAt_block (setRow_other w b b' cs h)
theorem BelX.refl (X : Nat → Prop) (w : World) : BelX X w w := ⟨rfl, rfl, rfl, Nat.le_refl _, fun _ _ _ => rfl, fun _ _ h => h⟩
theorem BelX.below {X : Nat → Prop} {w0 w w' : World} (h : BelX X w0 w) (k : Below w.heap.size w w') : BelX X w0 w' :=
  ⟨k.os.trans h.os, k.tape.trans h.tape, k.output.trans h.output, Nat.le_trans h.size k.size, fun i hi hx => (k.block i (Nat.lt_of_lt_of_le hi h.size)).trans (h.block i hi hx), fun b T e => tyAt_below k b T (h.ty b T e)⟩
theorem BelX.trans {X Y : Nat → Prop} {w0 w w' : World} (h : BelX X w0 w) (k : BelX Y w w') (hY : ∀ b, Y b → w0.heap.size ≤ b ∨ X b) : BelX X w0 w' :=
  ⟨k.os.trans h.os, k.tape.trans h.tape, k.output.trans h.output, Nat.le_trans h.size k.size, fun i hi hx => (k.block i (Nat.lt_of_lt_of_le hi h.size) (fun hy => (hY i hy).elim (fun h => by omega) hx)).trans (h.block i hi hx), fun b T e => k.ty b T (h.ty b T e)⟩
theorem BelX.row {X : Nat → Prop} {w0 w : World} (h : BelX X w0 w) {b : Nat} (hb : w0.heap.size ≤ b ∨ X b) (cs : Array Value) : BelX X w0 (w.setRow b cs) :=
  ⟨h.os, h.tape, h.output, by rw [setRow_size]; exact h.size, fun k hk hx => by rw [setRow_other w b k cs (fun e => by subst e; exact hb.elim (fun h => by omega) hx)]; exact h.block k hk hx, fun b' T e => by rw [tyAt_setRow]; exact h.ty b' T e⟩
theorem BelX.none {w0 w : World} (h : BelX (fun _ => False) w0 w) : Below w0.heap.size w0 w := ⟨h.os, h.tape, h.output, h.size, fun k hk => h.block k hk (fun h => h)⟩
theorem BelX.of {X : Nat → Prop} {w0 w : World} (h : Below w0.heap.size w0 w) : BelX X w0 w := ⟨h.os, h.tape, h.output, h.size, fun k hk _ => h.block k hk, tyAt_below h⟩

/-- A box that is there, and its block. -/
def LB (bx : Bx) (g : Gh) (s b n : Nat) : Prop := ∃ r cs, bx s = some (r, cs) ∧ deadC cs = false ∧ g.bx s r = some (b, n)

/-- A map's block, and what it has. -/
def MapAt (w : World) (b : Nat) (l : List (List UInt8 × Bool)) : Prop :=
  ∃ es clk, w.heap[b]? = some (.map es clk) ∧ es.toList.map (fun e => (e.key, e.val)) = l.map fun p => (Value.string ⟨p.1.toArray⟩, Value.bool p.2)
theorem MapAt.moved {w w' : World} {b : Nat} {l : List (List UInt8 × Bool)} (h : MapAt w b l) (e : w'.heap[b]? = w.heap[b]?) : MapAt w' b l := by
  obtain ⟨es, clk, h1, h2⟩ := h
  exact ⟨es, clk, e.trans h1, h2⟩
theorem MapAt.lt {w : World} {b : Nat} {l : List (List UInt8 × Bool)} (h : MapAt w b l) : b < w.heap.size := by
  obtain ⟨es, clk, h1, _⟩ := h
  exact (Array.getElem?_eq_some_iff.1 h1).1
theorem MapAt.ne {w : World} {b b' : Nat} {l : List (List UInt8 × Bool)} (h : MapAt w b l) {cs : Array Value} {T : TypeId} {z : Nat × Nat} (k : w.heap[b']? = some (.cells cs T z)) : b ≠ b' := by
  rintro rfl
  obtain ⟨es, clk, h1, _⟩ := h
  rw [h1] at k
  simp at k
theorem not_map {w : World} {g : Gh} {cs : List AV} {us : List Value} (hr : RdL w g cs us) (h1 : ∀ u ∈ us, u.oneCell' = true) (l : List (List UInt8 × Bool)) : cs ≠ mapC l := by
  rintro rfl
  simp only [mapC, RdL, Rd] at hr
  obtain ⟨u, us', rfl, ⟨vs, rfl, _⟩, _⟩ := hr
  have := h1 _ (List.mem_cons_self ..)
  simp [Value.oneCell'] at this

structure Mem (X : Nat → Prop) (w0 : World) (pr0 : Nat → Nat → Prop) (bx : Bx) (pm : Pm) (w : World) (g : Gh) : Prop where
  below : BelX X w0 w
  old : ∀ b o, pr0 b o → g.pr b o
  prn : ∀ b o, g.pr b o → pr0 b o ∨ w0.heap.size ≤ b
  prlt : ∀ b o, g.pr b o → b < w.heap.size
  bxv : ∀ s r x, g.bx s r = some x → ∃ r' cs, bx s = some (r', cs) ∧ r ≤ r'
  bxb : ∀ s b n, LB bx g s b n → (w0.heap.size ≤ b ∨ (handed ≤ s ∧ X b)) ∧ b < w.heap.size ∧ ∀ o, ¬ g.pr b o
  bxi : ∀ s s' b n n', LB bx g s b n → LB bx g s' b n' → s = s'
  box : ∀ s r cs, bx s = some (r, cs) → deadC cs = false → ∃ b n us cur T, g.bx s r = some (b, n) ∧ w.heap[b]? = some (.cells cur T (0, 0)) ∧ cur.size = n ∧ cur.toList.take us.length = us ∧ RdL w g cs us ∧ ∀ u ∈ us, u.oneCell' = true
  lvv : ∀ s r v, g.lv s r = some v → ∃ r' al, pm s = some (r', al) ∧ r ≤ r'
  live : ∀ s r, pm s = some (r, true) → ∃ v k, g.lv s r = some (v, k) ∧ Own w w0.heap.size g.pr k v
  livb : ∀ s r v k b, pm s = some (r, true) → g.lv s r = some (v, k) → v.ownBlock = some b → ∀ s' n, ¬ LB bx g s' b n
  livi : ∀ s r v k s' r' v' k' b, pm s = some (r, true) → g.lv s r = some (v, k) → v.ownBlock = some b → pm s' = some (r', true) → g.lv s' r' = some (v', k') → v'.ownBlock = some b → s = s'
  mpv : ∀ s r l, bx s = some (r, mapC l) → ∃ b, g.bx s r = some (b, 0) ∧ MapAt w b l ∧ w0.heap.size ≤ b
  mpi : ∀ s s' r r' l l' b, bx s = some (r, mapC l) → bx s' = some (r', mapC l') → g.bx s r = some (b, 0) → g.bx s' r' = some (b, 0) → s = s'

theorem heap_lt {w : World} {b : Nat} {x : Obj} (h : w.heap[b]? = some x) : b < w.heap.size := (Array.getElem?_eq_some_iff.1 h).1
theorem cell_of_block {w w' : World} {b : Nat} (h : w'.heap[b]? = w.heap[b]?) (o : Nat) : w'.cell? ⟨b, o, none⟩ = w.cell? ⟨b, o, none⟩ := by simp [World.cell?, h]

section
variable {X : Nat → Prop} {w0 w w' : World} {pr0 : Nat → Nat → Prop} {bx : Bx} {pm : Pm} {g : Gh}

theorem Own.lt {base k : Nat} {v : Value} (h : Own w base g.pr k v) {b : Nat} (hb : v.ownBlock = some b) : base ≤ b ∧ b < w.heap.size := by
  rcases h with rfl | ⟨b', n, cap, cur, e, rfl, h1, h2, _⟩
  · simp [Value.ownBlock] at hb
  · simp [Value.ownBlock] at hb
    subst hb
    exact ⟨h1, heap_lt h2⟩
theorem Own.moved {base k : Nat} {v : Value} (h : Own w base g.pr k v) (hk : ∀ b, v.ownBlock = some b → w'.heap[b]? = w.heap[b]?) : Own w' base g.pr k v := by
  rcases h with rfl | ⟨b, n, cap, cur, e, rfl, h1, h2, h3⟩
  · exact .inl rfl
  · exact .inr ⟨b, n, cap, cur, e, rfl, h1, by rw [hk b rfl]; exact h2, h3⟩
theorem Mem.liveLt (hM : Mem X w0 pr0 bx pm w g) {s r : Nat} {v : Value} {k b : Nat} (h1 : pm s = some (r, true)) (h2 : g.lv s r = some (v, k)) (h3 : v.ownBlock = some b) : w0.heap.size ≤ b ∧ b < w.heap.size := by
  obtain ⟨v', k', h4, h5⟩ := hM.live s r h1
  rw [h2] at h4
  simp only [Option.some.injEq, Prod.mk.injEq] at h4
  obtain ⟨rfl, rfl⟩ := h4
  exact h5.lt h3

/-- New blocks turn nothing. -/
theorem Mem.later_below (hM : Mem X w0 pr0 bx pm w g) (hb : Below w.heap.size w w') : Later w g w' g :=
  ⟨fun b o p => cell_of_block (hb.block b (hM.prlt b o p)) o, fun _ _ h => h, fun _ _ _ h => h, fun _ _ _ h => h, tyAt_below hb⟩
theorem Mem.moved (hM : Mem X w0 pr0 bx pm w g) (hb : Below w.heap.size w w') : Mem X w0 pr0 bx pm w' g := by
  have hl := hM.later_below hb
  refine ⟨hM.below.below hb, hM.old, hM.prn, fun b o p => Nat.lt_of_lt_of_le (hM.prlt b o p) hb.size, hM.bxv, ?_, hM.bxi, ?_, hM.lvv, ?_, hM.livb, hM.livi, fun s r l e => ?_, hM.mpi⟩
  · intro s b n e
    obtain ⟨h1, h2, h3⟩ := hM.bxb s b n e
    exact ⟨h1, Nat.lt_of_lt_of_le h2 hb.size, h3⟩
  · intro s r cs e hd
    obtain ⟨b, n, us, cur, T, h1, h2, h3, h4, h5, h6⟩ := hM.box s r cs e hd
    exact ⟨b, n, us, cur, T, h1, by rw [hb.block b (heap_lt h2)]; exact h2, h3, h4, RdL.later cs hl h5, h6⟩
  · intro s r e
    obtain ⟨v, k, h1, h2⟩ := hM.live s r e
    exact ⟨v, k, h1, h2.moved fun b hv => hb.block b (h2.lt hv).2⟩
  · obtain ⟨b, h1, h2, h3⟩ := hM.mpv s r l e
    exact ⟨b, h1, h2.moved (hb.block b h2.lt), h3⟩

/-- More cells are to stay as they are: cells of blocks that are nobody's. -/
def Gh.more (g : Gh) (Q : Nat → Nat → Prop) : Gh := ⟨fun b o => g.pr b o ∨ Q b o, g.lv, g.bx⟩
theorem Later.more (w : World) (g : Gh) (Q : Nat → Nat → Prop) : Later w g w (g.more Q) := ⟨fun _ _ _ => rfl, fun _ _ h => .inl h, fun _ _ _ h => h, fun _ _ _ h => h, fun _ _ h => h⟩
theorem Mem.more (hM : Mem X w0 pr0 bx pm w g) (Q : Nat → Nat → Prop) (h1 : ∀ b o, Q b o → w0.heap.size ≤ b ∧ b < w.heap.size) (h2 : ∀ b o, Q b o → ∀ s n, ¬ LB bx g s b n)
    (h3 : ∀ b o, Q b o → ∀ s r v k, pm s = some (r, true) → g.lv s r = some (v, k) → v.ownBlock ≠ some b) : Mem X w0 pr0 bx pm w (g.more Q) := by
  refine ⟨hM.below, fun b o p => .inl (hM.old b o p), ?_, ?_, hM.bxv, ?_, hM.bxi, ?_, hM.lvv, ?_, hM.livb, hM.livi, hM.mpv, hM.mpi⟩
  · rintro b o (p | q)
    · exact hM.prn b o p
    · exact .inr (h1 b o q).1
  · rintro b o (p | q)
    · exact hM.prlt b o p
    · exact (h1 b o q).2
  · intro s b n e
    obtain ⟨k1, k2, k3⟩ := hM.bxb s b n e
    refine ⟨k1, k2, ?_⟩
    rintro o (p | q)
    · exact k3 o p
    · exact h2 b o q s n e
  · intro s r cs e hd
    obtain ⟨b, n, us, cur, T, k1, k2, k3, k4, k5, k6⟩ := hM.box s r cs e hd
    exact ⟨b, n, us, cur, T, k1, k2, k3, k4, RdL.later cs (Later.more w g Q) k5, k6⟩
  · intro s r e
    obtain ⟨v, k, k1, k2⟩ := hM.live s r e
    refine ⟨v, k, k1, ?_⟩
    rcases k2 with rfl | ⟨b, n, cap, cur, T, rfl, j1, j2, j3, j4, j5⟩
    · exact .inl rfl
    · refine .inr ⟨b, n, cap, cur, T, rfl, j1, j2, j3, j4, fun o ho => ?_⟩
      rintro (p | q)
      · exact j5 o ho p
      · exact h3 b o q s r _ k e k1 rfl

/-- A name comes to another box. -/
def Gh.boxed (g : Gh) (d r b n : Nat) : Gh := ⟨g.pr, g.lv, fun s r' => if s = d ∧ r' = r then some (b, n) else g.bx s r'⟩
theorem Gh.boxed_same (g : Gh) (d r b n : Nat) : (g.boxed d r b n).bx d r = some (b, n) := by simp [Gh.boxed]
theorem Later.boxed (w : World) (g : Gh) {d r : Nat} (b n : Nat) (h : g.bx d r = none) : Later w g w (g.boxed d r b n) := by
  refine ⟨fun _ _ _ => rfl, fun _ _ h => h, fun _ _ _ h => h, fun s r' b' h' => ?_, fun _ _ h => h⟩
  simp only [Gh.boxed]
  split
  · rename_i e
    obtain ⟨rfl, rfl⟩ := e
    rw [h] at h'
    simp at h'
  · exact h'
theorem Mem.ver (hM : Mem X w0 pr0 bx pm w g) {d v : Nat} (hv : ∀ r cs, bx d = some (r, cs) → r < v) : g.bx d v = none := by
  cases h : g.bx d v with
  | none => rfl
  | some x =>
    obtain ⟨r', cs, e, hle⟩ := hM.bxv _ _ _ h
    have := hv r' cs e
    omega
theorem nextB_lt (bx : Bx) (d : Nat) : ∀ r cs, bx d = some (r, cs) → r < nextB bx d := by
  intro r cs e
  unfold nextB
  rw [e]
  exact Nat.lt_succ_self r
theorem LB.of_upd {d v : Nat} {cs : List AV} {g : Gh} {b n s b' n' : Nat} (h : LB (upd bx d (v, cs)) (g.boxed d v b n) s b' n') : (s = d ∧ b' = b ∧ n' = n) ∨ (s ≠ d ∧ LB bx g s b' n') := by
  obtain ⟨r, cs', h1, h2, h3⟩ := h
  by_cases hs : d = s
  · subst hs
    rw [upd_same] at h1
    simp only [Option.some.injEq, Prod.mk.injEq] at h1
    obtain ⟨rfl, rfl⟩ := h1
    rw [Gh.boxed_same] at h3
    simp only [Option.some.injEq, Prod.mk.injEq] at h3
    exact .inl ⟨rfl, h3.1.symm, h3.2.symm⟩
  · rw [upd_ne _ _ hs] at h1
    simp only [Gh.boxed] at h3
    rw [if_neg (fun h => hs h.1.symm)] at h3
    exact .inr ⟨fun h => hs h.symm, r, cs', h1, h2, h3⟩
theorem Mem.boxedG (hM : Mem X w0 pr0 bx pm w g) {d v : Nat} (hv : ∀ r cs, bx d = some (r, cs) → r < v) {b n : Nat} {cs : List AV} {us : List Value} {cur : Array Value} {T : TypeId} (hb : w.heap[b]? = some (.cells cur T (0, 0))) (hn : cur.size = n)
    (ht : cur.toList.take us.length = us) (hr : RdL w (g.boxed d v b n) cs us) (h1 : ∀ u ∈ us, u.oneCell' = true)
    (hbase : w0.heap.size ≤ b ∨ (handed ≤ d ∧ X b)) (hpr : ∀ o, ¬ g.pr b o) (hbx : ∀ s m, s ≠ d → ¬ LB bx g s b m) (hlv : ∀ s r v k, pm s = some (r, true) → g.lv s r = some (v, k) → v.ownBlock ≠ some b) :
    Mem X w0 pr0 (upd bx d (v, cs)) pm w (g.boxed d v b n) := by
  have hnew := hM.ver hv
  have hl := Later.boxed w g b n hnew
  have hnm := not_map hr h1
  have toMp : ∀ {s r l}, upd bx d (v, cs) s = some (r, mapC l) → s ≠ d ∧ bx s = some (r, mapC l) := by
    intro s r l e
    by_cases hs : d = s
    · subst hs
      rw [upd_same] at e
      simp only [Option.some.injEq, Prod.mk.injEq] at e
      exact absurd e.2 (hnm l)
    · rw [upd_ne _ _ hs] at e
      exact ⟨fun h => hs h.symm, e⟩
  have toG : ∀ {s r x}, s ≠ d → (g.boxed d v b n).bx s r = some x → g.bx s r = some x := by
    intro s r x hs e
    simp only [Gh.boxed] at e
    rwa [if_neg (fun h => hs h.1)] at e
  refine ⟨hM.below, hM.old, hM.prn, hM.prlt, ?_, ?_, ?_, ?_, hM.lvv, hM.live, ?_, hM.livi, fun s r l e => ?_, fun s s' r r' l l' b' e e' k k' => ?_⟩
  · intro s r x e
    simp only [Gh.boxed] at e
    split at e
    · rename_i he
      obtain ⟨rfl, rfl⟩ := he
      exact ⟨_, _, upd_same _ _ _, Nat.le_refl _⟩
    · obtain ⟨r', cs', e', hle⟩ := hM.bxv s r x e
      by_cases hs : d = s
      · subst hs
        exact ⟨_, _, upd_same _ _ _, by have := hv r' cs' e'; omega⟩
      · exact ⟨r', cs', by rw [upd_ne _ _ hs]; exact e', hle⟩
  · intro s b' n' e
    rcases e.of_upd with ⟨rfl, rfl, rfl⟩ | ⟨_, e⟩
    · exact ⟨hbase, heap_lt hb, hpr⟩
    · exact hM.bxb s b' n' e
  · intro s s' b' n1 n2 e e'
    rcases e.of_upd with ⟨rfl, rfl, rfl⟩ | ⟨hs, e⟩ <;> rcases e'.of_upd with ⟨rfl, h2, h3⟩ | ⟨hs', e'⟩
    · rfl
    · exact absurd e' (hbx s' n2 hs')
    · rename_i e0
      subst h2
      exact absurd e0 (hbx s n1 hs)
    · exact hM.bxi s s' b' n1 n2 e e'
  · intro s r cs' e hd
    by_cases hs : d = s
    · subst hs
      rw [upd_same] at e
      simp only [Option.some.injEq, Prod.mk.injEq] at e
      obtain ⟨rfl, rfl⟩ := e
      exact ⟨b, n, us, cur, T, g.boxed_same d v b n, hb, hn, ht, hr, h1⟩
    · rw [upd_ne _ _ hs] at e
      obtain ⟨b', n', us', cur', T', k1, k2, k3, k4, k5, k6⟩ := hM.box s r cs' e hd
      exact ⟨b', n', us', cur', T', by simp only [Gh.boxed]; rw [if_neg (fun h => hs h.1.symm)]; exact k1, k2, k3, k4, RdL.later cs' hl k5, k6⟩
  · intro s r v' k b' e e' e'' s' n' hlb
    rcases hlb.of_upd with ⟨rfl, rfl, rfl⟩ | ⟨_, hlb⟩
    · exact hlv s r v' k e e' e''
    · exact hM.livb s r v' k b' e e' e'' s' n' hlb
  · obtain ⟨hs, e⟩ := toMp e
    obtain ⟨b', k1, k2, k3⟩ := hM.mpv s r l e
    exact ⟨b', hl.bx s r _ k1, k2, k3⟩
  · obtain ⟨hs, e⟩ := toMp e
    obtain ⟨hs', e'⟩ := toMp e'
    exact hM.mpi s s' r r' l l' b' e e' (toG hs k) (toG hs' k')

theorem Mem.boxed (hM : Mem X w0 pr0 bx pm w g) {d v : Nat} (hv : ∀ r cs, bx d = some (r, cs) → r < v) {b n : Nat} {cs : List AV} {us : List Value} {cur : Array Value} {T : TypeId} (hb : w.heap[b]? = some (.cells cur T (0, 0))) (hn : cur.size = n)
    (ht : cur.toList.take us.length = us) (hr : RdL w g cs us) (h1 : ∀ u ∈ us, u.oneCell' = true)
    (hbase : w0.heap.size ≤ b ∨ (handed ≤ d ∧ X b)) (hpr : ∀ o, ¬ g.pr b o) (hbx : ∀ s m, s ≠ d → ¬ LB bx g s b m) (hlv : ∀ s r v k, pm s = some (r, true) → g.lv s r = some (v, k) → v.ownBlock ≠ some b) :
    Mem X w0 pr0 (upd bx d (v, cs)) pm w (g.boxed d v b n) :=
  hM.boxedG hv hb hn ht (RdL.later cs (Later.boxed w g b n (hM.ver hv)) hr) h1 hbase hpr hbx hlv

theorem map_gone {bx : Bx} {d v : Nat} : ∀ (s r : Nat) (l : List (List UInt8 × Bool)), upd bx d (v, Rx.gone) s = some (r, mapC l) → bx s = some (r, mapC l) := by
  intro s r l e
  by_cases hs : d = s
  · subst hs
    rw [upd_same] at e
    simp only [Option.some.injEq, Prod.mk.injEq] at e
    exact absurd e.2 (mapC_ne_gone l)
  · rwa [upd_ne _ _ hs] at e
/-- A box is no more. -/
theorem LB.of_gone {d v : Nat} {g : Gh} {s b n : Nat} (h : LB (upd bx d (v, Rx.gone)) g s b n) : s ≠ d ∧ LB bx g s b n := by
  obtain ⟨r, cs', h1, h2, h3⟩ := h
  by_cases hs : d = s
  · subst hs
    rw [upd_same] at h1
    simp only [Option.some.injEq, Prod.mk.injEq] at h1
    obtain ⟨rfl, rfl⟩ := h1
    simp [deadC, Rx.gone] at h2
  · rw [upd_ne _ _ hs] at h1
    exact ⟨fun h => hs h.symm, r, cs', h1, h2, h3⟩
theorem Mem.die (hM : Mem X w0 pr0 bx pm w g) {d v : Nat} {cs : List AV} (hd : bx d = some (v, cs)) : Mem X w0 pr0 (upd bx d (v, Rx.gone)) pm w g := by
  have toMp : ∀ {s r l}, upd bx d (v, Rx.gone) s = some (r, mapC l) → bx s = some (r, mapC l) := by
    intro s r l e
    by_cases hs : d = s
    · subst hs
      rw [upd_same] at e
      simp only [Option.some.injEq, Prod.mk.injEq] at e
      exact absurd e.2 (mapC_ne_gone l)
    · rwa [upd_ne _ _ hs] at e
  refine ⟨hM.below, hM.old, hM.prn, hM.prlt, ?_, fun s b n e => hM.bxb s b n e.of_gone.2, fun s s' b n n' e e' => hM.bxi s s' b n n' e.of_gone.2 e'.of_gone.2, ?_, hM.lvv, hM.live, fun s r v k b e e' e'' s' n h => hM.livb s r v k b e e' e'' s' n h.of_gone.2, hM.livi, fun s r l e => hM.mpv s r l (toMp e), fun s s' r r' l l' b e e' => hM.mpi s s' r r' l l' b (toMp e) (toMp e')⟩
  · intro s r x e
    obtain ⟨r', cs', e', hle⟩ := hM.bxv s r x e
    by_cases hs : d = s
    · subst hs
      rw [hd] at e'
      simp only [Option.some.injEq, Prod.mk.injEq] at e'
      exact ⟨v, _, upd_same _ _ _, by omega⟩
    · exact ⟨r', cs', by rw [upd_ne _ _ hs]; exact e', hle⟩
  · intro s r cs' e hdd
    by_cases hs : d = s
    · subst hs
      rw [upd_same] at e
      simp only [Option.some.injEq, Prod.mk.injEq] at e
      obtain ⟨rfl, rfl⟩ := e
      simp [deadC, Rx.gone] at hdd
    · rw [upd_ne _ _ hs] at e
      exact hM.box s r cs' e hdd
/-- A row of the call's own is made known: it is to stay as it is. -/
theorem Mem.publish (hM : Mem X w0 pr0 bx pm w g) {d v : Nat} {cs : List AV} (hd : bx d = some (v, cs)) (hdd : deadC cs = false) (hlt : d < handed) {b n : Nat} (hb : g.bx d v = some (b, n)) (m : Nat) :
    Mem X w0 pr0 (upd bx d (v, Rx.gone)) pm w (g.more fun b' o => b' = b ∧ o < m) ∧ Later w g w (g.more fun b' o => b' = b ∧ o < m) := by
  have hLB : LB bx g d b n := ⟨v, cs, hd, hdd, hb⟩
  obtain ⟨h1, h2, h3⟩ := hM.bxb d b n hLB
  refine ⟨(hM.die hd).more _ ?_ ?_ ?_, Later.more w g _⟩
  · rintro b' o ⟨rfl, _⟩
    exact ⟨h1.resolve_right (fun h => by have := h.1; omega), h2⟩
  · rintro b' o ⟨rfl, _⟩ s n' e
    exact e.of_gone.1 (hM.bxi s d _ n' n e.of_gone.2 hLB)
  · rintro b' o ⟨rfl, _⟩ s r v' k e1 e2 e3
    exact hM.livb s r v' k _ e1 e2 e3 d n hLB

/-- A mark that is done with. -/
theorem Mem.kill (hM : Mem X w0 pr0 bx pm w g) {s r : Nat} {al : Bool} (hs : pm s = some (r, al)) : Mem X w0 pr0 bx (upd pm s (r, false)) w g := by
  refine ⟨hM.below, hM.old, hM.prn, hM.prlt, hM.bxv, hM.bxb, hM.bxi, hM.box, ?_, ?_, ?_, ?_, hM.mpv, hM.mpi⟩
  · intro s' r' v e
    obtain ⟨r2, al2, h1, h2⟩ := hM.lvv s' r' v e
    by_cases h : s = s'
    · subst h
      rw [hs] at h1
      simp only [Option.some.injEq, Prod.mk.injEq] at h1
      exact ⟨r, false, upd_same _ _ _, by omega⟩
    · exact ⟨r2, al2, by rw [upd_ne _ _ h]; exact h1, h2⟩
  · intro s' r' e
    by_cases h : s = s'
    · subst h; rw [upd_same] at e; simp at e
    · rw [upd_ne _ _ h] at e; exact hM.live s' r' e
  · intro s' r' v k b e
    by_cases h : s = s'
    · subst h; rw [upd_same] at e; simp at e
    · rw [upd_ne _ _ h] at e; exact hM.livb s' r' v k b e
  · intro s1 r1 v1 k1 s2 r2 v2 k2 b e1 h1 h2 e2
    by_cases h : s = s1
    · subst h; rw [upd_same] at e1; simp at e1
    · by_cases h' : s = s2
      · subst h'; rw [upd_same] at e2; simp at e2
      · rw [upd_ne _ _ h] at e1; rw [upd_ne _ _ h'] at e2; exact hM.livi s1 r1 v1 k1 s2 r2 v2 k2 b e1 h1 h2 e2

/-- A mark more. -/
def Gh.marked (g : Gh) (d r : Nat) (v : Value) (k : Nat) : Gh := ⟨g.pr, fun s r' => if s = d ∧ r' = r then some (v, k) else g.lv s r', g.bx⟩
theorem nextP_new (hM : Mem X w0 pr0 bx pm w g) (d : Nat) : g.lv d (nextP pm d) = none := by
  cases h : g.lv d (nextP pm d) with
  | none => rfl
  | some b =>
    obtain ⟨r', al, e, hle⟩ := hM.lvv _ _ _ h
    unfold nextP at hle
    rw [e] at hle
    simp at hle
    omega
theorem Later.marked (hM : Mem X w0 pr0 bx pm w g) (d : Nat) (v : Value) (k : Nat) : Later w g w (g.marked d (nextP pm d) v k) := by
  refine ⟨fun _ _ _ => rfl, fun _ _ h => h, fun s r u h => ?_, fun _ _ _ h => h, fun _ _ h => h⟩
  simp only [Gh.marked]
  split
  · rename_i e
    obtain ⟨rfl, rfl⟩ := e
    rw [nextP_new hM] at h
    simp at h
  · exact h
theorem Mem.marked (hM : Mem X w0 pr0 bx pm w g) (d : Nat) {v : Value} {k : Nat} (ho : Own w w0.heap.size g.pr k v)
    (hbx : ∀ b, v.ownBlock = some b → ∀ s n, ¬ LB bx g s b n) (hlv : ∀ b, v.ownBlock = some b → ∀ s r v' k', s ≠ d → pm s = some (r, true) → g.lv s r = some (v', k') → v'.ownBlock ≠ some b) :
    Mem X w0 pr0 bx (upd pm d (nextP pm d, true)) w (g.marked d (nextP pm d) v k) := by
  have hl := Later.marked hM d v k
  have hnew := nextP_new hM d
  refine ⟨hM.below, hM.old, hM.prn, hM.prlt, hM.bxv, hM.bxb, hM.bxi, ?_, ?_, ?_, ?_, ?_, hM.mpv, hM.mpi⟩
  · intro s r cs e hd
    obtain ⟨b, n, us, cur, T, k1, k2, k3, k4, k5, k6⟩ := hM.box s r cs e hd
    exact ⟨b, n, us, cur, T, k1, k2, k3, k4, RdL.later cs hl k5, k6⟩
  · intro s r u e
    simp only [Gh.marked] at e
    split at e
    · rename_i he
      obtain ⟨rfl, rfl⟩ := he
      exact ⟨_, _, upd_same _ _ _, Nat.le_refl _⟩
    · obtain ⟨r', al, e', hle⟩ := hM.lvv s r u e
      by_cases hs : d = s
      · subst hs
        refine ⟨_, _, upd_same _ _ _, ?_⟩
        unfold nextP
        rw [e']
        simp
        omega
      · exact ⟨r', al, by rw [upd_ne _ _ hs]; exact e', hle⟩
  · intro s r e
    by_cases hs : d = s
    · subst hs
      rw [upd_same] at e
      simp only [Option.some.injEq, Prod.mk.injEq] at e
      obtain ⟨rfl, _⟩ := e
      exact ⟨v, k, by simp [Gh.marked], ho⟩
    · rw [upd_ne _ _ hs] at e
      obtain ⟨u, k', k1, k2⟩ := hM.live s r e
      exact ⟨u, k', by simp only [Gh.marked]; rw [if_neg (fun h => hs h.1.symm)]; exact k1, k2⟩
  · intro s r u k' b e e' e''
    by_cases hs : d = s
    · subst hs
      rw [upd_same] at e
      simp only [Option.some.injEq, Prod.mk.injEq] at e
      obtain ⟨rfl, _⟩ := e
      simp only [Gh.marked, and_self, if_true, Option.some.injEq, Prod.mk.injEq] at e'
      obtain ⟨rfl, rfl⟩ := e'
      exact hbx b e''
    · rw [upd_ne _ _ hs] at e
      simp only [Gh.marked] at e'
      rw [if_neg (fun h => hs h.1.symm)] at e'
      exact hM.livb s r u k' b e e' e''
  · intro s1 r1 v1 k1 s2 r2 v2 k2 b e1 h1 j1 e2 h2 j2
    simp only [Gh.marked] at h1 h2
    by_cases hs : d = s1
    · by_cases hs' : d = s2
      · exact hs.symm.trans hs'
      · subst hs
        rw [upd_same] at e1
        simp only [Option.some.injEq, Prod.mk.injEq] at e1
        obtain ⟨rfl, _⟩ := e1
        simp only [and_self, if_true, Option.some.injEq, Prod.mk.injEq] at h1
        obtain ⟨rfl, rfl⟩ := h1
        rw [upd_ne _ _ hs'] at e2
        rw [if_neg (fun h => hs' h.1.symm)] at h2
        exact absurd j2 (hlv b j1 s2 r2 v2 k2 (fun h => hs' h.symm) e2 h2)
    · by_cases hs' : d = s2
      · subst hs'
        rw [upd_same] at e2
        simp only [Option.some.injEq, Prod.mk.injEq] at e2
        obtain ⟨rfl, _⟩ := e2
        simp only [and_self, if_true, Option.some.injEq, Prod.mk.injEq] at h2
        obtain ⟨rfl, rfl⟩ := h2
        rw [upd_ne _ _ hs] at e1
        rw [if_neg (fun h => hs h.1.symm)] at h1
        exact absurd j1 (hlv b j2 s1 r1 v1 k1 (fun h => hs h.symm) e1 h1)
      · rw [upd_ne _ _ hs] at e1
        rw [upd_ne _ _ hs'] at e2
        rw [if_neg (fun h => hs h.1.symm)] at h1
        rw [if_neg (fun h => hs' h.1.symm)] at h2
        exact hM.livi s1 r1 v1 k1 s2 r2 v2 k2 b e1 h1 j1 e2 h2 j2

/-- A block of the call's own is written: what is to stay in it has stayed. -/
theorem Mem.later_row (_hM : Mem X w0 pr0 bx pm w g) (b : Nat) (cs : Array Value) {old : Array Value} {T : TypeId} (hb : w.heap[b]? = some (.cells old T (0, 0)))
    (hk : ∀ o, g.pr b o → cs[o]? = old[o]?) : Later w g (w.setRow b cs) g := by
  refine ⟨fun b' o p => ?_, fun _ _ h => h, fun _ _ _ h => h, fun _ _ _ h => h, fun b' T' e => by rw [tyAt_setRow]; exact e⟩
  by_cases h : b' = b
  · subst h
    rw [cell_setRow_same w b' o old cs T (0, 0) hb, hk o p]
    simp [World.cell?, hb]
  · exact cell_setRow_other w b cs ⟨b', o, none⟩ h
theorem Mem.row (hM : Mem X w0 pr0 bx pm w g) (b : Nat) (cs : Array Value) {old : Array Value} {T : TypeId} (hb : w.heap[b]? = some (.cells old T (0, 0))) (hbase : w0.heap.size ≤ b)
    (hk : ∀ o, g.pr b o → cs[o]? = old[o]?) (hbx : ∀ s n, ¬ LB bx g s b n) (hlv : ∀ s r v k, pm s = some (r, true) → g.lv s r = some (v, k) → v.ownBlock ≠ some b) : Mem X w0 pr0 bx pm (w.setRow b cs) g := by
  have hl := hM.later_row b cs hb hk
  refine ⟨hM.below.row (.inl hbase) cs, hM.old, hM.prn, fun b' o p => by rw [setRow_size]; exact hM.prlt b' o p, hM.bxv, fun s b' n e => by rw [setRow_size]; exact hM.bxb s b' n e, hM.bxi, ?_, hM.lvv, ?_, hM.livb, hM.livi, fun s r l e => by obtain ⟨b', k1, k2, k3⟩ := hM.mpv s r l e; exact ⟨b', k1, k2.moved (setRow_other w b b' cs (k2.ne hb)), k3⟩, hM.mpi⟩
  · intro s r cs' e hd
    obtain ⟨b', n, us, cur, T', k1, k2, k3, k4, k5, k6⟩ := hM.box s r cs' e hd
    exact ⟨b', n, us, cur, T', k1, by rw [setRow_other w b b' cs (fun h => hbx s n (by rw [← h]; exact ⟨r, cs', e, hd, k1⟩))]; exact k2, k3, k4, RdL.later cs' hl k5, k6⟩
  · intro s r e
    obtain ⟨v, k, k1, k2⟩ := hM.live s r e
    exact ⟨v, k, k1, k2.moved fun b' hv => setRow_other w b b' cs (fun h => hlv s r v k e k1 (by rw [← h]; exact hv))⟩

/-- The block of a box is turned, of whatever kind the world behind it: all else is as it was. -/
theorem Mem.turned (hM : Mem X w0 pr0 bx pm w g) {s r : Nat} {cs cs' : List AV} (hs : bx s = some (r, cs)) (hd : deadC cs = false) {b n : Nat} (hgb : g.bx s r = some (b, n)) (hX : BelX (fun k => k = b) w w')
    {cur : Array Value} {T : TypeId} (hb : w'.heap[b]? = some (.cells cur T (0, 0))) (hn : cur.size = n) {us : List Value} (ht : cur.toList.take us.length = us) (hr : RdL w g cs' us) (h1 : ∀ u ∈ us, u.oneCell' = true) :
    Mem X w0 pr0 (upd bx s (r, cs')) pm w' g ∧ Later w g w' g := by
  have hLB : LB bx g s b n := ⟨r, cs, hs, hd, hgb⟩
  obtain ⟨hbase, hlt, hpr⟩ := hM.bxb s b n hLB
  have hl : Later w g w' g := ⟨fun b' o p => cell_of_block (hX.block b' (hM.prlt b' o p) (fun e => hpr o (by rw [← e]; exact p))) o, fun _ _ h => h, fun _ _ _ h => h, fun _ _ _ h => h, hX.ty⟩
  have toLB : ∀ {s' b' n'}, LB (upd bx s (r, cs')) g s' b' n' → LB bx g s' b' n' := by
    rintro s' b' n' ⟨r', c', e1, e2, e3⟩
    by_cases h : s = s'
    · subst h
      rw [upd_same] at e1
      simp only [Option.some.injEq, Prod.mk.injEq] at e1
      obtain ⟨rfl, rfl⟩ := e1
      exact ⟨r, cs, hs, hd, e3⟩
    · rw [upd_ne _ _ h] at e1
      exact ⟨r', c', e1, e2, e3⟩
  have hnm := not_map hr h1
  have toMp : ∀ {s' r' l}, upd bx s (r, cs') s' = some (r', mapC l) → bx s' = some (r', mapC l) := by
    intro s' r' l e
    by_cases h : s = s'
    · subst h
      rw [upd_same] at e
      simp only [Option.some.injEq, Prod.mk.injEq] at e
      exact absurd e.2 (hnm l)
    · rwa [upd_ne _ _ h] at e
  refine ⟨⟨hM.below.trans hX (fun k e => by subst e; exact hbase.imp id (·.2)), hM.old, hM.prn, fun b' o p => Nat.lt_of_lt_of_le (hM.prlt b' o p) hX.size, ?_, fun s' b' n' e => ?_, fun s1 s2 b' n1 n2 e e' => hM.bxi s1 s2 b' n1 n2 (toLB e) (toLB e'), ?_, hM.lvv, ?_,
    fun s' r' v k b' e e' e'' s2 n2 h => hM.livb s' r' v k b' e e' e'' s2 n2 (toLB h), hM.livi, fun s' r' l e => ?_, fun s1 s2 r1 r2 l1 l2 b' e e' => hM.mpi s1 s2 r1 r2 l1 l2 b' (toMp e) (toMp e')⟩, hl⟩
  · intro s' r' x e
    obtain ⟨r2, cs2, k1, k2⟩ := hM.bxv s' r' x e
    by_cases h : s = s'
    · subst h
      rw [hs] at k1
      simp only [Option.some.injEq, Prod.mk.injEq] at k1
      exact ⟨r, cs', upd_same _ _ _, by omega⟩
    · exact ⟨r2, cs2, by rw [upd_ne _ _ h]; exact k1, k2⟩
  · obtain ⟨k1, k2, k3⟩ := hM.bxb s' b' n' (toLB e)
    exact ⟨k1, Nat.lt_of_lt_of_le k2 hX.size, k3⟩
  · intro s' r' cs2 e hd2
    by_cases h : s = s'
    · subst h
      rw [upd_same] at e
      simp only [Option.some.injEq, Prod.mk.injEq] at e
      obtain ⟨rfl, rfl⟩ := e
      exact ⟨b, n, us, cur, T, hgb, hb, hn, ht, RdL.later cs' hl hr, h1⟩
    · rw [upd_ne _ _ h] at e
      obtain ⟨b', n', us', cur', T', k1, k2, k3, k4, k5, k6⟩ := hM.box s' r' cs2 e hd2
      refine ⟨b', n', us', cur', T', k1, ?_, k3, k4, RdL.later cs2 hl k5, k6⟩
      rw [hX.block b' (heap_lt k2) (fun e' => h (hM.bxi s s' b n n' hLB (by subst e'; exact ⟨r', cs2, e, hd2, k1⟩)))]
      exact k2
  · intro s' r' e
    obtain ⟨v, k, k1, k2⟩ := hM.live s' r' e
    refine ⟨v, k, k1, k2.moved fun b' hv => hX.block b' (k2.lt hv).2 (fun e' => ?_)⟩
    subst e'
    exact hM.livb s' r' v k _ e k1 hv s n hLB
  · obtain ⟨b', k1, k2, k3⟩ := hM.mpv s' r' l (toMp e)
    obtain ⟨b2, n2, us2, cur2, T2, j1, j2, _⟩ := hM.box s r cs hs hd
    rw [hgb] at j1
    simp only [Option.some.injEq, Prod.mk.injEq] at j1
    obtain ⟨rfl, rfl⟩ := j1
    exact ⟨b', k1, k2.moved (hX.block b' k2.lt (k2.ne j2)), k3⟩
theorem belX_setRow (w : World) (b : Nat) (cs : Array Value) : BelX (fun k => k = b) w (w.setRow b cs) := BelX.row (X := fun k => k = b) (BelX.refl _ w) (.inr rfl) cs
/-- A box is written. -/
theorem Mem.stored (hM : Mem X w0 pr0 bx pm w g) {s r : Nat} {cs cs' : List AV} (hs : bx s = some (r, cs)) (hd : deadC cs = false) {b n : Nat} (hgb : g.bx s r = some (b, n)) {old new : Array Value} {T : TypeId} (hb : w.heap[b]? = some (.cells old T (0, 0)))
    (hn : new.size = n) {us : List Value} (ht : new.toList.take us.length = us) (hr : RdL w g cs' us) (h1 : ∀ u ∈ us, u.oneCell' = true) : Mem X w0 pr0 (upd bx s (r, cs')) pm (w.setRow b new) g ∧ Later w g (w.setRow b new) g :=
  hM.turned hs hd hgb (belX_setRow w b new) (setRow_heap w b old new T (0, 0) hb) hn ht hr h1

/-- Many boxes' blocks are turned at once; new cells are to stay. -/
theorem Mem.turnedL (hM : Mem X w0 pr0 bx pm w g) {bx' : Bx} {Y : Nat → Prop} (hX : BelX Y w w') (hY : ∀ b, Y b → ∃ s n, LB bx g s b n) (Q : Nat → Nat → Prop) (hQ : ∀ b o, Q b o → w.heap.size ≤ b ∧ b < w'.heap.size)
    (hv : ∀ s r cs, bx s = some (r, cs) → ∃ cs', bx' s = some (r, cs')) (hmp : ∀ s r l, bx' s = some (r, mapC l) → bx s = some (r, mapC l))
    (H : ∀ s r cs', bx' s = some (r, cs') → deadC cs' = false → (bx s = some (r, cs') ∧ ∀ b n, g.bx s r = some (b, n) → ¬ Y b) ∨
      ∃ cs b n us cur T, bx s = some (r, cs) ∧ deadC cs = false ∧ g.bx s r = some (b, n) ∧ w'.heap[b]? = some (.cells cur T (0, 0)) ∧ cur.size = n ∧ cur.toList.take us.length = us ∧ RdL w' (g.more Q) cs' us ∧ ∀ u ∈ us, u.oneCell' = true) :
    Mem X w0 pr0 bx' pm w' (g.more Q) ∧ Later w g w' (g.more Q) := by
  have hYp : ∀ b o, Y b → ¬ g.pr b o := fun b o hb => by obtain ⟨s, n, h⟩ := hY b hb; exact (hM.bxb s b n h).2.2 o
  have hl : Later w g w' (g.more Q) := ⟨fun b' o p => cell_of_block (hX.block b' (hM.prlt b' o p) (fun e => hYp b' o e p)) o, fun _ _ h => .inl h, fun _ _ _ h => h, fun _ _ _ h => h, hX.ty⟩
  have toLB : ∀ {s' b' n'}, LB bx' (g.more Q) s' b' n' → LB bx g s' b' n' := by
    rintro s' b' n' ⟨r, c', e1, e2, e3⟩
    rcases H s' r c' e1 e2 with ⟨h1, _⟩ | ⟨cs, b, n, us, cur, T, h1, h2, h3, _⟩
    · exact ⟨r, c', h1, e2, e3⟩
    · exact ⟨r, cs, h1, h2, e3⟩
  have hnew : ∀ b o, Q b o → ∀ s n, ¬ LB bx g s b n := fun b o q s n h => by have := (hM.bxb s b n h).2.1; have := (hQ b o q).1; omega
  refine ⟨⟨hM.below.trans hX (fun k hk => ?_), fun b o p => .inl (hM.old b o p), ?_, ?_, ?_, ?_, fun s1 s2 b' n1 n2 e e' => hM.bxi s1 s2 b' n1 n2 (toLB e) (toLB e'), ?_, hM.lvv, ?_,
    fun s' r' v k b' e e' e'' s2 n2 h => hM.livb s' r' v k b' e e' e'' s2 n2 (toLB h), hM.livi, fun s' r' l e => ?_, fun s1 s2 r1 r2 l1 l2 b' e e' => hM.mpi s1 s2 r1 r2 l1 l2 b' (hmp _ _ _ e) (hmp _ _ _ e')⟩, hl⟩
  · obtain ⟨s, n, h⟩ := hY k hk
    exact (hM.bxb s k n h).1.imp id (·.2)
  · rintro b o (p | q)
    · exact hM.prn b o p
    · exact .inr (Nat.le_trans hM.below.size (hQ b o q).1)
  · rintro b o (p | q)
    · exact Nat.lt_of_lt_of_le (hM.prlt b o p) hX.size
    · exact (hQ b o q).2
  · intro s r x e
    obtain ⟨r', cs, h1, h2⟩ := hM.bxv s r x e
    obtain ⟨cs', h3⟩ := hv s r' cs h1
    exact ⟨r', cs', h3, h2⟩
  · intro s b n e
    obtain ⟨k1, k2, k3⟩ := hM.bxb s b n (toLB e)
    refine ⟨k1, Nat.lt_of_lt_of_le k2 hX.size, ?_⟩
    rintro o (p | q)
    · exact k3 o p
    · exact hnew b o q s n (toLB e)
  · intro s r cs' e hd
    rcases H s r cs' e hd with ⟨h1, h2⟩ | ⟨cs, b, n, us, cur, T, h1, h2, h3, h4, h5, h6, h7, h8⟩
    · obtain ⟨b, n, us, cur, T, k1, k2, k3, k4, k5, k6⟩ := hM.box s r cs' h1 hd
      exact ⟨b, n, us, cur, T, k1, by rw [hX.block b (heap_lt k2) (h2 b n k1)]; exact k2, k3, k4, RdL.later cs' hl k5, k6⟩
    · exact ⟨b, n, us, cur, T, h3, h4, h5, h6, h7, h8⟩
  · intro s r e
    obtain ⟨v, k, k1, k2⟩ := hM.live s r e
    refine ⟨v, k, k1, ?_⟩
    have k3 := k2.moved (w' := w') fun b' hv => hX.block b' (k2.lt hv).2 (fun hy => by obtain ⟨s2, n2, h⟩ := hY b' hy; exact hM.livb s r v k b' e k1 hv s2 n2 h)
    rcases k3 with rfl | ⟨b, n, cap, cur, T, rfl, j1, j2, j3, j4, j5⟩
    · exact .inl rfl
    · refine .inr ⟨b, n, cap, cur, T, rfl, j1, j2, j3, j4, fun o ho => ?_⟩
      rintro (p | q)
      · exact j5 o ho p
      · have := (k2.lt (b := b) rfl).2
        have := (hQ b o q).1
        omega
  · obtain ⟨b', k1, k2, k3⟩ := hM.mpv s' r' l (hmp _ _ _ e)
    refine ⟨b', k1, k2.moved (hX.block b' k2.lt fun hy => ?_), k3⟩
    obtain ⟨s, n, r2, cs2, e1, e2, e3⟩ := hY b' hy
    obtain ⟨b2, n2, us2, cur2, T2, j1, j2, _⟩ := hM.box s r2 cs2 e1 e2
    rw [e3] at j1
    simp only [Option.some.injEq, Prod.mk.injEq] at j1
    obtain ⟨rfl, rfl⟩ := j1
    exact k2.ne j2 rfl

/-- A new map. -/
theorem Mem.mapped (hM : Mem X w0 pr0 bx pm w g) (d : Nat) : Mem X w0 pr0 (upd bx d (nextB bx d, mapC [])) pm (w.alloc (.map #[] 0)) (g.boxed d (nextB bx d) w.heap.size 0) ∧ Later w g (w.alloc (.map #[] 0)) (g.boxed d (nextB bx d) w.heap.size 0) := by
  have hB : Below w.heap.size w (w.alloc (.map #[] 0)) := (Below.refl _ w).alloc (Nat.le_refl _) _
  have hM1 := hM.moved hB
  have hv := nextB_lt bx d
  have hnew := hM.ver hv
  have hl1 := hM.later_below hB
  have hl2 := Later.boxed (w.alloc (.map #[] 0)) g w.heap.size 0 hnew
  have hheap : (w.alloc (.map #[] 0)).heap[w.heap.size]? = some (.map #[] 0) := (MapKept.heap_alloc w _).1
  have toLB : ∀ {s b n}, LB (upd bx d (nextB bx d, mapC [])) (g.boxed d (nextB bx d) w.heap.size 0) s b n → s ≠ d ∧ LB bx g s b n := by
    rintro s b n ⟨r, cs, e1, e2, e3⟩
    by_cases hs : d = s
    · subst hs
      rw [upd_same] at e1
      simp only [Option.some.injEq, Prod.mk.injEq] at e1
      obtain ⟨rfl, rfl⟩ := e1
      simp [deadC_mapC] at e2
    · rw [upd_ne _ _ hs] at e1
      simp only [Gh.boxed] at e3
      rw [if_neg (fun h => hs h.1.symm)] at e3
      exact ⟨fun h => hs h.symm, r, cs, e1, e2, e3⟩
  have toG : ∀ {s r x}, s ≠ d → (g.boxed d (nextB bx d) w.heap.size 0).bx s r = some x → g.bx s r = some x := by
    intro s r x hs e
    simp only [Gh.boxed] at e
    rwa [if_neg (fun h => hs h.1)] at e
  refine ⟨⟨hM1.below, hM1.old, hM1.prn, hM1.prlt, ?_, fun s b n e => hM1.bxb s b n (toLB e).2, fun s s' b n n' e e' => hM1.bxi s s' b n n' (toLB e).2 (toLB e').2, ?_, hM1.lvv, hM1.live, fun s r v k b e e' e'' s' n h => hM1.livb s r v k b e e' e'' s' n (toLB h).2, hM1.livi, ?_, ?_⟩, hl1.trans hl2⟩
  · intro s r x e
    simp only [Gh.boxed] at e
    split at e
    · rename_i he
      obtain ⟨rfl, rfl⟩ := he
      exact ⟨_, _, upd_same _ _ _, Nat.le_refl _⟩
    · obtain ⟨r', cs', e', hle⟩ := hM.bxv s r x e
      by_cases hs : d = s
      · subst hs
        exact ⟨_, _, upd_same _ _ _, by have := hv r' cs' e'; omega⟩
      · exact ⟨r', cs', by rw [upd_ne _ _ hs]; exact e', hle⟩
  · intro s r cs e hd
    by_cases hs : d = s
    · subst hs
      rw [upd_same] at e
      simp only [Option.some.injEq, Prod.mk.injEq] at e
      obtain ⟨rfl, rfl⟩ := e
      simp [deadC_mapC] at hd
    · rw [upd_ne _ _ hs] at e
      obtain ⟨b', n', us', cur', T', k1, k2, k3, k4, k5, k6⟩ := hM1.box s r cs e hd
      exact ⟨b', n', us', cur', T', hl2.bx s r _ k1, k2, k3, k4, RdL.later cs hl2 k5, k6⟩
  · intro s r l e
    by_cases hs : d = s
    · subst hs
      rw [upd_same] at e
      simp only [Option.some.injEq, Prod.mk.injEq] at e
      obtain ⟨rfl, he⟩ := e
      have : l = [] := by
        have := mapOf_mapC l
        rw [← he, mapOf_mapC] at this
        simpa using this.symm
      subst this
      exact ⟨w.heap.size, g.boxed_same d _ _ _, ⟨#[], 0, hheap, rfl⟩, hM.below.size⟩
    · rw [upd_ne _ _ hs] at e
      obtain ⟨b', k1, k2, k3⟩ := hM1.mpv s r l e
      exact ⟨b', hl2.bx s r _ k1, k2, k3⟩
  · intro s s' r r' l l' b e e' k k'
    by_cases hs : d = s
    · by_cases hs' : d = s'
      · exact hs.symm.trans hs'
      · subst hs
        rw [upd_same] at e
        simp only [Option.some.injEq, Prod.mk.injEq] at e
        obtain ⟨rfl, _⟩ := e
        rw [Gh.boxed_same] at k
        simp only [Option.some.injEq, Prod.mk.injEq] at k
        obtain ⟨rfl, _⟩ := k
        rw [upd_ne _ _ hs'] at e'
        obtain ⟨b', j1, j2, _⟩ := hM.mpv s' r' l' e'
        rw [toG (fun h => hs' h.symm) k'] at j1
        simp only [Option.some.injEq, Prod.mk.injEq] at j1
        exact absurd j2.lt (by omega)
    · rw [upd_ne _ _ hs] at e
      by_cases hs' : d = s'
      · subst hs'
        rw [upd_same] at e'
        simp only [Option.some.injEq, Prod.mk.injEq] at e'
        obtain ⟨rfl, _⟩ := e'
        rw [Gh.boxed_same] at k'
        simp only [Option.some.injEq, Prod.mk.injEq] at k'
        obtain ⟨rfl, _⟩ := k'
        obtain ⟨b', j1, j2, _⟩ := hM.mpv s r l e
        rw [toG (fun h => hs h.symm) k] at j1
        simp only [Option.some.injEq, Prod.mk.injEq] at j1
        exact absurd j2.lt (by omega)
      · rw [upd_ne _ _ hs'] at e'
        exact hM1.mpi s s' r r' l l' b e e' (toG (fun h => hs h.symm) k) (toG (fun h => hs' h.symm) k')
/-- A map is turned. -/
theorem Mem.mapTurned (hM : Mem X w0 pr0 bx pm w g) {s r : Nat} {l l' : List (List UInt8 × Bool)} (hs : bx s = some (r, mapC l)) {b : Nat} (hgb : g.bx s r = some (b, 0)) {es : Array MapEntry} {clk : Nat}
    (he : es.toList.map (fun e => (e.key, e.val)) = l'.map fun p => (Value.string ⟨p.1.toArray⟩, Value.bool p.2)) :
    Mem X w0 pr0 (upd bx s (r, mapC l')) pm { w with heap := w.heap.setIfInBounds b (.map es clk) } g ∧ Later w g { w with heap := w.heap.setIfInBounds b (.map es clk) } g := by
  obtain ⟨b', h1, h2, h3⟩ := hM.mpv s r l hs
  rw [hgb] at h1
  simp only [Option.some.injEq, Prod.mk.injEq, and_true] at h1
  subst h1
  obtain ⟨es0, clk0, hh, _⟩ := h2
  obtain ⟨hnew, hold⟩ := MapKept.heap_set (o' := Obj.map es clk) hh
  have hcell : ∀ b' o, ({ w with heap := w.heap.setIfInBounds b (.map es clk) } : World).cell? ⟨b', o, none⟩ = w.cell? ⟨b', o, none⟩ := by
    intro b' o
    by_cases h : b' = b
    · subst h
      simp only [World.cell?]
      rw [hnew, hh]
    · exact cell_of_block (hold b' h) o
  have hty : ∀ b' T, tyAt w b' = some T → tyAt { w with heap := w.heap.setIfInBounds b (.map es clk) } b' = some T := by
    intro b' T e
    by_cases h : b' = b
    · subst h
      simp [tyAt, hh] at e
    · rw [tyAt_block (w := w) (hold b' h)]
      exact e
  have hl : Later w g { w with heap := w.heap.setIfInBounds b (.map es clk) } g := ⟨fun b' o _ => hcell b' o, fun _ _ h => h, fun _ _ _ h => h, fun _ _ _ h => h, hty⟩
  have hX : BelX (fun k => k = b) w { w with heap := w.heap.setIfInBounds b (.map es clk) } := ⟨rfl, rfl, rfl, by simp, fun k _ hk => hold k hk, hty⟩
  have toBx : ∀ {s' r' cs}, upd bx s (r, mapC l') s' = some (r', cs) → deadC cs = false → s' ≠ s ∧ bx s' = some (r', cs) := by
    intro s' r' cs e hd
    by_cases h : s = s'
    · subst h
      rw [upd_same] at e
      simp only [Option.some.injEq, Prod.mk.injEq] at e
      obtain ⟨rfl, rfl⟩ := e
      simp [deadC_mapC] at hd
    · rw [upd_ne _ _ h] at e
      exact ⟨fun k => h k.symm, e⟩
  have toLB : ∀ {s' b' n'}, LB (upd bx s (r, mapC l')) g s' b' n' → LB bx g s' b' n' := by
    rintro s' b' n' ⟨r', cs, e1, e2, e3⟩
    exact ⟨r', cs, (toBx e1 e2).2, e2, e3⟩
  have nb : ∀ {b' : Nat} {cs : Array Value} {T : TypeId} {z : Nat × Nat}, w.heap[b']? = some (.cells cs T z) → b' ≠ b := by
    rintro b' cs T z k rfl
    rw [hh] at k
    simp at k
  refine ⟨⟨hM.below.trans hX (fun k e => by subst e; exact .inl h3), hM.old, hM.prn, fun b' o p => Nat.lt_of_lt_of_le (hM.prlt b' o p) hX.size, ?_, fun s' b' n' e => ?_, fun s1 s2 b' n1 n2 e e' => hM.bxi s1 s2 b' n1 n2 (toLB e) (toLB e'), ?_, hM.lvv, ?_,
    fun s' r' v k b' e e' e'' s2 n2 h => hM.livb s' r' v k b' e e' e'' s2 n2 (toLB h), hM.livi, ?_, ?_⟩, hl⟩
  · intro s' r' x e
    obtain ⟨r2, cs2, k1, k2⟩ := hM.bxv s' r' x e
    by_cases h : s = s'
    · subst h
      rw [hs] at k1
      simp only [Option.some.injEq, Prod.mk.injEq] at k1
      exact ⟨r, _, upd_same _ _ _, by omega⟩
    · exact ⟨r2, cs2, by rw [upd_ne _ _ h]; exact k1, k2⟩
  · obtain ⟨k1, k2, k3⟩ := hM.bxb s' b' n' (toLB e)
    exact ⟨k1, Nat.lt_of_lt_of_le k2 hX.size, k3⟩
  · intro s' r' cs e hd
    obtain ⟨hne, e⟩ := toBx e hd
    obtain ⟨b', n', us', cur', T', k1, k2, k3, k4, k5, k6⟩ := hM.box s' r' cs e hd
    exact ⟨b', n', us', cur', T', k1, (hold b' (nb k2)).trans k2, k3, k4, RdL.later cs hl k5, k6⟩
  · intro s' r' e
    obtain ⟨v, k, k1, k2⟩ := hM.live s' r' e
    refine ⟨v, k, k1, ?_⟩
    rcases k2 with rfl | ⟨b', n, cap, cur, T, rfl, j1, j2, j3⟩
    · exact .inl rfl
    · exact .inr ⟨b', n, cap, cur, T, rfl, j1, (hold b' (nb j2)).trans j2, j3⟩
  · intro s' r' l2 e
    by_cases h : s = s'
    · subst h
      rw [upd_same] at e
      simp only [Option.some.injEq, Prod.mk.injEq] at e
      obtain ⟨rfl, e⟩ := e
      have : l' = l2 := by
        have := mapOf_mapC l2
        rw [← e, mapOf_mapC] at this
        simpa using this
      subst this
      exact ⟨b, hgb, ⟨es, clk, hnew, he⟩, h3⟩
    · rw [upd_ne _ _ h] at e
      obtain ⟨b', k1, k2, k3⟩ := hM.mpv s' r' l2 e
      refine ⟨b', k1, k2.moved (hold b' ?_), k3⟩
      rintro rfl
      exact h (hM.mpi s s' r r' l l2 b' hs e hgb k1)
  · intro s1 s2 r1 r2 l1 l2 b' e e' k k'
    have back : ∀ {s' r' l2}, upd bx s (r, mapC l') s' = some (r', mapC l2) → ∃ l3, bx s' = some (r', mapC l3) := by
      intro s' r' l2 e
      by_cases h : s = s'
      · subst h
        rw [upd_same] at e
        simp only [Option.some.injEq, Prod.mk.injEq] at e
        obtain ⟨rfl, _⟩ := e
        exact ⟨l, hs⟩
      · rw [upd_ne _ _ h] at e
        exact ⟨l2, e⟩
    obtain ⟨l3, f1⟩ := back e
    obtain ⟨l4, f2⟩ := back e'
    exact hM.mpi s1 s2 r1 r2 l3 l4 b' f1 f2 k k'
end
end Go.Proofs.YtpkeiffclipjmaaGreatDoor.Rx
