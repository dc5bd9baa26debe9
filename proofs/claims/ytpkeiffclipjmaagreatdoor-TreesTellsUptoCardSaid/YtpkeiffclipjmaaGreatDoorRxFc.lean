/-
  Functions told by hand: the tree's fault.
-/
import Derived.Test.YtpkeiffclipjmaaGreatDoorRxFb
namespace Go.Proofs.YtpkeiffclipjmaaGreatDoor.Rx
open Go Go.RowKit
set_option maxRecDepth 100000
set_option linter.unusedSimpArgs false

theorem fault_d (w : World) (m : Nat) (l : Lim) (p : List UInt8) (a : Option Addr) (cap : Nat) (n : Nat) (d : List UInt8) (k7 : Bool) (k9 : Bool) (Inv : World → Prop) (F : FaultBy w m l p a cap 0 n false d false k7 k9 Inv) (h2 : ¬ 1 < n) (hd : d ≠ []) :
    Calls Tryz.prog 55 #[treeV (.map (some m)) l, sV p] w fun ev w' => ev = .returned (.iface 85 (.int .i64 6)) ∧ Below w.heap.size w w' := by
  have mixed := mixed_
  have hL := F.lk
  have he : errV 0 = .nilIface := rfl
  have hP := F.hpath
  rw [he] at hP
  have hW := fun n W => Er.wrong_ n W
  have h2' : ¬ (1 : Int) < n := by omega
  have h2'' : ¬ (n : Int) > 1 := by omega
  have hg : d.isEmpty = false := by cases d with | nil => exact absurd rfl hd | cons => rfl
  have I := F.i0
  clear he h2 hd
  go_enter Tryz.func55, Tryz.ntmps55
  go_wp2_with (first
    | (go_at_call 48
       refine (F.hdir _ I).mono ?_
       rintro ev w1 ⟨rfl, I1⟩
       obtain ⟨c0, c1, c2, c3⟩ := F.ct _ I1)
    | (go_at_call 76
       refine (hP _ I1).mono ?_
       rintro ev w2 ⟨rfl, I2⟩
       have cl := F.cl _ I2
       clear c0 c1 c2 c3)
    | (go_at_call 74
       refine (F.hk _ I2).mono ?_
       rintro ev w3 ⟨rfl, I3⟩
       obtain ⟨c0, c1, c2, c3⟩ := F.ct _ I3)
    | (go_at_call 78
       refine (F.hd _ I3).mono ?_
       rintro ev w4 ⟨rfl, I4⟩)
    | (go_at_call 44
       refine (hW _ _).mono ?_
       rintro ev w7 ⟨rfl, rfl⟩))
  go_ret
  exact ⟨rfl, F.bl _ I4⟩

theorem fault_e1 (w : World) (m : Nat) (l : Lim) (p : List UInt8) (a : Option Addr) (cap : Nat) (n : Nat) (dth : Bool) (k9 : Bool) (Inv : World → Prop) (F : FaultBy w m l p a cap 0 n false [] dth true k9 Inv) (h2 : ¬ 1 < n) :
    Calls Tryz.prog 55 #[treeV (.map (some m)) l, sV p] w fun ev w' => ev = .returned (.iface 85 (.int .i64 7)) ∧ Below w.heap.size w w' := by
  have mixed := mixed_
  have hL := F.lk
  have he : errV 0 = .nilIface := rfl
  have hP := F.hpath
  rw [he] at hP
  have hW := fun n W => Er.wrong_ n W
  have h2' : ¬ (1 : Int) < n := by omega
  have h2'' : ¬ (n : Int) > 1 := by omega
  have I := F.i0
  clear he h2
  go_enter Tryz.func55, Tryz.ntmps55
  go_wp2_with (first
    | (go_at_call 48
       refine (F.hdir _ I).mono ?_
       rintro ev w1 ⟨rfl, I1⟩
       obtain ⟨c0, c1, c2, c3⟩ := F.ct _ I1)
    | (go_at_call 76
       refine (hP _ I1).mono ?_
       rintro ev w2 ⟨rfl, I2⟩
       have cl := F.cl _ I2
       clear c0 c1 c2 c3)
    | (go_at_call 74
       refine (F.hk _ I2).mono ?_
       rintro ev w3 ⟨rfl, I3⟩
       obtain ⟨c0, c1, c2, c3⟩ := F.ct _ I3)
    | (go_at_call 74
       refine (F.hl _ I3).mono ?_
       rintro ev w5 ⟨rfl, I5⟩)
    | (go_at_call 44
       refine (hW _ _).mono ?_
       rintro ev w7 ⟨rfl, rfl⟩))
  go_ret
  exact ⟨rfl, F.bl _ I5⟩

theorem fault_f1 (w : World) (m : Nat) (l : Lim) (p : List UInt8) (a : Option Addr) (cap : Nat) (n : Nat) (dth : Bool) (Inv : World → Prop) (F : FaultBy w m l p a cap 0 n false [] dth false true Inv) (h2 : ¬ 1 < n) :
    Calls Tryz.prog 55 #[treeV (.map (some m)) l, sV p] w fun ev w' => ev = .returned (.iface 85 (.int .i64 9)) ∧ Below w.heap.size w w' := by
  have mixed := mixed_
  have hL := F.lk
  have he : errV 0 = .nilIface := rfl
  have hP := F.hpath
  rw [he] at hP
  have hW := fun n W => Er.wrong_ n W
  have h2' : ¬ (1 : Int) < n := by omega
  have h2'' : ¬ (n : Int) > 1 := by omega
  have I := F.i0
  clear he h2
  go_enter Tryz.func55, Tryz.ntmps55
  go_wp2_with (first
    | (go_at_call 48
       refine (F.hdir _ I).mono ?_
       rintro ev w1 ⟨rfl, I1⟩
       obtain ⟨c0, c1, c2, c3⟩ := F.ct _ I1)
    | (go_at_call 76
       refine (hP _ I1).mono ?_
       rintro ev w2 ⟨rfl, I2⟩
       have cl := F.cl _ I2
       clear c0 c1 c2 c3)
    | (go_at_call 74
       refine (F.hk _ I2).mono ?_
       rintro ev w3 ⟨rfl, I3⟩
       obtain ⟨c0, c1, c2, c3⟩ := F.ct _ I3)
    | (go_at_call 74
       refine (F.hl _ I3).mono ?_
       rintro ev w5 ⟨rfl, I5⟩)
    | (go_at_call 74
       refine (F.hb _ I5).mono ?_
       rintro ev w6 ⟨rfl, I6⟩)
    | (go_at_call 44
       refine (hW _ _).mono ?_
       rintro ev w7 ⟨rfl, rfl⟩))
  go_ret
  exact ⟨rfl, F.bl _ I6⟩

theorem fault_g1 (w : World) (m : Nat) (l : Lim) (p : List UInt8) (a : Option Addr) (cap : Nat) (n : Nat) (dth : Bool) (Inv : World → Prop) (F : FaultBy w m l p a cap 0 n false [] dth false false Inv) (h2 : ¬ 1 < n) :
    Calls Tryz.prog 55 #[treeV (.map (some m)) l, sV p] w fun ev w' => ev = .returned (.nilIface) ∧ Below w.heap.size w w' := by
  have mixed := mixed_
  have hL := F.lk
  have he : errV 0 = .nilIface := rfl
  have hP := F.hpath
  rw [he] at hP
  have hW := fun n W => Er.wrong_ n W
  have h2' : ¬ (1 : Int) < n := by omega
  have h2'' : ¬ (n : Int) > 1 := by omega
  have I := F.i0
  clear he h2
  go_enter Tryz.func55, Tryz.ntmps55
  go_wp2_with (first
    | (go_at_call 48
       refine (F.hdir _ I).mono ?_
       rintro ev w1 ⟨rfl, I1⟩
       obtain ⟨c0, c1, c2, c3⟩ := F.ct _ I1)
    | (go_at_call 76
       refine (hP _ I1).mono ?_
       rintro ev w2 ⟨rfl, I2⟩
       have cl := F.cl _ I2
       clear c0 c1 c2 c3)
    | (go_at_call 74
       refine (F.hk _ I2).mono ?_
       rintro ev w3 ⟨rfl, I3⟩
       obtain ⟨c0, c1, c2, c3⟩ := F.ct _ I3)
    | (go_at_call 74
       refine (F.hl _ I3).mono ?_
       rintro ev w5 ⟨rfl, I5⟩)
    | (go_at_call 74
       refine (F.hb _ I5).mono ?_
       rintro ev w6 ⟨rfl, I6⟩))
  go_ret
  exact ⟨rfl, F.bl _ I6⟩

theorem fault_e2 (w : World) (m : Nat) (l : Lim) (p : List UInt8) (a : Option Addr) (cap : Nat) (n : Nat) (d : List UInt8) (k9 : Bool) (Inv : World → Prop) (F : FaultBy w m l p a cap 0 n false d true true k9 Inv) (h2 : ¬ 1 < n) (hd : d ≠ []) :
    Calls Tryz.prog 55 #[treeV (.map (some m)) l, sV p] w fun ev w' => ev = .returned (.iface 85 (.int .i64 7)) ∧ Below w.heap.size w w' := by
  have mixed := mixed_
  have hL := F.lk
  have he : errV 0 = .nilIface := rfl
  have hP := F.hpath
  rw [he] at hP
  have hW := fun n W => Er.wrong_ n W
  have h2' : ¬ (1 : Int) < n := by omega
  have h2'' : ¬ (n : Int) > 1 := by omega
  have hg : d.isEmpty = false := by cases d with | nil => exact absurd rfl hd | cons => rfl
  have I := F.i0
  clear he h2 hd
  go_enter Tryz.func55, Tryz.ntmps55
  go_wp2_with (first
    | (go_at_call 48
       refine (F.hdir _ I).mono ?_
       rintro ev w1 ⟨rfl, I1⟩
       obtain ⟨c0, c1, c2, c3⟩ := F.ct _ I1)
    | (go_at_call 76
       refine (hP _ I1).mono ?_
       rintro ev w2 ⟨rfl, I2⟩
       have cl := F.cl _ I2
       clear c0 c1 c2 c3)
    | (go_at_call 74
       refine (F.hk _ I2).mono ?_
       rintro ev w3 ⟨rfl, I3⟩
       obtain ⟨c0, c1, c2, c3⟩ := F.ct _ I3)
    | (go_at_call 78
       refine (F.hd _ I3).mono ?_
       rintro ev w4 ⟨rfl, I4⟩)
    | (go_at_call 74
       refine (F.hl _ I4).mono ?_
       rintro ev w5 ⟨rfl, I5⟩)
    | (go_at_call 44
       refine (hW _ _).mono ?_
       rintro ev w7 ⟨rfl, rfl⟩))
  go_ret
  exact ⟨rfl, F.bl _ I5⟩

theorem fault_f2 (w : World) (m : Nat) (l : Lim) (p : List UInt8) (a : Option Addr) (cap : Nat) (n : Nat) (d : List UInt8) (Inv : World → Prop) (F : FaultBy w m l p a cap 0 n false d true false true Inv) (h2 : ¬ 1 < n) (hd : d ≠ []) :
    Calls Tryz.prog 55 #[treeV (.map (some m)) l, sV p] w fun ev w' => ev = .returned (.iface 85 (.int .i64 9)) ∧ Below w.heap.size w w' := by
  have mixed := mixed_
  have hL := F.lk
  have he : errV 0 = .nilIface := rfl
  have hP := F.hpath
  rw [he] at hP
  have hW := fun n W => Er.wrong_ n W
  have h2' : ¬ (1 : Int) < n := by omega
  have h2'' : ¬ (n : Int) > 1 := by omega
  have hg : d.isEmpty = false := by cases d with | nil => exact absurd rfl hd | cons => rfl
  have I := F.i0
  clear he h2 hd
  go_enter Tryz.func55, Tryz.ntmps55
  go_wp2_with (first
    | (go_at_call 48
       refine (F.hdir _ I).mono ?_
       rintro ev w1 ⟨rfl, I1⟩
       obtain ⟨c0, c1, c2, c3⟩ := F.ct _ I1)
    | (go_at_call 76
       refine (hP _ I1).mono ?_
       rintro ev w2 ⟨rfl, I2⟩
       have cl := F.cl _ I2
       clear c0 c1 c2 c3)
    | (go_at_call 74
       refine (F.hk _ I2).mono ?_
       rintro ev w3 ⟨rfl, I3⟩
       obtain ⟨c0, c1, c2, c3⟩ := F.ct _ I3)
    | (go_at_call 78
       refine (F.hd _ I3).mono ?_
       rintro ev w4 ⟨rfl, I4⟩)
    | (go_at_call 74
       refine (F.hl _ I4).mono ?_
       rintro ev w5 ⟨rfl, I5⟩)
    | (go_at_call 74
       refine (F.hb _ I5).mono ?_
       rintro ev w6 ⟨rfl, I6⟩)
    | (go_at_call 44
       refine (hW _ _).mono ?_
       rintro ev w7 ⟨rfl, rfl⟩))
  go_ret
  exact ⟨rfl, F.bl _ I6⟩

theorem fault_g2 (w : World) (m : Nat) (l : Lim) (p : List UInt8) (a : Option Addr) (cap : Nat) (n : Nat) (d : List UInt8) (Inv : World → Prop) (F : FaultBy w m l p a cap 0 n false d true false false Inv) (h2 : ¬ 1 < n) (hd : d ≠ []) :
    Calls Tryz.prog 55 #[treeV (.map (some m)) l, sV p] w fun ev w' => ev = .returned (.nilIface) ∧ Below w.heap.size w w' := by
  have mixed := mixed_
  have hL := F.lk
  have he : errV 0 = .nilIface := rfl
  have hP := F.hpath
  rw [he] at hP
  have hW := fun n W => Er.wrong_ n W
  have h2' : ¬ (1 : Int) < n := by omega
  have h2'' : ¬ (n : Int) > 1 := by omega
  have hg : d.isEmpty = false := by cases d with | nil => exact absurd rfl hd | cons => rfl
  have I := F.i0
  clear he h2 hd
  go_enter Tryz.func55, Tryz.ntmps55
  go_wp2_with (first
    | (go_at_call 48
       refine (F.hdir _ I).mono ?_
       rintro ev w1 ⟨rfl, I1⟩
       obtain ⟨c0, c1, c2, c3⟩ := F.ct _ I1)
    | (go_at_call 76
       refine (hP _ I1).mono ?_
       rintro ev w2 ⟨rfl, I2⟩
       have cl := F.cl _ I2
       clear c0 c1 c2 c3)
    | (go_at_call 74
       refine (F.hk _ I2).mono ?_
       rintro ev w3 ⟨rfl, I3⟩
       obtain ⟨c0, c1, c2, c3⟩ := F.ct _ I3)
    | (go_at_call 78
       refine (F.hd _ I3).mono ?_
       rintro ev w4 ⟨rfl, I4⟩)
    | (go_at_call 74
       refine (F.hl _ I4).mono ?_
       rintro ev w5 ⟨rfl, I5⟩)
    | (go_at_call 74
       refine (F.hb _ I5).mono ?_
       rintro ev w6 ⟨rfl, I6⟩))
  go_ret
  exact ⟨rfl, F.bl _ I6⟩

end Go.Proofs.YtpkeiffclipjmaaGreatDoor.Rx
namespace Go.Proofs.YtpkeiffclipjmaaGreatDoor.Rx
open Go Go.RowKit
set_option maxRecDepth 100000
set_option linter.unusedSimpArgs false

theorem fault_by {w : World} {m : Nat} {l : Lim} {p : List UInt8} {a : Option Addr} {cap : Nat} {e : Int} {n : Nat} {k5 : Bool} {d : List UInt8} {dth k7 k9 : Bool} {Inv : World → Prop} (F : FaultBy w m l p a cap e n k5 d dth k7 k9 Inv) :
    Calls Tryz.prog 55 #[treeV (.map (some m)) l, sV p] w fun ev w' => ev = .returned (errV (faultE e n k5 d dth k7 k9)) ∧ Below w.heap.size w w' := by
  unfold faultE
  by_cases h1 : e = 0
  · subst h1
    rw [if_neg (by simp)]
    by_cases h2 : 1 < n
    · rw [if_pos h2]
      exact fault_b w m l p a cap n k5 d dth k7 k9 Inv F h2
    · rw [if_neg h2]
      cases k5 with
      | true => exact fault_c w m l p a cap n d dth k7 k9 Inv F h2
      | false =>
        rw [if_neg (by simp)]
        by_cases h3 : d = []
        · subst h3
          rw [if_neg (by simp)]
          cases k7 with
          | true => exact fault_e1 w m l p a cap n dth k9 Inv F h2
          | false =>
            cases k9 with
            | true => exact fault_f1 w m l p a cap n dth Inv F h2
            | false => exact fault_g1 w m l p a cap n dth Inv F h2
        · cases dth with
          | false =>
            rw [if_pos ⟨h3, rfl⟩]
            exact fault_d w m l p a cap n d k7 k9 Inv F h2 h3
          | true =>
            rw [if_neg (by simp)]
            cases k7 with
            | true => exact fault_e2 w m l p a cap n d k9 Inv F h2 h3
            | false =>
              cases k9 with
              | true => exact fault_f2 w m l p a cap n d Inv F h2 h3
              | false => exact fault_g2 w m l p a cap n d Inv F h2 h3
  · rw [if_pos h1]
    have := fault_a w m l p a cap e n k5 d dth k7 k9 Inv F h1
    rw [errV, if_neg h1]
    exact this
/-- A tree in memory: its items at a path. -/
def RowAt (w : World) (D : List (List UInt8 × Value)) (q : List UInt8) (t : List It) : Prop := ∃ a cap, (vget q D).getD (.slice none 0 0) = .slice a t.length cap ∧ ItRow w a t cap ∧ t.length ≤ 9223372036854775807
theorem RowAt.below {w w' : World} {D : List (List UInt8 × Value)} {q : List UInt8} {t : List It} (h : RowAt w D q t) (hb : Below w.heap.size w w') : RowAt w' D q t := by
  obtain ⟨a, cap, h1, h2, h3⟩ := h
  exact ⟨a, cap, h1, h2.below hb, h3⟩
theorem fault_call (m : Nat) (l : Lim) (p : List UInt8) (D : List (List UInt8 × Value)) (t td : List It) (w : World) (hG : Gs w) (hs : p.length ≤ bigT) (hD : MapIs w m D) (h1 : RowAt w D p t) (h2 : RowAt w D (dirF p) td) :
    Calls Tryz.prog 55 #[treeV (.map (some m)) l, sV p] w fun ev w' => ev = .returned (errV (faultE (pathE l p) t.length (t.any fun x => some1 x 0 5) (dirF p) (td.any fun x => decide (x.kind = 1)) (t.any fun x => decide (l.size < (x.data.length : Int))) (t.any fun x => x.bad))) ∧ Below w.heap.size w w' := by
  obtain ⟨a, cap, e1, r1, big1⟩ := h1
  obtain ⟨a2, cap2, e2, r2, big2⟩ := h2
  obtain ⟨W0, hW0⟩ : ∃ W0, W0 = w.alloc (.cells #[.map (some m), .int .i64 l.depth, .int .i64 l.size, .int .i64 l.count] 89) := ⟨_, rfl⟩
  obtain ⟨W1, hW1⟩ : ∃ W1, W1 = W0.alloc (.cells #[.slice a t.length cap] 22) := ⟨_, rfl⟩
  have s0 : W0.heap.size = w.heap.size + 1 := by rw [hW0]; simp
  have s1 : W1.heap.size = w.heap.size + 2 := by rw [hW1]; simp [s0]
  have b0 : Below w.heap.size w W0 := by rw [hW0]; exact (Below.refl _ w).alloc (Nat.le_refl _) _
  have b1 : Below w.heap.size w W1 := by rw [hW1]; exact b0.alloc (by omega) _
  have n0 : W1.heap[w.heap.size]? = some (.cells #[.map (some m), .int .i64 l.depth, .int .i64 l.size, .int .i64 l.count] 89 (0, 0)) := by
    rw [hW1, Er.hOld _ _ (by omega), hW0, Er.hNew _ _ rfl]
  have n1 : W1.heap[w.heap.size + 1]? = some (.cells #[.slice a t.length cap] 22 (0, 0)) := by rw [hW1, Er.hNew _ _ s0.symm]
  have inv : ∀ W, Below W1.heap.size W1 W → Below w.heap.size w W := fun W h => b1.trans (h.mono (by omega))
  have cl : ∀ W, Below W1.heap.size W1 W → W.cell? ⟨w.heap.size + 1, 0, none⟩ = some (.slice a t.length cap) := fun W h => by
    rw [Er.cell_heap (by rw [h.block _ (by omega)]; exact n1)]; rfl
  have nx : ∀ W W', Below W1.heap.size W1 W → Below W.heap.size W W' → Below W1.heap.size W1 W' := fun W W' h h' => h.trans (h'.mono h.size)
  have ct : ∀ W, Below W1.heap.size W1 W → ∀ o v, (#[Value.map (some m), .int .i64 l.depth, .int .i64 l.size, .int .i64 l.count] : Array Value)[o]? = some v → W.cell? ⟨w.heap.size, o, none⟩ = some v := fun W h o v hv => by
    rw [Er.cell_heap (by rw [h.block _ (by omega)]; exact n0)]; exact hv
  have hz : W1.heap.size ≤ W1.heap.size := Nat.le_refl _
  refine fault_by (a := a) (cap := cap) (Inv := fun W => Below W1.heap.size W1 W) ?_
  have some_ : ∀ (q : It → Bool) (g : Nat) (lb : Array Value), (∀ args w, (callFunc g args).run Tryz.prog w = .ok (.enter g args) w) → (∀ W, Below W1.heap.size W1 W → PredBelow Tryz.prog g lb vI q W) → ∀ W, Below W1.heap.size W1 W →
      Calls Tryz.prog 74 #[.func (.func g) #[] lb, .pointer (some ⟨w.heap.size + 1, 0, none⟩)] W fun ev w' => ev = .returned (.bool (t.any q)) ∧ Below W1.heap.size W1 w' := fun q g lb eg hp W hW => by
    refine (some_call q g lb eg (w.heap.size + 1) a cap t W (cl W hW) (hp W hW) big1 (r1.below (inv W hW))).mono ?_
    rintro ev w' ⟨rfl, hb⟩
    exact ⟨rfl, nx W w' hW hb⟩
  refine { lk := ?_, i0 := ?_, drew := fun W h => below_dN h 1, bl := inv, ct := fun W h => ⟨ct W h 0 _ rfl, ct W h 1 _ rfl, ct W h 2 _ rfl, ct W h 3 _ rfl⟩, cl := cl, hdir := ?_, hpath := ?_, hk := ?_, hl := ?_, hb := ?_, hd := ?_ }
  · have := vget_run (P := Tryz.prog) (t := 87) Tryz.underlying87 Tryz.underlying9 (et := 22) (z := .slice none 0 0) (by kernel_rfl) (hD.below b0) p
    rw [e1, hW0] at this
    exact this
  · rw [hW1, hW0]; exact Below.refl _ _
  · intro W hW
    refine (dir_call p hs W (hG.below (inv W hW))).mono ?_
    rintro ev w' ⟨rfl, hb⟩
    exact ⟨rfl, nx W w' hW hb⟩
  · intro W hW
    refine (path_call _ l p hs W (hG.below (inv W hW))).mono ?_
    rintro ev w' ⟨rfl, hb⟩
    exact ⟨rfl, nx W w' hW hb⟩
  · exact some_ _ 77 #[] (enters_of Tryz.func77 (by kernel_rfl) rfl) (fun W _ => kind_pred W)
  · exact some_ _ 79 _ (enters_of Tryz.func79 (by kernel_rfl) rfl) (fun W hW => long_pred l.size w.heap.size W (by have := hW.size; omega) (ct W hW 2 _ rfl))
  · exact some_ _ 80 #[] (enters_of Tryz.func80 (by kernel_rfl) rfl) (fun W _ => bad_pred W)
  · intro W hW
    refine (tree_dir_call m l (dirF p) D td a2 cap2 W (hD.below (inv W hW)) e2 big2 (r2.below (inv W hW))).mono ?_
    rintro ev w' ⟨rfl, hb⟩
    exact ⟨rfl, nx W w' hW hb⟩
end Go.Proofs.YtpkeiffclipjmaaGreatDoor.Rx
namespace Go.Proofs.YtpkeiffclipjmaaGreatDoor.Rx
open Go Go.RowKit
set_option linter.unusedSimpArgs false

def atP (t : List It) (p : List UInt8) : List It := t.filter fun x => decide (x.path = p)
theorem atP_any (t : List It) (p : List UInt8) (q : It → Bool) : (atP t p).any q = t.any fun x => decide (x.path = p) && q x := by
  unfold atP
  rw [List.any_filter]
theorem faultE_eq (t : List It) (l : Lim) (p : List UInt8) : faultE (pathE l p) (atP t p).length ((atP t p).any fun x => some1 x 0 5) (dirF p) ((atP t (dirF p)).any fun x => decide (x.kind = 1)) ((atP t p).any fun x => decide (l.size < (x.data.length : Int))) ((atP t p).any fun x => x.bad) = faultF t l p := by
  have e5 : ((atP t p).any fun x => some1 x 0 5) = someB t p l.size 5 := by rw [atP_any]; rfl
  have e7 : ((atP t p).any fun x => decide (l.size < (x.data.length : Int))) = someB t p l.size 7 := by rw [atP_any]; rfl
  have e9 : ((atP t p).any fun x => x.bad) = someB t p l.size 9 := by rw [atP_any]; rfl
  have ed : ((atP t (dirF p)).any fun x => decide (x.kind = 1)) = dirB t (dirF p) := by rw [atP_any]; rfl
  rw [e5, e7, e9, ed]
  unfold faultE faultF pathE
  by_cases h1 : check01F p = 0
  · by_cases h2 : l.depth < (partsF p).length
    · simp [h1, h2]
    · simp only [h1, h2, ne_eq, not_true_eq_false, if_false]
      rfl
  · simp [h1]
end Go.Proofs.YtpkeiffclipjmaaGreatDoor.Rx
