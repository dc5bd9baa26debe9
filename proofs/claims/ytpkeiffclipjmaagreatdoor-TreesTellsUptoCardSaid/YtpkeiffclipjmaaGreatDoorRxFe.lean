/-
  Functions told by hand: paths sorted; what check's loop keeps.
-/
import Derived.Test.YtpkeiffclipjmaaGreatDoorRxCa
import Derived.WalkKit
import Derived.WalkLawsBesides
import Derived.Tactics2
import Derived.Recover
import Derived.KernelRfl
import Derived.RegionTactic
import Derived.Deep.RegionWith
import Derived.Deep.QuietTactic
import Derived.Sort.Row
import Derived.Deep.LoopGhost
import Derived.Lib.MinMax
import Derived.Test.YtpkeiffclipjmaaGreatDoorProg
import Derived.Test.YtpkeiffclipjmaaGreatDoorRxFd
import Derived.Deep.AppendLies
namespace Go.Proofs.YtpkeiffclipjmaaGreatDoor.Rx
open Go Go.RowKit Go.Sort
set_option maxRecDepth 100000
set_option linter.unusedSimpArgs false
set_option linter.unusedVariables false

theorem rank_call (s : List UInt8) (i : Nat) (hs : s.length ≤ 1099511627776) (hi : i ≤ 1099511627776) (w : World) :
    Calls Tryz.prog 73 #[.string ⟨s.toArray⟩, .int .i64 i] w fun e w' => e = .returned (.int .i64 (rkF s i)) ∧ ∃ q, w' = w.drewN q := by
  by_cases h : s.length ≤ i
  · rw [rkF_end s i h]
    have h1 : (s.length : Int) ≤ (i : Int) := by omega
    go_enter Tryz.func73, Tryz.ntmps73
    go_wp2
    go_ret
    exact ⟨rfl, 0, rfl⟩
  · have hlt : i < s.length := by omega
    have hc : s[i]? = some s[i] := List.getElem?_eq_getElem hlt
    have hr : rkF s i = rk1 s[i] := by unfold rkF; rw [hc]
    rw [hr]
    have h1 : ¬ (s.length : Int) ≤ (i : Int) := by omega
    have h2 : (i : Int) < (s.length : Int) := by omega
    have hb : (⟨s.toArray⟩ : ByteArray).size = s.length := by simp [ByteArray.size]
    have hsz : i < (⟨s.toArray⟩ : ByteArray).size := by rw [hb]; exact hlt
    have hg : (⟨s.toArray⟩ : ByteArray)[i]'hsz = s[i] := by show s.toArray[i] = s[i]; simp
    generalize s[i] = x at hc hr hg
    by_cases h47 : x = 47
    · subst h47
      have R : Hid (rk1 47 = 1) := by show rk1 47 = 1; decide
      have hk : ((((⟨s.toArray⟩ : ByteArray)[i]'hsz).toNat : Int) == (((⟨#[47]⟩ : ByteArray)[0]'(by decide)).toNat : Int)) = true := by rw [hg]; decide
      clear hc hr hg
      go_enter Tryz.func73, Tryz.ntmps73
      go_wp2
      go_quiet (fail)
      go_wp2
      go_ret
      exact ⟨by rw [R.out]; rfl, _, rfl⟩
    · have R : Hid (rk1 x = 2 + x.toNat ∧ (⟨s.toArray⟩ : ByteArray)[i]'hsz = x) := by refine ⟨?_, hg⟩; unfold rk1; rw [if_neg h47]
      have hk : ((((⟨s.toArray⟩ : ByteArray)[i]'hsz).toNat : Int) == (((⟨#[47]⟩ : ByteArray)[0]'(by decide)).toNat : Int)) = false := by
        rw [hg]
        have hn : x.toNat ≠ 47 := fun e => h47 (UInt8.toNat_inj.1 (by rw [e]; rfl))
        have e2 : (((⟨#[47]⟩ : ByteArray)[0]'(by decide)).toNat : Int) = 47 := by decide
        rw [e2]
        simp
        omega
      have hlx : (((⟨s.toArray⟩ : ByteArray)[i]'hsz).toNat : Int) < 256 := by have := ((⟨s.toArray⟩ : ByteArray)[i]'hsz).toNat_lt; omega
      clear hc hr hg h47
      go_enter Tryz.func73, Tryz.ntmps73
      go_wp2
      go_quiet (fail)
      go_wp2
      go_ret
      exact ⟨by rw [R.out.1]; first | rfl | (rw [← R.out.2]; rfl), _, rfl⟩
theorem cmpI_call (a b : Int) (w : World) : Calls Tryz.prog 72 #[.int .i64 a, .int .i64 b] w fun e w' => e = .returned (.int .i64 (if a < b then -1 else if b < a then 1 else 0)) ∧ w' = w := by
  have h98 : ∀ (x : Int) (w : World), Calls Tryz.prog 98 #[.int .i64 x] w fun e w' => e = .returned (.bool false) ∧ w' = w := fun x w => by
    go_enter Tryz.func98, Tryz.ntmps98
    go_wp2
    go_ret
    exact ⟨by simp, rfl⟩
  by_cases h1 : a < b
  · rw [if_pos h1]
    go_enter Tryz.func72, Tryz.ntmps72
    go_wp2_with (go_at_call 98; refine (h98 _ _).mono ?_; rintro e w' ⟨rfl, rfl⟩)
    go_ret
    exact ⟨rfl, rfl⟩
  · rw [if_neg h1]
    by_cases h2 : b < a
    · rw [if_pos h2]
      go_enter Tryz.func72, Tryz.ntmps72
      go_wp2_with (go_at_call 98; refine (h98 _ _).mono ?_; rintro e w' ⟨rfl, rfl⟩)
      go_ret
      exact ⟨rfl, rfl⟩
    · rw [if_neg h2]
      go_enter Tryz.func72, Tryz.ntmps72
      go_wp2_with (go_at_call 98; refine (h98 _ _).mono ?_; rintro e w' ⟨rfl, rfl⟩)
      go_ret
      exact ⟨rfl, rfl⟩
abbrev cmpI (a b : Int) : Int := if a < b then -1 else if b < a then 1 else 0
theorem drop_rk (a : List UInt8) (k : Nat) : (a.drop k = [] ∧ a.drop (k + 1) = [] ∧ rkF a k = 0) ∨ ∃ c, a.drop k = c :: a.drop (k + 1) ∧ rkF a k = rk1 c := by
  by_cases h : k < a.length
  · refine .inr ⟨a[k], List.drop_eq_getElem_cons h, ?_⟩
    unfold rkF
    rw [List.getElem?_eq_getElem h]
  · exact .inl ⟨List.drop_eq_nil_of_le (by omega), List.drop_eq_nil_of_le (by omega), rkF_end a k (by omega)⟩
theorem cmpS_at (a b : List UInt8) (k : Nat) (h : cmpI (rkF a k) (rkF b k) = 0) : cmpS (a.drop k) (b.drop k) = cmpS (a.drop (k + 1)) (b.drop (k + 1)) := by
  rcases drop_rk a k with ⟨e1, e2, e3⟩ | ⟨c, e1, e2⟩ <;> rcases drop_rk b k with ⟨f1, f2, f3⟩ | ⟨d, f1, f2⟩
  · rw [e1, e2, f1, f2]
  · rw [e3, f2] at h
    have := rk1_pos d
    simp only [cmpI, this, if_true] at h
    omega
  · rw [f3, e2] at h
    have := rk1_pos c
    have h2 : ¬ rk1 c < 0 := by omega
    simp only [cmpI, this, h2, if_true, if_false] at h
    omega
  · rw [e2, f2] at h
    rw [e1, f1, cmpS]
    unfold cmpI at h
    split at h
    · omega
    · rename_i h1
      split at h
      · omega
      · rename_i h2
        rw [if_neg h1, if_neg h2]
theorem cmpS_at' (a b : List UInt8) (k : Nat) (h : cmpI (rkF a k) (rkF b k) ≠ 0) : cmpS (a.drop k) (b.drop k) = cmpI (rkF a k) (rkF b k) := by
  rcases drop_rk a k with ⟨e1, e2, e3⟩ | ⟨c, e1, e2⟩ <;> rcases drop_rk b k with ⟨f1, f2, f3⟩ | ⟨d, f1, f2⟩
  · rw [e3, f3] at h
    exact absurd rfl h
  · have := rk1_pos d
    rw [e1, f1, e3, f2]
    simp [cmpS, cmpI, this]
  · have := rk1_pos c
    have h2 : ¬ rk1 c < 0 := by omega
    rw [e1, f1, e2, f3]
    simp [cmpS, cmpI, this, h2]
  · rw [e2, f2] at h ⊢
    rw [e1, f1, cmpS]
    unfold cmpI at h ⊢
    by_cases h1 : rk1 c < rk1 d
    · rw [if_pos h1, if_pos h1]
    · rw [if_neg h1, if_neg h1]
      by_cases h2 : rk1 d < rk1 c
      · rw [if_pos h2, if_pos h2]
      · rw [if_neg h1, if_neg h2] at h
        exact absurd rfl h
theorem Compare_call (a b : List UInt8) (ha : a.length ≤ 1099511627776) (hb : b.length ≤ 1099511627776) (w : World) :
    Calls Tryz.prog 53 #[.string ⟨a.toArray⟩, .string ⟨b.toArray⟩] w fun e w' => e = .returned (.int .i64 (cmpS a b)) ∧ ∃ q, w' = w.drewN q := by
  have hR := fun (s : List UInt8) (i : Nat) (hs : s.length ≤ 1099511627776) (hi : i ≤ 1099511627776) (w : World) => rank_call s i hs hi w
  have hA : Hid (a.length ≤ 1099511627776 ∧ b.length ≤ 1099511627776) := ⟨ha, hb⟩
  obtain ⟨n, hn⟩ : ∃ n : Nat, n = max a.length b.length := ⟨_, rfl⟩
  have hmx : ∀ w, (Builtin.max_ #[3, 3] 3 #[.int .i64 (a.length : Int), .int .i64 (b.length : Int)]).run Tryz.prog w = .ok (.int .i64 (n : Int)) w := fun w => by
    rw [Lib.run_max_ints, show max (a.length : Int) (b.length : Int) = (n : Int) by omega]
  have N : Hid (n = max a.length b.length) := hn
  have hn2 : n ≤ 1099511627776 := by omega
  clear hn
  go_enter Tryz.func53, Tryz.ntmps53
  go_wp2
  go_loopg [12] n (fun g i wr => ∃ k q : Nat, k ≤ n ∧ n - k ≤ g ∧ i = .int .i64 k ∧ cmpS (a.drop k) (b.drop k) = cmpS a b ∧ wr = w.drewN q)
  case atStart => exact ⟨0, 0, Nat.zero_le _, by omega, rfl, rfl, rfl⟩
  case round =>
    obtain ⟨k, q, hk, hg, rfl, hs, rfl⟩ := hrel
    by_cases hlt : k < n
    · have hlt' : (k : Int) < (n : Int) := by omega
      have S : Hid (cmpS (a.drop k) (b.drop k) = cmpS a b) := hs
      clear hs
      have H1 := hR a k hA.out.1 (by omega)
      have H2 := hR b k hA.out.2 (by omega)
      have C := cmpS_at a b k
      have C' := cmpS_at' a b k
      generalize rkF a k = ra at H1 C C'
      generalize rkF b k = rb at H2 C C'
      have H3 := fun w => cmpI_call ra rb w
      by_cases h0 : cmpI ra rb = 0
      · have C0 : Hid (cmpS (a.drop (k + 1)) (b.drop (k + 1)) = cmpS a b) := by have := S.out; rw [C h0] at this; exact this
        have H4 : ∀ w, Calls Tryz.prog 72 #[.int .i64 ra, .int .i64 rb] w fun e w' => e = .returned (.int .i64 0) ∧ w' = w := fun w => by have := H3 w; simp only [cmpI] at h0; rw [h0] at this; exact this
        clear C C' h0 H3 hR
        go_wp2_with (first
          | (go_at_call 73; refine (H1 _).mono ?_; rintro e w1 ⟨rfl, q1, rfl⟩; clear H1)
          | (go_at_call 73; refine (H2 _).mono ?_; rintro e w1 ⟨rfl, q2, rfl⟩)
          | (go_at_call 72; refine (H4 _).mono ?_; rintro e w1 ⟨rfl, rfl⟩))
        go_roundg (n - (k + 1))
        case measure => omega
        case rel => exact ⟨k + 1, q + q1 + q2, by omega, Nat.le_refl _, by go_num, C0.out, rfl⟩
      · have C0 : Hid (cmpI ra rb = cmpS a b) := by have := S.out; rw [C' h0] at this; exact this
        generalize hz : cmpI ra rb = z at C0 h0
        have H4 : ∀ w, Calls Tryz.prog 72 #[.int .i64 ra, .int .i64 rb] w fun e w' => e = .returned (.int .i64 z) ∧ w' = w := fun w => by have := H3 w; simp only [cmpI] at hz; rw [hz] at this; exact this
        clear C C' H3 hR hz
        go_wp2_with (first
          | (go_at_call 73; refine (H1 _).mono ?_; rintro e w1 ⟨rfl, q1, rfl⟩; clear H1)
          | (go_at_call 73; refine (H2 _).mono ?_; rintro e w1 ⟨rfl, q2, rfl⟩)
          | (go_at_call 72; refine (H4 _).mono ?_; rintro e w1 ⟨rfl, rfl⟩))
        go_ret
        exact ⟨by rw [← C0.out]; rfl, _, rfl⟩
    · have : k = n := by omega
      subst this
      have E : cmpS a b = 0 := by
        rw [← hs, List.drop_eq_nil_of_le (by have := N.out; omega), List.drop_eq_nil_of_le (by have := N.out; omega)]
        rfl
      have E' : Hid (cmpS a b = 0) := E
      clear hs E
      go_wp2
      go_ret
      exact ⟨by rw [E'.out]; rfl, _, rfl⟩
end Go.Proofs.YtpkeiffclipjmaaGreatDoor.Rx
namespace Go.Proofs.YtpkeiffclipjmaaGreatDoor.Rx
open Go Go.RowKit Go.Sort Go.Shelf
set_option maxRecDepth 100000
set_option linter.unusedSimpArgs false
set_option linter.unusedVariables false

abbrev bigP : Nat := 1099511627776
/-- A text that is not too long for the walk of Compare. -/
abbrev Txt := {s : List UInt8 // s.length ≤ bigP}
instance : Inhabited Txt := ⟨⟨[], by show 0 ≤ _; omega⟩⟩
def encT (x : Txt) : Value := encStr x.1
def cfT (x y : Txt) : Int := cmpS x.1 y.1
theorem swo_T : SWO (ltOf cfT) := {
  irrefl := fun x => by simp [ltOf, cfT, cmpS_self]
  trans := fun x y z h1 h2 => by
    have a1 : cmpS x.1 y.1 < 0 := of_decide_eq_true h1
    have a2 : cmpS y.1 z.1 < 0 := of_decide_eq_true h2
    exact decide_eq_true (show cmpS x.1 z.1 < 0 from cmpS_trans a1 a2)
  ntrans := fun x y z h1 h2 => by
    have a1 : ¬ cmpS x.1 y.1 < 0 := of_decide_eq_false h1
    have a2 : ¬ cmpS y.1 z.1 < 0 := of_decide_eq_false h2
    refine decide_eq_false (show ¬ cmpS x.1 z.1 < 0 from ?_)
    have a := cmpS_anti x.1 y.1
    have b := cmpS_anti y.1 z.1
    have c := cmpS_anti x.1 z.1
    have := cmpS_tr (a := z.1) (b := y.1) (c := x.1) (by omega) (by omega)
    omega }
theorem oneT : OneCell encT := fun x => rfl
theorem enters53 : ∀ args w, (callFunc 53 args).run Tryz.prog w = .ok (.enter 53 args) w := enters_of Tryz.func53 (by kernel_rfl) rfl
theorem cmpT (blk off size : Nat) (w : World) : CmpLays1 Tryz.prog 53 #[] encT cfT blk off size w := fun m os dk hs x y => by
  refine (Compare_call x.1 y.1 x.2 y.2 _).mono ?_
  rintro e w' ⟨rfl, q, rfl⟩
  exact ⟨rfl, q, #[], by rw [grow_empty]⟩

section
variable {α : Type} [Inhabited α] {enc : α → Value} {w : World} {g : Nat} {cur : Array Value} {e : TypeId} {d : Array α}
theorem mapBlock_at (w : World) (g : Nat) (f : Array Value → Array Value) (h : w.heap[g]? = some (.cells cur e (0, 0))) : (mapBlock w g f).heap[g]? = some (.cells (f cur) e (0, 0)) := by
  unfold mapBlock
  simp only [Array.getElem?_modify, if_true, h]
  rfl
theorem mapBlock_far (w : World) (g : Nat) (f : Array Value → Array Value) (k : Nat) (h : k ≠ g) : (mapBlock w g f).heap[k]? = w.heap[k]? := by
  unfold mapBlock
  rw [Array.getElem?_modify, if_neg (fun e => h e.symm)]
theorem mapBlock_size (w : World) (g : Nat) (f : Array Value → Array Value) : (mapBlock w g f).heap.size = w.heap.size := by
  unfold mapBlock
  simp
theorem grow_at (w : World) (os : Array Obj) (k : Nat) (h : k < w.heap.size) : (grow w os).heap[k]? = w.heap[k]? := by
  show (w.heap ++ os)[k]? = _
  rw [Array.getElem?_append_left h]
theorem putCells_take (enc : α → Value) (d : Array α) (cur : Array Value) (n : Nat) (h : d.size ≤ cur.size) (hn : n ≤ d.size) : (putCells enc 0 d cur).toList.take n = (d.toList.take n).map enc := by
  apply List.ext_getElem?
  intro k
  rw [List.getElem?_take, List.getElem?_map, List.getElem?_take]
  by_cases hk : k < n
  · rw [if_pos hk, if_pos hk]
    have h1 : k < d.size := by omega
    have h2 : k < cur.size := by omega
    unfold putCells
    rw [Array.getElem?_toList, Array.getElem?_mapIdx, Array.getElem?_eq_getElem h2, Array.getElem?_toList, Array.getElem?_eq_getElem h1]
    simp only [Option.map_some, Nat.zero_le, true_and, Nat.zero_add, if_pos h1, Nat.sub_zero]
    rw [getElem!_pos d k h1]
  · rw [if_neg hk, if_neg hk]
    rfl
theorem putRow_owns (hg : w.heap[g]? = some (.cells cur e (0, 0))) (base n cap m : Nat) (os : Array Obj) (hb : base ≤ g) (hn : n ≤ d.size) (hd : d.size ≤ cap) (hm : cap ≤ maxLen) (hc : cur.size = cap) :
    (grow (putRow enc (Sort.ahead w m) g 0 d) os).ownsRow base e 1 (.slice (some ⟨g, 0, none⟩) n cap) n ((d.toList.take n).map enc) := by
  have hlt : g < (putRow enc (Sort.ahead w m) g 0 d).heap.size := by
    unfold putRow
    rw [mapBlock_size]
    exact heap_lt hg
  refine ⟨?_, .inr ⟨g, cap, putCells enc 0 d cur, rfl, hb, ?_, by omega, hm, ?_, ?_⟩⟩
  · simp; omega
  · rw [grow_at _ _ _ hlt]
    unfold putRow
    exact mapBlock_at _ g _ hg
  · unfold putCells
    simp [hc]
  · rw [Nat.mul_one]
    exact putCells_take enc d cur n (by omega) hn
theorem putRow_grown (base n cap m : Nat) (os : Array Obj) : w.grownBy (grow (putRow enc (Sort.ahead w m) g 0 d) os) (some g) := by
  refine ⟨rfl, rfl, rfl, ?_, fun k hk hne => ?_⟩
  · show _ ≤ ((putRow enc (Sort.ahead w m) g 0 d).heap ++ os).size
    have : (putRow enc (Sort.ahead w m) g 0 d).heap.size = w.heap.size := by unfold putRow; rw [mapBlock_size]; rfl
    simp [this]
  · have : (putRow enc (Sort.ahead w m) g 0 d).heap.size = w.heap.size := by unfold putRow; rw [mapBlock_size]; rfl
    rw [grow_at _ _ _ (by omega)]
    unfold putRow
    rw [mapBlock_far _ _ _ _ (fun e => hne (by rw [e]))]
    rfl
end
theorem owns_holds {α : Type} [Inhabited α] {enc : α → Value} {w : World} {g n : Nat} {cur : Array Value} {d : Array α} {e : TypeId} (hg : w.heap[g]? = some (.cells cur e (0, 0))) (ht : cur.toList.take n = d.toList.map enc) : Holds enc w g 0 d := by
  intro j hj
  have hj' : (d.toList.map enc)[j]? = some (enc d[j]!) := by
    rw [List.getElem?_map, Array.getElem?_toList, Array.getElem?_eq_getElem hj, getElem!_pos d j hj]
    rfl
  rw [← ht, List.getElem?_take] at hj'
  split at hj'
  · refine ⟨?_, ?_⟩
    · rw [Nat.zero_add, Er.cell_heap hg]
      simpa using hj'
    · exact Er.frozen_heap hg _
  · simp at hj'

/-! ### No paths -/
theorem sort_nil (w : World) : Calls Tryz.prog 52 #[.slice none 0 0, .func (.func 53) #[] #[]] w fun e w' => e = .returned (.tuple #[]) ∧ Below w.heap.size w w' := by
  have e53 := enters53
  have h71 : ∀ w, Calls Tryz.prog 71 #[.int .u64 0] w fun e w' => e = .returned (.int .i64 0) ∧ w' = w := fun w => by
    have h := Any.bits_Len (SlLaysF0.n15.bits (P := Tryz.prog) (ρ := Tryz.laysSlF6_f52_ren) { Tryz.laysSlF6_f52 with }) 0 w (by omega) (by omega)
    exact h
  have h88 : ∀ w, Calls Tryz.prog 88 #[.slice none 0 0, .int .i64 0, .int .i64 0, .func (.func 53) #[] #[]] w fun e w' => e = .returned (.tuple #[]) ∧ w' = w := fun w => by
    go_enter Tryz.func88, Tryz.ntmps88
    go_wp2
    refine wp_loop_rounds 1 ?_
    rw [rounds_succ]
    go_wp2
    go_end0
    exact ⟨rfl, rfl⟩
  have h70 : ∀ w, Calls Tryz.prog 70 #[.slice none 0 0, .int .i64 0, .int .i64 0, .int .i64 0, .func (.func 53) #[] #[]] w fun e w' => e = .returned (.tuple #[]) ∧ w' = w := fun w => by
    go_enter Tryz.func70, Tryz.ntmps70
    go_wp2
    refine wp_loop_rounds 1 ?_
    rw [rounds_succ]
    go_wp2_with (go_at_call 88; refine (h88 _).mono ?_; rintro e w' ⟨rfl, rfl⟩)
    refine bodyPost_ret (results_none rfl _ _ _) rfl ?_
    exact ⟨rfl, rfl⟩
  go_enter Tryz.func52, Tryz.ntmps52
  go_wp2_with (first | (go_at_call 71; refine (h71 _).mono ?_; rintro e w' ⟨rfl, rfl⟩) | (go_at_call 70; refine (h70 _).mono ?_; rintro e w' ⟨rfl, rfl⟩))
  go_end0
  exact ⟨rfl, Below.refl _ _⟩
theorem compact_nil (w : World) : Calls Tryz.prog 54 #[.slice none 0 0] w fun e w' => e = .returned (.slice none 0 0) ∧ w' = w := Any.slices_Compact_string_empty Tryz.lays194 none 0 w

/-! ### Paths in order -/
theorem Below.grown {w w' : World} {row : Option Nat} (h : Below w.heap.size w w') : w.grownBy w' row := ⟨h.os, h.tape, h.output, h.size, fun k hk _ => h.block k hk⟩
theorem sort_paths (zs : List (List UInt8)) (hz : ∀ z ∈ zs, z.length ≤ bigP) (hn : zs.length ≤ bigP) (v : Value) (w : World) (base : Nat) (hown : w.ownsRow base 9 1 v zs.length (zs.map encStr)) :
    Calls Tryz.prog 52 #[v, .func (.func 53) #[] #[]] w fun e w' => e = .returned (.tuple #[]) ∧ ∃ ss : List (List UInt8), ss.Perm zs ∧ ss.Pairwise (fun a b => cmpS a b ≤ 0) ∧ w'.ownsRow base 9 1 v ss.length (ss.map encStr) ∧ w.grownBy w' v.ownBlock := by
  obtain ⟨hl, ⟨rfl, h0⟩ | ⟨g, cap, cur, rfl, hbg, hg, hnc, hcm, hcs, htake⟩⟩ := hown
  · obtain rfl := List.eq_nil_of_length_eq_zero h0
    refine (sort_nil w).mono ?_
    rintro e w' ⟨rfl, hb⟩
    exact ⟨rfl, [], .refl _, .nil, World.ownsRow_nil _ _ _ _, Below.grown hb⟩
  · rw [Nat.mul_one] at hcs htake
    obtain ⟨d, hd⟩ : ∃ d : Array Txt, d.toList.map Subtype.val = zs := ⟨(zs.pmap Subtype.mk hz).toArray, by simp [List.map_pmap]⟩
    have hds : d.size = zs.length := by rw [← hd]; simp
    have hdm : d.toList.map encT = zs.map encStr := by rw [← hd, List.map_map]; rfl
    have hH : Holds encT w g 0 d := owns_holds hg (by rw [htake, hdm])
    have h := Tryz.slices_SortFunc encT oneT cfT swo_T 53 #[] g 0 cap d w enters53 (cmpT _ _ _ _) hH (heap_lt hg) (by have : bigP = 1099511627776 := rfl; omega)
    rw [hds] at h
    refine h.mono ?_
    rintro e w' ⟨rfl, d', m, os, hp, hs, rfl⟩
    have hs' : d'.size = zs.length := hp.1.trans hds
    have hperm : d'.toList.Perm d.toList := by
      have := hp.2.2
      rw [← hds] at this
      have e1 : d'.extract 0 d.size = d' := by rw [← hp.1]; simp
      have e2 : d.extract 0 d.size = d := by simp
      rwa [e1, e2] at this
    refine ⟨rfl, d'.toList.map Subtype.val, ?_, ?_, ?_, putRow_grown 0 0 0 m os⟩
    · rw [← hd]
      exact hperm.map _
    · rw [List.pairwise_map, List.pairwise_iff_getElem]
      intro i j hi hj hij
      simp only [Array.length_toList] at hi hj
      have := hs i j (Nat.zero_le _) hij (by omega)
      rw [getElem!_pos d' i hi, getElem!_pos d' j hj] at this
      have this : ¬ cmpS d'[j].1 d'[i].1 < 0 := of_decide_eq_false this
      have a := cmpS_anti d'[i].1 d'[j].1
      simp only [Array.getElem_toList]
      omega
    · have := putRow_owns (enc := encT) (d := d') hg base zs.length cap m os hbg (by omega) (by omega) hcm hcs
      rw [List.take_of_length_le (by simp; omega)] at this
      have e1 : (d'.toList.map Subtype.val).length = zs.length := by simp [hs']
      rw [e1, List.map_map]
      exact this

/-! ### Each but once -/
theorem compact_sub (zs : List (List UInt8)) : (Lib.compact zs).Sublist zs := by
  unfold Lib.compact Lib.compactUpTo
  have h : ((List.range zs.length).filter (Lib.keeps zs.toArray)).map (zs.toArray[·]!) |>.Sublist ((List.range zs.length).map (zs.toArray[·]!)) := List.filter_sublist.map _
  have e := Lib.range_map_get zs.toArray
  simp only [List.size_toArray, List.toList_toArray] at e
  rw [e] at h
  exact h
theorem compact_len (zs : List (List UInt8)) : (Lib.compact zs).length ≤ zs.length := (compact_sub zs).length_le
theorem compact_mem (zs : List (List UInt8)) (p : List UInt8) : p ∈ Lib.compact zs ↔ p ∈ zs := by
  refine ⟨(compact_sub zs).mem, fun h => ?_⟩
  obtain ⟨i, hi, rfl⟩ := List.getElem_of_mem h
  have key : ∀ i, i < zs.length → zs.toArray[i]! ∈ Lib.compact zs := by
    intro i
    induction i with
    | zero =>
      intro h0
      unfold Lib.compact Lib.compactUpTo
      exact List.mem_map.2 ⟨0, List.mem_filter.2 ⟨List.mem_range.2 h0, by simp [Lib.keeps]⟩, rfl⟩
    | succ i ih =>
      intro hi
      by_cases he : zs.toArray[i + 1]! = zs.toArray[i]!
      · rw [he]
        exact ih (by omega)
      · unfold Lib.compact Lib.compactUpTo
        exact List.mem_map.2 ⟨i + 1, List.mem_filter.2 ⟨List.mem_range.2 hi, Lib.keeps_pos he⟩, rfl⟩
  have := key i hi
  rw [getElem!_pos zs.toArray i (by simpa using hi)] at this
  simpa using this
theorem compact_paths (zs : List (List UInt8)) (hn : zs.length ≤ bigP) (v : Value) (w : World) (base : Nat) (hown : w.ownsRow base 9 1 v zs.length (zs.map encStr)) :
    Calls Tryz.prog 54 #[v] w fun e w' => ∃ v', e = .returned v' ∧ w'.ownsRow base 9 1 v' (Lib.compact zs).length ((Lib.compact zs).map encStr) ∧ v'.ownBlock = v.ownBlock ∧ w.grownBy w' v.ownBlock := by
  obtain ⟨hl, ⟨rfl, h0⟩ | ⟨g, cap, cur, rfl, hbg, hg, hnc, hcm, hcs, htake⟩⟩ := hown
  · obtain rfl := List.eq_nil_of_length_eq_zero h0
    refine (compact_nil w).mono ?_
    rintro e w' ⟨rfl, rfl⟩
    exact ⟨_, rfl, World.ownsRow_nil _ _ _ _, rfl, ⟨rfl, rfl, rfl, Nat.le_refl _, fun _ _ _ => rfl⟩⟩
  · rw [Nat.mul_one] at hcs htake
    have hH : Holds encStr w g 0 zs.toArray := owns_holds hg (by rw [htake])
    have hcl : (Lib.compact zs).length ≤ zs.length := compact_len zs
    refine (Tryz.slices_Compact_string g 0 cap zs w hH (by have : bigP = 1099511627776 := rfl; omega) hnc).mono ?_
    rintro e w' ⟨rfl, q, rfl⟩
    have hsz : (Lib.compact zs ++ List.replicate (zs.length - (Lib.compact zs).length) []).toArray.size = zs.length := by simp; omega
    have := putRow_owns (enc := encStr) (d := (Lib.compact zs ++ List.replicate (zs.length - (Lib.compact zs).length) []).toArray) hg base (Lib.compact zs).length cap q #[] hbg (by omega) (by omega) hcm hcs
    rw [grow_empty, List.toList_toArray, List.take_left] at this
    refine ⟨_, rfl, this, rfl, ?_⟩
    have h2 := putRow_grown (w := w) (g := g) (enc := encStr) (d := (Lib.compact zs ++ List.replicate (zs.length - (Lib.compact zs).length) []).toArray) 0 0 0 q #[]
    rw [grow_empty] at h2
    exact h2
end Go.Proofs.YtpkeiffclipjmaaGreatDoor.Rx
namespace Go.Proofs.YtpkeiffclipjmaaGreatDoor.Rx
open Go Go.RowKit
set_option maxRecDepth 100000
set_option linter.unusedSimpArgs false
set_option linter.unusedVariables false

abbrev nilV : Value := .slice none 0 0
/-- A path's row in the map. -/
def rowV (D : List (List UInt8 × Value)) (q : List UInt8) : Value := (vget q D).getD nilV
theorem rowV_put (D : List (List UInt8 × Value)) (p q : List UInt8) (v : Value) : rowV (vput p v D) q = if p = q then v else rowV D q := by
  have key : ∀ D : List (List UInt8 × Value), vget q (vput p v D) = if p = q then some v else vget q D := by
    intro D
    induction D with
    | nil => simp [vput, vget]
    | cons e r ih =>
      unfold vput
      by_cases h : e.1 = p
      · rw [if_pos h]
        by_cases hq : p = q
        · simp [vget, hq]
        · have : ¬ e.1 = q := fun h2 => hq (h.symm.trans h2)
          simp [vget, hq, this]
      · rw [if_neg h]
        unfold vget
        by_cases he : e.1 = q
        · have : ¬ p = q := fun h2 => h (he.trans h2.symm)
          simp [he, this]
        · simp only [he, if_false]
          exact ih
  unfold rowV
  rw [key]
  split <;> rfl
theorem MapIs.grown {w w' : World} {m : Nat} {D : List (List UInt8 × Value)} {row : Option Nat} (h : MapIs w m D) (hg : w.grownBy w' row) (hr : row ≠ some m) : MapIs w' m D := by
  obtain ⟨es, clk, h1, h2⟩ := h
  exact ⟨es, clk, by rw [hg.block m (heap_lt h1) (fun e => hr e.symm)]; exact h1, h2⟩
theorem grown_trans {w w' w'' : World} {row : Option Nat} (h : w.grownBy w' none) (h' : w'.grownBy w'' row) : w.grownBy w'' row :=
  ⟨h'.os.trans h.os, h'.tape.trans h.tape, h'.output.trans h.output, Nat.le_trans h.size h'.size, fun k hk hn => (h'.block k (Nat.lt_of_lt_of_le hk h.size) hn).trans (h.block k hk (by simp))⟩
theorem grown_below {w w' : World} {row : Option Nat} {m : Nat} (h : w.grownBy w' row) (hm : m ≤ w.heap.size) (hr : ∀ g, row = some g → m ≤ g) : Below m w w' :=
  ⟨h.os, h.tape, h.output, h.size, fun k hk => h.block k (by omega) (fun e => by have := hr k e.symm; omega)⟩
theorem grown_drew (w : World) : w.grownBy w.drew none := ⟨rfl, rfl, rfl, Nat.le_refl _, fun _ _ _ => rfl⟩
theorem grown_refl (w : World) : w.grownBy w none := ⟨rfl, rfl, rfl, Nat.le_refl _, fun _ _ _ => rfl⟩

abbrev treeC (m : Nat) (l : Lim) : Array Value := #[.map (some m), .int .i64 l.depth, .int .i64 l.size, .int .i64 l.count]
/-- The map's rows. -/
structure Rows (W : World) (m : Nat) (D : List (List UInt8 × Value)) (rows : List It) : Prop where
  map : MapIs W m D
  row : ∀ q, W.ownsRow (m + 2) 42 4 (rowV D q) (atP rows q).length ((atP rows q).flatMap encI)
  own : ∀ q q' g, (rowV D q).ownBlock = some g → (rowV D q').ownBlock = some g → q = q'
structure CkInv (w0 : World) (m : Nat) (l : Lim) (rows alls : List It) (va : Value) (D : List (List UInt8 × Value)) (W : World) : Prop where
  below : Below m w0 W
  box : W.heap[m + 1]? = some (.cells (treeC m l) 89 (0, 0))
  size : m + 2 ≤ W.heap.size
  rows : Rows W m D rows
  far : ∀ q g, (rowV D q).ownBlock = some g → va.ownBlock ≠ some g
  all : W.ownsRow (m + 2) 9 1 va alls.length (alls.map fun x => Go.Proofs.encStr x.path)
theorem Rows.grown {W W' : World} {m : Nat} {D : List (List UInt8 × Value)} {rows : List It} {row : Option Nat} (h : Rows W m D rows) (hg : W.grownBy W' row) (hm : row ≠ some m) (hr : ∀ q, (rowV D q).ownBlock = none ∨ (rowV D q).ownBlock ≠ row) : Rows W' m D rows :=
  ⟨h.map.grown hg hm, fun q => (h.row q).kept hg (hr q), h.own⟩
theorem CkInv.grown {w0 W W' : World} {m : Nat} {l : Lim} {rows alls : List It} {va : Value} {D : List (List UInt8 × Value)} (h : CkInv w0 m l rows alls va D W) (hg : W.grownBy W' none) : CkInv w0 m l rows alls va D W' :=
  have no : ∀ v : Value, v.ownBlock = none ∨ v.ownBlock ≠ none := fun v => by cases v.ownBlock <;> simp
  ⟨h.below.trans (grown_below hg (by have := h.size; omega) (by simp)), (hg.block _ (by have := h.size; omega) (by simp)).trans h.box, Nat.le_trans h.size hg.size,
    h.rows.grown hg (by simp) (fun q => no _), h.far, h.all.kept hg (no _)⟩
theorem CkInv.start (w0 : World) (m : Nat) (l : Lim) (W : World) (hb : Below m w0 W) (hs : m + 2 ≤ W.heap.size) (hbox : W.heap[m + 1]? = some (.cells (treeC m l) 89 (0, 0))) (hm : MapIs W m []) : CkInv w0 m l [] [] nilV [] W :=
  ⟨hb, hbox, hs, ⟨hm, fun q => World.ownsRow_nil _ _ _ _, fun q q' g h => by simp [rowV, vget, Value.ownBlock] at h⟩, fun q g h => by simp [rowV, vget, Value.ownBlock] at h, World.ownsRow_nil _ _ _ _⟩
theorem atP_push (rows : List It) (x : It) (q : List UInt8) : atP (rows ++ [x]) q = if x.path = q then atP rows q ++ [x] else atP rows q := by
  unfold atP
  rw [List.filter_append]
  by_cases h : x.path = q <;> simp [h]
/-- An item's row is put into the map. -/
theorem ck_put {w0 W W2 w3 : World} {m : Nat} {l : Lim} {rows alls : List It} {va : Value} {D : List (List UInt8 × Value)} (h : CkInv w0 m l rows alls va D W) (hW : W.grownBy W2 none) (x : It) {g cap : Nat}
    (hown : w3.ownsRow (m + 2) 42 4 (.slice (some ⟨g, 0, none⟩) ((atP rows x.path).length + 1) cap) ((atP rows x.path).length + 1) ((atP rows x.path).flatMap encI ++ encI x)) (hgrow : W2.grownBy w3 (rowV D x.path).ownBlock)
    (hat : (rowV D x.path).ownBlock = some g ∨ g = W2.heap.size) :
    ∃ w4, (Instr.mapUpdate 87 (.map (some m)) (.string ⟨x.path.toArray⟩) (.slice (some ⟨g, 0, none⟩) ((atP rows x.path).length + 1) cap)).run Tryz.prog w3 = .ok () w4 ∧
      CkInv w0 m l (rows ++ [x]) alls va (vput x.path (.slice (some ⟨g, 0, none⟩) ((atP rows x.path).length + 1) cap) D) w4 ∧ w4.heap.size = w3.heap.size ∧ ∀ b, b ≠ m → w4.heap[b]? = w3.heap[b]? := by
  have h2 := h.grown hW
  have hlt : ∀ q k, (rowV D q).ownBlock = some k → m + 2 ≤ k ∧ k < W2.heap.size := fun q k hk => (h2.rows.row q).lt k hk
  have hne : (rowV D x.path).ownBlock ≠ some m := fun e => by have := hlt _ _ e; omega
  have hne1 : (rowV D x.path).ownBlock ≠ some (m + 1) := fun e => by have := hlt _ _ e; omega
  have hm3 := h2.rows.map.grown hgrow hne
  obtain ⟨w4, hr, hm4, hb4, hs4, hf4⟩ := vput_map (P := Tryz.prog) (t := 87) (kt := 9) (et := 22) Tryz.underlying87 Tryz.underlying9 hm3 x.path (.slice (some ⟨g, 0, none⟩) ((atP rows x.path).length + 1) cap)
  have hsz : m + 2 ≤ w3.heap.size := Nat.le_trans h2.size hgrow.size
  -- a row of its own lies as it did, behind the update
  have keep4 : ∀ {e size : Nat} {v : Value} {n : Nat} {xs : List Value}, w3.ownsRow (m + 2) e size v n xs → w4.ownsRow (m + 2) e size v n xs := by
    intro e size v n xs ho
    refine ⟨ho.1, ?_⟩
    rcases ho.2 with hn | ⟨g', cap', cur, rfl, hb, hgg, rest⟩
    · exact .inl hn
    · exact .inr ⟨g', cap', cur, rfl, hb, by rw [hf4 g' (by omega)]; exact hgg, rest⟩
  have g_old : ∀ q, (rowV D q).ownBlock = some g → (rowV D x.path).ownBlock = some g := fun q hq => by
    rcases hat with h | h
    · exact h
    · have := (hlt _ _ hq).2; omega
  refine ⟨w4, hr, ⟨?_, ?_, by omega, ⟨hm4, fun q => ?_, fun q q' k hq hq' => ?_⟩, fun q k hq => ?_, ?_⟩, hs4, hf4⟩
  · exact (h2.below.trans (grown_below hgrow (by have := h2.size; omega) (fun k hk => by have := (hlt _ _ hk).1; omega))).trans hb4
  · rw [hf4 _ (by omega), hgrow.block _ (by have := h2.size; omega) (fun e => hne1 e.symm)]
    exact h2.box
  · rw [rowV_put, atP_push]
    by_cases hq : x.path = q
    · subst hq
      rw [if_pos rfl, if_pos rfl, List.length_append, List.flatMap_append]
      simp only [List.length_cons, List.length_nil, Nat.zero_add, List.flatMap_cons, List.flatMap_nil, List.append_nil]
      exact keep4 hown
    · rw [if_neg hq, if_neg hq]
      refine keep4 ((h2.rows.row q).kept hgrow ?_)
      cases hk : (rowV D q).ownBlock with
      | none => exact .inl rfl
      | some k => exact .inr (fun e => hq (h2.rows.own x.path q k (e.symm) hk))
  · rw [rowV_put] at hq hq'
    have hself : (Value.slice (some ⟨g, 0, none⟩) ((atP rows x.path).length + 1) cap).ownBlock = some g := rfl
    by_cases h1 : x.path = q <;> by_cases h3 : x.path = q'
    · exact h1.symm.trans h3
    · rw [if_pos h1, hself] at hq
      rw [if_neg h3] at hq'
      cases hq
      exact h1.symm.trans (h2.rows.own _ _ g (g_old _ hq') hq')
    · rw [if_pos h3, hself] at hq'
      rw [if_neg h1] at hq
      cases hq'
      exact (h2.rows.own _ _ g (g_old _ hq) hq).symm.trans h3
    · rw [if_neg h1] at hq
      rw [if_neg h3] at hq'
      exact h2.rows.own _ _ k hq hq'
  · rw [rowV_put] at hq
    by_cases h1 : x.path = q
    · rw [if_pos h1] at hq
      have e : g = k := by simpa [Value.ownBlock] using hq
      subst e
      rcases hat with hh | hh
      · exact h2.far _ _ hh
      · intro e
        have := (h2.all.lt _ e).2
        omega
    · rw [if_neg h1] at hq
      exact h2.far _ _ hq
  · refine keep4 (h2.all.kept hgrow ?_)
    cases hk : va.ownBlock with
    | none => exact .inl rfl
    | some k => exact .inr (fun e => h2.far x.path k e.symm hk)
/-- A path is put behind all. -/
theorem ck_all {w0 W W2 w3 : World} {m : Nat} {l : Lim} {rows alls : List It} {va v' : Value} {D : List (List UInt8 × Value)} (h : CkInv w0 m l rows alls va D W) (hW : W.grownBy W2 none) (x : It) {g cap : Nat}
    (hv : v' = .slice (some ⟨g, 0, none⟩) (alls.length + 1) cap) (hown : w3.ownsRow (m + 2) 9 1 v' (alls.length + 1) ((alls.map fun x => Go.Proofs.encStr x.path) ++ [Go.Proofs.encStr x.path])) (hgrow : W2.grownBy w3 va.ownBlock) (hat : va.ownBlock = some g ∨ g = W2.heap.size) :
    CkInv w0 m l rows (alls ++ [x]) v' D w3 := by
  subst hv
  have h2 := h.grown hW
  have hlt : ∀ k, va.ownBlock = some k → m + 2 ≤ k ∧ k < W2.heap.size := fun k hk => h2.all.lt k hk
  have hne : va.ownBlock ≠ some m := fun e => by have := hlt _ e; omega
  have hne1 : va.ownBlock ≠ some (m + 1) := fun e => by have := hlt _ e; omega
  have hrow : ∀ q, (rowV D q).ownBlock = none ∨ (rowV D q).ownBlock ≠ va.ownBlock := fun q => by
    cases hk : (rowV D q).ownBlock with
    | none => exact .inl rfl
    | some k => exact .inr (fun e => h2.far q k hk e.symm)
  refine ⟨h2.below.trans (grown_below hgrow (by have := h2.size; omega) (fun k hk => by have := (hlt _ hk).1; omega)), ?_, Nat.le_trans h2.size hgrow.size, h2.rows.grown hgrow hne hrow, fun q k hq => ?_, ?_⟩
  · rw [hgrow.block _ (by have := h2.size; omega) (fun e => hne1 e.symm)]
    exact h2.box
  · intro e
    have e' : g = k := by simpa [Value.ownBlock] using e
    subst e'
    rcases hat with hh | hh
    · exact h2.far _ _ hq hh
    · have := ((h2.rows.row q).lt _ hq).2
      omega
  · rw [List.length_append, List.map_append]
    exact hown
/-- Each path's row, as the walk of fault wants it. -/
theorem Rows.at {W : World} {m : Nat} {D : List (List UInt8 × Value)} {rows : List It} (h : Rows W m D rows) (hn : rows.length ≤ bigP) (q : List UInt8) : RowAt W D q (atP rows q) := by
  have hl : (atP rows q).length ≤ rows.length := List.length_filter_le _ _
  have hbig : (atP rows q).length ≤ 9223372036854775807 := by have : bigP = 1099511627776 := rfl; omega
  have ho := h.row q
  rcases ho.2 with ⟨h1, h2⟩ | ⟨g, cap, cur, h1, hb, hgg, hnc, hcm, hcs, htake⟩
  · have e := List.eq_nil_of_length_eq_zero h2
    rw [e]
    exact ⟨none, 0, h1, ⟨Nat.le_refl _, fun hn => absurd rfl hn⟩, by simp⟩
  · refine ⟨some ⟨g, 0, none⟩, cap, h1, ⟨hnc, fun _ => ⟨g, 0, rfl, heap_lt hgg, fun j x i v hx hv => ?_⟩⟩, hbig⟩
    have hi : i < 4 := by have := (List.getElem?_eq_some_iff.1 hv).1; simpa [encI] using this
    have hc := its_at _ j i x hx hi
    rw [hv] at hc
    have := ho.cells (g := g) (by rw [h1]; rfl) (j * 4 + i) v hc
    have hadd : (⟨g, 0, none⟩ : Addr).add (j * 4 + i) = ⟨g, 0 + j * 4 + i, none⟩ := by unfold Addr.add; split <;> simp_all
    rwa [hadd] at this
end Go.Proofs.YtpkeiffclipjmaaGreatDoor.Rx
