/-
  Rx, functions that are told by hand, 6: report's writer: a number, a text.
-/
import Derived.Test.YtdjgdipmjbkilaaGreatDoorRxF5
import Derived.Deep.RegionWith
import Derived.Lib.ItoaLen
namespace Go.Proofs.YtdjgdipmjbkilaaGreatDoor.Rx
open Go Go.RowKit

theorem Cells2.below {w w' : World} {b n : Nat} {T : TypeId} {x y : Value} (h : Cells2 w b n T x y) (k : Below w.heap.size w w') : Cells2 w' b n T x y := by
  obtain ⟨cur, h1, h2, h3⟩ := h
  exact ⟨cur, by rw [k.block b (heap_lt h1)]; exact h1, h2, h3⟩
theorem BufR.below {w w' : World} {b : Nat} {l : List UInt8} {buf : Value} {tt : Option Nat} (h : BufR w b l buf tt) (k : Below w.heap.size w w') : BufR w' b l buf tt := by
  rcases h with h | ⟨t', n', cap, cur, rfl, hne, rfl, rfl, hnc, hg, hcs, hct⟩
  · exact .inl h
  · exact .inr ⟨t', _, cap, cur, rfl, hne, rfl, rfl, hnc, by rw [k.block t' (heap_lt hg)]; exact hg, hcs, hct⟩
/-- What writing comes to. -/
def Wrote (w : World) (b n : Nat) (T : TypeId) (l s : List UInt8) (tt : Option Nat) (e : Ending) (w' : World) : Prop :=
  ∃ v buf' t', e = .returned v ∧ BelX (fun k => k = b ∨ tt = some k) w w' ∧ Cells2 w' b n T (.pointer (some ⟨b, 0, none⟩)) buf' ∧ BufR w' b (l ++ s) buf' t' ∧ (∀ k, t' = some k → tt = some k ∨ w.heap.size ≤ k) ∧ (t' = none ↔ tt = none ∧ s = [])
theorem grow_below (w : World) (n : Nat) (os : Array Obj) : Below w.heap.size w («Sort».grow (w.drewN n) os) := by
  refine ⟨rfl, rfl, rfl, ?_, fun i hi => ?_⟩
  · show _ ≤ (w.heap ++ os).size
    simp
  · show (w.heap ++ os)[i]? = _
    rw [Array.getElem?_append_left hi]
theorem Wrote.from {w w1 w' : World} {b n : Nat} {T : TypeId} {l s : List UInt8} {tt : Option Nat} {e : Ending} (hB : Below w.heap.size w w1) (h : Wrote w1 b n T l s tt e w') : Wrote w b n T l s tt e w' := by
  obtain ⟨v, buf', t', he, h1, h2, h3, h4, h5⟩ := h
  exact ⟨v, buf', t', he, ((BelX.of (X := fun k => k = b ∨ tt = some k) hB)).trans h1 (fun k hk => .inr hk), h2, h3, fun k hk => (h4 k hk).imp id (fun h => Nat.le_trans hB.size h), h5⟩
theorem cat_str (a b : List UInt8) : ((⟨a.toArray⟩ : ByteArray) ++ ⟨b.toArray⟩) = ⟨(a ++ b).toArray⟩ := by rw [ByteArray.mk_append_mk]
set_option maxHeartbeats 4000000 in
set_option maxRecDepth 100000 in
theorem number_walk {w : World} {b n : Nat} {T : TypeId} {a0 buf : Value} (hc : Cells2 w b n T a0 buf) (hs : (a0 = .pointer none ∧ BT T ∧ n = 2) ∨ a0 = .pointer (some ⟨b, 0, none⟩)) {l : List UInt8} {tt : Option Nat} (hbuf : BufR w b l buf tt) (k : Int) (hk : -9223372036854775808 ≤ k ∧ k ≤ 9223372036854775807) (hG : Gs w)
    (hlen : l.length + (Lib.itoa k ++ [59]).length ≤ 140737488355328) : Calls Tryz.prog 28 #[.pointer (some ⟨b, 0, none⟩), .int .i64 k] w (Wrote w b n T l (Lib.itoa k ++ [59]) tt) := by
  have hil := Lib.itoa_length_le k hk.1 hk.2
  have h0 : ¬ ((⟨(Lib.itoa k).toArray⟩ : ByteArray).size + (⟨#[59]⟩ : ByteArray).size > 9223372036854775807) := by simp [ByteArray.size]; omega
  have h1 : ¬ (9223372036854775807 < (Lib.itoa k).length + 1) := by omega
  have hcat : ((⟨(Lib.itoa k).toArray⟩ : ByteArray) ++ ⟨#[59]⟩) = ⟨(Lib.itoa k ++ [59]).toArray⟩ := cat_str _ [59]
  have mixed := mixed
  go_enter Tryz.func28, Tryz.ntmps28
  go_wp2
  go_region_with (first
    | (go_at_call 51; refine (Tryz.strconv_Itoa k hk.1 hk.2 _ ?_).mono ?_; exact hG.tab; rintro e w' ⟨rfl, k1, os, rfl⟩)
    | (go_at_call 50; go_loud (refine (wr_walk (hc.below (grow_below _ _ _)) hs (hbuf.below (grow_below _ _ _)) _ hlen).mono ?_; rintro e w' hw; obtain ⟨v, buf', t', rfl, hw⟩ := hw)))
  all_goals exact ⟨rfl, .tuple #[], by simp [results, Tryz.results28], Wrote.from (grow_below _ _ _) ⟨.tuple #[], buf', t', rfl, hw⟩⟩
set_option maxHeartbeats 4000000 in
set_option maxRecDepth 100000 in
theorem text_walk0 {w : World} {b n : Nat} {T : TypeId} {a0 buf : Value} (hc : Cells2 w b n T a0 buf) (hs : (a0 = .pointer none ∧ BT T ∧ n = 2) ∨ a0 = .pointer (some ⟨b, 0, none⟩)) {l : List UInt8} {tt : Option Nat} (hbuf : BufR w b l buf tt) (s D : ByteArray) (m : Nat) (hm : s.size = m) (hDs : D.size ≤ 21) (hm63 : m ≤ 140737488355328) (E F : ByteArray) (hE : D ++ ⟨#[58]⟩ = E) (hF : E ++ s = F) (L : List UInt8) (hL : F = ⟨L.toArray⟩)
    (hI : ∀ w1 : World, w1.heap = w.heap → Calls Tryz.prog 51 #[.int .i64 m] w1 fun e w' => e = .returned (.string D) ∧ ∃ k os, w' = «Sort».grow (w1.drewN k) os)
    (hlen : l.length + L.length ≤ 140737488355328) : Calls Tryz.prog 29 #[.pointer (some ⟨b, 0, none⟩), .string s] w (Wrote w b n T l L tt) := by
  have h1 : ¬ (D.size + (⟨#[58]⟩ : ByteArray).size > 9223372036854775807) := by
    have : (⟨#[58]⟩ : ByteArray).size = 1 := rfl
    omega
  have hEs : E.size ≤ 22 := by
    have : (⟨#[58]⟩ : ByteArray).size = 1 := rfl
    rw [← hE, ByteArray.size_append]
    omega
  have h2 : ¬ (E.size + s.size > 9223372036854775807) := by omega
  have h3 : ¬ (E.size + m > 9223372036854775807) := by omega
  have mixed := mixed
  go_enter Tryz.func29, Tryz.ntmps29
  go_wp2
  go_region_with (first
    | (go_at_call 51; refine (hI _ ?_).mono ?_; rfl; rintro e w' ⟨rfl, k1, os, rfl⟩)
    | (go_at_call 50; go_loud (refine (wr_walk (hc.below (grow_below _ _ _)) hs (hbuf.below (grow_below _ _ _)) _ hlen).mono ?_; rintro e w' hw; obtain ⟨v, buf', t', rfl, hw⟩ := hw)))
  all_goals exact ⟨rfl, .tuple #[], by simp [results, Tryz.results29], Wrote.from (grow_below _ _ _) ⟨.tuple #[], buf', t', rfl, hw⟩⟩
theorem text_walk {w : World} {b n : Nat} {T : TypeId} {a0 buf : Value} (hc : Cells2 w b n T a0 buf) (hs : (a0 = .pointer none ∧ BT T ∧ n = 2) ∨ a0 = .pointer (some ⟨b, 0, none⟩)) {l : List UInt8} {tt : Option Nat} (hbuf : BufR w b l buf tt) (s : List UInt8) (hs63 : s.length ≤ 140737488355328) (hG : Gs w)
    (hlen : l.length + (Lib.itoa s.length ++ [58] ++ s).length ≤ 140737488355328) : Calls Tryz.prog 29 #[.pointer (some ⟨b, 0, none⟩), .string ⟨s.toArray⟩] w (Wrote w b n T l (Lib.itoa s.length ++ [58] ++ s) tt) := by
  have hil := Lib.itoa_length_le (s.length : Int) (by omega) (by omega)
  refine text_walk0 hc hs hbuf ⟨s.toArray⟩ ⟨(Lib.itoa s.length).toArray⟩ s.length (by simp [ByteArray.size]) (by simpa [ByteArray.size] using hil) hs63 _ _ rfl rfl _ ?_ (fun w1 hw => Tryz.strconv_Itoa (s.length : Int) (by omega) (by omega) w1 ?_) hlen
  · rw [show (⟨#[58]⟩ : ByteArray) = ⟨([58] : List UInt8).toArray⟩ from rfl, cat_str, cat_str]
  · have h := hG.tab
    unfold Lib.TabIs World.var? at h ⊢
    rw [hw]
    exact h
variable {od : Value → Prop}
def numberF : List AV → Option AV
  | [.int .i64 k] => if -9223372036854775808 ≤ k ∧ k ≤ 9223372036854775807 then some (.wr 67 (Lib.itoa k ++ [59])) else none
  | _ => none
def textF : List AV → Option AV
  | [.str s] => if s.length ≤ 140737488355328 then some (.wr 67 (Lib.itoa s.length ++ [58] ++ s)) else none
  | _ => none
theorem wrote_ok {w : World} {pr : Nat → Nat → Prop} {b n : Nat} {a0 buf : Value} {T Tb : TypeId} {t : Option Nat} {l s : List UInt8} (hW : WrAt (C4 od) Tb w pr b n a0 buf T t l) {e : Ending} {w' : World} (h : Wrote w b n T l s t e w') :
    ∃ v buf' t' pr', e = .returned v ∧ Aft w w' pr pr' (fun k => k = b ∨ t = some k) ∧ Cells2 w' b n T (.pointer (some ⟨b, 0, none⟩)) buf' ∧ BufR w' b (l ++ s) buf' t' ∧ (∀ k, t' = some k → t = some k ∨ w.heap.size ≤ k) ∧ (∀ k o, t' = some k → ¬ pr' k o) ∧ (t' = none ↔ t = none ∧ s = []) := by
  obtain ⟨v, buf', t', rfl, hB, hc, hb, hfr, hiff⟩ := h
  refine ⟨v, buf', t', pr, rfl, aft_of hB hW.hpr, hc, hb, hfr, fun k o hk hp => ?_, hiff⟩
  rcases hfr k hk with h | h
  · exact hW.nt k o h hp
  · have := hW.hpr k o hp
    omega
theorem number_says (args : List AV) (r : AV) (h : numberF args = some r) : Says (C4 od) 28 args r := by
  have hen : Enters (C4 od).P 28 := ⟨_, Tryz.func28, by kernel_rfl, by kernel_rfl⟩
  unfold numberF at h
  split at h
  · rename_i k
    split at h
    · rename_i hk
      simp only [Option.some.injEq] at h
      subst h
      refine ⟨hen, fun w pr b n a0 buf T t l vals hW hlen hr => ?_⟩
      simp only [RdL, Rd] at hr
      obtain ⟨v, vs, rfl, rfl, rfl⟩ := hr
      exact (number_walk hW.cells (self_bt bt_writer hW.self) hW.hbuf k hk hW.hg hlen).mono fun e w' hw => wrote_ok hW hw
    · simp at h
  · simp at h
theorem text_says (args : List AV) (r : AV) (h : textF args = some r) : Says (C4 od) 29 args r := by
  have hen : Enters (C4 od).P 29 := ⟨_, Tryz.func29, by kernel_rfl, by kernel_rfl⟩
  unfold textF at h
  split at h
  · rename_i s
    split at h
    · rename_i hk
      simp only [Option.some.injEq] at h
      subst h
      refine ⟨hen, fun w pr b n a0 buf T t l vals hW hlen hr => ?_⟩
      simp only [RdL, Rd] at hr
      obtain ⟨v, vs, rfl, rfl, rfl⟩ := hr
      exact (text_walk hW.cells (self_bt bt_writer hW.self) hW.hbuf s hk hW.hg hlen).mono fun e w' hw => wrote_ok hW hw
    · simp at h
  · simp at h
end Go.Proofs.YtdjgdipmjbkilaaGreatDoor.Rx
