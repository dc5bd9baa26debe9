/-
  Functions told by hand: calls of the paths, maps, closures.
-/
import Derived.Test.YtpkeiffclipjmaaGreatDoorRxGa
import Derived.RegionTactic
import Derived.Deep.RegionWith
import Derived.Deep.QuietTactic
namespace Go.Proofs.YtpkeiffclipjmaaGreatDoor.Rx
open Go Go.RowKit
set_option maxRecDepth 100000
set_option linter.unusedSimpArgs false

theorem below_of {w w' : World} (h : BelX (inB []) w w') : Below w.heap.size w w' :=
  ⟨h.os, h.tape, h.output, h.size, fun k hk => h.block k hk (fun ⟨n, hn⟩ => by simp at hn)⟩
theorem Gs.below {w w' : World} (h : Gs w) (hb : Below w.heap.size w w') : Gs w' := fine4.keep w w' h (BelX.of hb)
abbrev no2 : Nat → Nat → Prop := fun _ _ => False
abbrev sV (s : List UInt8) : Value := .string ⟨s.toArray⟩
theorem call_str1 {f : Nat} {s : List UInt8} {r : AV} (hp : plainR r = true) (hd : Den P.Sy f [.str s] = some r) (w : World) (hG : Gs w) :
    Calls Tryz.prog f #[sV s] w fun e w' => ∃ v pr', e = .returned v ∧ Rd w' (pubG pr') r v ∧ Below w.heap.size w w' := by
  obtain ⟨_, h⟩ := says_plain hp (P.fits.den hd)
  refine (h w no2 [sV s] [] hG (fun _ _ h => h.elim) (fun b n h => by simp at h) (by simp only [HandR, Rd]; exact ⟨_, _, rfl, rfl, by simp⟩)).mono ?_
  intro e w' hP
  cases e with
  | returned v =>
    cases r <;> first | (simp [plainR] at hp; done) | (obtain ⟨pr', h1, h2⟩ := hP; exact ⟨v, pr', rfl, h2, below_of h1.below⟩)
  | panicked ch => cases r <;> first | (simp [plainR] at hp; done) | exact hP.elim
  | outgrown => cases r <;> first | (simp [plainR] at hp; done) | exact hP.elim
theorem check_call (s : List UInt8) (hs : s.length ≤ bigT) (w : World) (hG : Gs w) : Calls Tryz.prog 47 #[sV s] w fun e w' => e = .returned (.int .i64 (check01F s)) ∧ Below w.heap.size w w' := by
  refine (call_str1 rfl (P.check_den s hs) w hG).mono ?_
  rintro e w' ⟨v, pr', rfl, h1, h2⟩
  simp only [Rd] at h1
  subst h1
  exact ⟨rfl, h2⟩
theorem parts_call (s : List UInt8) (hs : s.length ≤ bigT) (w : World) (hG : Gs w) : Calls Tryz.prog 99 #[sV s] w fun e w' => (∃ a cap, e = .returned (.slice a (partsF s).length cap)) ∧ Below w.heap.size w w' := by
  refine (call_str1 rfl (P.parts_den s hs) w hG).mono ?_
  rintro e w' ⟨v, pr', rfl, h1, h2⟩
  simp only [sS, Rd] at h1
  obtain ⟨us, h3, ⟨a, cap, rfl, _⟩, _⟩ := h1
  have := RdL.length h3
  rw [List.length_map] at this
  rw [this]
  exact ⟨⟨a, cap, rfl⟩, h2⟩
theorem dir_call (s : List UInt8) (hs : s.length ≤ bigT) (w : World) (hG : Gs w) : Calls Tryz.prog 48 #[sV s] w fun e w' => e = .returned (sV (dirF s)) ∧ Below w.heap.size w w' := by
  refine (call_str1 rfl (P.dir_den s hs) w hG).mono ?_
  rintro e w' ⟨v, pr', rfl, h1, h2⟩
  simp only [Rd] at h1
  subst h1
  exact ⟨rfl, h2⟩

theorem mixed_ : Tryz.prog.follows .mixedOrders = true := by kernel_rfl
theorem Gs.drew {w : World} (h : Gs w) : Gs w.drew := ⟨h.size, h.eg, h.mx⟩
theorem Gs.drewN {w : World} (h : Gs w) (n : Nat) : Gs (w.drewN n) := ⟨h.size, h.eg, h.mx⟩
theorem Below.of_drew {w w' : World} (h : Below w.drew.heap.size w.drew w') : Below w.heap.size w w' := ⟨h.os, h.tape, h.output, h.size, h.block⟩
theorem below_dN {w w' : World} {n : Nat} (h : Below n w w') (k : Nat) : Below n w (w'.drewN k) := ⟨h.os, h.tape, h.output, h.size, h.block⟩
/-! ### (tree).path -/
def pathE (l : Lim) (p : List UInt8) : Int := if check01F p ≠ 0 then check01F p else if l.depth < (partsF p).length then 3 else 0
def errV (n : Int) : Value := if n = 0 then .nilIface else .iface 85 (.int .i64 n)
abbrev treeV (m : Value) (l : Lim) : Value := .agg #[m, .int .i64 l.depth, .int .i64 l.size, .int .i64 l.count]
set_option maxHeartbeats 2000000 in
theorem path_call (m : Value) (l : Lim) (p : List UInt8) (hs : p.length ≤ bigT) (w : World) (hG : Gs w) :
    Calls Tryz.prog 76 #[treeV m l, sV p] w fun e w' => e = .returned (errV (pathE l p)) ∧ Below w.heap.size w w' := by
  have HB : Hid (Below w.heap.size w (w.alloc (.cells #[m, .int .i64 l.depth, .int .i64 l.size, .int .i64 l.count] 89))) := (Below.refl _ w).alloc (Nat.le_refl _) _
  have hC := check_call p hs (w.alloc (.cells #[m, .int .i64 l.depth, .int .i64 l.size, .int .i64 l.count] 89)) (hG.below HB.out)
  have HD : Hid ((w.alloc (.cells #[m, .int .i64 l.depth, .int .i64 l.size, .int .i64 l.count] 89)).cell? ⟨w.heap.size, 1, none⟩ = some (.int .i64 l.depth)) := by
    show _ = _
    rw [Er.cell_heap (Er.hNew w _ rfl)]
    rfl
  have hP := fun W (h : Gs W) => parts_call p hs W h
  have HG : Hid (Gs w) := hG
  have HZ : Hid (w.heap.size < (w.alloc (.cells #[m, .int .i64 l.depth, .int .i64 l.size, .int .i64 l.count] 89)).heap.size) := by show _ < _; simp
  have HE : Hid (pathE l p = if check01F p ≠ 0 then check01F p else if l.depth < (partsF p).length then 3 else 0) := rfl
  have hW := fun n W => Er.wrong_ n W
  have mixed := mixed_
  clear hG hs
  generalize check01F p = c at hC HE
  generalize (partsF p).length = n at hP HE
  generalize pathE l p = r at HE ⊢
  by_cases h1 : c = 0
  · subst h1
    by_cases h2 : l.depth < n
    · have HR : Hid (r = 3) := by
        have := HE.out
        rw [if_neg (by omega), if_pos h2] at this
        exact this
      have h2' : (n : Int) > l.depth := h2
      go_enter Tryz.func76, Tryz.ntmps76
      go_wp2_with (
         go_at_call 47
         refine hC.mono ?_
         rintro e w1 ⟨rfl, hb1⟩
         have B1 : Hid (Below _ _ w1) := hb1
         have d1 := (hb1.cell (p := ⟨w.heap.size, 1, none⟩) HZ.out).trans HD.out
         clear hb1 hC)
      have d1' : w1.drew.cell? ⟨w.heap.size, 1, none⟩ = some (.int .i64 l.depth) := d1
      go_region_with (first
        | (go_at_call 99
           refine (hP _ ?_).mono ?_
           · exact ((HG.out.below HB.out).below B1.out).drew
           rintro e w2 ⟨⟨a, cap, rfl⟩, hb2⟩
           have B2 : Hid (Below w1.heap.size w1 w2) := Below.of_drew hb2
           have d2 := (B2.out.cell (p := ⟨w.heap.size, 1, none⟩) (Nat.lt_of_lt_of_le HZ.out B1.out.size)).trans d1
           clear hb2 hP))
      all_goals (go_wp2_with (
        go_at_call 44
        refine (hW _ _).mono ?_
        rintro e w3 ⟨rfl, rfl⟩
        clear hW))
      all_goals (go_ret; exact ⟨by rw [HR.out]; rfl, HB.out.trans ((B1.out.trans (B2.out.mono B1.out.size)).mono HB.out.size)⟩)
    · have HR : Hid (r = 0) := by
        have := HE.out
        rw [if_neg (by omega), if_neg h2] at this
        exact this
      have h2' : ¬ (n : Int) > l.depth := h2
      go_enter Tryz.func76, Tryz.ntmps76
      go_wp2_with (
         go_at_call 47
         refine hC.mono ?_
         rintro e w1 ⟨rfl, hb1⟩
         have B1 : Hid (Below _ _ w1) := hb1
         have d1 := (hb1.cell (p := ⟨w.heap.size, 1, none⟩) HZ.out).trans HD.out
         clear hb1 hC)
      have d1' : w1.drew.cell? ⟨w.heap.size, 1, none⟩ = some (.int .i64 l.depth) := d1
      go_region_with (first
        | (go_at_call 99
           refine (hP _ ?_).mono ?_
           · exact ((HG.out.below HB.out).below B1.out).drew
           rintro e w2 ⟨⟨a, cap, rfl⟩, hb2⟩
           have B2 : Hid (Below w1.heap.size w1 w2) := Below.of_drew hb2
           have d2 := (B2.out.cell (p := ⟨w.heap.size, 1, none⟩) (Nat.lt_of_lt_of_le HZ.out B1.out.size)).trans d1
           clear hb2 hP))
      all_goals (go_wp2; go_ret; exact ⟨by rw [HR.out]; rfl, HB.out.trans ((B1.out.trans (B2.out.mono B1.out.size)).mono HB.out.size)⟩)
  · have HR : Hid (r = c) := by
      have := HE.out
      rw [if_pos h1] at this
      exact this
    have HN : Hid (¬ c = 0) := h1
    have hd : decide (c = 0) = false := by simpa using h1
    go_enter Tryz.func76, Tryz.ntmps76
    go_wp2_with (
      go_at_call 47
      refine hC.mono ?_
      rintro e w1 ⟨rfl, hb1⟩
      have B1 : Hid (Below _ _ w1) := hb1
      clear hb1 hC)
    go_quiet (fail)
    go_wp2_with (
      go_at_call 44
      refine (hW _ _).mono ?_
      rintro e w3 ⟨rfl, rfl⟩
      clear hW)
    go_ret
    exact ⟨by rw [HR.out, errV, if_neg HN.out]; rfl, below_dN (HB.out.trans (B1.out.mono HB.out.size)) _⟩
end Go.Proofs.YtpkeiffclipjmaaGreatDoor.Rx
namespace Go.Proofs.YtpkeiffclipjmaaGreatDoor.Rx
open Go Go.RowKit
set_option linter.unusedSimpArgs false
set_option maxRecDepth 100000

def vget (k : List UInt8) : List (List UInt8 × Value) → Option Value
  | [] => none
  | p :: l => if p.1 = k then some p.2 else vget k l
def vput (k : List UInt8) (b : Value) : List (List UInt8 × Value) → List (List UInt8 × Value)
  | [] => [(k, b)]
  | p :: l => if p.1 = k then (k, b) :: l else p :: vput k b l
/-- Where a key is. -/
def vat (k : List UInt8) : List (List UInt8 × Value) → Nat → Option (Nat × Value)
  | [], _ => none
  | p :: l, i => if p.1 = k then some (i, p.2) else vat k l (i + 1)
theorem findNow_vat (k : List UInt8) : ∀ (es : List MapEntry) (l : List (List UInt8 × Value)) (i : Nat), es.map (fun e => (e.key, e.val)) = l.map (fun p => (Value.string ⟨p.1.toArray⟩, p.2)) →
    Instr.findNow .string (.string ⟨k.toArray⟩) es i = some ((vat k l i).map fun p => (p.1, p.2))
  | [], [], i, _ => rfl
  | [], p :: l, i, h => by simp at h
  | e :: es, [], i, h => by simp at h
  | e :: es, p :: l, i, h => by
    simp only [List.map_cons, List.cons.injEq, Prod.mk.injEq] at h
    obtain ⟨⟨h1, h2⟩, h3⟩ := h
    unfold Instr.findNow vat
    rw [h1]
    simp only [Instr.sameNow, str_beq]
    by_cases hk : p.1 = k
    · rw [if_pos hk]
      simp [hk, h2]
    · have hk' : ¬ k = p.1 := fun e => hk e.symm
      rw [if_neg hk]
      simp only [hk', decide_false]
      exact findNow_vat k es l (i + 1) h3
theorem vat_lt {k : List UInt8} : ∀ {l : List (List UInt8 × Value)} {i j : Nat} {b : Value}, vat k l i = some (j, b) → i ≤ j
  | [], i, j, b, h => by simp [vat] at h
  | p :: l, i, j, b, h => by
    unfold vat at h
    split at h
    · simp only [Option.some.injEq, Prod.mk.injEq] at h; omega
    · have := vat_lt h; omega
theorem vput_some {k : List UInt8} {b0 : Value} : ∀ {l : List (List UInt8 × Value)} {i j : Nat} {b : Value}, vat k l i = some (j, b) → vput k b0 l = l.set (j - i) (k, b0) ∧ (l[j - i]?).map (·.1) = some k
  | [], i, j, b, h => by simp [vat] at h
  | p :: l, i, j, b, h => by
    unfold vat at h
    unfold vput
    split at h
    · rename_i hk
      simp only [Option.some.injEq, Prod.mk.injEq] at h
      obtain ⟨rfl, rfl⟩ := h
      rw [if_pos hk]
      simp [hk]
    · rename_i hk
      have hlt := vat_lt h
      obtain ⟨h1, h2⟩ := vput_some (b0 := b0) h
      have e : j - i = (j - (i + 1)) + 1 := by omega
      rw [if_neg hk, e, h1]
      exact ⟨rfl, by simpa using h2⟩
theorem vput_none {k : List UInt8} {b0 : Value} : ∀ {l : List (List UInt8 × Value)} {i : Nat}, vat k l i = none → vput k b0 l = l ++ [(k, b0)]
  | [], i, h => rfl
  | p :: l, i, h => by
    unfold vat at h
    unfold vput
    split at h
    · simp at h
    · rename_i hk
      rw [if_neg hk, vput_none h]
      rfl
theorem vat_get (k : List UInt8) : ∀ (l : List (List UInt8 × Value)) (i : Nat), vget k l = (vat k l i).map (·.2)
  | [], i => rfl
  | p :: l, i => by
    unfold vget vat
    by_cases h : p.1 = k
    · rw [if_pos h, if_pos h]; rfl
    · rw [if_neg h, if_neg h]
      exact vat_get k l (i + 1)
section
variable {P : Program} {w : World}
theorem vput_run {t kt et : TypeId} (hm : P.underlying t = some (.map kt et)) (hk : P.underlying kt = some .string) {b : Nat} {es : Array MapEntry} {clk : Nat} {l : List (List UInt8 × Value)} (hb : w.heap[b]? = some (.map es clk))
    (he : es.toList.map (fun e => (e.key, e.val)) = l.map fun p => (Value.string ⟨p.1.toArray⟩, p.2)) (k : List UInt8) (v : Value) :
    ∃ es' clk', (Instr.mapUpdate t (.map (some b)) (.string ⟨k.toArray⟩) v).run P w = .ok () { w with heap := w.heap.setIfInBounds b (.map es' clk') } ∧ es'.toList.map (fun e => (e.key, e.val)) = (vput k v l).map fun p => (Value.string ⟨p.1.toArray⟩, p.2) := by
  have hf := findNow_vat k es.toList l 0 he
  cases hq : vat k l 0 with
  | none =>
    rw [hq] at hf
    refine ⟨es.push { key := .string ⟨k.toArray⟩, val := v, born := clk }, clk + 1, ?_, ?_⟩
    · simp [Instr.mapUpdate, run_underlying hm, MapKept.run_getObj_map hb, MapKept.run_checkKey hk (str_key k), MapKept.run_findKey hk hf, MapKept.run_setObj_map _ hb, Result.andThen]
    · rw [vput_none hq]
      simp [he]
  | some p =>
    obtain ⟨j, b0⟩ := p
    rw [hq] at hf
    obtain ⟨h1, h2⟩ := vput_some (b0 := v) hq
    rw [Nat.sub_zero] at h1 h2
    obtain ⟨p, hp, hpk⟩ := Option.map_eq_some_iff.1 h2
    have hej : ∃ e, es[j]? = some e ∧ e.key = .string ⟨k.toArray⟩ := by
      have := congrArg (·[j]?) he
      simp only [List.getElem?_map, hp, Option.map_some] at this
      obtain ⟨e, e1, e2⟩ := Option.map_eq_some_iff.1 this
      simp only [Prod.mk.injEq] at e2
      exact ⟨e, by simpa using e1, by rw [e2.1, hpk]⟩
    obtain ⟨e, e1, e2⟩ := hej
    refine ⟨es.modify j fun e => { e with key := .string ⟨k.toArray⟩, val := v }, clk, ?_, ?_⟩
    · simp [Instr.mapUpdate, run_underlying hm, MapKept.run_getObj_map hb, MapKept.run_checkKey hk (str_key k), MapKept.run_findKey hk hf, e1, e2, MapKept.run_keyThatStays (str_key k), MapKept.run_setObj_map _ hb, Result.andThen]
    · rw [h1, List.map_set, ← he]
      apply List.ext_getElem?
      intro i
      simp only [List.getElem?_map, List.getElem?_set, List.length_map, Array.getElem?_toList, Array.getElem?_modify, Array.length_toList]
      by_cases hi : j = i
      · subst hi
        have hlt : j < es.size := (Array.getElem?_eq_some_iff.1 e1).1
        rw [if_pos rfl, if_pos rfl, if_pos hlt, e1]
        rfl
      · rw [if_neg hi, if_neg hi]
/-- A map's entries. -/
def MapIs (w : World) (m : Nat) (D : List (List UInt8 × Value)) : Prop := ∃ es clk, w.heap[m]? = some (.map es clk) ∧ es.toList.map (fun e => (e.key, e.val)) = D.map fun p => (Value.string ⟨p.1.toArray⟩, p.2)
theorem vget_run {t kt et : TypeId} (hm : P.underlying t = some (.map kt et)) (hk : P.underlying kt = some .string) {z : Value} (hz : ((P.info? et).bind fun i => i.zero) = some z) {m : Nat} {D : List (List UInt8 × Value)} (h : MapIs w m D) (k : List UInt8) :
    (Instr.lookup t (.map (some m)) (.string ⟨k.toArray⟩) false).run P w = .ok ((vget k D).getD z) w := by
  obtain ⟨es, clk, h1, h2⟩ := h
  have hf := findNow_vat k es.toList D 0 h2
  obtain ⟨i, hi, hi2⟩ := Option.bind_eq_some_iff.1 hz
  rw [vat_get k D 0]
  cases hq : vat k D 0 with
  | none =>
    rw [hq] at hf
    simp [Instr.lookup, run_underlying hm, MapKept.run_getObj_map h1, MapKept.run_checkKey hk (str_key k), MapKept.run_findKey hk hf, zeroValue, typeInfo, hi, hi2, Result.andThen]
  | some p =>
    rw [hq] at hf
    simp [Instr.lookup, run_underlying hm, MapKept.run_getObj_map h1, MapKept.run_checkKey hk (str_key k), MapKept.run_findKey hk hf, Result.andThen]
theorem MapIs.below {w w' : World} {m : Nat} {D : List (List UInt8 × Value)} (h : MapIs w m D) (hb : Below w.heap.size w w') : MapIs w' m D := by
  obtain ⟨es, clk, h1, h2⟩ := h
  exact ⟨es, clk, by rw [hb.block _ (heap_lt h1)]; exact h1, h2⟩
theorem vput_map {t kt et : TypeId} (hm : P.underlying t = some (.map kt et)) (hk : P.underlying kt = some .string) {m : Nat} {D : List (List UInt8 × Value)} (h : MapIs w m D) (k : List UInt8) (v : Value) :
    ∃ w', (Instr.mapUpdate t (.map (some m)) (.string ⟨k.toArray⟩) v).run P w = .ok () w' ∧ MapIs w' m (vput k v D) ∧ Below m w w' ∧ w'.heap.size = w.heap.size ∧ ∀ b, b ≠ m → w'.heap[b]? = w.heap[b]? := by
  obtain ⟨es, clk, h1, h2⟩ := h
  obtain ⟨es', clk', h3, h4⟩ := vput_run (P := P) hm hk h1 h2 k v
  have hlt := heap_lt h1
  refine ⟨_, h3, ⟨es', clk', ?_, h4⟩, ⟨rfl, rfl, rfl, ?_, ?_⟩, ?_, ?_⟩
  · show (w.heap.setIfInBounds m _)[m]? = _
    simp [hlt]
  · show _ ≤ (w.heap.setIfInBounds m _).size
    simp
  · intro b hb
    show (w.heap.setIfInBounds m _)[b]? = _
    rw [Array.getElem?_setIfInBounds, if_neg (by omega)]
  · show (w.heap.setIfInBounds m _).size = _
    simp
  · intro b hb
    show (w.heap.setIfInBounds m _)[b]? = _
    rw [Array.getElem?_setIfInBounds, if_neg (fun e => hb e.symm)]
end
end Go.Proofs.YtpkeiffclipjmaaGreatDoor.Rx
namespace Go.Proofs.YtpkeiffclipjmaaGreatDoor.Rx
open Go Go.RowKit
set_option maxRecDepth 100000
set_option linter.unusedSimpArgs false

theorem dir1_pred (w : World) : PredBelow Tryz.prog 100 #[] vI (fun x => decide (x.kind = 1)) w := fun W x hb => by
  show Calls Tryz.prog 100 #[.agg #[.string ⟨x.path.toArray⟩, .int .i64 x.kind, .string ⟨x.data.toArray⟩, .bool x.bad]] W fun e w' => e = .returned (.bool (decide (x.kind = 1))) ∧ Below w.heap.size w w'
  have hb : Hid (Below w.heap.size w W) := hb
  go_enter Tryz.func100, Tryz.ntmps100
  go_wp2
  go_ret
  exact ⟨rfl, hb.out.alloc hb.out.size _⟩
theorem bad_pred (w : World) : PredBelow Tryz.prog 80 #[] vI (fun x => x.bad) w := fun W x hb => by
  show Calls Tryz.prog 80 #[.agg #[.string ⟨x.path.toArray⟩, .int .i64 x.kind, .string ⟨x.data.toArray⟩, .bool x.bad]] W fun e w' => e = .returned (.bool x.bad) ∧ Below w.heap.size w w'
  have hb : Hid (Below w.heap.size w W) := hb
  go_enter Tryz.func80, Tryz.ntmps80
  go_wp2
  go_ret
  exact ⟨rfl, hb.out.alloc hb.out.size _⟩
theorem tree_dir_call (m : Nat) (l : Lim) (p : List UInt8) (D : List (List UInt8 × Value)) (t : List It) (a : Option Addr) (cap : Nat) (w : World) (hD : MapIs w m D) (hv : (vget p D).getD (.slice none 0 0) = .slice a t.length cap) (hbig : t.length ≤ 9223372036854775807) (hr : ItRow w a t cap) :
    Calls Tryz.prog 78 #[treeV (.map (some m)) l, sV p] w fun e w' => e = .returned (.bool (t.any fun x => decide (x.kind = 1))) ∧ Below w.heap.size w w' := by
  have HB : Hid (Below w.heap.size w (w.alloc (.cells #[.map (some m), .int .i64 l.depth, .int .i64 l.size, .int .i64 l.count] 89))) := (Below.refl _ w).alloc (Nat.le_refl _) _
  have hL := vget_run (P := Tryz.prog) (t := 87) Tryz.underlying87 Tryz.underlying9 (et := 22) (z := .slice none 0 0) (by kernel_rfl) (hD.below HB.out) p
  rw [hv] at hL
  have hA := any_its (fun x => decide (x.kind = 1)) 100 #[] (enters_of Tryz.func100 (by kernel_rfl) rfl) a cap t _ (dir1_pred _) hbig (hr.below HB.out)
  generalize (t.any fun x => decide (x.kind = 1)) = q at hA ⊢
  clear hD hv hr
  go_enter Tryz.func78, Tryz.ntmps78
  go_wp2_with (
    go_at_call 75
    refine hA.mono ?_
    rintro e w1 ⟨rfl, hb1⟩
    have B1 : Hid (Below _ _ w1) := hb1
    clear hb1 hA)
  go_ret
  exact ⟨rfl, HB.out.trans (B1.out.mono HB.out.size)⟩
end Go.Proofs.YtpkeiffclipjmaaGreatDoor.Rx
namespace Go.Proofs.YtpkeiffclipjmaaGreatDoor.Rx
open Go Go.RowKit
set_option maxRecDepth 100000
set_option linter.unusedSimpArgs false

theorem long_pred (n : Int) (B : Nat) (w : World) (hB : B < w.heap.size) (hcell : w.cell? ⟨B, 2, none⟩ = some (.int .i64 n)) : PredBelow Tryz.prog 79 #[.pointer (some ⟨B, 0, none⟩)] vI (fun x => decide (n < (x.data.length : Int))) w := fun W x hb => by
  have hc : W.cell? ⟨B, 2, none⟩ = some (.int .i64 n) := (hb.cell (p := ⟨B, 2, none⟩) hB).trans hcell
  have hBW : B < W.heap.size := Nat.lt_of_lt_of_le hB hb.size
  have hne : B ≠ W.heap.size := by omega
  have hsz : (⟨x.data.toArray⟩ : ByteArray).size = x.data.length := by simp [ByteArray.size]
  show Calls Tryz.prog 79 #[.agg #[.string ⟨x.path.toArray⟩, .int .i64 x.kind, .string ⟨x.data.toArray⟩, .bool x.bad], .pointer (some ⟨B, 0, none⟩)] W fun e w' => e = .returned (.bool (decide (n < (x.data.length : Int)))) ∧ Below w.heap.size w w'
  rw [← hsz]
  generalize (⟨x.data.toArray⟩ : ByteArray) = s
  have hb : Hid (Below w.heap.size w W) := hb
  clear hcell hB hsz
  go_enter Tryz.func79, Tryz.ntmps79
  go_wp2
  go_ret
  exact ⟨rfl, hb.out.alloc hb.out.size _⟩
theorem kind_pred (w : World) : PredBelow Tryz.prog 77 #[] vI (fun x => some1 x 0 5) w := fun W x hb => by
  show Calls Tryz.prog 77 #[.agg #[.string ⟨x.path.toArray⟩, .int .i64 x.kind, .string ⟨x.data.toArray⟩, .bool x.bad]] W fun e w' => e = .returned (.bool (some1 x 0 5)) ∧ Below w.heap.size w w'
  have hs : some1 x 0 5 = (decide (x.kind < 1) || decide (3 < x.kind) || (decide (x.kind = 1) && decide (x.data ≠ []))) := rfl
  rw [hs]
  have hb : Hid (Below w.heap.size w W) := hb
  obtain ⟨q, hq⟩ : ∃ q : Bool, Hid (decide (x.data ≠ []) = q) := ⟨_, rfl⟩
  rw [hq.out]
  have hq : Hid (q = !(⟨x.data.toArray⟩ : ByteArray).toList.isEmpty) := by
    have := hq.out
    subst this
    show decide _ = _
    rw [Lib.toList_data]
    cases x.data <;> rfl
  clear hs
  generalize (⟨x.data.toArray⟩ : ByteArray) = s at hq ⊢
  generalize x.kind = k
  by_cases h1 : k = 1
  · subst h1
    go_enter Tryz.func77, Tryz.ntmps77
    go_wp2
    go_ret
    exact ⟨by rw [hq.out]; rfl, hb.out.alloc hb.out.size _⟩
  · by_cases h2 : k = 2
    · subst h2
      go_enter Tryz.func77, Tryz.ntmps77
      go_wp2
      go_ret
      exact ⟨rfl, hb.out.alloc hb.out.size _⟩
    · by_cases h3 : k = 3
      · subst h3
        go_enter Tryz.func77, Tryz.ntmps77
        go_wp2
        go_ret
        exact ⟨rfl, hb.out.alloc hb.out.size _⟩
      · have hr : Hid ((decide (k < 1) || decide (3 < k) || (decide (k = 1) && q)) = true) := by
          by_cases h4 : k < 1
          · show _ = _; simp [h4]
          · have h5 : 3 < k := by omega
            show _ = _; simp [h5]
        rw [hr.out]
        go_enter Tryz.func77, Tryz.ntmps77
        go_wp2
        go_ret
        exact ⟨rfl, hb.out.alloc hb.out.size _⟩
end Go.Proofs.YtpkeiffclipjmaaGreatDoor.Rx
namespace Go.Proofs.YtpkeiffclipjmaaGreatDoor.Rx
open Go Go.RowKit
set_option maxRecDepth 100000
set_option linter.unusedSimpArgs false

/-- The closure of fault: has one of the path's items this? -/
theorem some_call (q : It → Bool) (g : Nat) (lb : Array Value) (eg : ∀ args w, (callFunc g args).run Tryz.prog w = .ok (.enter g args) w) (B : Nat) (a : Option Addr) (cap : Nat) (t : List It) (w : World)
    (hc : w.cell? ⟨B, 0, none⟩ = some (.slice a t.length cap)) (hp : PredBelow Tryz.prog g lb vI q w) (hbig : t.length ≤ 9223372036854775807) (hr : ItRow w a t cap) :
    Calls Tryz.prog 74 #[.func (.func g) #[] lb, .pointer (some ⟨B, 0, none⟩)] w fun e w' => e = .returned (.bool (t.any q)) ∧ Below w.heap.size w w' := by
  have hA := any_its q g lb eg a cap t w hp hbig hr
  generalize t.any q = r at hA ⊢
  clear hp hr
  go_enter Tryz.func74, Tryz.ntmps74
  go_wp2_with (
    go_at_call 75
    refine hA.mono ?_
    rintro e w1 ⟨rfl, hb1⟩
    have B1 : Hid (Below _ _ w1) := hb1
    clear hb1 hA)
  go_ret
  exact ⟨rfl, B1.out⟩
def faultE (e : Int) (n : Nat) (k5 : Bool) (d : List UInt8) (dth k7 k9 : Bool) : Int :=
  if e ≠ 0 then e else if 1 < n then 4 else if k5 = true then 5 else if d ≠ [] ∧ dth = false then 6 else if k7 = true then 7 else if k9 = true then 9 else 0
/-- What the walk of fault goes by. -/
structure FaultBy (w : World) (m : Nat) (l : Lim) (p : List UInt8) (a : Option Addr) (cap : Nat) (e : Int) (n : Nat) (k5 : Bool) (d : List UInt8) (dth k7 k9 : Bool) (Inv : World → Prop) : Prop where
  lk : (Instr.lookup 87 (.map (some m)) (sV p) false).run Tryz.prog (w.alloc (.cells #[.map (some m), .int .i64 l.depth, .int .i64 l.size, .int .i64 l.count] 89)) = .ok (.slice a n cap) (w.alloc (.cells #[.map (some m), .int .i64 l.depth, .int .i64 l.size, .int .i64 l.count] 89))
  i0 : Inv ((w.alloc (.cells #[.map (some m), .int .i64 l.depth, .int .i64 l.size, .int .i64 l.count] 89)).alloc (.cells #[.slice a n cap] 22))
  drew : ∀ W, Inv W → Inv W.drew
  bl : ∀ W, Inv W → Below w.heap.size w W
  ct : ∀ W, Inv W → W.cell? ⟨w.heap.size, 0, none⟩ = some (.map (some m)) ∧ W.cell? ⟨w.heap.size, 1, none⟩ = some (.int .i64 l.depth) ∧ W.cell? ⟨w.heap.size, 2, none⟩ = some (.int .i64 l.size) ∧ W.cell? ⟨w.heap.size, 3, none⟩ = some (.int .i64 l.count)
  cl : ∀ W, Inv W → W.cell? ⟨w.heap.size + 1, 0, none⟩ = some (.slice a n cap)
  hdir : ∀ W, Inv W → Calls Tryz.prog 48 #[sV p] W fun ev w' => ev = .returned (sV d) ∧ Inv w'
  hpath : ∀ W, Inv W → Calls Tryz.prog 76 #[treeV (.map (some m)) l, sV p] W fun ev w' => ev = .returned (errV e) ∧ Inv w'
  hk : ∀ W, Inv W → Calls Tryz.prog 74 #[.func (.func 77) #[] #[], .pointer (some ⟨w.heap.size + 1, 0, none⟩)] W fun ev w' => ev = .returned (.bool k5) ∧ Inv w'
  hl : ∀ W, Inv W → Calls Tryz.prog 74 #[.func (.func 79) #[] #[.pointer (some ⟨w.heap.size, 0, none⟩)], .pointer (some ⟨w.heap.size + 1, 0, none⟩)] W fun ev w' => ev = .returned (.bool k7) ∧ Inv w'
  hb : ∀ W, Inv W → Calls Tryz.prog 74 #[.func (.func 80) #[] #[], .pointer (some ⟨w.heap.size + 1, 0, none⟩)] W fun ev w' => ev = .returned (.bool k9) ∧ Inv w'
  hd : ∀ W, Inv W → Calls Tryz.prog 78 #[treeV (.map (some m)) l, sV d] W fun ev w' => ev = .returned (.bool dth) ∧ Inv w'
theorem fault_a (w : World) (m : Nat) (l : Lim) (p : List UInt8) (a : Option Addr) (cap : Nat) (e : Int) (n : Nat) (k5 : Bool) (d : List UInt8) (dth k7 k9 : Bool) (Inv : World → Prop) (F : FaultBy w m l p a cap e n k5 d dth k7 k9 Inv) (h1 : e ≠ 0) :
    Calls Tryz.prog 55 #[treeV (.map (some m)) l, sV p] w fun ev w' => ev = .returned (.iface 85 (.int .i64 e)) ∧ Below w.heap.size w w' := by
  have hL := F.lk
  have he : errV e = .iface 85 (.int .i64 e) := if_neg h1
  have hP := F.hpath
  rw [he] at hP
  have H1 : Hid (e ≠ 0) := h1
  have I := F.i0
  clear he h1
  go_enter Tryz.func55, Tryz.ntmps55
  go_wp2_with (first
    | (go_at_call 48
       refine (F.hdir _ I).mono ?_
       rintro ev w1 ⟨rfl, I1⟩
       obtain ⟨c0, c1, c2, c3⟩ := F.ct _ I1)
    | (go_at_call 76
       refine (hP _ I1).mono ?_
       rintro ev w2 ⟨rfl, I2⟩
       clear c0 c1 c2 c3))
  go_ret
  exact ⟨rfl, F.bl _ I2⟩
theorem fault_b (w : World) (m : Nat) (l : Lim) (p : List UInt8) (a : Option Addr) (cap : Nat) (n : Nat) (k5 : Bool) (d : List UInt8) (dth k7 k9 : Bool) (Inv : World → Prop) (F : FaultBy w m l p a cap 0 n k5 d dth k7 k9 Inv) (h2 : 1 < n) :
    Calls Tryz.prog 55 #[treeV (.map (some m)) l, sV p] w fun ev w' => ev = .returned (.iface 85 (.int .i64 4)) ∧ Below w.heap.size w w' := by
  have hL := F.lk
  have he : errV 0 = .nilIface := rfl
  have hP := F.hpath
  rw [he] at hP
  have hW := fun n W => Er.wrong_ n W
  have h2' : (1 : Int) < n := by omega
  have h2'' : (n : Int) > 1 := by omega
  have I := F.i0
  clear he h2
  go_enter Tryz.func55, Tryz.ntmps55
  go_wp2_with (first
    | (go_at_call 48
       refine (F.hdir _ I).mono ?_
       rintro ev w1 ⟨rfl, I1⟩
       obtain ⟨c0, c1, c2, c3⟩ := F.ct _ I1)
    | (go_at_call 76
       refine (hP _ I1).mono ?_
       rintro ev w2 ⟨rfl, I2⟩
       have cl := F.cl _ I2
       clear c0 c1 c2 c3)
    | (go_at_call 44
       refine (hW _ _).mono ?_
       rintro ev w3 ⟨rfl, rfl⟩))
  go_ret
  exact ⟨rfl, F.bl _ I2⟩
theorem fault_c (w : World) (m : Nat) (l : Lim) (p : List UInt8) (a : Option Addr) (cap : Nat) (n : Nat) (d : List UInt8) (dth k7 k9 : Bool) (Inv : World → Prop) (F : FaultBy w m l p a cap 0 n true d dth k7 k9 Inv) (h2 : ¬ 1 < n) :
    Calls Tryz.prog 55 #[treeV (.map (some m)) l, sV p] w fun ev w' => ev = .returned (.iface 85 (.int .i64 5)) ∧ Below w.heap.size w w' := by
  have hL := F.lk
  have he : errV 0 = .nilIface := rfl
  have hP := F.hpath
  rw [he] at hP
  have hW := fun n W => Er.wrong_ n W
  have h2' : ¬ (1 : Int) < n := by omega
  have h2'' : ¬ (n : Int) > 1 := by omega
  have I := F.i0
  clear he h2
  go_enter Tryz.func55, Tryz.ntmps55
  go_wp2_with (first
    | (go_at_call 48
       refine (F.hdir _ I).mono ?_
       rintro ev w1 ⟨rfl, I1⟩
       obtain ⟨c0, c1, c2, c3⟩ := F.ct _ I1)
    | (go_at_call 76
       refine (hP _ I1).mono ?_
       rintro ev w2 ⟨rfl, I2⟩
       have cl := F.cl _ I2
       clear c0 c1 c2 c3)
    | (go_at_call 74
       refine (F.hk _ I2).mono ?_
       rintro ev w3 ⟨rfl, I3⟩)
    | (go_at_call 44
       refine (hW _ _).mono ?_
       rintro ev w4 ⟨rfl, rfl⟩))
  go_ret
  exact ⟨rfl, F.bl _ I3⟩
end Go.Proofs.YtpkeiffclipjmaaGreatDoor.Rx
