/-
  Functions told by hand: texts, rows of items, Find.
-/
import Derived.Test.YtpkeiffclipjmaaGreatDoorRxCa
import Derived.Test.YtpkeiffclipjmaaGreatDoorRxSh
import Derived.Test.YtpkeiffclipjmaaGreatDoorRxBa
import Derived.Lib.SplitLaws
import Derived.WalkKit
import Derived.WalkLawsBesides
import Derived.Tactics2
import Derived.Recover
import Derived.KernelRfl
import Derived.Test.YtpkeiffclipjmaaGreatDoorRxSg
import Derived.Lib.SliceRun
import Derived.Laws.ResultCell
namespace Go.Proofs.YtpkeiffclipjmaaGreatDoor.Rx
open Go Go.RowKit

/-! ### What is asked of the variables -/
structure Gs (w : World) : Prop where
  size : Tryz.prog.globals.size ≤ w.heap.size
  eg : Er.EgW w
  mx : ∃ m, w.cell? ⟨1, 0, none⟩ = some (.int .i64 m)
noncomputable def Bs : Nat := Tryz.prog.globals.size
noncomputable def C4 : Cx := ⟨Tryz.prog, Gs, Bs, fun _ => False⟩
theorem two_lt : 2 ≤ Tryz.prog.globals.size := by
  have h : (decide (2 ≤ Tryz.prog.globals.size)) = true := by kernel_rfl
  exact of_decide_eq_true h
theorem fine4 : C4.Fine := ⟨fun _ h => h.size, fun w w' h k => by
    have hk : BelX (fun k => Tryz.prog.globals.size ≤ k) w w' := k
    have h2 := two_lt
    have hs := h.size
    obtain ⟨m, hm⟩ := h.mx
    have hb : ∀ i, i < 2 → ∀ o, w'.cell? ⟨i, o, none⟩ = w.cell? ⟨i, o, none⟩ := fun i hi o => cell_of_block (hk.block i (by omega) (by omega)) o
    exact ⟨Nat.le_trans h.size k.size, (hb 0 (by omega) 0).trans h.eg, m, (hb 1 (by omega) 0).trans hm⟩⟩
theorem Aft.same {w w' : World} {pr : Nat → Nat → Prop} {Y : Nat → Prop} (h : Below w.heap.size w w') (hp : ∀ b o, pr b o → b < w.heap.size) : Aft w w' pr pr Y :=
  ⟨BelX.of h, fun _ _ h => h, fun _ _ h => .inl h, fun b o p => Nat.lt_of_lt_of_le (hp b o p) h.size⟩

/-! ### A row of the call's own -/
theorem later_below {w w' : World} {pr pr' : Nat → Nat → Prop} (h : Below w.heap.size w w') (hp : ∀ b o, pr b o → b < w.heap.size) (hi : ∀ b o, pr b o → pr' b o) : Later w (pubG pr) w' (pubG pr') :=
  ⟨fun b o p => h.cell (p := ⟨b, o, none⟩) (hp b o p), hi, fun _ _ _ e => by simp [pubG] at e, fun _ _ _ e => by simp [pubG] at e, (BelX.of (X := fun _ => False) h).ty⟩
theorem fresh_row {w w' : World} {pr : Nat → Nat → Prop} (hpr : ∀ b o, pr b o → b < w.heap.size) (hb : Below w.heap.size w w') {k b cap : Nat} {xs : List AV} {us : List Value} {cur : Array Value} {T : TypeId}
    (hr : RdL w (pubG pr) xs us) (hk : ∀ u ∈ us, u.cells.size = k) (h1 : ∀ c ∈ flatV us, c.oneCell' = true) (hge : w.heap.size ≤ b) (hc : w'.heap[b]? = some (.cells cur T (0, 0))) (ht : cur.toList.take (flatV us).length = flatV us) (hcap : us.length ≤ cap)
    {Y : Nat → Prop} : ∃ pr', Aft w w' pr pr' Y ∧ Rd w' (pubG pr') (.sl k xs .no) (.slice (some ⟨b, 0, none⟩) us.length cap) := by
  refine ⟨fun b' o => pr b' o ∨ b' = b ∧ o < (flatV us).length, ⟨BelX.of hb, fun _ _ h => .inl h, fun b o h => h.elim .inl (fun h => .inr (by omega)), fun b o h => h.elim (fun h => Nat.lt_of_lt_of_le (hpr b o h) hb.size) (fun h => by rw [h.1]; exact heap_lt hc)⟩, ?_⟩
  simp only [Rd]
  refine ⟨us, RdL.later xs (later_below hb hpr fun _ _ h => .inl h) hr, ⟨some ⟨b, 0, none⟩, cap, rfl, hcap, hk, h1, fun _ => ⟨b, 0, rfl, ?_⟩⟩, trivial⟩
  intro j c hj
  have hjl : j < (flatV us).length := (List.getElem?_eq_some_iff.1 hj).1
  refine ⟨?_, .inr ⟨rfl, by omega⟩⟩
  have hcj : cur.toList[j]? = some c := by
    rw [← hj, ← ht]
    simp [hjl]
  simp only [World.cell?, hc, Nat.zero_add]
  simpa using hcj

/-! ### strings.Split at a slash -/
theorem splitK_G : ∀ (s cur : List UInt8), ∃ x l, Lib.splitK [47] 0 (Lib.count s [47]) s = x :: l ∧ splitG cur s = (cur ++ x) :: l
  | [], cur => ⟨[], [], by simp [Lib.count, Lib.countFrom, Lib.index, Lib.splitK], by simp [splitG]⟩
  | c :: r, cur => by
    by_cases hc : c = 47
    · subst hc
      obtain ⟨x, l, h1, h2⟩ := splitK_G r []
      refine ⟨[], x :: l, ?_, ?_⟩
      · rw [Lib.count_cons_eq, Nat.add_comm]
        have hix : Lib.index (47 :: r) [47] = 0 := by simp [Lib.index, List.isPrefixOf]
        simp [Lib.splitK, hix, h1]
      · simp [splitG, h2]
    · obtain ⟨x, l, h1, h2⟩ := splitK_G r (cur ++ [c])
      refine ⟨c :: x, l, ?_, ?_⟩
      · rw [Lib.count_cons_ne c 47 r hc]
        have hp : ([47] : List UInt8).isPrefixOf (c :: r) = false := by simp [List.isPrefixOf, Ne.symm hc]
        have hix : Lib.index (c :: r) [47] = if Lib.index r [47] == -1 then -1 else Lib.index r [47] + 1 := by rw [Lib.index, hp]; simp
        cases hn : Lib.count r [47] with
        | zero =>
          rw [hn] at h1
          simp only [Lib.splitK] at h1 ⊢
          cases h1
          rfl
        | succ k =>
          rw [hn] at h1
          simp only [Lib.splitK] at h1 ⊢
          by_cases hm : Lib.index r [47] = -1
          · rw [if_pos (by simpa using hm)] at h1
            rw [if_pos (by rw [hix, if_pos (by simpa using hm)]; rfl)]
            cases h1
            rfl
          · have hge := Lib.index_ge r [47]
            obtain ⟨j, hj⟩ : ∃ j : Nat, Lib.index r [47] = j := ⟨(Lib.index r [47]).toNat, by omega⟩
            rw [if_neg (by simpa using hm)] at h1
            have hix' : Lib.index (c :: r) [47] = ((j + 1 : Nat) : Int) := by rw [hix, if_neg (by simpa using hm), hj]; omega
            rw [if_neg (by rw [hix']; simp; omega), hix']
            rw [hj] at h1
            simp only [Int.toNat_natCast, List.length_singleton, Nat.add_zero, List.take_succ_cons, List.drop_succ_cons] at h1 ⊢
            cases h1
            rfl
      · simp [splitG, hc, h2]
theorem split_eq (s : List UInt8) : Lib.splitK [47] 0 (Lib.count s [47]) s = splitP s := by
  obtain ⟨x, l, h1, h2⟩ := splitK_G s []
  rw [h1, splitP, h2]
  rfl
theorem rdL_strs (w : World) (g : Gh) : ∀ ss : List (List UInt8), RdL w g (ss.map AV.str) (ss.map fun s => .string ⟨s.toArray⟩)
  | [] => by simp [RdL]
  | s :: ss => by
    simp only [List.map_cons, RdL]
    exact ⟨_, _, rfl, by simp only [Rd], rdL_strs w g ss⟩
theorem flatV_strs : ∀ ss : List (List UInt8), flatV (ss.map fun s => Value.string ⟨s.toArray⟩) = ss.map fun s => Value.string ⟨s.toArray⟩
  | [] => rfl
  | s :: ss => by
    have := flatV_strs ss
    simp only [flatV, List.map_cons, List.flatMap_cons] at this ⊢
    rw [this]
    simp [Value.cells]
def splitF : List AV → Option AV
  | [.str s, .str [47]] => if s.length < 4294967281 then some (.sl 1 ((splitP s).map .str) .no) else none
  | _ => none
theorem split_says (args : List AV) (r : AV) (h : splitF args = some r) : Says C4 62 args r := by
  have hen : Enters C4.P 62 := ⟨_, Tryz.func62, by kernel_rfl, by kernel_rfl⟩
  unfold splitF at h
  split at h
  · rename_i s
    split at h
    · rename_i hn
      simp only [Option.some.injEq] at h
      subst h
      refine ⟨hen, fun w pr vals bs hG hpr hB hh => ?_⟩
      simp only [HandR] at hh
      obtain ⟨v, vs, rfl, hv, v2, vs2, rfl, hv2, rfl, rfl⟩ := hh
      simp only [Rd] at hv hv2
      subst hv hv2
      obtain ⟨m, hm⟩ := hG.mx
      have hsz : (⟨s.toArray⟩ : ByteArray).size = s.length := by simp [ByteArray.size]
      refine (Tryz.strings_Split ⟨s.toArray⟩ ⟨#[47]⟩ m w (by rw [hsz]; exact hn) hm (by decide)).mono ?_
      rintro e w' ⟨rfl, rfl⟩
      have hd : (Lib.splitB ⟨#[47]⟩ 0 (Lib.countB ⟨s.toArray⟩ ⟨#[47]⟩) ⟨s.toArray⟩).map (·.data.toList) = splitP s := by
        rw [Lib.splitB_data]
        exact split_eq s
      have hl : (Lib.splitB ⟨#[47]⟩ 0 (Lib.countB ⟨s.toArray⟩ ⟨#[47]⟩) ⟨s.toArray⟩).length = Lib.countB ⟨s.toArray⟩ ⟨#[47]⟩ + 1 := Lib.splitB_all _ (by decide) 0 _ _ rfl
      have hlp : (splitP s).length = Lib.countB ⟨s.toArray⟩ ⟨#[47]⟩ + 1 := by rw [← hd, List.length_map, hl]
      have hvs : (Lib.splitB ⟨#[47]⟩ 0 (Lib.countB ⟨s.toArray⟩ ⟨#[47]⟩) ⟨s.toArray⟩).map Value.string = (splitP s).map fun s => Value.string ⟨s.toArray⟩ := by
        rw [← hd, List.map_map]
        rfl
      rw [hvs]
      have := fresh_row (Y := inB []) hpr (w' := w.alloc (.cells ((splitP s).map fun s => Value.string ⟨s.toArray⟩).toArray 9)) ((Below.refl _ w).alloc (Nat.le_refl _) _) (k := 1) (b := w.heap.size) (cap := (splitP s).length) (rdL_strs w (pubG pr) (splitP s)) (by simp [Value.cells]) (by rw [flatV_strs]; simp [Value.oneCell']) (Nat.le_refl _) (cur := ((splitP s).map fun s => Value.string ⟨s.toArray⟩).toArray) (T := 9) (by simp only [World.alloc]; rw [Array.getElem?_push_size]) (by rw [flatV_strs]; simp [List.take_of_length_le]) (by simp)
      obtain ⟨pr', h1, h2⟩ := this
      refine ⟨pr', h1, ?_⟩
      rw [List.length_map, hlp] at h2
      exact h2
    · simp at h
  · simp at h

/-! ### strings.LastIndex at a slash, strings.IndexByte -/
def lastF : List AV → Option AV
  | [.str s, .str [47]] => if s.length < 4611686018427387904 then some (.int .i64 (Lib.lastIndexByte ⟨s.toArray⟩ 47)) else none
  | _ => none
theorem last_says (args : List AV) (r : AV) (h : lastF args = some r) : Says C4 85 args r := by
  have hen : Enters C4.P 85 := ⟨_, Tryz.func85, by kernel_rfl, by kernel_rfl⟩
  unfold lastF at h
  split at h
  · rename_i s
    split at h
    · rename_i hn
      simp only [Option.some.injEq] at h
      subst h
      refine ⟨hen, fun w pr vals bs hG hpr hB hh => ?_⟩
      simp only [HandR] at hh
      obtain ⟨v, vs, rfl, hv, v2, vs2, rfl, hv2, rfl, rfl⟩ := hh
      simp only [Rd] at hv hv2
      subst hv hv2
      have hsz : (⟨s.toArray⟩ : ByteArray).size = s.length := by simp [ByteArray.size]
      refine (Tryz.strings_LastIndex_one ⟨s.toArray⟩ ⟨#[47]⟩ (by decide) (by rw [hsz]; exact hn) w).mono ?_
      rintro e w' ⟨rfl, rfl⟩
      exact ⟨pr, Aft.same (Below.refl _ _) hpr, by simp only [Rd]; rfl⟩
    · simp at h
  · simp at h
def indexByteF : List AV → Option AV
  | [.str s, .int .u8 c] => some (.int .i64 (Lib.indexByte s c.toNat.toUInt8))
  | _ => none
theorem indexByte_says (args : List AV) (r : AV) (h : indexByteF args = some r) : Says C4 84 args r := by
  have hen : Enters C4.P 84 := ⟨_, Tryz.func84, by kernel_rfl, by kernel_rfl⟩
  unfold indexByteF at h
  split at h
  · rename_i s c
    simp only [Option.some.injEq] at h
    subst h
    refine ⟨hen, fun w pr vals bs hG hpr hB hh => ?_⟩
    simp only [HandR] at hh
    obtain ⟨v, vs, rfl, hv, v2, vs2, rfl, hv2, rfl, rfl⟩ := hh
    simp only [Rd] at hv hv2
    subst hv hv2
    refine (Tryz.strings_IndexByte ⟨s.toArray⟩ c w).mono ?_
    rintro e w' ⟨rfl, rfl⟩
    exact ⟨pr, Aft.same (Below.refl _ _) hpr, by simp only [Rd]⟩
  · simp at h

end Go.Proofs.YtpkeiffclipjmaaGreatDoor.Rx
namespace Go.Proofs.YtpkeiffclipjmaaGreatDoor.Rx
open Go Go.RowKit
set_option maxRecDepth 100000
set_option linter.unusedSimpArgs false

/-! ### Rows of items -/
def encI (x : It) : List Value := [.string ⟨x.path.toArray⟩, .int .i64 x.kind, .string ⟨x.data.toArray⟩, .bool x.bad]
abbrev vI (x : It) : Value := .agg (encI x).toArray
theorem encI_len (x : It) : (encI x).length = 4 := rfl
theorem rd_it {w : World} {g : Gh} {x : It} {v : Value} (h : Rd w g (iA x) v) : v = vI x := by
  simp only [iA, Rd, RdL] at h
  obtain ⟨vs, rfl, ⟨u1, us1, e1, rfl, u2, us2, rfl, rfl, u3, us3, rfl, rfl, u4, us4, rfl, rfl, rfl⟩, _⟩ := h
  rw [vI, encI, ← e1]
theorem it_rd (w : World) (g : Gh) (x : It) : Rd w g (iA x) (vI x) := by
  simp only [iA, Rd, RdL]
  exact ⟨_, rfl, ⟨_, _, rfl, rfl, _, _, rfl, rfl, _, _, rfl, rfl, _, _, rfl, rfl, rfl⟩, by simp [encI, Value.oneCell']⟩
theorem rd_its {w : World} {g : Gh} : ∀ {t : List It} {us : List Value}, RdL w g (t.map iA) us → us = t.map vI
  | [], us, h => by simpa [RdL] using h
  | x :: t, us, h => by
    simp only [List.map_cons, RdL] at h
    obtain ⟨u, us', rfl, h1, h2⟩ := h
    rw [rd_it h1, rd_its h2]
    rfl
theorem its_rd (w : World) (g : Gh) : ∀ t : List It, RdL w g (t.map iA) (t.map vI)
  | [] => by simp [RdL]
  | x :: t => by
    simp only [List.map_cons, RdL]
    exact ⟨_, _, rfl, it_rd w g x, its_rd w g t⟩
theorem flatV_its : ∀ t : List It, flatV (t.map vI) = t.flatMap encI
  | [] => rfl
  | x :: t => by
    have := flatV_its t
    simp only [flatV, List.map_cons, List.flatMap_cons] at this ⊢
    rw [this]
    rfl
theorem its_at : ∀ (t : List It) (j i : Nat) (x : It), t[j]? = some x → i < 4 → (t.flatMap encI)[j * 4 + i]? = (encI x)[i]?
  | [], j, i, x, h, _ => by simp at h
  | y :: t, 0, i, x, h, hi => by
    simp only [List.getElem?_cons_zero, Option.some.injEq] at h
    subst h
    rw [List.flatMap_cons, List.getElem?_append_left (by rw [encI_len]; omega)]
    simp
  | y :: t, j + 1, i, x, h, hi => by
    rw [List.flatMap_cons, List.getElem?_append_right (by rw [encI_len]; omega), encI_len, show (j + 1) * 4 + i - 4 = j * 4 + i from by omega]
    exact its_at t j i x (by simpa using h) hi
/-- A row of items that stays. -/
structure ItRow (w : World) (a : Option Addr) (t : List It) (cap : Nat) : Prop where
  cap : t.length ≤ cap
  row : t ≠ [] → ∃ b o, a = some ⟨b, o, none⟩ ∧ b < w.heap.size ∧ ∀ j x i v, t[j]? = some x → (encI x)[i]? = some v → w.cell? ⟨b, o + j * 4 + i, none⟩ = some v
theorem ItRow.of {w : World} {pr : Nat → Nat → Prop} {t : List It} {p : Perm} {v : Value} (hpr : ∀ b o, pr b o → b < w.heap.size) (h : Rd w (pubG pr) (.sl 4 (t.map iA) p) v) : ∃ a cap, v = .slice a t.length cap ∧ ItRow w a t cap := by
  simp only [Rd] at h
  obtain ⟨us, h1, ⟨a, cap, rfl, hcap, _, _, h5⟩, _⟩ := h
  obtain rfl := rd_its h1
  refine ⟨a, cap, by simp, by simpa using hcap, fun hn => ?_⟩
  obtain ⟨b, o, rfl, hc⟩ := h5 (by simpa using hn)
  rw [flatV_its] at hc
  have key : ∀ j x i v, t[j]? = some x → (encI x)[i]? = some v → w.cell? ⟨b, o + j * 4 + i, none⟩ = some v ∧ pr b (o + j * 4 + i) := fun j x i v hx hv => by
    have hi : i < 4 := by have := (List.getElem?_eq_some_iff.1 hv).1; simpa [encI] using this
    have := hc (j * 4 + i) v (by rw [its_at t j i x hx hi]; exact hv)
    rw [← Nat.add_assoc] at this
    exact this
  refine ⟨b, o, rfl, ?_, fun j x i v hx hv => (key j x i v hx hv).1⟩
  match t, hn with
  | x :: t, _ => exact hpr _ _ (key 0 x 0 _ rfl rfl).2
theorem ItRow.below {w w' : World} {a : Option Addr} {t : List It} {cap : Nat} (h : ItRow w a t cap) (hb : Below w.heap.size w w') : ItRow w' a t cap :=
  ⟨h.cap, fun hn => by
    obtain ⟨b, o, e, h1, h2⟩ := h.row hn
    exact ⟨b, o, e, Nat.lt_of_lt_of_le h1 hb.size, fun j x i v hx hv => (hb.cell (p := ⟨b, o + j * 4 + i, none⟩) h1).trans (h2 j x i v hx hv)⟩⟩

/-! ### The first of a row; whether one is -/
instance : Inhabited It := ⟨⟨[], 0, [], false⟩⟩
theorem any_nil_index (a : Option Addr) (c g : Nat) (lb : Array Value) (w : World) : Calls Tryz.prog 40 #[.slice a 0 c, .func (.func g) #[] lb] w fun e w' => e = .returned (.int .i64 (-1)) ∧ w' = w := by
  go_enter Tryz.func40, Tryz.ntmps40
  go_wp2
  refine wp_loop_rounds 1 ?_
  rw [rounds_succ]
  go_wp2
  go_ret
  exact ⟨rfl, rfl⟩
theorem isAgg_it : ∀ w, (isAgg 42).run Tryz.prog w = .ok true w := Tryz.isAgg42
theorem index_its (p : It → Bool) (g : Nat) (lb : Array Value) (eg : ∀ args w, (callFunc g args).run Tryz.prog w = .ok (.enter g args) w) (a : Option Addr) (cap : Nat) (t : List It) (w : World)
    (hp : PredBelow Tryz.prog g lb vI p w) (hbig : t.length ≤ 9223372036854775807) (hr : ItRow w a t cap) :
    Calls Tryz.prog 40 #[.slice a t.length cap, .func (.func g) #[] lb] w fun e w' => e = .returned (.int .i64 (Lib.idxBy (fun _ y => p y) t default)) ∧ Below w.heap.size w w' := by
  by_cases hn : t = []
  · subst hn
    refine (any_nil_index a cap g lb w).mono ?_
    rintro e w' ⟨rfl, rfl⟩
    exact ⟨rfl, Below.refl _ _⟩
  · obtain ⟨b, o, rfl, hb, hc⟩ := hr.row hn
    have h := AnyQ.slices_IndexFunc Tryz.l40 4 Tryz.isAgg42 Tryz.sizeOf42 encI (fun _ => rfl) p g lb eg b o t.length cap t w hp (Nat.le_refl _) hbig hb (fun j hj i v hi => hc j t[j]! i v (by rw [List.getElem!_eq_getElem?_getD, List.getElem?_eq_getElem hj]; rfl) hi)
    rw [List.take_length] at h
    exact h
theorem any_its (p : It → Bool) (g : Nat) (lb : Array Value) (eg : ∀ args w, (callFunc g args).run Tryz.prog w = .ok (.enter g args) w) (a : Option Addr) (cap : Nat) (t : List It) (w : World)
    (hp : PredBelow Tryz.prog g lb vI p w) (hbig : t.length ≤ 9223372036854775807) (hr : ItRow w a t cap) :
    Calls Tryz.prog 75 #[.slice a t.length cap, .func (.func g) #[] lb] w fun e w' => e = .returned (.bool (t.any p)) ∧ Below w.heap.size w w' := by
  rw [show t.any p = decide (0 ≤ Lib.idxBy (fun _ y => p y) t default) from (Lib.idxBy_nonneg_iff (fun _ y => p y) t default).symm]
  have h := index_its p g lb eg a cap t w hp hbig hr
  generalize Lib.idxBy (fun _ y => p y) t default = n at h ⊢
  clear hp hr
  go_enter Tryz.func75, Tryz.ntmps75
  go_wp2_with (go_at_call 40; refine h.mono ?_; rintro e w' ⟨rfl, hb'⟩)
  go_ret
  exact ⟨rfl, hb'⟩
end Go.Proofs.YtpkeiffclipjmaaGreatDoor.Rx
namespace Go.Proofs.YtpkeiffclipjmaaGreatDoor.Rx
open Go Go.RowKit
set_option maxRecDepth 100000
set_option linter.unusedSimpArgs false

/-- The closure of Find: has it this path? -/
theorem find1_pred (p : List UInt8) (B : Nat) (w : World) (hB : B < w.heap.size) (hcell : w.cell? ⟨B, 0, none⟩ = some (.string ⟨p.toArray⟩)) :
    PredBelow Tryz.prog 41 #[.pointer (some ⟨B, 0, none⟩)] vI (fun x => decide (x.path = p)) w := fun W x hb => by
  have hc : W.cell? ⟨B, 0, none⟩ = some (.string ⟨p.toArray⟩) := (hb.cell (p := ⟨B, 0, none⟩) hB).trans hcell
  have hBW : B < W.heap.size := Nat.lt_of_lt_of_le hB hb.size
  have hne : B ≠ W.heap.size := by omega
  have hpp : (x.path = p) ↔ (⟨x.path.toArray⟩ : ByteArray) = ⟨p.toArray⟩ := by
    constructor
    · rintro rfl; rfl
    · intro h; simpa using h
  show Calls Tryz.prog 41 #[.agg #[.string ⟨x.path.toArray⟩, .int .i64 x.kind, .string ⟨x.data.toArray⟩, .bool x.bad], .pointer (some ⟨B, 0, none⟩)] W fun e w' => e = .returned (.bool (decide (x.path = p))) ∧ Below w.heap.size w w'
  obtain ⟨q, hq⟩ : ∃ q : Bool, Hid (decide (x.path = p) = q) := ⟨_, rfl⟩
  rw [hq.out]
  have hq : Hid (q = true ↔ (⟨x.path.toArray⟩ : ByteArray) = ⟨p.toArray⟩) := by
    have := hq.out
    subst this
    show decide _ = true ↔ _
    rw [decide_eq_true_iff]
    exact hpp
  generalize (⟨x.path.toArray⟩ : ByteArray) = xp at hq ⊢
  generalize (⟨p.toArray⟩ : ByteArray) = pp at hc hq
  clear hcell hB hpp
  have hb : Hid (Below w.heap.size w W) := hb
  go_enter Tryz.func41, Tryz.ntmps41
  go_wp2
  go_ret
  refine ⟨?_, hb.out.alloc hb.out.size _⟩
  have h := hq.out
  show Ending.returned (.bool (xp.toList == pp.toList)) = _
  congr 2
  rw [Bool.eq_iff_iff, h, beq_iff_eq]
  constructor
  · intro e
    have : xp.data.toList = pp.data.toList := by rw [← Lib.toList_data, ← Lib.toList_data, e]
    cases xp; cases pp
    simp only [ByteArray.mk.injEq]
    exact Array.toList_inj.1 this
  · rintro rfl; rfl
theorem idx_find (q : It → Bool) : ∀ (t : List It) (i : Nat), (t.find? q = none ∧ Lib.idxByFrom (fun _ y => q y) (default : It) t i = -1) ∨ ∃ (k : Nat) (x : It), t.find? q = some x ∧ t[k]? = some x ∧ Lib.idxByFrom (fun _ y => q y) (default : It) t i = ((i + k : Nat) : Int)
  | [], i => .inl ⟨rfl, rfl⟩
  | x :: t, i => by
    by_cases h : q x = true
    · exact .inr ⟨0, x, by simp [h], rfl, by simp [Lib.idxByFrom, h]⟩
    · rcases idx_find q t (i + 1) with ⟨h1, h2⟩ | ⟨k, y, h1, h2, h3⟩
      · exact .inl ⟨by simp [h, h1], by simp [Lib.idxByFrom, h, h2]⟩
      · exact .inr ⟨k + 1, y, by simp [h, h1], by simpa using h2, by simp only [Lib.idxByFrom, h]; rw [show (i + (k + 1) : Nat) = i + 1 + k from by omega]; exact h3⟩
/-- What Find gives. -/
def findV : Option It → Value
  | some x => .tuple #[vI x, .bool true]
  | none => .tuple #[vI ⟨[], 0, [], false⟩, .bool false]
theorem results_cell_row2 {fn : Func} {p u : Tmp} {ty : TypeId} {tmps : Array Value} (h : fn.results = #[.cell p ty, .tmp u]) (w : World) (g : Nat) (t : TypeId) (cs : Array Value) (fr : Nat × Nat) (fs : Array Go.Field)
    (hp : tmps.getD p undef = .pointer (some ⟨g, 0, none⟩)) (hg : w.heap[g]? = some (.cells cs t fr))
    (hu : Tryz.prog.underlying ty = some (.struct fs)) (hi : (Tryz.prog.info? ty).map (·.size) = some cs.size) :
    (results fn tmps).run Tryz.prog w = .ok (.tuple #[.agg cs, tmps.getD u undef]) w := by
  rw [results_cell_tmp h, hp]
  simp [asAddr, Result.andThen, run_loadVar_row w g t ty cs fr (.struct fs) hg hu rfl hi]
theorem find_call (t : List It) (p : List UInt8) (a : Option Addr) (cap : Nat) (w : World) (hbig : t.length ≤ 9223372036854775807) (hr : ItRow w a t cap) :
    Calls Tryz.prog 21 #[.slice a t.length cap, .string ⟨p.toArray⟩] w fun e w' => e = .returned (findV (findF t p)) ∧ Below w.heap.size w w' := by
  have HB0 : Hid (Below w.heap.size w (w.alloc (.cells #[.string ⟨p.toArray⟩] 9))) := (Below.refl _ w).alloc (Nat.le_refl _) _
  have HB : Hid (Below w.heap.size w ((w.alloc (.cells #[.string ⟨p.toArray⟩] 9)).alloc (.cells #[.string ⟨#[]⟩, .int .i64 0, .string ⟨#[]⟩, .bool false] 42))) := HB0.out.alloc (by simp) _
  have HS : Hid (((w.alloc (.cells #[.string ⟨p.toArray⟩] 9)).alloc (.cells #[.string ⟨#[]⟩, .int .i64 0, .string ⟨#[]⟩, .bool false] 42)).heap.size = w.heap.size + 2) := by show _ = _; simp
  have HN : Hid (((w.alloc (.cells #[.string ⟨p.toArray⟩] 9)).alloc (.cells #[.string ⟨#[]⟩, .int .i64 0, .string ⟨#[]⟩, .bool false] 42)).heap[w.heap.size + 1]? = some (.cells #[.string ⟨#[]⟩, .int .i64 0, .string ⟨#[]⟩, .bool false] 42 (0, 0))) := Er.hNew _ _ (by simp)
  have hP : ((w.alloc (.cells #[.string ⟨p.toArray⟩] 9)).alloc (.cells #[.string ⟨#[]⟩, .int .i64 0, .string ⟨#[]⟩, .bool false] 42)).heap[w.heap.size]? = some (.cells #[.string ⟨p.toArray⟩] 9 (0, 0)) := by
    rw [Er.hOld _ _ (by simp), Er.hNew _ _ rfl]
  have hcon := index_its (fun x => decide (x.path = p)) 41 #[.pointer (some ⟨w.heap.size, 0, none⟩)] (enters_of Tryz.func41 (by kernel_rfl) rfl) a cap t ((w.alloc (.cells #[.string ⟨p.toArray⟩] 9)).alloc (.cells #[.string ⟨#[]⟩, .int .i64 0, .string ⟨#[]⟩, .bool false] 42))
    (find1_pred p w.heap.size _ (by rw [HS.out]; omega) (by rw [Er.cell_heap hP]; rfl)) hbig (hr.below HB.out)
  have HR : Hid (ItRow w a t cap) := hr
  clear hr hP
  unfold Lib.idxBy at hcon
  rcases idx_find (fun x => decide (x.path = p)) t 0 with ⟨h1, h2⟩ | ⟨k, x, h1, h2, h3⟩
  · have H1 : Hid (findF t p = none) := h1
    rw [h2] at hcon
    clear h1 h2
    go_enter Tryz.func21, Tryz.ntmps21
    go_wp2_with (
      go_at_call 40
      refine hcon.mono ?_
      rintro e w' ⟨rfl, hb'⟩
      have HB' : Hid (Below _ _ w') := hb'
      have h3 : w'.heap[w.heap.size + 1]? = some (.cells #[.string ⟨#[]⟩, .int .i64 0, .string ⟨#[]⟩, .bool false] 42 (0, 0)) := by
         rw [hb'.block _ (by rw [HS.out]; omega)]; exact HN.out
      have H3 : Hid (w'.heap[w.heap.size + 1]? = some (.cells #[.string ⟨#[]⟩, .int .i64 0, .string ⟨#[]⟩, .bool false] 42 (0, 0))) := h3
      have k0 := Er.cell_heap h3 0
      have k1 := Er.cell_heap h3 1
      have k2 := Er.cell_heap h3 2
      have k3 := Er.cell_heap h3 3
      have z0 := Er.frozen_heap h3 0
      have z1 := Er.frozen_heap h3 1
      have z2 := Er.frozen_heap h3 2
      have z3 := Er.frozen_heap h3 3
      simp only [List.getElem?_toArray, List.getElem?_cons_zero, List.getElem?_cons_succ] at k0 k1 k2 k3
      clear hb' h3 hcon)
    have hh : ((((w'.setCell ⟨w.heap.size + 1, 0, none⟩ (.string ⟨#[]⟩)).setCell ⟨w.heap.size + 1, 1, none⟩ (.int .i64 0)).setCell ⟨w.heap.size + 1, 2, none⟩ (.string ⟨#[]⟩)).setCell ⟨w.heap.size + 1, 3, none⟩ (.bool false)).heap[w.heap.size + 1]? = some (.cells #[.string ⟨#[]⟩, .int .i64 0, .string ⟨#[]⟩, .bool false] 42 (0, 0)) := Er.heap_set (Er.heap_set (Er.heap_set (Er.heap_set H3.out 0 _) 1 _) 2 _) 3 _
    refine bodyPost_ret (results_cell_row2 rfl _ (w.heap.size + 1) 42 _ (0, 0) _ rfl hh Tryz.underlying42 (by kernel_rfl)) rfl ?_
    have hb : Below w.heap.size w w' := HB.out.trans (HB'.out.mono (by rw [HS.out]; omega))
    refine ⟨by rw [H1.out]; rfl, (((hb.setCell (by show _ ≤ w.heap.size + 1; omega) _).setCell (by show _ ≤ w.heap.size + 1; omega) _).setCell (by show _ ≤ w.heap.size + 1; omega) _).setCell (by show _ ≤ w.heap.size + 1; omega) _⟩
  · have H1 : Hid (findF t p = some x) := h1
    have H2 : Hid (t[k]? = some x) := h2
    rw [h3] at hcon
    obtain ⟨b, o, rfl, hb, hc⟩ := HR.out.row (by intro e; rw [e] at h2; simp at h2)
    have hlt : k < t.length := (List.getElem?_eq_some_iff.1 h2).1
    have hlt' : (k : Int) < (t.length : Int) := by omega
    clear h1 h2 h3
    rw [Nat.zero_add] at hcon
    have HC : Hid (∀ W, Below w.heap.size w W → ∀ i v, (encI x)[i]? = some v → W.cell? ⟨b, o + k * 4 + i, none⟩ = some v) := fun W hW i v hi => (hW.cell (p := ⟨b, o + k * 4 + i, none⟩) hb).trans (hc k x i v H2.out hi)
    have hk0 : ¬ ((k : Int) < 0) := by omega
    clear hc
    go_enter Tryz.func21, Tryz.ntmps21
    go_wp2_with (
      go_at_call 40
      refine hcon.mono ?_
      rintro e w' ⟨rfl, hb'⟩
      have HB' : Hid (Below _ _ w') := hb'
      have h3 : w'.heap[w.heap.size + 1]? = some (.cells #[.string ⟨#[]⟩, .int .i64 0, .string ⟨#[]⟩, .bool false] 42 (0, 0)) := by
         rw [hb'.block _ (by rw [HS.out]; omega)]; exact HN.out
      have H3 : Hid (w'.heap[w.heap.size + 1]? = some (.cells #[.string ⟨#[]⟩, .int .i64 0, .string ⟨#[]⟩, .bool false] 42 (0, 0))) := h3
      have k0 := Er.cell_heap h3 0
      have k1 := Er.cell_heap h3 1
      have k2 := Er.cell_heap h3 2
      have k3 := Er.cell_heap h3 3
      have z0 := Er.frozen_heap h3 0
      have z1 := Er.frozen_heap h3 1
      have z2 := Er.frozen_heap h3 2
      have z3 := Er.frozen_heap h3 3
      simp only [List.getElem?_toArray, List.getElem?_cons_zero, List.getElem?_cons_succ] at k0 k1 k2 k3
      have l0 := HC.out w' (HB.out.trans (hb'.mono (by rw [HS.out]; omega))) 0 _ rfl
      have l1 := HC.out w' (HB.out.trans (hb'.mono (by rw [HS.out]; omega))) 1 _ rfl
      have l2 := HC.out w' (HB.out.trans (hb'.mono (by rw [HS.out]; omega))) 2 _ rfl
      have l3 := HC.out w' (HB.out.trans (hb'.mono (by rw [HS.out]; omega))) 3 _ rfl
      simp only [Nat.add_zero] at l0
      clear hb' h3 hcon)
    have hh : ((((w'.setCell ⟨w.heap.size + 1, 0, none⟩ (.string ⟨x.path.toArray⟩)).setCell ⟨w.heap.size + 1, 1, none⟩ (.int .i64 x.kind)).setCell ⟨w.heap.size + 1, 2, none⟩ (.string ⟨x.data.toArray⟩)).setCell ⟨w.heap.size + 1, 3, none⟩ (.bool x.bad)).heap[w.heap.size + 1]? = some (.cells #[.string ⟨x.path.toArray⟩, .int .i64 x.kind, .string ⟨x.data.toArray⟩, .bool x.bad] 42 (0, 0)) := Er.heap_set (Er.heap_set (Er.heap_set (Er.heap_set H3.out 0 _) 1 _) 2 _) 3 _
    refine bodyPost_ret (results_cell_row2 rfl _ (w.heap.size + 1) 42 _ (0, 0) _ rfl hh Tryz.underlying42 (by kernel_rfl)) rfl ?_
    have hb : Below w.heap.size w w' := HB.out.trans (HB'.out.mono (by rw [HS.out]; omega))
    refine ⟨by rw [H1.out]; rfl, (((hb.setCell (by show _ ≤ w.heap.size + 1; omega) _).setCell (by show _ ≤ w.heap.size + 1; omega) _).setCell (by show _ ≤ w.heap.size + 1; omega) _).setCell (by show _ ≤ w.heap.size + 1; omega) _⟩
/-! ### In the plain program's words -/
def itOf : AV → Option It
  | .agg [.str p, .int .i64 k, .str d, .bool b] => some ⟨p, k, d, b⟩
  | _ => none
theorem itOf_eq {v : AV} {x : It} (h : itOf v = some x) : v = iA x := by
  unfold itOf at h
  split at h
  · simp only [Option.some.injEq] at h
    subst h
    rfl
  · simp at h
theorem itOf_iA (x : It) : itOf (iA x) = some x := rfl
def itsOf : List AV → Option (List It)
  | [] => some []
  | v :: l => match itOf v, itsOf l with
    | some x, some t => some (x :: t)
    | _, _ => none
theorem itsOf_eq : ∀ {l : List AV} {t : List It}, itsOf l = some t → l = t.map iA
  | [], t, h => by
    simp only [itsOf, Option.some.injEq] at h
    subst h
    rfl
  | v :: l, t, h => by
    simp only [itsOf] at h
    split at h
    · rename_i x t' h1 h2
      simp only [Option.some.injEq] at h
      subst h
      rw [itOf_eq h1, itsOf_eq h2]
      rfl
    · simp at h
theorem itsOf_its : ∀ t : List It, itsOf (t.map iA) = some t
  | [] => rfl
  | x :: t => by simp [itsOf, itOf_iA, itsOf_its t]
def bigN : Nat := 1099511627776
def findE : List AV → Option AV
  | [.sl 4 l _, .str q] => match itsOf l with
    | some t => if t.length ≤ bigN then some (fA (findF t q)) else none
    | none => none
  | _ => none
theorem find_says (args : List AV) (r : AV) (h : findE args = some r) : Says C4 21 args r := by
  have hen : Enters C4.P 21 := ⟨_, Tryz.func21, by kernel_rfl, by kernel_rfl⟩
  unfold findE at h
  split at h
  · rename_i l pm q
    split at h
    · rename_i t ht
      split at h
      · rename_i hn
        simp only [Option.some.injEq] at h
        obtain rfl := itsOf_eq ht
        have key : SaysCall C4 21 [.sl 4 (t.map iA) pm, .str q] (fA (findF t q)) := by
          refine ⟨hen, fun w pr vals bs hG hpr hB hh => ?_⟩
          simp only [HandR] at hh
          obtain ⟨v, vs, rfl, hv, v2, vs2, rfl, hv2, rfl, rfl⟩ := hh
          have hv2 : v2 = .string ⟨q.toArray⟩ := by simpa only [Rd] using hv2
          subst hv2
          obtain ⟨a, cap, rfl, hr⟩ := ItRow.of hpr hv
          refine (find_call t q a cap w (by have : bigN = 1099511627776 := rfl; omega) hr).mono ?_
          rintro e w' ⟨rfl, hb⟩
          cases hf : findF t q with
          | none =>
            refine ⟨pr, Aft.same hb hpr, ?_⟩
            simp only [fA, findV, Rd, RdL]
            exact ⟨_, rfl, _, _, rfl, it_rd _ _ zI, _, _, rfl, rfl, rfl⟩
          | some x =>
            refine ⟨pr, Aft.same hb hpr, ?_⟩
            simp only [fA, findV, Rd, RdL]
            exact ⟨_, rfl, _, _, rfl, it_rd _ _ x, _, _, rfl, rfl, rfl⟩
        subst h
        cases hf : findF t q with
        | none => rw [hf] at key; exact key
        | some x => rw [hf] at key; exact key
      · simp at h
    · simp at h
  · simp at h
end Go.Proofs.YtpkeiffclipjmaaGreatDoor.Rx
