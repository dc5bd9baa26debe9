/-
  Rx, the script's functions that are told by hand, 3: numerals, searches, a copy: by the library's contracts, and what is asked of the variables.
-/
import Derived.Test.YtdcgldhhdajocaaDoorRxE2
import Derived.Test.YtdcgldhhdajocaaDoorRxSh
namespace Go.Proofs.YtdcgldhhdajocaaDoor.Rx
open Go Go.RowKit

/-! ### What is asked of the variables -/
structure Gs (w : World) : Prop where
  size : Tryd.prog.globals.size ≤ w.heap.size
  tab : Lib.TabIs Tryd.prog w "internal/strconv.uint64pow10" .u64 Lib.pow10Tab
  syn : ∃ t p, w.var? Tryd.prog "strconv.ErrSyntax" = some #[.iface t p]
  rng : ∃ t p, w.var? Tryd.prog "strconv.ErrRange" = some #[.iface t p]
noncomputable def Bs : Nat := Tryd.prog.globals.size
noncomputable abbrev C4 : Cx := Cxs Gs Bs
theorem globalNamed_lt {P : Program} {n : String} {g : Nat} (h : P.globalNamed n = some g) : g < P.globals.size := by
  unfold Program.globalNamed at h
  split at h
  · rename_i i hi
    obtain rfl := Option.some.inj h
    have : i ∈ (List.range P.globals.size).filter fun g => (P.globals[g]?).any (·.name == n) := by rw [hi]; simp
    simpa using (List.mem_filter.1 this).1
  · simp at h
theorem var?_keep {P : Program} {n : String} {w w' : World} {cs : Array Value} (hs : P.globals.size ≤ w.heap.size) (h : BelX (fun k => P.globals.size ≤ k) w w') (hv : w.var? P n = some cs) : w'.var? P n = some cs := by
  unfold World.var? at hv ⊢
  cases hg : P.globalNamed n with
  | none => simp [hg] at hv
  | some g =>
    have hlt := globalNamed_lt hg
    simp only [hg, Option.bind_some] at hv ⊢
    rw [h.block g (by omega) (by omega)]
    exact hv
theorem fine4 : C4.Fine := ⟨fun _ h => h.size, fun w w' h k => by
    have hk : BelX (fun k => Tryd.prog.globals.size ≤ k) w w' := k
    obtain ⟨t, p, h1⟩ := h.syn
    obtain ⟨t2, p2, h2⟩ := h.rng
    exact ⟨Nat.le_trans h.size k.size, var?_keep h.size hk h.tab, ⟨t, p, var?_keep h.size hk h1⟩, ⟨t2, p2, var?_keep h.size hk h2⟩⟩⟩

/-! ### strconv.Itoa -/
def itoaF : List AV → Option AV
  | [.int .i64 n] => if -9223372036854775808 ≤ n ∧ n ≤ 9223372036854775807 then some (.str (Lib.itoa n)) else none
  | _ => none
theorem itoa_says (args : List AV) (r : AV) (h : itoaF args = some r) : Says C4 34 args r := by
  have hen : Enters C4.P 34 := ⟨_, Tryd.func34, by kernel_rfl, by kernel_rfl⟩
  unfold itoaF at h
  split at h
  · rename_i n
    split at h
    · rename_i hn
      simp only [Option.some.injEq] at h
      subst h
      refine ⟨hen, fun w pr vals bs hG hpr hB hh => ?_⟩
      simp only [HandR] at hh
      obtain ⟨v, vs, rfl, hv, rfl, rfl⟩ := hh
      simp only [Rd] at hv
      subst hv
      refine (Tryd.strconv_Itoa n hn.1 hn.2 w hG.tab).mono ?_
      rintro e w' ⟨rfl, k, os, rfl⟩
      refine ⟨pr, Aft.same ⟨rfl, rfl, rfl, ?_, fun i hi => ?_⟩ hpr, by simp only [Rd]⟩
      · show _ ≤ (w.heap ++ os).size
        simp
      · show (w.heap ++ os)[i]? = _
        rw [Array.getElem?_append_left hi]
    · simp at h
  · simp at h

/-! ### strconv.Atoi -/
def atoiF : List AV → Option AV
  | [.str s] => if s.length ≤ 281474976710656 then
      match Lib.atoiAll s with
      | .ok v => some (.tup [.int .i64 v, .nilI])
      | .range => some (.tup [.int .i64 (Lib.atoiSat s), .ifc])
      | _ => some (.tup [.int .i64 0, .ifc])
    else none
  | _ => none
theorem atoi_says (args : List AV) (r : AV) (h : atoiF args = some r) : Says C4 47 args r := by
  have hen : Enters C4.P 47 := ⟨_, Tryd.func47, by kernel_rfl, by kernel_rfl⟩
  unfold atoiF at h
  split at h
  · rename_i s
    split at h
    · rename_i hn
      have hsz : (⟨s.toArray⟩ : ByteArray).size = s.length := by simp [ByteArray.size]
      cases hv0 : Lib.atoiAll s with
      | ok v =>
        rw [hv0] at h
        simp only [Option.some.injEq] at h
        subst h
        refine ⟨hen, fun w pr vals bs hG hpr hB hh => ?_⟩
        simp only [HandR] at hh
        obtain ⟨v, vs, rfl, hv, rfl, rfl⟩ := hh
        simp only [Rd] at hv
        subst hv
        refine (Tryd.strconv_Atoi_ok ⟨s.toArray⟩ (by rw [hsz]; omega) _ (by simpa using hv0) w).mono ?_
        rintro e w' ⟨rfl, hw⟩
        refine ⟨pr, Aft.same ?_ hpr, ?_⟩
        · rcases hw with rfl | ⟨t, rfl⟩
          · exact Below.refl _ _
          · exact Lib.bytesWorld_below _ _ _
        · simp only [Rd]
          exact ⟨_, rfl, by simp [RdL, Rd]⟩
      | range =>
        rw [hv0] at h
        simp only [Option.some.injEq] at h
        subst h
        refine ⟨hen, fun w pr vals bs hG hpr hB hh => ?_⟩
        simp only [HandR] at hh
        obtain ⟨v, vs, rfl, hv, rfl, rfl⟩ := hh
        simp only [Rd] at hv
        subst hv
        obtain ⟨t, p, hvar⟩ := hG.rng
        refine (Tryd.strconv_Atoi_range_var ⟨s.toArray⟩ (by rw [hsz]; omega) (by simpa using hv0) t p w hvar).mono ?_
        rintro e w' ⟨N, rfl, _, _, hw⟩
        refine ⟨pr, Aft.same hw hpr, ?_⟩
        simp only [Rd, RdL]
        exact ⟨_, rfl, _, _, rfl, rfl, _, _, rfl, ⟨_, _, rfl⟩, rfl⟩
      | _ =>
        rw [hv0] at h
        simp only [Option.some.injEq] at h
        subst h
        refine ⟨hen, fun w pr vals bs hG hpr hB hh => ?_⟩
        simp only [HandR] at hh
        obtain ⟨v, vs, rfl, hv, rfl, rfl⟩ := hh
        simp only [Rd] at hv
        subst hv
        obtain ⟨t, p, hvar⟩ := hG.syn
        refine (Any.strconv_Atoi_syntax_var Tryd.laysC172 ⟨s.toArray⟩ (by rw [hsz]; omega) (by simpa using hv0) t p w hvar).mono ?_
        rintro e w' ⟨N, rfl, _, _, hw⟩
        refine ⟨pr, Aft.same hw hpr, ?_⟩
        simp only [Rd, RdL]
        exact ⟨_, rfl, _, _, rfl, rfl, _, _, rfl, ⟨_, _, rfl⟩, rfl⟩
    · simp at h
  · simp at h

/-! ### strings.Index, strings.IndexByte -/
def indexF : List AV → Option AV
  | [.str s, .str [c]] => some (.int .i64 (Lib.indexByte s c))
  | _ => none
theorem index_says (args : List AV) (r : AV) (h : indexF args = some r) : Says C4 45 args r := by
  have hen : Enters C4.P 45 := ⟨_, Tryd.func45, by kernel_rfl, by kernel_rfl⟩
  unfold indexF at h
  split at h
  · rename_i s c
    simp only [Option.some.injEq] at h
    subst h
    refine ⟨hen, fun w pr vals bs hG hpr hB hh => ?_⟩
    simp only [HandR] at hh
    obtain ⟨v, vs, rfl, hv, v2, vs2, rfl, hv2, rfl, rfl⟩ := hh
    simp only [Rd] at hv hv2
    subst hv hv2
    refine (Tryd.strings_Index_one ⟨s.toArray⟩ c w).mono ?_
    rintro e w' ⟨rfl, rfl⟩
    exact ⟨pr, Aft.same (Below.refl _ _) hpr, by simp only [Rd]⟩
  · simp at h
def indexByteF : List AV → Option AV
  | [.str s, .int .u8 c] => some (.int .i64 (Lib.indexByte s c.toNat.toUInt8))
  | _ => none
theorem indexByte_says (args : List AV) (r : AV) (h : indexByteF args = some r) : Says C4 48 args r := by
  have hen : Enters C4.P 48 := ⟨_, Tryd.func48, by kernel_rfl, by kernel_rfl⟩
  unfold indexByteF at h
  split at h
  · rename_i s c
    simp only [Option.some.injEq] at h
    subst h
    refine ⟨hen, fun w pr vals bs hG hpr hB hh => ?_⟩
    simp only [HandR] at hh
    obtain ⟨v, vs, rfl, hv, v2, vs2, rfl, hv2, rfl, rfl⟩ := hh
    simp only [Rd] at hv hv2
    subst hv hv2
    refine (Tryd.strings_IndexByte ⟨s.toArray⟩ c w).mono ?_
    rintro e w' ⟨rfl, rfl⟩
    exact ⟨pr, Aft.same (Below.refl _ _) hpr, by simp only [Rd]⟩
  · simp at h

/-! ### slices.Clone of strings -/
def strsOf : List AV → Option (List (List UInt8))
  | [] => some []
  | .str s :: l => (strsOf l).map (s :: ·)
  | _ => none
theorem strsOf_rd {w : World} {g : Gh} : ∀ {xs : List AV} {ss : List (List UInt8)} {us : List Value}, strsOf xs = some ss → RdL w g xs us → us = ss.map (fun s => .string ⟨s.toArray⟩) ∧ xs = ss.map AV.str
  | [], ss, us, h, hr => by
    simp only [strsOf, Option.some.injEq] at h
    subst h
    simp only [RdL] at hr
    subst hr
    simp
  | .str s :: l, ss, us, h, hr => by
    simp only [strsOf] at h
    obtain ⟨ss', h1, rfl⟩ := Option.map_eq_some_iff.1 h
    simp only [RdL, Rd] at hr
    obtain ⟨u, us', rfl, rfl, h3⟩ := hr
    obtain ⟨rfl, e2⟩ := strsOf_rd h1 h3
    simp [← e2]
def cloneF : List AV → Option AV
  | [.sl 1 xs _] => if xs.length * 16 ≤ 140737488355328 ∧ (strsOf xs).isSome = true then some (.sl 1 xs .no) else none
  | _ => none
theorem rdL_strs (w : World) (g : Gh) : ∀ ss : List (List UInt8), RdL w g (ss.map AV.str) (ss.map fun s => .string ⟨s.toArray⟩)
  | [] => by simp [RdL]
  | s :: ss => by
    simp only [List.map_cons, RdL]
    exact ⟨_, _, rfl, by simp only [Rd], rdL_strs w g ss⟩
theorem flatV_strs : ∀ ss : List (List UInt8), flatV (ss.map fun s => Value.string ⟨s.toArray⟩) = ss.map fun s => Value.string ⟨s.toArray⟩
  | [] => rfl
  | s :: ss => by
    have := flatV_strs ss
    simp only [flatV, List.map_cons, List.flatMap_cons] at this ⊢
    rw [this]
    simp [Value.cells]
theorem clone_says (args : List AV) (r : AV) (h : cloneF args = some r) : Says C4 41 args r := by
  have hen : Enters C4.P 41 := ⟨_, Tryd.func41, by kernel_rfl, by kernel_rfl⟩
  unfold cloneF at h
  split at h
  · rename_i xs p
    split at h
    · rename_i hn
      simp only [Option.some.injEq] at h
      subst h
      refine ⟨hen, fun w pr vals bs hG hpr hB hh => ?_⟩
      simp only [HandR] at hh
      obtain ⟨v, vs, rfl, hv, rfl, rfl⟩ := hh
      simp only [Rd] at hv
      obtain ⟨us, h1, ⟨a, cap, rfl, hcap, _, _, h5⟩, _⟩ := hv
      obtain ⟨ss, hss⟩ := Option.isSome_iff_exists.1 hn.2
      obtain ⟨rfl, hxs⟩ := strsOf_rd hss h1
      have hlen : ss.length = xs.length := by rw [hxs]; simp
      have hkey : ∀ v' : Value, ∀ w' : World, w'.ownsRow w.heap.size 9 1 v' ss.length (ss.map fun s => Value.string ⟨s.toArray⟩) → Below w.heap.size w w' → Post C4 w pr [] (.sl 1 xs .no) (.returned v') w' := by
        intro v' w' ho hw
        obtain ⟨_, ⟨rfl, h0⟩ | ⟨g, cap', cur, rfl, hg, hc, hcap', _, hsz, htk⟩⟩ := ho
        · have : ss = [] := List.eq_nil_of_length_eq_zero h0
          subst this
          simp at hxs
          subst hxs
          refine ⟨pr, Aft.same hw hpr, ?_⟩
          simp only [Rd]
          exact ⟨[], by simp [RdL], ⟨none, 0, rfl, Nat.le_refl _, by simp, by simp [flatV], by simp⟩, trivial⟩
        · refine ⟨fun b o => pr b o ∨ b = g ∧ o < ss.length, ⟨BelX.of hw, fun _ _ h => .inl h, fun b o h => h.elim .inl (fun h => .inr (by omega)), fun b o h => h.elim (fun h => Nat.lt_of_lt_of_le (hpr b o h) hw.size) (fun h => by rw [h.1]; exact heap_lt hc)⟩, ?_⟩
          simp only [Rd]
          refine ⟨ss.map fun s => Value.string ⟨s.toArray⟩, by rw [hxs]; exact rdL_strs _ _ _, ⟨some ⟨g, 0, none⟩, cap', by simp, by simpa using hcap', ?_, ?_, fun _ => ⟨g, 0, rfl, ?_⟩⟩, trivial⟩
          · simp [Value.cells]
          · rw [flatV_strs]
            simp [Value.oneCell']
          · rw [flatV_strs]
            intro j c hj
            have hjl : j < ss.length := by
              have := (List.getElem?_eq_some_iff.1 hj).1
              simpa using this
            refine ⟨?_, .inr ⟨rfl, by omega⟩⟩
            rw [cell_of_row w' g (0 + j) cur 9 (0, 0) hc, ← hj, ← htk]
            simp [hjl]
      by_cases h0 : ss = []
      · subst h0
        cases a with
        | none =>
          refine (Tryd.slices_Clone_string_nil _ _ w).mono ?_
          rintro e w' ⟨rfl, rfl⟩
          exact hkey _ _ (World.ownsRow_nil _ _ _ _) (Below.refl _ _)
        | some a =>
          refine (Tryd.slices_Clone_string_zero a _ w).mono ?_
          rintro e w' ⟨v', rfl, ho, _, hw⟩
          exact hkey _ _ (by simpa using ho) hw
      · obtain ⟨b, o, rfl, hcl⟩ := h5 (by simpa using h0)
        rw [flatV_strs] at hcl
        refine (Tryd.slices_Clone_string b o _ cap (ss.map fun s => ⟨s.toArray⟩) w (by simp) (by simp; omega) ?_).mono ?_
        · intro j hj
          have hj' : j < ss.length := by simpa using hj
          refine (hcl j _ ?_).1
          simp [List.getD, hj']
        · rintro e w' ⟨v', rfl, ho, _, hw⟩
          refine hkey _ _ ?_ hw
          have e1 : ((ss.map fun s => (⟨s.toArray⟩ : ByteArray)).take (List.map (fun s => Value.string ⟨s.toArray⟩) ss).length).map Value.string = ss.map fun s => Value.string ⟨s.toArray⟩ := by
            rw [List.take_of_length_le (by simp)]
            simp
          rw [e1] at ho
          simpa using ho
    · simp at h
  · simp at h
end Go.Proofs.YtdcgldhhdajocaaDoor.Rx
