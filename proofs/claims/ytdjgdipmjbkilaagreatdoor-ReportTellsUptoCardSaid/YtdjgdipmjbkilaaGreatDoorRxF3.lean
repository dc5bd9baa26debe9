/-
  Rx, the script's functions that are told by hand, 3: numerals, searches, a copy: by the library's contracts, and what is asked of the variables.
-/
import Derived.Test.YtdjgdipmjbkilaaGreatDoorRxF2
import Derived.Test.YtdjgdipmjbkilaaGreatDoorRxShR
namespace Go.Proofs.YtdjgdipmjbkilaaGreatDoor.Rx
open Go Go.RowKit

/-! ### What is asked of the variables -/
structure Gs (w : World) : Prop where
  size : Tryz.prog.globals.size ≤ w.heap.size
  tab : Lib.TabIs Tryz.prog w "internal/strconv.uint64pow10" .u64 Lib.pow10Tab
  syn : ∃ t p, w.var? Tryz.prog "strconv.ErrSyntax" = some #[.iface t p]
  rng : ∃ t p, w.var? Tryz.prog "strconv.ErrRange" = some #[.iface t p]
noncomputable def Bs : Nat := Tryz.prog.globals.size
noncomputable abbrev C4 (od : Value → Prop) : Cx := Cxo od Gs Bs
variable {od : Value → Prop}
theorem globalNamed_lt {P : Program} {n : String} {g : Nat} (h : P.globalNamed n = some g) : g < P.globals.size := by
  unfold Program.globalNamed at h
  split at h
  · rename_i i hi
    obtain rfl := Option.some.inj h
    have : i ∈ (List.range P.globals.size).filter fun g => (P.globals[g]?).any (·.name == n) := by rw [hi]; simp
    simpa using (List.mem_filter.1 this).1
  · simp at h
theorem var?_keep {P : Program} {n : String} {w w' : World} {cs : Array Value} (hs : P.globals.size ≤ w.heap.size) (h : BelX (fun k => P.globals.size ≤ k) w w') (hv : w.var? P n = some cs) : w'.var? P n = some cs := by
  unfold World.var? at hv ⊢
  cases hg : P.globalNamed n with
  | none => simp [hg] at hv
  | some g =>
    have hlt := globalNamed_lt hg
    simp only [hg, Option.bind_some] at hv ⊢
    rw [h.block g (by omega) (by omega)]
    exact hv
theorem fine4 : (C4 od).Fine := ⟨fun _ h => h.size, fun w w' h k => by
    have hk : BelX (fun k => Tryz.prog.globals.size ≤ k) w w' := k
    obtain ⟨t, p, h1⟩ := h.syn
    obtain ⟨t2, p2, h2⟩ := h.rng
    exact ⟨Nat.le_trans h.size k.size, var?_keep h.size hk h.tab, ⟨t, p, var?_keep h.size hk h1⟩, ⟨t2, p2, var?_keep h.size hk h2⟩⟩⟩

/-! ### strconv.Itoa -/
def itoaF : List AV → Option AV
  | [.int .i64 n] => if -9223372036854775808 ≤ n ∧ n ≤ 9223372036854775807 then some (.str (Lib.itoa n)) else none
  | _ => none
theorem itoa_says (args : List AV) (r : AV) (h : itoaF args = some r) : Says (C4 od) 51 args r := by
  have hen : Enters (C4 od).P 51 := ⟨_, Tryz.func51, by kernel_rfl, by kernel_rfl⟩
  unfold itoaF at h
  split at h
  · rename_i n
    split at h
    · rename_i hn
      simp only [Option.some.injEq] at h
      subst h
      refine ⟨hen, fun w pr vals bs hG hpr hB hh => ?_⟩
      simp only [HandR] at hh
      obtain ⟨v, vs, rfl, hv, rfl, rfl⟩ := hh
      simp only [Rd] at hv
      subst hv
      refine (Tryz.strconv_Itoa n hn.1 hn.2 w hG.tab).mono ?_
      rintro e w' ⟨rfl, k, os, rfl⟩
      refine ⟨pr, Aft.same ⟨rfl, rfl, rfl, ?_, fun i hi => ?_⟩ hpr, by simp only [Rd]⟩
      · show _ ≤ (w.heap ++ os).size
        simp
      · show (w.heap ++ os)[i]? = _
        rw [Array.getElem?_append_left hi]
    · simp at h
  · simp at h

/-! ### strconv.Atoi -/
def atoiF : List AV → Option AV
  | [.str s] => if s.length ≤ 281474976710656 then
      match Lib.atoiAll s with
      | .ok v => some (.tup [.int .i64 v, .nilI])
      | .range => some (.tup [.int .i64 (Lib.atoiSat s), .ifc])
      | _ => some (.tup [.int .i64 0, .ifc])
    else none
  | _ => none
theorem atoi_says (args : List AV) (r : AV) (h : atoiF args = some r) : Says (C4 od) 83 args r := by
  have hen : Enters (C4 od).P 83 := ⟨_, Tryz.func83, by kernel_rfl, by kernel_rfl⟩
  unfold atoiF at h
  split at h
  · rename_i s
    split at h
    · rename_i hn
      have hsz : (⟨s.toArray⟩ : ByteArray).size = s.length := by simp [ByteArray.size]
      cases hv0 : Lib.atoiAll s with
      | ok v =>
        rw [hv0] at h
        simp only [Option.some.injEq] at h
        subst h
        refine ⟨hen, fun w pr vals bs hG hpr hB hh => ?_⟩
        simp only [HandR] at hh
        obtain ⟨v, vs, rfl, hv, rfl, rfl⟩ := hh
        simp only [Rd] at hv
        subst hv
        refine (Tryz.strconv_Atoi_ok ⟨s.toArray⟩ (by rw [hsz]; omega) _ (by simpa using hv0) w).mono ?_
        rintro e w' ⟨rfl, hw⟩
        refine ⟨pr, Aft.same ?_ hpr, ?_⟩
        · rcases hw with rfl | ⟨t, rfl⟩
          · exact Below.refl _ _
          · exact Lib.bytesWorld_below _ _ _
        · simp only [Rd]
          exact ⟨_, rfl, by simp [RdL, Rd]⟩
      | range =>
        rw [hv0] at h
        simp only [Option.some.injEq] at h
        subst h
        refine ⟨hen, fun w pr vals bs hG hpr hB hh => ?_⟩
        simp only [HandR] at hh
        obtain ⟨v, vs, rfl, hv, rfl, rfl⟩ := hh
        simp only [Rd] at hv
        subst hv
        obtain ⟨t, p, hvar⟩ := hG.rng
        refine (Tryz.strconv_Atoi_range_var ⟨s.toArray⟩ (by rw [hsz]; omega) (by simpa using hv0) t p w hvar).mono ?_
        rintro e w' ⟨N, rfl, _, _, hw⟩
        refine ⟨pr, Aft.same hw hpr, ?_⟩
        simp only [Rd, RdL]
        exact ⟨_, rfl, _, _, rfl, rfl, _, _, rfl, ⟨_, _, rfl⟩, rfl⟩
      | _ =>
        rw [hv0] at h
        simp only [Option.some.injEq] at h
        subst h
        refine ⟨hen, fun w pr vals bs hG hpr hB hh => ?_⟩
        simp only [HandR] at hh
        obtain ⟨v, vs, rfl, hv, rfl, rfl⟩ := hh
        simp only [Rd] at hv
        subst hv
        obtain ⟨t, p, hvar⟩ := hG.syn
        refine (Any.strconv_Atoi_syntax_var Tryz.laysC172 ⟨s.toArray⟩ (by rw [hsz]; omega) (by simpa using hv0) t p w hvar).mono ?_
        rintro e w' ⟨N, rfl, _, _, hw⟩
        refine ⟨pr, Aft.same hw hpr, ?_⟩
        simp only [Rd, RdL]
        exact ⟨_, rfl, _, _, rfl, rfl, _, _, rfl, ⟨_, _, rfl⟩, rfl⟩
    · simp at h
  · simp at h

/-! ### strings.Index, strings.IndexByte -/
def indexF : List AV → Option AV
  | [.str s, .str [c]] => some (.int .i64 (Lib.indexByte s c))
  | _ => none
theorem index_says (args : List AV) (r : AV) (h : indexF args = some r) : Says (C4 od) 86 args r := by
  have hen : Enters (C4 od).P 86 := ⟨_, Tryz.func86, by kernel_rfl, by kernel_rfl⟩
  unfold indexF at h
  split at h
  · rename_i s c
    simp only [Option.some.injEq] at h
    subst h
    refine ⟨hen, fun w pr vals bs hG hpr hB hh => ?_⟩
    simp only [HandR] at hh
    obtain ⟨v, vs, rfl, hv, v2, vs2, rfl, hv2, rfl, rfl⟩ := hh
    simp only [Rd] at hv hv2
    subst hv hv2
    refine (Tryz.strings_Index_one ⟨s.toArray⟩ c w).mono ?_
    rintro e w' ⟨rfl, rfl⟩
    exact ⟨pr, Aft.same (Below.refl _ _) hpr, by simp only [Rd]⟩
  · simp at h
theorem litIndex_one (s : ByteArray) (c : UInt8) (w : World) : Calls Tryz.prog 104 #[.string s, .string ⟨#[c]⟩] w fun e w' => e = .returned (.int .i64 (Lib.indexByte s.data.toList c)) ∧ w' = w := Any.stringslite_Index_one (ρ := Tryz.lays143_ren) { Tryz.lays143 with } s c w
theorem litIndex_says (args : List AV) (r : AV) (h : indexF args = some r) : Says (C4 od) 104 args r := by
  have hen : Enters (C4 od).P 104 := ⟨_, Tryz.func104, by kernel_rfl, by kernel_rfl⟩
  unfold indexF at h
  split at h
  · rename_i s c
    simp only [Option.some.injEq] at h
    subst h
    refine ⟨hen, fun w pr vals bs hG hpr hB hh => ?_⟩
    simp only [HandR] at hh
    obtain ⟨v, vs, rfl, hv, v2, vs2, rfl, hv2, rfl, rfl⟩ := hh
    simp only [Rd] at hv hv2
    subst hv hv2
    refine (litIndex_one ⟨s.toArray⟩ c w).mono ?_
    rintro e w' ⟨rfl, rfl⟩
    exact ⟨pr, Aft.same (Below.refl _ _) hpr, by simp only [Rd]⟩
  · simp at h
def indexByteF : List AV → Option AV
  | [.str s, .int .u8 c] => some (.int .i64 (Lib.indexByte s c.toNat.toUInt8))
  | _ => none
theorem indexByte_says (args : List AV) (r : AV) (h : indexByteF args = some r) : Says (C4 od) 88 args r := by
  have hen : Enters (C4 od).P 88 := ⟨_, Tryz.func88, by kernel_rfl, by kernel_rfl⟩
  unfold indexByteF at h
  split at h
  · rename_i s c
    simp only [Option.some.injEq] at h
    subst h
    refine ⟨hen, fun w pr vals bs hG hpr hB hh => ?_⟩
    simp only [HandR] at hh
    obtain ⟨v, vs, rfl, hv, v2, vs2, rfl, hv2, rfl, rfl⟩ := hh
    simp only [Rd] at hv hv2
    subst hv hv2
    refine (Tryz.strings_IndexByte ⟨s.toArray⟩ c w).mono ?_
    rintro e w' ⟨rfl, rfl⟩
    exact ⟨pr, Aft.same (Below.refl _ _) hpr, by simp only [Rd]⟩
  · simp at h

end Go.Proofs.YtdjgdipmjbkilaaGreatDoor.Rx
