/-
  The rows of the trees' laws: what is laid, how arguments read, what is read behind the call.
-/
import Derived.Test.YtpkeiffclipjmaaGreatDoorRxGb
import Derived.LaidHandle
import Derived.Test.YtpkeiffclipjmaaGreatDoorRows
import Derived.ProofKit
import Derived.OpenShut
import Derived.LaidMore
import Derived.Lay
import Derived.Stop.Joined
import Derived.Lib.LaidTab
import Derived.ChangeMaps5
namespace Go.Proofs.YtpkeiffclipjmaaGreatDoor.Rx
open Go Go.RowKit Go.ChangeShapes Go.WideShapes Go.ChangeAt

theorem own_knob : ownKnob Tryz.prog.godebug = none := by kernel_rfl
theorem laid_out : laidOutB Tryz.prog = true := by kernel_rfl
def laidL : List (String × DataW Unit) := [("unicode/utf8.acceptRanges", Rows.laid_unicode_utf8_acceptRanges), ("errors.errorType", Rows.laid_errors_errorType), ("unicode/utf8.first", Rows.laid_unicode_utf8_first)]
def plainL : List (String × DataW Unit) := [("unicode/utf8.acceptRanges", Rows.laid_unicode_utf8_acceptRanges), ("unicode/utf8.first", Rows.laid_unicode_utf8_first)]

theorem g_et : Tryz.prog.globalNamed "errors.errorType" = some 0 := by kernel_rfl
theorem g_rt : (Tryz.prog.cutTypes.find? (·.1 == "internal/reflectlite.rtype")).map (·.2) = some 124 := by kernel_rfl
theorem g_oneRow : ((List.range Tryz.prog.types.size).filter fun t => Tryz.prog.rowNamed t [101, 114, 114, 111, 114]) = [65] := by kernel_rfl
theorem eg_of_laid {W : World} (h : laidMetH Tryz.prog laidL W) : Er.EgW W := by
  have h' : laidMet Tryz.prog plainL W ∧ handlesMet Tryz.prog [("errors.errorType", Rows.laid_errors_errorType)] W := h
  obtain ⟨name, u, ty, e1, e2, e3, e4, e5⟩ := h'.2 _ (List.mem_singleton.2 rfl)
  have en : name = [101, 114, 114, 111, 114] := (Option.some.inj e1).symm
  subst en
  obtain rfl := Option.some.inj (g_rt.symm.trans e2)
  have hm : ty ∈ (List.range Tryz.prog.types.size).filter fun t => Tryz.prog.rowNamed t [101, 114, 114, 111, 114] := List.mem_filter.2 ⟨List.mem_range.2 e3, e4⟩
  rw [g_oneRow] at hm
  obtain rfl := List.mem_singleton.1 hm
  have hh : typeHandle Tryz.prog 65 = .pointer (some ⟨4, 65, none⟩) := by kernel_rfl
  rw [hh] at e5
  simpa using World.var?_cell g_et e5 0
theorem mx_zero : (((begin Tryz.prog (fun _ _ => 0) default).world.heap[1]?).bind Obj.row?).map (fun r => (r.1.size, r.2)) = some (1, 3) := by kernel_rfl
theorem last_row : (((begin Tryz.prog (fun _ _ => 0) default).world.heap[Tryz.prog.globals.size - 1]?).bind Obj.row?).isSome = true := by kernel_rfl
theorem mx_build : Tryz.prog.buildable 3 = true := by kernel_rfl
theorem mx_ts : Tryz.prog.cellTypes Tryz.prog.depth 3 = some [3] := by kernel_rfl
set_option maxRecDepth 100000 in
theorem gs_of_laid {W : World} (h : laidMetH Tryz.prog laidL W) (hs : W.ShapedOpen Tryz.prog) : Gs W := by
  have h2 := two_lt
  refine ⟨?_, eg_of_laid h, ?_⟩
  · obtain ⟨⟨z, t⟩, hz⟩ := Option.isSome_iff_exists.1 last_row
    obtain ⟨cs, hc, _⟩ := hs.1 (Tryz.prog.globals.size - 1) z t (by omega) hz
    have := (Array.getElem?_eq_some_iff.1 hc).1
    omega
  · obtain ⟨⟨z, t⟩, hz, hzt⟩ := Option.map_eq_some_iff.1 mx_zero
    simp only [Prod.mk.injEq] at hzt
    obtain ⟨cs, hc, hsz, hok⟩ := hs.1 1 z t (by omega) hz
    rw [hzt.2] at hok hc
    obtain ⟨ts, ht, _, hcell⟩ := hok mx_build
    obtain rfl := Option.some.inj (mx_ts.symm.trans ht)
    have h0 : 0 < cs.size := by rw [hsz, hzt.1]; omega
    obtain ⟨u, hu, hk⟩ := hcell 0 cs[0] (Array.getElem?_eq_getElem h0)
    have hu3 : u = 3 := by simpa using hu.symm
    subst hu3
    have e : W.cell? ⟨1, 0, none⟩ = some cs[0] := by rw [Er.cell_heap hc, Array.getElem?_eq_getElem h0]
    rw [e]
    unfold Cell.ok at hk
    rw [Tryz.underlying3] at hk
    generalize cs[0] = v at hk
    cases v <;> first | (exact hk.elim) | (obtain ⟨rfl, _⟩ := hk; exact ⟨_, rfl⟩)
/-- A world that meets the condition. -/
noncomputable def laidW (os : Os) : World :=
  let w0 := World.laidAll Tryz.prog os plainL
  { w0 with heap := w0.heap.modify 0 fun
      | .cells _ t frozen => .cells #[.iface 124 (.agg #[.pointer (some ⟨4, 65, none⟩)])] t frozen
      | o => o }
set_option maxRecDepth 100000 in
theorem laidW_os (os : Os) : (laidW os).os = os := World.laidAll_os _ _ _
theorem laidW_met (os : Os) (args : Array Value) : laidMetH Tryz.prog laidL ((laidW os).forCall (fun _ _ => 0) ⟨#[], args, []⟩).memory :=
  laidMetH_of_parts (laidMet_of_run' 8 (by kernel_rfl) (by kernel_rfl)) (by kernel_rfl)
theorem laidW_shaped (os : Os) : ((laidW os).forCall (fun _ _ => 0) ⟨#[], #[], []⟩).Shaped Tryz.prog := World.shaped_of_ZipB (by kernel_rfl) (by kernel_rfl)

/-! ### How arguments read -/
def prA (W : World) : Nat → Nat → Prop := fun b _ => b < W.heap.size
theorem RdL_ints (w : World) (g : Gh) (k : IntKind) : ∀ zs : List Int, RdL w g (zs.map (.int k)) (zs.map (Value.int k))
  | [] => by simp [RdL]
  | z :: zs => by simp only [List.map_cons, RdL]; exact ⟨_, _, rfl, by simp [Rd], RdL_ints w g k zs⟩
theorem add_zero {W : World} {a : Addr} {v : Value} (h : W.cell? (a.add 0) = some v) : a = ⟨a.block, a.off, none⟩ := by
  obtain ⟨b, o, s⟩ := a
  cases s with
  | none => rfl
  | some s =>
    simp only [Addr.add, World.cell?] at h
    split at h <;> simp at h
theorem cell_lt {W : World} {a : Addr} {v : Value} (h : W.cell? a = some v) : a.block < W.heap.size := by
  unfold World.cell? at h
  split at h
  · rename_i h1
    exact (Array.getElem?_eq_some_iff.1 h1).1
  · simp at h
section
variable {H : Type} {enc : TypeId × Value → H} {P : Program} {W : World} {base b0 : Nat} {sp : Nat → Bool} {held : Bool} {t e : TypeId} {k : IntKind} {v : Value} {d : DataW H} {p : List MemPlace}
theorem rd_ints (ht : P.underlying t = some (.slice e)) (he : P.underlying e = some (.int k)) (hc : P.cellsOf e = 1) (hv : Value.okWide P W .any b0 t v) (h : DataW.Trod enc P W base sp held t v d p) :
    ∃ raw : List Int, (∀ c ∈ raw, (Lit.int k c).wf = true) ∧ Rd W (pubG (prA W)) (.sl 1 (raw.map (.int k)) .no) v := by
  obtain ⟨a0, len, cap, rfl⟩ := okWide_slice ht hv
  obtain ⟨fuel, hf⟩ := h
  rcases open_ints ht he hc hf with ⟨hcs, hx⟩ | ⟨a, len', cap', zs, hcs, _, hl, hm, hz, hx, hcell, hwz⟩
  · simp [Value.cells] at hcs
    obtain ⟨rfl, rfl, rfl⟩ := hcs
    refine ⟨[], by simp, ?_⟩
    simp only [Rd]
    exact ⟨[], by simp [RdL], ⟨none, 0, rfl, by simp, by simp, by simp [flatV], by simp⟩, trivial⟩
  · simp [Value.cells] at hcs
    obtain ⟨rfl, rfl, rfl⟩ := hcs
    have hlz : len ≤ zs.length := by rw [hz]; split <;> omega
    refine ⟨zs.take len, fun c hc => hwz c (List.mem_of_mem_take hc), ?_⟩
    simp only [Rd]
    have hfl : ∀ l : List Int, flatV (l.map (Value.int k)) = l.map (Value.int k) := by
      intro l
      induction l with
      | nil => rfl
      | cons x l ih => simp only [List.map_cons, flatV, List.flatMap_cons] at ih ⊢; rw [ih]; rfl
    refine ⟨(zs.take len).map (Value.int k), RdL_ints _ _ _ _, ⟨some a, cap, by simp [Nat.min_eq_left hlz], by simp; omega, ?_, ?_, ?_⟩, trivial⟩
    · intro u hu
      obtain ⟨z, _, rfl⟩ := List.mem_map.1 hu
      rfl
    · rw [hfl]
      intro u hu
      obtain ⟨z, _, rfl⟩ := List.mem_map.1 hu
      rfl
    · intro hne
      have h0 : 0 < zs.length := by
        cases zs with
        | nil => simp at hne
        | cons z zs => simp
      have ha := add_zero (hcell 0 h0)
      refine ⟨a.block, a.off, by rw [← ha], ?_⟩
      rw [hfl]
      intro j c hj
      obtain ⟨z, hz1, rfl⟩ := List.getElem?_map .. ▸ hj |> Option.map_eq_some_iff.1
      have hjl : j < zs.length := by
        have := (List.getElem?_eq_some_iff.1 hz1).1
        simp at this
        omega
      have hz2 : zs.getD j 0 = z := by
        have : zs[j]? = some z := by
          rw [List.getElem?_take] at hz1
          split at hz1
          · exact hz1
          · simp at hz1
        simp [List.getD, this]
      have hcj := hcell j hjl
      rw [hz2] at hcj
      have hadd : a.add j = ⟨a.block, a.off + j, none⟩ := by
        rw [ha]
        unfold Addr.add
        split
        · rename_i h0; subst h0; rfl
        · rfl
      rw [hadd] at hcj
      exact ⟨hcj, cell_lt (a := ⟨a.block, a.off + j, none⟩) hcj⟩
theorem rd_string (ht : P.underlying t = some .string) (hv : Value.okWide P W .any b0 t v) (h : DataW.Trod enc P W base sp held t v d p) : ∃ s : List UInt8, s.length ≤ maxLen ∧ Rd W (pubG (prA W)) (.str s) v := by
  obtain ⟨s, rfl, _, _, hs⟩ := ChangeMaps.open_string ht hv h
  exact ⟨s.data.toList, hs, by simp [Rd]⟩
theorem rd_int (ht : P.underlying t = some (.int k)) (hv : Value.okWide P W .any b0 t v) (h : DataW.Trod enc P W base sp held t v d p) : ∃ n : Int, (Lit.int k n).wf = true ∧ Rd W (pubG (prA W)) (.int k n) v := by
  obtain ⟨n, rfl, _, _, hw⟩ := open_int ht hv h
  exact ⟨n, hw, by simp [Rd]⟩
theorem rd_bool (ht : P.underlying t = some .bool) (hv : Value.okWide P W .any b0 t v) (h : DataW.Trod enc P W base sp held t v d p) : ∃ b : Bool, Rd W (pubG (prA W)) (.bool b) v := by
  obtain ⟨b, rfl, _, _⟩ := open_bool ht hv h
  exact ⟨b, by simp [Rd]⟩
end

theorem inR_of_wf {n : Int} (h : (Lit.int .i64 n).wf = true) : -9223372036854775808 ≤ n ∧ n ≤ 9223372036854775807 := by
  simp [Lit.wf, IntKind.min, IntKind.max, IntKind.signed, IntKind.bits] at h
  omega

/-! ### Behind the call -/
theorem trodAll_stays {H : Type} {enc : TypeId × Value → H} {P : Program} (hl : laidOutB P = true) {W W' : World} {sp' : Nat → Bool} : ∀ {ts : List TypeId} {vs : List Value} {ds : List (DataW H)} {ps : List MemPlace}, (∀ t ∈ ts, P.readableRec t = true ∧ t < P.types.size) →
    DataW.TrodAll enc P W 0 (fun _ => true) true ts vs ds ps → (∀ p ∈ ps, W.sameAt W' p) → (∀ p ∈ ps, sp' p.block = true) → DataW.TrodAll enc P W' 0 sp' true ts vs ds ps
  | [], [], [], ps, _, h, _, _ => h
  | t :: ts, v :: vs, d :: ds, ps, ht, h, hs, hp => by
    obtain ⟨p, q, h1, h2, rfl⟩ := h
    exact ⟨p, q, WideElems.Trod_stays hl (ht t (by simp)).1 (ht t (by simp)).2 h1 (fun x hx => hs x (List.mem_append_left _ hx)) (fun x hx => hp x (List.mem_append_left _ hx)),
      trodAll_stays hl (fun t h => ht t (List.mem_cons_of_mem _ h)) h2 (fun x hx => hs x (List.mem_append_right _ hx)) (fun x hx => hp x (List.mem_append_right _ hx)), rfl⟩
  | [], _ :: _, _, _, _, h, _, _ => h.elim
  | [], [], _ :: _, _, _, h, _, _ => h.elim
  | _ :: _, [], _, _, _, h, _, _ => h.elim
  | _ :: _, _ :: _, [], _, _, h, _, _ => h.elim
theorem below_of_aft {w w' : World} {pr pr' : Nat → Nat → Prop} (h : Aft w w' pr pr' (inB [])) : Below w.heap.size w w' :=
  ⟨h.below.os, h.below.tape, h.below.output, h.below.size, fun k hk => h.below.block k hk (by rintro ⟨n, hn⟩; simp at hn)⟩
/-- A law of this program that answers true: its row's end. -/
theorem row_end {H : Type} {enc : TypeId × Value → H} {f : Func} {s : ChangeSpec} {W W' : World} {args : Array Value} {v : Value} {ds gs : List (DataW H)} {before : List MemPlace} {pr' : Nat → Nat → Prop}
    (hs : s.vars = []) (hf : f.resultTypes = #[4]) (hp : ∀ t ∈ f.params.toList, Tryz.prog.readableRec t = true ∧ t < Tryz.prog.types.size)
    (hfn : (s.fn H (ds ++ gs)).results = [.lit (.bool true)] ∧ (s.fn H (ds ++ gs)).args = ds ∧ (s.fn H (ds ++ gs)).vars = [])
    (hW : DataW.Whole enc Tryz.prog f.params.toList s.vars false W args.toList ds gs before) (ha : Aft W W' (prA W) pr' (inB [])) (hr : Rd W' (pubG pr') (.bool true) v) :
    s.post enc Tryz.prog f false true false false W args v W' := by
  have hb := below_of_aft ha
  have hlt := hW.lt
  have hW2 := hW
  obtain ⟨p, q, h1, h2, rfl, _, _⟩ := hW2
  rw [hs] at h2
  obtain ⟨rfl, rfl⟩ := trodVars_none h2
  simp only [Rd] at hr
  subst hr
  refine ⟨ds, [], p ++ [], [], p, [], hW, ?_, ?_, ?_, hb.frame _, fun h => by cases h⟩
  · rw [hfn.1, hf]
    exact trodAll_mk1 (shut_bool Tryz.underlying4 true)
  · rw [hfn.2.1]
    exact trodAll_stays laid_out hp h1 (fun x hx => hb.same (hlt x (by simpa using hx))) (fun x hx => by simpa using hlt x (by simpa using hx))
  · rw [hfn.2.2, hs]
    rfl
end Go.Proofs.YtpkeiffclipjmaaGreatDoor.Rx
