/-
  The rows of the reports' laws: what is laid, how arguments read, what is read behind the call.
-/
import Derived.Test.YtdjgdipmjbkilaaGreatDoorRxF8
import Derived.Test.YtdjgdipmjbkilaaGreatDoorRows
import Derived.ProofKit
import Derived.OpenShut
import Derived.LaidMore
import Derived.Lay
import Derived.Stop.Joined
import Derived.Lib.LaidTab
import Derived.ChangeMaps5
namespace Go.Proofs.YtdjgdipmjbkilaaGreatDoor.Rx
open Go Go.RowKit Go.ChangeShapes Go.WideShapes Go.ChangeAt

theorem own_knob : ownKnob Tryz.prog.godebug = none := by kernel_rfl
theorem laid_out : laidOutB Tryz.prog = true := by kernel_rfl
def laidL : List (String × DataW Unit) := [("math/bits.deBruijn32tab", Rows.laid_math_bits_deBruijn32tab), ("math/bits.deBruijn64tab", Rows.laid_math_bits_deBruijn64tab), ("internal/strconv.uint64pow10", Rows.laid_internal_strconv_uint64pow10), ("strconv.ErrRange", Rows.laid_strconv_ErrRange), ("strconv.ErrSyntax", Rows.laid_strconv_ErrSyntax)]

theorem size_of_var {P : Program} {w : World} {n : String} {g : Nat} {cs : Array Value} (hg : P.globalNamed n = some g) (hs : P.globals.size = g + 1) (h : w.var? P n = some cs) : P.globals.size ≤ w.heap.size := by
  unfold World.var? at h
  rw [hg] at h
  simp only [Option.bind_some] at h
  rw [hs]
  cases hh : w.heap[g]? with
  | none => rw [hh] at h; simp at h
  | some o => exact (Array.getElem?_eq_some_iff.1 hh).1
theorem gs_of_laid {W : World} (h : laidMetH Tryz.prog laidL W) : Gs W := by
  rw [MakeChecks.laidMetH_plain _ _ _ (by kernel_rfl)] at h
  obtain ⟨ps, ⟨g0, t0, cs0, f0, p0, q0, hg0, ht0, hv0, hd0, ⟨g1, t1, cs1, f1, p1, q1, hg1, ht1, hv1, hd1, ⟨g2, t2, cs2, f2, p2, q2, hg2, ht2, hv2, hd2, ⟨g3, t3, cs3, f3, p3, q3, hg3, ht3, hv3, hd3, ⟨g4, t4, cs4, f4, p4, q4, hg4, ht4, hv4, hd4, _⟩, _⟩, _⟩, _⟩, _⟩, _⟩ := h
  have e2 := Option.some.inj ((show Tryz.prog.globalNamed "internal/strconv.uint64pow10" = some 1 by kernel_rfl).symm.trans hg2)
  have e3 := Option.some.inj ((show Tryz.prog.globalNamed "strconv.ErrRange" = some 3 by kernel_rfl).symm.trans hg3)
  have e4 := Option.some.inj ((show Tryz.prog.globalNamed "strconv.ErrSyntax" = some 2 by kernel_rfl).symm.trans hg4)
  subst e2 e3 e4
  have u2 := Option.some.inj ((show (Tryz.prog.globals[1]?).map (·.type) = some 169 by kernel_rfl).symm.trans ht2)
  have u3 := Option.some.inj ((show (Tryz.prog.globals[3]?).map (·.type) = some 102 by kernel_rfl).symm.trans ht3)
  have u4 := Option.some.inj ((show (Tryz.prog.globals[2]?).map (·.type) = some 102 by kernel_rfl).symm.trans ht4)
  subst u2 u3 u4
  refine ⟨size_of_var (n := "math/bits.deBruijn64tab") (g := 5) (by kernel_rfl) (by kernel_rfl) hv1, ?_, ?_, ?_⟩
  · unfold Lib.TabIs
    rw [hv2, ← Lib.cells_of_tab (n := 20) Tryz.underlying169 Tryz.underlying154 (by kernel_rfl) (by kernel_rfl) hd2]
  · obtain ⟨_, u, v, e, _⟩ := iface_of_trod Tryz.underlying102 hd4
    exact ⟨u, v, by rw [hv4]; congr 1; exact Array.ext' e⟩
  · obtain ⟨_, u, v, e, _⟩ := iface_of_trod Tryz.underlying102 hd3
    exact ⟨u, v, by rw [hv3]; congr 1; exact Array.ext' e⟩

/-! ### How arguments read -/
def prA (W : World) : Nat → Nat → Prop := fun b _ => b < W.heap.size
theorem RdL_ints (w : World) (g : Gh) (k : IntKind) : ∀ zs : List Int, RdL w g (zs.map (.int k)) (zs.map (Value.int k))
  | [] => by simp [RdL]
  | z :: zs => by simp only [List.map_cons, RdL]; exact ⟨_, _, rfl, by simp [Rd], RdL_ints w g k zs⟩
theorem add_zero {W : World} {a : Addr} {v : Value} (h : W.cell? (a.add 0) = some v) : a = ⟨a.block, a.off, none⟩ := by
  obtain ⟨b, o, s⟩ := a
  cases s with
  | none => rfl
  | some s =>
    simp only [Addr.add, World.cell?] at h
    split at h <;> simp at h
theorem cell_lt {W : World} {a : Addr} {v : Value} (h : W.cell? a = some v) : a.block < W.heap.size := by
  unfold World.cell? at h
  split at h
  · rename_i h1
    exact (Array.getElem?_eq_some_iff.1 h1).1
  · simp at h
section
variable {H : Type} {enc : TypeId × Value → H} {P : Program} {W : World} {base b0 : Nat} {sp : Nat → Bool} {held : Bool} {t e : TypeId} {k : IntKind} {v : Value} {d : DataW H} {p : List MemPlace}
theorem rd_ints (ht : P.underlying t = some (.slice e)) (he : P.underlying e = some (.int k)) (hc : P.cellsOf e = 1) (hv : Value.okWide P W .any b0 t v) (h : DataW.Trod enc P W base sp held t v d p) :
    ∃ raw : List Int, (∀ c ∈ raw, (Lit.int k c).wf = true) ∧ Rd W (pubG (prA W)) (.sl 1 (raw.map (.int k)) .no) v := by
  obtain ⟨a0, len, cap, rfl⟩ := okWide_slice ht hv
  obtain ⟨fuel, hf⟩ := h
  rcases open_ints ht he hc hf with ⟨hcs, hx⟩ | ⟨a, len', cap', zs, hcs, _, hl, hm, hz, hx, hcell, hwz⟩
  · simp [Value.cells] at hcs
    obtain ⟨rfl, rfl, rfl⟩ := hcs
    refine ⟨[], by simp, ?_⟩
    simp only [Rd]
    exact ⟨[], by simp [RdL], ⟨none, 0, rfl, by simp, by simp, by simp [flatV], by simp⟩, trivial⟩
  · simp [Value.cells] at hcs
    obtain ⟨rfl, rfl, rfl⟩ := hcs
    have hlz : len ≤ zs.length := by rw [hz]; split <;> omega
    refine ⟨zs.take len, fun c hc => hwz c (List.mem_of_mem_take hc), ?_⟩
    simp only [Rd]
    have hfl : ∀ l : List Int, flatV (l.map (Value.int k)) = l.map (Value.int k) := by
      intro l
      induction l with
      | nil => rfl
      | cons x l ih => simp only [List.map_cons, flatV, List.flatMap_cons] at ih ⊢; rw [ih]; rfl
    refine ⟨(zs.take len).map (Value.int k), RdL_ints _ _ _ _, ⟨some a, cap, by simp [Nat.min_eq_left hlz], by simp; omega, ?_, ?_, ?_⟩, trivial⟩
    · intro u hu
      obtain ⟨z, _, rfl⟩ := List.mem_map.1 hu
      rfl
    · rw [hfl]
      intro u hu
      obtain ⟨z, _, rfl⟩ := List.mem_map.1 hu
      rfl
    · intro hne
      have h0 : 0 < zs.length := by
        cases zs with
        | nil => simp at hne
        | cons z zs => simp
      have ha := add_zero (hcell 0 h0)
      refine ⟨a.block, a.off, by rw [← ha], ?_⟩
      rw [hfl]
      intro j c hj
      obtain ⟨z, hz1, rfl⟩ := List.getElem?_map .. ▸ hj |> Option.map_eq_some_iff.1
      have hjl : j < zs.length := by
        have := (List.getElem?_eq_some_iff.1 hz1).1
        simp at this
        omega
      have hz2 : zs.getD j 0 = z := by
        have : zs[j]? = some z := by
          rw [List.getElem?_take] at hz1
          split at hz1
          · exact hz1
          · simp at hz1
        simp [List.getD, this]
      have hcj := hcell j hjl
      rw [hz2] at hcj
      have hadd : a.add j = ⟨a.block, a.off + j, none⟩ := by
        rw [ha]
        unfold Addr.add
        split
        · rename_i h0; subst h0; rfl
        · rfl
      rw [hadd] at hcj
      exact ⟨hcj, cell_lt (a := ⟨a.block, a.off + j, none⟩) hcj⟩
theorem rd_string (ht : P.underlying t = some .string) (hv : Value.okWide P W .any b0 t v) (h : DataW.Trod enc P W base sp held t v d p) : ∃ s : List UInt8, s.length ≤ maxLen ∧ Rd W (pubG (prA W)) (.str s) v := by
  obtain ⟨s, rfl, _, _, hs⟩ := ChangeMaps.open_string ht hv h
  exact ⟨s.data.toList, hs, by simp [Rd]⟩
theorem rd_int (ht : P.underlying t = some (.int k)) (hv : Value.okWide P W .any b0 t v) (h : DataW.Trod enc P W base sp held t v d p) : ∃ n : Int, (Lit.int k n).wf = true ∧ Rd W (pubG (prA W)) (.int k n) v := by
  obtain ⟨n, rfl, _, _, hw⟩ := open_int ht hv h
  exact ⟨n, hw, by simp [Rd]⟩
theorem rd_bool (ht : P.underlying t = some .bool) (hv : Value.okWide P W .any b0 t v) (h : DataW.Trod enc P W base sp held t v d p) : ∃ b : Bool, Rd W (pubG (prA W)) (.bool b) v := by
  obtain ⟨b, rfl, _, _⟩ := open_bool ht hv h
  exact ⟨b, by simp [Rd]⟩
end

theorem inR_of_wf {n : Int} (h : (Lit.int .i64 n).wf = true) : -9223372036854775808 ≤ n ∧ n ≤ 9223372036854775807 := by
  simp [Lit.wf, IntKind.min, IntKind.max, IntKind.signed, IntKind.bits] at h
  omega

/-! ### Behind the call -/
theorem trodAll_stays {H : Type} {enc : TypeId × Value → H} {P : Program} (hl : laidOutB P = true) {W W' : World} {sp' : Nat → Bool} : ∀ {ts : List TypeId} {vs : List Value} {ds : List (DataW H)} {ps : List MemPlace}, (∀ t ∈ ts, P.readableRec t = true ∧ t < P.types.size) →
    DataW.TrodAll enc P W 0 (fun _ => true) true ts vs ds ps → (∀ p ∈ ps, W.sameAt W' p) → (∀ p ∈ ps, sp' p.block = true) → DataW.TrodAll enc P W' 0 sp' true ts vs ds ps
  | [], [], [], ps, _, h, _, _ => h
  | t :: ts, v :: vs, d :: ds, ps, ht, h, hs, hp => by
    obtain ⟨p, q, h1, h2, rfl⟩ := h
    exact ⟨p, q, WideElems.Trod_stays hl (ht t (by simp)).1 (ht t (by simp)).2 h1 (fun x hx => hs x (List.mem_append_left _ hx)) (fun x hx => hp x (List.mem_append_left _ hx)),
      trodAll_stays hl (fun t h => ht t (List.mem_cons_of_mem _ h)) h2 (fun x hx => hs x (List.mem_append_right _ hx)) (fun x hx => hp x (List.mem_append_right _ hx)), rfl⟩
  | [], _ :: _, _, _, _, h, _, _ => h.elim
  | [], [], _ :: _, _, _, h, _, _ => h.elim
  | _ :: _, [], _, _, _, h, _, _ => h.elim
  | _ :: _, _ :: _, [], _, _, h, _, _ => h.elim
theorem below_of_aft {w w' : World} {pr pr' : Nat → Nat → Prop} (h : Aft w w' pr pr' (inB [])) : Below w.heap.size w w' :=
  ⟨h.below.os, h.below.tape, h.below.output, h.below.size, fun k hk => h.below.block k hk (by rintro ⟨n, hn⟩; simp at hn)⟩
/-- A law of this program that answers true: its row's end. -/
theorem row_end {H : Type} {enc : TypeId × Value → H} {f : Func} {s : ChangeSpec} {W W' : World} {args : Array Value} {v : Value} {ds gs : List (DataW H)} {before : List MemPlace} {pr' : Nat → Nat → Prop}
    (hs : s.vars = []) (hf : f.resultTypes = #[4]) (hp : ∀ t ∈ f.params.toList, Tryz.prog.readableRec t = true ∧ t < Tryz.prog.types.size)
    (hfn : (s.fn H (ds ++ gs)).results = [.lit (.bool true)] ∧ (s.fn H (ds ++ gs)).args = ds ∧ (s.fn H (ds ++ gs)).vars = [])
    (hW : DataW.Whole enc Tryz.prog f.params.toList s.vars false W args.toList ds gs before) (ha : Aft W W' (prA W) pr' (inB [])) (hr : Rd W' (pubG pr') (.bool true) v) :
    s.post enc Tryz.prog f false true false false W args v W' := by
  have hb := below_of_aft ha
  have hlt := hW.lt
  have hW2 := hW
  obtain ⟨p, q, h1, h2, rfl, _, _⟩ := hW2
  rw [hs] at h2
  obtain ⟨rfl, rfl⟩ := trodVars_none h2
  simp only [Rd] at hr
  subst hr
  refine ⟨ds, [], p ++ [], [], p, [], hW, ?_, ?_, ?_, hb.frame _, fun h => by cases h⟩
  · rw [hfn.1, hf]
    exact trodAll_mk1 (shut_bool Tryz.underlying4 true)
  · rw [hfn.2.1]
    exact trodAll_stays laid_out hp h1 (fun x hx => hb.same (hlt x (by simpa using hx))) (fun x hx => by simpa using hlt x (by simpa using hx))
  · rw [hfn.2.2, hs]
    rfl
end Go.Proofs.YtdjgdipmjbkilaaGreatDoor.Rx
