/-
  TreesTells: WHATEVER THE INPUT OF BULK AT MOST 1048576: the law answers true, and its arguments read as they did. Tied: the listed variables are what the program's text lays.
-/
import Derived.Test.YtpkeiffclipjmaaGreatDoorRxJt
import Derived.Test.YtpkeiffclipjmaaGreatDoorRxX1
import Derived.Test.YtpkeiffclipjmaaGreatDoorCards
import Derived.Test.YtpkeiffclipjmaaGreatDoorTie
import Derived.SevenTiedAt
namespace Go.Proofs.YtpkeiffclipjmaaGreatDoor
open Go Go.RowKit Go.ChangeShapes Go.WideShapes Go.ChangeAt Rx

set_option linter.unusedVariables false
set_option maxRecDepth 100000 in
theorem treesTellsUpto_reads (os : Os) {H : Type} (enc : TypeId × Value → H) : ∃ places, DataW.whole enc Tryz.prog ((laidW os).forCall (fun _ _ => 0) ⟨#[], #[.slice none 0 0, .slice none 0 0, .slice none 0 0, .agg #[.int .i64 0, .int .i64 0, .int .i64 0], .string ByteArray.empty, .slice none 0 0], []⟩).memory Tryz.f3.params.toList (Rows.OpenSpec.upto Rows.treesTellsSpec).vars false (#[.slice none 0 0, .slice none 0 0, .slice none 0 0, .agg #[.int .i64 0, .int .i64 0, .int .i64 0], .string ByteArray.empty, .slice none 0 0] : Array Value).toList 8 = some ([.nil, .nil, .nil, .agg [.lit (.int .i64 0), .lit (.int .i64 0), .lit (.int .i64 0)], .lit (.string []), .nil], [], places) ∧ ∀ k, (Rows.OpenSpec.upto Rows.treesTellsSpec).cond = some k → k H ([.nil, .nil, .nil, .agg [.lit (.int .i64 0), .lit (.int .i64 0), .lit (.int .i64 0)], .lit (.string []), .nil] ++ []) = true :=
  ⟨[], by kernel_rfl, fun k hk => by cases hk; kernel_rfl⟩
set_option maxRecDepth 100000 in
theorem treesTellsUpto_lifted (os : Os) (started : os.Started) (H : Type) (enc : TypeId × Value → H) (F : Stop.Interp) :
    ReturnsInHanded {} Tryz.checked os 3 .any ((Rows.OpenSpec.upto Rows.treesTellsSpec).preRow enc Tryz.prog Tryz.f3 Rows.treesTellsUptoRow.domain false Rows.treesTellsUptoRow.laid) (((Rows.OpenSpec.upto Rows.treesTellsSpec).at F).post enc Tryz.prog Tryz.f3 false true false false) := by
  obtain ⟨places, hx, hk⟩ := treesTellsUpto_reads os enc
  refine returnsInHanded_of_row (C := Tryz.checked) (s := (Rows.OpenSpec.upto Rows.treesTellsSpec)) own_knob started (by kernel_rfl) Tryz.func3
    (witness_row_shaped (enc := enc) (C := Tryz.checked) (laidW os) #[.slice none 0 0, .slice none 0 0, .slice none 0 0, .agg #[.int .i64 0, .int .i64 0, .int .i64 0], .string ByteArray.empty, .slice none 0 0] (laidW_os os)
      (World.shaped_of_ZipB (by kernel_rfl) (by kernel_rfl)) (by kernel_rfl)
      (OpenSpec.preRow_of_cond 8 hx (by kernel_rfl) hk (by kernel_rfl)
        (laidW_met os _))) ?_
  intro W base args ds gs before hval0 hW _ hcond hsz0 hL0 hSh _
  have hL : laidMetH Tryz.prog laidL W := hL0
  have hval : ∀ (j : Nat) t v, Tryz.f3.params[j]? = some t → args[j]? = some v → Value.okWide Tryz.prog W .any base t v := hval0
  have hW' := hW
  obtain ⟨p, q, hA0, hV, rfl, _, _⟩ := hW
  have hA : DataW.TrodAll enc Tryz.prog W 0 (fun _ => true) true Tryz.f3.params.toList args.toList ds p := hA0
  have hsz : (DataW.weightsEach Tryz.prog (Tryz.f3.params.toList ++ _) (ds ++ gs)).all (· ≤ reachBytes) = true := hsz0
  rw [Tryz.params3] at hA hval hsz
  obtain ⟨v0, vs0, d0, ds0, p0, q0, e0, rfl, rfl, h0, r0⟩ := trodAll_cons hA
  obtain ⟨v1, vs1, d1, ds1, p1, q1, e1, rfl, rfl, h1, r1⟩ := trodAll_cons r0
  obtain ⟨v2, vs2, d2, ds2, p2, q2, e2, rfl, rfl, h2, r2⟩ := trodAll_cons r1
  obtain ⟨v3, vs3, d3, ds3, p3, q3, e3, rfl, rfl, h3, r3⟩ := trodAll_cons r2
  obtain ⟨v4, vs4, d4, ds4, p4, q4, e4, rfl, rfl, h4, r4⟩ := trodAll_cons r3
  obtain ⟨v5, vs5, d5, ds5, p5, q5, e5, rfl, rfl, h5, r5⟩ := trodAll_cons r4
  obtain ⟨e6, rfl, rfl⟩ := trodAll_nil r5
  obtain rfl : args = #[v0, v1, v2, v3, v4, v5] := by
    subst e6
    subst e5
    subst e4
    subst e3
    subst e2
    subst e1
    exact Array.ext' e0
  obtain ⟨rfl, rfl⟩ := trodVars_none hV
  have hb := of_decide_eq_true (hcond _ rfl)
  simp only [Rows.uptoBulkAll, List.cons_append, List.nil_append] at hb
  obtain ⟨c0, y0, g0, t0, b0, f0⟩ := rd_top (P := Tryz.prog) (.sl tItem) (by kernel_rfl) (hval 0 22 v0 rfl rfl) h0
  have b0 := Nat.le_trans b0 (show _ ≤ 1048576 by omega)
  obtain ⟨a0, rfl, l0, w0⟩ := ty_items y0 g0
  obtain ⟨c1, y1, g1, t1, b1, f1⟩ := rd_top (P := Tryz.prog) (.sl tRaw) (by kernel_rfl) (hval 1 23 v1 rfl rfl) h1
  have b1 := Nat.le_trans b1 (show _ ≤ 1048576 by omega)
  obtain ⟨a1, rfl, l1, w1⟩ := ty_raws y1 g1
  obtain ⟨c2, y2, g2, t2, b2, f2⟩ := rd_top (P := Tryz.prog) (.sl tRaw) (by kernel_rfl) (hval 2 23 v2 rfl rfl) h2
  have b2 := Nat.le_trans b2 (show _ ≤ 1048576 by omega)
  obtain ⟨a2, rfl, l2, w2⟩ := ty_raws y2 g2
  obtain ⟨c3, y3, g3, t3, b3, f3⟩ := rd_top (P := Tryz.prog) (.st [.int .i64, .int .i64, .int .i64]) (by kernel_rfl) (hval 3 25 v3 rfl rfl) h3
  have b3 := Nat.le_trans b3 (show _ ≤ 1048576 by omega)
  obtain ⟨i3, j3, o3, rfl, w3⟩ := ty_ints3 y3 g3
  obtain ⟨c4, y4, g4, t4, b4, f4⟩ := rd_top (P := Tryz.prog) .str (by kernel_rfl) (hval 4 9 v4 rfl rfl) h4
  have b4 := Nat.le_trans b4 (show _ ≤ 1048576 by omega)
  obtain ⟨a4, rfl, w4⟩ := ty_str y4 g4
  obtain ⟨c5, y5, g5, t5, b5, f5⟩ := rd_top (P := Tryz.prog) (.sl (.int .i64)) (by kernel_rfl) (hval 5 26 v5 rfl rfl) h5
  have b5 := Nat.le_trans b5 (show _ ≤ 1048576 by omega)
  obtain ⟨a5, rfl, l5, w5⟩ := ty_ints y5 g5
  have h := fits.den (tells02_law_den a0 a1 a2 ⟨i3, j3, o3⟩ a4 a5 b0 w1 b1 w2 b2 w3 w5)
  refine (h.2 W (prA W) [v0, v1, v2, v3, v4, v5] [] (gs_of_laid hL hSh) (fun _ _ h => h) (by simp) ⟨_, _, rfl, t0, ⟨_, _, rfl, t1, ⟨_, _, rfl, t2, ⟨_, _, rfl, t3, ⟨_, _, rfl, t4, ⟨_, _, rfl, t5, rfl, rfl⟩⟩⟩⟩⟩⟩).mono fun e W' hp => ?_
  cases e with
  | returned v =>
    obtain ⟨pr', k1, k2⟩ := hp
    exact ⟨v, rfl, row_end (s := Rows.treesTellsSpec) rfl (by kernel_rfl) (by rw [Tryz.params3]; decide) ⟨rfl, rfl, rfl⟩ hW' k1 k2⟩
  | _ => exact hp.elim
theorem treesTellsUpto_holds : Rows.TreesTellsUptoSaid :=
  OpenClaim.holds_of_cond 3 Tryz.f3 rfl rfl rfl rfl rfl rfl rfl ⟨rfl, rfl, rfl, rfl, rfl⟩ rfl rfl rfl rfl rfl (by kernel_rfl) Tryz.func3 (by kernel_rfl)
    (of_decide_eq_true (by kernel_rfl)) (by unfold Func.isWrapper; first | (rw [if_pos (by decide +kernel)]; kernel_rfl) | (rw [if_neg (by decide +kernel)]; exact ⟨rfl, rfl⟩))
    (fun os started H enc _ F => by rw [OpenClaim.pre_eq_preRow]; exact treesTellsUpto_lifted os started H enc F)
theorem treesTellsUpto_card_holds : Rows.TreesTellsUptoCardSaid :=
  Claim7.holds_tied_plain_at .later [] _ _ _ _ treesTellsUpto_holds (fun _ h => by cases h) (by kernel_rfl) (fun _ h => by cases h) treesTellsUpto_row_tie rfl ⟨rfl, rfl⟩ (by kernel_rfl) rfl
    (fun f fn hf hfn => by
      obtain rfl : f = 3 := Option.some.inj ((show Tryz.prog.funcNamed "collator/collatorlaw02.TreesTells" = some 3 by kernel_rfl).symm.trans hf) |>.symm
      obtain rfl : fn = Tryz.f3 := (Option.some.inj (Tryz.func3.symm.trans hfn)).symm
      exact ⟨by kernel_rfl, fun j t ht => by
        rw [Tryz.params3] at ht
        have hm : t ∈ [22, 23, 23, 25, 9, 26] := by simpa using Array.mem_of_getElem? ht
        have hall : ([22, 23, 23, 25, 9, 26].all fun u => !Tryz.prog.wantsStandIn u) = true := by kernel_rfl
        exact (show Tryz.prog.wantsStandIn t = false by simpa using List.all_eq_true.1 hall t hm)⟩)
    (by kernel_rfl)
#print axioms treesTellsUpto_card_holds
end Go.Proofs.YtpkeiffclipjmaaGreatDoor
