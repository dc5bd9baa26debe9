/-
  ScriptTells: WHATEVER THE INPUT OF BULK AT MOST 1048576: the law answers true, and its arguments read as they did. Tied: the listed variables are what the program's text lays.
-/
import Derived.Test.YtdcgldhhdajocaaDoorRxPb
import Derived.Test.YtdcgldhhdajocaaDoorRxY2
import Derived.Test.YtdcgldhhdajocaaDoorCards
import Derived.Test.YtdcgldhhdajocaaDoorTie
import Derived.SevenTiedAt
namespace Go.Proofs.YtdcgldhhdajocaaDoor
open Go Go.RowKit Go.ChangeShapes Go.WideShapes Go.ChangeAt Rx

set_option linter.unusedVariables false
set_option maxRecDepth 100000 in
theorem scriptTellsUpto_reads (os : Os) {H : Type} (enc : TypeId × Value → H) : ∃ places, DataW.whole enc Tryd.prog ((World.laidAll Tryd.prog os laidL).forCall (fun _ _ => 0) ⟨#[], #[.slice none 0 0, .slice none 0 0, .slice none 0 0, .slice none 0 0, .string ByteArray.empty, .int .i64 0, .int .u8 0], []⟩).memory Tryd.f3.params.toList (Rows.OpenSpec.upto Rows.scriptTellsSpec).vars false (#[.slice none 0 0, .slice none 0 0, .slice none 0 0, .slice none 0 0, .string ByteArray.empty, .int .i64 0, .int .u8 0] : Array Value).toList 8 = some ([.nil, .nil, .nil, .nil, .lit (.string []), .lit (.int .i64 0), .lit (.int .u8 0)], [], places) ∧ ∀ k, (Rows.OpenSpec.upto Rows.scriptTellsSpec).cond = some k → k H ([.nil, .nil, .nil, .nil, .lit (.string []), .lit (.int .i64 0), .lit (.int .u8 0)] ++ []) = true :=
  ⟨[], by kernel_rfl, fun k hk => by cases hk; kernel_rfl⟩
set_option maxRecDepth 100000 in
theorem scriptTellsUpto_lifted (os : Os) (started : os.Started) (H : Type) (enc : TypeId × Value → H) (F : Stop.Interp) :
    ReturnsInHanded {} Tryd.checked os 3 .any ((Rows.OpenSpec.upto Rows.scriptTellsSpec).preRow enc Tryd.prog Tryd.f3 Rows.scriptTellsUptoRow.domain false Rows.scriptTellsUptoRow.laid) (((Rows.OpenSpec.upto Rows.scriptTellsSpec).at F).post enc Tryd.prog Tryd.f3 false true false false) := by
  obtain ⟨places, hx, hk⟩ := scriptTellsUpto_reads os enc
  refine returnsInHanded_of_row (C := Tryd.checked) (s := (Rows.OpenSpec.upto Rows.scriptTellsSpec)) own_knob started (by kernel_rfl) Tryd.func3
    (witness_row_shaped (enc := enc) (C := Tryd.checked) (World.laidAll Tryd.prog os laidL) #[.slice none 0 0, .slice none 0 0, .slice none 0 0, .slice none 0 0, .string ByteArray.empty, .int .i64 0, .int .u8 0] (World.laidAll_os _ _ _)
      (World.shaped_of_ZipB (by kernel_rfl) (by kernel_rfl)) (by kernel_rfl)
      (OpenSpec.preRow_of_cond 8 hx (by kernel_rfl) hk (by kernel_rfl)
        (show laidMetH Tryd.prog laidL _ by rw [MakeChecks.laidMetH_plain _ _ _ (by kernel_rfl)]; exact laidMet_laidAll _ (by kernel_rfl) (by kernel_rfl)))) ?_
  intro W base args ds gs before hval0 hW _ hcond _ hL0 _ _
  have hL : laidMetH Tryd.prog laidL W := hL0
  have hval : ∀ (j : Nat) t v, Tryd.f3.params[j]? = some t → args[j]? = some v → Value.okWide Tryd.prog W .any base t v := hval0
  have hW' := hW
  obtain ⟨p, q, hA0, hV, rfl, _, _⟩ := hW
  have hA : DataW.TrodAll enc Tryd.prog W 0 (fun _ => true) true Tryd.f3.params.toList args.toList ds p := hA0
  rw [Tryd.params3] at hA hval
  obtain ⟨v0, vs0, d0, ds0, p0, q0, e0, rfl, rfl, h0, r0⟩ := trodAll_cons hA
  obtain ⟨v1, vs1, d1, ds1, p1, q1, e1, rfl, rfl, h1, r1⟩ := trodAll_cons r0
  obtain ⟨v2, vs2, d2, ds2, p2, q2, e2, rfl, rfl, h2, r2⟩ := trodAll_cons r1
  obtain ⟨v3, vs3, d3, ds3, p3, q3, e3, rfl, rfl, h3, r3⟩ := trodAll_cons r2
  obtain ⟨v4, vs4, d4, ds4, p4, q4, e4, rfl, rfl, h4, r4⟩ := trodAll_cons r3
  obtain ⟨v5, vs5, d5, ds5, p5, q5, e5, rfl, rfl, h5, r5⟩ := trodAll_cons r4
  obtain ⟨v6, vs6, d6, ds6, p6, q6, e6, rfl, rfl, h6, r6⟩ := trodAll_cons r5
  obtain ⟨e7, rfl, rfl⟩ := trodAll_nil r6
  obtain rfl : args = #[v0, v1, v2, v3, v4, v5, v6] := by
    subst e7
    subst e6
    subst e5
    subst e4
    subst e3
    subst e2
    subst e1
    exact Array.ext' e0
  obtain ⟨rfl, rfl⟩ := trodVars_none hV
  have hb := of_decide_eq_true (hcond _ rfl)
  simp only [Rows.uptoBulkAll, List.cons_append, List.nil_append] at hb
  obtain ⟨c0, y0, g0, t0, b0⟩ := rd_top (P := Tryd.prog) (.sl tEdit) (by kernel_rfl) (hval 0 22 v0 rfl rfl) h0
  have b0 := Nat.le_trans b0 (show _ ≤ 1048576 by omega)
  obtain ⟨a0, rfl, l0, w0⟩ := ty_edits y0 g0
  obtain ⟨c1, y1, g1, t1, b1⟩ := rd_top (P := Tryd.prog) (.sl (.int .i64)) (by kernel_rfl) (hval 1 23 v1 rfl rfl) h1
  have b1 := Nat.le_trans b1 (show _ ≤ 1048576 by omega)
  obtain ⟨a1, rfl, l1, w1⟩ := ty_ints y1 g1
  obtain ⟨c2, y2, g2, t2, b2⟩ := rd_top (P := Tryd.prog) (.sl (.int .i64)) (by kernel_rfl) (hval 2 23 v2 rfl rfl) h2
  have b2 := Nat.le_trans b2 (show _ ≤ 1048576 by omega)
  obtain ⟨a2, rfl, l2, w2⟩ := ty_ints y2 g2
  obtain ⟨c3, y3, g3, t3, b3⟩ := rd_top (P := Tryd.prog) (.sl .str) (by kernel_rfl) (hval 3 24 v3 rfl rfl) h3
  have b3 := Nat.le_trans b3 (show _ ≤ 1048576 by omega)
  obtain ⟨a3, rfl, l3, w3⟩ := ty_strs y3 g3
  obtain ⟨c4, y4, g4, t4, b4⟩ := rd_top (P := Tryd.prog) .str (by kernel_rfl) (hval 4 9 v4 rfl rfl) h4
  have b4 := Nat.le_trans b4 (show _ ≤ 1048576 by omega)
  obtain ⟨a4, rfl, w4⟩ := ty_str y4 g4
  obtain ⟨c5, y5, g5, t5, b5⟩ := rd_top (P := Tryd.prog) (.int .i64) (by kernel_rfl) (hval 5 3 v5 rfl rfl) h5
  have b5 := Nat.le_trans b5 (show _ ≤ 1048576 by omega)
  obtain ⟨a5, rfl, w5⟩ := ty_int y5 g5
  obtain ⟨c6, y6, g6, t6, b6⟩ := rd_top (P := Tryd.prog) (.int .u8) (by kernel_rfl) (hval 6 5 v6 rfl rfl) h6
  have b6 := Nat.le_trans b6 (show _ ≤ 1048576 by omega)
  obtain ⟨a6, rfl⟩ := ty_u8 y6 g6
  have h := fits.den (tells_den a0 a1 a2 a3 a4 a5 a6 w1 w2 (by have := blkL_len (a3.map .str); simp only [blk, List.length_map] at b3 this; omega) (inR_of_wf w5) (enc_odd a0 w0 b0))
  refine (h.2 W (prA W) [v0, v1, v2, v3, v4, v5, v6] [] (gs_of_laid hL) (fun _ _ h => h) (by simp) ⟨_, _, rfl, t0, ⟨_, _, rfl, t1, ⟨_, _, rfl, t2, ⟨_, _, rfl, t3, ⟨_, _, rfl, t4, ⟨_, _, rfl, t5, ⟨_, _, rfl, t6, rfl, rfl⟩⟩⟩⟩⟩⟩⟩).mono fun e W' hp => ?_
  cases e with
  | returned v =>
    obtain ⟨pr', k1, k2⟩ := hp
    exact ⟨v, rfl, row_end (s := Rows.scriptTellsSpec) rfl (by kernel_rfl) (by rw [Tryd.params3]; decide) ⟨rfl, rfl, rfl⟩ hW' k1 k2⟩
  | _ => exact hp.elim
theorem scriptTellsUpto_holds : Rows.ScriptTellsUptoSaid :=
  OpenClaim.holds_of_cond 3 Tryd.f3 rfl rfl rfl rfl rfl rfl rfl ⟨rfl, rfl, rfl, rfl, rfl⟩ rfl rfl rfl rfl rfl (by kernel_rfl) Tryd.func3 (by kernel_rfl)
    (of_decide_eq_true (by kernel_rfl)) (by unfold Func.isWrapper; first | (rw [if_pos (by decide +kernel)]; kernel_rfl) | (rw [if_neg (by decide +kernel)]; exact ⟨rfl, rfl⟩))
    (fun os started H enc _ F => by rw [OpenClaim.pre_eq_preRow]; exact scriptTellsUpto_lifted os started H enc F)
theorem scriptTellsUpto_card_holds : Rows.ScriptTellsUptoCardSaid :=
  Claim7.holds_tied_plain_at .later [] _ _ _ _ scriptTellsUpto_holds (fun _ h => by cases h) (by kernel_rfl) (fun _ h => by cases h) scriptTellsUpto_row_tie rfl ⟨rfl, rfl⟩ (by kernel_rfl) rfl
    (fun f fn hf hfn => by
      obtain rfl : f = 3 := Option.some.inj ((show Tryd.prog.funcNamed "collator/collatorlaw04.ScriptTells" = some 3 by kernel_rfl).symm.trans hf) |>.symm
      obtain rfl : fn = Tryd.f3 := (Option.some.inj (Tryd.func3.symm.trans hfn)).symm
      exact ⟨by kernel_rfl, fun j t ht => by
        rw [Tryd.params3] at ht
        have hm : t ∈ [22, 23, 23, 24, 9, 3, 5] := by simpa using Array.mem_of_getElem? ht
        have hall : ([22, 23, 23, 24, 9, 3, 5].all fun u => !Tryd.prog.wantsStandIn u) = true := by kernel_rfl
        exact (show Tryd.prog.wantsStandIn t = false by simpa using List.all_eq_true.1 hall t hm)⟩)
    (by kernel_rfl)
#print axioms scriptTellsUpto_card_holds
end Go.Proofs.YtdcgldhhdajocaaDoor
