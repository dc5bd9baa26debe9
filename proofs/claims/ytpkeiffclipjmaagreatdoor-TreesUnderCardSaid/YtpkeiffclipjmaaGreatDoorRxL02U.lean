/-
  TreesUnder: WHATEVER THE INPUT: the law answers true, and its arguments read as they did. Tied: the listed variables are what the program's text lays.
-/
import Derived.Test.YtpkeiffclipjmaaGreatDoorRxJu
import Derived.Test.YtpkeiffclipjmaaGreatDoorRxX1
import Derived.Test.YtpkeiffclipjmaaGreatDoorCards
import Derived.Test.YtpkeiffclipjmaaGreatDoorTie
import Derived.SevenTiedAt
namespace Go.Proofs.YtpkeiffclipjmaaGreatDoor
open Go Go.RowKit Go.ChangeShapes Go.WideShapes Go.ChangeAt Rx

set_option linter.unusedVariables false
set_option maxRecDepth 100000 in
theorem treesUnder_reads (os : Os) {H : Type} (enc : TypeId × Value → H) : ∃ places, DataW.whole enc Tryz.prog ((laidW os).forCall (fun _ _ => 0) ⟨#[], #[.slice none 0 0, .slice none 0 0], []⟩).memory Tryz.f9.params.toList (OpenSpec.ofChange Rows.treesUnderSpec).vars false (#[.slice none 0 0, .slice none 0 0] : Array Value).toList 8 = some ([.nil, .nil], [], places) ∧ ∀ k, (OpenSpec.ofChange Rows.treesUnderSpec).cond = some k → k H ([.nil, .nil] ++ []) = true :=
  ⟨[], by kernel_rfl, fun k hk => by cases hk⟩
set_option maxRecDepth 100000 in
theorem treesUnder_lifted (os : Os) (started : os.Started) (H : Type) (enc : TypeId × Value → H) (F : Stop.Interp) :
    ReturnsInHanded {} Tryz.checked os 9 .any ((OpenSpec.ofChange Rows.treesUnderSpec).preRow enc Tryz.prog Tryz.f9 Rows.treesUnderRow.domain false Rows.treesUnderRow.laid) (((OpenSpec.ofChange Rows.treesUnderSpec).at F).post enc Tryz.prog Tryz.f9 false true false false) := by
  obtain ⟨places, hx, hk⟩ := treesUnder_reads os enc
  refine returnsInHanded_of_row (C := Tryz.checked) (s := (OpenSpec.ofChange Rows.treesUnderSpec)) own_knob started (by kernel_rfl) Tryz.func9
    (witness_row_shaped (enc := enc) (C := Tryz.checked) (laidW os) #[.slice none 0 0, .slice none 0 0] (laidW_os os)
      (World.shaped_of_ZipB (by kernel_rfl) (by kernel_rfl)) (by kernel_rfl)
      (OpenSpec.preRow_of_cond 8 hx (by kernel_rfl) hk (by kernel_rfl)
        (laidW_met os _))) ?_
  intro W base args ds gs before hval0 hW _ hcond hsz0 hL0 hSh _
  have hL : laidMetH Tryz.prog laidL W := hL0
  have hval : ∀ (j : Nat) t v, Tryz.f9.params[j]? = some t → args[j]? = some v → Value.okWide Tryz.prog W .any base t v := hval0
  have hW' := hW
  obtain ⟨p, q, hA0, hV, rfl, _, _⟩ := hW
  have hA : DataW.TrodAll enc Tryz.prog W 0 (fun _ => true) true Tryz.f9.params.toList args.toList ds p := hA0
  have hsz : (DataW.weightsEach Tryz.prog (Tryz.f9.params.toList ++ _) (ds ++ gs)).all (· ≤ reachBytes) = true := hsz0
  rw [Tryz.params9] at hA hval hsz
  obtain ⟨v0, vs0, d0, ds0, p0, q0, e0, rfl, rfl, h0, r0⟩ := trodAll_cons hA
  obtain ⟨v1, vs1, d1, ds1, p1, q1, e1, rfl, rfl, h1, r1⟩ := trodAll_cons r0
  obtain ⟨e2, rfl, rfl⟩ := trodAll_nil r1
  obtain rfl : args = #[v0, v1] := by
    subst e2
    subst e1
    exact Array.ext' e0
  obtain ⟨rfl, rfl⟩ := trodVars_none hV
  obtain ⟨c0, y0, g0, t0, b0, f0⟩ := rd_top (P := Tryz.prog) (.sl tRaw) (by kernel_rfl) (hval 0 23 v0 rfl rfl) h0
  obtain ⟨a0, rfl, l0, w0⟩ := ty_raws y0 g0
  have z0 := fit_raws (f0 reachBytes (by kernel_rfl) (fun w hw => of_decide_eq_true (List.all_eq_true.1 hsz w (weightsEach_mem (i := 0) rfl rfl hw))))
  obtain ⟨c1, y1, g1, t1, b1, f1⟩ := rd_top (P := Tryz.prog) (.sl tRaw) (by kernel_rfl) (hval 1 23 v1 rfl rfl) h1
  obtain ⟨a1, rfl, l1, w1⟩ := ty_raws y1 g1
  have z1 := fit_raws (f1 reachBytes (by kernel_rfl) (fun w hw => of_decide_eq_true (List.all_eq_true.1 hsz w (weightsEach_mem (i := 1) rfl rfl hw))))
  have h := fits.den (under_law_den a0 a1 w0 z0.2 w1 z1.2)
  refine (h.2 W (prA W) [v0, v1] [] (gs_of_laid hL hSh) (fun _ _ h => h) (by simp) ⟨_, _, rfl, t0, ⟨_, _, rfl, t1, rfl, rfl⟩⟩).mono fun e W' hp => ?_
  cases e with
  | returned v =>
    obtain ⟨pr', k1, k2⟩ := hp
    exact ⟨v, rfl, row_end (s := Rows.treesUnderSpec) rfl (by kernel_rfl) (by rw [Tryz.params9]; decide) ⟨rfl, rfl, rfl⟩ hW' k1 k2⟩
  | _ => exact hp.elim
theorem treesUnder_holds : Rows.TreesUnderSaid :=
  OpenClaim.holds_of_cond 9 Tryz.f9 rfl rfl rfl rfl rfl rfl rfl ⟨rfl, rfl, rfl, rfl, rfl⟩ rfl rfl rfl rfl rfl (by kernel_rfl) Tryz.func9 (by kernel_rfl)
    (of_decide_eq_true (by kernel_rfl)) (by unfold Func.isWrapper; first | (rw [if_pos (by decide +kernel)]; kernel_rfl) | (rw [if_neg (by decide +kernel)]; exact ⟨rfl, rfl⟩))
    (fun os started H enc _ F => by rw [OpenClaim.pre_eq_preRow]; exact treesUnder_lifted os started H enc F)
theorem treesUnder_card_holds : Rows.TreesUnderCardSaid :=
  Claim7.holds_tied_plain_at .later [] _ _ _ _ treesUnder_holds (fun _ h => by cases h) (by kernel_rfl) (fun _ h => by cases h) treesUnder_row_tie rfl ⟨rfl, rfl⟩ (by kernel_rfl) rfl
    (fun f fn hf hfn => by
      obtain rfl : f = 9 := Option.some.inj ((show Tryz.prog.funcNamed "collator/collatorlaw02.TreesUnder" = some 9 by kernel_rfl).symm.trans hf) |>.symm
      obtain rfl : fn = Tryz.f9 := (Option.some.inj (Tryz.func9.symm.trans hfn)).symm
      exact ⟨by kernel_rfl, fun j t ht => by
        rw [Tryz.params9] at ht
        have hm : t ∈ [23, 23] := by simpa using Array.mem_of_getElem? ht
        have hall : ([23, 23].all fun u => !Tryz.prog.wantsStandIn u) = true := by kernel_rfl
        exact (show Tryz.prog.wantsStandIn t = false by simpa using List.all_eq_true.1 hall t hm)⟩)
    (by kernel_rfl)
#print axioms treesUnder_card_holds
end Go.Proofs.YtpkeiffclipjmaaGreatDoor
