/-
  ScriptSpans: WHATEVER THE INPUT: the law answers true, and its arguments read as they did. Tied: the listed variables are what the program's text lays.
-/
import Derived.Test.YtdcgldhhdajocaaDoorRxP18
import Derived.Test.YtdcgldhhdajocaaDoorRxW
import Derived.Test.YtdcgldhhdajocaaDoorCards
import Derived.Test.YtdcgldhhdajocaaDoorTie
import Derived.SevenTiedAt
namespace Go.Proofs.YtdcgldhhdajocaaDoor
open Go Go.RowKit Go.ChangeShapes Go.WideShapes Go.ChangeAt Rx

set_option maxRecDepth 100000 in
theorem scriptSpans_lifted (os : Os) (started : os.Started) (H : Type) (enc : TypeId × Value → H) :
    ReturnsInHanded {} Tryd.checked os 8 .any (fun w args => (Rows.scriptSpansSpec.pre enc Tryd.prog Tryd.f8 [] false w args ∧ laidMetH Tryd.prog laidL w) ∧ sizedMet enc Tryd.prog Tryd.f8 (OpenSpec.ofChange Rows.scriptSpansSpec) false w args)
      (Rows.scriptSpansSpec.post enc Tryd.prog Tryd.f8 false true false false) := by
  refine returnsInHanded_of_change_and (C := Tryd.checked) (X := fun w _ => laidMetH Tryd.prog laidL w) (fun _ _ _ hh h => h.of_heap hh) own_knob started (by kernel_rfl) Tryd.func8
    (ChangeSpec.witness_shaped (enc := enc) (C := Tryd.checked) (os := os) (X := fun w _ => laidMetH Tryd.prog laidL w) false (World.laidAll Tryd.prog os laidL) #[.slice none 0 0, .slice none 0 0] 8 (World.laidAll_os _ _ _)
      (World.shaped_of_ZipB (by kernel_rfl) (by kernel_rfl)) (by kernel_rfl) (by kernel_rfl) (by kernel_rfl)
      (by rw [MakeChecks.laidMetH_plain _ _ _ (by kernel_rfl)]; exact laidMet_laidAll _ (by kernel_rfl) (by kernel_rfl))) ?_
  intro W base args ds gs before hval0 hW _ _ hL _
  have hval : ∀ (j : Nat) t v, Tryd.f8.params[j]? = some t → args[j]? = some v → Value.okWide Tryd.prog W .any base t v := hval0
  have hW' := hW
  obtain ⟨p, q, hA0, hV, rfl, _, _⟩ := hW
  have hA : DataW.TrodAll enc Tryd.prog W 0 (fun _ => true) true Tryd.f8.params.toList args.toList ds p := hA0
  rw [Tryd.params8] at hA hval
  obtain ⟨v0, v1, d0, d1, p0, p1, rfl, rfl, rfl, h0, h1⟩ := trodAll_two hA
  obtain ⟨rfl, rfl⟩ := trodVars_none hV
  obtain ⟨a0, w0, r0⟩ := rd_ints Tryd.underlying23 Tryd.underlying3 (by kernel_rfl) (hval 0 23 v0 rfl rfl) h0
  obtain ⟨a1, w1, r1⟩ := rd_ints Tryd.underlying23 Tryd.underlying3 (by kernel_rfl) (hval 1 23 v1 rfl rfl) h1
  have h := fits.den (spans_law_den a0 a1 (fun c hc => inR_of_wf (w0 c hc)) (fun c hc => inR_of_wf (w1 c hc)))
  refine (h.2 W (prA W) [v0, v1] [] (gs_of_laid hL) (fun _ _ h => h) (by simp) ⟨_, _, rfl, r0, ⟨_, _, rfl, r1, rfl, rfl⟩⟩).mono fun e W' hp => ?_
  cases e with
  | returned v =>
    obtain ⟨pr', k1, k2⟩ := hp
    exact ⟨v, rfl, row_end rfl (by kernel_rfl) (by rw [Tryd.params8]; decide) ⟨rfl, rfl, rfl⟩ hW' k1 k2⟩
  | _ => exact hp.elim
theorem scriptSpans_holds : Rows.ScriptSpansSaid :=
  OpenClaim.holds_of_wide 8 Tryd.f8 rfl rfl rfl rfl rfl rfl rfl ⟨rfl, rfl, rfl, rfl, rfl⟩ rfl rfl rfl rfl rfl (by kernel_rfl) Tryd.func8 (by kernel_rfl)
    (of_decide_eq_true (by kernel_rfl)) (by unfold Func.isWrapper; first | (rw [if_pos (by decide +kernel)]; kernel_rfl) | (rw [if_neg (by decide +kernel)]; exact ⟨rfl, rfl⟩))
    (fun os started H enc _ => scriptSpans_lifted os started H enc)
theorem scriptSpans_card_holds : Rows.ScriptSpansCardSaid :=
  Claim7.holds_tied_plain_at .later [] [.data, .data, .data, .sentinel, .sentinel] true (true, "3c85a322f783facccce2aee11daf058617e986dd2fabc9a599b8f94e504f3273") true scriptSpans_holds (fun _ h => by cases h) (by kernel_rfl) (fun _ h => by cases h) scriptSpans_row_tie rfl ⟨rfl, rfl⟩ (by kernel_rfl) rfl
    (fun f fn hf hfn => by
      obtain rfl : f = 8 := Option.some.inj ((show Tryd.prog.funcNamed "collator/collatorlaw04.ScriptSpans" = some 8 by kernel_rfl).symm.trans hf) |>.symm
      obtain rfl : fn = Tryd.f8 := (Option.some.inj (Tryd.func8.symm.trans hfn)).symm
      exact ⟨by kernel_rfl, fun j t ht => by
        rw [Tryd.params8] at ht
        have hm : t ∈ [23, 23] := by simpa using Array.mem_of_getElem? ht
        have hall : ([23, 23].all fun u => !Tryd.prog.wantsStandIn u) = true := by kernel_rfl
        exact (show Tryd.prog.wantsStandIn t = false by simpa using List.all_eq_true.1 hall t hm)⟩)
    (by kernel_rfl)
#print axioms scriptSpans_card_holds
end Go.Proofs.YtdcgldhhdajocaaDoor
