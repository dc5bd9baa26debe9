/-
  ScriptLong: WHATEVER THE INPUT: the law answers true, and its arguments read as they did. Tied: the listed variables are what the program's text lays.
-/
import Derived.Test.YtdcgldhhdajocaaDoorRxP17
import Derived.Test.YtdcgldhhdajocaaDoorRxW
import Derived.Test.YtdcgldhhdajocaaDoorCards
import Derived.Test.YtdcgldhhdajocaaDoorTie
import Derived.SevenTiedAt
namespace Go.Proofs.YtdcgldhhdajocaaDoor
open Go Go.RowKit Go.ChangeShapes Go.WideShapes Go.ChangeAt Rx

set_option maxRecDepth 100000 in
theorem scriptLong_lifted (os : Os) (started : os.Started) (H : Type) (enc : TypeId × Value → H) :
    ReturnsInHanded {} Tryd.checked os 7 .any (fun w args => (Rows.scriptLongSpec.pre enc Tryd.prog Tryd.f7 [] false w args ∧ laidMetH Tryd.prog laidL w) ∧ sizedMet enc Tryd.prog Tryd.f7 (OpenSpec.ofChange Rows.scriptLongSpec) false w args)
      (Rows.scriptLongSpec.post enc Tryd.prog Tryd.f7 false true false false) := by
  refine returnsInHanded_of_change_and (C := Tryd.checked) (X := fun w _ => laidMetH Tryd.prog laidL w) (fun _ _ _ hh h => h.of_heap hh) own_knob started (by kernel_rfl) Tryd.func7
    (ChangeSpec.witness_shaped (enc := enc) (C := Tryd.checked) (os := os) (X := fun w _ => laidMetH Tryd.prog laidL w) false (World.laidAll Tryd.prog os laidL) #[.int .i64 0, .bool false] 8 (World.laidAll_os _ _ _)
      (World.shaped_of_ZipB (by kernel_rfl) (by kernel_rfl)) (by kernel_rfl) (by kernel_rfl) (by kernel_rfl)
      (by rw [MakeChecks.laidMetH_plain _ _ _ (by kernel_rfl)]; exact laidMet_laidAll _ (by kernel_rfl) (by kernel_rfl))) ?_
  intro W base args ds gs before hval0 hW _ _ hL _
  have hval : ∀ (j : Nat) t v, Tryd.f7.params[j]? = some t → args[j]? = some v → Value.okWide Tryd.prog W .any base t v := hval0
  have hW' := hW
  obtain ⟨p, q, hA0, hV, rfl, _, _⟩ := hW
  have hA : DataW.TrodAll enc Tryd.prog W 0 (fun _ => true) true Tryd.f7.params.toList args.toList ds p := hA0
  rw [Tryd.params7] at hA hval
  obtain ⟨v0, v1, d0, d1, p0, p1, rfl, rfl, rfl, h0, h1⟩ := trodAll_two hA
  obtain ⟨rfl, rfl⟩ := trodVars_none hV
  obtain ⟨a0, w0, r0⟩ := rd_int Tryd.underlying3 (hval 0 3 v0 rfl rfl) h0
  obtain ⟨a1, r1⟩ := rd_bool Tryd.underlying4 (hval 1 4 v1 rfl rfl) h1
  have h := fits.den (long_den a0 a1 (inR_of_wf w0) )
  refine (h.2 W (prA W) [v0, v1] [] (gs_of_laid hL) (fun _ _ h => h) (by simp) ⟨_, _, rfl, r0, ⟨_, _, rfl, r1, rfl, rfl⟩⟩).mono fun e W' hp => ?_
  cases e with
  | returned v =>
    obtain ⟨pr', k1, k2⟩ := hp
    exact ⟨v, rfl, row_end rfl (by kernel_rfl) (by rw [Tryd.params7]; decide) ⟨rfl, rfl, rfl⟩ hW' k1 k2⟩
  | _ => exact hp.elim
theorem scriptLong_holds : Rows.ScriptLongSaid :=
  OpenClaim.holds_of_wide 7 Tryd.f7 rfl rfl rfl rfl rfl rfl rfl ⟨rfl, rfl, rfl, rfl, rfl⟩ rfl rfl rfl rfl rfl (by kernel_rfl) Tryd.func7 (by kernel_rfl)
    (of_decide_eq_true (by kernel_rfl)) (by unfold Func.isWrapper; first | (rw [if_pos (by decide +kernel)]; kernel_rfl) | (rw [if_neg (by decide +kernel)]; exact ⟨rfl, rfl⟩))
    (fun os started H enc _ => scriptLong_lifted os started H enc)
theorem scriptLong_card_holds : Rows.ScriptLongCardSaid :=
  Claim7.holds_tied_plain_at .later [] [.data, .data, .data, .sentinel, .sentinel] true (true, "3c85a322f783facccce2aee11daf058617e986dd2fabc9a599b8f94e504f3273") true scriptLong_holds (fun _ h => by cases h) (by kernel_rfl) (fun _ h => by cases h) scriptLong_row_tie rfl ⟨rfl, rfl⟩ (by kernel_rfl) rfl
    (fun f fn hf hfn => by
      obtain rfl : f = 7 := Option.some.inj ((show Tryd.prog.funcNamed "collator/collatorlaw04.ScriptLong" = some 7 by kernel_rfl).symm.trans hf) |>.symm
      obtain rfl : fn = Tryd.f7 := (Option.some.inj (Tryd.func7.symm.trans hfn)).symm
      exact ⟨by kernel_rfl, fun j t ht => by
        rw [Tryd.params7] at ht
        have hm : t ∈ [3, 4] := by simpa using Array.mem_of_getElem? ht
        have hall : ([3, 4].all fun u => !Tryd.prog.wantsStandIn u) = true := by kernel_rfl
        exact (show Tryd.prog.wantsStandIn t = false by simpa using List.all_eq_true.1 hall t hm)⟩)
    (by kernel_rfl)
#print axioms scriptLong_card_holds
end Go.Proofs.YtdcgldhhdajocaaDoor
