/-
  Rx, the script's functions that are told by hand, 1: what goes up, and what is told of it.
-/
import Derived.Test.YtdcgldhhdajocaaDoorRxV
import Derived.Test.YtdcgldhhdajocaaDoorProg
import Derived.WalkKit
import Derived.WalkLawsBesides
import Derived.Tactics2
import Derived.Recover
namespace Go.Proofs.YtdcgldhhdajocaaDoor.Rx
open Go Go.RowKit

/-- What goes up. -/
def od (v : Value) : Prop := v = .iface 70 (.agg #[])

theorem or_true (w : World) : Calls Tryd.prog 46 #[.bool true] w fun e w' => e = .returned (.tuple #[]) ∧ w' = w := by
  go_enter Tryd.func46, Tryd.ntmps46
  go_wp2
  exact ⟨rfl, .tuple #[], by simp [results, Tryd.results46], rfl, rfl⟩
theorem or_false (w : World) : Calls Tryd.prog 46 #[.bool false] w fun e w' => e = .panicked [{ v := .iface 70 (.agg #[]), recovered := false }] ∧ w' = w := by
  go_enter Tryd.func46, Tryd.ntmps46
  go_wp2
  exact ⟨rfl, rfl, rfl⟩

/-! ### In the plain program's words -/
noncomputable def Cxs (G : World → Prop) (B : Nat) : Cx := ⟨Tryd.prog, G, B, od⟩
theorem Aft.same {w w' : World} {pr : Nat → Nat → Prop} {Y : Nat → Prop} (h : Below w.heap.size w w') (hp : ∀ b o, pr b o → b < w.heap.size) : Aft w w' pr pr Y :=
  ⟨BelX.of h, fun _ _ h => h, fun _ _ h => .inl h, fun b o p => Nat.lt_of_lt_of_le (hp b o p) h.size⟩

def orF : List AV → Option AV
  | [.bool true] => some (.tup [])
  | [.bool false] => some (.out true .opq [])
  | _ => none
theorem or_says (G : World → Prop) (B : Nat) (args : List AV) (r : AV) (h : orF args = some r) : Says (Cxs G B) 46 args r := by
  have hen : Enters (Cxs G B).P 46 := ⟨_, Tryd.func46, by kernel_rfl, by kernel_rfl⟩
  unfold orF at h
  split at h
  · simp only [Option.some.injEq] at h
    subst h
    refine ⟨hen, fun w pr vals bs hG hpr hB hh => ?_⟩
    simp only [HandR] at hh
    obtain ⟨v, vs, rfl, hv, rfl, rfl⟩ := hh
    simp only [Rd] at hv
    subst hv
    refine (or_true w).mono ?_
    rintro e w' ⟨rfl, rfl⟩
    exact ⟨pr, Aft.same (Below.refl _ _) hpr, by simp only [Rd]; exact ⟨#[], rfl, by simp [RdL]⟩⟩
  · simp only [Option.some.injEq] at h
    subst h
    refine ⟨hen, fun w pr vals bs hG hpr hB hh => ?_⟩
    simp only [HandR] at hh
    obtain ⟨v, vs, rfl, hv, rfl, rfl⟩ := hh
    simp only [Rd] at hv
    subst hv
    refine (or_false w).mono ?_
    rintro e w' ⟨rfl, rfl⟩
    exact ⟨_, rfl, rfl, pr, Aft.same (Below.refl _ _) hpr, trivial⟩
  · simp at h
end Go.Proofs.YtdcgldhhdajocaaDoor.Rx
