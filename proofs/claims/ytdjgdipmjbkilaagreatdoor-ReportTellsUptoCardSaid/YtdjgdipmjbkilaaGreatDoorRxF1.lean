/-
  Rx, functions that are told by hand, 1: what goes up, and what is told of it.
-/
import Derived.Test.YtdjgdipmjbkilaaGreatDoorRxV
import Derived.Test.YtdjgdipmjbkilaaGreatDoorProg
import Derived.WalkKit
import Derived.WalkLawsBesides
import Derived.Tactics2
import Derived.Recover
namespace Go.Proofs.YtdjgdipmjbkilaaGreatDoor.Rx
open Go Go.RowKit

/-- What goes up. -/
def odS (v : Value) : Prop := v = .iface 133 (.agg #[])

theorem or_trueS (w : World) : Calls Tryz.prog 87 #[.bool true] w fun e w' => e = .returned (.tuple #[]) ∧ w' = w := by
  go_enter Tryz.func87, Tryz.ntmps87
  go_wp2
  exact ⟨rfl, .tuple #[], by simp [results, Tryz.results87], rfl, rfl⟩
theorem or_falseS (w : World) : Calls Tryz.prog 87 #[.bool false] w fun e w' => e = .panicked [{ v := .iface 133 (.agg #[]), recovered := false }] ∧ w' = w := by
  go_enter Tryz.func87, Tryz.ntmps87
  go_wp2
  exact ⟨rfl, rfl, rfl⟩

/-- What goes up. -/
def odR (v : Value) : Prop := v = .iface 75 (.agg #[])

theorem or_trueR (w : World) : Calls Tryz.prog 37 #[.bool true] w fun e w' => e = .returned (.tuple #[]) ∧ w' = w := by
  go_enter Tryz.func37, Tryz.ntmps37
  go_wp2
  exact ⟨rfl, .tuple #[], by simp [results, Tryz.results37], rfl, rfl⟩
theorem or_falseR (w : World) : Calls Tryz.prog 37 #[.bool false] w fun e w' => e = .panicked [{ v := .iface 75 (.agg #[]), recovered := false }] ∧ w' = w := by
  go_enter Tryz.func37, Tryz.ntmps37
  go_wp2
  exact ⟨rfl, rfl, rfl⟩

/-! ### In the plain program's words -/
noncomputable def Cxo (od : Value → Prop) (G : World → Prop) (B : Nat) : Cx := ⟨Tryz.prog, G, B, od⟩
theorem Aft.same {w w' : World} {pr : Nat → Nat → Prop} {Y : Nat → Prop} (h : Below w.heap.size w w') (hp : ∀ b o, pr b o → b < w.heap.size) : Aft w w' pr pr Y :=
  ⟨BelX.of h, fun _ _ h => h, fun _ _ h => .inl h, fun b o p => Nat.lt_of_lt_of_le (hp b o p) h.size⟩

def orF : List AV → Option AV
  | [.bool true] => some (.tup [])
  | [.bool false] => some (.out true .opq [])
  | _ => none
theorem or_saysS (G : World → Prop) (B : Nat) (args : List AV) (r : AV) (h : orF args = some r) : Says (Cxo odS G B) 87 args r := by
  have hen : Enters (Cxo odS G B).P 87 := ⟨_, Tryz.func87, by kernel_rfl, by kernel_rfl⟩
  unfold orF at h
  split at h
  · simp only [Option.some.injEq] at h
    subst h
    refine ⟨hen, fun w pr vals bs hG hpr hB hh => ?_⟩
    simp only [HandR] at hh
    obtain ⟨v, vs, rfl, hv, rfl, rfl⟩ := hh
    simp only [Rd] at hv
    subst hv
    refine (or_trueS w).mono ?_
    rintro e w' ⟨rfl, rfl⟩
    exact ⟨pr, Aft.same (Below.refl _ _) hpr, by simp only [Rd]; exact ⟨#[], rfl, by simp [RdL]⟩⟩
  · simp only [Option.some.injEq] at h
    subst h
    refine ⟨hen, fun w pr vals bs hG hpr hB hh => ?_⟩
    simp only [HandR] at hh
    obtain ⟨v, vs, rfl, hv, rfl, rfl⟩ := hh
    simp only [Rd] at hv
    subst hv
    refine (or_falseS w).mono ?_
    rintro e w' ⟨rfl, rfl⟩
    exact ⟨_, rfl, rfl, pr, Aft.same (Below.refl _ _) hpr, trivial⟩
  · simp at h
theorem or_saysR (G : World → Prop) (B : Nat) (args : List AV) (r : AV) (h : orF args = some r) : Says (Cxo odR G B) 37 args r := by
  have hen : Enters (Cxo odR G B).P 37 := ⟨_, Tryz.func37, by kernel_rfl, by kernel_rfl⟩
  unfold orF at h
  split at h
  · simp only [Option.some.injEq] at h
    subst h
    refine ⟨hen, fun w pr vals bs hG hpr hB hh => ?_⟩
    simp only [HandR] at hh
    obtain ⟨v, vs, rfl, hv, rfl, rfl⟩ := hh
    simp only [Rd] at hv
    subst hv
    refine (or_trueR w).mono ?_
    rintro e w' ⟨rfl, rfl⟩
    exact ⟨pr, Aft.same (Below.refl _ _) hpr, by simp only [Rd]; exact ⟨#[], rfl, by simp [RdL]⟩⟩
  · simp only [Option.some.injEq] at h
    subst h
    refine ⟨hen, fun w pr vals bs hG hpr hB hh => ?_⟩
    simp only [HandR] at hh
    obtain ⟨v, vs, rfl, hv, rfl, rfl⟩ := hh
    simp only [Rd] at hv
    subst hv
    refine (or_falseR w).mono ?_
    rintro e w' ⟨rfl, rfl⟩
    exact ⟨_, rfl, rfl, pr, Aft.same (Below.refl _ _) hpr, trivial⟩
  · simp at h
end Go.Proofs.YtdjgdipmjbkilaaGreatDoor.Rx
