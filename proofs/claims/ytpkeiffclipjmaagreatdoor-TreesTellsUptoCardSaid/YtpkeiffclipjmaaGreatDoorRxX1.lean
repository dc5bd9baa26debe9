/-
  How raw items and limits read.
-/
import Derived.Test.YtpkeiffclipjmaaGreatDoorRxY2
namespace Go.Proofs.YtpkeiffclipjmaaGreatDoor.Rx
open Go Go.RowKit Go.ChangeShapes Go.WideShapes

def tRaw : RT := .st [.sl (.int .i64), .int .i64, .str, .int .i64]
/-- What shapes alone say of a raw item; what is not too large for a machine, besides. -/
def Raw.well (x : Raw) : Prop := (∀ c ∈ x.path, inR c) ∧ inR x.kind ∧ inR x.bad
def Raw.fit (x : Raw) : Prop := x.data.length ≤ 140737488355328
theorem Raw.well.ok {x : Raw} (h : x.well) (k : x.fit) : x.ok := ⟨h.1, h.2.1, h.2.2, by unfold Raw.fit at k; omega⟩
theorem ty_raw (x : AV) (h : Ty tRaw x.cells) (hg : x.isAgg = tRaw.isSt) : ∃ e, x = rA e ∧ e.well := by
  cases x with
  | agg cs =>
    simp only [AV.cells, tRaw, Ty, TyL] at h
    obtain ⟨_, _, rfl, ⟨xs, rfl, _, hx⟩, _, _, rfl, ⟨k, rfl, hk⟩, _, _, rfl, ⟨s, rfl, hs⟩, _, _, rfl, ⟨b, rfl, hb⟩, rfl⟩ := h
    obtain ⟨l, rfl, hl⟩ := ty_row (AV.int .i64) (fun c => inR c) (e := .int .i64) (fun x h1 h2 => by obtain ⟨n, rfl, hw⟩ := ty_int h1 h2; exact ⟨n, rfl, inR_of_wf hw⟩) xs hx
    exact ⟨⟨l, k, s, b⟩, rfl, hl, inR_of_wf hk, inR_of_wf hb⟩
  | _ => simp [AV.isAgg, tRaw, RT.isSt] at hg
theorem ty_raws {a : AV} (h : Ty (.sl tRaw) a.cells) (hg : a.isAgg = false) : ∃ l : List Raw, a = sR l ∧ l.length ≤ maxLen ∧ ∀ e ∈ l, e.well := ty_slice rA Raw.well ty_raw h hg
theorem fit_raws {l : List Raw} (h : Fit reachBytes (.sl tRaw) (sR l).cells) : l.length ≤ 2513169434843 ∧ ∀ x ∈ l, x.fit := by
  have hr : reachBytes = 140737488351232 := rfl
  obtain ⟨h1, h2⟩ := (show ∀ k xs p, (sR l).cells = [.sl k xs p] → xs.length * RT.bytes tRaw ≤ reachBytes ∧ ∀ x ∈ xs, Fit reachBytes tRaw x.cells from by simpa only [Fit] using h) 4 (l.map rA) .no rfl
  have hb : RT.bytes tRaw = 56 := rfl
  rw [hb, List.length_map, hr] at h1
  refine ⟨by omega, fun x hx => ?_⟩
  have := h2 (rA x) (List.mem_map_of_mem hx)
  simp only [tRaw, Fit, FitL, rA, AV.cells, RT.size, List.take_succ_cons, List.take_zero, List.drop_succ_cons, List.drop_zero, true_and, and_true] at this
  have h3 := this.2 x.data rfl
  unfold Raw.fit
  omega
theorem ty_ints3 {a : AV} (h : Ty (.st [.int .i64, .int .i64, .int .i64]) a.cells) (hg : a.isAgg = true) : ∃ x y z, a = .agg [.int .i64 x, .int .i64 y, .int .i64 z] ∧ inR x ∧ inR y ∧ inR z := by
  cases a with
  | agg cs =>
    simp only [AV.cells, Ty, TyL] at h
    obtain ⟨_, _, rfl, ⟨x, rfl, hx⟩, _, _, rfl, ⟨y, rfl, hy⟩, _, _, rfl, ⟨z, rfl, hz⟩, rfl⟩ := h
    exact ⟨x, y, z, rfl, inR_of_wf hx, inR_of_wf hy, inR_of_wf hz⟩
  | _ => simp [AV.isAgg] at hg
/-! ### What has so much bulk has so many bytes, at most -/
theorem raws_ok {l : List Raw} (h : ∀ x ∈ l, x.well) (k : ∀ x ∈ l, x.fit) : ∀ x ∈ l, x.ok := fun x hx => (h x hx).ok (k x hx)
end Go.Proofs.YtpkeiffclipjmaaGreatDoor.Rx
