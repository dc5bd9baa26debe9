/-
  symMerge in parts.
-/
import Derived.Test.YtpkeiffclipjmaaGreatDoorRxZa
namespace Go.Proofs.YtpkeiffclipjmaaGreatDoor.Rx
open Go Go.RowKit
set_option maxRecDepth 100000
set_option linter.unusedSimpArgs false
set_option linter.unusedVariables false

/-! ### Two rows in order, put together -/
/-- In order, stable. -/
def srt (l : List It) : List It := sortG Q.itS [] l
theorem srt_sorted (l : List It) : (srt l).Pairwise LeI := sortG_sorted l [] .nil
theorem srt_at (l : List It) (p : List UInt8) : atP (srt l) p = atP l p := by unfold srt; rw [sortG_at]; rfl
theorem srt_perm (l : List It) : (srt l).Perm l := by unfold srt; simpa using sortG_perm l []
theorem srt_uniq {X l : List It} (h : X.Pairwise LeI) (k : ∀ p, atP X p = atP l p) : X = srt l := sorted_uniq X (srt l) h (srt_sorted l) (fun p => by rw [k p, srt_at])
theorem srt_len (l : List It) : (srt l).length = l.length := (srt_perm l).length_eq
theorem lt_of_le_lt {a b c : List UInt8} (h1 : cmpS a b ≤ 0) (h2 : cmpS b c < 0) : cmpS a c < 0 := by
  by_cases e : cmpS a b = 0
  · rw [cmpS_zero e]; exact h2
  · exact cmpS_trans (b := b) (by omega) h2
theorem lt_of_lt_le {a b c : List UInt8} (h1 : cmpS a b < 0) (h2 : cmpS b c ≤ 0) : cmpS a c < 0 := by
  by_cases e : cmpS b c = 0
  · rw [← cmpS_zero e]; exact h1
  · exact cmpS_trans (b := b) h1 (by omega)
theorem LeI.of_lt {a b : It} (h : cmpS a.path b.path < 0) : LeI a b := Int.le_of_lt h
theorem atP_swap (U V : List It) (h : ∀ u ∈ U, ∀ v ∈ V, cmpS v.path u.path < 0) (p : List UInt8) : atP U p ++ atP V p = atP V p ++ atP U p := by
  by_cases hU : ∃ u ∈ U, u.path = p
  · obtain ⟨u, hu, hp⟩ := hU
    have : atP V p = [] := by
      unfold atP
      rw [List.filter_eq_nil_iff]
      intro v hv hvp
      have := h u hu v hv
      rw [hp, of_decide_eq_true hvp, cmpS_self] at this
      omega
    rw [this]; simp
  · have : atP U p = [] := by
      unfold atP
      rw [List.filter_eq_nil_iff]
      intro v hv hvp
      exact hU ⟨v, hv, of_decide_eq_true hvp⟩
    rw [this]; simp
theorem plain1 (x : It) (B1 B2 : List It) (hB : (B1 ++ B2).Pairwise LeI) (h1 : ∀ y ∈ B1, cmpS y.path x.path < 0) (h2 : ∀ z ∈ B2, LeI x z) : B1 ++ x :: B2 = srt ([x] ++ (B1 ++ B2)) := by
  rw [List.pairwise_append] at hB
  refine srt_uniq ?_ (fun p => ?_)
  · rw [List.pairwise_append, List.pairwise_cons]
    refine ⟨hB.1, ⟨h2, hB.2.1⟩, fun y hy z hz => ?_⟩
    rcases List.mem_cons.1 hz with rfl | hz
    · exact LeI.of_lt (h1 y hy)
    · exact hB.2.2 y hy z hz
  · have e : x :: B2 = [x] ++ B2 := rfl
    rw [e, atP_app, atP_app, atP_app, atP_app, ← List.append_assoc, ← List.append_assoc, atP_swap [x] B1 (fun u hu v hv => by rw [List.mem_singleton.1 hu]; exact h1 v hv)]
theorem plain2 (y : It) (A1 A2 : List It) (hA : (A1 ++ A2).Pairwise LeI) (h1 : ∀ u ∈ A1, LeI u y) (h2 : ∀ z ∈ A2, cmpS y.path z.path < 0) : A1 ++ y :: A2 = srt ((A1 ++ A2) ++ [y]) := by
  rw [List.pairwise_append] at hA
  refine srt_uniq ?_ (fun p => ?_)
  · rw [List.pairwise_append, List.pairwise_cons]
    refine ⟨hA.1, ⟨fun z hz => LeI.of_lt (h2 z hz), hA.2.1⟩, fun u hu z hz => ?_⟩
    rcases List.mem_cons.1 hz with rfl | hz
    · exact h1 u hu
    · exact hA.2.2 u hu z hz
  · have e : y :: A2 = [y] ++ A2 := rfl
    rw [e, atP_app, atP_app, atP_app, atP_app, List.append_assoc, atP_swap A2 [y] (fun u hu v hv => by rw [List.mem_singleton.1 hv]; exact h2 u hu)]
theorem plain3 (A1 A2 B1 B2 : List It) (hA : (A1 ++ A2).Pairwise LeI) (hB : (B1 ++ B2).Pairwise LeI) (h1 : ∀ u ∈ A2, ∀ v ∈ B1, cmpS v.path u.path < 0) (h2 : ∀ u ∈ A1, ∀ v ∈ B2, LeI u v) :
    srt (A1 ++ B1) ++ srt (A2 ++ B2) = srt ((A1 ++ A2) ++ (B1 ++ B2)) := by
  rw [List.pairwise_append] at hA hB
  refine srt_uniq ?_ (fun p => ?_)
  · rw [List.pairwise_append]
    refine ⟨srt_sorted _, srt_sorted _, fun x hx y hy => ?_⟩
    rcases List.mem_append.1 ((srt_perm _).mem_iff.1 hx) with hx | hx <;> rcases List.mem_append.1 ((srt_perm _).mem_iff.1 hy) with hy | hy
    · exact hA.2.2 x hx y hy
    · exact h2 x hx y hy
    · exact LeI.of_lt (h1 y hy x hx)
    · exact hB.2.2 x hx y hy
  · rw [atP_app, srt_at, srt_at, atP_app, atP_app, atP_app, atP_app, atP_app]
    have := atP_swap A2 B1 h1 p
    rw [List.append_assoc, ← List.append_assoc (atP B1 p), ← this]
    simp
theorem all_lt {B1 : List It} {x : It} (hB : B1.Pairwise LeI) (h : ∀ y, B1.getLast? = some y → cmpS y.path x.path < 0) : ∀ y ∈ B1, cmpS y.path x.path < 0 := by
  intro y hy
  rcases nil_or_last B1 with rfl | ⟨o, z, rfl⟩
  · simp at hy
  · have hz := h z (by simp)
    rcases List.mem_append.1 hy with hy | hy
    · exact lt_of_le_lt ((List.pairwise_append.1 hB).2.2 y hy z (by simp)) hz
    · rw [List.mem_singleton.1 hy]; exact hz
theorem all_ge {B2 : List It} {x : It} (hB : B2.Pairwise LeI) (h : ∀ y, B2.head? = some y → LeI x y) : ∀ y ∈ B2, LeI x y := by
  intro y hy
  cases B2 with
  | nil => simp at hy
  | cons z r =>
    have hz := h z rfl
    rcases List.mem_cons.1 hy with rfl | hy
    · exact hz
    · exact hz.trans ((List.pairwise_cons.1 hB).1 y hy)
theorem all_le {A1 : List It} {y : It} (hA : A1.Pairwise LeI) (h : ∀ u, A1.getLast? = some u → LeI u y) : ∀ u ∈ A1, LeI u y := by
  intro u hu
  rcases nil_or_last A1 with rfl | ⟨o, z, rfl⟩
  · simp at hu
  · have hz := h z (by simp)
    rcases List.mem_append.1 hu with hu | hu
    · exact ((List.pairwise_append.1 hA).2.2 u hu z (by simp)).trans hz
    · rw [List.mem_singleton.1 hu]; exact hz
theorem all_gt {A2 : List It} {y : It} (hA : A2.Pairwise LeI) (h : ∀ z, A2.head? = some z → cmpS y.path z.path < 0) : ∀ z ∈ A2, cmpS y.path z.path < 0 := by
  intro z hz
  cases A2 with
  | nil => simp at hz
  | cons w r =>
    have hw := h w rfl
    rcases List.mem_cons.1 hz with rfl | hz
    · exact hw
    · exact lt_of_lt_le hw ((List.pairwise_cons.1 hA).1 z hz)

namespace Q
/-! ### The code, in parts -/
def M82_0 : ACode := (.seq (.reg [Mo 25 2,
 Mo 26 1,
 Oo 27 (.bin .sub (.t 25) (.t 26)),
 Oo 28 (.bin .eql (.t 27) (.c (.int .i64 1)))] [0, 1, 2, 3, 4, 28])
 (.cond (.t 28) (.seq (.reg [Mo 29 2,
 Mo 10 29] [0, 1, 3, 4, 10])
 (.seq (.reg [Mo 30 3,
 Mo 11 30] [0, 1, 4, 10, 11])
 (.seq (.blk 0 (.loop L82x0))
 (.seq (.seq (.reg [Mo 54 1,
 Mo 13 54] [0, 10, 13])
 (.blk 2 (.loop L82x1)))
 (.ret)))))
 (.skip)))
def M82_1 : ACode := (.seq (.reg [Mo 77 3,
 Mo 78 2,
 Oo 79 (.bin .sub (.t 77) (.t 78)),
 Oo 80 (.bin .eql (.t 79) (.c (.int .i64 1)))] [0, 1, 2, 3, 4, 80])
 (.cond (.t 80) (.seq (.reg [Mo 81 1,
 Mo 14 81] [0, 2, 4, 14])
 (.seq (.reg [Mo 82 2,
 Mo 15 82] [0, 2, 4, 14, 15])
 (.seq (.blk 4 (.loop L82x2))
 (.seq (.seq (.reg [Mo 107 2,
 Mo 17 107] [0, 14, 17])
 (.blk 6 (.loop L82x3)))
 (.ret)))))
 (.skip)))
def M82_2 : ACode := (.reg [Mo 129 1,
 Mo 130 3,
 Oo 131 (.bin .add (.t 129) (.t 130)),
 Oo 132 (.conv (.toInt .u64) (.t 131)),
 Oo 133 (.half (.t 132)),
 Oo 134 (.conv (.toInt .i64) (.t 133)),
 Mo 18 134] [0, 1, 2, 3, 4, 18])
def M82_3 : ACode := (.reg [Mo 135 18,
 Mo 136 2,
 Oo 137 (.bin .add (.t 135) (.t 136)),
 Mo 19 137] [0, 1, 2, 3, 4, 18, 19])
def M82_4 : ACode := (.reg [Oo 20 (.mv (.c (.int .i64 0))),
 Oo 21 (.mv (.c (.int .i64 0)))] [0, 1, 2, 3, 4, 18, 19])
def M82_5 : ACode := (.seq (.reg [Mo 138 2,
 Mo 139 18,
 Oo 140 (.bin .gtr (.t 138) (.t 139))] [0, 1, 2, 3, 4, 18, 19, 140])
 (.cond (.t 140) (.seq (.reg [Mo 141 19,
 Mo 142 3,
 Oo 143 (.bin .sub (.t 141) (.t 142)),
 Mo 20 143] [0, 1, 2, 3, 4, 18, 19, 20])
 (.reg [Mo 144 18,
 Mo 21 144] [0, 1, 2, 3, 4, 18, 19, 20, 21]))
 (.seq (.reg [Mo 145 1,
 Mo 20 145] [0, 1, 2, 3, 4, 18, 19, 20])
 (.reg [Mo 146 2,
 Mo 21 146] [0, 1, 2, 3, 4, 18, 19, 20, 21]))))
def M82_6 : ACode := (.reg [Mo 147 19,
 Oo 148 (.bin .sub (.t 147) (.c (.int .i64 1))),
 Mo 22 148] [0, 1, 2, 3, 4, 18, 19, 20, 21, 22])
def M82_7 : ACode := (.blk 8 (.loop L82x4))
def M82_8 : ACode := (.reg [Mo 175 19,
 Mo 176 20,
 Oo 177 (.bin .sub (.t 175) (.t 176)),
 Mo 24 177] [0, 1, 2, 3, 4, 18, 20, 24])
def M82_9 : ACode := (.seq (.reg [Mo 178 20,
 Mo 179 2,
 Oo 180 (.bin .lss (.t 178) (.t 179)),
 Mo 181 180,
 ⟨(some 182), some (181, true), .mv (.t 2), []⟩,
 ⟨(some 183), some (181, true), .mv (.t 24), []⟩,
 ⟨(some 184), some (181, true), .bin .lss (.t 182) (.t 183), []⟩,
 Oo 185 (.pick (.t 181) (.t 184) (.c (.bool false)))] [0, 1, 2, 3, 4, 18, 20, 24, 185])
 (.cond (.t 185) (.reg [Mo 186 0,
 Mo 187 20,
 Mo 188 2,
 Mo 189 24,
 Mo 190 4,
 Oo 191 (.callr 101 [(.t 186), (.t 187), (.t 188), (.t 189), (.t 190)])] [0, 1, 3, 4, 18, 20, 24])
 (.skip)))
def M82_10 : ACode := (.seq (.reg [Mo 192 1,
 Mo 193 20,
 Oo 194 (.bin .lss (.t 192) (.t 193)),
 Mo 195 194,
 ⟨(some 196), some (195, true), .mv (.t 20), []⟩,
 ⟨(some 197), some (195, true), .mv (.t 18), []⟩,
 ⟨(some 198), some (195, true), .bin .lss (.t 196) (.t 197), []⟩,
 Oo 199 (.pick (.t 195) (.t 198) (.c (.bool false)))] [0, 1, 3, 4, 18, 20, 24, 199])
 (.cond (.t 199) (.reg [Mo 200 0,
 Mo 201 1,
 Mo 202 20,
 Mo 203 18,
 Mo 204 4,
 Oo 205 (.callr 82 [(.t 200), (.t 201), (.t 202), (.t 203), (.t 204)])] [0, 3, 4, 18, 24])
 (.skip)))
def M82_11 : ACode := (.seq (.reg [Mo 206 18,
 Mo 207 24,
 Oo 208 (.bin .lss (.t 206) (.t 207)),
 Mo 209 208,
 ⟨(some 210), some (209, true), .mv (.t 24), []⟩,
 ⟨(some 211), some (209, true), .mv (.t 3), []⟩,
 ⟨(some 212), some (209, true), .bin .lss (.t 210) (.t 211), []⟩,
 Oo 213 (.pick (.t 209) (.t 212) (.c (.bool false)))] [0, 3, 4, 18, 24, 213])
 (.cond (.t 213) (.reg [Mo 214 0,
 Mo 215 18,
 Mo 216 24,
 Mo 217 3,
 Mo 218 4,
 Oo 219 (.callr 82 [(.t 214), (.t 215), (.t 216), (.t 217), (.t 218)])] [])
 (.skip)))
theorem A82_eq : A82 = ⟨5, [], .seq M82_0 (.seq M82_1 (.seq M82_2 (.seq M82_3 (.seq M82_4 (.seq M82_5 (.seq M82_6 (.seq M82_7 (.seq M82_8 (.seq M82_9 (.seq M82_10 M82_11))))))))))⟩ := rfl
theorem seq_nrm {S : Sys} {X Y : ACode} {st st1 : St} (h : RunD S X st = some (.nrm, st1)) : RunD S (.seq X Y) st = RunD S Y st1 := by rw [RunD_seq, h]; rfl
theorem seq_ret {S : Sys} {X Y : ACode} {st st1 : St} (h : RunD S X st = some (.ret, st1)) : RunD S (.seq X Y) st = some (.ret, st1) := by rw [RunD_seq, h]; rfl
/-- A sort's function that ends: what it gives. -/
theorem fin_row {n : Nat} {C C' : List AV} {args : List AV} {ex : Ex} {st : St} (he : ex = .ret ∨ ex = .nrm) (hdf : st.df = none) (hbx : st.bx 100000 = some (0, C')) (hd : deadC C' = false) (hl : C'.length = C.length) (hp : C'.map AV.pubC = C') (ha : refsOut st.bx 1 args = some []) :
    fin (Den Sy) (.row 4 true n C :: args) [] ex st = some (.out false (.tup []) [C']) := by
  rcases he with rfl | rfl <;> simp [handed, hdf, hbx, hd, hl, hp, ha, -deadC]
end Q
end Go.Proofs.YtpkeiffclipjmaaGreatDoor.Rx
namespace Go.Proofs.YtpkeiffclipjmaaGreatDoor.Rx
open Go Go.RowKit
set_option maxRecDepth 100000
set_option linter.unusedSimpArgs false
set_option linter.unusedVariables false

namespace Q
abbrev eN (k : Nat) : AV := .int .i64 (k : Int)
theorem last_at (l : List It) (y : It) (h : l.getLast? = some y) : 0 < l.length ∧ l[l.length - 1]? = some y := by
  rw [List.getLast?_eq_getElem?] at h
  refine ⟨?_, h⟩
  cases l with
  | nil => simp at h
  | cons x l => simp
theorem st0_skip (n a m b : Nat) (bx : Bx) (pm : Pm) (hn : n ≤ 1099511627776) (hm : m ≤ n) (ham : a ≤ m) (h : m - a ≠ 1) :
    RunD Sy M82_0 ⟨ofL [(0, rowA n), (1, eN a), (2, eN m), (3, eN b), (4, .met 37)], bx, pm, none⟩ = some (.nrm, ⟨ofL [(0, rowA n), (1, eN a), (2, eN m), (3, eN b), (4, .met 37), (28, .bool false)], bx, pm, none⟩) := by
  have c := chk_i64 ((m : Int) - a) (by omega)
  have h' : ¬ (m : Int) - a = 1 := by omega
  simp [M82_0, c, h']
theorem st1_skip (n a m b : Nat) (bx : Bx) (pm : Pm) (hn : n ≤ 1099511627776) (hb : b ≤ n) (hmb : m ≤ b) (h : b - m ≠ 1) :
    RunD Sy M82_1 ⟨ofL [(0, rowA n), (1, eN a), (2, eN m), (3, eN b), (4, .met 37), (28, .bool false)], bx, pm, none⟩ = some (.nrm, ⟨ofL [(0, rowA n), (1, eN a), (2, eN m), (3, eN b), (4, .met 37), (80, .bool false)], bx, pm, none⟩) := by
  have c := chk_i64 ((b : Int) - m) (by omega)
  have h' : ¬ (b : Int) - m = 1 := by omega
  simp [M82_1, c, h']
theorem st0_one (n : Nat) (hn : n ≤ 1099511627776) (P B S : List It) (x : It) (hn' : (P ++ [x] ++ B ++ S).length = n) (hs : Sm (P ++ [x] ++ B ++ S)) (hB : B.Pairwise LeI) (bx : Bx) (pm : Pm) (hb : bx 100000 = some (0, cl (P ++ [x] ++ B ++ S))) :
    ∃ st', RunD Sy M82_0 ⟨ofL [(0, rowA n), (1, eN P.length), (2, eN (P.length + 1)), (3, eN (P.length + 1 + B.length)), (4, .met 37)], bx, pm, none⟩ = some (.ret, st') ∧ st'.df = none ∧ st'.bx 100000 = some (0, cl (P ++ srt ([x] ++ B) ++ S)) := by
  have hlen : P.length + 1 + B.length ≤ n := by rw [← hn']; simp; omega
  have hx : (P ++ [x] ++ B ++ S)[P.length]? = some x := by
    have : P ++ [x] ++ B ++ S = P ++ x :: (B ++ S) := by simp
    rw [this]; exact at_mid _ _ _
  obtain ⟨e, k1, k2, k3, k4, k5⟩ := bs0 pm n hn _ hn' hs bx hb P.length x hx _ (P.length + 1) (P.length + 1 + B.length) (Nat.le_refl _) (by omega) hlen
  obtain ⟨B1, B2, rfl, hB1⟩ : ∃ B1 B2, B = B1 ++ B2 ∧ B1.length = e - (P.length + 1) := ⟨B.take (e - (P.length + 1)), B.drop (e - (P.length + 1)), by simp, by simp; omega⟩
  have hBs := List.pairwise_append.1 hB
  have hat : ∀ i, i < (B1 ++ B2).length → (P ++ [x] ++ (B1 ++ B2) ++ S)[P.length + 1 + i]? = (B1 ++ B2)[i]? := fun i hi => by
    have e1 : P ++ [x] ++ (B1 ++ B2) ++ S = (P ++ [x]) ++ ((B1 ++ B2) ++ S) := by simp
    rw [e1, List.getElem?_append_right (by simp), show P.length + 1 + i - (P ++ [x]).length = i by simp, List.getElem?_append_left hi]
  have h1 : ∀ y ∈ B1, cmpS y.path x.path < 0 := all_lt hBs.1 fun y hy => by
    obtain ⟨hp, hy⟩ := last_at _ _ hy
    rcases k3 with rfl | ⟨z, hz, hlt⟩
    · omega
    · have := hat (B1.length - 1) (by simp; omega)
      rw [show P.length + 1 + (B1.length - 1) = e - 1 by omega, hz, List.getElem?_append_left (by omega), hy] at this
      obtain rfl := Option.some.inj this
      exact hlt
  have h2 : ∀ z ∈ B2, LeI x z := all_ge hBs.2.1 fun z hz => by
    have hz' : (B1 ++ B2)[B1.length]? = some z := by
      rw [List.getElem?_append_right (Nat.le_refl _), Nat.sub_self, ← List.head?_eq_getElem?]; exact hz
    have hlt := (List.getElem?_eq_some_iff.1 hz').1
    rcases k4 with rfl | k4
    · omega
    · have := hat B1.length hlt
      rw [show P.length + 1 + B1.length = e by omega, hz'] at this
      exact LeI.of_not (fun hc => k4 ⟨z, this, hc⟩)
  have hpl := plain1 x B1 B2 hB h1 h2
  have e1 : P ++ [x] ++ (B1 ++ B2) ++ S = P ++ x :: B1 ++ (B2 ++ S) := by simp
  obtain ⟨ex, st, hL, rfl, hdf, hbx⟩ := bub1 n hn pm (e : Int) B1 P (B2 ++ S) x bx (P.length : Int) (by rw [← e1]; exact hn'.symm) (by rw [← e1]; exact hb) rfl (by omega)
  have e2 : P ++ B1 ++ x :: (B2 ++ S) = P ++ srt ([x] ++ (B1 ++ B2)) ++ S := by rw [← hpl]; simp
  rw [e2] at hbx
  have c := chk_i64 1 (by omega)
  have c' : chk .i64 (((P.length + 1 : Nat) : Int) - (P.length : Int)) = some (.int .i64 1) := by rw [show ((P.length + 1 : Nat) : Int) - (P.length : Int) = 1 by omega]; exact c
  clear e1 e2 hpl h1 h2 hat
  generalize P.length + 1 + (B1 ++ B2).length = bb at *
  generalize P.length + 1 = mm at *
  generalize P.length = aa at *
  refine ⟨st, ?_, hdf, hbx⟩
  simp [M82_0, c', k5, hL, hdf]
theorem st1_one (n : Nat) (hn : n ≤ 1099511627776) (P A S : List It) (y : It) (hn' : (P ++ A ++ [y] ++ S).length = n) (hs : Sm (P ++ A ++ [y] ++ S)) (hA : A.Pairwise LeI) (bx : Bx) (pm : Pm) (hb : bx 100000 = some (0, cl (P ++ A ++ [y] ++ S))) :
    ∃ st', RunD Sy M82_1 ⟨ofL [(0, rowA n), (1, eN P.length), (2, eN (P ++ A).length), (3, eN ((P ++ A).length + 1)), (4, .met 37), (28, .bool false)], bx, pm, none⟩ = some (.ret, st') ∧ st'.df = none ∧ st'.bx 100000 = some (0, cl (P ++ srt (A ++ [y]) ++ S)) := by
  have hlen : (P ++ A).length + 1 ≤ n := by rw [← hn']; simp; omega
  have hPA : (P ++ A).length = P.length + A.length := by simp
  have hy : (P ++ A ++ [y] ++ S)[(P ++ A).length]? = some y := by
    have : P ++ A ++ [y] ++ S = (P ++ A) ++ y :: S := by simp
    rw [this]; exact at_mid _ _ _
  obtain ⟨e, k1, k2, k3, k4, k5⟩ := bs2 pm n hn _ hn' hs bx hb (P ++ A).length y hy _ P.length (P ++ A).length (Nat.le_refl _) (by omega) (by omega)
  obtain ⟨A1, A2, rfl, hA1⟩ : ∃ A1 A2, A = A1 ++ A2 ∧ A1.length = e - P.length := ⟨A.take (e - P.length), A.drop (e - P.length), by simp, by simp; omega⟩
  have hAs := List.pairwise_append.1 hA
  have hat : ∀ i, i < (A1 ++ A2).length → (P ++ (A1 ++ A2) ++ [y] ++ S)[P.length + i]? = (A1 ++ A2)[i]? := fun i hi => by
    have e1 : P ++ (A1 ++ A2) ++ [y] ++ S = P ++ ((A1 ++ A2) ++ ([y] ++ S)) := by simp
    rw [e1, List.getElem?_append_right (by omega), show P.length + i - P.length = i by omega, List.getElem?_append_left hi]
  have h1 : ∀ u ∈ A1, LeI u y := all_le hAs.1 fun u hu => by
    obtain ⟨hp, hu⟩ := last_at _ _ hu
    rcases k3 with rfl | ⟨z, hz, hlt⟩
    · omega
    · have := hat (A1.length - 1) (by simp; omega)
      rw [show P.length + (A1.length - 1) = e - 1 by omega, hz, List.getElem?_append_left (by omega), hu] at this
      obtain rfl := Option.some.inj this
      exact LeI.of_not hlt
  have h2 : ∀ z ∈ A2, cmpS y.path z.path < 0 := all_gt hAs.2.1 fun z hz => by
    have hz' : (A1 ++ A2)[A1.length]? = some z := by
      rw [List.getElem?_append_right (Nat.le_refl _), Nat.sub_self, ← List.head?_eq_getElem?]; exact hz
    have hlt := (List.getElem?_eq_some_iff.1 hz').1
    rcases k4 with rfl | k4
    · omega
    · have := hat A1.length hlt
      rw [show P.length + A1.length = e by omega, hz'] at this
      exact Classical.not_not.1 (fun hc => k4 ⟨z, this, hc⟩)
  have hpl := plain2 y A1 A2 hA h1 h2
  have e1 : P ++ (A1 ++ A2) ++ [y] ++ S = (P ++ A1) ++ A2 ++ y :: S := by simp
  obtain ⟨ex, st, hL, rfl, hdf, hbx⟩ := bub3 n hn pm A2.length A2 (P ++ A1) S y bx (((P ++ (A1 ++ A2)).length : Nat) : Int) rfl (by rw [← e1]; exact hn'.symm) (by rw [← e1]; exact hb) (by simp; omega)
  have e2 : (P ++ A1) ++ y :: A2 ++ S = P ++ srt ((A1 ++ A2) ++ [y]) ++ S := by rw [← hpl]; simp
  rw [e2] at hbx
  have hle : ((P ++ A1).length : Int) = (e : Int) := by simp; omega
  rw [hle] at hL
  have c := chk_i64 1 (by omega)
  have c' : chk .i64 ((((P ++ (A1 ++ A2)).length + 1 : Nat) : Int) - ((P ++ (A1 ++ A2)).length : Int)) = some (.int .i64 1) := by rw [show (((P ++ (A1 ++ A2)).length + 1 : Nat) : Int) - ((P ++ (A1 ++ A2)).length : Int) = 1 by omega]; exact c
  clear e1 e2 hpl h1 h2 hat hPA
  generalize (P ++ (A1 ++ A2)).length + 1 = bb at *
  generalize (P ++ (A1 ++ A2)).length = mm at *
  generalize P.length = aa at *
  refine ⟨st, ?_, hdf, hbx⟩
  simp [M82_1, c', k5, hL, hdf]

/-! ### The middle -/
/-- Where the search begins and ends. -/
def lo82 (a m b : Nat) : Nat := if (a + b) / 2 < m then (a + b) / 2 + m - b else a
def hi82 (a m b : Nat) : Nat := if (a + b) / 2 < m then (a + b) / 2 else m
theorem st_mid (n a m b : Nat) (bx : Bx) (pm : Pm) (hn : n ≤ 1099511627776) (hb : b ≤ n) (ham : a < m) (hmb : m < b) (e : Nat) (he : e ≤ (a + b) / 2 + m)
    (hL : RunD Sy (.loop L82x4) ⟨ofL [(0, rowA n), (1, eN a), (2, eN m), (3, eN b), (4, .met 37), (18, eN ((a + b) / 2)), (19, eN ((a + b) / 2 + m)), (20, .int .i64 (lo82 a m b : Int)), (21, .int .i64 (hi82 a m b : Int)), (22, .int .i64 (((a + b) / 2 + m - 1 : Nat) : Int))], bx, pm, none⟩ =
      some (.exit 8, ⟨ofL [(0, rowA n), (1, eN a), (2, eN m), (3, eN b), (4, .met 37), (18, eN ((a + b) / 2)), (19, eN ((a + b) / 2 + m)), (20, .int .i64 (e : Int)), (21, .int .i64 (e : Int)), (22, .int .i64 (((a + b) / 2 + m - 1 : Nat) : Int)), (151, .bool false)], bx, pm, none⟩)) (T : ACode) :
    RunD Sy (.seq M82_2 (.seq M82_3 (.seq M82_4 (.seq M82_5 (.seq M82_6 (.seq M82_7 (.seq M82_8 T))))))) ⟨ofL [(0, rowA n), (1, eN a), (2, eN m), (3, eN b), (4, .met 37), (80, .bool false)], bx, pm, none⟩ =
      RunD Sy T ⟨ofL [(0, rowA n), (1, eN a), (2, eN m), (3, eN b), (4, .met 37), (18, eN ((a + b) / 2)), (20, .int .i64 (e : Int)), (24, eN ((a + b) / 2 + m - e))], bx, pm, none⟩ := by
  obtain ⟨mid, hmid⟩ : ∃ mid, mid = (a + b) / 2 := ⟨_, rfl⟩
  rw [← hmid] at hL he ⊢
  have hmb' : mid ≤ n := by omega
  have c1 := chk_i64 ((a : Int) + b) (by omega)
  have c2 := conv_to .u64 .i64 ((a : Int) + b) _ (chk_u64 _ (by omega))
  have hdiv : ((a : Int) + b) / 2 = (mid : Int) := by omega
  have c3 := conv_to .i64 .u64 (mid : Int) _ (chk_i64 _ (by omega))
  have c4 : chk .i64 ((mid : Int) + m) = some (eN (mid + m)) := by rw [show (mid : Int) + m = ((mid + m : Nat) : Int) by omega]; exact chk_i64 _ (by omega)
  have c5 : chk .i64 (((mid + m : Nat) : Int) - 1) = some (eN (mid + m - 1)) := by rw [show ((mid + m : Nat) : Int) - 1 = ((mid + m - 1 : Nat) : Int) by omega]; exact chk_i64 _ (by omega)
  have c6 : chk .i64 (((mid + m : Nat) : Int) - e) = some (eN (mid + m - e)) := by rw [show ((mid + m : Nat) : Int) - e = ((mid + m - e : Nat) : Int) by omega]; exact chk_i64 _ (by omega)
  have c7 : mid < m → chk .i64 (((mid + m : Nat) : Int) - b) = some (eN (lo82 a m b)) := fun h => by
    unfold lo82
    rw [← hmid, if_pos h, show ((mid + m : Nat) : Int) - b = ((mid + m - b : Nat) : Int) by omega]
    exact chk_i64 _ (by omega)
  have d1 : mid < m → hi82 a m b = mid := fun h => by unfold hi82; rw [← hmid, if_pos h]
  have d2 : ¬ mid < m → hi82 a m b = m := fun h => by unfold hi82; rw [← hmid, if_neg h]
  have d3 : ¬ mid < m → lo82 a m b = a := fun h => by unfold lo82; rw [← hmid, if_neg h]
  generalize mid + m - e = ee at *
  generalize mid + m - 1 = pp at *
  generalize mid + m = nn at *
  have s2 : RunD Sy M82_2 ⟨ofL [(0, rowA n), (1, eN a), (2, eN m), (3, eN b), (4, .met 37), (80, .bool false)], bx, pm, none⟩ = some (.nrm, ⟨ofL [(0, rowA n), (1, eN a), (2, eN m), (3, eN b), (4, .met 37), (18, eN mid)], bx, pm, none⟩) := by
    simp [M82_2, c1, c2, hdiv, c3]
  have s3 : RunD Sy M82_3 ⟨ofL [(0, rowA n), (1, eN a), (2, eN m), (3, eN b), (4, .met 37), (18, eN mid)], bx, pm, none⟩ = some (.nrm, ⟨ofL [(0, rowA n), (1, eN a), (2, eN m), (3, eN b), (4, .met 37), (18, eN mid), (19, eN nn)], bx, pm, none⟩) := by
    simp [M82_3, c4]
  have s4 : RunD Sy M82_4 ⟨ofL [(0, rowA n), (1, eN a), (2, eN m), (3, eN b), (4, .met 37), (18, eN mid), (19, eN nn)], bx, pm, none⟩ = some (.nrm, ⟨ofL [(0, rowA n), (1, eN a), (2, eN m), (3, eN b), (4, .met 37), (18, eN mid), (19, eN nn)], bx, pm, none⟩) := by
    simp [M82_4]
  have s5 : RunD Sy M82_5 ⟨ofL [(0, rowA n), (1, eN a), (2, eN m), (3, eN b), (4, .met 37), (18, eN mid), (19, eN nn)], bx, pm, none⟩ = some (.nrm, ⟨ofL [(0, rowA n), (1, eN a), (2, eN m), (3, eN b), (4, .met 37), (18, eN mid), (19, eN nn), (20, eN (lo82 a m b)), (21, eN (hi82 a m b))], bx, pm, none⟩) := by
    by_cases h : mid < m
    · have h' : (mid : Int) < m := by omega
      rw [d1 h]
      simp [M82_5, h', c7 h]
    · have h' : ¬ (mid : Int) < m := by omega
      rw [d2 h, d3 h]
      simp [M82_5, h']
  have s6 : RunD Sy M82_6 ⟨ofL [(0, rowA n), (1, eN a), (2, eN m), (3, eN b), (4, .met 37), (18, eN mid), (19, eN nn), (20, eN (lo82 a m b)), (21, eN (hi82 a m b))], bx, pm, none⟩ = some (.nrm, ⟨ofL [(0, rowA n), (1, eN a), (2, eN m), (3, eN b), (4, .met 37), (18, eN mid), (19, eN nn), (20, eN (lo82 a m b)), (21, eN (hi82 a m b)), (22, eN pp)], bx, pm, none⟩) := by
    simp [M82_6, c5]
  have s7 : RunD Sy M82_7 ⟨ofL [(0, rowA n), (1, eN a), (2, eN m), (3, eN b), (4, .met 37), (18, eN mid), (19, eN nn), (20, eN (lo82 a m b)), (21, eN (hi82 a m b)), (22, eN pp)], bx, pm, none⟩ = some (.nrm, ⟨ofL [(0, rowA n), (1, eN a), (2, eN m), (3, eN b), (4, .met 37), (18, eN mid), (19, eN nn), (20, eN e), (21, eN e), (22, eN pp), (151, .bool false)], bx, pm, none⟩) := by
    unfold M82_7
    rw [RunD_blk, hL]
    rfl
  have s8 : RunD Sy M82_8 ⟨ofL [(0, rowA n), (1, eN a), (2, eN m), (3, eN b), (4, .met 37), (18, eN mid), (19, eN nn), (20, eN e), (21, eN e), (22, eN pp), (151, .bool false)], bx, pm, none⟩ = some (.nrm, ⟨ofL [(0, rowA n), (1, eN a), (2, eN m), (3, eN b), (4, .met 37), (18, eN mid), (20, eN e), (24, eN ee)], bx, pm, none⟩) := by
    simp [M82_8, c6]
  rw [seq_nrm s2, seq_nrm s3, seq_nrm s4, seq_nrm s5, seq_nrm s6, seq_nrm s7, seq_nrm s8]
end Q
end Go.Proofs.YtpkeiffclipjmaaGreatDoor.Rx
