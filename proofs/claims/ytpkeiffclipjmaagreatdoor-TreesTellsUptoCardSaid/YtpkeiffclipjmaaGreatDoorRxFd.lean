/-
  Functions told by hand: Read; Check over what check says; the least fault.
-/
import Derived.Test.YtpkeiffclipjmaaGreatDoorRxFc
namespace Go.Proofs.YtpkeiffclipjmaaGreatDoor.Rx
open Go Go.RowKit
set_option maxRecDepth 100000
set_option linter.unusedSimpArgs false
set_option linter.unusedVariables false

theorem read_none (a : Option Addr) (n cap : Nat) (p xp xd : ByteArray) (k : Int) (xb : Bool) (w : World) (hF : Calls Tryz.prog 21 #[.slice a n cap, .string p] w fun e w' => e = .returned (.tuple #[.agg #[.string xp, .int .i64 k, .string xd, .bool xb], .bool false]) ∧ Below w.heap.size w w') :
    Calls Tryz.prog 42 #[.slice a n cap, .string p] w fun e w' => (∃ eb, w.heap.size ≤ eb ∧ e = .returned (.tuple #[.string ⟨#[]⟩, .iface 80 (.pointer (some ⟨eb, 0, none⟩))]) ∧ w'.heap[eb]? = some (.cells #[.string p, .iface 85 (.int .i64 10)] 84 (0, 0))) ∧ Below w.heap.size w w' := by
  have mixed := mixed_
  have hW := fun n W => Er.wrong_ n W
  go_enter Tryz.func42, Tryz.ntmps42
  go_wp2_with (first
    | (go_at_call 21
       refine hF.mono ?_
       rintro e w1 ⟨rfl, hb⟩
       have B1 : Hid (Below _ _ w1) := hb
       clear hb)
    | (go_at_call 44
       refine (hW _ _).mono ?_
       rintro ev w3 ⟨rfl, rfl⟩))
  refine bodyPost_ret (results_tmp2 rfl _ _ _) rfl ?_
  exact ⟨⟨w1.heap.size + 1, by have := B1.out.size; omega, rfl, Er.hNew _ _ (by simp)⟩, (B1.out.alloc B1.out.size _).alloc (by simp; have := B1.out.size; omega) _⟩

theorem read_kind (a : Option Addr) (n cap : Nat) (p xp xd : ByteArray) (k : Int) (xb : Bool) (w : World) (hF : Calls Tryz.prog 21 #[.slice a n cap, .string p] w fun e w' => e = .returned (.tuple #[.agg #[.string xp, .int .i64 k, .string xd, .bool xb], .bool true]) ∧ Below w.heap.size w w') (hk : k ≠ 2) :
    Calls Tryz.prog 42 #[.slice a n cap, .string p] w fun e w' => (∃ eb, w.heap.size ≤ eb ∧ e = .returned (.tuple #[.string ⟨#[]⟩, .iface 80 (.pointer (some ⟨eb, 0, none⟩))]) ∧ w'.heap[eb]? = some (.cells #[.string p, .iface 85 (.int .i64 5)] 84 (0, 0))) ∧ Below w.heap.size w w' := by
  have mixed := mixed_
  have hW := fun n W => Er.wrong_ n W
  have hk' : ¬ k = 2 := hk
  go_enter Tryz.func42, Tryz.ntmps42
  go_wp2_with (first
    | (go_at_call 21
       refine hF.mono ?_
       rintro e w1 ⟨rfl, hb⟩
       have B1 : Hid (Below _ _ w1) := hb
       clear hb)
    | (go_at_call 44
       refine (hW _ _).mono ?_
       rintro ev w3 ⟨rfl, rfl⟩))
  refine bodyPost_ret (results_tmp2 rfl _ _ _) rfl ?_
  exact ⟨⟨w1.heap.size + 1, by have := B1.out.size; omega, rfl, Er.hNew _ _ (by simp)⟩, (B1.out.alloc B1.out.size _).alloc (by simp; have := B1.out.size; omega) _⟩

theorem read_bad (a : Option Addr) (n cap : Nat) (p xp xd : ByteArray) (w : World) (hF : Calls Tryz.prog 21 #[.slice a n cap, .string p] w fun e w' => e = .returned (.tuple #[.agg #[.string xp, .int .i64 2, .string xd, .bool true], .bool true]) ∧ Below w.heap.size w w') :
    Calls Tryz.prog 42 #[.slice a n cap, .string p] w fun e w' => (∃ eb, w.heap.size ≤ eb ∧ e = .returned (.tuple #[.string ⟨#[]⟩, .iface 80 (.pointer (some ⟨eb, 0, none⟩))]) ∧ w'.heap[eb]? = some (.cells #[.string p, .iface 85 (.int .i64 9)] 84 (0, 0))) ∧ Below w.heap.size w w' := by
  have mixed := mixed_
  have hW := fun n W => Er.wrong_ n W
  go_enter Tryz.func42, Tryz.ntmps42
  go_wp2_with (first
    | (go_at_call 21
       refine hF.mono ?_
       rintro e w1 ⟨rfl, hb⟩
       have B1 : Hid (Below _ _ w1) := hb
       clear hb)
    | (go_at_call 44
       refine (hW _ _).mono ?_
       rintro ev w3 ⟨rfl, rfl⟩))
  refine bodyPost_ret (results_tmp2 rfl _ _ _) rfl ?_
  exact ⟨⟨w1.heap.size + 1, by have := B1.out.size; omega, rfl, Er.hNew _ _ (by simp)⟩, (B1.out.alloc B1.out.size _).alloc (by simp; have := B1.out.size; omega) _⟩

theorem read_ok (a : Option Addr) (n cap : Nat) (p xp xd : ByteArray) (w : World) (hF : Calls Tryz.prog 21 #[.slice a n cap, .string p] w fun e w' => e = .returned (.tuple #[.agg #[.string xp, .int .i64 2, .string xd, .bool false], .bool true]) ∧ Below w.heap.size w w') :
    Calls Tryz.prog 42 #[.slice a n cap, .string p] w fun e w' => e = .returned (.tuple #[.string xd, .nilIface]) ∧ Below w.heap.size w w' := by
  have mixed := mixed_
  have hW := fun n W => Er.wrong_ n W
  go_enter Tryz.func42, Tryz.ntmps42
  go_wp2_with (first
    | (go_at_call 21
       refine hF.mono ?_
       rintro e w1 ⟨rfl, hb⟩
       have B1 : Hid (Below _ _ w1) := hb
       clear hb))
  refine bodyPost_ret (results_tmp2 rfl _ _ _) rfl ?_
  exact ⟨rfl, B1.out.alloc B1.out.size _⟩

end Go.Proofs.YtpkeiffclipjmaaGreatDoor.Rx
namespace Go.Proofs.YtpkeiffclipjmaaGreatDoor.Rx
open Go Go.RowKit
set_option maxRecDepth 100000
set_option linter.unusedSimpArgs false
set_option linter.unusedVariables false

theorem field_code (x y : Value) (hy : y.oneCell' = true) (w : World) : (Instr.field 35 (.agg #[x, y]) 1).run Tryz.prog w = .ok y w := by
  have ha := Tryz.isAgg33
  have hz := Tryz.sizeOf33
  simp [Instr.field, run_underlying Tryz.underlying35, asAgg, part, ha, hz, Sem.run_bind, Result.andThen]
theorem Read_err (a : Option Addr) (n cap : Nat) (p : ByteArray) (c : Int) (hc : c ≠ 10) (w : World) (hG : Gs w)
    (hR : Calls Tryz.prog 42 #[.slice a n cap, .string p] w fun e w' => (∃ eb, w.heap.size ≤ eb ∧ e = .returned (.tuple #[.string ⟨#[]⟩, .iface 80 (.pointer (some ⟨eb, 0, none⟩))]) ∧ w'.heap[eb]? = some (.cells #[.string p, .iface 85 (.int .i64 c)] 84 (0, 0))) ∧ Below w.heap.size w w') :
    Calls Tryz.prog 23 #[.slice a n cap, .string p] w fun e w' => e = .returned (.tuple #[.string ⟨#[]⟩, .int .i64 c]) ∧ Below w.heap.size w w' := by
  have mixed := mixed_
  have hW := fun n W => Er.wrong_ n W
  have hf := fun x n W => field_code x (.int .i64 n) rfl W
  have HG : Hid (Gs w) := hG
  have hcf : (c == 10) = false := by simpa using hc
  clear hG hc
  go_enter Tryz.func23, Tryz.ntmps23
  go_wp2_with (first
    | (go_at_call 42
       refine hR.mono ?_
       rintro e w1 ⟨⟨eb, hge, rfl, hh⟩, hb⟩
       have B1 : Hid (Below _ _ w1) := hb
       have hI := Er.Is_at eb c 10 w1 (by rw [Er.cell_heap hh]; rfl)
       have hT := Er.told_at p c eb w1 (HG.out.below hb).eg (by rw [Er.cell_heap hh]; rfl) (by rw [Er.cell_heap hh]; rfl)
       rw [hcf] at hI
       clear hb hh)
    | (go_at_call 44
       refine (hW _ _).mono ?_
       rintro ev w3 ⟨rfl, rfl⟩)
    | (go_at_call 43
       refine hI.mono ?_
       rintro ev w4 ⟨rfl, rfl⟩)
    | (go_at_call 33
       refine hT.mono ?_
       rintro ev w5 ⟨rfl, hb5⟩
       have B5 : Hid (Below _ _ w5) := hb5
       clear hb5))
  refine bodyPost_ret (results_tmp2 rfl _ _ _) rfl ?_
  exact ⟨rfl, B1.out.trans (B5.out.mono B1.out.size)⟩
theorem Read_none (a : Option Addr) (n cap : Nat) (p : ByteArray) (w : World) (hG : Gs w)
    (hR : Calls Tryz.prog 42 #[.slice a n cap, .string p] w fun e w' => (∃ eb, w.heap.size ≤ eb ∧ e = .returned (.tuple #[.string ⟨#[]⟩, .iface 80 (.pointer (some ⟨eb, 0, none⟩))]) ∧ w'.heap[eb]? = some (.cells #[.string p, .iface 85 (.int .i64 10)] 84 (0, 0))) ∧ Below w.heap.size w w') :
    Calls Tryz.prog 23 #[.slice a n cap, .string p] w fun e w' => e = .returned (.tuple #[.string ⟨#[]⟩, .int .i64 10]) ∧ Below w.heap.size w w' := by
  have mixed := mixed_
  have hW := fun n W => Er.wrong_ n W
  have hf := fun x n W => field_code x (.int .i64 n) rfl W
  go_enter Tryz.func23, Tryz.ntmps23
  go_wp2_with (first
    | (go_at_call 42
       refine hR.mono ?_
       rintro e w1 ⟨⟨eb, hge, rfl, hh⟩, hb⟩
       have B1 : Hid (Below _ _ w1) := hb
       have hI := Er.Is_at eb 10 10 w1 (by rw [Er.cell_heap hh]; rfl)
       rw [show ((10 : Int) == 10) = true from rfl] at hI
       clear hb hh)
    | (go_at_call 44
       refine (hW _ _).mono ?_
       rintro ev w3 ⟨rfl, rfl⟩)
    | (go_at_call 43
       refine hI.mono ?_
       rintro ev w4 ⟨rfl, rfl⟩))
  refine bodyPost_ret (results_tmp2 rfl _ _ _) rfl ?_
  exact ⟨rfl, B1.out⟩
theorem Read_ok (a : Option Addr) (n cap : Nat) (p xd : ByteArray) (w : World)
    (hR : Calls Tryz.prog 42 #[.slice a n cap, .string p] w fun e w' => e = .returned (.tuple #[.string xd, .nilIface]) ∧ Below w.heap.size w w') :
    Calls Tryz.prog 23 #[.slice a n cap, .string p] w fun e w' => e = .returned (.tuple #[.string xd, .int .i64 0]) ∧ Below w.heap.size w w' := by
  have mixed := mixed_
  have hW := fun n W => Er.wrong_ n W
  have hf := fun x n W => field_code x (.int .i64 n) rfl W
  go_enter Tryz.func23, Tryz.ntmps23
  go_wp2_with (first
    | (go_at_call 42
       refine hR.mono ?_
       rintro e w1 ⟨rfl, hb⟩
       have B1 : Hid (Below _ _ w1) := hb
       have hI := Er.Is_nil 10 w1
       have hT := Er.told_nil w1
       clear hb)
    | (go_at_call 44
       refine (hW _ _).mono ?_
       rintro ev w3 ⟨rfl, rfl⟩)
    | (go_at_call 43
       refine hI.mono ?_
       rintro ev w4 ⟨rfl, rfl⟩)
    | (go_at_call 33
       refine hT.mono ?_
       rintro ev w5 ⟨rfl, hb5⟩
       have B5 : Hid (Below _ _ w5) := hb5
       clear hb5))
  refine bodyPost_ret (results_tmp2 rfl _ _ _) rfl ?_
  exact ⟨rfl, B1.out.trans (B5.out.mono B1.out.size)⟩
end Go.Proofs.YtpkeiffclipjmaaGreatDoor.Rx
namespace Go.Proofs.YtpkeiffclipjmaaGreatDoor.Rx
open Go Go.RowKit
set_option linter.unusedSimpArgs false
set_option linter.unusedVariables false

def readF (t : List It) (q : List UInt8) : List UInt8 × Int := match findF t q with
  | none => ([], 10)
  | some x => if x.kind ≠ 2 then ([], 5) else if x.bad = true then ([], 9) else (x.data, 0)
theorem Read_call (t : List It) (q : List UInt8) (a : Option Addr) (cap : Nat) (w : World) (hG : Gs w) (hbig : t.length ≤ 9223372036854775807) (hr : ItRow w a t cap) :
    Calls Tryz.prog 23 #[.slice a t.length cap, sV q] w fun e w' => e = .returned (.tuple #[sV (readF t q).1, .int .i64 (readF t q).2]) ∧ Below w.heap.size w w' := by
  have hF := find_call t q a cap w hbig hr
  unfold readF
  cases hf : findF t q with
  | none =>
    rw [hf] at hF
    exact Read_none a t.length cap ⟨q.toArray⟩ w hG (read_none a t.length cap ⟨q.toArray⟩ ⟨#[]⟩ ⟨#[]⟩ 0 false w hF)
  | some x =>
    rw [hf] at hF
    show Calls _ _ _ _ fun e w' => e = .returned (.tuple #[sV (if x.kind ≠ 2 then ([], 5) else if x.bad = true then ([], 9) else (x.data, 0) : List UInt8 × Int).1, .int .i64 (if x.kind ≠ 2 then ([], 5) else if x.bad = true then ([], 9) else (x.data, 0) : List UInt8 × Int).2]) ∧ Below w.heap.size w w'
    by_cases hk : x.kind = 2
    · rw [if_neg (by simp [hk])]
      cases hb : x.bad with
      | true =>
        rw [if_pos rfl]
        refine Read_err a t.length cap ⟨q.toArray⟩ 9 (by decide) w hG (read_bad a t.length cap ⟨q.toArray⟩ ⟨x.path.toArray⟩ ⟨x.data.toArray⟩ w ?_)
        simpa only [findV, vI, encI, hk, hb] using hF
      | false =>
        rw [if_neg (by simp)]
        refine Read_ok a t.length cap ⟨q.toArray⟩ ⟨x.data.toArray⟩ w (read_ok a t.length cap ⟨q.toArray⟩ ⟨x.path.toArray⟩ ⟨x.data.toArray⟩ w ?_)
        simpa only [findV, vI, encI, hk, hb] using hF
    · rw [if_pos hk]
      refine Read_err a t.length cap ⟨q.toArray⟩ 5 (by decide) w hG (read_kind a t.length cap ⟨q.toArray⟩ ⟨x.path.toArray⟩ ⟨x.data.toArray⟩ x.kind x.bad w ?_ hk)
      simpa only [findV, vI, encI] using hF
def readE : List AV → Option AV
  | [.sl 4 l _, .str q] => match itsOf l with
    | some t => if t.length ≤ bigN then some (.tup [.str (readF t q).1, .int .i64 (readF t q).2]) else none
    | none => none
  | _ => none
theorem Read_says (args : List AV) (r : AV) (h : readE args = some r) : Says C4 23 args r := by
  have hen : Enters C4.P 23 := ⟨_, Tryz.func23, by kernel_rfl, by kernel_rfl⟩
  unfold readE at h
  split at h
  · rename_i l pm q
    split at h
    · rename_i t ht
      split at h
      · rename_i hn
        simp only [Option.some.injEq] at h
        obtain rfl := itsOf_eq ht
        subst h
        refine ⟨hen, fun w pr vals bs hG hpr hB hh => ?_⟩
        simp only [HandR] at hh
        obtain ⟨v, vs, rfl, hv, v2, vs2, rfl, hv2, rfl, rfl⟩ := hh
        have hv2 : v2 = .string ⟨q.toArray⟩ := by simpa only [Rd] using hv2
        subst hv2
        obtain ⟨a, cap, rfl, hr⟩ := ItRow.of hpr hv
        refine (Read_call t q a cap w hG (by have : bigN = 1099511627776 := rfl; omega) hr).mono ?_
        rintro e w' ⟨rfl, hb⟩
        refine ⟨pr, Aft.same hb hpr, ?_⟩
        simp only [Rd, RdL]
        exact ⟨_, rfl, _, _, rfl, rfl, _, _, rfl, rfl, rfl⟩
      · simp at h
    · simp at h
  · simp at h
end Go.Proofs.YtpkeiffclipjmaaGreatDoor.Rx
namespace Go.Proofs.YtpkeiffclipjmaaGreatDoor.Rx
open Go Go.RowKit
set_option maxRecDepth 100000
set_option linter.unusedSimpArgs false
set_option linter.unusedVariables false

theorem mkmap_run (w : World) : (Instr.makeMap 87 none).run Tryz.prog w = .ok (.map (some w.heap.size)) (w.alloc (.map #[] 0)) := rfl
theorem mkmap_is (w : World) : MapIs (w.alloc (.map #[] 0)) w.heap.size [] := ⟨#[], 0, Er.hNew w _ rfl, rfl⟩
abbrev limV (l : Lim) : Value := .agg #[.int .i64 l.depth, .int .i64 l.size, .int .i64 l.count]
abbrev chkW (w : World) (l : Lim) : World := (w.alloc (.cells #[.int .i64 l.depth, .int .i64 l.size, .int .i64 l.count] 25)).alloc (.cells #[.string ⟨#[]⟩, .int .i64 0] 35)
/-- What check says, told. -/
theorem Check_by (a : Option Addr) (n cap : Nat) (l : Lim) (x : ByteArray) (c : Int) (w : World)
    (hC : Calls Tryz.prog 34 #[.slice a n cap, limV l] (chkW w l) fun e w' => ∃ ev, e = .returned ev ∧ Below (chkW w l).heap.size (chkW w l) w' ∧ Calls Tryz.prog 33 #[ev] w' fun e' w'' => e' = .returned (.agg #[.string x, .int .i64 c]) ∧ Below w'.heap.size w' w'') :
    Calls Tryz.prog 15 #[.slice a n cap, limV l] w fun e w' => e = .returned (.agg #[.string x, .int .i64 c]) ∧ Below w.heap.size w w' := by
  have mixed := mixed_
  have HS : Hid ((chkW w l).heap.size = w.heap.size + 2) := by show _ = _; simp
  have HN : Hid ((chkW w l).heap[w.heap.size + 1]? = some (.cells #[.string ⟨#[]⟩, .int .i64 0] 35 (0, 0))) := Er.hNew _ _ (by simp)
  have HB : Hid (Below w.heap.size w (chkW w l)) := ((Below.refl _ w).alloc (Nat.le_refl _) _).alloc (by simp) _
  go_enter Tryz.func15, Tryz.ntmps15
  go_wp2_with (first
    | (go_at_call 34
       refine hC.mono ?_
       rintro e w1 ⟨ev, rfl, hb, hT⟩
       have B1 : Hid (Below (chkW w l).heap.size (chkW w l) w1) := hb
       clear hb hC)
    | (go_at_call 33
       refine hT.mono ?_
       rintro ev w5 ⟨rfl, hb5⟩
       have B5 : Hid (Below w1.heap.size w1 w5) := hb5
       have h5 : w5.heap[w.heap.size + 1]? = some (.cells #[.string ⟨#[]⟩, .int .i64 0] 35 (0, 0)) := by
         have h1 := B1.out.size
         have h2 := HS.out
         rw [hb5.block _ (by omega), B1.out.block _ (by omega)]
         exact HN.out
       have H5 : Hid (w5.heap[w.heap.size + 1]? = some (.cells #[.string ⟨#[]⟩, .int .i64 0] 35 (0, 0))) := h5
       have k0 := Er.cell_heap h5 0
       have k1 := Er.cell_heap h5 1
       have z0 := Er.frozen_heap h5 0
       have z1 := Er.frozen_heap h5 1
       simp only [List.getElem?_toArray, List.getElem?_cons_zero, List.getElem?_cons_succ] at k0 k1
       clear hb5 h5 hT))
  have hh : ((w5.setCell ⟨w.heap.size + 1, 0, none⟩ (.string x)).setCell ⟨w.heap.size + 1, 1, none⟩ (.int .i64 c)).heap[w.heap.size + 1]? = some (.cells #[.string x, .int .i64 c] 35 (0, 0)) := Er.heap_set (Er.heap_set H5.out 0 _) 1 _
  refine bodyPost_ret (results_cell_row rfl _ _ (w.heap.size + 1) 35 _ (0, 0) _ rfl hh Tryz.underlying35 rfl (by kernel_rfl)) rfl ?_
  have hb : Below w.heap.size w w5 := (HB.out.trans (B1.out.mono HB.out.size)).trans (B5.out.mono (Nat.le_trans HB.out.size B1.out.size))
  exact ⟨rfl, (hb.setCell (by show _ ≤ w.heap.size + 1; omega) _).setCell (by show _ ≤ w.heap.size + 1; omega) _⟩
end Go.Proofs.YtpkeiffclipjmaaGreatDoor.Rx
namespace Go.Proofs.YtpkeiffclipjmaaGreatDoor.Rx
open Go Go.RowKit
set_option maxRecDepth 100000
set_option linter.unusedSimpArgs false
set_option linter.unusedVariables false

theorem check_many (a : Option Addr) (n cap : Nat) (l : Lim) (w : World) (h : l.count < n) :
    Calls Tryz.prog 34 #[.slice a n cap, limV l] w fun e w' => e = .returned (.iface 85 (.int .i64 8)) ∧ Below w.heap.size w w' := by
  have mixed := mixed_
  have hW := fun n W => Er.wrong_ n W
  have h' : (n : Int) > l.count := h
  go_enter Tryz.func34, Tryz.ntmps34
  go_wp2_with (
    go_at_call 44
    refine (hW _ _).mono ?_
    rintro ev w3 ⟨rfl, rfl⟩)
  go_ret
  exact ⟨rfl, (Below.refl _ w).alloc (Nat.le_refl _) _⟩
end Go.Proofs.YtpkeiffclipjmaaGreatDoor.Rx
namespace Go.Proofs.YtpkeiffclipjmaaGreatDoor.Rx
open Go Go.RowKit
set_option linter.unusedSimpArgs false

/-- The first that has a fault. -/
def firstF (f : List UInt8 → Int) : List (List UInt8) → List UInt8 × Int
  | [] => ([], 0)
  | p :: r => if f p ≠ 0 then (p, f p) else firstF f r
/-- What is told of the least path that has a fault. -/
def MinOf (f : List UInt8 → Int) (S : List UInt8 → Prop) (r : List UInt8 × Int) : Prop :=
  (r = ([], 0) ∧ ∀ p, S p → f p = 0) ∨ (S r.1 ∧ f r.1 ≠ 0 ∧ r.2 = f r.1 ∧ ∀ p, S p → f p ≠ 0 → cmpS r.1 p ≤ 0)
theorem MinOf.uniq {f : List UInt8 → Int} {S : List UInt8 → Prop} {r r' : List UInt8 × Int} (h : MinOf f S r) (h' : MinOf f S r') : r = r' := by
  rcases h with ⟨rfl, h⟩ | ⟨h1, h2, h3, h4⟩
  · rcases h' with ⟨rfl, _⟩ | ⟨h1', h2', _, _⟩
    · rfl
    · exact absurd (h _ h1') h2'
  · rcases h' with ⟨rfl, h'⟩ | ⟨h1', h2', h3', h4'⟩
    · exact absurd (h' _ h1) h2
    · have a := h4 _ h1' h2'
      have b := h4' _ h1 h2
      have c := cmpS_anti r.1 r'.1
      have e : r.1 = r'.1 := cmpS_zero (by omega)
      obtain ⟨r1, r2⟩ := r
      obtain ⟨s1, s2⟩ := r'
      simp only at e h3 h3'
      subst e
      rw [h3, h3']
theorem firstF_min (f : List UInt8 → Int) : ∀ l : List (List UInt8), l.Pairwise (fun a b => cmpS a b ≤ 0) → MinOf f (· ∈ l) (firstF f l)
  | [], _ => .inl ⟨rfl, by simp⟩
  | p :: r, h => by
    rw [List.pairwise_cons] at h
    unfold firstF
    by_cases hp : f p = 0
    · rw [if_neg (by simp [hp])]
      rcases firstF_min f r h.2 with ⟨e, h1⟩ | ⟨h1, h2, h3, h4⟩
      · refine .inl ⟨e, fun q hq => ?_⟩
        rcases List.mem_cons.1 hq with rfl | hq
        · exact hp
        · exact h1 q hq
      · refine .inr ⟨List.mem_cons_of_mem _ h1, h2, h3, fun q hq hf => ?_⟩
        rcases List.mem_cons.1 hq with rfl | hq
        · exact absurd hp hf
        · exact h4 q hq hf
    · rw [if_pos hp]
      refine .inr ⟨List.mem_cons_self, hp, rfl, fun q hq _ => ?_⟩
      rcases List.mem_cons.1 hq with rfl | hq
      · exact Int.le_of_eq (cmpS_self _)
      · exact h.1 q hq
theorem MinOf.congr {f : List UInt8 → Int} {S S' : List UInt8 → Prop} {r : List UInt8 × Int} (h : MinOf f S r) (e : ∀ p, S p ↔ S' p) : MinOf f S' r := by
  rcases h with ⟨h0, h⟩ | ⟨h1, h2, h3, h4⟩
  · exact .inl ⟨h0, fun p hp => h p ((e p).2 hp)⟩
  · exact .inr ⟨(e _).1 h1, h2, h3, fun p hp => h4 p ((e p).2 hp)⟩
theorem cmpS_tr {a b c : List UInt8} (h1 : cmpS a b ≤ 0) (h2 : cmpS b c ≤ 0) : cmpS a c ≤ 0 := by
  by_cases e1 : cmpS a b = 0
  · rw [cmpS_zero e1]; exact h2
  · by_cases e2 : cmpS b c = 0
    · rw [← cmpS_zero e2]; exact h1
    · have := cmpS_trans (a := a) (b := b) (c := c) (by omega) (by omega)
      omega
theorem checkG_min (t : List It) (l : Lim) : ∀ (r done : List It) (path : List UInt8) (code : Int), MinOf (faultF t l) (fun p => p ∈ done.map It.path) (path, code) →
    MinOf (faultF t l) (fun p => p ∈ (done ++ r).map It.path) (checkG t l path code r)
  | [], done, path, code, h => by simpa [checkG] using h
  | x :: r, done, path, code, h => by
    have e : done ++ x :: r = (done ++ [x]) ++ r := by simp
    rw [e]
    unfold checkG
    have hm : ∀ p, p ∈ (done ++ [x]).map It.path ↔ p ∈ done.map It.path ∨ p = x.path := by
      intro p; simp [List.mem_map, eq_comm]
    by_cases hc : faultF t l x.path ≠ 0 ∧ (code = 0 ∨ cmpP x.path path < 0)
    · rw [if_pos hc]
      refine checkG_min t l r (done ++ [x]) _ _ (.inr ⟨(hm _).2 (.inr rfl), hc.1, rfl, fun p hp hf => ?_⟩)
      rcases (hm p).1 hp with hp | rfl
      · rcases h with ⟨_, h⟩ | ⟨h1, h2, h3, h4⟩
        · exact absurd (h p hp) hf
        · have := h4 p hp hf
          rcases hc.2 with hc | hc
          · exact absurd (h3.symm.trans hc) h2
          · rw [cmp_eq] at hc
            exact cmpS_tr (a := x.path) (b := path) (c := p) (Int.le_of_lt hc) this
      · exact Int.le_of_eq (cmpS_self _)
    · rw [if_neg hc]
      refine checkG_min t l r (done ++ [x]) _ _ ?_
      rcases h with ⟨h0, h⟩ | ⟨h1, h2, h3, h4⟩
      · refine .inl ⟨h0, fun p hp => ?_⟩
        rcases (hm p).1 hp with hp | rfl
        · exact h p hp
        · simp only [Prod.mk.injEq] at h0
          by_cases hx : faultF t l x.path = 0
          · exact hx
          · exact absurd ⟨hx, .inl h0.2⟩ hc
      · refine .inr ⟨(hm _).2 (.inl h1), h2, h3, fun p hp hf => ?_⟩
        rcases (hm p).1 hp with hp | rfl
        · exact h4 p hp hf
        · have hn : ¬ cmpP x.path path < 0 := fun hh => hc ⟨hf, .inr hh⟩
          rw [cmp_eq, cmpS_anti path x.path] at hn
          simp only
          omega
/-- The program's own way and the document's. -/
theorem check_first (t : List It) (l : Lim) (s : List (List UInt8)) (hs : s.Pairwise fun a b => cmpS a b ≤ 0) (hm : ∀ p, p ∈ s ↔ p ∈ t.map It.path) : checkG t l [] 0 t = firstF (faultF t l) s := by
  have h1 := checkG_min t l t [] [] 0 (.inl ⟨rfl, by simp⟩)
  rw [List.nil_append] at h1
  exact h1.uniq ((firstF_min (faultF t l) s hs).congr hm)
end Go.Proofs.YtpkeiffclipjmaaGreatDoor.Rx
