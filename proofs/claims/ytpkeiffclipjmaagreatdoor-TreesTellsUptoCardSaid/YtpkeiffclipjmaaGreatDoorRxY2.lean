/-
  Rx, part Y2: a law's arguments, each read as a plain value; an input that fits a row.
-/
import Derived.Test.YtpkeiffclipjmaaGreatDoorRxY
import Derived.Deep.DeepHandedRow
namespace Go.Proofs.YtpkeiffclipjmaaGreatDoor.Rx
open Go Go.RowKit Go.Deep Go.ChangeShapes Go.WideShapes

section
variable {H : Type} {enc : TypeId × Value → H} {P : Program} {W : World} {sp : Nat → Bool} {held : Bool}
theorem one_cell_of {v : Value} (h : ∀ cs, v ≠ .agg cs) : v.cells.toList = [v] := by cases v <;> first | rfl | exact absurd rfl (h _)
theorem ty_one {T : RT} {al : List AV} (hs : T.isSt = false) (h : Ty T al) : ∃ a, al = [a] ∧ a.cells = [a] ∧ a.isAgg = false := by
  cases T with
  | int k => simp only [Ty] at h; obtain ⟨_, rfl, _⟩ := h; exact ⟨_, rfl, rfl, rfl⟩
  | bool => simp only [Ty] at h; obtain ⟨_, rfl⟩ := h; exact ⟨_, rfl, rfl, rfl⟩
  | str => simp only [Ty] at h; obtain ⟨_, rfl, _⟩ := h; exact ⟨_, rfl, rfl, rfl⟩
  | sl e => simp only [Ty] at h; obtain ⟨_, rfl, _⟩ := h; exact ⟨_, rfl, rfl, rfl⟩
  | st fs => simp [RT.isSt] at hs
/-- A whole argument. -/
theorem rd_top (T : RT) {t : TypeId} {b0 : Nat} {v : Value} {d : DataW H} {p : List MemPlace} (hok : T.okB P t = true) (hv : Value.okWide P W .any b0 t v) (h : DataW.Trod enc P W 0 sp held t v d p) :
    ∃ a, Ty T a.cells ∧ a.isAgg = T.isSt ∧ Rd W (pubG (prA W)) a v ∧ blk a ≤ Rows.uptoBulk d ∧ ∀ N, T.fitB P t = true → (∀ w ∈ d.weights P t, w ≤ N) → Fit N T a.cells := by
  obtain ⟨n, hn⟩ := h
  obtain ⟨al, h1, h2, h3, h4, h5, h0⟩ := told_all T n t _ (d, p) hok hn
  cases hs : T.isSt with
  | true =>
    have hag : ∃ cs, v = .agg cs := by
      cases T with
      | st fs =>
        simp only [RT.okB] at hok
        unfold Value.okWide at hv
        split at hok
        · rename_i gs hu
          rw [hu] at hv
          obtain ⟨cs, e, _⟩ := hv
          exact ⟨cs, e⟩
        · rename_i m u hu
          rw [hu] at hv
          obtain ⟨cs, e, _⟩ := hv
          exact ⟨cs, e⟩
        · simp at hok
      | _ => simp [RT.isSt] at hs
    obtain ⟨cs, rfl⟩ := hag
    simp only [Value.cells] at h2 h3
    refine ⟨.agg al, h1, rfl, ?_, ?_, h0⟩
    · simp only [Rd]
      exact ⟨cs, rfl, h2, h3⟩
    · simp only [hs, if_true] at h5
      simpa only [blk] using h5
  | false =>
    obtain ⟨a, rfl, ha1, ha2⟩ := ty_one hs h1
    have hne : ∀ cs, v ≠ .agg cs := by
      rintro cs rfl
      cases T with
      | int k => simp only [RT.okB] at hok; split at hok; · rename_i hu; obtain ⟨_, e⟩ := okWide_int hu hv; cases e
                 · simp at hok
      | bool => simp only [RT.okB] at hok; split at hok; · rename_i hu; obtain ⟨_, e⟩ := okWide_bool hu hv; cases e
                · simp at hok
      | str => simp only [RT.okB] at hok; split at hok; · rename_i hu; obtain ⟨_, e⟩ := okWide_string hu hv; cases e
               · simp at hok
      | sl e => simp only [RT.okB] at hok; split at hok; · rename_i hu; obtain ⟨_, _, _, e⟩ := okWide_slice hu hv; cases e
                · simp at hok
      | st fs => simp [RT.isSt] at hs
    rw [one_cell_of hne] at h2
    simp only [RdL] at h2
    obtain ⟨u, us, e, h6, rfl⟩ := h2
    simp only [List.cons.injEq, and_true] at e
    subst e
    refine ⟨a, by rw [ha1]; exact h1, ha2, h6, ?_, by rw [ha1]; exact h0⟩
    simp only [hs, blkL] at h5
    simp at h5
    exact h5
/-- There is an input that fits. -/
theorem witness_row_shaped {C : Checked} {os : Os} {f : FuncId} {fn : Func} {s : OpenSpec} {conds : List PathCond} {apart : Bool} {laid : List (String × DataW Unit)} (w0 : World) (args : Array Value) (hos : w0.os = os)
    (hsh : (w0.forCall (fun _ _ => 0) ⟨#[], args, []⟩).Shaped C.prog)
    (hok : Input.okWideB C.prog (w0.forCall (fun _ _ => 0) ⟨#[], args, []⟩) f ⟨#[], args, []⟩ = true)
    (hrow : s.preRow enc C.prog fn conds apart laid (w0.forCall (fun _ _ => 0) ⟨#[], args, []⟩).memory args) :
    ∃ (w : World) (tape : Tape) (i : Input), w.os = os ∧ (w.forCall tape i).Shaped C.prog ∧ i.vars = [] ∧ Input.okWide C.prog (w.forCall tape i) .any w.heap.size f i ∧
      s.preRow enc C.prog fn conds apart laid (w.forCall tape i).memory i.args ∧ ({ modest := false } : Assume).holds C.prog (lone (Frame.enter C.prog f i.args .normal) [] (w.forCall tape i)) :=
  ⟨w0, fun _ _ => 0, ⟨#[], args, []⟩, hos, hsh, (Input.okWide_of_okWideB (base := 0) hok).1, (Input.okWide_of_okWideB hok).2, hrow, by
    simp only [Assume.holds]
    exact ⟨by simp, by simp, fun _ => Modest.zero, by simp, by simp⟩⟩
end

/-! ### What a shape's cells are -/
theorem ty_int {k : IntKind} {a : AV} (h : Ty (.int k) a.cells) (hg : a.isAgg = false) : ∃ n, a = .int k n ∧ (Lit.int k n).wf = true := by
  simp only [Ty] at h
  obtain ⟨n, e, hw⟩ := h
  cases a with
  | agg cs => simp [AV.isAgg] at hg
  | _ => simp only [AV.cells, List.cons.injEq, and_true] at e; exact ⟨n, e, hw⟩
theorem ty_bool {a : AV} (h : Ty .bool a.cells) (hg : a.isAgg = false) : ∃ b, a = .bool b := by
  simp only [Ty] at h
  obtain ⟨n, e⟩ := h
  cases a with
  | agg cs => simp [AV.isAgg] at hg
  | _ => simp only [AV.cells, List.cons.injEq, and_true] at e; exact ⟨n, e⟩
theorem ty_str {a : AV} (h : Ty .str a.cells) (hg : a.isAgg = false) : ∃ s, a = .str s ∧ s.length ≤ maxLen := by
  simp only [Ty] at h
  obtain ⟨n, e, hw⟩ := h
  cases a with
  | agg cs => simp [AV.isAgg] at hg
  | _ => simp only [AV.cells, List.cons.injEq, and_true] at e; exact ⟨n, e, hw⟩
/-- Elements, each read as a plain one. -/
theorem ty_row {α : Type} (enc : α → AV) (good : α → Prop) {e : RT} (H : ∀ x : AV, Ty e x.cells → x.isAgg = e.isSt → ∃ a, x = enc a ∧ good a) : ∀ (xs : List AV), (∀ x ∈ xs, Ty e x.cells ∧ x.isAgg = e.isSt) → ∃ l : List α, xs = l.map enc ∧ ∀ a ∈ l, good a
  | [], _ => ⟨[], rfl, by simp⟩
  | x :: xs, h => by
    obtain ⟨a, rfl, ha⟩ := H x (h x (by simp)).1 (h x (by simp)).2
    obtain ⟨l, rfl, hl⟩ := ty_row enc good H xs (fun y hy => h y (List.mem_cons_of_mem _ hy))
    exact ⟨a :: l, rfl, fun b hb => (List.mem_cons.1 hb).elim (fun e => e ▸ ha) (hl b)⟩
theorem ty_slice {α : Type} (enc : α → AV) (good : α → Prop) {e : RT} (H : ∀ x : AV, Ty e x.cells → x.isAgg = e.isSt → ∃ a, x = enc a ∧ good a) {a : AV} (h : Ty (.sl e) a.cells) (hg : a.isAgg = false) : ∃ l : List α, a = .sl e.size (l.map enc) .no ∧ l.length ≤ maxLen ∧ ∀ x ∈ l, good x := by
  simp only [Ty] at h
  obtain ⟨xs, e', hw, hx⟩ := h
  obtain ⟨l, rfl, hl⟩ := ty_row enc good H xs hx
  cases a with
  | agg cs => simp [AV.isAgg] at hg
  | _ => simp only [AV.cells, List.cons.injEq, and_true] at e'; exact ⟨l, e', by simpa using hw, hl⟩
theorem ty_ints {a : AV} (h : Ty (.sl (.int .i64)) a.cells) (hg : a.isAgg = false) : ∃ raw : List Int, a = .sl 1 (raw.map (.int .i64)) .no ∧ raw.length ≤ maxLen ∧ ∀ c ∈ raw, -9223372036854775808 ≤ c ∧ c ≤ 9223372036854775807 :=
  ty_slice (AV.int .i64) (fun c => -9223372036854775808 ≤ c ∧ c ≤ 9223372036854775807) (e := .int .i64) (fun x h1 h2 => by obtain ⟨n, rfl, hw⟩ := ty_int h1 h2; exact ⟨n, rfl, inR_of_wf hw⟩) h hg
theorem ty_strs {a : AV} (h : Ty (.sl .str) a.cells) (hg : a.isAgg = false) : ∃ l : List (List UInt8), a = .sl 1 (l.map .str) .no ∧ l.length ≤ maxLen ∧ ∀ c ∈ l, c.length ≤ maxLen :=
  ty_slice AV.str (fun c => c.length ≤ maxLen) (e := .str) (fun x h1 h2 => by obtain ⟨n, rfl, hw⟩ := ty_str h1 h2; exact ⟨n, rfl, hw⟩) h hg
theorem ty_u8 {a : AV} (h : Ty (.int .u8) a.cells) (hg : a.isAgg = false) : ∃ c : UInt8, a = .int .u8 c.toNat := by
  obtain ⟨n, rfl, hw⟩ := ty_int h hg
  simp [Lit.wf, IntKind.min, IntKind.max, IntKind.signed, IntKind.bits] at hw
  refine ⟨UInt8.ofNat n.toNat, ?_⟩
  congr 1
  rw [UInt8.toNat_ofNat']
  omega
end Go.Proofs.YtpkeiffclipjmaaGreatDoor.Rx
