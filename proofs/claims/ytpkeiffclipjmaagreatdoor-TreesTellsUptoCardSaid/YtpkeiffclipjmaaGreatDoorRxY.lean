/-
  Rx, part Y: whatever a law is handed, of numbers, bools, texts, slices and structs of these, reads as a plain value.
-/
import Derived.Test.YtpkeiffclipjmaaGreatDoorRxW
import Derived.Deep.Slices
import Derived.OpenShut
namespace Go.Proofs.YtpkeiffclipjmaaGreatDoor.Rx
open Go Go.RowKit Go.Deep
set_option linter.unusedVariables false

theorem add_none (b o n : Nat) : (⟨b, o, none⟩ : Addr).add n = ⟨b, o + n, none⟩ := by
  unfold Addr.add
  split
  · rename_i h; subst h; rfl
  · rfl
/-- The shape of a type. -/
inductive RT where
  | int (k : IntKind)
  | bool
  | str
  | sl (e : RT)
  | st (fs : List RT)
mutual
def RT.size : RT → Nat
  | .st fs => RT.sizeL fs
  | .int _ => 1
  | .bool => 1
  | .str => 1
  | .sl _ => 1
def RT.sizeL : List RT → Nat
  | [] => 0
  | f :: fs => RT.size f + RT.sizeL fs
end
def RT.isSt : RT → Bool
  | .st _ => true
  | _ => false
mutual
/-- A type has a shape. -/
def RT.okB (P : Program) : RT → TypeId → Bool
  | .int k, t => match P.underlying t with | some (.int k') => decide (k' = k) | _ => false
  | .bool, t => match P.underlying t with | some .bool => true | _ => false
  | .str, t => match P.underlying t with | some .string => true | _ => false
  | .sl e, t => match P.underlying t with | some (.slice u) => RT.okB P e u && decide (P.cellsOf u = RT.size e) && decide (0 < RT.size e) | _ => false
  | .st fs, t => match P.underlying t with
    | some (.struct gs) => RT.okS P fs 0 (gs.toList.map fun g => (g.offset, g.type)) && decide (P.cellsOf t = RT.sizeL fs)
    | some (.array n u) => RT.okS P fs 0 ((List.range n).map fun i => (i * P.cellsOf u, u)) && decide (P.cellsOf t = RT.sizeL fs)
    | _ => false
def RT.okS (P : Program) : List RT → Nat → List (Nat × TypeId) → Bool
  | [], _, ps => ps.isEmpty
  | f :: fs, o, ps => match ps with
    | (o', u) :: ps => decide (o' = o) && RT.okB P f u && decide (P.cellsOf u = RT.size f) && RT.okS P fs (o + RT.size f) ps
    | [] => false
end
mutual
/-- Cells of a shape. -/
def Ty : RT → List AV → Prop
  | .int k, al => ∃ n, al = [.int k n] ∧ (Lit.int k n).wf = true
  | .bool, al => ∃ b, al = [.bool b]
  | .str, al => ∃ s, al = [.str s] ∧ s.length ≤ maxLen
  | .sl e, al => ∃ xs, al = [.sl (RT.size e) xs .no] ∧ xs.length ≤ maxLen ∧ ∀ x ∈ xs, Ty e x.cells ∧ x.isAgg = e.isSt
  | .st fs, al => TyL fs al
def TyL : List RT → List AV → Prop
  | [], al => al = []
  | f :: fs, al => ∃ a b, al = a ++ b ∧ Ty f a ∧ TyL fs b
end
mutual
def blk : AV → Nat
  | .str s => s.length + 1
  | .sl _ xs _ => blkL xs + 1
  | .agg cs => blkL cs + 1
  | _ => 1
def blkL : List AV → Nat
  | [] => 0
  | x :: xs => blk x + blkL xs
end
mutual
/-- Bytes of a shape, at least. -/
def RT.bytes : RT → Nat
  | .int .i64 => 8
  | .int _ => 1
  | .bool => 1
  | .str => 16
  | .sl _ => 24
  | .st fs => RT.bytesL fs
def RT.bytesL : List RT → Nat
  | [] => 0
  | f :: fs => RT.bytes f + RT.bytesL fs
end
mutual
/-- A type's elements have as many bytes. -/
def RT.fitB (P : Program) : RT → TypeId → Bool
  | .sl e, t => match P.underlying t with | some (.slice u) => RT.fitB P e u && decide (RT.bytes e ≤ P.bytesOf u) | _ => false
  | .st fs, t => match P.underlying t with
    | some (.struct gs) => RT.fitS P fs (gs.toList.map (·.type))
    | some (.array n u) => RT.fitS P fs ((List.range n).map fun _ => u)
    | _ => false
  | _, _ => true
def RT.fitS (P : Program) : List RT → List TypeId → Bool
  | [], _ => true
  | f :: fs, ts => match ts with
    | u :: ts => RT.fitB P f u && RT.fitS P fs ts
    | [] => false
end
mutual
/-- Texts and rows are of so many bytes at most. -/
def Fit (N : Nat) : RT → List AV → Prop
  | .str, al => ∀ s, al = [.str s] → s.length ≤ N
  | .sl e, al => ∀ k xs p, al = [.sl k xs p] → xs.length * RT.bytes e ≤ N ∧ ∀ x ∈ xs, Fit N e x.cells
  | .st fs, al => FitL N fs al
  | _, _ => True
def FitL (N : Nat) : List RT → List AV → Prop
  | [], _ => True
  | f :: fs, al => Fit N f (al.take f.size) ∧ FitL N fs (al.drop f.size)
end
theorem blkL_app : ∀ a b : List AV, blkL (a ++ b) = blkL a + blkL b
  | [], b => by simp [blkL]
  | x :: a, b => by simp only [List.cons_append, blkL, blkL_app a b]; omega
theorem blkL_mem {x : AV} : ∀ {l : List AV}, x ∈ l → blk x ≤ blkL l
  | y :: l, h => by
    simp only [blkL]
    rcases List.mem_cons.1 h with rfl | h
    · omega
    · have := blkL_mem h; omega
theorem blk_pos (x : AV) : 1 ≤ blk x := by cases x <;> simp [blk]
theorem blkL_len : ∀ l : List AV, l.length ≤ blkL l
  | [] => by simp
  | x :: l => by simp only [List.length_cons, blkL]; have := blk_pos x; have := blkL_len l; omega
theorem upto_pos {H : Type} (d : DataW H) : 1 ≤ Rows.uptoBulk d := by
  cases d with
  | lit l => cases l <;> simp [Rows.uptoBulk]
  | _ => simp [Rows.uptoBulk]

section
variable {H : Type} {enc : TypeId × Value → H} {P : Program} {W : World} {sp : Nat → Bool} {held : Bool}
/-- What is told of cells that are read: plain cells of the shape, as they lie. -/
def Told (P : Program) (W : World) (T : RT) (t : TypeId) (cs : List Value) (d : DataW H) : Prop :=
  ∃ al, Ty T al ∧ RdL W (pubG (prA W)) al cs ∧ (∀ u ∈ cs, u.oneCell' = true) ∧ cs.length = T.size ∧ blkL al + (if T.isSt = true then 1 else 0) ≤ Rows.uptoBulk d ∧ ∀ N, T.fitB P t = true → (∀ w ∈ d.weights P t, w ≤ N) → Fit N T al
theorem weightsAll_mem {e : TypeId} {d : DataW H} {w : Nat} (hw : w ∈ d.weights P e) : ∀ {l : List (DataW H)}, d ∈ l → w ∈ DataW.weightsAll P e l
  | x :: l, h => by
    simp only [DataW.weightsAll, List.mem_append]
    rcases List.mem_cons.1 h with rfl | h
    · exact .inl hw
    · exact .inr (weightsAll_mem hw h)
theorem weightsEach_mem {w : Nat} : ∀ {ts : List TypeId} {ds : List (DataW H)} {i : Nat} {t : TypeId} {d : DataW H}, ts[i]? = some t → ds[i]? = some d → w ∈ d.weights P t → w ∈ DataW.weightsEach P ts ds
  | [], ds, i, t, d, h1, h2, h => by simp at h1
  | t0 :: ts, [], i, t, d, h1, h2, h => by simp at h2
  | t0 :: ts, d0 :: ds, 0, t, d, h1, h2, h => by
    simp only [List.getElem?_cons_zero, Option.some.injEq] at h1 h2
    subst h1 h2
    simp only [DataW.weightsEach, List.mem_append]
    exact .inl h
  | t0 :: ts, d0 :: ds, i + 1, t, d, h1, h2, h => by
    simp only [DataW.weightsEach, List.mem_append]
    exact .inr (weightsEach_mem (i := i) (by simpa using h1) (by simpa using h2) h)
theorem told_elems {n k b o : Nat} {e : RT} {u : TypeId} (hk : k = e.size) (IH : ∀ (cs : List Value) (x : DataW H × List MemPlace), DataW.trod enc P W 0 sp held n u cs = some x → Told P W e u cs x.1) (D : Nat → DataW H) (Pl : Nat → List MemPlace) :
    ∀ (m j : Nat), (∀ i, j ≤ i → i < j + m → ∃ cs', (∀ r, r < k → W.cell? ⟨b, o + (i * k + r), none⟩ = cs'[r]?) ∧ DataW.trod enc P W 0 sp held n u cs' = some (D i, Pl i)) →
      ∃ (xs : List AV) (us : List Value), (∀ x ∈ xs, Ty e x.cells ∧ x.isAgg = e.isSt) ∧ RdL W (pubG (prA W)) xs us ∧ us.length = m ∧ (∀ v ∈ us, v.cells.size = k) ∧ (∀ c ∈ flatV us, c.oneCell' = true) ∧
        (∀ i c, (flatV us)[i]? = some c → W.cell? ⟨b, o + (j * k + i), none⟩ = some c) ∧ blkL xs ≤ Rows.uptoBulkAll ((List.range' j m).map D) ∧ ∀ N, e.fitB P u = true → (∀ i, j ≤ i → i < j + m → ∀ w ∈ (D i).weights P u, w ≤ N) → ∀ x ∈ xs, Fit N e x.cells
  | 0, j, h => ⟨[], [], by simp, by simp [RdL], rfl, by simp, by simp [flatV], by simp [flatV], by simp [blkL], by simp⟩
  | m + 1, j, h => by
    obtain ⟨cs', h1, h2⟩ := h j (Nat.le_refl _) (by omega)
    obtain ⟨a, a1, a2, a3, a4, a5, a6⟩ := IH cs' _ h2
    obtain ⟨xs, us, b1, b2, b3, b4, b5, b6, b7, b8⟩ := told_elems hk IH D Pl m (j + 1) (fun i h1 h2 => h i (by omega) (by omega))
    obtain ⟨x, v, x1, x2, x3, x4, x5, x6⟩ : ∃ x v, Ty e x.cells ∧ x.isAgg = e.isSt ∧ Rd W (pubG (prA W)) x v ∧ v.cells.toList = cs' ∧ blk x ≤ Rows.uptoBulk (D j) ∧ x.cells = a := by
      cases he : e.isSt with
      | true =>
        refine ⟨.agg a, .agg cs'.toArray, a1, rfl, ?_, by simp [Value.cells], ?_, rfl⟩
        · simp only [Rd]
          exact ⟨cs'.toArray, rfl, by simpa using a2, by simpa using a3⟩
        · simp only [he, if_true] at a5
          simpa only [blk] using a5
      | false =>
        have hal := a2.length
        have hs1 : e.size = 1 := by cases e <;> simp [RT.isSt] at he <;> rfl
        have hc1 : cs'.length = 1 := by omega
        obtain ⟨c, rfl⟩ := List.length_eq_one_iff.1 hc1
        obtain ⟨x, rfl⟩ := List.length_eq_one_iff.1 (hal.symm.trans hc1)
        have hcx : x.cells = [x] ∧ x.isAgg = false := by
          cases e with
          | int k => simp only [Ty] at a1; obtain ⟨_, h, _⟩ := a1; simp only [List.cons.injEq, and_true] at h; subst h; exact ⟨rfl, rfl⟩
          | bool => simp only [Ty] at a1; obtain ⟨_, h⟩ := a1; simp only [List.cons.injEq, and_true] at h; subst h; exact ⟨rfl, rfl⟩
          | str => simp only [Ty] at a1; obtain ⟨_, h, _⟩ := a1; simp only [List.cons.injEq, and_true] at h; subst h; exact ⟨rfl, rfl⟩
          | sl e => simp only [Ty] at a1; obtain ⟨_, h, _⟩ := a1; simp only [List.cons.injEq, and_true] at h; subst h; exact ⟨rfl, rfl⟩
          | st fs => simp [RT.isSt] at he
        simp only [RdL] at a2
        obtain ⟨c', us', h3, h4, h5⟩ := a2
        simp only [List.cons.injEq] at h3
        obtain ⟨rfl, rfl⟩ := h3
        refine ⟨x, c, by rw [hcx.1]; exact a1, hcx.2, h4, ?_, ?_, hcx.1⟩
        · have := a3 c (by simp)
          cases c <;> simp [Value.oneCell'] at this <;> simp [Value.cells]
        · simp only [blkL] at a5
          simp only [he] at a5
          simp at a5
          exact a5
    have hvs : v.cells.size = k := by rw [hk, ← a4, ← x4]; simp
    have hfl : flatV (v :: us) = cs' ++ flatV us := by simp [flatV, x4]
    refine ⟨x :: xs, v :: us, ?_, ?_, by simp [b3], ?_, ?_, ?_, ?_, ?_⟩
    · intro y hy
      rcases List.mem_cons.1 hy with rfl | hy
      · exact ⟨x1, x2⟩
      · exact b1 y hy
    · simp only [RdL]; exact ⟨v, us, rfl, x3, b2⟩
    · intro y hy
      rcases List.mem_cons.1 hy with rfl | hy
      · exact hvs
      · exact b4 y hy
    · rw [hfl]
      intro c hc
      rcases List.mem_append.1 hc with h | h
      · exact a3 c h
      · exact b5 c h
    · rw [hfl]
      intro i c hc
      by_cases hi : i < cs'.length
      · rw [List.getElem?_append_left hi] at hc
        rw [h1 i (by omega)]
        exact hc
      · rw [List.getElem?_append_right (by omega)] at hc
        have := b6 _ c hc
        rw [← this]
        congr 2
        have hj : (j + 1) * k = j * k + k := Nat.succ_mul j k
        omega
    · simp only [blkL, List.range'_succ, List.map_cons, Rows.uptoBulkAll]
      omega
    · intro N hfb hw y hy
      rcases List.mem_cons.1 hy with rfl | hy
      · rw [x6]; exact a6 N hfb (hw j (Nat.le_refl _) (by omega))
      · exact b8 N hfb (fun i hi1 hi2 => hw i (by omega) (by omega)) y hy
mutual
theorem told_fields : ∀ (fs : List RT) (n : Nat) (cs : List Value) (o : Nat) (ps : List (Nat × TypeId)) (xs : List (DataW H × List MemPlace)), RT.okS P fs o ps = true → xs.length = ps.length → (∀ (i : Nat) (p : Nat × TypeId), ps[i]? = some p → DataW.trod enc P W 0 sp held n p.2 ((cs.drop p.1).take (P.cellsOf p.2)) = xs[i]?) →
      ∃ al, TyL fs al ∧ RdL W (pubG (prA W)) al ((cs.drop o).take (RT.sizeL fs)) ∧ (∀ u ∈ (cs.drop o).take (RT.sizeL fs), u.oneCell' = true) ∧ ((cs.drop o).take (RT.sizeL fs)).length = RT.sizeL fs ∧ blkL al ≤ Rows.uptoBulkAll (xs.map (·.1)) ∧ ∀ N, RT.fitS P fs (ps.map (·.2)) = true → (∀ (i : Nat) (p : Nat × TypeId) (x : DataW H × List MemPlace), ps[i]? = some p → xs[i]? = some x → ∀ w ∈ x.1.weights P p.2, w ≤ N) → FitL N fs al
  | [], n, cs, o, ps, xs, hok, hl, hx => ⟨[], by simp [TyL], by simp [RT.sizeL, RdL], by simp [RT.sizeL], by simp [RT.sizeL], by simp [blkL], by simp [FitL]⟩
  | f :: fs, n, cs, o, [], xs, hok, hl, hx => by simp [RT.okS] at hok
  | f :: fs, n, cs, o, (o', u) :: ps, [], hok, hl, hx => by simp at hl
  | f :: fs, n, cs, o, (o', u) :: ps, x :: xs, hok, hl, hx => by
    simp only [RT.okS, Bool.and_eq_true, decide_eq_true_eq] at hok
    obtain ⟨⟨⟨rfl, h1⟩, h2⟩, h3⟩ := hok
    have h0 := hx 0 (o', u) rfl
    simp only [h2, List.getElem?_cons_zero] at h0
    obtain ⟨a, a1, a2, a3, a4, a5, a6⟩ := told_all f n u _ x h1 h0
    obtain ⟨b, b1, b2, b3, b4, b5, b6⟩ := told_fields fs n cs (o' + f.size) ps xs h3 (by simpa using hl) (fun i p hp => by simpa using hx (i + 1) p (by simpa using hp))
    have e : (cs.drop o').take (RT.sizeL (f :: fs)) = (cs.drop o').take f.size ++ (cs.drop (o' + f.size)).take (RT.sizeL fs) := by
      simp only [RT.sizeL]
      rw [List.take_add, List.drop_drop]
    rw [e]
    have hal : a.length = f.size := a2.length.symm.trans a4
    refine ⟨a ++ b, ?_, RdL.append a2 b2, ?_, ?_, ?_, ?_⟩
    · simp only [TyL]
      exact ⟨a, b, rfl, a1, b1⟩
    · intro w hw
      rcases List.mem_append.1 hw with h | h
      · exact a3 w h
      · exact b3 w h
    · rw [List.length_append, a4, b4]; simp only [RT.sizeL]
    · rw [blkL_app]
      simp only [List.map_cons, Rows.uptoBulkAll]
      split at a5 <;> omega
    · intro N hfb hw
      simp only [List.map_cons, RT.fitS, Bool.and_eq_true] at hfb
      simp only [FitL]
      rw [← hal, List.take_left', List.drop_left']
      · exact ⟨a6 N hfb.1 (hw 0 (o', u) x rfl rfl), b6 N hfb.2 (fun i p x hp hx => hw (i + 1) p x (by simpa using hp) (by simpa using hx))⟩
      · rfl
      · rfl
theorem told_all : ∀ (T : RT) (n : Nat) (t : TypeId) (cs : List Value) (x : DataW H × List MemPlace), T.okB P t = true → DataW.trod enc P W 0 sp held n t cs = some x → Told P W T t cs x.1
  | .int k, n, t, cs, x, hok, h => by
    simp only [RT.okB] at hok
    split at hok
    · rename_i k' hu
      simp only [decide_eq_true_eq] at hok
      subst hok
      obtain ⟨m, rfl, rfl, hw⟩ := DataW.trod_int hu h
      exact ⟨[.int k' m], by simp only [Ty]; exact ⟨m, rfl, hw⟩, RdL.one (by simp only [Rd]), by simp [Value.oneCell'], by simp [RT.size], by simp [blkL, blk, RT.isSt, Rows.uptoBulk], fun _ _ _ => by simp [Fit]⟩
    · simp at hok
  | .bool, n, t, cs, x, hok, h => by
    simp only [RT.okB] at hok
    split at hok
    · rename_i hu
      obtain ⟨b, rfl, rfl⟩ := DataW.trod_bool hu h
      exact ⟨[.bool b], by simp only [Ty]; exact ⟨b, rfl⟩, RdL.one (by simp only [Rd]), by simp [Value.oneCell'], by simp [RT.size], by simp [blkL, blk, RT.isSt, Rows.uptoBulk], fun _ _ _ => by simp [Fit]⟩
    · simp at hok
  | .str, n, t, cs, x, hok, h => by
    simp only [RT.okB] at hok
    split at hok
    · rename_i hu
      obtain ⟨s, rfl, rfl, hs⟩ := DataW.trod_string hu h
      exact ⟨[.str s.data.toList], by simp only [Ty]; exact ⟨_, rfl, by simpa using hs⟩, RdL.one (by simp only [Rd]), by simp [Value.oneCell'], by simp [RT.size], by simp [blkL, blk, RT.isSt, Rows.uptoBulk], fun N _ hw => by simp only [Fit]; intro s' e; simp only [List.cons.injEq, AV.str.injEq, and_true] at e; subst e; exact hw _ (by simp [DataW.weights])⟩
    · simp at hok
  | .sl e, n, t, cs, x, hok, h => by
    simp only [RT.okB] at hok
    split at hok
    · rename_i u hu
      simp only [Bool.and_eq_true, decide_eq_true_eq] at hok
      obtain ⟨⟨h1, h2⟩, h3⟩ := hok
      rcases open_slice hu h with ⟨rfl, rfl⟩ | ⟨a, len, cap, m, n', D, Pl, rfl, _, hl, hc, hm, rfl, hx⟩
      · refine ⟨[.sl e.size [] .no], by simp only [Ty]; exact ⟨[], rfl, by simp, by simp⟩, RdL.one ?_, by simp [Value.oneCell'], by simp [RT.size], by simp [blkL, blk, RT.isSt, Rows.uptoBulk], fun N _ _ => by simp only [Fit]; intro k' xs' p' e; simp only [List.cons.injEq, AV.sl.injEq, and_true] at e; obtain ⟨_, rfl, _⟩ := e; simp⟩
        simp only [Rd]
        exact ⟨[], by simp [RdL], ⟨none, 0, rfl, by simp, by simp, by simp [flatV], by simp⟩, trivial⟩
      · have hlm : len ≤ m := by rw [hm]; split <;> omega
        rw [h2] at hx
        have IH : ∀ (cs : List Value) (x : DataW H × List MemPlace), DataW.trod enc P W 0 sp held n' u cs = some x → Told P W e u cs x.1 := fun cs x hcx => told_all e n' u cs x h1 hcx
        by_cases h0 : len = 0
        · subst h0
          refine ⟨[.sl e.size [] .no], by simp only [Ty]; exact ⟨[], rfl, by simp, by simp⟩, RdL.one ?_, by simp [Value.oneCell'], by simp [RT.size], by simp [blkL, blk, RT.isSt, Rows.uptoBulk], fun N _ _ => by simp only [Fit]; intro k' xs' p' e; simp only [List.cons.injEq, AV.sl.injEq, and_true] at e; obtain ⟨_, rfl, _⟩ := e; simp⟩
          simp only [Rd]
          exact ⟨[], by simp [RdL], ⟨some a, cap, rfl, by simp, by simp, by simp [flatV], by simp⟩, trivial⟩
        · obtain ⟨c0, hc0, _⟩ := hx 0 (by omega)
          obtain ⟨_, hl0, hg0⟩ := World.cells?_some hc0
          have hz := hg0 0 h3
          have ha : a = ⟨a.block, a.off, none⟩ := by
            have : ∃ v, W.cell? (a.add 0) = some v := by
              have h5 : (a.add (0 * e.size)).add 0 = a.add 0 := by
                obtain ⟨b, o, s⟩ := a
                cases s <;> simp [Addr.add]
              rw [h5] at hz
              exact ⟨_, hz.trans (List.getElem?_eq_getElem (by omega))⟩
            obtain ⟨v, hv⟩ := this
            exact add_zero hv
          have hadd : ∀ i r, (a.add (i * e.size)).add r = ⟨a.block, a.off + (i * e.size + r), none⟩ := by
            intro i r
            rw [ha, add_none, add_none, Nat.add_assoc]
          obtain ⟨xs, us, b1, b2, b3, b4, b5, b6, b7, b8⟩ := told_elems (W := W) (b := a.block) (o := a.off) (k := e.size) (u := u) rfl IH D Pl len 0 (fun i _ hi => by
            obtain ⟨cs', k1, k2⟩ := hx i (by omega)
            obtain ⟨_, k3, k4⟩ := World.cells?_some k1
            exact ⟨cs', fun r hr => by rw [← hadd]; exact k4 r hr, k2⟩)
          have hxl : xs.length = len := by rw [← b2.length, b3]
          refine ⟨[.sl e.size xs .no], by simp only [Ty]; exact ⟨xs, rfl, by omega, b1⟩, RdL.one ?_, by simp [Value.oneCell'], by simp [RT.size], ?_, ?_⟩
          · simp only [Rd]
            refine ⟨us, b2, ⟨some a, cap, by rw [b3], by omega, b4, b5, fun _ => ⟨a.block, a.off, by rw [← ha], fun j c hj => ?_⟩⟩, trivial⟩
            have := b6 j c hj
            rw [Nat.zero_mul, Nat.zero_add] at this
            exact ⟨this, cell_lt (a := ⟨a.block, a.off + j, none⟩) this⟩
          · simp only [blkL, blk, RT.isSt, Rows.uptoBulk]
            rw [List.range_eq_range']
            simp
            omega
          · intro N hfb hw
            simp only [RT.fitB, hu, Bool.and_eq_true, decide_eq_true_eq] at hfb
            simp only [DataW.weights, hu] at hw
            simp only [Fit]
            intro k' xs' p' e
            simp only [List.cons.injEq, AV.sl.injEq, and_true] at e
            obtain ⟨_, rfl, _⟩ := e
            refine ⟨?_, b8 N hfb.1 fun i _ hi w hwi => hw w ?_⟩
            · have h1 := hw _ (List.mem_cons_self ..)
              simp only [List.length_map, List.length_range] at h1
              refine Nat.le_trans ?_ h1
              rw [hxl]
              exact Nat.le_trans (Nat.mul_le_mul_left _ hfb.2) (Nat.mul_le_mul_right _ (Nat.le_add_right _ _))
            · refine List.mem_cons_of_mem _ (List.mem_append_left _ (weightsAll_mem hwi ?_))
              exact List.mem_map_of_mem (List.mem_range.2 (by omega))
    · simp at hok
  | .st fs, n, t, cs, x, hok, h => by
    simp only [RT.okB] at hok
    split at hok
    · rename_i gs hu
      simp only [Bool.and_eq_true, decide_eq_true_eq] at hok
      obtain ⟨h1, h2⟩ := hok
      obtain ⟨xs, n', hn, rfl, hl, hxl, hx⟩ := DataW.trod_struct hu h
      obtain ⟨al, k1, k2, k3, k4, k5, k6⟩ := told_fields fs n' cs 0 _ xs h1 (by simpa using hxl) (fun i p hp => by
        rw [List.getElem?_map] at hp
        obtain ⟨g, hg, rfl⟩ := Option.map_eq_some_iff.1 hp
        exact hx i g (by simpa using hg))
      have hcs : (cs.drop 0).take (RT.sizeL fs) = cs := by rw [List.drop_zero, List.take_of_length_le (by omega)]
      rw [hcs] at k2 k3 k4
      refine ⟨al, by simpa only [Ty] using k1, k2, k3, by simpa only [RT.size] using k4, by simp only [RT.isSt, if_true, Rows.uptoBulk]; omega, fun N hfb hw => ?_⟩
      simp only [RT.fitB, hu] at hfb
      simp only [DataW.weights, hu] at hw
      simp only [Fit]
      refine k6 N (by rw [List.map_map]; exact hfb) fun i p x hp hx' w hwi => hw w ?_
      rw [List.getElem?_map] at hp
      obtain ⟨g, hg, rfl⟩ := Option.map_eq_some_iff.1 hp
      exact weightsEach_mem (i := i) (by rw [List.getElem?_map, hg]; rfl) (by rw [List.getElem?_map, hx']; rfl) hwi
    · rename_i m u hu
      simp only [Bool.and_eq_true, decide_eq_true_eq] at hok
      obtain ⟨h1, h2⟩ := hok
      obtain ⟨xs, n', hn, rfl, hl, hxl, hx⟩ := DataW.trod_array hu h
      obtain ⟨al, k1, k2, k3, k4, k5, k6⟩ := told_fields fs n' cs 0 _ xs h1 (by simpa using hxl) (fun i p hp => by
        rw [List.getElem?_map] at hp
        obtain ⟨g, hg, rfl⟩ := Option.map_eq_some_iff.1 hp
        have hg' : g = i ∧ i < m := by
          have := (List.getElem?_eq_some_iff.1 hg)
          obtain ⟨q1, q2⟩ := this
          simp at q1 q2
          exact ⟨q2.symm, q1⟩
        obtain ⟨rfl, hg2⟩ := hg'
        exact hx g hg2)
      have hcs : (cs.drop 0).take (RT.sizeL fs) = cs := by rw [List.drop_zero, List.take_of_length_le (by omega)]
      rw [hcs] at k2 k3 k4
      refine ⟨al, by simpa only [Ty] using k1, k2, k3, by simpa only [RT.size] using k4, by simp only [RT.isSt, if_true, Rows.uptoBulk]; omega, fun N hfb hw => ?_⟩
      simp only [RT.fitB, hu] at hfb
      simp only [DataW.weights, hu] at hw
      simp only [Fit]
      refine k6 N (by rw [List.map_map]; exact hfb) fun i p x hp hx' w hwi => hw w ?_
      rw [List.getElem?_map] at hp
      obtain ⟨g, hg, rfl⟩ := Option.map_eq_some_iff.1 hp
      exact weightsAll_mem hwi (List.mem_map_of_mem (List.mem_of_getElem? hx'))
    · simp at hok
end
end
end Go.Proofs.YtpkeiffclipjmaaGreatDoor.Rx
