/-
  Rx, part O: each plain operation is what the machine's operation does: those that leave memory alone.
-/
import Derived.Test.YtpkeiffclipjmaaGreatDoorRxM
import Derived.Test.YtpkeiffclipjmaaGreatDoorRxK
import Derived.Deep.MidRow
import Derived.Laws.Slices
import Derived.Laws.Strings
import Derived.Laws.BytesArg
import Derived.WalkKit
namespace Go.Proofs.YtpkeiffclipjmaaGreatDoor.Rx
open Go Go.RowKit

def EnvR (e : Env) (a : Act) (w : World) (g : Gh) : Prop := ∀ i x, e i = some x → ∃ u, a.tmps[i]? = some u ∧ Rd w g x u

section
variable {P : Program} {w : World} {g : Gh} {e : Env} {a : Act}

theorem cst1_rd {t : TypeId} {v : Value} {x : AV} (h : cst1 P t v = some x) : Rd w g x v ∧ x.okC = true ∧ x.isAgg = false ∧ v.oneCell' = true := by
  unfold cst1 at h
  split at h
  · simp only [Option.some.injEq] at h; subst h; simp [Rd, AV.okC, AV.isAgg, Value.oneCell']
  · simp only [Option.some.injEq] at h; subst h; simp [Rd, AV.okC, AV.isAgg, Value.oneCell']
  · simp only [Option.some.injEq] at h; subst h; simp [Rd, AV.okC, AV.isAgg, Value.oneCell']
  · split at h
    · obtain ⟨k, _, rfl⟩ := Option.map_eq_some_iff.1 h
      refine ⟨?_, rfl, rfl, rfl⟩
      simp only [Rd]
      exact ⟨[], by simp [RdL], ⟨none, 0, rfl, Nat.le_refl _, by simp, by simp [flatV], by simp⟩, rfl⟩
    · simp at h
  · simp only [Option.some.injEq] at h; subst h; simp [Rd, AV.okC, AV.isAgg, Value.oneCell']
  · simp only [Option.some.injEq] at h; subst h; simp [Rd, AV.okC, AV.isAgg, Value.oneCell']
  · simp at h
theorem cstL_rd : ∀ {ts : List TypeId} {vs : List Value} {xs : List AV}, cstL P ts vs = some xs → RdL w g xs vs ∧ ∀ u ∈ vs, u.oneCell' = true
  | [], [], _, h => by simp only [cstL, Option.some.injEq] at h; subst h; simp [RdL]
  | [], _ :: _, _, h => by simp [cstL] at h
  | _ :: _, [], _, h => by simp [cstL] at h
  | t :: ts, v :: vs, xs, h => by
    simp only [cstL] at h
    split at h
    · rename_i x l hx hl
      simp only [Option.some.injEq] at h
      subst h
      obtain ⟨h1, h2⟩ := cstL_rd hl
      obtain ⟨k1, _, _, k2⟩ := cst1_rd (w := w) (g := g) hx
      refine ⟨by simp only [RdL]; exact ⟨v, vs, rfl, k1, h1⟩, fun u hu => ?_⟩
      rcases List.mem_cons.1 hu with rfl | hu
      · exact k2
      · exact h2 u hu
    · simp at h
theorem cst_rd {t : TypeId} {v : Value} {x : AV} (h : cst P t v = some x) : Rd w g x v ∧ x.okC = true := by
  unfold cst at h
  split at h
  · obtain ⟨xs, hx, rfl⟩ := Option.map_eq_some_iff.1 h
    obtain ⟨h1, h2⟩ := cstL_rd (w := w) (g := g) hx
    exact ⟨by simp only [Rd]; exact ⟨_, rfl, h1, h2⟩, rfl⟩
  · exact ⟨(cst1_rd h).1, (cst1_rd (w := w) (g := g) h).2.1⟩
theorem zeroT_rd {t : TypeId} {x : AV} (h : zeroT P t = some x) : ∃ i v, P.info? t = some i ∧ i.zero = some v ∧ Rd w g x v ∧ x.okC = true := by
  unfold zeroT at h
  split at h
  · rename_i i hi
    split at h
    · rename_i v hv
      exact ⟨i, v, hi, hv, cst_rd h⟩
    · simp at h
  · simp at h

theorem opd_rd {t : TypeId} {x : Operand} {y : Opd} (h : opd P t x = some y) (hE : EnvR e a w g) {r : AV} (hr : evo e y = some r) : Rd w g r (a.eval x) := by
  cases x with
  | tmp n =>
    simp only [opd, Option.some.injEq] at h
    subst h
    obtain ⟨u, hu, hrd⟩ := hE n r hr
    simp only [Act.eval, Array.getD_eq_getD_getElem?, hu, Option.getD_some]
    exact hrd
  | const v =>
    simp only [opd] at h
    obtain ⟨z, hz, rfl⟩ := Option.map_eq_some_iff.1 h
    simp only [evo, Option.some.injEq] at hr
    subst hr
    exact (cst_rd hz).1
  | global n => simp [opd] at h
  | func n => simp [opd] at h
theorem opds_rd (hE : EnvR e a w g) : ∀ {ts : List TypeId} {xs : List Operand} {ys : List Opd}, opds P ts xs = some ys → ∀ {rs : List AV}, evos e ys = some rs → RdL w g rs (xs.map a.eval)
  | [], [], _, h, rs, hr => by simp only [opds, Option.some.injEq] at h; subst h; simp only [evos, Option.some.injEq] at hr; subst hr; simp [RdL]
  | [], _ :: _, _, h, _, _ => by simp [opds] at h
  | _ :: _, [], _, h, _, _ => by simp [opds] at h
  | t :: ts, x :: xs, ys, h, rs, hr => by
    simp only [opds] at h
    split at h
    · rename_i y l hy hl
      simp only [Option.some.injEq] at h
      subst h
      simp only [evos] at hr
      split at hr
      · rename_i r l' h1 h2
        simp only [Option.some.injEq] at hr
        subst hr
        simp only [List.map_cons, RdL]
        exact ⟨_, _, rfl, opd_rd hy hE h1, opds_rd hE hl h2⟩
      · simp at hr
    · simp at h

/-- What an operation that leaves memory alone comes to. -/
def FlatR (P : Program) (o : Oper) (a : Act) (w : World) (g : Gh) (r : AV) : Prop := ∃ v, (execOp a.eval o).run P w = .ok (.value v) w ∧ Rd w g r v

theorem mv_rd {o : Oper} {x : Operand} {y : Opd} (ho : o.op = .move x ∨ o.op = .assign x) (h : opd P o.type x = some y) (hE : EnvR e a w g) {r : AV} (hr : evo e y = some r) : FlatR P o a w g r := by
  refine ⟨a.eval x, ?_, opd_rd h hE hr⟩
  rcases ho with ho | ho <;> simp [execOp, ho]

theorem bool_rd {x : AV} {v : Value} {b : Bool} (h : Rd w g x v) (e : x = .bool b) : v = .bool b := by subst e; simpa [Rd] using h
theorem pick_rd {o : Oper} {c x y : Operand} {c' x' y' : Opd} (ho : o.op = .pick c x y) (hc : opd P 0 c = some c') (hx : opd P o.type x = some x') (hy : opd P o.type y = some y') (hE : EnvR e a w g)
    {r : AV} (hr : flat e (.pick c' x' y') = some r) : FlatR P o a w g r := by
  simp only [flat] at hr
  split at hr
  · rename_i hb
    refine ⟨a.eval x, ?_, opd_rd hx hE hr⟩
    have := opd_rd hc hE hb
    simp only [Rd] at this
    simp [execOp, ho, this, asBool]
  · rename_i hb
    refine ⟨a.eval y, ?_, opd_rd hy hE hr⟩
    have := opd_rd hc hE hb
    simp only [Rd] at this
    simp [execOp, ho, this, asBool]
  · simp at hr

theorem nilc_rd {o : Oper} {x : Operand} {x' : Opd} (ho : o.op = .nilCheck x) (hx : opd P 0 x = some x') (hE : EnvR e a w g) {r : AV} (hr : flat e (.nilc x') = some r) : FlatR P o a w g r := by
  simp only [flat] at hr
  split at hr
  · rename_i hb
    have h1 := opd_rd hx hE hb
    simp only [Option.some.injEq] at hr
    subst hr
    refine ⟨a.eval x, ?_, h1⟩
    simp only [Rd] at h1
    obtain ⟨b, n, _, h2⟩ := h1
    simp [execOp, ho, h2]
  · rename_i hb
    have h1 := opd_rd hx hE hb
    simp only [Option.some.injEq] at hr
    subst hr
    refine ⟨a.eval x, ?_, h1⟩
    simp only [Rd] at h1
    obtain ⟨b, o', us, h2, _⟩ := h1
    simp [execOp, ho, h2]
  · simp at hr

theorem ext_rd {o : Oper} {x : Operand} {x' : Opd} {i : Nat} (ho : o.op = .extract x i) (hx : opd P 0 x = some x') (hE : EnvR e a w g) {r : AV} (hr : flat e (.ext x' i) = some r) : FlatR P o a w g r := by
  simp only [flat] at hr
  split at hr
  · rename_i xs hb
    have h1 := opd_rd hx hE hb
    simp only [Rd] at h1
    obtain ⟨vs, h2, h3⟩ := h1
    obtain ⟨u, hu, hrd⟩ := h3.get hr
    refine ⟨u, ?_, hrd⟩
    have hu' : vs[i]? = some u := by simpa using hu
    simp [execOp, ho, h2, Instr.extract, hu']
  · simp at hr

theorem faddr_rd {o : Oper} {s : TypeId} {x : Operand} {x' : Opd} {f : Nat} {fs : Array Field} {fd : Field} {n : Nat} (ho : o.op = .fieldAddr s x f) (hs : P.underlying s = some (.struct fs)) (hf : fs[f]? = some fd)
    (hn : szT P fd.type = some n) (h0 : 0 < n) (hx : opd P 0 x = some x') (hE : EnvR e a w g) {r : AV} (hr : flat e (.faddr fd.offset x') = some r) : FlatR P o a w g r := by
  have hsz : ∀ w, (sizeOf fd.type).run P w = .ok n w := by
    intro w
    unfold szT at hn
    obtain ⟨i, hi, rfl⟩ := Option.map_eq_some_iff.1 hn
    simp [sizeOf, typeInfo, hi]
  have run : ∀ b o', a.eval x = .pointer (some ⟨b, o', none⟩) → (execOp a.eval o).run P w = .ok (.value (.pointer (some ⟨b, o' + fd.offset, none⟩))) w := by
    intro b o' hv
    have hne : n ≠ 0 := by omega
    simp [execOp, ho, hv, Instr.fieldAt, run_underlying hs, hf, Instr.sureAddr, fieldPlace, hsz, hne, Addr.add_mid]
  simp only [flat] at hr
  split at hr
  · rename_i hb
    have h1 := opd_rd hx hE hb
    simp only [Option.some.injEq] at hr
    subst hr
    simp only [Rd] at h1
    obtain ⟨b, nn, h2, h3⟩ := h1
    exact ⟨_, run b _ h3, by simp only [Rd]; exact ⟨b, nn, h2, rfl⟩⟩
  · rename_i cs hb
    have h1 := opd_rd hx hE hb
    split at hr
    · simp only [Option.some.injEq] at hr
      subst hr
      simp only [Rd] at h1
      obtain ⟨b, o', us, h2, h3, h4, h5⟩ := h1
      refine ⟨_, run b _ h2, ?_⟩
      simp only [Rd]
      refine ⟨b, _, us.drop fd.offset, rfl, h3.drop _, fun u hu => h4 u (List.mem_of_mem_drop hu), fun j c hj => ?_⟩
      rw [List.getElem?_drop] at hj
      rw [Nat.add_assoc]
      exact h5 _ _ hj
    · simp at hr
  · simp at hr

/-- A part of a struct's or an array's cells. -/
theorem part_run {t : TypeId} {ag : Bool} {n : Nat} (hn : szT P t = some n) (ha : agT P t = some ag) (hag : ag = true ∨ n = 1) {cs : List AV} {vs : Array Value} {off : Nat} (hrd : RdL w g cs vs.toList) (h1 : ∀ u ∈ vs.toList, u.oneCell' = true)
    (hle : off + n ≤ cs.length) {r : AV} (hr : mkv ag ((cs.drop off).take n) = some r) : ∃ v, (part t vs off).run P w = .ok v w ∧ Rd w g r v := by
  have hsz : ∀ w, (sizeOf t).run P w = .ok n w := by
    intro w
    unfold szT at hn
    obtain ⟨i, hi, rfl⟩ := Option.map_eq_some_iff.1 hn
    simp [sizeOf, typeInfo, hi]
  have hisA : ∀ w, (isAgg t).run P w = .ok ag w := by
    intro w
    unfold agT at ha
    unfold isAgg
    split at ha
    · rename_i fs hu; simp only [Option.some.injEq] at ha; subst ha; simp [run_underlying hu]
    · rename_i m e hu; simp only [Option.some.injEq] at ha; subst ha; simp [run_underlying hu]
    · rename_i d h2 h3 hu
      simp only [Option.some.injEq] at ha
      subst ha
      rw [Sem.run_bind, run_underlying hu]
      cases d <;> simp_all
    · simp at ha
  have hlen := hrd.length
  obtain ⟨v, hv, hcells, hva, hvb⟩ := Rd.mkv (w := w) (g := g) (ag := ag) ((hrd.drop off).take n) (fun u hu => h1 u (List.mem_of_mem_drop (List.mem_of_mem_take hu))) hr
  refine ⟨v, ?_, hv⟩
  unfold part
  rw [Sem.run_bind, hisA]
  simp only [Result.andThen_ok]
  cases ag with
  | true =>
    simp only [if_true, Sem.run_bind, hsz, Result.andThen_ok, Sem.run_pure]
    rw [hva rfl]
    congr 2
    apply Array.toList_inj.1
    simp [List.take_drop, Nat.add_comm]
  | false =>
    obtain rfl : n = 1 := by simpa using hag
    have h2 := hvb rfl
    have : vs[off]? = some v := by
      have h3 := congrArg (fun l => l[0]?) h2
      simp only [List.getElem?_take, List.getElem?_drop] at h3
      simpa using h3
    simp [this]

theorem fld_rd {o : Oper} {t : TypeId} {x : Operand} {x' : Opd} {f : Nat} {fs : Array Field} {fd : Field} {n : Nat} {ag : Bool} (ho : o.op = .field t x f) (hs : P.underlying t = some (.struct fs)) (hf : fs[f]? = some fd)
    (hn : szT P fd.type = some n) (ha : agT P fd.type = some ag) (hag : ag = true ∨ n = 1) (hx : opd P t x = some x') (hE : EnvR e a w g) {r : AV} (hr : flat e (.fld ag fd.offset n x') = some r) : FlatR P o a w g r := by
  simp only [flat] at hr
  split at hr
  · rename_i cs hb
    have h1 := opd_rd hx hE hb
    simp only [Rd] at h1
    obtain ⟨vs, h2, h3, h4⟩ := h1
    split at hr
    · rename_i hle
      obtain ⟨v, hv, hrd⟩ := part_run hn ha hag h3 h4 hle hr
      exact ⟨v, by simp [execOp, ho, h2, Instr.field, run_underlying hs, hf, asAgg, hv], hrd⟩
    · simp at hr
  · simp at hr
theorem aidx_rd {o : Oper} {t : TypeId} {x i : Operand} {x' i' : Opd} {len k : Nat} {ag : Bool} {el : TypeId} (ho : o.op = .index t x i) (hs : P.underlying t = some (.array len el))
    (hn : szT P el = some k) (ha : agT P el = some ag) (hag : ag = true ∨ k = 1) (hx : opd P t x = some x') (hi : opd P 0 i = some i') (hE : EnvR e a w g) {r : AV} (hr : flat e (.aidx ag len k x' i') = some r) : FlatR P o a w g r := by
  have hsz : ∀ w, (sizeOf el).run P w = .ok k w := by
    intro w
    have hn' := hn
    unfold szT at hn'
    obtain ⟨j, hj, rfl⟩ := Option.map_eq_some_iff.1 hn'
    simp [sizeOf, typeInfo, hj]
  simp only [flat] at hr
  split at hr
  · rename_i cs kd n hb hb2
    have h1 := opd_rd hx hE hb
    have h1' := opd_rd hi hE hb2
    simp only [Rd] at h1 h1'
    obtain ⟨vs, h2, h3, h4⟩ := h1
    split at hr
    · rename_i hle
      obtain ⟨v, hv, hrd⟩ := part_run hn ha hag h3 h4 hle.2.2 hr
      refine ⟨v, ?_, hrd⟩
      have hc : 0 ≤ n ∧ n < (len : Int) := ⟨hle.1, hle.2.1⟩
      simp [execOp, ho, h2, h1', Instr.index, asIntOf, run_underlying hs, hc, hsz, hv]
    · simp at hr
  · simp at hr
theorem sidx_rd {o : Oper} {t : TypeId} {x i : Operand} {x' i' : Opd} (ho : o.op = .index t x i) (hs : P.underlying t = some .string) (hx : opd P t x = some x') (hi : opd P 0 i = some i') (hE : EnvR e a w g)
    {r : AV} (hr : flat e (.sidx x' i') = some r) : FlatR P o a w g r := by
  simp only [flat] at hr
  split at hr
  · rename_i s kd n hb hb2
    have h1 := opd_rd hx hE hb
    have h1' := opd_rd hi hE hb2
    simp only [Rd] at h1 h1'
    split at hr
    · rename_i hle
      obtain ⟨c, hc, rfl⟩ := Option.map_eq_some_iff.1 hr
      refine ⟨.int .u8 c.toNat, ?_, by simp [Rd]⟩
      have hc' : (⟨s.toArray⟩ : ByteArray)[n.toNat]? = some c := by
        have hlt : n.toNat < s.length := (List.getElem?_eq_some_iff.1 hc).1
        have h2 := (List.getElem?_eq_some_iff.1 hc).2
        rw [getElem?_pos (⟨s.toArray⟩ : ByteArray) n.toNat (by simpa [ByteArray.size] using hlt)]
        simp only [Option.some.injEq]
        rw [← h2]
        simp [ByteArray.getElem_eq_getElem_data]
      simp [execOp, ho, h1, h1', Instr.index, asIntOf, run_underlying hs, hle, hc']
    · simp at hr
  · simp at hr
theorem bsz (s : List UInt8) : (⟨s.toArray⟩ : ByteArray).size = s.length := List.size_toArray
theorem len_rd {o : Oper} {c : Call} {x : Operand} {t : TypeId} {x' : Opd} {st : Bool} (ho : o.op = .call c) (hc : c.callee = .builtin .len) (hargs : c.args.toList = [x]) (hts : c.argTypes.toList = [t])
    (hu : (st = true ∧ P.underlying t = some .string) ∨ (st = false ∧ ∃ el, P.underlying t = some (.slice el))) (hx : opd P t x = some x') (hE : EnvR e a w g) {r : AV} (hr : flat e (.len st x') = some r) : FlatR P o a w g r := by
  obtain ⟨callee, args, argTypes⟩ := c
  simp only at hc hargs hts
  subst hc
  have ha : args = #[x] := by apply Array.toList_inj.1; simpa using hargs
  have ht : argTypes = #[t] := by apply Array.toList_inj.1; simpa using hts
  subst ha ht
  have run : ∀ v n, a.eval x = v → (Builtin.len_ #[t] o.type #[v]).run P w = .ok (.int .i64 n) w → (execOp a.eval o).run P w = .ok (.value (.int .i64 n)) w := by
    intro v n hv hn
    simp only [execOp, ho, resolve, invoke, builtin, Sem.run_bind, Sem.run_pure, Result.andThen_ok, List.map_toArray, List.map_cons, List.map_nil, hv, hn]
  simp only [flat] at hr
  split at hr
  · rename_i s hb
    have h1 := opd_rd hx hE hb
    simp only [Rd] at h1
    simp only [Option.some.injEq] at hr
    subst hr
    obtain ⟨_, hu⟩ : True ∧ P.underlying t = some .string := by simpa using hu
    refine ⟨.int .i64 s.length, run _ _ h1 ?_, by simp [Rd]⟩
    simp [Builtin.len_, run_underlying hu, goInt, bsz]
  · rename_i k xs p hb
    have h1 := opd_rd hx hE hb
    simp only [Rd] at h1
    simp only [Option.some.injEq] at hr
    subst hr
    obtain ⟨us, h2, ⟨ad, cap, h3, _⟩, _⟩ := h1
    obtain ⟨el, hu⟩ : ∃ el, P.underlying t = some (.slice el) := by simpa using hu
    refine ⟨.int .i64 xs.length, run _ _ h3 ?_, by simp [Rd]⟩
    simp [Builtin.len_, run_underlying hu, goInt, h2.length]
  · rename_i k ag s v n hb
    have h1 := opd_rd hx hE hb
    simp only [Rd] at h1
    simp only [Option.some.injEq] at hr
    subst hr
    obtain ⟨b, cap, _, _, h3, _⟩ := h1
    obtain ⟨el, hu⟩ : ∃ el, P.underlying t = some (.slice el) := by simpa using hu
    refine ⟨.int .i64 n, run _ _ h3 ?_, by simp [Rd]⟩
    simp [Builtin.len_, run_underlying hu, goInt]
  · simp at hr
theorem mkf_rd {o : Oper} {f : Nat} {first caps : Array Operand} {l : List Opd} (ho : o.op = .makeFunc (.func f) first caps) (h0 : first.size = 0) (hl : opds P (List.replicate caps.size 0) caps.toList = some l) (hE : EnvR e a w g)
    {r : AV} (hr : flat e (.mkf f l) = some r) : FlatR P o a w g r := by
  simp only [flat] at hr
  obtain ⟨rs, hrs, rfl⟩ := Option.map_eq_some_iff.1 hr
  have h1 := opds_rd hE hl hrs
  have hf : first = #[] := Array.eq_empty_of_size_eq_zero h0
  subst hf
  refine ⟨.func (.func f) #[] (caps.map a.eval), ?_, by simp only [Rd]; exact ⟨_, rfl, by simpa using h1⟩⟩
  simp [execOp, ho, Instr.makeFunc]
end
end Go.Proofs.YtpkeiffclipjmaaGreatDoor.Rx
