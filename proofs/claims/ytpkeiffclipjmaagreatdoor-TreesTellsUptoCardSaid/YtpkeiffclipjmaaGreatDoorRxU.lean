/-
  Rx, part U: code, functions, programs.
-/
import Derived.Test.YtpkeiffclipjmaaGreatDoorRxT
import Derived.LoopN
namespace Go.Proofs.YtpkeiffclipjmaaGreatDoor.Rx
open Go Go.RowKit
set_option linter.unusedSimpArgs false

section
variable {C : Cx} {K : Cfg} {X : Nat → Prop} {w0 w : World} {pr0 : Nat → Nat → Prop} {g : Gh} {e : Env} {a : Act} {D : Fun} {nt : Nat} {st : St}

theorem keepE_get {e : Env} : ∀ {ks : List Nat} {l : List (Nat × AV)}, keepE e ks = some l → ∀ {i x}, get l i = some x → e i = some x
  | [], l, h, i, x, hx => by simp only [keepE, Option.some.injEq] at h; subst h; simp [get] at hx
  | k :: ks, l, h, i, x, hx => by
    simp only [keepE] at h
    split at h
    · rename_i v l' h1 h2
      simp only [Option.some.injEq] at h
      subst h
      simp only [get] at hx
      split at hx
      · rename_i hk; subst hk; rw [h1, hx]
      · exact keepE_get h2 hx
    · simp at h
/-- What is kept of a state. -/
theorem trim_ok {keep : List Nat} {ex ex' : Ex} {st st' : St} {e0 : Env} (h : trim keep e0 (ex, st) = some (ex', st')) {Q : Exit → Act → World → Prop} (k : Kont C X nt w0 pr0 w g ex' st' Q) : KontO C X nt w0 pr0 e0 w g ex st Q := by
  cases ex with
  | nrm =>
    simp only [trim] at h
    obtain ⟨l, hl, h⟩ := Option.map_eq_some_iff.1 h
    simp only [Prod.mk.injEq] at h
    obtain ⟨rfl, rfl⟩ := h
    exact fun a' w' g' hI hlat => k a' w' g' ⟨fun i x hx => hI.env i x (keepE_get hl hx), hI.mem, hI.size, hI.defers⟩ hlat
  | exit id => trivial
  | ret => trivial
  | pan =>
    simp only [trim, Option.some.injEq, Prod.mk.injEq] at h
    obtain ⟨rfl, rfl⟩ := h
    exact fun a' w' g' v hv hI hlat => k a' w' g' v hv ⟨hI.env, hI.mem, hI.defers⟩ hlat
theorem outside_env {ops : Array Oper} {bs : List (List Nat)} {l : List AOper} (h : cmpOs C.P K nt ops ops.toList bs = some l) (e : Env) : ∀ o ∈ ops.toList, ∀ t, o.dst = some t → outside l e t = none := by
  intro o ho t ht
  obtain ⟨hlen, hget⟩ := cmpOs_get h
  obtain ⟨i, hi, hii⟩ := List.getElem_of_mem ho
  obtain ⟨b, y, h1, h2, h3⟩ := hget i o (by rw [List.getElem?_eq_getElem hi, hii])
  have hyd : y.d = o.dst := by
    unfold cmpO at h3
    split at h3
    · split at h3
      · simp only [Option.some.injEq] at h3; subst h3; rfl
      · simp at h3
    · simp at h3
  unfold outside
  rw [if_pos]
  exact List.any_eq_true.2 ⟨y, List.mem_of_getElem? h2, by rw [hyd, ht]; simp⟩
theorem outside_rd {l : List AOper} {e : Env} {a : Act} (h : EnvR e a w g) : EnvR (outside l e) a w g := by
  intro i x hx
  unfold outside at hx
  split at hx
  · simp at hx
  · exact h i x hx

theorem drew_inv {st : St} (hI : Inv X nt w0 pr0 st a w g) : Inv X nt w0 pr0 st a { w with drawn := w.drawn + 1 } g ∧ Later w g { w with drawn := w.drawn + 1 } g := by
  have hB : Below w.heap.size w { w with drawn := w.drawn + 1 } := (Below.refl _ w).drew
  have hl := hI.mem.later_below hB
  exact ⟨⟨hI.env.later hl, hI.mem.moved hB, hI.size, hI.defers.later hl⟩, hl⟩

theorem stepsD_ex (D : Fun) : ∀ (os : List AOper) (i : Nat) (fs : List (Nat × List Nat × List Nat)) (st : St) (ex : Ex) (r : St), stepsD D i fs os st = some (ex, r) → ex = .nrm ∨ ex = .pan
  | [], i, fs, st, ex, r, h => by simp only [stepsD, Option.some.injEq, Prod.mk.injEq] at h; exact .inl h.1.symm
  | o :: os, i, fs, st, ex, r, h => by
    unfold stepsD at h
    split at h
    · split at h
      · exact stepsD_ex D os _ _ _ ex r h
      · split at h
        · simp only [Option.some.injEq, Prod.mk.injEq] at h; exact .inr h.1.symm
        · simp at h
      · simp at h
    · simp at h

theorem regD_ok (hmix : C.P.follows .mixedOrders = true) (hD : Sound C D) (hC : C.Fine) (hX : ∀ b, X b → C.B ≤ b) (hG0 : C.G w0) {id : Nat} {ops : Array Oper} {l : List AOper} (hl : cmpOs C.P K nt ops ops.toList (bfL ops.toList []) = some l)
    (hok : drawOk ops.toList (bfL ops.toList []) l = true) {st r : St} {ex : Ex} (hs : stepsD D 0 [] l st = some (ex, r)) (hI : Inv X nt w0 pr0 st a w g) {Q : Exit → Act → World → Prop} (k : KontO C X nt w0 pr0 (outside l st.env) w g ex r Q) :
    (Code.region id ops true).wp C.P Q a w := by
  obtain ⟨hlen, hget⟩ := cmpOs_get hl
  simp only [drawOk, Bool.and_eq_true, List.all_eq_true] at hok
  obtain ⟨hback, hpair⟩ := hok
  obtain ⟨hI', hlat⟩ := drew_inv hI
  have hout := outside_env hl st.env
  have hE0 : EnvR (outside l st.env) a { w with drawn := w.drawn + 1 } g := outside_rd hI'.env
  have hlen' : l.length = ops.size := by rw [hlen]; simp
  have hcmpi : ∀ i y, l[i]? = some y → ∃ o b, ops[i]? = some o ∧ cmpO C.P K nt ops o b = some y ∧ b = (bfL ops.toList []).getD i [] := fun i y h => by
    have hlt : i < ops.size := by rw [← hlen']; exact (List.getElem?_eq_some_iff.1 h).1
    have ho : ops.toList[i]? = some ops[i] := by simp [hlt]
    obtain ⟨b, y', h3, h4, h5⟩ := hget i _ ho
    rw [h] at h4
    simp only [Option.some.injEq] at h4
    subst h4
    exact ⟨_, b, Array.getElem?_eq_getElem hlt, h5, by rw [List.getD_eq_getElem?_getD, h3]; rfl⟩
  have hT : ∀ i j x y, i < j → l[i]? = some x → l[j]? = some y → i ∈ (bfL ops.toList []).getD j [] ∨ apartT x y = true := fun i j x y hij hx hy => by
    have hpp := hpair (y, j) (by rw [List.mem_zipIdx_iff_getElem?]; exact hy) (x, i) (by
      rw [List.mem_zipIdx_iff_getElem?, List.getElem?_take, if_pos hij]
      exact hx)
    simpa only [Bool.or_eq_true, List.contains_eq_mem, decide_eq_true_eq] using hpp
  have hsub : ∀ j y, l[j]? = some y → ∀ x ∈ y.bf, x ∈ (bfL ops.toList []).getD j [] := fun j y hy x hx => by
    obtain ⟨o, b, _, hcy, rfl⟩ := hcmpi j y hy
    exact cmpO_spec hcy x hx
  have hback' : ∀ (j : Nat) (o : Oper), ops[j]? = some o → ∀ x ∈ direct o, x < j := fun j o ho x hx => by
    have := hback (o, j) (by rw [List.mem_zipIdx_iff_getElem?]; simpa using ho) x hx
    simpa using this
  have hclosed : ∀ (j : Nat) (o : Oper), ops[j]? = some o → (Array.replicate ops.size false).getD j false = true → ∀ x ∈ direct o, (Array.replicate ops.size false).getD x false = true := fun j o _ hj => by
    simp only [Array.getD_eq_getD_getElem?, Array.getElem?_replicate] at hj
    split at hj <;> simp at hj
  have hfalse : ∀ i, i < ops.size → (Array.replicate ops.size false).getD i true = false := fun i hi => by simp [Array.getD, hi]
  rcases stepsD_ex D l 0 [] st ex r hs with rfl | rfl
  · obtain ⟨row, hn, hS, hd⟩ := stepsD_row D l 0 [] st r hs
    have hm : ∀ x ∈ row, l[x.1]? = some x.2.1 := fun x hx => by simpa using (hn.mem x hx).2
    refine wp_region_any hmix (any_ok (K := K) (y := none) hD hC hX hG0 hout ops.size _ row st a _ g (by rw [hn.length, hlen']; simp) ?_ hS hI' hE0 (Ends.later (y := none) k hlat))
    refine ⟨by simp, fun i hi => ?_, fun x hx => ?_, fun z hz => by simp at hz, fun x hx => hcmpi _ _ (hm x (by simpa using hx)), hn.nodup, ?_, fun z hz => by simp at hz, fun z hz => by simp at hz, hclosed, hback'⟩
    · rw [hfalse i hi]
      simp only [true_iff]
      obtain ⟨x, hx, e⟩ := hn.has i (by rw [hlen']; exact hi)
      exact .inl ⟨x, hx, by omega⟩
    · rw [← hlen']; exact (List.getElem?_eq_some_iff.1 (hm x hx)).1
    · refine List.Pairwise.imp_of_mem (R := fun x y => okPair x y ∧ x.1 < y.1) ?_ (List.Pairwise.and hd.pairs hn.nodup)
      rintro x y hx hy ⟨h1, hxy⟩
      rcases hT x.1 y.1 _ _ hxy (hm x hx) (hm y hy) with h | h
      · exact .inl h
      · rcases h1 with h1 | h1
        · exact .inl (hsub _ _ (hm y hy) _ h1)
        · exact .inr ⟨h, h1⟩
  · obtain ⟨row, y, os1, os2, rfl, hn, hy1, hS, hd, _, hidle, hahead⟩ := stepsD_rowP D l 0 [] st r hs
    simp only [Nat.zero_add] at hy1
    have hm : ∀ x ∈ row, (os1 ++ y.2.1 :: os2)[x.1]? = some x.2.1 := fun x hx => by
      have h1 := (hn.mem x hx).2
      simp only [Nat.sub_zero] at h1
      rw [List.getElem?_append_left (List.getElem?_eq_some_iff.1 h1).1]
      exact h1
    have hmy : (os1 ++ y.2.1 :: os2)[y.1]? = some y.2.1 := by rw [hy1]; simp
    have hxl : ∀ x ∈ row, x.1 < y.1 := fun x hx => by
      have h1 := (List.getElem?_eq_some_iff.1 (hn.mem x hx).2).1
      simp only [Nat.sub_zero] at h1
      omega
    have hyl : y.1 < ops.size := by rw [← hlen']; exact (List.getElem?_eq_some_iff.1 hmy).1
    refine wp_region_any hmix (any_ok (K := K) (y := some y) hD hC hX hG0 hout ops.size _ row st a _ g ?_ ?_ hS hI' hE0 (Ends.later (y := some y) k hlat))
    · rw [hn.length]
      simp only [List.length_append, List.length_cons] at hlen'
      simp
      omega
    · refine ⟨by simp, fun i hi => ?_, fun x hx => by have := hxl x hx; omega, ?_, ?_, hn.nodup, ?_, ?_, ?_, hclosed, hback'⟩
      · rw [hfalse i hi]
        simp only [true_iff]
        rcases Nat.lt_or_ge i y.1 with h | h
        · obtain ⟨x, hx, e⟩ := hn.has i (by omega)
          exact .inl ⟨x, hx, by omega⟩
        · exact .inr ⟨y, rfl, h⟩
      · intro z hz
        simp only [Option.some.injEq] at hz
        subst hz
        exact ⟨hyl, hxl⟩
      · rintro x (hx | hx)
        · exact hcmpi _ _ (hm x hx)
        · simp only [Option.some.injEq] at hx
          subst hx
          exact hcmpi _ _ hmy
      · have hp := (List.pairwise_append.1 hd.pairs).1
        refine List.Pairwise.imp_of_mem (R := fun x y => okPair x y ∧ x.1 < y.1) ?_ (List.Pairwise.and hp hn.nodup)
        rintro x z hx hz ⟨h1, hxz⟩
        rcases hT x.1 z.1 _ _ hxz (hm x hx) (hm z hz) with h | h
        · exact .inl h
        · rcases h1 with h1 | h1
          · exact .inl (hsub _ _ (hm z hz) _ h1)
          · exact .inr ⟨h, h1⟩
      · intro z hz x hx
        simp only [Option.some.injEq] at hz
        subst hz
        have h1 := (List.pairwise_append.1 hd.pairs).2.2 x hx y (by simp)
        rcases hT x.1 y.1 _ _ (hxl x hx) (hm x hx) hmy with h | h
        · exact .inl h
        · rcases h1 with h1 | h1
          · exact .inl (hsub _ _ hmy _ h1)
          · rcases hidle x hx with h2 | h2
            · exact .inl (hsub _ _ hmy _ h2)
            · exact .inr ⟨h, h1, h2⟩
      · intro z hz i hi hlt
        simp only [Option.some.injEq] at hz
        subst hz
        obtain ⟨z, hz⟩ : ∃ z, (os1 ++ y.2.1 :: os2)[i]? = some z := ⟨_, List.getElem?_eq_getElem (by rw [hlen']; exact hi)⟩
        have hz2 : z ∈ os2 := by
          rw [List.getElem?_append_right (by omega)] at hz
          obtain ⟨j, hj⟩ : ∃ j, i - os1.length = j + 1 := ⟨i - os1.length - 1, by omega⟩
          rw [hj, List.getElem?_cons_succ] at hz
          exact List.mem_of_getElem? hz
        exact hsub i z hz _ (ahead_spec hahead z hz2)

/-- A call is put off. -/
theorem dfr_ok {id : Nat} {ops : Array Oper} {d f : Nat} {l : List Opd} (h : cmpDfr C.P nt ops.toList = some (d, f, l)) {st st' : St} {ex : Ex} {n : Nat} (hr : run D n (.dfr d f l) st = some (ex, st')) (hI : Inv X nt w0 pr0 st a w g) {Q : Exit → Act → World → Prop} (k : Kont C X nt w0 pr0 w g ex st' Q) :
    (Code.region id ops false).wp C.P Q a w := by
  unfold cmpDfr at h
  split at h
  · rename_i o1 o2 hops
    split at h
    · rename_i f0 first caps c d0 ho1 ho2 hd1
      split at h
      · rename_i t l0 fn hc hl hf
        split at h
        · rename_i hcond
          obtain ⟨rfl, hdn, hg1, hg2, hdst2, hfirst, hargs, hb, hnm⟩ := hcond
          simp only [Option.some.injEq, Prod.mk.injEq] at h
          obtain ⟨rfl, rfl, rfl⟩ := h
          simp only [run] at hr
          split at hr
          · rename_i rs hdf hrs
            simp only [Option.some.injEq, Prod.mk.injEq] at hr
            obtain ⟨rfl, rfl⟩ := hr
            have h1 := opds_rd hI.env hl hrs
            have hf0 : first = #[] := Array.eq_empty_of_size_eq_zero hfirst
            have ha0 : c.args = #[] := Array.eq_empty_of_size_eq_zero hargs
            subst hf0
            have hopsA : ops = #[o1, o2] := by apply Array.toList_inj.1; simpa using hops
            refine wp_region ?_
            subst hopsA
            have hg1' : o1.guard = none := by simpa using hg1
            have hg2' : o2.guard = none := by simpa using hg2
            have hd2 : o2.dst = none := by simpa using hdst2
            have hlt : t < a.tmps.size := Nat.lt_of_lt_of_le hdn hI.size
            have hw1 : ∀ a : Act, Region.wanted o1 (yielded #[o1, o2] a.tmps) = true := fun a => by simp [Region.wanted, hg1']
            have hw2 : ∀ a : Act, Region.wanted o2 (yielded #[o1, o2] a.tmps) = true := fun a => by simp [Region.wanted, hg2']
            have hrange : List.range (#[o1, o2] : Array Oper).size = [0, 1] := rfl
            rw [hrange]
            simp only [wpOps]
            have e0 : (#[o1, o2] : Array Oper)[0]? = some o1 := rfl
            have e1 : (#[o1, o2] : Array Oper)[1]? = some o2 := rfl
            rw [e0]
            simp only [hw1, if_true]
            refine .inl ?_
            have r1 : (execOp a.eval o1).run C.P w = .ok (.value (.func (.func f0) #[] (caps.map a.eval))) w := by simp [execOp, ho1, Instr.makeFunc]
            unfold Oper.wp
            rw [r1, Oper.upon_value, e1]
            simp only [hw2, if_true]
            refine .inl ?_
            have het : (a.put o1.dst (.func (.func f0) #[] (caps.map a.eval))).eval (.tmp t) = .func (.func f0) #[] (caps.map a.eval) := by simp [Act.eval, Act.put, hd1, Array.getD_eq_getD_getElem?, hlt]
            have r2 : (execOp (a.put o1.dst (.func (.func f0) #[] (caps.map a.eval))).eval o2).run C.P w = .ok (.defer { target := .fn (.func f0) (caps.map a.eval), args := #[] }) w := by
              simp [execOp, ho2, resolve, hc, het, Deferred.ofValue, ha0]
            rw [r2, Oper.upon_defer, hd2]
            have hdef : a.defers = [] := by have := hI.defers; rw [hdf] at this; exact this
            refine k _ w g ⟨?_, hI.mem, ?_, ?_⟩ (Later.refl w g)
            · have := hI.env.put (d := some t) (fun u hu => by simp only [Option.some.injEq] at hu; subst hu; exact hlt) (x := .opq) (v := .func (.func f0) #[] (caps.map a.eval)) (by simp only [Rd])
              intro i x hx
              obtain ⟨u, hu, hru⟩ := this i x hx
              exact ⟨u, by simpa [Act.put, hd1] using hu, hru⟩
            · simp only [Act.put]
              have := put_size a o1.dst (.func (.func f0) #[] (caps.map a.eval))
              simp only [Act.put] at this
              rw [this]
              exact hI.size
            · have hpd := put_defers a o1.dst (.func (.func f0) #[] (caps.map a.eval))
              refine ⟨caps.map a.eval, ?_, by simpa using h1⟩
              simp only [Act.put] at hpd ⊢
              rw [hpd, hdef]
          · simp at hr
        · simp at h
      · simp at h
    · simp at h
  · simp at h

theorem code_ok (hmix : C.P.follows .mixedOrders = true) (hD : Sound C D) (hC : C.Fine) (hX : ∀ b, X b → C.B ≤ b) (hG0 : C.G w0) : ∀ (c : Code) (ks : List (List Nat)) (c' : ACode) (ks' : List (List Nat)), cmpC C.P K nt c ks = some (c', ks') →
    ∀ (n : Nat) (st : St) (ex : Ex) (st' : St), run D n c' st = some (ex, st') → ∀ (a : Act) (w : World) (g : Gh), Inv X nt w0 pr0 st a w g → ∀ (Q : Exit → Act → World → Prop),
      Kont C X nt w0 pr0 w g ex st' Q → c.wp C.P Q a w := by
  intro c
  induction c with
  | skip =>
    intro ks c' ks' hc n st ex st' hr a w g hI Q k
    simp only [cmpC, Option.some.injEq, Prod.mk.injEq] at hc
    obtain ⟨rfl, rfl⟩ := hc
    simp only [run, Option.some.injEq, Prod.mk.injEq] at hr
    obtain ⟨rfl, rfl⟩ := hr
    exact wp_skip (k a w g hI (Later.refl w g))
  | exit id =>
    intro ks c' ks' hc n st ex st' hr a w g hI Q k
    simp only [cmpC, Option.some.injEq, Prod.mk.injEq] at hc
    obtain ⟨rfl, rfl⟩ := hc
    simp only [run, Option.some.injEq, Prod.mk.injEq] at hr
    obtain ⟨rfl, rfl⟩ := hr
    exact wp_exit (k a w g hI (Later.refl w g))
  | ret =>
    intro ks c' ks' hc n st ex st' hr a w g hI Q k
    simp only [cmpC, Option.some.injEq, Prod.mk.injEq] at hc
    obtain ⟨rfl, rfl⟩ := hc
    simp only [run, Option.some.injEq, Prod.mk.injEq] at hr
    obtain ⟨rfl, rfl⟩ := hr
    exact wp_ret (k a w g hI (Later.refl w g))
  | region id ops draw =>
    intro ks c' ks' hc n st ex st' hr a w g hI Q k
    cases ks with
    | nil => simp [cmpC] at hc
    | cons kp ks =>
      simp only [cmpC] at hc
      split at hc
      · rename_i d f l hdf
        simp only [Option.some.injEq, Prod.mk.injEq] at hc
        obtain ⟨rfl, rfl⟩ := hc
        cases draw with
        | true => simp at hdf
        | false =>
          simp only [Bool.false_eq_true, if_false] at hdf
          exact dfr_ok hdf hr hI k
      · split at hc
        · rename_i l hl
          cases draw with
          | true =>
            simp only [if_true] at hc hl
            split at hc
            · rename_i hok
              simp only [Option.some.injEq, Prod.mk.injEq] at hc
              obtain ⟨rfl, rfl⟩ := hc
              simp only [run] at hr
              obtain ⟨⟨ex1, s1⟩, hs1, hs2⟩ := Option.bind_eq_some_iff.1 hr
              exact regD_ok hmix hD hC hX hG0 hl hok hs1 hI (trim_ok hs2 k)
            · simp at hc
          | false =>
            simp only [Bool.false_eq_true, if_false, Option.some.injEq, Prod.mk.injEq] at hc hl
            obtain ⟨rfl, rfl⟩ := hc
            simp only [run] at hr
            obtain ⟨⟨ex1, s1⟩, hs1, hs2⟩ := Option.bind_eq_some_iff.1 hr
            refine wp_region ?_
            have := ops_ok (Q := Q) hD hC hX hG0 ops.toList _ l 0 st ex1 s1 a w g (fun j => by simp) hl hs1 hI (outside_rd hI.env) (outside_env hl st.env) (trim_ok hs2 k)
            rw [List.range_eq_range']
            simpa using this
        · simp at hc
  | seq x y ihx ihy =>
    intro ks c' ks' hc n st ex st' hr a w g hI Q k
    simp only [cmpC] at hc
    split at hc
    · rename_i x' ks1 hx
      split at hc
      · rename_i y' ks2 hy
        simp only [Option.some.injEq, Prod.mk.injEq] at hc
        obtain ⟨rfl, rfl⟩ := hc
        simp only [run] at hr
        split at hr
        · rename_i st1 hs1
          refine wp_seq (ihx _ _ _ hx n st .nrm st1 hs1 a w g hI _ fun a1 w1 g1 hI1 hl1 => ?_)
          exact ihy _ _ _ hy n st1 ex st' hr a1 w1 g1 hI1 Q (k.later hl1)
        · rename_i hne
          refine wp_seq (ihx _ _ _ hx n st ex st' hr a w g hI _ ?_)
          cases ex with
          | nrm => exact absurd hr (hne st')
          | exit id => exact k
          | ret => exact k
          | pan => exact k
      · simp at hc
    · simp at hc
  | cond c x y ihx ihy =>
    intro ks c' ks' hc n st ex st' hr a w g hI Q k
    simp only [cmpC] at hc
    split at hc
    · rename_i o x' ks1 ho hx
      split at hc
      · rename_i y' ks2 hy
        simp only [Option.some.injEq, Prod.mk.injEq] at hc
        obtain ⟨rfl, rfl⟩ := hc
        simp only [run] at hr
        split at hr
        · rename_i hb
          have := opd_rd ho hI.env hb
          simp only [Rd] at this
          exact wp_cond_true this (ihx _ _ _ hx n st ex st' hr a w g hI Q k)
        · rename_i hb
          have := opd_rd ho hI.env hb
          simp only [Rd] at this
          exact wp_cond_false this (ihy _ _ _ hy n st ex st' hr a w g hI Q k)
        · simp at hr
      · simp at hc
    · simp at hc
  | block id x ih =>
    intro ks c' ks' hc n st ex st' hr a w g hI Q k
    simp only [cmpC] at hc
    split at hc
    · rename_i x' ks1 hx
      simp only [Option.some.injEq, Prod.mk.injEq] at hc
      obtain ⟨rfl, rfl⟩ := hc
      simp only [run] at hr
      split at hr
      · rename_i i st1 hs1
        refine wp_block (ih _ _ _ hx n st (.exit i) st1 hs1 a w g hI _ fun a1 w1 g1 hI1 hl1 => ?_)
        simp only [Exit.inBlock]
        split at hr
        · rename_i hid
          simp only [Option.some.injEq, Prod.mk.injEq] at hr
          obtain ⟨rfl, rfl⟩ := hr
          rw [if_pos hid]
          exact k a1 w1 g1 hI1 hl1
        · rename_i hid
          simp only [Option.some.injEq, Prod.mk.injEq] at hr
          obtain ⟨rfl, rfl⟩ := hr
          rw [if_neg hid]
          exact k a1 w1 g1 hI1 hl1
      · rename_i hne
        refine wp_block (ih _ _ _ hx n st ex st' hr a w g hI _ ?_)
        cases ex with
        | nrm => exact k
        | exit id' => exact absurd hr (hne id' st')
        | ret => exact k
        | pan => exact k
    · simp at hc
  | loop x ih =>
    intro ks c' ks' hc n st ex st' hr a w g hI Q k
    simp only [cmpC] at hc
    split at hc
    · rename_i x' ks1 hx
      simp only [Option.some.injEq, Prod.mk.injEq] at hc
      obtain ⟨rfl, rfl⟩ := hc
      simp only [run] at hr
      refine wp_loop_rounds n ?_
      have key : ∀ (m : Nat) (st : St) (a : Act) (w : World) (g : Gh), iter (run D n x') m st = some (ex, st') → Inv X nt w0 pr0 st a w g → Kont C X nt w0 pr0 w g ex st' Q → Code.rounds C.P x Q m a w := by
        intro m
        induction m with
        | zero => intro st a w g h; simp [iter] at h
        | succ m ihm =>
          intro st a w g h hI k
          simp only [iter] at h
          rw [rounds_succ]
          split at h
          · rename_i st1 hs1
            exact ih _ _ _ hx n st .nrm st1 hs1 a w g hI _ fun a1 w1 g1 hI1 hl1 => ihm st1 a1 w1 g1 h hI1 (k.later hl1)
          · rename_i hne
            refine ih _ _ _ hx n st ex st' h a w g hI _ ?_
            cases ex with
            | nrm => exact absurd h (hne st')
            | exit id => exact k
            | ret => exact k
            | pan => exact k
      exact key n st a w g hr hI k
    · simp at hc
  | _ =>
    intro ks c' ks' hc
    simp [cmpC] at hc
end
end Go.Proofs.YtpkeiffclipjmaaGreatDoor.Rx
