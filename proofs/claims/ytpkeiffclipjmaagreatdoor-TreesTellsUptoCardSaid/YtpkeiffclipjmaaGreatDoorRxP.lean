/-
  Rx, part P: operations that are not at odds with each other may come in either order.
-/
import Derived.Test.YtpkeiffclipjmaaGreatDoorRxL
namespace Go.Proofs.YtpkeiffclipjmaaGreatDoor.Rx
open Go

def Opd.tm : Opd → List Nat
  | .t n => [n]
  | .c _ => []
def AOp.tm : AOp → List Nat
  | .mv x | .box x | .load _ _ x | .nilc x | .un _ x | .conv _ x | .faddr _ x | .fld _ _ _ x | .ext x _ | .len _ x | .isn _ x | .bstr _ x | .half x => x.tm
  | .pick c a b | .ins _ c a b | .mput c a b => c.tm ++ a.tm ++ b.tm
  | .alloc _ | .mkmap => []
  | .agg _ ps => ps.flatMap fun p => p.2.2.tm
  | .mks _ _ _ _ ps => ps.flatMap fun p => p.2.tm
  | .store _ x y | .bin _ x y | .eqv _ _ x y | .mksl _ _ _ _ x y | .iaddr _ x y | .aaddr _ _ x y | .aidx _ _ _ x y | .sidx x y | .app _ _ _ x y | .mget x y | .mkown _ _ _ _ x y => x.tm ++ y.tm
  | .slice _ x lo hi mx => x.tm ++ lo.toList.flatMap Opd.tm ++ hi.toList.flatMap Opd.tm ++ mx.toList.flatMap Opd.tm
  | .call _ xs | .callr _ xs | .min xs | .max xs | .mkf _ xs => xs.flatMap Opd.tm
  | .callv x xs | .wrs _ x xs => x.tm ++ xs.flatMap Opd.tm
def AOper.tm (o : AOper) : List Nat := (match o.g with | some (j, _) => [j] | none => []) ++ o.op.tm

theorem evo_congr {e e' : Env} (x : Opd) (h : ∀ t ∈ x.tm, e' t = e t) : evo e' x = evo e x := by
  cases x with
  | t n => exact h n (by simp [Opd.tm])
  | c v => rfl
theorem evos_congr {e e' : Env} (xs : List Opd) (h : ∀ t ∈ xs.flatMap Opd.tm, e' t = e t) : evos e' xs = evos e xs := by
  induction xs with
  | nil => rfl
  | cons x xs ih =>
    simp only [List.flatMap_cons, List.mem_append] at h
    simp only [evos]
    rw [evo_congr x (fun t ht => h t (.inl ht)), ih (fun t ht => h t (.inr ht))]
theorem build_congr {e e' : Env} (ps : List (Nat × Nat × Opd)) (h : ∀ t ∈ ps.flatMap (fun p => p.2.2.tm), e' t = e t) : ∀ cs, build e' cs ps = build e cs ps := by
  induction ps with
  | nil => exact fun _ => rfl
  | cons p ps ih =>
    obtain ⟨o, n, x⟩ := p
    simp only [List.flatMap_cons, List.mem_append] at h
    intro cs
    simp only [build]
    rw [evo_congr x (fun t ht => h t (.inl ht))]
    split
    · split
      · exact ih (fun t ht => h t (.inr ht)) _
      · rfl
    · rfl
theorem rowsOf_congr {e e' : Env} (k : Nat) (ag : Bool) (ps : List (Nat × Opd)) (h : ∀ t ∈ ps.flatMap (fun p => p.2.tm), e' t = e t) : ∀ xs, rowsOf e' k ag xs ps = rowsOf e k ag xs ps := by
  induction ps with
  | nil => exact fun _ => rfl
  | cons p ps ih =>
    obtain ⟨i, x⟩ := p
    simp only [List.flatMap_cons, List.mem_append] at h
    intro xs
    simp only [rowsOf]
    rw [evo_congr x (fun t ht => h t (.inl ht))]
    split
    · split
      · exact ih (fun t ht => h t (.inr ht)) _
      · rfl
    · rfl
theorem optv_congr {e e' : Env} (x : Option Opd) (h : ∀ t ∈ x.toList.flatMap Opd.tm, e' t = e t) : optv e' x = optv e x := by
  cases x with
  | none => rfl
  | some x => simp only [optv]; rw [evo_congr x (fun t ht => h t (by simpa using ht))]

theorem flat_congr {e e' : Env} (o : AOp) (h : ∀ t ∈ o.tm, e' t = e t) : flat e' o = flat e o := by
  cases o with
  | mv x => exact evo_congr x h
  | pick c a b =>
    simp only [AOp.tm, List.mem_append] at h
    simp only [flat]
    rw [evo_congr c (fun t ht => h t (.inl (.inl ht))), evo_congr a (fun t ht => h t (.inl (.inr ht))), evo_congr b (fun t ht => h t (.inr ht))]
  | alloc z => rfl
  | box x => rfl
  | agg z ps => simp only [flat]; rw [build_congr ps h]
  | mks n k ag z ps =>
    simp only [flat]
    cases mkv ag z with
    | none => rfl
    | some r => simp only []; rw [rowsOf_congr k ag ps h]
  | load ag n x => rfl
  | store n x y => rfl
  | nilc x => simp only [flat]; rw [evo_congr x h]
  | bin op x y =>
    simp only [AOp.tm, List.mem_append] at h
    simp only [flat]; rw [evo_congr x (fun t ht => h t (.inl ht)), evo_congr y (fun t ht => h t (.inr ht))]
  | eqv neg ks x y =>
    simp only [AOp.tm, List.mem_append] at h
    simp only [flat]; rw [evo_congr x (fun t ht => h t (.inl ht)), evo_congr y (fun t ht => h t (.inr ht))]
  | un op x => simp only [flat]; rw [evo_congr x h]
  | conv c x => simp only [flat]; rw [evo_congr x h]
  | mksl k bytes ag z x y =>
    simp only [AOp.tm, List.mem_append] at h
    simp only [flat]; rw [evo_congr x (fun t ht => h t (.inl ht)), evo_congr y (fun t ht => h t (.inr ht))]
  | slice s x lo hi mx =>
    simp only [AOp.tm, List.mem_append] at h
    simp only [flat]
    rw [evo_congr x (fun t ht => h t (.inl (.inl (.inl ht)))), optv_congr lo (fun t ht => h t (.inl (.inl (.inr ht)))), optv_congr hi (fun t ht => h t (.inl (.inr ht))), optv_congr mx (fun t ht => h t (.inr ht))]
  | faddr off x => simp only [flat]; rw [evo_congr x h]
  | fld ag off n x => simp only [flat]; rw [evo_congr x h]
  | iaddr k x y =>
    simp only [AOp.tm, List.mem_append] at h
    simp only [flat]; rw [evo_congr x (fun t ht => h t (.inl ht)), evo_congr y (fun t ht => h t (.inr ht))]
  | aaddr len k x y =>
    simp only [AOp.tm, List.mem_append] at h
    simp only [flat]; rw [evo_congr x (fun t ht => h t (.inl ht)), evo_congr y (fun t ht => h t (.inr ht))]
  | aidx ag len k x y =>
    simp only [AOp.tm, List.mem_append] at h
    simp only [flat]; rw [evo_congr x (fun t ht => h t (.inl ht)), evo_congr y (fun t ht => h t (.inr ht))]
  | sidx x y =>
    simp only [AOp.tm, List.mem_append] at h
    simp only [flat]; rw [evo_congr x (fun t ht => h t (.inl ht)), evo_congr y (fun t ht => h t (.inr ht))]
  | ext x i => simp only [flat]; rw [evo_congr x h]
  | call f xs => rfl
  | callv x xs => rfl
  | mkf f xs => simp only [flat]; rw [evos_congr xs h]
  | isn neg x => simp only [flat]; rw [evo_congr x h]
  | half x => simp only [flat]; rw [evo_congr x h]
  | callr f xs => rfl
  | ins f x i y => rfl
  | wrs f x xs => rfl
  | bstr f x => rfl
  | mkmap => rfl
  | mput x k v => rfl
  | mget x k => rfl
  | mkown k bytes ag z l c => rfl
  | len s x => simp only [flat]; rw [evo_congr x h]
  | min xs => simp only [flat]; rw [evos_congr xs h]
  | max xs => simp only [flat]; rw [evos_congr xs h]
  | app own k bytes x y => rfl

/-- Two states are alike for an operation. -/
structure Alike (st st' : St) (tm : List Nat) (ks : List Nat) : Prop where
  env : ∀ t ∈ tm, st'.env t = st.env t
  bx : ∀ s, 2 * s ∈ ks → st'.bx s = st.bx s
  pm : ∀ s, 2 * s + 1 ∈ ks → st'.pm s = st.pm s

theorem names_congr {e e' : Env} (l : List Opd) (h : ∀ t ∈ l.flatMap Opd.tm, e' t = e t) : names e' l = names e l := by
  induction l with
  | nil => rfl
  | cons x l ih =>
    simp only [List.flatMap_cons, List.mem_append] at h
    simp only [names, List.flatMap_cons] at ih ⊢
    rw [evo_congr x (fun t ht => h t (.inl ht)), ih (fun t ht => h t (.inr ht))]
theorem foot_congr {st st' : St} (d : Option Nat) (o : AOp) (h : ∀ t ∈ o.tm, st'.env t = st.env t) : foot st' d o = foot st d o := by
  cases o with
  | load ag n x => simp only [foot]; rw [evo_congr x h]
  | store n x y =>
    simp only [AOp.tm, List.mem_append] at h
    simp only [foot]; rw [evo_congr x (fun t ht => h t (.inl ht))]
  | app own k bytes x y =>
    simp only [AOp.tm, List.mem_append] at h
    simp only [foot]; rw [evo_congr x (fun t ht => h t (.inl ht))]
  | call f xs => simp only [foot]; rw [names_congr xs h]
  | callv x xs => simp only [foot]; rw [names_congr (x :: xs) (by simpa [AOp.tm] using h)]
  | _ => rfl

/-- What an operation touches: what 'foot' says, or nothing. -/
def keys (f : Option (List Nat × List Nat)) : List Nat := match f with | some f => f.1 ++ f.2 | none => []
def wkeys (f : Option (List Nat × List Nat)) : List Nat := match f with | some f => f.2 | none => []
theorem keys_orNone (l : List Nat) : keys (orNone l) = l := by cases l <;> rfl
theorem wkeys_orNone (l : List Nat) : wkeys (orNone l) = l := by cases l <;> rfl

def namesV : AV → List Nat
  | .ptr s _ _ => [2 * s]
  | .own _ _ s _ _ => [2 * s]
  | .lnd _ _ s _ _ => [2 * s]
  | .clo _ caps => caps.flatMap fun
    | .ptr s _ _ => [2 * s]
    | .own _ _ s _ _ => [2 * s]
    | .lnd _ _ s _ _ => [2 * s]
    | _ => []
  | _ => []
def names1 : AV → List Nat
  | .ptr s _ _ => [2 * s]
  | .own _ _ s _ _ => [2 * s]
  | .lnd _ _ s _ _ => [2 * s]
  | _ => []
theorem names_eq (e : Env) (l : List Opd) : names e l = l.flatMap fun x => match evo e x with | some v => namesV v | none => [] := by
  unfold names
  congr 1
  funext x
  cases evo e x with
  | none => rfl
  | some v => cases v <;> rfl
theorem pass1_congr {b b' : Bx} {x : AV} (h : ∀ s, 2 * s ∈ names1 x → b' s = b s) : pass1 b' x = pass1 b x := by
  cases x with
  | ptr s v o => simp only [pass1]; rw [h s (by simp [names1])]
  | own k ag s v n => simp only [pass1]; rw [h s (by simp [names1])]
  | lnd k ag s v n => simp only [pass1]; rw [h s (by simp [names1])]
  | _ => rfl
theorem passL_congr {b b' : Bx} : ∀ {l : List AV}, (∀ x ∈ l, ∀ s, 2 * s ∈ names1 x → b' s = b s) → passL b' l = passL b l
  | [], _ => rfl
  | x :: l, h => by
    simp only [passL]
    rw [pass1_congr (h x (by simp)), passL_congr (fun y hy => h y (by simp [hy]))]
theorem evos_mem {e : Env} : ∀ {l : List Opd} {rs : List AV}, evos e l = some rs → ∀ r ∈ rs, ∃ x ∈ l, evo e x = some r
  | [], rs, h, r, hr => by simp only [evos, Option.some.injEq] at h; subst h; simp at hr
  | x :: l, rs, h, r, hr => by
    simp only [evos] at h
    split at h
    · rename_i a l' h1 h2
      simp only [Option.some.injEq] at h
      subst h
      rcases List.mem_cons.1 hr with rfl | hr
      · exact ⟨x, by simp, h1⟩
      · obtain ⟨y, hy, e⟩ := evos_mem h2 r hr
        exact ⟨y, by simp [hy], e⟩
    · simp at h
theorem names1_sub {v : AV} : ∀ s ∈ names1 v, s ∈ namesV v := by
  intro s hs
  cases v <;> simp_all [names1, namesV]
theorem names_of {e : Env} {l : List Opd} {rs : List AV} (h : evos e l = some rs) : ∀ r ∈ rs, ∀ s ∈ names1 r, s ∈ names e l := by
  intro r hr s hs
  obtain ⟨x, hx, e1⟩ := evos_mem h r hr
  rw [names_eq]
  exact List.mem_flatMap.2 ⟨x, hx, by rw [e1]; exact names1_sub s hs⟩
theorem names_clo {e : Env} {l : List Opd} {x : Opd} (hx : x ∈ l) {f : Nat} {caps : List AV} (h : evo e x = some (.clo f caps)) : ∀ r ∈ caps, ∀ s ∈ names1 r, s ∈ names e l := by
  intro r hr s hs
  rw [names_eq]
  refine List.mem_flatMap.2 ⟨x, hx, ?_⟩
  rw [h]
  simp only [namesV]
  exact List.mem_flatMap.2 ⟨r, hr, by cases r <;> simp_all [names1]⟩
theorem callE_congr (D : Fun) {b b' : Bx} (f : Nat) {l : List AV} (h : ∀ x ∈ l, ∀ s, 2 * s ∈ names1 x → b' s = b s) : callE D b' f l = callE D b f l := by
  unfold callE
  rw [passL_congr h]

theorem step_same (D : Fun) {st st' : St} (d : Option Nat) (o : AOp) (h : ∀ t ∈ o.tm, st'.env t = st.env t) (hb : st'.bx = st.bx) (hp : st'.pm = st.pm) : step D d st' o = step D d st o := by
  have hfl := flat_congr (e := st.env) (e' := st'.env) o h
  obtain ⟨e, b, p, df⟩ := st
  obtain ⟨e', b', p', df'⟩ := st'
  simp only at hb hp
  subst hb hp
  cases o with
  | alloc z => rfl
  | box x => simp only [step]; rw [evo_congr x h]
  | load ag n x => simp only [step]; rw [evo_congr x h]
  | store n x y =>
    simp only [AOp.tm, List.mem_append] at h
    simp only [step]; rw [evo_congr x (fun t ht => h t (.inl ht)), evo_congr y (fun t ht => h t (.inr ht))]
  | app own k bytes x y =>
    simp only [AOp.tm, List.mem_append] at h
    simp only [step]; rw [evo_congr x (fun t ht => h t (.inl ht)), evo_congr y (fun t ht => h t (.inr ht))]
  | call f xs => simp only [step]; rw [evos_congr xs h]
  | callv x xs =>
    simp only [AOp.tm, List.mem_append] at h
    simp only [step]; rw [evo_congr x (fun t ht => h t (.inl ht)), evos_congr xs (fun t ht => h t (.inr ht))]
  | callr f xs => simp only [step]; rw [evos_congr xs h]
  | ins f x i y =>
    simp only [AOp.tm, List.mem_append] at h
    simp only [step]
    rw [evo_congr x (fun t ht => h t (.inl (.inl ht))), evo_congr i (fun t ht => h t (.inl (.inr ht))), evo_congr y (fun t ht => h t (.inr ht))]
  | wrs f x xs =>
    simp only [AOp.tm, List.mem_append] at h
    simp only [step]; rw [evo_congr x (fun t ht => h t (.inl ht)), evos_congr xs (fun t ht => h t (.inr ht))]
    rfl
  | bstr f x => simp only [step]; rw [evo_congr x h]; rfl
  | mkmap => rfl
  | mput x k y =>
    simp only [AOp.tm, List.mem_append] at h
    simp only [step]
    rw [evo_congr x (fun t ht => h t (.inl (.inl ht))), evo_congr k (fun t ht => h t (.inl (.inr ht))), evo_congr y (fun t ht => h t (.inr ht))]
    rfl
  | mget x k =>
    simp only [AOp.tm, List.mem_append] at h
    simp only [step]; rw [evo_congr x (fun t ht => h t (.inl ht)), evo_congr k (fun t ht => h t (.inr ht))]
    rfl
  | mkown k bytes ag z x y =>
    simp only [AOp.tm, List.mem_append] at h
    simp only [step]; rw [evo_congr x (fun t ht => h t (.inl ht)), evo_congr y (fun t ht => h t (.inr ht))]
  | _ => simp only [step]; rw [hfl]

theorem step_congr (D : Fun) {st st' : St} (d : Option Nat) (o : AOp) (hbr : barrier o = false) (h : Alike st st' o.tm (keys (foot st d o))) : step D d st' o = step D d st o := by
  have hfl := flat_congr (e := st.env) (e' := st'.env) o h.env
  cases o with
  | alloc z =>
    cases d with
    | none => rfl
    | some d => simp only [step, nextB]; rw [h.bx d (by simp [foot, keys])]
  | box x =>
    cases d with
    | none => rfl
    | some d =>
      have hn : nextB st'.bx d = nextB st.bx d := by unfold nextB; rw [h.bx d (by simp [foot, keys])]
      simp only [step]
      rw [evo_congr x h.env]
      cases evo st.env x with
      | none => rfl
      | some v => simp only []; rw [hn]
  | load ag n x =>
    simp only [step]
    rw [evo_congr x h.env]
    cases hx : evo st.env x with
    | none => rfl
    | some v =>
      cases v with
      | ptr s r o => simp only []; rw [h.bx s (by simp [foot, keys, hx])]
      | _ => rfl
  | store n x y =>
    have he := h.env
    simp only [AOp.tm, List.mem_append] at he
    simp only [step]
    rw [evo_congr x (fun t ht => he t (.inl ht)), evo_congr y (fun t ht => he t (.inr ht))]
    cases hx : evo st.env x with
    | none => rfl
    | some v =>
      cases v with
      | ptr s r o =>
        have hb := h.bx s (by simp [foot, keys, hx])
        cases evo st.env y with
        | none => rfl
        | some a => simp only []; rw [hb]
      | _ => rfl
  | app own k bytes x y =>
    have he := h.env
    simp only [AOp.tm, List.mem_append] at he
    simp only [step]
    rw [evo_congr x (fun t ht => he t (.inl ht)), evo_congr y (fun t ht => he t (.inr ht))]
    cases hx : evo st.env x with
    | none => cases d <;> rfl
    | some v =>
      cases v with
      | own k' ag s v n =>
        have hb := h.bx s (by cases d <;> simp [foot, keys, hx])
        cases evo st.env y with
        | none => cases d <;> rfl
        | some u =>
          cases u with
          | sl k'' ys q => cases d <;> (simp only []; rw [hb])
          | _ => cases d <;> rfl
      | sl k' xs p =>
        cases d with
        | none => rfl
        | some d =>
          have hd : nextP st'.pm d = nextP st.pm d := by unfold nextP; rw [h.pm d (by cases p <;> simp [foot, keys, hx])]
          cases evo st.env y with
          | none => rfl
          | some u =>
            cases u with
            | sl k'' ys q =>
              simp only []
              rw [hd]
              cases p with
              | tok s r => simp only []; rw [h.pm s (by simp [foot, keys, hx])]
              | nil => simp only [nextB]; rw [h.bx d (by simp [foot, keys, hx])]
              | _ => rfl
            | _ => rfl
      | _ => cases d <;> rfl
  | call f xs =>
    have hks := h.bx
    simp only [foot, keys_orNone] at hks
    simp only [step]
    rw [evos_congr xs h.env]
    cases hl : evos st.env xs with
    | none => rfl
    | some l => exact callE_congr D f fun x hx s hs => hks s (names_of hl x hx _ hs)
  | callv x xs =>
    have he := h.env
    simp only [AOp.tm, List.mem_append] at he
    have hks := h.bx
    simp only [foot, keys_orNone] at hks
    simp only [step]
    rw [evo_congr x (fun t ht => he t (.inl ht)), evos_congr xs (fun t ht => he t (.inr ht))]
    cases hx : evo st.env x with
    | none => rfl
    | some v =>
      cases v with
      | clo f caps =>
        cases hl : evos st.env xs with
        | none => rfl
        | some l =>
          refine callE_congr D f fun y hy s hs => hks s ?_
          rcases List.mem_append.1 hy with hy | hy
          · have h1 := names_of hl y hy _ hs
            rw [names_eq] at h1 ⊢
            simp only [List.flatMap_cons, List.mem_append]
            exact .inr h1
          · exact names_clo (by simp) hx y hy _ hs
      | met f =>
        cases hl : evos st.env xs with
        | none => rfl
        | some l =>
          refine callE_congr D f fun y hy s hs => hks s ?_
          rcases List.mem_cons.1 hy with rfl | hy
          · simp [names1] at hs
          · have h1 := names_of hl y hy _ hs
            rw [names_eq] at h1 ⊢
            simp only [List.flatMap_cons, List.mem_append]
            exact .inr h1
      | _ => rfl
  | callr f xs => simp [barrier] at hbr
  | ins f x i y => simp [barrier] at hbr
  | wrs f x xs => simp [barrier] at hbr
  | bstr f x => simp [barrier] at hbr
  | mkmap => simp [barrier] at hbr
  | mput x k y => simp [barrier] at hbr
  | mget x k => simp [barrier] at hbr
  | mkown k bytes ag z x y => simp [barrier] at hbr
  | _ => simp only [step]; rw [hfl]

theorem updL_comm {α : Type} (l m : List (Nat × α)) : ∀ (f : Nat → Option α), (∀ x ∈ l, ∀ y ∈ m, x.1 ≠ y.1) → updL (updL f l) m = updL (updL f m) l := by
  have one : ∀ (m : List (Nat × α)) (f : Nat → Option α) (i : Nat) (a : α), (∀ y ∈ m, i ≠ y.1) → updL (upd f i a) m = upd (updL f m) i a := by
    intro m
    induction m with
    | nil => intros; rfl
    | cons y m ih =>
      intro f i a h
      simp only [updL]
      rw [upd_comm f a y.2 (h y (by simp))]
      exact ih _ i a (fun z hz => h z (by simp [hz]))
  induction l with
  | nil => intros; rfl
  | cons x l ih =>
    intro f h
    simp only [updL]
    rw [ih _ (fun z hz => h z (by simp [hz])), one m f x.1 x.2 (fun y hy => h x (by simp) y hy)]
theorem updL_ne {α : Type} (l : List (Nat × α)) : ∀ (f : Nat → Option α) (i : Nat), (∀ x ∈ l, x.1 ≠ i) → updL f l i = f i := by
  induction l with
  | nil => intros; rfl
  | cons x l ih =>
    intro f i h
    simp only [updL]
    rw [ih _ i (fun z hz => h z (by simp [hz]))]
    exact upd_ne _ _ (h x (by simp))

theorem pass1_names {b : Bx} {x y : AV} {ts : List (Nat × Nat × Option Nat)} (h : pass1 b x = some (y, ts)) : ∀ t ∈ ts, 2 * t.1 ∈ names1 x := by
  unfold pass1 at h
  split at h
  · split at h
    · split at h
      · simp only [Option.some.injEq, Prod.mk.injEq] at h; obtain ⟨_, rfl⟩ := h; simp [names1]
      · simp at h
    · simp at h
  · split at h
    · split at h
      · obtain ⟨xs, _, h⟩ := Option.map_eq_some_iff.1 h
        simp only [Prod.mk.injEq] at h; obtain ⟨_, rfl⟩ := h; simp [names1]
      · simp at h
    · simp at h
  · split at h
    · split at h
      · simp only [Option.some.injEq, Prod.mk.injEq] at h; obtain ⟨_, rfl⟩ := h; simp [names1]
      · simp at h
    · simp at h
  · simp only [Option.some.injEq, Prod.mk.injEq] at h; obtain ⟨_, rfl⟩ := h; simp
theorem passL_names {b : Bx} : ∀ {l l' : List AV} {ts : List (Nat × Nat × Option Nat)}, passL b l = some (l', ts) → ∀ t ∈ ts, ∃ x ∈ l, 2 * t.1 ∈ names1 x
  | [], l', ts, h => by simp only [passL, Option.some.injEq, Prod.mk.injEq] at h; obtain ⟨_, rfl⟩ := h; simp
  | x :: l, l', ts, h => by
    simp only [passL] at h
    split at h
    · rename_i y t l2 ts2 h1 h2
      split at h
      · simp only [Option.some.injEq, Prod.mk.injEq] at h
        obtain ⟨_, rfl⟩ := h
        intro u hu
        rcases List.mem_append.1 hu with hu | hu
        · exact ⟨x, by simp, pass1_names h1 u hu⟩
        · obtain ⟨z, hz, e⟩ := passL_names h2 u hu
          exact ⟨z, by simp [hz], e⟩
      · simp at h
    · simp at h
theorem comeB_names : ∀ {ts : List (Nat × Nat × Option Nat)} {rs : List (List AV)} {b : List (Nat × Nat × List AV)}, comeB ts rs = some b → ∀ x ∈ b, ∃ t ∈ ts, t.1 = x.1
  | [], [], b, h => by simp only [comeB, Option.some.injEq] at h; subst h; simp
  | [], _ :: _, b, h => by simp [comeB] at h
  | (s, v, none) :: ts, rs, b, h => by
    simp only [comeB] at h
    obtain ⟨b', h1, rfl⟩ := Option.map_eq_some_iff.1 h
    intro x hx
    rcases List.mem_cons.1 hx with rfl | hx
    · exact ⟨_, List.mem_cons_self, rfl⟩
    · obtain ⟨t, ht, e⟩ := comeB_names h1 x hx
      exact ⟨t, by simp [ht], e⟩
  | (s, v, some n) :: ts, [], b, h => by simp [comeB] at h
  | (s, v, some n) :: ts, cs :: rs, b, h => by
    simp only [comeB] at h
    split at h
    · obtain ⟨b', h1, rfl⟩ := Option.map_eq_some_iff.1 h
      intro x hx
      rcases List.mem_cons.1 hx with rfl | hx
      · exact ⟨_, List.mem_cons_self, rfl⟩
      · obtain ⟨t, ht, e⟩ := comeB_names h1 x hx
        exact ⟨t, by simp [ht], e⟩
    · simp at h
theorem comeR_names {ts : List (Nat × Nat × Option Nat)} {r : AV} {e : Eff} (h : comeR ts r = some e) : (∀ x ∈ e.b, ∃ t ∈ ts, t.1 = x.1) ∧ e.p = [] := by
  unfold comeR at h
  split at h
  · obtain ⟨b, h1, rfl⟩ := Option.map_eq_some_iff.1 h
    exact ⟨comeB_names h1, rfl⟩
  · split at h
    · obtain ⟨b, h1, rfl⟩ := Option.map_eq_some_iff.1 h
      exact ⟨comeB_names h1, rfl⟩
    · simp at h
theorem callE_names {D : Fun} {b : Bx} {f : Nat} {l : List AV} {e : Eff} (h : callE D b f l = some e) : (∀ x ∈ e.b, ∃ y ∈ l, 2 * x.1 ∈ names1 y) ∧ e.p = [] := by
  unfold callE at h
  split at h
  · rename_i l' ts hp
    obtain ⟨r, _, hr⟩ := Option.bind_eq_some_iff.1 h
    obtain ⟨h1, h2⟩ := comeR_names hr
    refine ⟨fun x hx => ?_, h2⟩
    obtain ⟨t, ht, e1⟩ := h1 x hx
    obtain ⟨y, hy, e2⟩ := passL_names hp t ht
    exact ⟨y, hy, by rw [← e1]; exact e2⟩
  · simp at h

/-- What it writes is what 'foot' says. -/
theorem step_keys (D : Fun) {st : St} {d : Option Nat} {o : AOp} (hbr : barrier o = false) {e : Eff} (h : step D d st o = some e) :
    (∀ x ∈ e.b, 2 * x.1 ∈ wkeys (foot st d o)) ∧ ∀ x ∈ e.p, 2 * x.1 + 1 ∈ wkeys (foot st d o) := by
  cases o with
  | alloc z =>
    cases d with
    | none => simp [step] at h
    | some d =>
      simp only [step] at h
      split at h
      · simp only [Option.some.injEq] at h; subst h; simp [foot, wkeys]
      · simp at h
  | box x =>
    cases d with
    | none => simp [step] at h
    | some d =>
      simp only [step] at h
      cases hx : evo st.env x with
      | none => rw [hx] at h; simp at h
      | some v =>
        rw [hx] at h
        simp only [] at h
        split at h
        · simp only [Option.some.injEq] at h; subst h; simp [foot, wkeys]
        · simp at h
  | load ag n x =>
    simp only [step] at h
    split at h
    · split at h
      · split at h
        · obtain ⟨r, _, rfl⟩ := Option.map_eq_some_iff.1 h; simp
        · simp at h
      · simp at h
    · split at h
      · obtain ⟨r, _, rfl⟩ := Option.map_eq_some_iff.1 h; simp
      · simp at h
    · simp at h
  | store n x y =>
    simp only [step] at h
    split at h
    · rename_i hx _
      split at h
      · split at h
        · obtain ⟨r, _, h⟩ := Option.bind_eq_some_iff.1 h
          split at h
          · simp only [Option.some.injEq] at h; subst h
            simp [foot, wkeys, hx]
          · simp at h
        · simp at h
      · simp at h
    · simp at h
  | app own k bytes x y =>
    simp only [step] at h
    split at h
    · rename_i hx _
      split at h
      · split at h
        · simp at h
        · split at h
          · simp only [Option.some.injEq] at h; subst h; simp [foot, wkeys, hx]
          · split at h
            · simp only [Option.some.injEq] at h; subst h; simp
            · split at h
              · simp only [Option.some.injEq] at h; subst h; simp [foot, wkeys, hx]
              · simp at h
        · split at h
          · simp only [Option.some.injEq] at h; subst h; simp
          · simp only [Option.some.injEq] at h; subst h; simp [foot, wkeys, hx]
        · split at h
          · split at h
            · simp only [Option.some.injEq] at h; subst h; simp [foot, wkeys, hx]
            · simp at h
          · simp at h
      · simp at h
    · rename_i hx _
      split at h
      · split at h
        · simp only [Option.some.injEq] at h; subst h
          simp [foot, hx, wkeys]
        · simp at h
      · simp at h
    · simp at h
  | call f xs =>
    simp only [step] at h
    split at h
    · rename_i l hl
      obtain ⟨h1, h2⟩ := callE_names h
      rw [h2]
      simp only [foot, wkeys_orNone]
      refine ⟨fun x hx => ?_, by simp⟩
      obtain ⟨y, hy, hs⟩ := h1 x hx
      exact names_of hl y hy _ hs
    · simp at h
  | callv x xs =>
    simp only [step] at h
    split at h
    · rename_i f caps l hx hl
      obtain ⟨h1, h2⟩ := callE_names h
      rw [h2]
      simp only [foot, wkeys_orNone]
      refine ⟨fun z hz => ?_, by simp⟩
      obtain ⟨y, hy, hs⟩ := h1 z hz
      rcases List.mem_append.1 hy with hy | hy
      · have h1 := names_of hl y hy _ hs
        rw [names_eq] at h1 ⊢
        simp only [List.flatMap_cons, List.mem_append]
        exact .inr h1
      · exact names_clo (by simp) hx y hy _ hs
    · rename_i f l hx hl
      obtain ⟨h1, h2⟩ := callE_names h
      rw [h2]
      simp only [foot, wkeys_orNone]
      refine ⟨fun z hz => ?_, by simp⟩
      obtain ⟨y, hy, hs⟩ := h1 z hz
      rcases List.mem_cons.1 hy with rfl | hy
      · simp [names1] at hs
      · have h1 := names_of hl y hy _ hs
        rw [names_eq] at h1 ⊢
        simp only [List.flatMap_cons, List.mem_append]
        exact .inr h1
    · simp at h
  | callr f xs => simp [barrier] at hbr
  | ins f x i y => simp [barrier] at hbr
  | wrs f x xs => simp [barrier] at hbr
  | bstr f x => simp [barrier] at hbr
  | mkmap => simp [barrier] at hbr
  | mput x k y => simp [barrier] at hbr
  | mget x k => simp [barrier] at hbr
  | mkown k bytes ag z x y => simp [barrier] at hbr
  | _ =>
    simp only [step] at h
    obtain ⟨r, _, rfl⟩ := Option.map_eq_some_iff.1 h
    simp

/-- The slots of two operations are not at odds. -/
def apartT (x y : AOper) : Bool :=
  (match x.d with | some d => !y.tm.contains d && y.d != some d | none => true) && (match y.d with | some d => !x.tm.contains d | none => true)
def apartF (a b : Option (List Nat × List Nat)) : Bool := match a, b with | some a, some b => apart a b | _, _ => true

theorem setd_ne {e : Env} {d : Option Nat} {v : AV} {t : Nat} (h : d ≠ some t) : setd e d v t = e t := by
  cases d with
  | none => rfl
  | some d => exact upd_ne _ _ (fun e => h (by rw [e]))
theorem setd_comm {e : Env} {d d' : Option Nat} (v u : AV) (h : ∀ t, d = some t → d' ≠ some t) : setd (setd e d v) d' u = setd (setd e d' u) d v := by
  cases d with
  | none => cases d' <;> rfl
  | some d => cases d' with
    | none => rfl
    | some d' => exact upd_comm _ _ _ (fun e => h d rfl (by rw [e]))

theorem stepG_same (D : Fun) {st st' : St} (o : AOper) (h : ∀ t ∈ o.tm, st'.env t = st.env t) (hb : st'.bx = st.bx) (hp : st'.pm = st.pm) : stepG D st' o = stepG D st o := by
  have hs := step_same D (st := st) (st' := st') o.d o.op (fun t ht => h t (by simp [AOper.tm, ht])) hb hp
  unfold stepG
  cases hg : o.g with
  | none => exact hs
  | some g =>
    obtain ⟨j, want⟩ := g
    simp only []
    rw [h j (by simp [AOper.tm, hg]), hs]
theorem stepG_congr (D : Fun) {st st' : St} (o : AOper) (hbr : barrier o.op = false) (h : Alike st st' o.tm (keys (foot st o.d o.op))) : stepG D st' o = stepG D st o := by
  have hs := step_congr D (st := st) (st' := st') o.d o.op hbr ⟨fun t ht => h.env t (by simp [AOper.tm, ht]), h.bx, h.pm⟩
  unfold stepG
  cases hg : o.g with
  | none => exact hs
  | some g =>
    obtain ⟨j, want⟩ := g
    simp only []
    rw [h.env j (by simp [AOper.tm, hg]), hs]
theorem stepG_keys (D : Fun) {st : St} {o : AOper} (hbr : barrier o.op = false) {e : Eff} (h : stepG D st o = some e) :
    (∀ x ∈ e.b, 2 * x.1 ∈ wkeys (foot st o.d o.op)) ∧ ∀ x ∈ e.p, 2 * x.1 + 1 ∈ wkeys (foot st o.d o.op) := by
  unfold stepG at h
  split at h
  · exact step_keys D hbr h
  · split at h
    · split at h
      · exact step_keys D hbr h
      · simp only [Option.some.injEq] at h; subst h; simp
    · simp only [Option.some.injEq] at h; subst h; simp
    · simp at h

theorem apartF_spec {a b : Option (List Nat × List Nat)} (h : apartF a b = true) : (∀ x ∈ wkeys a, x ∉ keys b) ∧ ∀ x ∈ keys a, x ∉ wkeys b := by
  cases a with
  | none => simp [keys, wkeys]
  | some a =>
    cases b with
    | none => simp [keys, wkeys]
    | some b =>
      simp only [apartF, apart, Bool.and_eq_true, List.all_eq_true, Bool.not_eq_true', List.contains_eq_mem, decide_eq_false_iff_not] at h
      obtain ⟨h1, h2⟩ := h
      constructor
      · intro x hx
        simp only [keys, List.mem_append, not_or]
        exact h1 x hx
      · intro x hx
        simp only [keys, List.mem_append] at hx
        rcases hx with hx | hx
        · exact h2 x hx
        · exact (h1 x hx).2

/-- Two operations of which the second may come first. -/
theorem swapG (D : Fun) {x y : AOper} {st : St} {ex ey : Eff} (hx : stepG D st x = some ex) (hy : stepG D (eff st x.d ex) y = some ey) (hT : apartT x y = true) (hbx : barrier x.op = false)
    (hF : apartF (foot st x.d x.op) (foot (eff st x.d ex) y.d y.op) = true) (hbar : barrier y.op = true → foot st x.d x.op = none) :
    foot st y.d y.op = foot (eff st x.d ex) y.d y.op ∧ stepG D st y = some ey ∧ foot (eff st y.d ey) x.d x.op = foot st x.d x.op ∧ stepG D (eff st y.d ey) x = some ex ∧ eff (eff st y.d ey) x.d ex = eff (eff st x.d ex) y.d ey := by
  simp only [apartT, Bool.and_eq_true] at hT
  obtain ⟨hT1, hT2⟩ := hT
  have hd1 : ∀ t ∈ y.tm, x.d ≠ some t := by
    intro t ht e
    rw [e] at hT1
    simp [ht] at hT1
  have hdd : ∀ t, x.d = some t → y.d ≠ some t := by
    intro t e e'
    rw [e, e'] at hT1
    simp at hT1
  have hd2 : ∀ t ∈ x.tm, y.d ≠ some t := by
    intro t ht e
    rw [e] at hT2
    simp [ht] at hT2
  have hfy : foot st y.d y.op = foot (eff st x.d ex) y.d y.op := by
    refine foot_congr (st := eff st x.d ex) (st' := st) y.d y.op fun t ht => ?_
    exact (setd_ne (hd1 t (by simp [AOper.tm, ht]))).symm
  have kx := stepG_keys D hbx hx
  have hfx : foot (eff st y.d ey) x.d x.op = foot st x.d x.op := foot_congr (st := st) (st' := eff st y.d ey) x.d x.op fun t ht => setd_ne (hd2 t (by simp [AOper.tm, ht]))
  cases hby : barrier y.op with
  | true =>
    have hn := hbar hby
    rw [hn] at kx
    have hb0 : ex.b = [] := List.eq_nil_iff_forall_not_mem.2 fun z hz => by have := kx.1 z hz; simp [wkeys] at this
    have hp0 : ex.p = [] := List.eq_nil_iff_forall_not_mem.2 fun z hz => by have := kx.2 z hz; simp [wkeys] at this
    have hy' : stepG D st y = some ey := by
      rw [← hy]
      exact stepG_same D (st := eff st x.d ex) (st' := st) y (fun t ht => (setd_ne (hd1 t ht)).symm) (by simp [eff, hb0, updL]) (by simp [eff, hp0, updL])
    refine ⟨hfy, hy', hfx, ?_, ?_⟩
    · rw [← hx]
      exact stepG_congr D (st := st) (st' := eff st y.d ey) x hbx ⟨fun t ht => setd_ne (hd2 t ht), by rw [hn]; simp [keys], by rw [hn]; simp [keys]⟩
    · simp only [eff, hb0, hp0, updL]
      rw [setd_comm ex.v ey.v hdd]
  | false =>
    have ky := stepG_keys D hby hy
    obtain ⟨hA, hB⟩ := apartF_spec hF
    have hy' : stepG D st y = some ey := by
      rw [← hy]
      refine stepG_congr D (st := eff st x.d ex) (st' := st) y hby ⟨fun t ht => (setd_ne (hd1 t ht)).symm, fun s hs => ?_, fun s hs => ?_⟩
      · exact (updL_ne _ _ _ (fun z hz e => hA _ (kx.1 z hz) (by rw [e]; exact hs))).symm
      · exact (updL_ne _ _ _ (fun z hz e => hA _ (kx.2 z hz) (by rw [e]; exact hs))).symm
    refine ⟨hfy, hy', hfx, ?_, ?_⟩
    · rw [← hx]
      refine stepG_congr D (st := st) (st' := eff st y.d ey) x hbx ⟨fun t ht => setd_ne (hd2 t ht), fun s hs => ?_, fun s hs => ?_⟩
      · exact updL_ne _ _ _ (fun z hz e => hB _ hs (by rw [← e]; exact ky.1 z hz))
      · exact updL_ne _ _ _ (fun z hz e => hB _ hs (by rw [← e]; exact ky.2 z hz))
    · simp only [eff]
      have hne : ∀ w ∈ wkeys (foot st x.d x.op), w ∉ wkeys (foot (eff st x.d ex) y.d y.op) := by
        intro w hw hw'
        refine hA w hw ?_
        revert hw'
        cases foot (eff st x.d ex) y.d y.op <;> simp [keys, wkeys]
        intro h; exact .inr h
      rw [setd_comm ex.v ey.v hdd, updL_comm ex.b ey.b _ (fun z hz z' hz' e => hne _ (kx.1 z hz) (by rw [e]; exact ky.1 z' hz')),
        updL_comm ex.p ey.p _ (fun z hz z' hz' e => hne _ (kx.2 z hz) (by rw [e]; exact ky.2 z' hz'))]

/-! ### Rows of operations -/
abbrev RowE := Nat × AOper × Option (List Nat × List Nat)
abbrev Row := List RowE
def SeqR (D : Fun) : Row → St → St → Prop
  | [], st, r => st = r
  | x :: l, st, r => foot st x.2.1.d x.2.1.op = x.2.2 ∧ ∃ s, stepO D st x.2.1 = some (false, s) ∧ SeqR D l s r
/-- .. and then one that goes up. -/
def SeqP (D : Fun) (l : Row) (y : RowE) (st r : St) : Prop := ∃ s, SeqR D l st s ∧ foot s y.2.1.d y.2.1.op = y.2.2 ∧ stepO D s y.2.1 = some (true, r)
/-- The second may come first. -/
def apartX (x y : RowE) : Prop := apartF x.2.2 y.2.2 = true ∧ barrier x.2.1.op = false ∧ (barrier y.2.1.op = true → x.2.2 = none)
/-- It turns no box and no mark. -/
def idle (x : RowE) : Prop := wkeys x.2.2 = [] ∧ barrier x.2.1.op = false

theorem stepO_some {D : Fun} {st : St} {o : AOper} {p : Bool} {s : St} : stepO D st o = some (p, s) ↔ ∃ e, stepG D st o = some e ∧ e.pan = p ∧ eff st o.d e = s := by
  unfold stepO
  rw [Option.map_eq_some_iff]
  constructor
  · rintro ⟨e, h1, h2⟩
    simp only [Prod.mk.injEq] at h2
    exact ⟨e, h1, h2.1, h2.2⟩
  · rintro ⟨e, h1, h2, h3⟩
    exact ⟨e, h1, by rw [h2, h3]⟩

theorem SeqR.front (D : Fun) {y : RowE} (l2 : Row) : ∀ (l1 : Row) {st r : St}, SeqR D (l1 ++ y :: l2) st r →
    (∀ x ∈ l1, apartT x.2.1 y.2.1 = true ∧ apartX x y) → SeqR D (y :: (l1 ++ l2)) st r
  | [], _, _, h, _ => h
  | x :: l1, st, r, h, hi => by
    obtain ⟨hf, s, hs, h⟩ := h
    obtain ⟨hfy, s2, hs2, h⟩ := SeqR.front D l2 l1 h (fun z hz => hi z (by simp [hz]))
    obtain ⟨hT, hF, hbx, hbar⟩ := hi x (by simp)
    obtain ⟨ex, hex, hpx, rfl⟩ := stepO_some.1 hs
    obtain ⟨ey, hey, hpy, rfl⟩ := stepO_some.1 hs2
    obtain ⟨k1, k2, k3, k4, k5⟩ := swapG D hex hey hT hbx (by rw [hf, hfy]; exact hF) (fun hb => by rw [hf]; exact hbar hb)
    exact ⟨k1.trans hfy, _, stepO_some.2 ⟨ey, k2, hpy, rfl⟩, k3.trans hf, _, stepO_some.2 ⟨ex, k4, hpx, k5⟩, h⟩

theorem SeqP.front (D : Fun) {y : RowE} : ∀ (l : Row) {st r : St}, SeqP D l y st r → (∀ x ∈ l, apartT x.2.1 y.2.1 = true ∧ apartX x y ∧ idle x) →
    foot st y.2.1.d y.2.1.op = y.2.2 ∧ ∃ r', stepO D st y.2.1 = some (true, r') ∧ r'.bx = r.bx ∧ r'.pm = r.pm ∧ r'.df = r.df
  | [], st, r, h, _ => by
    obtain ⟨s, rfl, h1, h2⟩ := h
    exact ⟨h1, r, h2, rfl, rfl, rfl⟩
  | x :: l, st, r, h, hi => by
    obtain ⟨s0, ⟨hf, s, hs, h⟩, h1, h2⟩ := h
    obtain ⟨hfy, r1, hr1, e1, e2, e3⟩ := SeqP.front D l ⟨s0, h, h1, h2⟩ (fun z hz => hi z (by simp [hz]))
    obtain ⟨hT, ⟨hF, hbx, hbar⟩, hid⟩ := hi x (by simp)
    obtain ⟨ex, hex, hpx, rfl⟩ := stepO_some.1 hs
    obtain ⟨ey, hey, hpy, rfl⟩ := stepO_some.1 hr1
    obtain ⟨k1, k2, k3, k4, k5⟩ := swapG D hex hey hT hbx (by rw [hf, hfy]; exact hF) (fun hb => by rw [hf]; exact hbar hb)
    have kx := stepG_keys D hbx hex
    rw [hf, hid.1] at kx
    have hb0 : ex.b = [] := List.eq_nil_iff_forall_not_mem.2 fun z hz => by have := kx.1 z hz; simp at this
    have hp0 : ex.p = [] := List.eq_nil_iff_forall_not_mem.2 fun z hz => by have := kx.2 z hz; simp at this
    refine ⟨k1.trans hfy, _, stepO_some.2 ⟨ey, k2, hpy, rfl⟩, ?_, ?_, ?_⟩
    · rw [← e1]; simp [eff, hb0, updL]
    · rw [← e2]; simp [eff, hp0, updL]
    · rw [← e3]; rfl

/-- A row is these operations, numbered from i on. -/
def Numbered : Row → Nat → List AOper → Prop
  | [], _, [] => True
  | x :: l, i, o :: os => x.1 = i ∧ x.2.1 = o ∧ Numbered l (i + 1) os
  | _, _, _ => False

theorem Numbered.mem : ∀ {l : Row} {i : Nat} {os : List AOper}, Numbered l i os → ∀ x ∈ l, i ≤ x.1 ∧ os[x.1 - i]? = some x.2.1
  | [], _, _, _, _, hx => by simp at hx
  | y :: l, i, [], h, _, _ => h.elim
  | y :: l, i, o :: os, ⟨h1, h2, h3⟩, x, hx => by
    rcases List.mem_cons.1 hx with rfl | hx
    · subst h1 h2; simp
    · obtain ⟨ha, hb⟩ := Numbered.mem h3 x hx
      refine ⟨by omega, ?_⟩
      obtain ⟨k, hk⟩ : ∃ k, x.1 - i = k + 1 := ⟨x.1 - i - 1, by omega⟩
      rw [hk, List.getElem?_cons_succ, ← hb]
      congr 1
      omega
theorem Numbered.has : ∀ {l : Row} {i : Nat} {os : List AOper}, Numbered l i os → ∀ j, j < os.length → ∃ x ∈ l, x.1 = i + j
  | [], _, [], _, _, hj => by simp at hj
  | [], _, _ :: _, h, _, _ => h.elim
  | y :: l, i, [], h, _, _ => h.elim
  | y :: l, i, o :: os, ⟨h1, h2, h3⟩, j, hj => by
    cases j with
    | zero => exact ⟨y, by simp, by omega⟩
    | succ j =>
      obtain ⟨x, hx, e⟩ := Numbered.has h3 j (by simpa using hj)
      exact ⟨x, by simp [hx], by omega⟩
theorem Numbered.nodup : ∀ {l : Row} {i : Nat} {os : List AOper}, Numbered l i os → l.Pairwise fun x y => x.1 < y.1
  | [], _, _, _ => .nil
  | y :: l, i, [], h => h.elim
  | y :: l, i, o :: os, ⟨h1, _, h3⟩ => List.pairwise_cons.2 ⟨fun x hx => by have := (Numbered.mem h3 x hx).1; omega, Numbered.nodup h3⟩
theorem Numbered.length : ∀ {l : Row} {i : Nat} {os : List AOper}, Numbered l i os → l.length = os.length
  | [], _, [], _ => rfl
  | [], _, _ :: _, h => h.elim
  | y :: l, i, [], h => h.elim
  | y :: l, i, o :: os, ⟨_, _, h3⟩ => by simp [Numbered.length h3]

/-- Of two in their order. -/
def okPair (x y : RowE) : Prop := x.1 ∈ y.2.1.bf ∨ apartX x y
theorem Numbered.os_mem {l : Row} {i : Nat} {os : List AOper} (h : Numbered l i os) : ∀ x ∈ l, x.2.1 ∈ os := fun x hx => List.mem_of_getElem? (h.mem x hx).2
theorem ahead_spec {i : Nat} {os : List AOper} (h : ahead i os = true) : ∀ o ∈ os, i ∈ o.bf := by
  intro o ho
  have := List.all_eq_true.1 h o ho
  simpa using this
theorem behind_spec {fs : List (Nat × List Nat × List Nat)} {o : AOper} {f : Option (List Nat × List Nat)} (h : behind fs o f = true) : ∀ g ∈ fs, g.1 ∈ o.bf ∨ (apartF (some g.2) f = true ∧ barrier o.op = false) := by
  intro g hg
  unfold behind at h
  split at h
  · have := List.all_eq_true.1 h g hg
    exact .inl (by simpa using this)
  · rename_i hb
    cases f with
    | none => exact .inr ⟨rfl, by simpa using hb⟩
    | some f =>
      have := List.all_eq_true.1 h g hg
      simp only [Bool.or_eq_true, List.contains_eq_mem, decide_eq_true_eq] at this
      rcases this with h | h
      · exact .inl h
      · exact .inr ⟨h, by simpa using hb⟩
theorem mem_withF {i : Nat} {f : Option (List Nat × List Nat)} {fs : List (Nat × List Nat × List Nat)} {g : Nat × List Nat × List Nat} : g ∈ withF i f fs ↔ (∃ v, f = some v ∧ g = (i, v)) ∨ g ∈ fs := by
  cases f <;> simp [withF]

/-- What 'stepsD' tells of the row that it is: of those that have been, with their feet in fs. -/
structure RowD (fs : List (Nat × List Nat × List Nat)) (l : Row) : Prop where
  pre : ∀ g ∈ fs, ∀ x ∈ l, g.1 ∈ x.2.1.bf ∨ (apartF (some g.2) x.2.2 = true ∧ barrier x.2.1.op = false)
  pairs : l.Pairwise okPair
theorem RowD.cons {i : Nat} {o : AOper} {os : List AOper} {f : Option (List Nat × List Nat)} {fs : List (Nat × List Nat × List Nat)} {l : Row} (hb : behind fs o f = true) (ha : barrier o.op = false ∨ ahead i os = true)
    (hos : ∀ x ∈ l, x.2.1 ∈ os) (h : RowD (withF i f fs) l) : RowD fs ((i, o, f) :: l) := by
  refine ⟨fun g hg x hx => ?_, List.pairwise_cons.2 ⟨fun x hx => ?_, h.pairs⟩⟩
  · rcases List.mem_cons.1 hx with rfl | hx
    · exact behind_spec hb g hg
    · exact h.pre g (mem_withF.2 (.inr hg)) x hx
  · rcases ha with ha | ha
    · cases f with
      | none => exact .inr ⟨rfl, ha, fun _ => rfl⟩
      | some v =>
        rcases h.pre (i, v) (mem_withF.2 (.inl ⟨v, rfl, rfl⟩)) x hx with h1 | ⟨h1, h2⟩
        · exact .inl h1
        · exact .inr ⟨h1, ha, fun hb => by rw [h2] at hb; simp at hb⟩
    · exact .inl (ahead_spec ha _ (hos x hx))

theorem stepsD_row (D : Fun) : ∀ (os : List AOper) (i : Nat) (fs : List (Nat × List Nat × List Nat)) (st r : St), stepsD D i fs os st = some (.nrm, r) → ∃ l : Row, Numbered l i os ∧ SeqR D l st r ∧ RowD fs l
  | [], i, fs, st, r, h => by
    simp only [stepsD, Option.some.injEq, Prod.mk.injEq, true_and] at h
    exact ⟨[], trivial, h, by simp, .nil⟩
  | o :: os, i, fs, st, r, h => by
    unfold stepsD at h
    split at h
    · rename_i hc
      split at h
      · rename_i s hs
        obtain ⟨l, hn, hq, hd⟩ := stepsD_row D os (i + 1) _ s r h
        exact ⟨(i, o, foot st o.d o.op) :: l, ⟨rfl, rfl, hn⟩, ⟨rfl, s, hs, hq⟩, hd.cons hc.1 hc.2 hn.os_mem⟩
      · split at h <;> simp at h
      · simp at h
    · simp at h

/-- .. and where one goes up. -/
theorem stepsD_rowP (D : Fun) : ∀ (os : List AOper) (i : Nat) (fs : List (Nat × List Nat × List Nat)) (st r : St), stepsD D i fs os st = some (.pan, r) →
    ∃ (l : Row) (y : RowE) (os1 os2 : List AOper), os = os1 ++ y.2.1 :: os2 ∧ Numbered l i os1 ∧ y.1 = i + os1.length ∧ SeqP D l y st r ∧ RowD fs (l ++ [y]) ∧ (∀ g ∈ fs, g.1 ∈ y.2.1.bf ∨ g.2.2 = []) ∧
      (∀ x ∈ l, x.1 ∈ y.2.1.bf ∨ idle x) ∧ ahead y.1 os2 = true
  | [], i, fs, st, r, h => by simp [stepsD] at h
  | o :: os, i, fs, st, r, h => by
    unfold stepsD at h
    split at h
    · rename_i hc
      split at h
      · rename_i s hs
        obtain ⟨l, y, os1, os2, rfl, hn, hy, ⟨s0, hq, h1, h2⟩, hd, hfs, hl, ha⟩ := stepsD_rowP D os (i + 1) _ s r h
        refine ⟨(i, o, foot st o.d o.op) :: l, y, o :: os1, os2, rfl, ⟨rfl, rfl, hn⟩, by simp; omega, ⟨s0, ⟨rfl, s, hs, hq⟩, h1, h2⟩, ?_, fun g hg => hfs g (mem_withF.2 (.inr hg)), ?_, ha⟩
        · refine RowD.cons hc.1 hc.2 (fun x hx => ?_) hd
          rcases List.mem_append.1 hx with hx | hx
          · simp [hn.os_mem x hx]
          · simp only [List.mem_singleton] at hx; subst hx; simp
        · intro x hx
          rcases List.mem_cons.1 hx with rfl | hx
          · rcases hc.2 with hb | hb
            · cases hf : foot st o.d o.op with
              | none => exact .inr ⟨rfl, hb⟩
              | some v =>
                rcases hfs (i, v) (mem_withF.2 (.inl ⟨v, hf, rfl⟩)) with h3 | h3
                · exact .inl h3
                · exact .inr ⟨h3, hb⟩
            · exact .inl (ahead_spec hb _ (by simp))
          · exact hl x hx
      · rename_i s hs
        split at h
        · rename_i hp
          simp only [Option.some.injEq, Prod.mk.injEq, true_and] at h
          subst h
          refine ⟨[], (i, o, foot st o.d o.op), [], os, rfl, trivial, rfl, ⟨st, rfl, rfl, hs⟩, ?_, fun g hg => ?_, by simp, hp.2⟩
          · exact RowD.cons hc.1 hc.2 (by simp) ⟨by simp, .nil⟩
          · have := List.all_eq_true.1 hp.1 g hg
            simp only [Bool.or_eq_true, List.contains_eq_mem, decide_eq_true_eq, List.isEmpty_iff] at this
            exact this
        · simp at h
      · simp at h
    · simp at h
end Go.Proofs.YtpkeiffclipjmaaGreatDoor.Rx
