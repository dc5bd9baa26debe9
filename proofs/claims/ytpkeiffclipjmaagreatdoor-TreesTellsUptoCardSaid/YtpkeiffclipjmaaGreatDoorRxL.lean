/-
  Rx, part L: more rounds tell the same; what comes of a function, and of a row of code, with as many rounds as it takes; the equations of these.
-/
import Derived.Test.YtpkeiffclipjmaaGreatDoorRxA
namespace Go.Proofs.YtpkeiffclipjmaaGreatDoor.Rx
open Go

def LeO {α : Type} (a b : Option α) : Prop := ∀ r, a = some r → b = some r
theorem LeO.refl {α : Type} (a : Option α) : LeO a a := fun _ h => h
theorem LeO.trans {α : Type} {a b c : Option α} (h : LeO a b) (k : LeO b c) : LeO a c := fun r e => k r (h r e)
theorem LeO.bind {α β : Type} {a b : Option α} {f g : α → Option β} (h : LeO a b) (k : ∀ x, LeO (f x) (g x)) : LeO (a.bind f) (b.bind g) := by
  intro r e
  obtain ⟨x, hx, hr⟩ := Option.bind_eq_some_iff.1 e
  rw [h x hx]; exact k x r hr
theorem LeO.map {α β : Type} {a b : Option α} (f : α → β) (h : LeO a b) : LeO (a.map f) (b.map f) := by
  intro r e
  obtain ⟨x, hx, rfl⟩ := Option.map_eq_some_iff.1 e
  rw [h x hx]; rfl

abbrev Fun := Nat → List AV → Option AV
def LeD (D D' : Fun) : Prop := ∀ f l, LeO (D f l) (D' f l)

/-- What asks D finitely often: it tells r of a chain's end just if it does of a link. -/
structure Chain (C : Nat → Fun) (L : Fun) : Prop where
  mono : ∀ n m, n ≤ m → LeD (C n) (C m)
  lim : ∀ f l r, L f l = some r ↔ ∃ n, C n f l = some r
def Fnt {α : Type} (Φ : Fun → Option α) : Prop := ∀ C L, Chain C L → ∀ r, Φ L = some r ↔ ∃ n, Φ (C n) = some r
theorem Fnt.mono {α : Type} {Φ : Fun → Option α} (h : Fnt Φ) {D D' : Fun} (hD : LeD D D') : LeO (Φ D) (Φ D') := by
  intro r hr
  refine (h (fun n => if n = 0 then D else D') D' ⟨fun n m hnm => ?_, fun f l r => ⟨fun e => ⟨1, e⟩, ?_⟩⟩ r).2 ⟨0, hr⟩
  · by_cases hn : n = 0
    · by_cases hm : m = 0
      · simp only [hn, hm, if_true]; exact fun _ _ => LeO.refl _
      · simp only [hn, hm, if_true, if_false]; exact hD
    · have hm : m ≠ 0 := by omega
      simp only [hn, hm, if_false]; exact fun _ _ => LeO.refl _
  · rintro ⟨n, e⟩
    by_cases hn : n = 0
    · simp only [hn, if_true] at e; exact hD f l r e
    · simp only [hn, if_false] at e; exact e
theorem Fnt.const {α : Type} (x : Option α) : Fnt fun _ => x := fun _ _ _ _ => ⟨fun h => ⟨0, h⟩, fun ⟨_, h⟩ => h⟩
theorem Fnt.call (f : Nat) (l : List AV) : Fnt fun D => D f l := fun _ _ h r => h.lim f l r
theorem Fnt.bind {α β : Type} {Φ : Fun → Option α} {Ψ : α → Fun → Option β} (h : Fnt Φ) (k : ∀ a, Fnt (Ψ a)) : Fnt fun D => (Φ D).bind fun a => Ψ a D := by
  intro C L hC r
  simp only [Option.bind_eq_some_iff]
  constructor
  · rintro ⟨a, h1, h2⟩
    obtain ⟨n, hn⟩ := (h C L hC a).1 h1
    obtain ⟨m, hm⟩ := (k a C L hC r).1 h2
    exact ⟨max n m, a, h.mono (hC.mono _ _ (Nat.le_max_left n m)) a hn, (k a).mono (hC.mono _ _ (Nat.le_max_right n m)) r hm⟩
  · rintro ⟨n, a, h1, h2⟩
    exact ⟨a, (h C L hC a).2 ⟨n, h1⟩, (k a C L hC r).2 ⟨n, h2⟩⟩
theorem Fnt.map {α β : Type} {Φ : Fun → Option α} (f : α → β) (h : Fnt Φ) : Fnt fun D => (Φ D).map f := by
  have := h.bind (Ψ := fun a _ => some (f a)) fun a => Fnt.const _
  intro C L hC r
  have := this C L hC r
  simp only [Option.bind_eq_some_iff, Option.some.injEq] at this
  simpa only [Option.map_eq_some_iff] using this
theorem Fnt.of_eq {α : Type} {Φ Ψ : Fun → Option α} (h : Fnt Φ) (e : ∀ D, Ψ D = Φ D) : Fnt Ψ := by
  have : Ψ = Φ := funext e
  rw [this]; exact h

theorem Fnt.use {β : Type} (f : Nat) (l : List AV) (K : Option AV → Option β) (h : K none = none) : Fnt fun D => K (D f l) := by
  refine ((Fnt.call f l).bind (Ψ := fun a _ => K (some a)) fun a => Fnt.const _).of_eq fun D => ?_
  cases D f l with
  | none => exact h
  | some a => rfl

theorem callE_fnt (b : Bx) (f : Nat) (l : List AV) : Fnt fun D => callE D b f l := by
  unfold callE
  cases passL b l with
  | none => exact Fnt.const _
  | some x => exact (Fnt.call f x.1).bind fun a => Fnt.const _
theorem step_fnt (d : Option Nat) (st : St) (o : AOp) : Fnt fun D => step D d st o := by
  cases o <;> first | exact Fnt.const _ | skip
  case call f args =>
    simp only [step]
    cases evos st.env args with
    | none => exact Fnt.const _
    | some l => exact callE_fnt _ _ _
  case callv x args =>
    simp only [step]
    cases evo st.env x with
    | none => exact Fnt.const _
    | some y =>
      cases y <;> first | exact Fnt.const _ | skip
      all_goals
        cases evos st.env args with
        | none => exact Fnt.const _
        | some l => exact callE_fnt _ _ _
  case callr f args =>
    simp only [step]
    cases evos st.env args with
    | none => exact Fnt.const _
    | some l => exact callE_fnt _ _ _
  case ins f x i y =>
    simp only [step]
    split
    · split
      · split
        · split
          · exact Fnt.use _ _ (insK _ _ _ _) rfl
          · exact Fnt.const _
        · exact Fnt.const _
      · exact Fnt.const _
    · split
      · exact Fnt.use _ _ (insN _ _ _) rfl
      · exact Fnt.const _
    · exact Fnt.const _
  case wrs f x args =>
    simp only [step]
    split
    · exact Fnt.use _ _ (wrsK _ _ _ _) rfl
    · exact Fnt.const _
  case bstr f x =>
    simp only [step]
    split
    · exact Fnt.use _ _ (bstrK _ _ _) rfl
    · exact Fnt.const _
theorem stepG_fnt (st : St) (o : AOper) : Fnt fun D => stepG D st o := by
  unfold stepG
  split
  · exact step_fnt _ _ _
  · split
    · split
      · exact step_fnt _ _ _
      · exact Fnt.const _
    · exact Fnt.const _
    · exact Fnt.const _
theorem stepO_fnt (st : St) (o : AOper) : Fnt fun D => stepO D st o := (stepG_fnt st o).map _
theorem stepsO_fnt (os : List AOper) : ∀ st, Fnt fun D => stepsO D os st := by
  induction os with
  | nil => exact fun _ => Fnt.const _
  | cons o os ih =>
    intro st
    refine ((stepO_fnt st o).bind (Ψ := fun x D => match x with | (false, st') => stepsO D os st' | (true, st') => some (.pan, st')) fun x => ?_).of_eq fun D => ?_
    · obtain ⟨p, st'⟩ := x
      cases p
      · exact ih st'
      · exact Fnt.const _
    · simp only [stepsO]
      cases stepO D st o with
      | none => rfl
      | some x => obtain ⟨p, st'⟩ := x; cases p <;> rfl
theorem stepsD_fnt (os : List AOper) : ∀ i fs st, Fnt fun D => stepsD D i fs os st := by
  induction os with
  | nil => exact fun _ _ _ => Fnt.const _
  | cons o os ih =>
    intro i fs st
    unfold stepsD
    split
    · refine ((stepO_fnt st o).bind (Ψ := fun x D => match x with
        | (false, st') => stepsD D (i + 1) (withF i (foot st o.d o.op) fs) os st'
        | (true, st') => if fs.all (fun g => o.bf.contains g.1 || g.2.2.isEmpty) = true ∧ ahead i os = true then some (.pan, st') else none) fun x => ?_).of_eq fun D => ?_
      · obtain ⟨p, st'⟩ := x
        cases p
        · exact ih _ _ st'
        · exact Fnt.const _
      · cases stepO D st o with
        | none => rfl
        | some x => obtain ⟨p, st'⟩ := x; cases p <;> rfl
    · exact Fnt.const _
theorem settleF_fnt (pan : Bool) (st : St) : Fnt fun D => settleF D pan st := by
  unfold settleF
  split
  · exact Fnt.const _
  · split
    · exact Fnt.use _ _ (rcvK _ _) rfl
    · exact Fnt.const _
theorem fin_fnt (args : List AV) (res : List RV) (ex : Ex) (st : St) : Fnt fun D => fin D args res ex st := by
  unfold fin
  refine Fnt.bind ?_ fun x => Fnt.const _
  cases ex <;> first | exact settleF_fnt _ _ | exact Fnt.const _

theorem iter_mono {f g : St → Option (Ex × St)} (h : ∀ st, LeO (f st) (g st)) {n m : Nat} (hn : n ≤ m) : ∀ st, LeO (iter f n st) (iter g m st) := by
  induction n generalizing m with
  | zero => intro st r e; simp [iter] at e
  | succ n ih =>
    obtain ⟨m, rfl⟩ : ∃ k, m = k + 1 := ⟨m - 1, by omega⟩
    intro st r e
    simp only [iter] at e ⊢
    cases hf : f st with
    | none => rw [hf] at e; simp at e
    | some x =>
      rw [h st x hf]
      rw [hf] at e
      obtain ⟨ex, st'⟩ := x
      cases ex with
      | nrm => exact ih (by omega) st' r e
      | exit i => exact e
      | ret => exact e
      | pan => exact e

theorem run_mono {D D' : Fun} (h : LeD D D') {n m : Nat} (hn : n ≤ m) (c : ACode) : ∀ st, LeO (run D n c st) (run D' m c st) := by
  induction c with
  | skip => exact fun _ => LeO.refl _
  | reg ops keep => exact fun st => LeO.bind ((stepsO_fnt ops st).mono h) (fun _ => LeO.refl _)
  | regD ops keep => exact fun st => LeO.bind ((stepsD_fnt ops _ _ st).mono h) (fun _ => LeO.refl _)
  | seq a b iha ihb =>
    intro st r e
    simp only [run] at e ⊢
    cases ha : run D n a st with
    | none => rw [ha] at e; simp at e
    | some x =>
      rw [iha st x ha]
      rw [ha] at e
      obtain ⟨ex, st'⟩ := x
      cases ex with
      | nrm => exact ihb st' r e
      | exit i => exact e
      | ret => exact e
      | pan => exact e
  | cond c a b iha ihb =>
    intro st r e
    simp only [run] at e ⊢
    split at e
    · exact iha st r e
    · exact ihb st r e
    · simp at e
  | blk id a iha =>
    intro st r e
    simp only [run] at e ⊢
    cases ha : run D n a st with
    | none => rw [ha] at e; simp at e
    | some x => rw [iha st x ha]; rw [ha] at e; exact e
  | loop a iha => exact fun st => iter_mono iha hn st
  | exit id => exact fun _ => LeO.refl _
  | ret => exact fun _ => LeO.refl _
  | dfr d f caps => exact fun _ => LeO.refl _

theorem callF_mono {D D' : Fun} (h : LeD D D') {n m : Nat} (hn : n ≤ m) (af : AFunc) (args : List AV) : LeO (callF D n af args) (callF D' m af args) := by
  unfold callF
  split
  · refine fun r e => ?_
    obtain ⟨x, hx, hr⟩ := Option.bind_eq_some_iff.1 e
    exact Option.bind_eq_some_iff.2 ⟨x, run_mono h hn af.code _ x hx, (fin_fnt args af.res x.1 x.2).mono h r hr⟩
  · exact LeO.refl _

theorem T_mono (S : Sys) {n m : Nat} (hn : n ≤ m) : LeD (T S n) (T S m) := by
  induction n generalizing m with
  | zero => intro f l r e; simp [T] at e
  | succ n ih =>
    obtain ⟨m, rfl⟩ : ∃ k, m = k + 1 := ⟨m - 1, by omega⟩
    intro f l r e
    simp only [T] at e ⊢
    split at e
    · exact e
    · split at e
      · exact callF_mono (ih (by omega)) (by omega) _ _ r e
      · simp at e

/-! ### With as many rounds as it takes -/
open Classical in
noncomputable def lim {α : Type} (g : Nat → Option α) : Option α := if h : ∃ n r, g n = some r then g (Classical.choose h) else none
theorem lim_iff {α : Type} {g : Nat → Option α} (hg : ∀ n m, n ≤ m → LeO (g n) (g m)) (r : α) : lim g = some r ↔ ∃ n, g n = some r := by
  unfold lim
  constructor
  · intro h
    split at h
    · exact ⟨_, h⟩
    · simp at h
  · rintro ⟨n, h⟩
    have hex : ∃ n r, g n = some r := ⟨n, r, h⟩
    rw [dif_pos hex]
    obtain ⟨s, hs⟩ := Classical.choose_spec hex
    have h1 := hg _ _ (Nat.le_max_left n (Classical.choose hex)) _ h
    have h2 := hg _ _ (Nat.le_max_right n (Classical.choose hex)) _ hs
    rw [hs, ← h2, h1]
theorem opt_eq {α : Type} {a b : Option α} (h : ∀ r, a = some r ↔ b = some r) : a = b := by
  cases a with
  | none => cases b with
    | none => rfl
    | some y => exact (h y).2 rfl
  | some x => exact ((h x).1 rfl).symm

noncomputable def Den (S : Sys) : Fun := fun f l => lim fun n => T S n f l
noncomputable def RunD (S : Sys) (c : ACode) (st : St) : Option (Ex × St) := lim fun n => run (T S n) n c st

theorem Den_iff (S : Sys) (f : Nat) (l : List AV) (r : AV) : Den S f l = some r ↔ ∃ n, T S n f l = some r := lim_iff (fun _ _ h => T_mono S h f l) r
theorem RunD_iff (S : Sys) (c : ACode) (st : St) (r : Ex × St) : RunD S c st = some r ↔ ∃ n, run (T S n) n c st = some r :=
  lim_iff (fun _ _ h => run_mono (T_mono S h) h c st) r
theorem Den_of (S : Sys) {n f : Nat} {l : List AV} {r : AV} (h : T S n f l = some r) : Den S f l = some r := (Den_iff S f l r).2 ⟨n, h⟩
theorem T_le (S : Sys) (n : Nat) : LeD (T S n) (Den S) := fun f l r h => (Den_iff S f l r).2 ⟨n, h⟩

theorem chain (S : Sys) : Chain (T S) (Den S) := ⟨fun _ _ h => T_mono S h, Den_iff S⟩

section
variable (S : Sys)
theorem RunD_skip (st : St) : RunD S .skip st = some (.nrm, st) := (RunD_iff S _ _ _).2 ⟨0, rfl⟩
theorem RunD_exit (id : Nat) (st : St) : RunD S (.exit id) st = some (.exit id, st) := (RunD_iff S _ _ _).2 ⟨0, rfl⟩
theorem RunD_ret (st : St) : RunD S .ret st = some (.ret, st) := (RunD_iff S _ _ _).2 ⟨0, rfl⟩
theorem RunD_dfr (d f : Nat) (caps : List Opd) (st : St) : RunD S (.dfr d f caps) st = run (fun _ _ => none) 0 (.dfr d f caps) st := by
  refine opt_eq fun r => ?_
  rw [RunD_iff]
  exact ⟨fun ⟨_, h⟩ => h, fun h => ⟨0, h⟩⟩
theorem RunD_reg (ops : List AOper) (keep : List Nat) (st : St) : RunD S (.reg ops keep) st = (stepsO (Den S) ops st).bind (trim keep (outside ops st.env)) := by
  refine opt_eq fun r => ?_
  rw [RunD_iff, Option.bind_eq_some_iff]
  constructor
  · rintro ⟨n, h⟩
    obtain ⟨x, hx, hr⟩ := Option.bind_eq_some_iff.1 (show (stepsO (T S n) ops st).bind (trim keep (outside ops st.env)) = some r from h)
    exact ⟨x, (stepsO_fnt ops st _ _ (chain S) x).2 ⟨n, hx⟩, hr⟩
  · rintro ⟨x, hx, hr⟩
    obtain ⟨n, hn⟩ := (stepsO_fnt ops st _ _ (chain S) x).1 hx
    exact ⟨n, Option.bind_eq_some_iff.2 ⟨x, hn, hr⟩⟩
theorem RunD_regD (ops : List AOper) (keep : List Nat) (st : St) : RunD S (.regD ops keep) st = (stepsD (Den S) 0 [] ops st).bind (trim keep (outside ops st.env)) := by
  refine opt_eq fun r => ?_
  rw [RunD_iff, Option.bind_eq_some_iff]
  constructor
  · rintro ⟨n, h⟩
    obtain ⟨x, hx, hr⟩ := Option.bind_eq_some_iff.1 (show (stepsD (T S n) 0 [] ops st).bind (trim keep (outside ops st.env)) = some r from h)
    exact ⟨x, (stepsD_fnt ops _ _ st _ _ (chain S) x).2 ⟨n, hx⟩, hr⟩
  · rintro ⟨x, hx, hr⟩
    obtain ⟨n, hn⟩ := (stepsD_fnt ops _ _ st _ _ (chain S) x).1 hx
    exact ⟨n, Option.bind_eq_some_iff.2 ⟨x, hn, hr⟩⟩
/-- What stands behind a row of code: it is gone on with only where the row has come to its end. -/
def andThen (x : Option (Ex × St)) (k : St → Option (Ex × St)) : Option (Ex × St) :=
  match x with
  | some (.nrm, st) => k st
  | r => r
theorem andThen_nrm (st : St) (k : St → Option (Ex × St)) : andThen (some (.nrm, st)) k = k st := rfl
theorem andThen_ret (st : St) (k : St → Option (Ex × St)) : andThen (some (.ret, st)) k = some (.ret, st) := rfl
theorem andThen_pan (st : St) (k : St → Option (Ex × St)) : andThen (some (.pan, st)) k = some (.pan, st) := rfl
theorem andThen_exit (id : Nat) (st : St) (k : St → Option (Ex × St)) : andThen (some (.exit id, st)) k = some (.exit id, st) := rfl
theorem RunD_seq (a b : ACode) (st : St) : RunD S (.seq a b) st = andThen (RunD S a st) (RunD S b) := by
  refine opt_eq fun r => ?_
  rw [RunD_iff]
  constructor
  · rintro ⟨n, h⟩
    simp only [run] at h
    cases ha : run (T S n) n a st with
    | none => rw [ha] at h; simp at h
    | some x =>
      rw [(RunD_iff S a st x).2 ⟨n, ha⟩]
      rw [ha] at h
      obtain ⟨ex, st'⟩ := x
      cases ex with
      | nrm => exact (RunD_iff S b st' r).2 ⟨n, h⟩
      | exit i => exact h
      | ret => exact h
      | pan => exact h
  · intro h
    cases ha : RunD S a st with
    | none => rw [ha] at h; simp [andThen] at h
    | some x =>
      rw [ha] at h
      obtain ⟨n, hn⟩ := (RunD_iff S a st x).1 ha
      obtain ⟨ex, st'⟩ := x
      cases ex with
      | nrm =>
        obtain ⟨m, hm⟩ := (RunD_iff S b st' r).1 h
        refine ⟨max n m, ?_⟩
        simp only [run]
        rw [run_mono (T_mono S (Nat.le_max_left n m)) (Nat.le_max_left n m) a st _ hn]
        exact run_mono (T_mono S (Nat.le_max_right n m)) (Nat.le_max_right n m) b st' _ hm
      | exit i => exact ⟨n, by simp only [run]; rw [hn]; exact h⟩
      | ret => exact ⟨n, by simp only [run]; rw [hn]; exact h⟩
      | pan => exact ⟨n, by simp only [run]; rw [hn]; exact h⟩
theorem RunD_cond (c : Opd) (a b : ACode) (st : St) {t : Bool} (h : evo st.env c = some (.bool t)) : RunD S (.cond c a b) st = if t = true then RunD S a st else RunD S b st := by
  refine opt_eq fun r => ?_
  rw [RunD_iff]
  cases t with
  | true =>
    simp only [run, h, if_true]
    exact (RunD_iff S a st r).symm
  | false =>
    simp only [run, h, Bool.false_eq_true, if_false]
    exact (RunD_iff S b st r).symm
def outOf (id : Nat) (x : Option (Ex × St)) : Option (Ex × St) :=
  match x with
  | some (.exit i, st) => if i = id then some (.nrm, st) else some (.exit i, st)
  | r => r
theorem RunD_blk (id : Nat) (a : ACode) (st : St) : RunD S (.blk id a) st = outOf id (RunD S a st) := by
  refine opt_eq fun r => ?_
  rw [RunD_iff]
  constructor
  · rintro ⟨n, h⟩
    simp only [run] at h
    cases ha : run (T S n) n a st with
    | none => rw [ha] at h; simp at h
    | some x => rw [(RunD_iff S a st x).2 ⟨n, ha⟩]; rw [ha] at h; exact h
  · intro h
    cases ha : RunD S a st with
    | none => rw [ha] at h; simp [outOf] at h
    | some x =>
      rw [ha] at h
      obtain ⟨n, hn⟩ := (RunD_iff S a st x).1 ha
      exact ⟨n, by simp only [run]; rw [hn]; exact h⟩
theorem iter_le {f : St → Option (Ex × St)} {n m : Nat} (h : n ≤ m) (st : St) : LeO (iter f n st) (iter f m st) := iter_mono (fun _ => LeO.refl _) h st
theorem RunD_loop (a : ACode) (st : St) : RunD S (.loop a) st = andThen (RunD S a st) (RunD S (.loop a)) := by
  refine opt_eq fun r => ?_
  rw [RunD_iff]
  constructor
  · rintro ⟨n, h⟩
    simp only [run] at h
    cases n with
    | zero => simp [iter] at h
    | succ n =>
      simp only [iter] at h
      cases ha : run (T S (n + 1)) (n + 1) a st with
      | none => rw [ha] at h; simp at h
      | some x =>
        rw [(RunD_iff S a st x).2 ⟨_, ha⟩]
        rw [ha] at h
        obtain ⟨ex, st'⟩ := x
        cases ex with
        | nrm => exact (RunD_iff S _ st' r).2 ⟨n + 1, iter_le (by omega) st' _ h⟩
        | exit i => exact h
        | ret => exact h
        | pan => exact h
  · intro h
    cases ha : RunD S a st with
    | none => rw [ha] at h; simp [andThen] at h
    | some x =>
      rw [ha] at h
      obtain ⟨n, hn⟩ := (RunD_iff S a st x).1 ha
      obtain ⟨ex, st'⟩ := x
      cases ex with
      | nrm =>
        obtain ⟨m, hm⟩ := (RunD_iff S _ st' r).1 h
        have hm' : iter (run (T S m) m a) m st' = some r := hm
        refine ⟨max n m + 1, ?_⟩
        have hb : LeD (T S n) (T S (max n m + 1)) := T_mono S (by omega)
        have hb' : LeD (T S m) (T S (max n m + 1)) := T_mono S (by omega)
        simp only [run, iter]
        rw [run_mono hb (by omega) a st _ hn]
        exact iter_mono (run_mono hb' (by omega) a) (by omega) st' _ hm'
      | exit i => exact ⟨n + 1, by simp only [run, iter]; rw [run_mono (T_mono S (Nat.le_succ n)) (Nat.le_succ n) a st _ hn]; exact h⟩
      | ret => exact ⟨n + 1, by simp only [run, iter]; rw [run_mono (T_mono S (Nat.le_succ n)) (Nat.le_succ n) a st _ hn]; exact h⟩
      | pan => exact ⟨n + 1, by simp only [run, iter]; rw [run_mono (T_mono S (Nat.le_succ n)) (Nat.le_succ n) a st _ hn]; exact h⟩

theorem Den_ext {f : Nat} {F : List AV → Option AV} (h : S.ext f = some F) (l : List AV) : Den S f l = F l := by
  refine opt_eq fun r => ?_
  rw [Den_iff]
  constructor
  · rintro ⟨n, hn⟩
    cases n with
    | zero => simp [T] at hn
    | succ n => simpa [T, h] using hn
  · exact fun hr => ⟨1, by simpa [T, h] using hr⟩
theorem Den_fun {f : Nat} {af : AFunc} (he : S.ext f = none) (h : S.tbl f = some af) (l : List AV) (hl : l.length = af.np) :
    Den S f l = (RunD S af.code ⟨ofL (params 0 l), ofL (paramsB 0 l), none', none⟩).bind fun r => fin (Den S) l af.res r.1 r.2 := by
  refine opt_eq fun r => ?_
  rw [Den_iff]
  constructor
  · rintro ⟨n, hn⟩
    cases n with
    | zero => simp [T] at hn
    | succ n =>
      simp only [T, he, h, callF, hl, if_true] at hn
      obtain ⟨x, hx, hr⟩ := Option.bind_eq_some_iff.1 hn
      exact Option.bind_eq_some_iff.2 ⟨x, (RunD_iff S _ _ x).2 ⟨n, hx⟩, (fin_fnt l af.res x.1 x.2 _ _ (chain S) r).2 ⟨n, hr⟩⟩
  · intro hr
    obtain ⟨x, hx, hr⟩ := Option.bind_eq_some_iff.1 hr
    obtain ⟨n, hn⟩ := (RunD_iff S _ _ x).1 hx
    obtain ⟨m, hm⟩ := (fin_fnt l af.res x.1 x.2 _ _ (chain S) r).1 hr
    refine ⟨max n m + 1, ?_⟩
    simp only [T, he, h, callF, hl, if_true]
    exact Option.bind_eq_some_iff.2 ⟨x, run_mono (T_mono S (Nat.le_max_left n m)) (Nat.le_max_left n m) _ _ _ hn, (fin_fnt l af.res x.1 x.2).mono (T_mono S (Nat.le_max_right n m)) r hm⟩
end
end Go.Proofs.YtpkeiffclipjmaaGreatDoor.Rx
