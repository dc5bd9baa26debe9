/-
  Functions told by hand: the stable sort's own system.
-/
import Derived.Test.YtpkeiffclipjmaaGreatDoorRxFf
namespace Go.Proofs.YtpkeiffclipjmaaGreatDoor.Rx
open Go Go.RowKit
set_option maxRecDepth 100000
set_option linter.unusedSimpArgs false
set_option linter.unusedVariables false

/-! ### Cells of items -/
def iC (x : It) : List AV := [.str x.path, .int .i64 x.kind, .str x.data, .bool x.bad]
def cl (l : List It) : List AV := l.flatMap iC
theorem cl_len (l : List It) : (cl l).length = l.length * 4 := by
  induction l with
  | nil => rfl
  | cons x l ih => simp only [cl, List.flatMap_cons, List.length_append, List.length_cons] at ih ⊢; rw [ih]; simp [iC]; omega
theorem cl_app (a b : List It) : cl (a ++ b) = cl a ++ cl b := by simp [cl]
theorem cl_dead (l : List It) : deadC (cl l) = false := by
  cases l with
  | nil => rfl
  | cons x l => simp [cl, iC, deadC]
theorem cl_pub (l : List It) : (cl l).map AV.pubC = cl l := by
  induction l with
  | nil => rfl
  | cons x l ih => simp only [cl, List.flatMap_cons, List.map_append] at ih ⊢; rw [ih]; rfl
theorem iC_pub (x : It) : (iC x).map AV.pubC = iC x := rfl
theorem iC_len (x : It) : (iC x).length = 4 := rfl
theorem cl_put {l : List It} {k : Nat} (x : It) (h : k < l.length) : place (cl l) (k * 4) 4 (.agg (iC x)) = some ((cl l).take (k * 4) ++ iC x ++ (cl l).drop (k * 4 + 4)) := by
  have := cl_len l
  unfold place
  rw [if_pos ⟨rfl, rfl, by omega⟩]
  rfl
theorem cl_at {l : List It} {k : Nat} {x : It} (h : l[k]? = some x) : ((cl l).drop (k * 4)).take 4 = iC x := by
  obtain ⟨hk, rfl⟩ := List.getElem?_eq_some_iff.1 h
  have e : l = l.take k ++ l[k] :: l.drop (k + 1) := by simp
  have hl : (cl (l.take k)).length = k * 4 := by rw [cl_len]; simp; omega
  have e2 : cl l = cl (l.take k) ++ (iC l[k] ++ cl (l.drop (k + 1))) := by
    conv => lhs; rw [e]
    rw [cl_app]
    rfl
  rw [e2, ← hl, List.drop_left]
  rfl
theorem cl_set {l : List It} {k : Nat} (x : It) (h : k < l.length) : (cl l).take (k * 4) ++ iC x ++ (cl l).drop (k * 4 + 4) = cl (l.set k x) := by
  have hl : (cl (l.take k)).length = k * 4 := by rw [cl_len]; simp; omega
  have e : l = l.take k ++ l[k] :: l.drop (k + 1) := by simp
  have e2 : cl l = cl (l.take k) ++ (iC l[k] ++ cl (l.drop (k + 1))) := by
    conv => lhs; rw [e]
    rw [cl_app]
    rfl
  have e3 : (cl l).take (k * 4) = cl (l.take k) := by rw [e2, ← hl, List.take_left]
  have e4 : (cl l).drop (k * 4 + 4) = cl (l.drop (k + 1)) := by
    rw [e2, ← hl, ← List.drop_drop, List.drop_left]
    rfl
  rw [e3, e4, List.set_eq_take_append_cons_drop, if_pos h, cl_app]
  simp [cl]

namespace Q
def cmpE : List AV → Option AV
  | [.str a, .str b] => if a.length ≤ bigP ∧ b.length ≤ bigP then some (.int .i64 (cmpS a b)) else none
  | _ => none
theorem cmp_says (args : List AV) (r : AV) (h : cmpE args = some r) : Says C4 53 args r := by
  unfold cmpE at h
  split at h
  · rename_i a b
    split at h
    · rename_i hl
      simp only [Option.some.injEq] at h
      subst h
      exact P.fits.den (P.cmpS_den a b hl.1 hl.2)
    · simp at h
  · simp at h
def extL : List (Nat × (List AV → Option AV)) := [(53, cmpE)]
def tblL : List (Nat × AFunc) := [(37, A37), (38, A38), (59, A59), (81, A81), (82, A82), (101, A101), (113, A113)]
def Sy : Sys := ⟨get extL, get tblL⟩
theorem ext_all : ∀ p ∈ extL, ∀ args r, p.2 args = some r → Says C4 p.1 args r := by
  unfold extL
  refine List.forall_mem_cons.2 ⟨cmp_says, ?_⟩
  exact fun _ h => absurd h List.not_mem_nil
theorem tbl_all : ∀ p ∈ tblL, ∃ K fn ks, Tryz.prog.funcs[p.1]? = some fn ∧ cmpF Tryz.prog K fn ks = some p.2 := by
  unfold tblL
  refine List.forall_mem_cons.2 ⟨⟨_, _, K37, Tryz.func37, c37⟩, ?_⟩
  refine List.forall_mem_cons.2 ⟨⟨_, _, K38, Tryz.func38, c38⟩, ?_⟩
  refine List.forall_mem_cons.2 ⟨⟨_, _, K59, Tryz.func59, c59⟩, ?_⟩
  refine List.forall_mem_cons.2 ⟨⟨_, _, K81, Tryz.func81, c81⟩, ?_⟩
  refine List.forall_mem_cons.2 ⟨⟨_, _, K82, Tryz.func82, c82⟩, ?_⟩
  refine List.forall_mem_cons.2 ⟨⟨_, _, K101, Tryz.func101, c101⟩, ?_⟩
  refine List.forall_mem_cons.2 ⟨⟨_, _, K113, Tryz.func113, c113⟩, ?_⟩
  exact fun _ h => absurd h List.not_mem_nil
theorem fits : Fits C4 Sy := {
  mix := by kernel_rfl
  fine := fine4
  ext := fun _ _ h => ext_all _ (get_mem h)
  tbl := fun _ _ h => tbl_all _ (get_mem h) }
/-- Paths that are not too long. -/
def Sm (l : List It) : Prop := ∀ x ∈ l, x.path.length ≤ bigP
theorem cmp_den (a b : List UInt8) (ha : a.length ≤ bigP) (hb : b.length ≤ bigP) : Den Sy 53 [.str a, .str b] = some (.int .i64 (cmpS a b)) := by
  rw [Den_ext Sy (F := cmpE) rfl]
  exact if_pos ⟨ha, hb⟩
theorem cmpI_den (x y : It) (hx : x.path.length ≤ bigP) (hy : y.path.length ≤ bigP) : Den Sy 37 [.agg [], .agg (iC x), .agg (iC y)] = some (.int .i64 (cmpS x.path y.path)) := by
  have hc := cmp_den x.path y.path hx hy
  rw [Den_fun Sy (af := A37) rfl rfl _ rfl]
  simp [A37, iC, hc]
abbrev itS (x y : It) : Bool := decide (cmpS x.path y.path < 0)
abbrev rowA (n : Nat) : AV := .own 4 true 100000 0 n
theorem insF_snoc (x y : It) (out : List It) : insF itS x (out ++ [y]) = if cmpS x.path y.path < 0 then insF itS x out ++ [y] else out ++ [y] ++ [x] := by
  have hle := atF_le itS x out.reverse
  simp only [List.length_reverse] at hle
  unfold insF
  rw [List.reverse_append, List.reverse_singleton, List.singleton_append, atF]
  by_cases h : cmpS x.path y.path < 0
  · rw [if_pos h, if_pos (decide_eq_true h), List.take_append_of_le_length hle, List.drop_append_of_le_length hle]
    simp
  · rw [if_neg h, if_neg (by simp [h])]
    simp [List.take_of_length_le, List.drop_eq_nil_of_le]
theorem ins_loop (b i : AV) (pm : Pm) (n : Nat) (hn : n ≤ 1099511627776) : ∀ (m : Nat) (out pre rest : List It) (x : It) (bx : Bx), out.length = m → n = (pre ++ out ++ x :: rest).length → bx 100000 = some (0, cl (pre ++ out ++ x :: rest)) → Sm (pre ++ out ++ x :: rest) →
    Res (RunD Sy (.loop L81x0) ⟨ofL [(0, rowA n), (1, .int .i64 pre.length), (2, b), (3, .met 37), (8, i), (9, .int .i64 ((pre.length + out.length : Nat) : Int))], bx, pm, none⟩) fun ex st' => ex = .exit 2 ∧ ∃ bx' j',
      st' = ⟨ofL [(0, rowA n), (1, .int .i64 pre.length), (2, b), (3, .met 37), (8, i), (9, j'), (34, .bool false)], bx', pm, none⟩ ∧ bx' 100000 = some (0, cl (pre ++ insF itS x out ++ rest))
  | 0, out, pre, rest, x, bx, hm, hl, hb, hs => by
    obtain rfl := List.eq_nil_of_length_eq_zero hm
    refine loop_step fun K hK => ?_
    have h1 : (pre.length : Int) - 1 + 1 = pre.length := by omega
    simp [L81x0]
    exact ⟨bx, ⟨⟨_, rfl⟩, rfl⟩, by rw [hb]; simp [insF, atF]⟩
  | m + 1, out, pre, rest, x, bx, hm, hl, hb, hs => by
    obtain ⟨out', y, rfl⟩ : ∃ o y, out = o ++ [y] := by
      rcases nil_or_last out with rfl | h
      · simp at hm
      · exact h
    have hm' : out'.length = m := by simpa using hm
    have e1 : pre ++ (out' ++ [y]) ++ x :: rest = (pre ++ out') ++ y :: x :: rest := by simp
    rw [e1] at hl hb hs
    obtain ⟨k, hk⟩ : ∃ k, k = (pre ++ out').length := ⟨_, rfl⟩
    have hy : ((pre ++ out') ++ y :: x :: rest)[k]? = some y := by rw [hk]; simp
    have hx : ((pre ++ out') ++ y :: x :: rest)[k + 1]? = some x := by rw [hk, List.getElem?_append_right (by omega)]; simp
    have hset : (((pre ++ out') ++ y :: x :: rest).set (k + 1) y).set k x = (pre ++ out') ++ x :: y :: rest := by
      rw [hk, List.set_append_right _ _ (by omega), List.set_append_right _ _ (by omega)]
      simp
    have ly := cl_at hy
    have lx := cl_at hx
    have hj : pre.length + (out' ++ [y]).length = k + 1 := by rw [hk]; simp; omega
    have hc := cmpI_den x y (hs x (by simp)) (hs y (by simp))
    have hgt : (pre.length : Int) < (k : Int) + 1 := by rw [hk]; simp; omega
    have hn1 : (k : Int) + 1 < n := by rw [hl, hk]; simp; omega
    have hcl := cl_len ((pre ++ out') ++ y :: x :: rest)
    rw [← hl] at hcl
    have hcd := cl_dead ((pre ++ out') ++ y :: x :: rest)
    have hL : (pre ++ (out' ++ [y]) ++ x :: rest) = (pre ++ out') ++ y :: x :: rest := by simp
    have hkl : k + 1 < ((pre ++ out') ++ y :: x :: rest).length := by omega
    have p1 := (cl_put y hkl).trans (congrArg some (cl_set y hkl))
    have p2 := (cl_put x (l := ((pre ++ out') ++ y :: x :: rest).set (k + 1) y) (k := k) (by simp; omega)).trans (congrArg some (cl_set x (by simp; omega)))
    rw [hset] at p2
    have d1 := cl_dead (((pre ++ out') ++ y :: x :: rest).set (k + 1) y)
    have d2 := cl_dead ((pre ++ out') ++ x :: y :: rest)
    have f1 : (k + 1) * 4 + 4 ≤ n * 4 := by omega
    have f2 : k * 4 + 4 ≤ n * 4 := by omega
    have hn0 : (k : Int) < n := by omega
    have ck := chk_i64 (k : Int) (by omega)
    have IH := fun bx' hb' => ins_loop b i pm n hn m out' pre (y :: rest) x bx' hm' (by rw [hl]; simp) hb' (fun z hz => hs z (by simp at hz ⊢; rcases hz with h | h | h | h | h <;> simp [h]))
    rw [show pre.length + out'.length = k by rw [hk]; simp] at IH
    have hIn : insF itS x (out' ++ [y]) = if cmpS x.path y.path < 0 then insF itS x out' ++ [y] else out' ++ [y] ++ [x] := insF_snoc x y out'
    have EL : Hid (cl ((pre ++ out') ++ y :: x :: rest) = cl (pre ++ (out' ++ [y] ++ [x] ++ rest))) := by show _ = _; simp
    clear hL e1
    generalize (pre ++ out') ++ y :: x :: rest = L at *
    generalize (pre ++ out') ++ x :: y :: rest = L2 at *
    rw [hj]
    refine loop_step fun K hK => ?_
    by_cases hlt : cmpS x.path y.path < 0
    · simp [L81x0, hgt, hn1, hn0, hb, hcd, hcl, lx, ly, hc, hlt, f1, f2, ck, p1, p2, d1, d2, iC_pub, -deadC, -place]
      rw [hK, hIn, if_pos hlt]
      refine Res.eqv ?_ (IH _ (upd_same _ _ _))
      rintro ex st ⟨rfl, bx', j', rfl, h⟩
      exact ⟨rfl, bx', ⟨j', rfl⟩, by rw [h]; simp⟩
    · simp [L81x0, hgt, hn1, hn0, hb, hcd, hcl, lx, ly, hc, hlt, f1, f2, ck, iC_pub, -deadC, -place]
      rw [hIn, if_neg hlt]
      exact ⟨bx, ⟨⟨_, rfl⟩, rfl⟩, by rw [hb, EL.out]⟩
theorem Sm.perm {l l' : List It} (h : Sm l) (e : ∀ x, x ∈ l' → x ∈ l) : Sm l' := fun x hx => h x (e x hx)
theorem ins_outer (pm : Pm) (n : Nat) (hn : n ≤ 1099511627776) : ∀ (mid out pre post : List It) (bx : Bx), n = (pre ++ out ++ mid ++ post).length → bx 100000 = some (0, cl (pre ++ out ++ mid ++ post)) → Sm (pre ++ out ++ mid ++ post) →
    Res (RunD Sy (.loop L81x1) ⟨ofL [(0, rowA n), (1, .int .i64 pre.length), (2, .int .i64 ((pre.length + out.length + mid.length : Nat) : Int)), (3, .met 37), (8, .int .i64 ((pre.length + out.length : Nat) : Int))], bx, pm, none⟩) fun ex st' => ex = .exit 0 ∧ st'.df = none ∧
      st'.bx 100000 = some (0, cl (pre ++ sortG itS out mid ++ post))
  | [], out, pre, post, bx, hl, hb, hs => by
    refine loop_step fun K hK => ?_
    simp [L81x1]
    rw [hb]
    simp [sortG]
  | x :: mid, out, pre, post, bx, hl, hb, hs => by
    have e1 : pre ++ out ++ (x :: mid) ++ post = pre ++ out ++ x :: (mid ++ post) := by simp
    rw [e1] at hl hb hs
    obtain ⟨ex, st, hL, rfl, bx', j', rfl, hb'⟩ := ins_loop (.int .i64 ((pre.length + out.length + (x :: mid).length : Nat) : Int)) (.int .i64 ((pre.length + out.length : Nat) : Int)) pm n hn out.length out pre (mid ++ post) x bx rfl hl hb hs
    have hle : pre.length + out.length + (x :: mid).length ≤ n := by rw [hl]; simp; omega
    have hlt : ((pre.length + out.length : Nat) : Int) < ((pre.length + out.length + (x :: mid).length : Nat) : Int) := by simp; omega
    have hk := chk_i64 (((pre.length + out.length : Nat) : Int) + 1) (by simp at hle; omega)
    have e2 : pre ++ insF itS x out ++ (mid ++ post) = pre ++ insF itS x out ++ mid ++ post := by simp
    rw [e2] at hb'
    have IH := ins_outer pm n hn mid (insF itS x out) pre post bx' (by rw [hl]; simp [insF_len]; omega) hb' (hs.perm fun z hz => by simp [insF_mem] at hz ⊢; rcases hz with h | (h | h) | h | h <;> simp [h])
    rw [insF_len] at IH
    have e3 : ((pre.length + out.length + (x :: mid).length : Nat) : Int) = ((pre.length + (out.length + 1) + mid.length : Nat) : Int) := by simp; omega
    have e4 : ((pre.length + out.length : Nat) : Int) + 1 = ((pre.length + (out.length + 1) : Nat) : Int) := by omega
    rw [← e3, ← e4] at IH
    generalize ((pre.length + out.length + (x :: mid).length : Nat) : Int) = bb at *
    generalize ((pre.length + out.length : Nat) : Int) = ii at *
    rw [show sortG itS out (x :: mid) = sortG itS (insF itS x out) mid from rfl]
    refine loop_step fun K hK => ?_
    simp [L81x1, hlt, hL, hk]
    rw [hK]
    simpa using IH
theorem insSort_den (n : Nat) (hn : n ≤ 1099511627776) (pre mid post : List It) (hl : n = (pre ++ mid ++ post).length) (hs : Sm (pre ++ mid ++ post)) :
    Den Sy 81 [.row 4 true n (cl (pre ++ mid ++ post)), .int .i64 pre.length, .int .i64 ((pre.length + mid.length : Nat) : Int), .met 37] = some (.out false (.tup []) [cl (pre ++ sortG itS [] mid ++ post)]) := by
  have hk := chk_i64 ((pre.length : Int) + 1) (by rw [hl] at hn; simp at hn; omega)
  have hd1 := cl_dead (pre ++ sortG itS [] mid ++ post)
  have hlen : (cl (pre ++ sortG itS [] mid ++ post)).length = (cl (pre ++ mid ++ post)).length := by rw [cl_len, cl_len]; simp [sortG_len]
  have hpub := cl_pub (pre ++ sortG itS [] mid ++ post)
  have key : Res (RunD Sy (.loop L81x1) ⟨ofL [(0, rowA n), (1, .int .i64 pre.length), (2, .int .i64 ((pre.length + mid.length : Nat) : Int)), (3, .met 37), (8, .int .i64 ((pre.length : Int) + 1))], ofL [(100000, 0, cl (pre ++ mid ++ post))], none', none⟩) fun ex st' => ex = .exit 0 ∧ st'.df = none ∧
      st'.bx 100000 = some (0, cl (pre ++ sortG itS [] mid ++ post)) := by
    cases mid with
    | nil =>
      refine loop_step fun K hK => ?_
      have : ¬ ((pre.length : Int) + 1 < pre.length) := by omega
      simp [L81x1, this, sortG]
    | cons x mid =>
      have := ins_outer none' n hn mid [x] pre post (ofL [(100000, 0, cl (pre ++ x :: mid ++ post))]) (by rw [hl]; simp) (by simp) (hs.perm fun z hz => by simp at hz ⊢; rcases hz with h | h | h | h <;> simp [h])
      have e3 : ((pre.length + [x].length + mid.length : Nat) : Int) = ((pre.length + (x :: mid).length : Nat) : Int) := by simp; omega
      have e4 : ((pre.length + [x].length : Nat) : Int) = (pre.length : Int) + 1 := by simp
      rw [e3, e4] at this
      exact this
  obtain ⟨ex, st, hL, rfl, hdf, hbx⟩ := key
  rw [Den_fun Sy (af := A81) rfl rfl _ rfl]
  generalize cl (pre ++ sortG itS [] mid ++ post) = C' at *
  generalize cl (pre ++ mid ++ post) = C at *
  generalize ((pre.length + mid.length : Nat) : Int) = bb at *
  simp [A81, handed, hk, hL, hdf, hbx, hd1, hlen, hpub, -deadC]
end Q
end Go.Proofs.YtpkeiffclipjmaaGreatDoor.Rx
