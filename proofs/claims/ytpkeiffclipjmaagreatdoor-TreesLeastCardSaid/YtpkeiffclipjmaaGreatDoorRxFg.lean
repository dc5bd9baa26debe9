/-
  Functions told by hand: the stable sort, Sort.
-/
import Derived.Test.YtpkeiffclipjmaaGreatDoorRxFf
namespace Go.Proofs.YtpkeiffclipjmaaGreatDoor.Rx
open Go Go.RowKit
set_option maxRecDepth 100000
set_option linter.unusedSimpArgs false
set_option linter.unusedVariables false

/-! ### Cells of items -/
def iC (x : It) : List AV := [.str x.path, .int .i64 x.kind, .str x.data, .bool x.bad]
def cl (l : List It) : List AV := l.flatMap iC
theorem cl_len (l : List It) : (cl l).length = l.length * 4 := by
  induction l with
  | nil => rfl
  | cons x l ih => simp only [cl, List.flatMap_cons, List.length_append, List.length_cons] at ih ⊢; rw [ih]; simp [iC]; omega
theorem cl_app (a b : List It) : cl (a ++ b) = cl a ++ cl b := by simp [cl]
theorem cl_dead (l : List It) : deadC (cl l) = false := by
  cases l with
  | nil => rfl
  | cons x l => simp [cl, iC, deadC]
theorem cl_pub (l : List It) : (cl l).map AV.pubC = cl l := by
  induction l with
  | nil => rfl
  | cons x l ih => simp only [cl, List.flatMap_cons, List.map_append] at ih ⊢; rw [ih]; rfl
theorem iC_pub (x : It) : (iC x).map AV.pubC = iC x := rfl
theorem iC_len (x : It) : (iC x).length = 4 := rfl
theorem cl_put {l : List It} {k : Nat} (x : It) (h : k < l.length) : place (cl l) (k * 4) 4 (.agg (iC x)) = some ((cl l).take (k * 4) ++ iC x ++ (cl l).drop (k * 4 + 4)) := by
  have := cl_len l
  unfold place
  rw [if_pos ⟨rfl, rfl, by omega⟩]
  rfl
theorem cl_at {l : List It} {k : Nat} {x : It} (h : l[k]? = some x) : ((cl l).drop (k * 4)).take 4 = iC x := by
  obtain ⟨hk, rfl⟩ := List.getElem?_eq_some_iff.1 h
  have e : l = l.take k ++ l[k] :: l.drop (k + 1) := by simp
  have hl : (cl (l.take k)).length = k * 4 := by rw [cl_len]; simp; omega
  have e2 : cl l = cl (l.take k) ++ (iC l[k] ++ cl (l.drop (k + 1))) := by
    conv => lhs; rw [e]
    rw [cl_app]
    rfl
  rw [e2, ← hl, List.drop_left]
  rfl
theorem cl_set {l : List It} {k : Nat} (x : It) (h : k < l.length) : (cl l).take (k * 4) ++ iC x ++ (cl l).drop (k * 4 + 4) = cl (l.set k x) := by
  have hl : (cl (l.take k)).length = k * 4 := by rw [cl_len]; simp; omega
  have e : l = l.take k ++ l[k] :: l.drop (k + 1) := by simp
  have e2 : cl l = cl (l.take k) ++ (iC l[k] ++ cl (l.drop (k + 1))) := by
    conv => lhs; rw [e]
    rw [cl_app]
    rfl
  have e3 : (cl l).take (k * 4) = cl (l.take k) := by rw [e2, ← hl, List.take_left]
  have e4 : (cl l).drop (k * 4 + 4) = cl (l.drop (k + 1)) := by
    rw [e2, ← hl, ← List.drop_drop, List.drop_left]
    rfl
  rw [e3, e4, List.set_eq_take_append_cons_drop, if_pos h, cl_app]
  simp [cl]

namespace Q
def cmpE : List AV → Option AV
  | [.str a, .str b] => if a.length ≤ bigP ∧ b.length ≤ bigP then some (.int .i64 (cmpS a b)) else none
  | _ => none
theorem cmp_says (args : List AV) (r : AV) (h : cmpE args = some r) : Says C4 53 args r := by
  unfold cmpE at h
  split at h
  · rename_i a b
    split at h
    · rename_i hl
      simp only [Option.some.injEq] at h
      subst h
      exact P.fits.den (P.cmpS_den a b hl.1 hl.2)
    · simp at h
  · simp at h
def extL : List (Nat × (List AV → Option AV)) := [(53, cmpE)]
def tblL : List (Nat × AFunc) := [(37, A37), (38, A38), (59, A59), (81, A81), (82, A82), (101, A101), (113, A113)]
def Sy : Sys := ⟨get extL, get tblL⟩
theorem ext_all : ∀ p ∈ extL, ∀ args r, p.2 args = some r → Says C4 p.1 args r := by
  unfold extL
  refine List.forall_mem_cons.2 ⟨cmp_says, ?_⟩
  exact fun _ h => absurd h List.not_mem_nil
theorem tbl_all : ∀ p ∈ tblL, ∃ K fn ks, Tryz.prog.funcs[p.1]? = some fn ∧ cmpF Tryz.prog K fn ks = some p.2 := by
  unfold tblL
  refine List.forall_mem_cons.2 ⟨⟨_, _, K37, Tryz.func37, c37⟩, ?_⟩
  refine List.forall_mem_cons.2 ⟨⟨_, _, K38, Tryz.func38, c38⟩, ?_⟩
  refine List.forall_mem_cons.2 ⟨⟨_, _, K59, Tryz.func59, c59⟩, ?_⟩
  refine List.forall_mem_cons.2 ⟨⟨_, _, K81, Tryz.func81, c81⟩, ?_⟩
  refine List.forall_mem_cons.2 ⟨⟨_, _, K82, Tryz.func82, c82⟩, ?_⟩
  refine List.forall_mem_cons.2 ⟨⟨_, _, K101, Tryz.func101, c101⟩, ?_⟩
  refine List.forall_mem_cons.2 ⟨⟨_, _, K113, Tryz.func113, c113⟩, ?_⟩
  exact fun _ h => absurd h List.not_mem_nil
theorem fits : Fits C4 Sy := {
  mix := by kernel_rfl
  fine := fine4
  ext := fun _ _ h => ext_all _ (get_mem h)
  tbl := fun _ _ h => tbl_all _ (get_mem h) }
/-- Paths that are not too long. -/
def Sm (l : List It) : Prop := ∀ x ∈ l, x.path.length ≤ bigP
theorem cmp_den (a b : List UInt8) (ha : a.length ≤ bigP) (hb : b.length ≤ bigP) : Den Sy 53 [.str a, .str b] = some (.int .i64 (cmpS a b)) := by
  rw [Den_ext Sy (F := cmpE) rfl]
  exact if_pos ⟨ha, hb⟩
theorem cmpI_den (x y : It) (hx : x.path.length ≤ bigP) (hy : y.path.length ≤ bigP) : Den Sy 37 [.agg [], .agg (iC x), .agg (iC y)] = some (.int .i64 (cmpS x.path y.path)) := by
  have hc := cmp_den x.path y.path hx hy
  rw [Den_fun Sy (af := A37) rfl rfl _ rfl]
  simp [A37, iC, hc]
abbrev itS (x y : It) : Bool := decide (cmpS x.path y.path < 0)
abbrev rowA (n : Nat) : AV := .own 4 true 100000 0 n
theorem insF_snoc (x y : It) (out : List It) : insF itS x (out ++ [y]) = if cmpS x.path y.path < 0 then insF itS x out ++ [y] else out ++ [y] ++ [x] := by
  have hle := atF_le itS x out.reverse
  simp only [List.length_reverse] at hle
  unfold insF
  rw [List.reverse_append, List.reverse_singleton, List.singleton_append, atF]
  by_cases h : cmpS x.path y.path < 0
  · rw [if_pos h, if_pos (decide_eq_true h), List.take_append_of_le_length hle, List.drop_append_of_le_length hle]
    simp
  · rw [if_neg h, if_neg (by simp [h])]
    simp [List.take_of_length_le, List.drop_eq_nil_of_le]
theorem ins_loop (b i : AV) (pm : Pm) (n : Nat) (hn : n ≤ 1099511627776) : ∀ (m : Nat) (out pre rest : List It) (x : It) (bx : Bx), out.length = m → n = (pre ++ out ++ x :: rest).length → bx 100000 = some (0, cl (pre ++ out ++ x :: rest)) → Sm (pre ++ out ++ x :: rest) →
    Res (RunD Sy (.loop L81x0) ⟨ofL [(0, rowA n), (1, .int .i64 pre.length), (2, b), (3, .met 37), (8, i), (9, .int .i64 ((pre.length + out.length : Nat) : Int))], bx, pm, none⟩) fun ex st' => ex = .exit 2 ∧ ∃ bx' j',
      st' = ⟨ofL [(0, rowA n), (1, .int .i64 pre.length), (2, b), (3, .met 37), (8, i), (9, j'), (34, .bool false)], bx', pm, none⟩ ∧ bx' 100000 = some (0, cl (pre ++ insF itS x out ++ rest))
  | 0, out, pre, rest, x, bx, hm, hl, hb, hs => by
    obtain rfl := List.eq_nil_of_length_eq_zero hm
    refine loop_step fun K hK => ?_
    have h1 : (pre.length : Int) - 1 + 1 = pre.length := by omega
    simp [L81x0]
    exact ⟨bx, ⟨⟨_, rfl⟩, rfl⟩, by rw [hb]; simp [insF, atF]⟩
  | m + 1, out, pre, rest, x, bx, hm, hl, hb, hs => by
    obtain ⟨out', y, rfl⟩ : ∃ o y, out = o ++ [y] := by
      rcases nil_or_last out with rfl | h
      · simp at hm
      · exact h
    have hm' : out'.length = m := by simpa using hm
    have e1 : pre ++ (out' ++ [y]) ++ x :: rest = (pre ++ out') ++ y :: x :: rest := by simp
    rw [e1] at hl hb hs
    obtain ⟨k, hk⟩ : ∃ k, k = (pre ++ out').length := ⟨_, rfl⟩
    have hy : ((pre ++ out') ++ y :: x :: rest)[k]? = some y := by rw [hk]; simp
    have hx : ((pre ++ out') ++ y :: x :: rest)[k + 1]? = some x := by rw [hk, List.getElem?_append_right (by omega)]; simp
    have hset : (((pre ++ out') ++ y :: x :: rest).set (k + 1) y).set k x = (pre ++ out') ++ x :: y :: rest := by
      rw [hk, List.set_append_right _ _ (by omega), List.set_append_right _ _ (by omega)]
      simp
    have ly := cl_at hy
    have lx := cl_at hx
    have hj : pre.length + (out' ++ [y]).length = k + 1 := by rw [hk]; simp; omega
    have hc := cmpI_den x y (hs x (by simp)) (hs y (by simp))
    have hgt : (pre.length : Int) < (k : Int) + 1 := by rw [hk]; simp; omega
    have hn1 : (k : Int) + 1 < n := by rw [hl, hk]; simp; omega
    have hcl := cl_len ((pre ++ out') ++ y :: x :: rest)
    rw [← hl] at hcl
    have hcd := cl_dead ((pre ++ out') ++ y :: x :: rest)
    have hL : (pre ++ (out' ++ [y]) ++ x :: rest) = (pre ++ out') ++ y :: x :: rest := by simp
    have hkl : k + 1 < ((pre ++ out') ++ y :: x :: rest).length := by omega
    have p1 := (cl_put y hkl).trans (congrArg some (cl_set y hkl))
    have p2 := (cl_put x (l := ((pre ++ out') ++ y :: x :: rest).set (k + 1) y) (k := k) (by simp; omega)).trans (congrArg some (cl_set x (by simp; omega)))
    rw [hset] at p2
    have d1 := cl_dead (((pre ++ out') ++ y :: x :: rest).set (k + 1) y)
    have d2 := cl_dead ((pre ++ out') ++ x :: y :: rest)
    have f1 : (k + 1) * 4 + 4 ≤ n * 4 := by omega
    have f2 : k * 4 + 4 ≤ n * 4 := by omega
    have hn0 : (k : Int) < n := by omega
    have ck := chk_i64 (k : Int) (by omega)
    have IH := fun bx' hb' => ins_loop b i pm n hn m out' pre (y :: rest) x bx' hm' (by rw [hl]; simp) hb' (fun z hz => hs z (by simp at hz ⊢; rcases hz with h | h | h | h | h <;> simp [h]))
    rw [show pre.length + out'.length = k by rw [hk]; simp] at IH
    have hIn : insF itS x (out' ++ [y]) = if cmpS x.path y.path < 0 then insF itS x out' ++ [y] else out' ++ [y] ++ [x] := insF_snoc x y out'
    have EL : Hid (cl ((pre ++ out') ++ y :: x :: rest) = cl (pre ++ (out' ++ [y] ++ [x] ++ rest))) := by show _ = _; simp
    clear hL e1
    generalize (pre ++ out') ++ y :: x :: rest = L at *
    generalize (pre ++ out') ++ x :: y :: rest = L2 at *
    rw [hj]
    refine loop_step fun K hK => ?_
    by_cases hlt : cmpS x.path y.path < 0
    · simp [L81x0, hgt, hn1, hn0, hb, hcd, hcl, lx, ly, hc, hlt, f1, f2, ck, p1, p2, d1, d2, iC_pub, -deadC, -place]
      rw [hK, hIn, if_pos hlt]
      refine Res.eqv ?_ (IH _ (upd_same _ _ _))
      rintro ex st ⟨rfl, bx', j', rfl, h⟩
      exact ⟨rfl, bx', ⟨j', rfl⟩, by rw [h]; simp⟩
    · simp [L81x0, hgt, hn1, hn0, hb, hcd, hcl, lx, ly, hc, hlt, f1, f2, ck, iC_pub, -deadC, -place]
      rw [hIn, if_neg hlt]
      exact ⟨bx, ⟨⟨_, rfl⟩, rfl⟩, by rw [hb, EL.out]⟩
theorem Sm.perm {l l' : List It} (h : Sm l) (e : ∀ x, x ∈ l' → x ∈ l) : Sm l' := fun x hx => h x (e x hx)
theorem ins_outer (pm : Pm) (n : Nat) (hn : n ≤ 1099511627776) : ∀ (mid out pre post : List It) (bx : Bx), n = (pre ++ out ++ mid ++ post).length → bx 100000 = some (0, cl (pre ++ out ++ mid ++ post)) → Sm (pre ++ out ++ mid ++ post) →
    Res (RunD Sy (.loop L81x1) ⟨ofL [(0, rowA n), (1, .int .i64 pre.length), (2, .int .i64 ((pre.length + out.length + mid.length : Nat) : Int)), (3, .met 37), (8, .int .i64 ((pre.length + out.length : Nat) : Int))], bx, pm, none⟩) fun ex st' => ex = .exit 0 ∧ st'.df = none ∧
      st'.bx 100000 = some (0, cl (pre ++ sortG itS out mid ++ post))
  | [], out, pre, post, bx, hl, hb, hs => by
    refine loop_step fun K hK => ?_
    simp [L81x1]
    rw [hb]
    simp [sortG]
  | x :: mid, out, pre, post, bx, hl, hb, hs => by
    have e1 : pre ++ out ++ (x :: mid) ++ post = pre ++ out ++ x :: (mid ++ post) := by simp
    rw [e1] at hl hb hs
    obtain ⟨ex, st, hL, rfl, bx', j', rfl, hb'⟩ := ins_loop (.int .i64 ((pre.length + out.length + (x :: mid).length : Nat) : Int)) (.int .i64 ((pre.length + out.length : Nat) : Int)) pm n hn out.length out pre (mid ++ post) x bx rfl hl hb hs
    have hle : pre.length + out.length + (x :: mid).length ≤ n := by rw [hl]; simp; omega
    have hlt : ((pre.length + out.length : Nat) : Int) < ((pre.length + out.length + (x :: mid).length : Nat) : Int) := by simp; omega
    have hk := chk_i64 (((pre.length + out.length : Nat) : Int) + 1) (by simp at hle; omega)
    have e2 : pre ++ insF itS x out ++ (mid ++ post) = pre ++ insF itS x out ++ mid ++ post := by simp
    rw [e2] at hb'
    have IH := ins_outer pm n hn mid (insF itS x out) pre post bx' (by rw [hl]; simp [insF_len]; omega) hb' (hs.perm fun z hz => by simp [insF_mem] at hz ⊢; rcases hz with h | (h | h) | h | h <;> simp [h])
    rw [insF_len] at IH
    have e3 : ((pre.length + out.length + (x :: mid).length : Nat) : Int) = ((pre.length + (out.length + 1) + mid.length : Nat) : Int) := by simp; omega
    have e4 : ((pre.length + out.length : Nat) : Int) + 1 = ((pre.length + (out.length + 1) : Nat) : Int) := by omega
    rw [← e3, ← e4] at IH
    generalize ((pre.length + out.length + (x :: mid).length : Nat) : Int) = bb at *
    generalize ((pre.length + out.length : Nat) : Int) = ii at *
    rw [show sortG itS out (x :: mid) = sortG itS (insF itS x out) mid from rfl]
    refine loop_step fun K hK => ?_
    simp [L81x1, hlt, hL, hk]
    rw [hK]
    simpa using IH
theorem insSort_den (n : Nat) (hn : n ≤ 1099511627776) (pre mid post : List It) (hl : n = (pre ++ mid ++ post).length) (hs : Sm (pre ++ mid ++ post)) :
    Den Sy 81 [.row 4 true n (cl (pre ++ mid ++ post)), .int .i64 pre.length, .int .i64 ((pre.length + mid.length : Nat) : Int), .met 37] = some (.out false (.tup []) [cl (pre ++ sortG itS [] mid ++ post)]) := by
  have hk := chk_i64 ((pre.length : Int) + 1) (by rw [hl] at hn; simp at hn; omega)
  have hd1 := cl_dead (pre ++ sortG itS [] mid ++ post)
  have hlen : (cl (pre ++ sortG itS [] mid ++ post)).length = (cl (pre ++ mid ++ post)).length := by rw [cl_len, cl_len]; simp [sortG_len]
  have hpub := cl_pub (pre ++ sortG itS [] mid ++ post)
  have key : Res (RunD Sy (.loop L81x1) ⟨ofL [(0, rowA n), (1, .int .i64 pre.length), (2, .int .i64 ((pre.length + mid.length : Nat) : Int)), (3, .met 37), (8, .int .i64 ((pre.length : Int) + 1))], ofL [(100000, 0, cl (pre ++ mid ++ post))], none', none⟩) fun ex st' => ex = .exit 0 ∧ st'.df = none ∧
      st'.bx 100000 = some (0, cl (pre ++ sortG itS [] mid ++ post)) := by
    cases mid with
    | nil =>
      refine loop_step fun K hK => ?_
      have : ¬ ((pre.length : Int) + 1 < pre.length) := by omega
      simp [L81x1, this, sortG]
    | cons x mid =>
      have := ins_outer none' n hn mid [x] pre post (ofL [(100000, 0, cl (pre ++ x :: mid ++ post))]) (by rw [hl]; simp) (by simp) (hs.perm fun z hz => by simp at hz ⊢; rcases hz with h | h | h | h <;> simp [h])
      have e3 : ((pre.length + [x].length + mid.length : Nat) : Int) = ((pre.length + (x :: mid).length : Nat) : Int) := by simp; omega
      have e4 : ((pre.length + [x].length : Nat) : Int) = (pre.length : Int) + 1 := by simp
      rw [e3, e4] at this
      exact this
  obtain ⟨ex, st, hL, rfl, hdf, hbx⟩ := key
  rw [Den_fun Sy (af := A81) rfl rfl _ rfl]
  generalize cl (pre ++ sortG itS [] mid ++ post) = C' at *
  generalize cl (pre ++ mid ++ post) = C at *
  generalize ((pre.length + mid.length : Nat) : Int) = bb at *
  simp [A81, handed, hk, hL, hdf, hbx, hd1, hlen, hpub, -deadC]
end Q
end Go.Proofs.YtpkeiffclipjmaaGreatDoor.Rx
namespace Go.Proofs.YtpkeiffclipjmaaGreatDoor.Rx
open Go Go.RowKit
set_option maxRecDepth 100000
set_option linter.unusedSimpArgs false
set_option linter.unusedVariables false

theorem sortF_itS (t : List It) : sortF t = sortG Q.itS [] t := by
  unfold sortF
  have : itLt = Q.itS := by funext x y; simp only [itLt, cmp_eq]
  rw [this]
namespace Q
theorem stable_small (n : Nat) (hn : n < 20) (l : List It) (hl : l.length = n) (hs : Sm l) :
    Den Sy 59 [.row 4 true n (cl l), .int .i64 n, .met 37] = some (.out false (.tup []) [cl (sortG itS [] l)]) := by
  have hi := insSort_den n (by omega) [] l [] (by simp [hl]) (by simpa using hs)
  have hd0 := cl_dead l
  have hd1 := cl_dead (sortG itS [] l)
  have hlen : (cl (sortG itS [] l)).length = (cl l).length := by rw [cl_len, cl_len]; simp [sortG_len]
  have hcl : (cl l).length = n * 4 := by rw [cl_len, hl]
  have hpub := cl_pub l
  have hpub1 := cl_pub (sortG itS [] l)
  simp only [List.nil_append, List.append_nil, List.length_nil, Nat.zero_add, hl, show ((0 : Nat) : Int) = 0 from rfl] at hi
  have h20 : ¬ (20 : Int) ≤ n := by omega
  have h20' : ¬ (20 : Int) < n := by omega
  generalize cl (sortG itS [] l) = C' at *
  generalize cl l = C at *
  have hL0 : RunD Sy (.loop L59x0) ⟨ofL [(0, rowA n), (1, .int .i64 n), (2, .met 37), (6, .int .i64 20), (7, .int .i64 0), (8, .int .i64 20)], ofL [(100000, 0, C)], none', none⟩ = some (.exit 0, ⟨ofL [(0, rowA n), (1, .int .i64 n), (2, .met 37), (6, .int .i64 20), (7, .int .i64 0), (8, .int .i64 20), (13, .bool false)], ofL [(100000, 0, C)], none', none⟩) := by
    refine loop_eq fun K hK => ?_
    simp [L59x0, h20]
  have hL2 : ∀ bx, RunD Sy (.loop L59x2) ⟨ofL [(0, rowA n), (1, .int .i64 n), (2, .met 37), (6, .int .i64 20)], bx, none', none⟩ = some (.exit 2, ⟨ofL [(0, rowA n), (1, .int .i64 n), (2, .met 37), (6, .int .i64 20), (30, .bool false)], bx, none', none⟩) := fun bx => by
    refine loop_eq fun K hK => ?_
    simp [L59x2, h20']
  rw [Den_fun Sy (af := A59) rfl rfl _ rfl]
  simp [A59, handed, hL0, hL2, hi, hd0, hd1, hlen, hcl, hpub, hpub1, lend, -deadC]
theorem sortStable_den (n : Nat) (l : List It) (hl : l.length = n) (X : List It) (hX : X.length = n) (h : Den Sy 59 [.row 4 true n (cl l), .int .i64 n, .met 37] = some (.out false (.tup []) [cl X])) :
    Den Sy 38 [.row 4 true n (cl l), .met 37] = some (.out false (.tup []) [cl X]) := by
  have hd0 := cl_dead l
  have hd1 := cl_dead X
  have hlen : (cl X).length = (cl l).length := by rw [cl_len, cl_len, hl, hX]
  have hcl : (cl l).length = n * 4 := by rw [cl_len, hl]
  have hpub := cl_pub l
  have hpub1 := cl_pub X
  generalize cl X = C' at *
  generalize cl l = C at *
  rw [Den_fun Sy (af := A38) rfl rfl _ rfl]
  simp [A38, handed, h, hd0, hd1, hlen, hcl, hpub, hpub1, lend, -deadC]
end Q
/-! ### Rows of items and cells -/
theorem rdl_cl {w : World} {g : Gh} : ∀ {t : List It} {us : List Value}, RdL w g (cl t) us → us = t.flatMap encI
  | [], us, h => by simpa [cl, RdL] using h
  | x :: t, us, h => by
    simp only [cl, List.flatMap_cons, iC, List.cons_append, List.nil_append, RdL, Rd] at h
    obtain ⟨u1, us1, rfl, rfl, u2, us2, rfl, rfl, u3, us3, rfl, rfl, u4, us4, rfl, rfl, h⟩ := h
    rw [rdl_cl h]
    rfl
theorem cl_rdl (w : World) (g : Gh) : ∀ t : List It, RdL w g (cl t) (t.flatMap encI)
  | [] => by simp [cl, RdL]
  | x :: t => by
    simp only [cl, List.flatMap_cons, iC, List.cons_append, List.nil_append, RdL, Rd, encI]
    exact ⟨_, _, rfl, rfl, _, _, rfl, rfl, _, _, rfl, rfl, _, _, rfl, rfl, cl_rdl w g t⟩
theorem encs_len (t : List It) : (t.flatMap encI).length = t.length * 4 := by
  induction t with
  | nil => rfl
  | cons x t ih => rw [List.flatMap_cons, List.length_append, ih, encI_len, List.length_cons]; omega
theorem flat_one (t : List It) : ∀ u ∈ t.flatMap encI, u.oneCell' = true := by
  intro u hu
  obtain ⟨x, _, hx⟩ := List.mem_flatMap.1 hu
  simp only [encI, List.mem_cons, List.not_mem_nil, or_false] at hx
  rcases hx with rfl | rfl | rfl | rfl <;> rfl
/-- A row of items that is the call's own reads as one outside. -/
theorem own_rd {w w' : World} {pr : Nat → Nat → Prop} (hpr : ∀ b o, pr b o → b < w.heap.size) (hb : Below w.heap.size w w') {v : Value} {t : List It} (ho : w'.ownsRow w.heap.size 42 4 v t.length (t.flatMap encI)) {Y : Nat → Prop} :
    ∃ pr', Aft w w' pr pr' Y ∧ Rd w' (pubG pr') (sI t) v := by
  rcases ho.2 with ⟨rfl, h0⟩ | ⟨g, cap, cur, rfl, hbg, hgg, hnc, hcm, hcs, htake⟩
  · have e := List.eq_nil_of_length_eq_zero h0
    subst e
    refine ⟨pr, Aft.same hb hpr, ?_⟩
    simp only [Rd, List.map_nil, RdL]
    exact ⟨[], rfl, ⟨none, 0, rfl, Nat.le_refl _, by simp, by simp [flatV], fun h => absurd rfl h⟩, trivial⟩
  · have := fresh_row (Y := Y) hpr hb (k := 4) (b := g) (cap := cap) (its_rd w (pubG pr) t) (by simp [encI, Value.cells]) (by rw [flatV_its]; exact flat_one t) hbg hgg (by rw [flatV_its, encs_len]; exact htake) (by rw [List.length_map]; exact hnc)
    obtain ⟨pr', h1, h2⟩ := this
    rw [List.length_map] at h2
    exact ⟨pr', h1, h2⟩

/-! ### trees.Sort -/
theorem clone_call (t : List It) (a : Option Addr) (cap : Nat) (w : World) (hr : ItRow w a t cap) (hn : t ≠ []) (hbig : t.length ≤ bigP) :
    Calls Tryz.prog 36 #[.slice a t.length cap] w fun e w' => ∃ v', e = .returned v' ∧ w'.ownsRow w.heap.size 42 4 v' t.length (t.flatMap encI) ∧ v' ≠ .slice none 0 0 ∧ Below w.heap.size w w' := by
  obtain ⟨b, o, rfl, hb, hc⟩ := hr.row hn
  obtain ⟨i0, hi0, hz0, hz1, hz2⟩ := info_parts info42p
  have hB : bigP = 1099511627776 := rfl
  refine AnyE.slices_Clone Tryz.l36 i0 _ 4 48 hi0 hz0 hz1 hz2 rfl (by omega) Tryz.sizeOf42 b o t.length cap (t.flatMap encI) w (encs_len t) (by simp only [maxLen]; omega) (by omega) (fun j u hu => ?_) (flat_one t)
  have hj : j < t.length * 4 := by have := (List.getElem?_eq_some_iff.1 hu).1; rw [encs_len] at this; exact this
  have hq : j / 4 < t.length := by omega
  have hx : t[j / 4]? = some t[j / 4] := List.getElem?_eq_getElem hq
  have := its_at t (j / 4) (j % 4) t[j / 4] hx (by omega)
  rw [show j / 4 * 4 + j % 4 = j by omega, hu] at this
  have h2 := hc (j / 4) t[j / 4] (j % 4) u hx this.symm
  rwa [Nat.add_assoc, show j / 4 * 4 + j % 4 = j by omega] at h2
theorem clone_nil (a : Option Addr) (cap : Nat) (w : World) : Calls Tryz.prog 36 #[.slice a 0 cap] w fun e w' => ∃ v', e = .returned v' ∧ w'.ownsRow w.heap.size 42 4 v' 0 [] ∧ Below w.heap.size w w' := by
  have mixed := mixed_
  have q22 : ∀ (w : World) (a : Option Addr) (n c n' c' : Nat), (binOp .eql 22 (.slice a n c) (.slice none n' c')).run Tryz.prog w = .ok (.bool a.isNone) w := fun w a n c n' c' => Lib.run_eql_slice_nil w _ _ a n c n' c' Tryz.underlying22
  cases a with
  | none =>
    refine (AnyE.slices_Clone_nil Tryz.l36 0 cap w).mono ?_
    rintro e w' ⟨rfl, rfl⟩
    exact ⟨_, rfl, World.ownsRow_nil _ _ _ _, Below.refl _ _⟩
  | some ad =>
    obtain ⟨i0, hi0, hz0, hz1, hz2⟩ := info_parts info42p
    have I0' : Hid (Tryz.prog.info? 42 = some i0) := hi0
    have Z0 : Hid (i0.zero = _) := hz0
    have Z1 : Hid (i0.size = _) := hz1
    have Z2 : Hid (i0.bytes = _) := hz2
    clear hi0 hz0 hz1 hz2
    go_enter Tryz.func36, Tryz.ntmps36
    go_wp2_with (at_builtin; refine wpList_append_own _ rfl _ _ 22 rfl w.heap.size 42 i0 _ 4 48 Tryz.underlying22 I0'.out Z0.out Z1.out Z2.out rfl (by omega) _ _ _ rfl (World.ownsRow_made w #[] 0 (Nat.le_refl _) (Nat.zero_le _) (by simp)) ad 0 cap [] rfl ?qc1 ?qc2 ?qc3 ?qc4 ?qc5 ?qc6 ?_)
    case qc1 => rfl
    case qc2 => intro j u hj; simp at hj
    case qc3 => simp
    case qc4 => simp [maxLen]
    case qc5 => simp
    case qc6 => simp
    intro v' w1 hown hgrow hnil
    go_wp2
    go_ret
    exact ⟨v', rfl, by simpa using hown, ((Below.refl _ w).alloc (Nat.le_refl _) _).grown hgrow (by simp) (by intro k hk; simp [Value.ownBlock] at hk; omega)⟩
theorem clone_its (t : List It) (a : Option Addr) (cap : Nat) (w : World) (hr : ItRow w a t cap) (hbig : t.length ≤ bigP) :
    Calls Tryz.prog 36 #[.slice a t.length cap] w fun e w' => ∃ v', e = .returned v' ∧ w'.ownsRow w.heap.size 42 4 v' t.length (t.flatMap encI) ∧ Below w.heap.size w w' := by
  by_cases hn : t = []
  · subst hn
    exact clone_nil a cap w
  · refine (clone_call t a cap w hr hn hbig).mono ?_
    rintro e w' ⟨v', rfl, h1, _, h2⟩
    exact ⟨v', rfl, h1, h2⟩

/-! ### slices.SortStableFunc, by what is so of its plain value -/
theorem stable_nil (a : Option Addr) (cap : Nat) (w : World) : Calls Tryz.prog 38 #[.slice a 0 cap, .func (.func 37) #[.agg #[]] #[]] w fun e w' => e = .returned (.tuple #[]) ∧ w' = w := by
  have h81 : ∀ w, Calls Tryz.prog 81 #[.slice a 0 cap, .int .i64 0, .int .i64 0, .func (.func 37) #[.agg #[]] #[]] w fun e w' => e = .returned (.tuple #[]) ∧ w' = w := fun w => by
    go_enter Tryz.func81, Tryz.ntmps81
    go_wp2
    refine wp_loop_rounds 1 ?_
    rw [rounds_succ]
    go_wp2
    go_end0
    exact ⟨rfl, rfl⟩
  have h59 : ∀ w, Calls Tryz.prog 59 #[.slice a 0 cap, .int .i64 0, .func (.func 37) #[.agg #[]] #[]] w fun e w' => e = .returned (.tuple #[]) ∧ w' = w := fun w => by
    go_enter Tryz.func59, Tryz.ntmps59
    go_wp2
    refine wp_loop_rounds 1 ?_
    rw [rounds_succ]
    go_wp2_with (go_at_call 81; refine (h81 _).mono ?_; rintro e w' ⟨rfl, rfl⟩)
    refine wp_loop_rounds 1 ?_
    rw [rounds_succ]
    go_wp2
    go_end0
    exact ⟨rfl, rfl⟩
  go_enter Tryz.func38, Tryz.ntmps38
  go_wp2_with (go_at_call 59; refine (h59 _).mono ?_; rintro e w' ⟨rfl, rfl⟩)
  go_end0
  exact ⟨rfl, rfl⟩
theorem stable_call (t X : List It) (hX : X.length = t.length) (hden : t ≠ [] → Den Q.Sy 38 [.row 4 true t.length (cl t), .met 37] = some (.out false (.tup []) [cl X])) (w0 w : World) (hG : Gs w) (hle : w0.heap.size ≤ w.heap.size) (h0 : Gs w0) (v : Value) (ho : w.ownsRow w0.heap.size 42 4 v t.length (t.flatMap encI)) :
    Calls Tryz.prog 38 #[v, .func (.func 37) #[.agg #[]] #[]] w fun e w' => e = .returned (.tuple #[]) ∧ w'.ownsRow w0.heap.size 42 4 v t.length (X.flatMap encI) ∧ Below w0.heap.size w w' := by
  by_cases hn : t = []
  · subst hn
    obtain rfl := List.eq_nil_of_length_eq_zero hX
    have : ∃ a c, v = .slice a 0 c := by
      rcases ho.2 with ⟨rfl, _⟩ | ⟨g, cap, cur, rfl, _⟩
      · exact ⟨_, _, rfl⟩
      · exact ⟨_, _, rfl⟩
    obtain ⟨a, c, rfl⟩ := this
    refine (stable_nil a c w).mono ?_
    rintro e w' ⟨rfl, rfl⟩
    exact ⟨rfl, ho, Below.refl _ _⟩
  · rcases ho.2 with ⟨rfl, h0⟩ | ⟨g, cap, cur, rfl, hbg, hgg, hnc, hcm, hcs, htake⟩
    · exact absurd (List.eq_nil_of_length_eq_zero h0) hn
    · obtain ⟨hen, hs⟩ := Q.fits.den (hden hn)
      refine (hs w no2 [.slice (some ⟨g, 0, none⟩) t.length cap, .func (.func 37) #[.agg #[]] #[]] [(g, cap * 4)] hG (fun _ _ h => h.elim) (fun b n h => ?_) ?_).mono ?_
      · simp only [List.mem_singleton, Prod.mk.injEq] at h
        rw [h.1]
        exact Nat.le_trans (fine4.base w0 h0) hbg
      · simp only [HandR, Rd]
        exact ⟨_, g, cap * 4, [], ⟨cap, rfl, rfl, hnc, cl_len t⟩, rfl, ⟨t.flatMap encI, cur, 42, hgg, hcs, by rw [encs_len]; exact htake, cl_rdl _ _ _, flat_one t⟩, cl_dead t, fun _ h => h, by simp, _, [], rfl, rfl, by simp⟩
      · intro e w' hp
        match e, hp with
        | .returned v', ⟨pr', ha, hv, ⟨us, cur', T, h1, h2, h3, h4, h5⟩, _⟩ =>
          have hv' : v' = .tuple #[] := by
            simp only [Rd, RdL] at hv
            obtain ⟨vs, rfl, e1⟩ := hv
            have : vs = #[] := by apply Array.ext'; simpa using e1
            rw [this]
          subst hv'
          obtain rfl := rdl_cl h4
          have hT : T = 42 := by
            have t1 : tyAt w g = some 42 := by simp [tyAt, hgg]
            have t2 := ha.below.ty g 42 t1
            simp only [tyAt, h1] at t2
            simpa using t2
          subst hT
          refine ⟨rfl, ⟨by rw [encs_len, hX], .inr ⟨g, cap, cur', rfl, hbg, h1, hnc, hcm, h2, ?_⟩⟩, ⟨ha.below.os, ha.below.tape, ha.below.output, ha.below.size, fun k hk => ha.below.block k (by omega) (fun ⟨n, hk'⟩ => ?_)⟩⟩
          · rw [encs_len, hX] at h3
            exact h3
          · simp only [List.mem_singleton, Prod.mk.injEq] at hk'
            omega
end Go.Proofs.YtpkeiffclipjmaaGreatDoor.Rx
namespace Go.Proofs.YtpkeiffclipjmaaGreatDoor.Rx
open Go Go.RowKit
set_option maxRecDepth 100000
set_option linter.unusedSimpArgs false
set_option linter.unusedVariables false

/-- What is so of the stable sort's plain value. -/
def StableOk (t : List It) : Prop := t ≠ [] → Den Q.Sy 38 [.row 4 true t.length (cl t), .met 37] = some (.out false (.tup []) [cl (sortF t)])
theorem stableOk_small (t : List It) (hn : t.length < 20) (hs : Q.Sm t) : StableOk t := fun _ => by
  rw [sortF_itS]
  exact Q.sortStable_den t.length t rfl _ (by simp [sortG_len]) (Q.stable_small t.length hn t rfl hs)
theorem sort_call (t : List It) (hs : StableOk t) (hbig : t.length ≤ bigP) (a : Option Addr) (cap : Nat) (w : World) (hG : Gs w) (hr : ItRow w a t cap) :
    Calls Tryz.prog 18 #[.slice a t.length cap] w fun e w' => ∃ v, e = .returned v ∧ w'.ownsRow w.heap.size 42 4 v t.length ((sortF t).flatMap encI) ∧ Below w.heap.size w w' := by
  have mixed := mixed_
  have hC := clone_its t a cap w hr hbig
  have SO : Hid (StableOk t) := hs
  have hX : Hid ((sortF t).length = t.length) := by show _ = _; simp [sortF, sortG_len]
  clear hr hs
  go_enter Tryz.func18, Tryz.ntmps18
  go_wp2_with (first
    | (go_at_call 36
       refine hC.mono ?_
       rintro e w1 ⟨v, rfl, ho, hb⟩
       have hS := stable_call t (sortF t) hX.out SO.out w w1 (hG.below hb) hb.size hG v ho
       have B1 : Hid (Below w.heap.size w w1) := hb
       clear ho hb hC)
    | (go_at_call 38
       refine hS.mono ?_
       rintro e w2 ⟨rfl, ho2, hb2⟩
       have O2 : Hid (w2.ownsRow w.heap.size 42 4 v t.length ((sortF t).flatMap encI)) := ho2
       have B2 : Hid (Below w.heap.size w1 w2) := hb2
       clear hS ho2 hb2))
  go_ret
  exact ⟨v, rfl, O2.out, B1.out.trans B2.out⟩
def sortE (t : List It) : Prop := StableOk t ∧ t.length ≤ bigP
end Go.Proofs.YtpkeiffclipjmaaGreatDoor.Rx
