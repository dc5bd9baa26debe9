/-
  The laws of layer 2, 7: TreesLeast.
-/
import Derived.Test.YtpkeiffclipjmaaGreatDoorRxJ6
import Derived.Test.YtpkeiffclipjmaaGreatDoorRxX1
namespace Go.Proofs.YtpkeiffclipjmaaGreatDoor.Rx
open Go
set_option linter.unusedSimpArgs false
set_option linter.unusedVariables false
set_option maxRecDepth 100000

/-! ### Rows of the call's own -/
theorem chunks_cl : ∀ l : List It, chunks 4 true l.length (cl l) = some (l.map iA)
  | [] => rfl
  | x :: l => by
    have e : cl (x :: l) = iC x ++ cl l := rfl
    have h1 : (iC x ++ cl l).take 4 = iC x := rfl
    have h2 : (iC x ++ cl l).drop 4 = cl l := rfl
    rw [List.length_cons, chunks, e, h1, h2, chunks_cl l]
    rfl
theorem flat_cl (l : List It) : (l.map iA).flatMap AV.cells = cl l := by
  induction l with
  | nil => rfl
  | cons x l ih => rw [List.map_cons, List.flatMap_cons, ih]; rfl
theorem cl_set1 {i : Nat} (hi : i < 4) {v : AV} : ∀ (l : List It) (k : Nat) (x y : It), l[k]? = some x → (iC x).set i v = iC y → (cl l).set (k * 4 + i) v = cl (l.set k y)
  | [], k, x, y, h, _ => by simp at h
  | z :: l, 0, x, y, h, hy => by
    obtain rfl : z = x := by simpa using h
    have e : cl (z :: l) = iC z ++ cl l := rfl
    rw [e, List.set_append_left _ _ (by rw [iC_len]; omega), show 0 * 4 + i = i by omega, hy]
    rfl
  | z :: l, k + 1, x, y, h, hy => by
    have e : cl (z :: l) = iC z ++ cl l := rfl
    rw [e, List.set_append_right _ _ (by rw [iC_len]; omega), iC_len, show (k + 1) * 4 + i - 4 = k * 4 + i by omega, cl_set1 hi l k x y (by simpa using h) hy]
    rfl
theorem place_one {l : List It} {k i : Nat} (hi : i < 4) {v : AV} {x y : It} (h : l[k]? = some x) (hv : v.okC = true) (hc : v.cells = [v]) (hy : (iC x).set i v = iC y) : place (cl l) (k * 4 + i) 1 v = some (cl (l.set k y)) := by
  have hk := (List.getElem?_eq_some_iff.1 h).1
  have hl := cl_len l
  unfold place
  rw [if_pos ⟨hv, by rw [hc]; rfl, by omega⟩, ← cl_set1 hi l k x y h hy, hc, List.set_eq_take_append_cons_drop, if_pos (by omega)]
  simp
theorem bytesOf_zero : ∀ n : Nat, bytesOf (List.replicate n (.int .u8 0)) = some (List.replicate n 0)
  | 0 => rfl
  | n + 1 => by
    rw [List.replicate_succ, bytesOf, bytesOf_zero n]
    rfl

/-! ### Paths are short -/
theorem splitG_sum : ∀ (r cur : List UInt8), ((splitG cur r).map List.length).sum + (splitG cur r).length = cur.length + r.length + 1
  | [], cur => by simp [splitG]
  | c :: r, cur => by
    unfold splitG
    split
    · have := splitG_sum r []
      simp only [List.map_cons, List.sum_cons, List.length_cons, List.length_nil] at this ⊢
      omega
    · have := splitG_sum r (cur ++ [c])
      simp only [List.length_append, List.length_cons, List.length_nil] at this ⊢
      omega
theorem path_short {p : List UInt8} (h : check01F p = 0) : p.length ≤ 1039 := by
  have h1 := splitG_sum p []
  have hp : partsF p = splitP p := if_pos h
  have h2 := partsF_len p
  have h3 : ∀ x ∈ partsF p, x.length ≤ 64 := fun x hx => partsF_mem hx
  rw [hp] at h2 h3
  have hs : ∀ l : List (List UInt8), (∀ x ∈ l, x.length ≤ 64) → (l.map List.length).sum ≤ 64 * l.length := by
    intro l
    induction l with
    | nil => simp
    | cons a l ih =>
      intro hl
      have a1 := hl a (by simp)
      have a2 := ih (fun x hx => hl x (List.mem_cons_of_mem _ hx))
      simp only [List.map_cons, List.sum_cons, List.length_cons]
      omega
  have h4 := hs _ h3
  unfold splitP at h2 h4
  simp only [List.length_nil] at h1
  omega
theorem treeF_path (raw : List Raw) : ∀ x ∈ treeF raw, x.path.length ≤ 1039 := fun x hx => path_short (noFault_of ((ok_faults (by rw [tree_ok raw])).2 x hx)).path

theorem okc_b (b : Bool) : (AV.bool b).okC = true := rfl
theorem okc_i (k : IntKind) (n : Int) : (AV.int k n).okC = true := rfl
theorem okc_s (s : List UInt8) : (AV.str s).okC = true := rfl
theorem okc_a (l : List AV) : (AV.agg l).okC = true := rfl
theorem cel_b (b : Bool) : (AV.bool b).cells = [.bool b] := rfl
theorem cel_i (k : IntKind) (n : Int) : (AV.int k n).cells = [.int k n] := rfl
theorem cel_s (s : List UInt8) : (AV.str s).cells = [.str s] := rfl
theorem cel_a (l : List AV) : (AV.agg l).cells = l := rfl
theorem pl1 (p : List UInt8) : place [.str [], .int .i64 0] 0 1 (.str p) = some [.str p, .int .i64 0] := rfl
theorem pl2 (p : List UInt8) : place [.str [], .int .i64 0] 0 2 (.agg [.str p, .int .i64 0]) = some [.str p, .int .i64 0] := rfl
theorem pl3 (p : List UInt8) (e : Int) : place [.str p, .int .i64 0] 1 1 (.int .i64 e) = some [.str p, .int .i64 e] := rfl
theorem dd2 (p : List UInt8) (e : Int) : deadC [.str p, .int .i64 e] = false := rfl
theorem least_den (raw : List Raw) (hr : ∀ x ∈ raw, x.ok) (which what : Int) (h1 : inR which) (h2 : inR what) : Den Sy 5 [sR raw, .int .i64 which, .int .i64 what] = some (.bool true) := by
  have hA := tree_den raw hr
  have hn := treeF_len raw
  have hp := treeF_path raw
  have hok := tree_ok raw
  generalize treeF raw = t at hA hn hp hok
  have hf := (ok_faults (by rw [hok] : (checkF t wide).2 = 0)).2
  have hB : ∀ u : List It, u.length ≤ 113 → (∀ x ∈ u, x.path.length ≤ 1039) → Den Sy 15 [sI u, lA wide] = some (ftA (checkF u wide)) := fun u h1 h2 => check15_den u wide (by have : bigP = 1099511627776 := rfl; omega) (fun x hx => by have := h2 x hx; have : bigT = 4294967280 := rfl; omega)
  have c0 := hB t (by omega) hp
  rw [hok] at c0
  have e0 := eqv_ft ([], 0) ([], 0)
  rw [decide_eq_true rfl] at e0
  have hw := wide_den
  simp only [wide, lA, ftA] at c0 e0 hw
  rw [Den_fun Sy (af := A5) rfl rfl _ rfl]
  cases t with
  | nil =>
    simp only [sI, List.map_nil] at hA c0
    simp [A5, awake_den, hA, hw, c0, e0]
  | cons t0 t1 =>
    obtain ⟨t, ht⟩ : ∃ t, t = t0 :: t1 := ⟨_, rfl⟩
    have hpos : 0 < t.length := by rw [ht]; simp
    rw [← ht] at hA hn hp hok hf c0
    have p1 := pick02_den which (t.length : Int) h1 (by omega)
    have q1 := pickF_lt which (n := (t.length : Int)) (by omega)
    obtain ⟨k, hk⟩ : ∃ k : Nat, pickF which (t.length : Int) = k := ⟨(pickF which (t.length : Int)).toNat, by omega⟩
    rw [hk] at p1 q1
    have hkl : k < t.length := by omega
    have hkl' : (k : Int) < t.length := by omega
    obtain ⟨x, hx⟩ : ∃ x, t[k]? = some x := ⟨_, List.getElem?_eq_getElem hkl⟩
    have hxt := List.mem_of_getElem? hx
    have hg : (t.map iA)[k]? = some (iA x) := by rw [List.getElem?_map, hx]; rfl
    have p2 := pick02_den what 4 h2 (by omega)
    have q2 := pickF_lt what (n := 4) (by omega)
    have hfl := flat_cl t
    obtain ⟨b, hb, hab⟩ : ∃ b, b = t1.map iA ∧ t.map iA = .agg (iC t0) :: b := ⟨t1.map iA, rfl, by rw [ht]; rfl⟩
    have hbl : b.length + 1 = t.length := by have := congrArg List.length hab; simpa using this.symm
    have hall : (b.all fun y => y.okC && y.cells.length == 4) = true := by
      rw [hb, List.all_map, List.all_eq_true]
      intro z _
      rfl
    have hdead := cl_dead t
    have hlen := cl_len t
    have hsz : t.length * 48 ≤ 140737488355328 := by omega
    have hne0 : ¬ (t.length : Int) = 0 := by omega
    have htn : ¬ t = [] := by rw [ht]; simp
    simp only [sI] at hA c0
    rw [hab] at hA hg hfl c0
    have hfl' : iC t0 ++ b.flatMap AV.cells = cl t := hfl
    have i4 := iC_len t0
    have hkk : k * 4 + 4 ≤ t.length * 4 := by omega
    obtain ⟨q, hq⟩ : ∃ q : Nat, pickF what 4 = q := ⟨(pickF what 4).toNat, by omega⟩
    rw [hq] at p2 q2
    have hq4 : q = 0 ∨ q = 1 ∨ q = 2 ∨ q = 3 := by omega
    simp only [iA] at hg
    have nx := noFault_of (hf x hxt)
    have k5 : ¬ some1 x wide.size 5 = true := someB_false.1 nx.kind x hxt rfl
    have k7 : ¬ some1 x wide.size 7 = true := someB_false.1 nx.long x hxt rfl
    have hwl : (t.length : Int) ≤ wide.count := by simp [wide]; omega
    rcases hq4 with rfl | rfl | rfl | rfl
    · have p2' : Den Sy 11 [.int .i64 what, .int .i64 4] = some (.int .i64 0) := p2
      have hpl := place_one (i := 3) (by omega) (v := .bool true) (y := { x with bad := true }) hx rfl rfl rfl
      have hu := least_set t k x { x with bad := true } hx rfl hf hwl 9 (set_fault t k x { x with bad := true } hx rfl (hf x hxt) 9 (.inr ⟨k5, .inr ⟨k7, by simp [some1], rfl⟩⟩)) (by omega)
      have cU := hB (t.set k { x with bad := true }) (by simp; omega) (fun z hz => by
        rcases mem_set_or hz with rfl | hz
        · exact hp x hxt
        · exact hp z hz)
      rw [hu] at cU
      have hch := chunks_cl (t.set k { x with bad := true })
      have hcd := cl_dead (t.set k { x with bad := true })
      have hcl := cl_len (t.set k { x with bad := true })
      have eU := eqv_ft (x.path, 9) (x.path, 9)
      rw [decide_eq_true rfl] at eU
      rw [List.length_set] at hch hcl
      simp only [wide, lA, ftA, sI] at cU eU
      generalize t.set k { x with bad := true } = u at *
      simp [A5, awake_den, hA, hw, c0, e0, hbl, hne0, htn, p1, p2', hsz, hall, hfl', i4, hdead, hlen, hkl, hkl', hg, hkk, okc_b, okc_i, okc_s, okc_a, cel_b, cel_i, cel_s, cel_a, pl1, pl2, pl3, dd2, hpl, hch, hcd, hcl, cU, eU, -place, -deadC, -getElem?_pos, -AV.okC, -AV.cells, -List.all_eq_true, -List.reduceReplicate]
    · have p2' : Den Sy 11 [.int .i64 what, .int .i64 4] = some (.int .i64 1) := p2
      have hu := least_twice t x hxt hf (by simp [wide]; omega)
      have cU := hB (t ++ [x]) (by simp; omega) (fun z hz => by
        rcases List.mem_append.1 hz with hz | hz
        · exact hp z hz
        · rw [List.mem_singleton.1 hz]; exact hp x hxt)
      rw [hu] at cU
      have hch := chunks_cl (t ++ [x])
      have hcd := cl_dead (t ++ [x])
      have hcl := cl_len (t ++ [x])
      have eU := eqv_ft (x.path, 4) (x.path, 4)
      rw [decide_eq_true rfl] at eU
      have hlu : (t ++ [x]).length = t.length + 1 := by simp
      rw [hlu] at hch hcl
      have hap : cl t ++ [.str x.path, .int .i64 x.kind, .str x.data, .bool x.bad] = cl (t ++ [x]) := by rw [cl_app]; rfl
      have hsz1 : (t.length + 1) * 48 ≤ 140737488355328 := by omega
      simp only [wide, lA, ftA, sI] at cU eU
      generalize t ++ [x] = u at *
      simp [A5, awake_den, hA, hw, c0, e0, hbl, hne0, htn, p1, p2', hsz, hall, hfl', i4, hdead, hlen, hkl, hkl', hg, hkk, okc_b, okc_i, okc_s, okc_a, cel_b, cel_i, cel_s, cel_a, pl1, pl2, pl3, dd2, hap, hsz1, hch, hcd, hcl, cU, eU, -place, -deadC, -getElem?_pos, -AV.okC, -AV.cells, -List.all_eq_true, -List.reduceReplicate]
    · have p2' : Den Sy 11 [.int .i64 what, .int .i64 4] = some (.int .i64 2) := p2
      have hx1 : (t.set k { x with kind := 2 })[k]? = some { x with kind := 2 } := List.getElem?_set_self hkl
      have hpl := place_one (i := 1) (by omega) (v := .int .i64 2) (y := { x with kind := 2 }) hx rfl rfl rfl
      have hpl2 := place_one (i := 2) (by omega) (v := .str (List.replicate 1001 0)) (y := { x with kind := 2, data := List.replicate 1001 0 }) hx1 rfl rfl rfl
      rw [List.set_set] at hpl2
      have hcd1 := cl_dead (t.set k { x with kind := 2 })
      have hcl1 := cl_len (t.set k { x with kind := 2 })
      rw [List.length_set] at hcl1
      have bz : conv Cv.ofBytes (.sl 1 (List.replicate 1001 (.int .u8 0)) .clip) = some (.str (List.replicate 1001 0)) := by
        unfold conv
        simp only []
        rw [bytesOf_zero 1001]
        rfl
      have z7 : some1 { x with kind := 2, data := List.replicate 1001 0 } wide.size 7 = true := by simp [some1, wide]
      have hu := least_set t k x { x with kind := 2, data := List.replicate 1001 0 } hx rfl hf hwl 7 (set_fault t k x { x with kind := 2, data := List.replicate 1001 0 } hx rfl (hf x hxt) 7 (.inr ⟨by simp [some1], .inl ⟨z7, rfl⟩⟩)) (by omega)
      have cU := hB (t.set k { x with kind := 2, data := List.replicate 1001 0 }) (by simp; omega) (fun z hz => by
        rcases mem_set_or hz with rfl | hz
        · exact hp x hxt
        · exact hp z hz)
      rw [hu] at cU
      have hch := chunks_cl (t.set k { x with kind := 2, data := List.replicate 1001 0 })
      have hcd := cl_dead (t.set k { x with kind := 2, data := List.replicate 1001 0 })
      have hcl := cl_len (t.set k { x with kind := 2, data := List.replicate 1001 0 })
      have eU := eqv_ft (x.path, 7) (x.path, 7)
      rw [decide_eq_true rfl] at eU
      rw [List.length_set] at hch hcl
      simp only [wide, lA, ftA, sI] at cU eU
      generalize t.set k { x with kind := 2 } = u1 at *
      generalize t.set k { x with kind := 2, data := List.replicate 1001 0 } = u at *
      by_cases hkd : x.kind = 1
      · simp [A5, awake_den, hA, hw, c0, e0, hbl, hne0, htn, p1, p2', hsz, hall, hfl', i4, hdead, hlen, hkl, hkl', hg, hkk, okc_b, okc_i, okc_s, okc_a, cel_b, cel_i, cel_s, cel_a, pl1, pl2, pl3, dd2, hpl, hpl2, hcd1, hcl1, bz, hkd, hch, hcd, hcl, cU, eU, -place, -deadC, -getElem?_pos, -AV.okC, -AV.cells, -List.all_eq_true, -List.reduceReplicate]
      · simp [A5, awake_den, hA, hw, c0, e0, hbl, hne0, htn, p1, p2', hsz, hall, hfl', i4, hdead, hlen, hkl, hkl', hg, hkk, okc_b, okc_i, okc_s, okc_a, cel_b, cel_i, cel_s, cel_a, pl1, pl2, pl3, dd2, hpl, hpl2, hcd1, hcl1, bz, hkd, hch, hcd, hcl, cU, eU, -place, -deadC, -getElem?_pos, -AV.okC, -AV.cells, -List.all_eq_true, -List.reduceReplicate]
    · have p2' : Den Sy 11 [.int .i64 what, .int .i64 4] = some (.int .i64 3) := p2
      have hpl := place_one (i := 1) (by omega) (v := .int .i64 4) (y := { x with kind := 4 }) hx rfl rfl rfl
      have hu := least_set t k x { x with kind := 4 } hx rfl hf hwl 5 (set_fault t k x { x with kind := 4 } hx rfl (hf x hxt) 5 (.inl ⟨by simp [some1], rfl⟩)) (by omega)
      have cU := hB (t.set k { x with kind := 4 }) (by simp; omega) (fun z hz => by
        rcases mem_set_or hz with rfl | hz
        · exact hp x hxt
        · exact hp z hz)
      rw [hu] at cU
      have hch := chunks_cl (t.set k { x with kind := 4 })
      have hcd := cl_dead (t.set k { x with kind := 4 })
      have hcl := cl_len (t.set k { x with kind := 4 })
      have eU := eqv_ft (x.path, 5) (x.path, 5)
      rw [decide_eq_true rfl] at eU
      rw [List.length_set] at hch hcl
      simp only [wide, lA, ftA, sI] at cU eU
      generalize t.set k { x with kind := 4 } = u at *
      simp [A5, awake_den, hA, hw, c0, e0, hbl, hne0, htn, p1, p2', hsz, hall, hfl', i4, hdead, hlen, hkl, hkl', hg, hkk, okc_b, okc_i, okc_s, okc_a, cel_b, cel_i, cel_s, cel_a, pl1, pl2, pl3, dd2, hpl, hch, hcd, hcl, cU, eU, -place, -deadC, -getElem?_pos, -AV.okC, -AV.cells, -List.all_eq_true, -List.reduceReplicate]
theorem least_law_den (raw : List Raw) (which what : Int) (hr : ∀ x ∈ raw, x.well) (fr : ∀ x ∈ raw, x.fit) (h1 : (Lit.int .i64 which).wf = true) (h2 : (Lit.int .i64 what).wf = true) : Den Sy 5 [sR raw, .int .i64 which, .int .i64 what] = some (.bool true) :=
  least_den raw (raws_ok hr fr) which what (inR_of_wf h1) (inR_of_wf h2)
end Go.Proofs.YtpkeiffclipjmaaGreatDoor.Rx
