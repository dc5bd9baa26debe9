/-
  The script's laws, plain, 18: ScriptSpans.
-/
import Derived.Test.YtdcgldhhdajocaaDoorRxP17
namespace Go.Proofs.YtdcgldhhdajocaaDoor.Rx
open Go
set_option linter.unusedSimpArgs false
set_option linter.unusedVariables false

def addF (s : List Edit) : List (List UInt8) := s.flatMap (·.ls)
theorem apply_mem : ∀ (s : List Edit) (a : List (List UInt8)) (x : List UInt8), x ∈ applyB s a → x ∈ a ∨ x ∈ addF s
  | [], a, x, h => by simp [applyB] at h
  | e :: r, a, x, h => by
    have e1 : addF (e :: r) = e.ls ++ addF r := by simp [addF]
    rw [e1, List.mem_append]
    simp only [applyB] at h
    split at h
    · rcases List.mem_append.1 h with h | h
      · exact .inl (List.mem_of_mem_take h)
      · rcases apply_mem r _ x h with h | h
        · exact .inl (List.mem_of_mem_drop h)
        · exact .inr (.inr h)
    · split at h
      · rcases apply_mem r _ x h with h | h
        · exact .inl (List.mem_of_mem_drop h)
        · exact .inr (.inr h)
      · rcases List.mem_append.1 h with h | h
        · exact .inr (.inl h)
        · rcases apply_mem r _ x h with h | h
          · exact .inl h
          · exact .inr (.inr h)
theorem many_all : ∀ {s : List Edit}, (∀ e ∈ s, mayB e = true) → many 1 2 s + many 1 3 s = many 2 3 s + 2 * many 1 1 s
  | [], _ => rfl
  | e :: s, h => by
    have i := many_all (s := s) (fun x hx => h x (List.mem_cons_of_mem _ hx))
    rcases (mayB_op (h e (by simp))).1 with o | o | o
    · simp [many, o]; omega
    · simp [many, o]; omega
    · simp [many, o]; omega
def spE (s : List Edit) (a b : List (List UInt8)) (f t kept : Int) (out : List AV) (p : Perm) (l : List (Nat × AV)) : Env := ofL ((5, .bool true) :: (6, sE s) :: (7, sS a) :: (8, sS b) :: (9, .int .i64 0) :: (10, .int .i64 f) :: (11, .int .i64 t) :: (12, .int .i64 kept) :: (13, .sl 1 out p) :: l)
def Sp0 (s : List Edit) (a b : List (List UInt8)) (f t kept : Int) (out : List AV) (ex : Ex) (st' : St) (rest : List Edit) : Prop :=
  ex = .exit 0 ∧ ∃ q bx' pm', st' = ⟨spE s a b f t (kept + many 1 1 rest) (out ++ (addF rest).map .str) q [(14, .int .i64 s.length), (40, .bool false)], bx', pm', none⟩
theorem Sp0.step {s : List Edit} {a b : List (List UInt8)} {f t kept : Int} {out : List AV} {ex : Ex} {st' : St} {e : Edit} {rest : List Edit} {k' : Int} (h : Sp0 s a b f t k' (out ++ e.ls.map .str) ex st' rest) (hk : k' = kept + (if e.op = 1 then e.n else 0)) : Sp0 s a b f t kept out ex st' (e :: rest) := by
  obtain ⟨h1, q, bx', pm', h2⟩ := h
  refine ⟨h1, q, bx', pm', ?_⟩
  have e1 : (addF (e :: rest)).map AV.str = e.ls.map .str ++ (addF rest).map .str := by simp [addF]
  have e2 : kept + many 1 1 (e :: rest) = k' + many 1 1 rest := by rw [hk]; simp only [many, or_self]; omega
  rw [e1, e2, ← List.append_assoc]
  exact h2
set_option maxHeartbeats 1000000 in
theorem sp_loop0 (s : List Edit) (hl : s.length ≤ 1048576) (hm : ∀ e ∈ s, mayB e = true) (a b : List (List UInt8)) (f t : Int) : ∀ (rest pre : List Edit) (kept : Int) (out : List AV) (p : Perm) (i : Int) (bx : Bx) (pm : Pm), s = pre ++ rest → i = pre.length → AppOk pm p → out.length ≤ 1048576 * pre.length → 0 ≤ kept → kept ≤ 1048576 * pre.length →
    Res (RunD Sy (.loop L8x0) ⟨spE s a b f t kept out p [(14, .int .i64 i)], bx, pm, none⟩) fun ex st' => Sp0 s a b f t kept out ex st' rest
  | [], pre, kept, out, p, i, bx, pm, hs, hi, hp, ho, hk0, hk1 => by
    subst hi
    rw [List.append_nil] at hs
    subst hs
    rw [RunD_loop]
    simp [L8x0, spE]
    exact ⟨rfl, p, bx, pm, by simp [spE, many, addF]⟩
  | e :: rest, pre, kept, out, p, i, bx, pm, hs, hi, hp, ho, hk0, hk1 => by
    have hlt : (pre.length : Int) < s.length := by rw [hs]; simp; omega
    have hg : (s.map eE)[pre.length]? = some (eE e) := by rw [hs]; simp
    have hme := hm e (by rw [hs]; simp)
    obtain ⟨hop, hn1, hn2, hn3, hn4⟩ := mayB_op hme
    have hlsl : e.ls.length ≤ 1048576 := by
      by_cases h3 : e.op = 3
      · have := hn3 h3; omega
      · rw [hn4 h3]; simp
    simp only [eE] at hg
    subst hi
    have hc := chk_i64 ((pre.length : Int) + 1) (by omega)
    have hck := chk_i64 (kept + e.n) (by omega)
    have hsz : (out.length + e.ls.length) * 16 ≤ 140737488355328 := by omega
    have hlen : (out ++ e.ls.map AV.str).length ≤ 1048576 * (pre ++ [e]).length := by simp; omega
    have hpl : ((pre ++ [e]).length : Int) = pre.length + 1 := by simp
    refine loop_step fun K hK => ?_
    by_cases h1 : e.op = 1
    · rcases hp with rfl | ⟨m, v, rfl, hpm⟩
      · simp [L8x0, spE, -getElem?_pos, -List.getElem?_map, hc, hck, hlt, hg, eq_true h1, hsz]
        rw [hK]
        refine Res.eqv (fun ex st h => Sp0.step h ?_) (sp_loop0 s hl hm a b f t rest (pre ++ [e]) (kept + e.n) _ _ ((pre.length : Int) + 1) _ _ ?_ ?_ (AppOk.tok ?_) hlen ?_ ?_)
        · rw [if_pos h1]
        · simp [hs]
        · exact hpl.symm
        · simp
        · omega
        · omega
      · simp [L8x0, spE, -getElem?_pos, -List.getElem?_map, hc, hck, hlt, hg, eq_true h1, hsz, hpm]
        rw [hK]
        refine Res.eqv (fun ex st h => Sp0.step h ?_) (sp_loop0 s hl hm a b f t rest (pre ++ [e]) (kept + e.n) _ _ ((pre.length : Int) + 1) _ _ ?_ ?_ (AppOk.tok ?_) hlen ?_ ?_)
        · rw [if_pos h1]
        · simp [hs]
        · exact hpl.symm
        · simp
        · omega
        · omega
    · rcases hp with rfl | ⟨m, v, rfl, hpm⟩
      · simp [L8x0, spE, -getElem?_pos, -List.getElem?_map, hc, hck, hlt, hg, eq_false h1, hsz]
        rw [hK]
        refine Res.eqv (fun ex st h => Sp0.step h ?_) (sp_loop0 s hl hm a b f t rest (pre ++ [e]) kept _ _ ((pre.length : Int) + 1) _ _ ?_ ?_ (AppOk.tok ?_) hlen ?_ ?_)
        · rw [if_neg h1]; omega
        · simp [hs]
        · exact hpl.symm
        · simp
        · omega
        · omega
      · simp [L8x0, spE, -getElem?_pos, -List.getElem?_map, hc, hck, hlt, hg, eq_false h1, hsz, hpm]
        rw [hK]
        refine Res.eqv (fun ex st h => Sp0.step h ?_) (sp_loop0 s hl hm a b f t rest (pre ++ [e]) kept _ _ ((pre.length : Int) + 1) _ _ ?_ ?_ (AppOk.tok ?_) hlen ?_ ?_)
        · rw [if_neg h1]; omega
        · simp [hs]
        · exact hpl.symm
        · simp
        · omega
        · omega
def hasF (x : List UInt8) : List (List UInt8) → Bool
  | [] => false
  | y :: r => decide (y = x) || hasF x r
theorem hasF_mem (x : List UInt8) : ∀ {l : List (List UInt8)}, x ∈ l → hasF x l = true
  | y :: r, h => by
    simp only [hasF, Bool.or_eq_true, decide_eq_true_eq]
    rcases List.mem_cons.1 h with rfl | h
    · exact .inl rfl
    · exact .inr (hasF_mem x h)
section
variable (s : List Edit) (a b : List (List UInt8)) (f t kept : Int) (L : List (List UInt8)) (p : Perm)
def Sp1 (i : Int) (B : Bool) (bx : Bx) (pm : Pm) (ex : Ex) (st' : St) : Prop := ex = .exit 4 ∧ st' = ⟨spE s a b f t kept (L.map .str) p [(15, .int .i64 i), (16, .bool B), (17, .int .i64 a.length), (72, .bool false)], bx, pm, none⟩
def Sp2 (i : Int) (B : Bool) (bx : Bx) (pm : Pm) (ex : Ex) (st' : St) : Prop := ex = .exit 6 ∧ st' = ⟨spE s a b f t kept (L.map .str) p [(15, .int .i64 i), (16, .bool B), (18, .int .i64 L.length), (90, .bool false)], bx, pm, none⟩
def Sp3 (bx : Bx) (pm : Pm) (ex : Ex) (st' : St) : Prop := ex = .exit 2 ∧ st' = ⟨spE s a b f t kept (L.map .str) p [(15, .int .i64 b.length), (66, .bool false)], bx, pm, none⟩
set_option maxHeartbeats 1000000 in
theorem sp_loop1 (hal : a.length ≤ 1099511627776) (i : Nat) (x : List UInt8) (hx : (b.map AV.str)[i]? = some (.str x)) (hi : i < b.length) (B : Bool) (bx : Bx) (pm : Pm) : ∀ (rest pre : List (List UInt8)) (j : Int) (h : Bool), a = pre ++ rest → j = pre.length → B = (h || hasF x rest) →
    Res (RunD Sy (.loop L8x1) ⟨spE s a b f t kept (L.map .str) p [(15, .int .i64 i), (16, .bool h), (17, .int .i64 j)], bx, pm, none⟩) fun ex st' => Sp1 s a b f t kept L p i B bx pm ex st'
  | [], pre, j, h, ha, hj, hB => by
    subst hj
    rw [List.append_nil] at ha
    subst ha
    rw [RunD_loop]
    simp [L8x1, spE]
    exact ⟨rfl, by simp [spE, hB, hasF]⟩
  | y :: rest, pre, j, h, ha, hj, hB => by
    have hlt : (pre.length : Int) < a.length := by rw [ha]; simp; omega
    have hg : (a.map AV.str)[pre.length]? = some (.str y) := by rw [ha]; simp
    subst hj
    have hc := chk_i64 ((pre.length : Int) + 1) (by omega)
    have hi' : (i : Int) < b.length := by omega
    refine loop_step fun K hK => ?_
    cases h with
    | true =>
      simp [L8x1, spE, -getElem?_pos, -List.getElem?_map, hlt, hc]
      rw [hK]
      exact sp_loop1 hal i x hx hi B bx pm rest (pre ++ [y]) ((pre.length : Int) + 1) true (by simp [ha]) (by simp) (by rw [hB]; simp)
    | false =>
      simp [L8x1, spE, -getElem?_pos, -List.getElem?_map, hlt, hc, hg, hx, hi']
      rw [hK]
      exact sp_loop1 hal i x hx hi B bx pm rest (pre ++ [y]) ((pre.length : Int) + 1) (decide (y = x)) (by simp [ha]) (by simp) (by rw [hB]; simp [hasF])
set_option maxHeartbeats 1000000 in
theorem sp_loop2 (hal : L.length ≤ 1099511627776) (i : Nat) (x : List UInt8) (hx : (b.map AV.str)[i]? = some (.str x)) (hi : i < b.length) (B : Bool) (bx : Bx) (pm : Pm) : ∀ (rest pre : List (List UInt8)) (j : Int) (h : Bool), L = pre ++ rest → j = pre.length → B = (h || hasF x rest) →
    Res (RunD Sy (.loop L8x2) ⟨spE s a b f t kept (L.map .str) p [(15, .int .i64 i), (16, .bool h), (18, .int .i64 j)], bx, pm, none⟩) fun ex st' => Sp2 s a b f t kept L p i B bx pm ex st'
  | [], pre, j, h, ha, hj, hB => by
    subst hj
    rw [List.append_nil] at ha
    subst ha
    rw [RunD_loop]
    simp [L8x2, spE]
    exact ⟨rfl, by simp [spE, hB, hasF]⟩
  | y :: rest, pre, j, h, ha, hj, hB => by
    have hlt : (pre.length : Int) < L.length := by rw [ha]; simp; omega
    have hg : (L.map AV.str)[pre.length]? = some (.str y) := by rw [ha]; simp
    subst hj
    have hc := chk_i64 ((pre.length : Int) + 1) (by omega)
    have hi' : (i : Int) < b.length := by omega
    refine loop_step fun K hK => ?_
    cases h with
    | true =>
      simp [L8x2, spE, -getElem?_pos, -List.getElem?_map, hlt, hc]
      rw [hK]
      exact sp_loop2 hal i x hx hi B bx pm rest (pre ++ [y]) ((pre.length : Int) + 1) true (by simp [ha]) (by simp) (by rw [hB]; simp)
    | false =>
      simp [L8x2, spE, -getElem?_pos, -List.getElem?_map, hlt, hc, hg, hx, hi']
      rw [hK]
      exact sp_loop2 hal i x hx hi B bx pm rest (pre ++ [y]) ((pre.length : Int) + 1) (decide (y = x)) (by simp [ha]) (by simp) (by rw [hB]; simp [hasF])
set_option maxHeartbeats 1000000 in
theorem sp_loop3 (hal : a.length ≤ 1099511627776) (hbl : b.length ≤ 1099511627776) (hLl : L.length ≤ 1099511627776) (bx : Bx) (pm : Pm) : ∀ (rest pre : List (List UInt8)) (j : Int), b = pre ++ rest → j = pre.length → (∀ x ∈ rest, (hasF x a || hasF x L) = true) →
    Res (RunD Sy (.loop L8x3) ⟨spE s a b f t kept (L.map .str) p [(15, .int .i64 j)], bx, pm, none⟩) fun ex st' => Sp3 s a b f t kept L p bx pm ex st'
  | [], pre, j, hb, hj, hm => by
    subst hj
    rw [List.append_nil] at hb
    subst hb
    rw [RunD_loop]
    simp [L8x3, spE]
    exact ⟨rfl, by simp [spE]⟩
  | x :: rest, pre, j, hb, hj, hm => by
    have hlt : (pre.length : Int) < b.length := by rw [hb]; simp; omega
    have hlt' : pre.length < b.length := by omega
    have hg : (b.map AV.str)[pre.length]? = some (.str x) := by rw [hb]; simp
    subst hj
    have hc := chk_i64 ((pre.length : Int) + 1) (by omega)
    obtain ⟨ex1, st1, hL1, rfl, rfl⟩ := sp_loop1 s a b f t kept L p hal pre.length x hg hlt' _ bx pm a [] 0 false rfl rfl rfl
    obtain ⟨ex2, st2, hL2, rfl, rfl⟩ := sp_loop2 s a b f t kept L p hLl pre.length x hg hlt' _ bx pm L [] 0 (false || hasF x a) rfl rfl rfl
    have hB : (false || hasF x a || hasF x L) = true := by simpa using hm x (by simp)
    rw [hB] at hL2
    rw [Bool.false_or] at hL1 hL2
    simp only [spE] at hL1 hL2
    refine loop_step fun K hK => ?_
    simp [L8x3, spE, hlt, hc, hL1, hL2]
    rw [hK]
    exact sp_loop3 hal hbl hLl bx pm rest (pre ++ [x]) ((pre.length : Int) + 1) (by simp [hb]) (by simp) (fun y hy => hm y (List.mem_cons_of_mem _ hy))
end
theorem addF_len : ∀ {s : List Edit}, (∀ e ∈ s, mayB e = true) → (addF s).length ≤ 1048576 * s.length
  | [], _ => by simp [addF]
  | e :: s, h => by
    have i := addF_len (s := s) (fun x hx => h x (List.mem_cons_of_mem _ hx))
    obtain ⟨hop, hn1, hn2, hn3, hn4⟩ := mayB_op (h e (by simp))
    have hlsl : e.ls.length ≤ 1048576 := by
      by_cases h3 : e.op = 3
      · have := hn3 h3; omega
      · rw [hn4 h3]; simp
    have e1 : addF (e :: s) = e.ls ++ addF s := by simp [addF]
    rw [e1, List.length_append, List.length_cons]
    omega
set_option maxHeartbeats 2000000 in
set_option maxRecDepth 20000 in
theorem spans_law_den (raw lines : List Int) (hr : ∀ c ∈ raw, inR c) (hl : ∀ c ∈ lines, inR c) : Den Sy 8 [iS raw, iS lines] = some (.bool true) := by
  rw [Den_fun Sy (af := A8) rfl rfl _ rfl]
  have hsd := script_den raw lines hr hl
  have hsr := scriptF_right raw
  obtain ⟨hm1, hm2, hlen⟩ := script_many raw 1 2
  obtain ⟨hm3, hm4, _⟩ := script_many raw 1 3
  obtain ⟨hm5, hm6, _⟩ := script_many raw 1 1
  obtain ⟨hm7, hm8, _⟩ := script_many raw 2 3
  generalize ha : fullF lines (many 1 2 (scriptF raw)).toNat = a at hsd
  have hal : many 1 2 (scriptF raw) = a.length := by rw [← ha, fullF, fullG_len]; omega
  generalize scriptF raw = s at hsd hsr hm1 hm2 hlen hm3 hm4 hm5 hm6 hm7 hm8 hal
  have hmay := rightF_may hsr
  have hbl := apply_len s a hmay hal
  have hmem := apply_mem s a
  have hall := many_all hmay
  have hadd := addF_len hmay
  have d1 := apply_den s (by omega) a
  have f1 : fitsF s a.length = 0 := by simp [fitsF, hsr, hal]
  rw [f1] at d1
  simp only [applyF, f1, if_true, applyA_map] at d1
  generalize applyB s a = b at hbl hmem d1
  have d5 := spans_den s (by omega)
  have d7 := cost_den s (by omega)
  simp only [spansF, costF, hsr, if_true, hal, ← hbl] at d5 d7
  obtain ⟨ex0, st0, hL0, rfl, q, bx', pm', rfl⟩ := sp_loop0 s (by omega) hmay a b a.length b.length s [] 0 [] .nil 0 (ofL []) none' rfl rfl (AppOk.nil _) (by simp) (by omega) (by simp)
  rw [List.nil_append, Int.zero_add] at hL0
  obtain ⟨ex3, st3, hL3, rfl, rfl⟩ := sp_loop3 s a b a.length b.length (many 1 1 s) (addF s) q (by omega) (by omega) (by omega) bx' pm' b [] 0 rfl rfl (fun x hx => by
    rcases hmem x hx with h | h
    · simp [hasF_mem x h]
    · simp [hasF_mem x h])
  have c1 := chk_i64 ((a.length : Int) + b.length) (by omega)
  have c2 := chk_i64 (2 * many 1 1 s) (by omega)
  have c3 := chk_i64 (many 2 3 s + 2 * many 1 1 s) (by omega)
  have hfin : (a.length : Int) + b.length = many 2 3 s + 2 * many 1 1 s := by rw [← hall, hal, hbl]
  rw [hfin] at c1
  simp only [spE] at hL0 hL3
  simp [A8, awake_den, hsd, d1, d5, d7, hL0, hL3, c2, c3, hfin]
end Go.Proofs.YtdcgldhhdajocaaDoor.Rx
