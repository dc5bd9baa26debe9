/-
  The plain program of laws and references; the references.
-/
import Derived.Test.YtpkeiffclipjmaaGreatDoorRxFh
import Derived.Test.YtpkeiffclipjmaaGreatDoorRxTabA
namespace Go.Proofs.YtpkeiffclipjmaaGreatDoor.Rx
open Go
set_option linter.unusedSimpArgs false

def extL : List (Nat × (List AV → Option AV)) := [(15, checkE), (18, sortEx), (21, findE), (23, readE), (25, listEx)]
def tblL : List (Nat × AFunc) := [(3, A3), (4, A4), (5, A5), (6, A6), (7, A7), (8, A8), (9, A9), (10, A10), (11, A11), (12, A12), (13, A13), (14, A14), (16, A16), (17, A17), (19, A19), (20, A20), (22, A22), (24, A24), (26, A26), (27, A27), (28, A28), (29, A29), (30, A30), (31, A31), (32, A32), (35, A35), (39, A39), (49, A49), (50, A50), (56, A56), (57, A57), (58, A58), (65, A65)]
def Sy : Sys := ⟨get extL, get tblL⟩
theorem ext_all : ∀ p ∈ extL, ∀ args r, p.2 args = some r → Says C4 p.1 args r := by
  unfold extL
  refine List.forall_mem_cons.2 ⟨Check_says, ?_⟩
  refine List.forall_mem_cons.2 ⟨Sort_says, ?_⟩
  refine List.forall_mem_cons.2 ⟨find_says, ?_⟩
  refine List.forall_mem_cons.2 ⟨Read_says, ?_⟩
  refine List.forall_mem_cons.2 ⟨List_says, ?_⟩
  exact fun _ h => absurd h List.not_mem_nil
theorem tbl_all : ∀ p ∈ tblL, ∃ K fn ks, Tryz.prog.funcs[p.1]? = some fn ∧ cmpF Tryz.prog K fn ks = some p.2 := by
  unfold tblL
  refine List.forall_mem_cons.2 ⟨⟨_, _, K3, Tryz.func3, c3⟩, ?_⟩
  refine List.forall_mem_cons.2 ⟨⟨_, _, K4, Tryz.func4, c4⟩, ?_⟩
  refine List.forall_mem_cons.2 ⟨⟨_, _, K5, Tryz.func5, c5⟩, ?_⟩
  refine List.forall_mem_cons.2 ⟨⟨_, _, K6, Tryz.func6, c6⟩, ?_⟩
  refine List.forall_mem_cons.2 ⟨⟨_, _, K7, Tryz.func7, c7⟩, ?_⟩
  refine List.forall_mem_cons.2 ⟨⟨_, _, K8, Tryz.func8, c8⟩, ?_⟩
  refine List.forall_mem_cons.2 ⟨⟨_, _, K9, Tryz.func9, c9⟩, ?_⟩
  refine List.forall_mem_cons.2 ⟨⟨_, _, K10, Tryz.func10, c10⟩, ?_⟩
  refine List.forall_mem_cons.2 ⟨⟨_, _, K11, Tryz.func11, c11⟩, ?_⟩
  refine List.forall_mem_cons.2 ⟨⟨_, _, K12, Tryz.func12, c12⟩, ?_⟩
  refine List.forall_mem_cons.2 ⟨⟨_, _, K13, Tryz.func13, c13⟩, ?_⟩
  refine List.forall_mem_cons.2 ⟨⟨_, _, K14, Tryz.func14, c14⟩, ?_⟩
  refine List.forall_mem_cons.2 ⟨⟨_, _, K16, Tryz.func16, c16⟩, ?_⟩
  refine List.forall_mem_cons.2 ⟨⟨_, _, K17, Tryz.func17, c17⟩, ?_⟩
  refine List.forall_mem_cons.2 ⟨⟨_, _, K19, Tryz.func19, c19⟩, ?_⟩
  refine List.forall_mem_cons.2 ⟨⟨_, _, K20, Tryz.func20, c20⟩, ?_⟩
  refine List.forall_mem_cons.2 ⟨⟨_, _, K22, Tryz.func22, c22⟩, ?_⟩
  refine List.forall_mem_cons.2 ⟨⟨_, _, K24, Tryz.func24, c24⟩, ?_⟩
  refine List.forall_mem_cons.2 ⟨⟨_, _, K26, Tryz.func26, c26⟩, ?_⟩
  refine List.forall_mem_cons.2 ⟨⟨_, _, K27, Tryz.func27, c27⟩, ?_⟩
  refine List.forall_mem_cons.2 ⟨⟨_, _, K28, Tryz.func28, c28⟩, ?_⟩
  refine List.forall_mem_cons.2 ⟨⟨_, _, K29, Tryz.func29, c29⟩, ?_⟩
  refine List.forall_mem_cons.2 ⟨⟨_, _, K30, Tryz.func30, c30⟩, ?_⟩
  refine List.forall_mem_cons.2 ⟨⟨_, _, K31, Tryz.func31, c31⟩, ?_⟩
  refine List.forall_mem_cons.2 ⟨⟨_, _, K32, Tryz.func32, c32⟩, ?_⟩
  refine List.forall_mem_cons.2 ⟨⟨_, _, K35, Tryz.func35, c35⟩, ?_⟩
  refine List.forall_mem_cons.2 ⟨⟨_, _, K39, Tryz.func39, c39⟩, ?_⟩
  refine List.forall_mem_cons.2 ⟨⟨_, _, K49, Tryz.func49, c49⟩, ?_⟩
  refine List.forall_mem_cons.2 ⟨⟨_, _, K50, Tryz.func50, c50⟩, ?_⟩
  refine List.forall_mem_cons.2 ⟨⟨_, _, K56, Tryz.func56, c56⟩, ?_⟩
  refine List.forall_mem_cons.2 ⟨⟨_, _, K57, Tryz.func57, c57⟩, ?_⟩
  refine List.forall_mem_cons.2 ⟨⟨_, _, K58, Tryz.func58, c58⟩, ?_⟩
  refine List.forall_mem_cons.2 ⟨⟨_, _, K65, Tryz.func65, c65⟩, ?_⟩
  exact fun _ h => absurd h List.not_mem_nil
set_option maxRecDepth 100000 in
theorem fits : Fits C4 Sy := {
  mix := by kernel_rfl
  fine := fine4
  ext := fun _ _ h => ext_all _ (get_mem h)
  tbl := fun _ _ h => tbl_all _ (get_mem h) }
theorem pick01_den (c n : Int) (hc : inR c) (hn : 0 < n) : Den Sy 39 [.int .i64 c, .int .i64 n] = some (.int .i64 (pickF c n)) := by
  rw [Den_fun Sy (af := A39) rfl rfl _ rfl]
  obtain ⟨h1, h2⟩ := hc
  have h0 : ¬ n = 0 := by omega
  by_cases h : c < 0
  · have hc1 := chk_i64 (c + 1) (by omega)
    have hc2 := chk_i64 (0 - (c + 1)) (by omega)
    have e : (0 - (c + 1)) = -(c + 1) := by omega
    rw [e] at hc2
    simp [A39, h, hc1, hc2, h0, pickF]
  · simp [A39, h, h0, pickF]
theorem pick02_den (c n : Int) (hc : inR c) (hn : 0 < n) : Den Sy 11 [.int .i64 c, .int .i64 n] = some (.int .i64 (pickF c n)) := by
  rw [Den_fun Sy (af := A11) rfl rfl _ rfl]
  obtain ⟨h1, h2⟩ := hc
  have h0 : ¬ n = 0 := by omega
  by_cases h : c < 0
  · have hc1 := chk_i64 (c + 1) (by omega)
    have hc2 := chk_i64 (0 - (c + 1)) (by omega)
    have e : (0 - (c + 1)) = -(c + 1) := by omega
    rw [e] at hc2
    simp [A11, h, hc1, hc2, h0, pickF]
  · simp [A11, h, h0, pickF]
theorem join_den (d n : List UInt8) (h : d.length + n.length ≤ 1099511627776) : Den Sy 32 [.str d, .str n] = some (.str (joinF d n)) := by
  rw [Den_fun Sy (af := A32) rfl rfl _ rfl]
  have h1 : d.length + 1 ≤ 9223372036854775807 := by omega
  have h2 : d.length + 1 + n.length ≤ 9223372036854775807 := by omega
  have h3 : d.length + (n.length + 1) ≤ 9223372036854775807 := by omega
  by_cases hd : d = []
  · subst hd
    simp [A32, joinF]
  · simp [A32, joinF, hd, h1, h2, h3]
theorem may01_loop (s : List UInt8) (hs : s.length ≤ 1099511627776) (bx : Bx) (pm : Pm) : ∀ (rest pre : List UInt8) (i : Int), s = pre ++ rest → i = pre.length →
    Res (RunD Sy (.loop L65x0) ⟨ofL [(0, .str s), (3, .int .i64 i)], bx, pm, none⟩) fun ex st' => May1 (rest.all fun c => decide (c ≠ 0)) ex st'
  | [], pre, i, h, hi => by
    subst hi
    rw [List.append_nil] at h
    subst h
    rw [RunD_loop]
    simp [L65x0]
    exact ⟨rfl, by simp⟩
  | c :: rest, pre, i, h, hi => by
    subst hi
    have hlt : (pre.length : Int) < s.length := by rw [h]; simp; omega
    have hg : s[pre.length]? = some c := by rw [h]; simp
    have hc := chk_i64 ((pre.length : Int) + 1) (by omega)
    refine loop_step fun K hK => ?_
    by_cases h0 : c = 0
    · have h0' := (u8_zero c).2 h0
      simp [L65x0, -getElem?_pos, hlt, hg, hc, eq_true h0', eq_true h0]
      exact ⟨rfl, by simp⟩
    · have h0' := fun e => h0 ((u8_zero c).1 e)
      simp [L65x0, -getElem?_pos, hlt, hg, hc, eq_false h0', eq_false h0]
      rw [hK]
      have := may01_loop s hs bx pm rest (pre ++ [c]) ((pre.length : Int) + 1) (by simp [h]) (by simp)
      simpa [h0] using this
theorem may01_den (s : List UInt8) (hs : s.length ≤ 1099511627776) : Den Sy 65 [.str s] = some (.bool (may01 s)) := by
  rw [Den_fun Sy (af := A65) rfl rfl _ rfl]
  by_cases h1 : s = []
  · subst h1; simp [A65, may01]
  by_cases h2 : s = [46]
  · subst h2; simp [A65, may01]
  by_cases h3 : s = [46, 46]
  · subst h3; simp [A65, may01]
  by_cases h4 : 64 < s.length
  · have h4' : (64 : Int) < s.length := by omega
    simp [A65, may01, h1, h2, h3, h4, h4']
  have h4' : ¬ (64 : Int) < s.length := by omega
  obtain ⟨ex, st', hL, hdf, hR⟩ := may01_loop s hs (ofL []) none' s [] 0 rfl rfl
  by_cases hb : (s.all fun c => decide (c ≠ 0)) = true
  · rw [if_pos hb] at hR
    subst hR
    have hm : may01 s = true := by unfold may01; rw [hb]; simp [h1, h2, h3, h4]
    simp [A65, hm, h1, h2, h3, h4', hL, hdf]
  · rw [if_neg hb] at hR
    obtain ⟨rfl, h5⟩ := hR
    have hm : may01 s = false := by unfold may01; simp only [Bool.not_eq_true] at hb; rw [hb]; simp
    simp [A65, hm, h1, h2, h3, h4', hL, hdf, h5]

/-! ### A text's parts -/
set_option maxHeartbeats 1000000 in
theorem split_loop (s : List UInt8) (hs : s.length ≤ 1099511627776) (R : List AV) (bx : Bx) : ∀ (rest pre : List UInt8) (i f : Nat) (ji jf : Int) (O : List AV) (q : Perm) (pm : Pm), s = pre ++ rest → ji = i → jf = f → i = pre.length → f ≤ i → O.length ≤ i → AppOk pm q → R = O ++ (splitG (pre.drop f) rest).map .str →
    Res (RunD Sy (.loop L50x0) ⟨ofL [(0, .str s), (3, .sl 1 O q), (4, .int .i64 jf), (5, .int .i64 ji)], bx, pm, none⟩) fun ex st' => Spl s R bx ex st'
  | [], pre, i, f, ji, jf, O, q, pm, h, hji, hjf, hi, hf, hO, hq, hR => by
    subst hji hjf hi
    rw [List.append_nil] at h
    subst h
    rw [RunD_loop]
    simp [L50x0]
    exact ⟨rfl, O, q, f, _, pm, rfl, hq, hf, hO, by rw [hR]; simp [splitG]⟩
  | c :: rest, pre, i, f, ji, jf, O, q, pm, h, hji, hjf, hi, hf, hO, hq, hR => by
    subst hji hjf hi
    have hlt : (pre.length : Int) < s.length := by rw [h]; simp; omega
    have hg : s[pre.length]? = some c := by rw [h]; simp
    have hc := chk_i64 ((pre.length : Int) + 1) (by omega)
    have hsz : (O.length + 1) * 16 ≤ 140737488355328 := by omega
    have hle : (pre.length : Int) ≤ s.length := by omega
    have hfi : (f : Int) ≤ pre.length := by omega
    have htk : s.take pre.length = pre := by rw [h]; simp
    refine loop_step fun K hK => ?_
    by_cases h0 : c = 47
    · have h0' := (u8_47 c).2 h0
      subst h0
      have hR' : R = (O ++ [.str (pre.drop f)]) ++ (splitG ((pre ++ [47]).drop (pre.length + 1)) rest).map .str := by rw [hR]; simp [splitG]
      rcases hq with rfl | ⟨t, v, rfl, hpm⟩
      · simp [L50x0, -getElem?_pos, hlt, hg, hc, eq_true h0', hle, hfi, htk, hsz]
        rw [hK]
        refine split_loop s hs R bx rest (pre ++ [47]) (pre.length + 1) (pre.length + 1) _ _ _ _ _ ?_ ?_ ?_ ?_ ?_ ?_ (AppOk.tok (by simp)) hR'
        · simp [h]
        · simp
        · simp
        · simp
        · omega
        · simp; omega
      · simp [L50x0, -getElem?_pos, hlt, hg, hc, eq_true h0', hle, hfi, htk, hsz, hpm]
        rw [hK]
        refine split_loop s hs R bx rest (pre ++ [47]) (pre.length + 1) (pre.length + 1) _ _ _ _ _ ?_ ?_ ?_ ?_ ?_ ?_ (AppOk.tok (by simp)) hR'
        · simp [h]
        · simp
        · simp
        · simp
        · omega
        · simp; omega
    · have h0' := fun e => h0 ((u8_47 c).1 e)
      have hR' : R = O ++ (splitG ((pre ++ [c]).drop f) rest).map .str := by rw [hR, List.drop_append_of_le_length hf]; simp [splitG, h0]
      simp [L50x0, -getElem?_pos, hlt, hg, hc, eq_false h0']
      rw [hK]
      refine split_loop s hs R bx rest (pre ++ [c]) (pre.length + 1) f _ _ _ _ _ ?_ ?_ rfl ?_ ?_ ?_ hq hR'
      · simp [h]
      · simp
      · simp
      · omega
      · omega
theorem split_den (s : List UInt8) (hs : s.length ≤ 1099511627776) : Den Sy 50 [.str s] = some (sS (splitP s)) := by
  rw [Den_fun Sy (af := A50) rfl rfl _ rfl]
  obtain ⟨ex, st', hL, rfl, O, q, f, i, pm', rfl, hq, hf, hO, hR⟩ := split_loop s hs ((splitP s).map .str) (ofL []) s [] 0 0 0 0 [] .nil none' rfl rfl rfl rfl (Nat.le_refl _) (by simp) (AppOk.nil _) (by simp [splitP])
  have hsz : (O.length + 1) * 16 ≤ 140737488355328 := by omega
  have hf' : (f : Int) ≤ s.length := by omega
  have hx : s.take s.length = s := List.take_of_length_le (Nat.le_refl _)
  rcases hq with rfl | ⟨t, v, rfl, hpm⟩
  · simp [A50, hL, hsz, hf', hx, hR]
  · simp [A50, hL, hsz, hf', hx, hpm, hR]
theorem check01_loop (l : List (List UInt8)) (hl : l.length ≤ 1099511627777) (hm : ∀ x ∈ l, x.length ≤ 1099511627776) (bx : Bx) (pm : Pm) : ∀ (rest pre : List (List UInt8)) (i : Int), l = pre ++ rest → i = pre.length →
    RunD Sy (.loop L49x0) ⟨ofL [(3, sS l), (4, .int .i64 i)], bx, pm, none⟩ = some (if rest.all may01 = true then (.exit 0, ⟨ofL [(3, sS l), (4, .int .i64 l.length), (11, .bool false)], bx, pm, none⟩) else (.ret, ⟨ofL [(2, .int .i64 2)], bx, pm, none⟩))
  | [], pre, i, h, hi => by
    subst hi
    rw [List.append_nil] at h
    subst h
    rw [RunD_loop]
    simp [L49x0]
  | c :: rest, pre, i, h, hi => by
    subst hi
    have hlt : (pre.length : Int) < l.length := by rw [h]; simp; omega
    have hg : (l.map AV.str)[pre.length]? = some (.str c) := by rw [h]; simp
    have hc := chk_i64 ((pre.length : Int) + 1) (by omega)
    have hd := may01_den c (hm c (by rw [h]; simp))
    refine loop_eq fun K hK => ?_
    by_cases h0 : may01 c = true
    · have hr := check01_loop l hl hm bx pm rest (pre ++ [c]) ((pre.length : Int) + 1) (by simp [h]) (by simp)
      simp [L49x0, -getElem?_pos, -List.getElem?_map, hlt, hg, hc, hd, h0]
      rw [hK, hr]
      simp [h0]
    · simp [L49x0, -getElem?_pos, -List.getElem?_map, hlt, hg, hc, hd, h0]
theorem check01_den (s : List UInt8) (hs : s.length ≤ 1099511627776) : Den Sy 49 [.str s] = some (.int .i64 (check01F s)) := by
  rw [Den_fun Sy (af := A49) rfl rfl _ rfl]
  have hd := split_den s hs
  have hl := splitP_len s
  have hL := check01_loop (splitP s) (by omega) (fun x hx => by have := splitP_mem hx; omega) (ofL []) none' (splitP s) [] 0 rfl rfl
  by_cases h1 : (splitP s).all may01 = true
  · rw [if_pos h1] at hL
    by_cases h2 : 16 < (splitP s).length
    · have h2' : (16 : Int) < (splitP s).length := by omega
      simp [A49, hd, hL, check01F, eq_true h1, h2, h2', -List.all_eq_true]
    · have h2' : ¬ (16 : Int) < (splitP s).length := by omega
      simp [A49, hd, hL, check01F, eq_true h1, h2, h2', -List.all_eq_true]
  · rw [if_neg h1] at hL
    simp [A49, hd, hL, check01F, eq_false h1, -List.all_eq_true]
theorem parts_den (s : List UInt8) (hs : s.length ≤ 1099511627776) : Den Sy 31 [.str s] = some (sS (partsF s)) := by
  rw [Den_fun Sy (af := A31) rfl rfl _ rfl]
  have hd := split_den s hs
  have hc := check01_den s hs
  by_cases h : check01F s = 0
  · simp [A31, hd, hc, h, partsF]
  · simp [A31, hd, hc, h, partsF]
theorem dir_loop (l : List (List UInt8)) (hl : l.length ≤ 16) (hm : ∀ x ∈ l, x.length ≤ 64) (bx : Bx) (pm : Pm) : ∀ (rest pre : List (List UInt8)) (i : Int) (out : List UInt8), l = pre ++ rest → i = pre.length → out.length ≤ 65 * pre.length →
    ∃ i' : Int, RunD Sy (.loop L29x0) ⟨ofL [(3, sS l), (4, .str out), (5, .int .i64 i)], bx, pm, none⟩ = some (.exit 0, ⟨ofL [(3, sS l), (4, .str (dirG out rest)), (5, .int .i64 i'), (12, .bool false)], bx, pm, none⟩)
  | [], pre, i, out, h, hi, ho => by
    subst hi
    rw [List.append_nil] at h
    subst h
    refine ⟨l.length, ?_⟩
    rw [RunD_loop]
    have hc := chk_i64 ((l.length : Int) + 1) (by omega)
    have h2 : ¬ (l.length : Int) + 1 < l.length := by omega
    simp [L29x0, dirG, hc, h2]
  | [c], pre, i, out, h, hi, ho => by
    subst hi
    refine ⟨pre.length, ?_⟩
    rw [RunD_loop]
    have h1 : (l.length : Int) = pre.length + 1 := by rw [h]; simp
    have hc := chk_i64 ((pre.length : Int) + 1) (by omega)
    have h2 : ¬ (pre.length : Int) + 1 < l.length := by omega
    simp [L29x0, dirG, hc, h2, h1]
  | c :: d :: rest, pre, i, out, h, hi, ho => by
    subst hi
    have h1 : l.length = pre.length + (rest.length + 2) := by rw [h]; simp
    have hlt : (pre.length : Int) + 1 < l.length := by omega
    have hlt' : (pre.length : Int) < l.length := by omega
    have hg : (l.map AV.str)[pre.length]? = some (.str c) := by rw [h]; simp
    have hc := chk_i64 ((pre.length : Int) + 1) (by omega)
    have hcl := hm c (by rw [h]; simp)
    have hd := join_den out c (by omega)
    have hj := joinF_len out c
    obtain ⟨i', hr⟩ := dir_loop l hl hm bx pm (d :: rest) (pre ++ [c]) ((pre.length : Int) + 1) (joinF out c) (by simp [h]) (by simp) (by simp; omega)
    refine ⟨i', loop_eq fun K hK => ?_⟩
    simp [L29x0, -getElem?_pos, -List.getElem?_map, hlt, hlt', hg, hc, hd]
    rw [hK, hr]
    simp [dirG]
theorem dir_den (s : List UInt8) (hs : s.length ≤ 1099511627776) : Den Sy 29 [.str s] = some (.str (dirF s)) := by
  rw [Den_fun Sy (af := A29) rfl rfl _ rfl]
  have hd := parts_den s hs
  obtain ⟨i', hL⟩ := dir_loop (partsF s) (partsF_len s) (fun x hx => partsF_mem hx) (ofL []) none' (partsF s) [] 0 [] rfl rfl (by simp)
  simp [A29, hd, hL, dirF]
/-! ### The order of paths -/
theorem cmp_loop (X Y : List (List UInt8)) (hX : X.length ≤ 1099511627777) (bx : Bx) (pm : Pm) : ∀ (x y px py : List (List UInt8)) (i : Int), X = px ++ x → Y = py ++ y → px.length = py.length → i = px.length →
    Res (RunD Sy (.loop L27x0) ⟨ofL [(5, sS X), (6, sS Y), (7, .int .i64 i)], bx, pm, none⟩) fun ex st' => match cmpQ x y with
      | some c => ex = .ret ∧ st' = ⟨ofL [(4, .int .i64 c)], bx, pm, none⟩
      | none => ex = .exit 0 ∧ ∃ i' : Int, st' = ⟨ofL [(5, sS X), (6, sS Y), (7, .int .i64 i'), (21, .bool false)], bx, pm, none⟩
  | [], y, px, py, i, h1, h2, h3, hi => by
    subst hi
    rw [List.append_nil] at h1
    subst h1
    refine loop_step fun K hK => ?_
    simp [L27x0, cmpQ]
    exact ⟨_, rfl⟩
  | a :: x, [], px, py, i, h1, h2, h3, hi => by
    subst hi
    rw [List.append_nil] at h2
    subst h2
    have hlt : (px.length : Int) < X.length := by rw [h1]; simp; omega
    have hn : ¬ (px.length : Int) < Y.length := by omega
    refine loop_step fun K hK => ?_
    simp [L27x0, cmpQ, hlt, hn]
    exact ⟨_, rfl⟩
  | a :: x, b :: y, px, py, i, h1, h2, h3, hi => by
    subst hi
    have hlt : (px.length : Int) < X.length := by rw [h1]; simp; omega
    have hlt2 : (px.length : Int) < Y.length := by rw [h2, h3]; simp; omega
    have hg : (X.map AV.str)[px.length]? = some (.str a) := by rw [h1]; simp
    have hg2 : (Y.map AV.str)[px.length]? = some (.str b) := by rw [h2, h3]; simp
    have hc := chk_i64 ((px.length : Int) + 1) (by omega)
    refine loop_step fun K hK => ?_
    by_cases h4 : lessS a b = true
    · simp [L27x0, cmpQ, -getElem?_pos, -List.getElem?_map, hlt, hlt2, hg, hg2, hc, h4]
    · by_cases h5 : a = b
      · subst h5
        simp [L27x0, cmpQ, -getElem?_pos, -List.getElem?_map, hlt, hlt2, hg, hg2, hc, h4]
        rw [hK]
        exact cmp_loop X Y hX bx pm x y (px ++ [a]) (py ++ [a]) ((px.length : Int) + 1) (by simp [h1]) (by simp [h2]) (by simp [h3]) (by simp)
      · simp [L27x0, cmpQ, -getElem?_pos, -List.getElem?_map, hlt, hlt2, hg, hg2, hc, h4, h5]
theorem cmp_den (a b : List UInt8) (ha : a.length ≤ 1099511627776) (hb : b.length ≤ 1099511627776) : Den Sy 27 [.str a, .str b] = some (.int .i64 (cmpP a b)) := by
  rw [Den_fun Sy (af := A27) rfl rfl _ rfl]
  have ha' := split_den a ha
  have hb' := split_den b hb
  have hl := splitP_len a
  obtain ⟨ex, st', hL, hR⟩ := cmp_loop (splitP a) (splitP b) (by omega) (ofL []) none' (splitP a) (splitP b) [] [] 0 rfl rfl rfl rfl
  unfold cmpP cmpL
  split at hR
  · rename_i c hc
    obtain ⟨rfl, rfl⟩ := hR
    simp [A27, ha', hb', hL, hc]
  · rename_i hc
    obtain ⟨rfl, i', rfl⟩ := hR
    by_cases h1 : (splitP a).length < (splitP b).length
    · have h1' : ((splitP a).length : Int) < (splitP b).length := by omega
      simp [A27, ha', hb', hL, hc, h1, h1']
    · have h1' : ¬ ((splitP a).length : Int) < (splitP b).length := by omega
      by_cases h2 : (splitP b).length < (splitP a).length
      · have h2' : ((splitP b).length : Int) < (splitP a).length := by omega
        simp [A27, ha', hb', hL, hc, h1, h1', h2, h2']
      · have h2' : ¬ ((splitP b).length : Int) < (splitP a).length := by omega
        simp [A27, ha', hb', hL, hc, h1, h1', h2, h2']

/-! ### Raw paths -/
theorem path_loop (NA : List AV) (hNA : NA = namesF.map .str) (raw : List Int) (hr : ∀ c ∈ raw, inR c) (p : Perm) (bx : Bx) (pm : Pm) : ∀ (k : Nat) (rest pre : List Int) (i : Int) (out : List UInt8), k + pre.length = 8 → raw = pre ++ rest → i = pre.length → out.length ≤ 4 * pre.length →
    ∃ i' : Int, RunD Sy (.loop L20x0) ⟨ofL [(0, .sl 1 (raw.map (.int .i64)) .no), (3, .sl 1 NA p), (4, .str out), (5, .int .i64 i)], bx, pm, none⟩ = some (.exit 0, ⟨ofL [(0, .sl 1 (raw.map (.int .i64)) .no), (3, .sl 1 NA p), (4, .str (pathG out (rest.take k))), (5, .int .i64 i'), (14, .bool false)], bx, pm, none⟩)
  | k, [], pre, i, out, hk, h, hi, ho => by
    subst hi
    rw [List.append_nil] at h
    subst h
    refine ⟨raw.length, loop_eq fun K hK => ?_⟩
    simp [L20x0, pathG]
  | 0, c :: rest, pre, i, out, hk, h, hi, ho => by
    subst hi
    have hlt : (pre.length : Int) < raw.length := by rw [h]; simp; omega
    have h8 : ¬ (pre.length : Int) < 8 := by omega
    refine ⟨pre.length, loop_eq fun K hK => ?_⟩
    simp [L20x0, pathG, hlt, h8]
  | k + 1, c :: rest, pre, i, out, hk, h, hi, ho => by
    subst hi
    have hlt : (pre.length : Int) < raw.length := by rw [h]; simp; omega
    have h8 : (pre.length : Int) < 8 := by omega
    have hg : (raw.map (AV.int .i64))[pre.length]? = some (.int .i64 c) := by rw [h]; simp
    have hc := chk_i64 ((pre.length : Int) + 1) (by omega)
    have hp := pick01_den c 8 (hr c (by rw [h]; simp)) (by omega)
    obtain ⟨hp1, hp2⟩ := pickF_lt c (n := 8) (by omega)
    have hnl := nameF_len c
    have hj := join_den out (nameF c) (by omega)
    have hjl := joinF_len out (nameF c)
    have hn : NA[(pickF c 8).toNat]? = some (.str (nameF c)) := by rw [hNA, List.getElem?_map, nameF_at]; rfl
    have hnn : NA.length = 8 := by rw [hNA]; rfl
    obtain ⟨i', hr'⟩ := path_loop NA hNA raw hr p bx pm k rest (pre ++ [c]) ((pre.length : Int) + 1) (joinF out (nameF c)) (by simp; omega) (by simp [h]) (by simp) (by simp; omega)
    refine ⟨i', loop_eq fun K hK => ?_⟩
    simp [L20x0, -getElem?_pos, -List.getElem?_map, hlt, h8, hg, hc, hp, hj, hn, hnn, hp1, hp2]
    rw [hK, hr']
    simp [pathG]
theorem path_den (raw : List Int) (hr : ∀ c ∈ raw, inR c) : Den Sy 20 [.sl 1 (raw.map (.int .i64)) .no] = some (.str (pathF raw)) := by
  rw [Den_fun Sy (af := A20) rfl rfl _ rfl]
  obtain ⟨i', hL⟩ := path_loop [.str [97], .str [98], .str [97, 98], .str [97, 33], .str [97, 46, 98], .str [46, 46, 46], .str [90], .str [255]] rfl raw hr .clip (ofL []) none' 8 raw [] 0 [] rfl rfl rfl (by simp)
  by_cases h : pathG [] (raw.take 8) = []
  · simp [A20, hL, h, pathF]
  · simp [A20, hL, h, pathF]
theorem count_loop (t : List It) (ht : t.length ≤ 1099511627776) (p : List UInt8) (bx : Bx) (pm : Pm) : ∀ (rest pre : List It) (i n : Int) (m : Nat), t = pre ++ rest → i = pre.length → n = m → m ≤ pre.length →
    RunD Sy (.loop L56x0) ⟨ofL [(0, sI t), (1, .str p), (5, .int .i64 n), (6, .int .i64 i)], bx, pm, none⟩ = some (.exit 0, ⟨ofL [(0, sI t), (1, .str p), (5, .int .i64 (n + countF rest p)), (6, .int .i64 t.length), (10, .bool false)], bx, pm, none⟩)
  | [], pre, i, n, m, h, hi, hn, hm => by
    subst hi hn
    rw [List.append_nil] at h
    subst h
    refine loop_eq fun K hK => ?_
    simp [L56x0, countF]
  | c :: rest, pre, i, n, m, h, hi, hn, hm => by
    subst hi hn
    have hlt : (pre.length : Int) < t.length := by rw [h]; simp; omega
    have hg : (t.map iA)[pre.length]? = some (iA c) := by rw [h]; simp
    have hc := chk_i64 ((pre.length : Int) + 1) (by omega)
    have hc2 := chk_i64 ((m : Int) + 1) (by omega)
    simp only [iA] at hg
    refine loop_eq fun K hK => ?_
    by_cases h0 : c.path = p
    · have hr := count_loop t ht p bx pm rest (pre ++ [c]) ((pre.length : Int) + 1) ((m : Int) + 1) (m + 1) (by simp [h]) (by simp) (by simp) (by simp; omega)
      have hu : ((countF (c :: rest) p : Nat) : Int) = countF rest p + 1 := by simp [countF, h0]
      have hv : (m : Int) + 1 + countF rest p = m + countF (c :: rest) p := by omega
      simp [L56x0, -getElem?_pos, -List.getElem?_map, hlt, hg, hc, hc2, h0]
      rw [hK, hr, hv]
    · have hr := count_loop t ht p bx pm rest (pre ++ [c]) ((pre.length : Int) + 1) m m (by simp [h]) (by simp) rfl (by simp; omega)
      simp [L56x0, -getElem?_pos, -List.getElem?_map, hlt, hg, hc, hc2, h0]
      rw [hK, hr]
      simp [countF, h0]
theorem count_den (t : List It) (ht : t.length ≤ 1099511627776) (p : List UInt8) : Den Sy 56 [sI t, .str p] = some (.int .i64 (countF t p)) := by
  rw [Den_fun Sy (af := A56) rfl rfl _ rfl]
  have hL := count_loop t ht p (ofL []) none' t [] 0 0 0 rfl rfl rfl (by simp)
  simp [A56, hL]

theorem dirB_loop (t : List It) (ht : t.length ≤ 1099511627776) (p : List UInt8) (bx : Bx) (pm : Pm) : ∀ (rest pre : List It) (i : Int), t = pre ++ rest → i = pre.length →
    RunD Sy (.loop L58x0) ⟨ofL [(0, sI t), (1, .str p), (5, .int .i64 i)], bx, pm, none⟩ = some (if dirB rest p = true then (.ret, ⟨ofL [(4, .bool true)], bx, pm, none⟩) else (.exit 0, ⟨ofL [(0, sI t), (1, .str p), (5, .int .i64 t.length), (9, .bool false)], bx, pm, none⟩))
  | [], pre, i, h, hi => by
    subst hi
    rw [List.append_nil] at h
    subst h
    refine loop_eq fun K hK => ?_
    simp [L58x0, dirB]
  | c :: rest, pre, i, h, hi => by
    subst hi
    have hlt : (pre.length : Int) < t.length := by rw [h]; simp; omega
    have hg : (t.map iA)[pre.length]? = some (iA c) := by rw [h]; simp
    have hc := chk_i64 ((pre.length : Int) + 1) (by omega)
    simp only [iA] at hg
    have hr := dirB_loop t ht p bx pm rest (pre ++ [c]) ((pre.length : Int) + 1) (by simp [h]) (by simp)
    have hu : dirB (c :: rest) p = ((decide (c.path = p) && decide (c.kind = 1)) || dirB rest p) := by simp [dirB]
    refine loop_eq fun K hK => ?_
    by_cases h0 : c.path = p
    · by_cases h1 : c.kind = 1
      · simp [L58x0, -getElem?_pos, -List.getElem?_map, hlt, hg, hc, h0, h1, hu]
      · simp [L58x0, -getElem?_pos, -List.getElem?_map, hlt, hg, hc, h0, h1, hu]
        rw [hK, hr]
    · simp [L58x0, -getElem?_pos, -List.getElem?_map, hlt, hg, hc, h0, hu]
      rw [hK, hr]
theorem dirB_den (t : List It) (ht : t.length ≤ 1099511627776) (p : List UInt8) : Den Sy 58 [sI t, .str p] = some (.bool (dirB t p)) := by
  rw [Den_fun Sy (af := A58) rfl rfl _ rfl]
  have hL := dirB_loop t ht p (ofL []) none' t [] 0 rfl rfl
  by_cases h : dirB t p = true
  · rw [if_pos h] at hL
    simp [A58, hL, h]
  · rw [if_neg h] at hL
    simp [A58, hL, h]

theorem find_loop (t : List It) (ht : t.length ≤ 1099511627776) (p : List UInt8) (v : Nat) (bx : Bx) (pm : Pm) (hb : bx 4 = some (v, [.str [], .int .i64 0, .str [], .bool false])) : ∀ (rest pre : List It) (i : Int), t = pre ++ rest → i = pre.length →
    Res (RunD Sy (.loop L22x0) ⟨ofL [(0, sI t), (1, .str p), (4, .ptr 4 v 0), (6, .int .i64 i)], bx, pm, none⟩) fun ex st' => match findF rest p with
      | some x => ex = .ret ∧ st'.env = ofL [(4, .ptr 4 v 0), (5, .bool true)] ∧ st'.bx 4 = some (v, [.str x.path, .int .i64 x.kind, .str x.data, .bool x.bad]) ∧ st'.df = none
      | none => ex = .exit 0 ∧ ∃ i', st' = ⟨ofL [(0, sI t), (1, .str p), (4, .ptr 4 v 0), (6, i'), (10, .bool false)], bx, pm, none⟩
  | [], pre, i, h, hi => by
    subst hi
    rw [List.append_nil] at h
    subst h
    refine loop_step fun K hK => ?_
    simp [L22x0, findF]
    exact ⟨_, rfl⟩
  | c :: rest, pre, i, h, hi => by
    subst hi
    have hlt : (pre.length : Int) < t.length := by rw [h]; simp; omega
    have hg : (t.map iA)[pre.length]? = some (iA c) := by rw [h]; simp
    have hc := chk_i64 ((pre.length : Int) + 1) (by omega)
    simp only [iA] at hg
    refine loop_step fun K hK => ?_
    by_cases h0 : c.path = p
    · simp [L22x0, -getElem?_pos, -List.getElem?_map, hlt, hg, hc, h0, findF, hb]
    · simp [L22x0, -getElem?_pos, -List.getElem?_map, hlt, hg, hc, h0, findF]
      rw [hK]
      exact find_loop t ht p v bx pm hb rest (pre ++ [c]) ((pre.length : Int) + 1) (by simp [h]) (by simp)
theorem find_den (t : List It) (ht : t.length ≤ 1099511627776) (p : List UInt8) : Den Sy 22 [sI t, .str p] = some (fA (findF t p)) := by
  rw [Den_fun Sy (af := A22) rfl rfl _ rfl]
  obtain ⟨ex, st', hL, hR⟩ := find_loop t ht p (nextB (ofL []) 4) (upd (ofL []) 4 (nextB (ofL []) 4, [.str [], .int .i64 0, .str [], .bool false])) none' (by simp) t [] 0 rfl rfl
  split at hR
  · rename_i x hx
    obtain ⟨rfl, h1, h2, h3⟩ := hR
    simp [A22, hL, hx, h1, h2, h3, fA, iA]
  · rename_i hx
    obtain ⟨rfl, i', rfl⟩ := hR
    simp [A22, hL, hx, fA, iA]
theorem some_loop (t : List It) (ht : t.length ≤ 1099511627776) (p : List UInt8) (size which : Int) (hw : which = 5 ∨ which = 7 ∨ which = 9) : ∀ (rest pre : List It) (i : Int) (bx : Bx) (pm : Pm), t = pre ++ rest → i = pre.length →
    Res (RunD Sy (.loop L57x0) ⟨ofL [(0, sI t), (1, .str p), (2, .int .i64 size), (3, .int .i64 which), (9, .int .i64 i)], bx, pm, none⟩) fun ex st' => st'.df = none ∧ if someB rest p size which = true then ex = .ret ∧ st'.env = ofL [(8, .bool true)] else ex = .exit 0
  | [], pre, i, bx, pm, h, hi => by
    subst hi
    rw [List.append_nil] at h
    subst h
    refine loop_step fun K hK => ?_
    simp [L57x0, someB]
  | c :: rest, pre, i, bx, pm, h, hi => by
    subst hi
    have hlt : (pre.length : Int) < t.length := by rw [h]; simp; omega
    have hg : (t.map iA)[pre.length]? = some (iA c) := by rw [h]; simp
    have hc := chk_i64 ((pre.length : Int) + 1) (by omega)
    simp only [iA] at hg
    have hr := fun bx pm => some_loop t ht p size which hw rest (pre ++ [c]) ((pre.length : Int) + 1) bx pm (by simp [h]) (by simp)
    have hu : someB (c :: rest) p size which = ((decide (c.path = p) && some1 c size which) || someB rest p size which) := by simp [someB]
    rw [hu]
    refine loop_step fun K hK => ?_
    by_cases h0 : c.path = p
    · rcases hw with rfl | rfl | rfl
      · by_cases h1 : c.kind < 1
        · simp [L57x0, -getElem?_pos, -List.getElem?_map, hlt, hg, hc, h0, h1, some1]
        · by_cases h2 : 3 < c.kind
          · simp [L57x0, -getElem?_pos, -List.getElem?_map, hlt, hg, hc, h0, h1, h2, some1]
          · by_cases h3 : c.kind = 1
            · by_cases h4 : c.data = []
              · simp [L57x0, -getElem?_pos, -List.getElem?_map, hlt, hg, hc, h0, h1, h2, h3, h4, some1]
                rw [hK]
                exact hr _ _
              · simp [L57x0, -getElem?_pos, -List.getElem?_map, hlt, hg, hc, h0, h1, h2, h3, h4, some1]
            · simp [L57x0, -getElem?_pos, -List.getElem?_map, hlt, hg, hc, h0, h1, h2, h3, some1]
              rw [hK]
              exact hr _ _
      · by_cases h1 : size < c.data.length
        · simp [L57x0, -getElem?_pos, -List.getElem?_map, hlt, hg, hc, h0, h1, some1]
        · simp [L57x0, -getElem?_pos, -List.getElem?_map, hlt, hg, hc, h0, h1, some1]
          rw [hK]
          exact hr _ _
      · by_cases h1 : c.bad = true
        · simp [L57x0, -getElem?_pos, -List.getElem?_map, hlt, hg, hc, h0, h1, some1]
        · simp [L57x0, -getElem?_pos, -List.getElem?_map, hlt, hg, hc, h0, h1, some1]
          rw [hK]
          exact hr _ _
    · simp [L57x0, -getElem?_pos, -List.getElem?_map, hlt, hg, hc, h0]
      rw [hK]
      exact hr _ _
theorem some_den (t : List It) (ht : t.length ≤ 1099511627776) (p : List UInt8) (size which : Int) (hw : which = 5 ∨ which = 7 ∨ which = 9) : Den Sy 57 [sI t, .str p, .int .i64 size, .int .i64 which] = some (.bool (someB t p size which)) := by
  rw [Den_fun Sy (af := A57) rfl rfl _ rfl]
  obtain ⟨ex, st', hL, hd, hR⟩ := some_loop t ht p size which hw t [] 0 (ofL []) none' rfl rfl
  by_cases h : someB t p size which = true
  · rw [if_pos h] at hR
    simp [A57, hL, h, hR, hd]
  · rw [if_neg h] at hR
    simp [A57, hL, h, hR, hd]

theorem fault_den (t : List It) (ht : t.length ≤ 1099511627776) (l : Lim) (p : List UInt8) (hp : p.length ≤ 1099511627776) : Den Sy 35 [sI t, lA l, .str p] = some (.int .i64 (faultF t l p)) := by
  rw [Den_fun Sy (af := A35) rfl rfl _ rfl]
  have h1 := check01_den p hp
  have h2 := parts_den p hp
  have h3 := count_den t ht p
  have h5 := some_den t ht p l.size 5 (by simp)
  have h7 := some_den t ht p l.size 7 (by simp)
  have h9 := some_den t ht p l.size 9 (by simp)
  have hd := dir_den p hp
  have h6 := dirB_den t ht (dirF p)
  unfold faultF
  by_cases k1 : check01F p = 0
  · by_cases k2 : l.depth < (partsF p).length
    · simp [A35, lA, h1, h2, k1, k2]
    · by_cases k3 : 1 < countF t p
      · have k3' : (1 : Int) < countF t p := by omega
        simp [A35, lA, h1, h2, h3, k1, k2, k3, k3']
      · have k3' : ¬ (1 : Int) < countF t p := by omega
        by_cases k4 : someB t p l.size 5 = true
        · simp [A35, lA, h1, h2, h3, h5, k1, k2, k3, k3', k4]
        · by_cases k5 : dirF p = []
          · by_cases k7 : someB t p l.size 7 = true
            · simp [A35, lA, h1, h2, h3, h5, h7, h9, hd, h6, k1, k2, k3, k3', k4, k5, k7]
            · by_cases k9 : someB t p l.size 9 = true
              · simp [A35, lA, h1, h2, h3, h5, h7, h9, hd, h6, k1, k2, k3, k3', k4, k5, k7, k9]
              · simp [A35, lA, h1, h2, h3, h5, h7, h9, hd, h6, k1, k2, k3, k3', k4, k5, k7, k9]
          · by_cases k6 : dirB t (dirF p) = false
            · simp [A35, lA, h1, h2, h3, h5, h7, h9, hd, h6, k1, k2, k3, k3', k4, k5, k6]
            · by_cases k7 : someB t p l.size 7 = true
              · simp [A35, lA, h1, h2, h3, h5, h7, h9, hd, h6, k1, k2, k3, k3', k4, k5, k6, k7]
              · by_cases k9 : someB t p l.size 9 = true
                · simp [A35, lA, h1, h2, h3, h5, h7, h9, hd, h6, k1, k2, k3, k3', k4, k5, k6, k7, k9]
                · simp [A35, lA, h1, h2, h3, h5, h7, h9, hd, h6, k1, k2, k3, k3', k4, k5, k6, k7, k9]
  · simp [A35, lA, h1, k1]

/-! ### What is wrong with a tree -/
theorem check_loop (t : List It) (ht : t.length ≤ 1099511627776) (hp : ∀ x ∈ t, x.path.length ≤ 1099511627776) (l : Lim) (v3 v4 v5 : Nat) : ∀ (rest pre : List It) (i : Int) (path : List UInt8) (code : Int) (bx : Bx) (pm : Pm), t = pre ++ rest → i = pre.length → path.length ≤ 1099511627776 → bx 3 = some (v3, [.int .i64 l.depth, .int .i64 l.size, .int .i64 l.count]) → bx 4 = some (v4, [.str [], .int .i64 0]) → bx 5 = some (v5, [.str path, .int .i64 code]) →
    Res (RunD Sy (.loop L16x0) ⟨ofL [(0, sI t), (3, .ptr 3 v3 0), (4, .ptr 4 v4 0), (5, .ptr 5 v5 0), (6, .int .i64 i)], bx, pm, none⟩) fun ex st' => ex = .exit 0 ∧ ∃ i' b, st' = ⟨ofL [(0, sI t), (3, .ptr 3 v3 0), (4, .ptr 4 v4 0), (5, .ptr 5 v5 0), (6, i'), (18, .bool false)], b, pm, none⟩ ∧ b 4 = some (v4, [.str [], .int .i64 0]) ∧ b 5 = some (v5, [.str (checkG t l path code rest).1, .int .i64 (checkG t l path code rest).2])
  | [], pre, i, path, code, bx, pm, h, hi, hl, b3, b4, b5 => by
    subst hi
    rw [List.append_nil] at h
    subst h
    refine loop_step fun K hK => ?_
    simp [L16x0, checkG]
    exact ⟨_, _, ⟨rfl, rfl⟩, b4, b5⟩
  | c :: rest, pre, i, path, code, bx, pm, h, hi, hl, b3, b4, b5 => by
    subst hi
    have hlt : (pre.length : Int) < t.length := by rw [h]; simp; omega
    have hg : (t.map iA)[pre.length]? = some (iA c) := by rw [h]; simp
    have hc := chk_i64 ((pre.length : Int) + 1) (by omega)
    have hcp := hp c (by rw [h]; simp)
    have hf := fault_den t ht l c.path hcp
    have hm := cmp_den c.path path hcp hl
    simp only [iA] at hg
    simp only [lA] at hf
    refine loop_step fun K hK => ?_
    unfold checkG
    by_cases h0 : faultF t l c.path = 0
    · simp [L16x0, -getElem?_pos, -List.getElem?_map, hlt, hg, hc, h0, b3, b4, b5, hf]
      rw [hK]
      exact check_loop t ht hp l v3 v4 v5 rest (pre ++ [c]) ((pre.length : Int) + 1) path code bx pm (by simp [h]) (by simp) hl b3 b4 b5
    · by_cases h1 : code = 0
      · simp [L16x0, -getElem?_pos, -List.getElem?_map, hlt, hg, hc, h0, h1, b3, b4, b5, hf]
        rw [hK]
        exact check_loop t ht hp l v3 v4 v5 rest (pre ++ [c]) ((pre.length : Int) + 1) c.path _ _ pm (by simp [h]) (by simp) hcp (by simp [b3]) (by simp [b4]) (by simp)
      · by_cases h2 : cmpP c.path path < 0
        · simp [L16x0, -getElem?_pos, -List.getElem?_map, hlt, hg, hc, h0, h1, h2, b3, b4, b5, hf, hm]
          rw [hK]
          exact check_loop t ht hp l v3 v4 v5 rest (pre ++ [c]) ((pre.length : Int) + 1) c.path _ _ pm (by simp [h]) (by simp) hcp (by simp [b3]) (by simp [b4]) (by simp)
        · simp [L16x0, -getElem?_pos, -List.getElem?_map, hlt, hg, hc, h0, h1, h2, b3, b4, b5, hf, hm]
          rw [hK]
          exact check_loop t ht hp l v3 v4 v5 rest (pre ++ [c]) ((pre.length : Int) + 1) path code bx pm (by simp [h]) (by simp) hl b3 b4 b5
theorem check_den (t : List It) (ht : t.length ≤ 1099511627776) (hp : ∀ x ∈ t, x.path.length ≤ 1099511627776) (l : Lim) : Den Sy 16 [sI t, lA l] = some (ftA (checkF t l)) := by
  rw [Den_fun Sy (af := A16) rfl rfl _ rfl]
  unfold checkF
  by_cases h : l.count < t.length
  · simp [A16, lA, h, ftA]
  · simp [A16, lA, h, ftA]
    generalize hX : RunD Sy (.loop L16x0) _ = X
    obtain ⟨ex, st', rfl, rfl, i', b, rfl, b4, b5⟩ := Res.at hX (check_loop t ht hp l _ _ _ t [] 0 [] 0 _ none' rfl rfl (by simp) (by simp) (by simp) (by simp))
    simp [b4, b5]

/-! ### Sorting -/
theorem sort_inner (t : List It) (x : It) (out : List It) (q : Perm) (i : Nat) (hi : i < t.length) (ht : t.length ≤ 1099511627776) (hx : t[i]? = some x) (hxp : x.path.length ≤ 1099511627776) (ho : out.length ≤ 1099511627776) (hop : ∀ y ∈ out, y.path.length ≤ 1099511627776) (bx : Bx) (pm : Pm) : ∀ (r s : List It) (at_ : Int), out = r.reverse ++ s → at_ = r.length →
    RunD Sy (.loop L19x0) ⟨ofL [(0, sI t), (3, .sl 4 (out.map iA) q), (4, .int .i64 i), (5, .int .i64 at_)], bx, pm, none⟩ = some (.exit 2, ⟨ofL [(0, sI t), (3, .sl 4 (out.map iA) q), (4, .int .i64 i), (5, .int .i64 (atF itLt x r)), (30, .bool false)], bx, pm, none⟩)
  | [], s, at_, h, hat => by
    subst hat
    refine loop_eq fun K hK => ?_
    simp [L19x0, atF]
  | y :: r, s, at_, h, hat => by
    subst hat
    have hg : (t.map iA)[i]? = some (iA x) := by rw [List.getElem?_map, hx]; rfl
    have hg2 : (out.map iA)[r.length]? = some (iA y) := by rw [h]; simp
    have hlo : r.length + 1 ≤ out.length := by rw [h]; simp
    have hm := cmp_den x.path y.path hxp (hop y (by rw [h]; simp))
    have hc := chk_i64 ((r.length : Int)) (by omega)
    have hi' : (i : Int) < t.length := by omega
    have hpos : (0 : Int) < (r.length : Int) + 1 := by omega
    have hsub : (r.length : Int) + 1 - 1 = r.length := by omega
    have hlr : r.length < out.length := by omega
    simp only [iA] at hg hg2
    refine loop_eq fun K hK => ?_
    by_cases h1 : cmpP x.path y.path < 0
    · have hr := sort_inner t x out q i hi ht hx hxp ho hop bx pm r (y :: s) r.length (by rw [h]; simp) rfl
      simp [L19x0, -getElem?_pos, -List.getElem?_map, hi', hi, hg, hg2, hm, hc, hpos, hsub, h1, hlr, hlo]
      rw [hK, hr]
      simp [atF, itLt, h1]
    · simp [L19x0, -getElem?_pos, -List.getElem?_map, hi', hi, hg, hg2, hm, hc, hpos, hsub, h1, atF, itLt, hlr, hlo]
theorem sort_loop (t : List It) (ht : t.length ≤ 1000000000) (hp : ∀ x ∈ t, x.path.length ≤ 1099511627776) (bx : Bx) : ∀ (rest pre out : List It) (O : List AV) (i : Int) (q : Perm) (pm : Pm), t = pre ++ rest → i = pre.length → O = out.map iA → out.length ≤ pre.length → (∀ y ∈ out, y ∈ t) → AppOk pm q →
    Res (RunD Sy (.loop L19x1) ⟨ofL [(0, sI t), (3, .sl 4 O q), (4, .int .i64 i)], bx, pm, none⟩) fun ex st' => ex = .exit 0 ∧ ∃ i' q' pm', AppOk pm' q' ∧ st' = ⟨ofL [(0, sI t), (3, .sl 4 ((sortG itLt out rest).map iA) q'), (4, i'), (9, .bool false)], bx, pm', none⟩
  | [], pre, out, O, i, q, pm, h, hi, hO, hlo, hot, hq => by
    subst hi hO
    rw [List.append_nil] at h
    subst h
    refine loop_step fun K hK => ?_
    simp [L19x1, sortG]
    exact ⟨_, _, hq, rfl⟩
  | x :: rest, pre, out, O, i, q, pm, h, hi, hO, hlo, hot, hq => by
    subst hi hO
    have hltn : pre.length < t.length := by rw [h]; simp
    have hlt : (pre.length : Int) < t.length := by omega
    have hx : t[pre.length]? = some x := by rw [h]; simp
    have hg : (t.map iA)[pre.length]? = some (iA x) := by rw [h]; simp
    have hc := chk_i64 ((pre.length : Int) + 1) (by omega)
    have hin := sort_inner t x out q pre.length hltn (by omega) hx (hp x (by rw [h]; simp)) (by omega) (fun y hy => hp y (hot y hy)) bx pm out.reverse [] out.length (by simp) (by simp)
    have hat := atF_le itLt x out.reverse
    rw [List.length_reverse] at hat
    have hat' : ((atF itLt x out.reverse : Nat) : Int) ≤ out.length := by omega
    have hu : sortG itLt out (x :: rest) = sortG itLt (insF itLt x out) rest := rfl
    have hnx := fun O hO q pm hq => sort_loop t ht hp bx rest (pre ++ [x]) (insF itLt x out) O ((pre.length : Int) + 1) q pm (by simp [h]) (by simp) hO (by rw [insF_len]; simp; omega) (fun y hy => by
      rcases (insF_mem itLt x y out).1 hy with rfl | hy
      · rw [h]; simp
      · exact hot y hy) hq
    rw [hu]
    unfold insF at hnx ⊢
    generalize atF itLt x out.reverse = at_ at hin hat hat' hnx ⊢
    simp only [iA] at hg
    have s1 : at_ * 48 ≤ 140737488355328 := by omega
    have s2 : (at_ + 1) * 48 ≤ 140737488355328 := by omega
    have s3 : (at_ + 1 + (out.length - at_)) * 48 ≤ 140737488355328 := by omega
    have e : (out.map iA).take out.length = out.map iA := List.take_of_length_le (by simp)
    have s4 : min at_ out.length = at_ := by omega
    refine loop_step fun K hK => ?_
    rcases hq with rfl | ⟨tt, v, rfl, hpm⟩
    · simp [L19x1, -getElem?_pos, -List.getElem?_map, hlt, hg, hc, hin, hat, hat', s1, s2, s3, s4]
      rw [hK]
      exact hnx _ (by rw [e]; simp [iA]) _ _ (AppOk.tok (by simp))
    · simp [L19x1, -getElem?_pos, -List.getElem?_map, hlt, hg, hc, hin, hpm, hat, hat', s1, s2, s3, s4]
      rw [hK]
      exact hnx _ (by rw [e]; simp [iA]) _ _ (AppOk.tok (by simp))
theorem sort_den (t : List It) (ht : t.length ≤ 1000000000) (hp : ∀ x ∈ t, x.path.length ≤ 1099511627776) : Den Sy 19 [sI t] = some (sI (sortF t)) := by
  rw [Den_fun Sy (af := A19) rfl rfl _ rfl]
  obtain ⟨ex, st', hL, rfl, i', q', pm', hq, rfl⟩ := sort_loop t ht hp (ofL []) t [] [] [] 0 .nil none' rfl rfl rfl (by simp) (by simp) (AppOk.nil _)
  rcases hq with rfl | ⟨tt, v, rfl, hpm⟩
  · simp [A19, hL, sortF]
  · simp [A19, hL, sortF]

/-! ### Raw items, and trees of them -/
theorem item_den (x : Raw) (h : x.ok) : Den Sy 30 [rA x] = some (iA (itemF x)) := by
  obtain ⟨h1, h2, h3, h4⟩ := h
  rw [Den_fun Sy (af := A30) rfl rfl _ rfl]
  have hp := path_den x.path h1
  have hk := pick02_den x.kind 3 h2 (by omega)
  have hb := pick02_den x.bad 12 h3 (by omega)
  obtain ⟨k1, k2⟩ := pickF_lt x.kind (n := 3) (by omega)
  have hc := chk_i64 (1 + pickF x.kind 3) (by omega)
  have ht : (if (60 : Int) < x.data.length then (60 : Int) else x.data.length) = ((min x.data.length 60 : Nat) : Int) := by split <;> omega
  have hm2 : min x.data.length 60 ≤ x.data.length := by omega
  have htk : x.data.take (min x.data.length 60) = x.data.take 60 := by
    rcases Nat.le_total x.data.length 60 with h | h
    · rw [Nat.min_eq_left h, List.take_of_length_le (Nat.le_refl _), List.take_of_length_le h]
    · rw [Nat.min_eq_right h]
  unfold itemF
  generalize pickF x.kind 3 = k at *
  generalize pickF x.bad 12 = b at *
  generalize pathF x.path = P at *
  generalize hm : min x.data.length 60 = m at *
  have hm3 : (m : Int) ≤ x.data.length := by omega
  by_cases hd : k = 0
  · subst hd
    have hc1 := chk_i64 1 (by omega)
    simp [A30, rA, hc1, hp, hk, hb, hc, iA, ht, htk, hm2, hm3]
  · have hd2 : ¬ 1 + k = 1 := by omega
    simp [A30, rA, hp, hk, hb, hc, iA, hd, hd2, ht, htk, hm2, hm3]
theorem wide_den : Den Sy 14 [] = some (lA ⟨16, 1000, 200⟩) := by
  rw [Den_fun Sy (af := A14) rfl rfl _ rfl]
  simp [A14, lA]
theorem with_loop (l : List (List UInt8)) (hl : l.length ≤ 16) (hm : ∀ x ∈ l, x.length ≤ 64) (i4 : AV) (raw : AV) (T : AV) (v5 : Nat) (c5 : List AV) : ∀ (rest pre : List (List UInt8)) (k : Int) (w : List It) (W : List AV) (q : Perm) (p : List UInt8) (bx : Bx) (pm : Pm), l = pre ++ rest → k = pre.length → W = w.map iA → AppOk pm q → p.length ≤ 65 * pre.length → w.length + rest.length ≤ 1000000 → bx 5 = some (v5, c5) →
    Res (RunD Sy (.loop L13x0) ⟨ofL [(0, raw), (3, T), (4, i4), (5, .ptr 5 v5 0), (6, sS l), (7, .sl 4 W q), (8, .str p), (9, .int .i64 k)], bx, pm, none⟩) fun ex st' => WQ l i4 raw T v5 c5 (withG w p rest) ex st'
  | [], pre, k, w, W, q, p, bx, pm, h, hk, hW, hq, hp, hw, b5 => by
    subst hk hW
    rw [List.append_nil] at h
    subst h
    have hc := chk_i64 ((l.length : Int) + 1) (by omega)
    have h2 : ¬ (l.length : Int) + 1 < l.length := by omega
    refine loop_step fun K hK => ?_
    simp [L13x0, hc, h2, withG]
    exact ⟨rfl, _, _, _, _, _, hq, b5, rfl⟩
  | [a], pre, k, w, W, q, p, bx, pm, h, hk, hW, hq, hp, hw, b5 => by
    subst hk hW
    have h1 : (l.length : Int) = pre.length + 1 := by rw [h]; simp
    have hc := chk_i64 ((pre.length : Int) + 1) (by omega)
    have h2 : ¬ (pre.length : Int) + 1 < l.length := by omega
    refine loop_step fun K hK => ?_
    simp [L13x0, hc, h2, h1, withG]
    exact ⟨rfl, _, _, _, _, _, hq, b5, rfl⟩
  | a :: b :: r, pre, k, w, W, q, p, bx, pm, h, hk, hW, hq, hp, hw, b5 => by
    subst hk hW
    have h1 : l.length = pre.length + (r.length + 2) := by rw [h]; simp
    have hlt : (pre.length : Int) + 1 < l.length := by omega
    have hlt' : (pre.length : Int) < l.length := by omega
    have hg : (l.map AV.str)[pre.length]? = some (.str a) := by rw [h]; simp
    have hc := chk_i64 ((pre.length : Int) + 1) (by omega)
    have hcl := hm a (by rw [h]; simp)
    have hd := join_den p a (by omega)
    have hj := joinF_len p a
    have hf := find_den w (by simp at hw; omega) (joinF p a)
    have hsz : (w.length + 1) * 48 ≤ 140737488355328 := by simp at hw; omega
    unfold withG
    refine loop_step fun K hK => ?_
    cases hx : findF w (joinF p a) with
    | some y =>
      rw [hx] at hf
      simp only [fA, iA] at hf
      simp [L13x0, -getElem?_pos, -List.getElem?_map, List.getElem?_cons_zero, List.getElem?_cons_succ, hlt, hlt', hg, hc, hd, hf]
      rw [hK]
      refine with_loop l hl hm i4 raw T v5 c5 (b :: r) (pre ++ [a]) ((pre.length : Int) + 1) w _ q (joinF p a) _ pm ?_ ?_ rfl hq ?_ ?_ ?_
      · simp [h]
      · simp
      · simp; omega
      · simp at hw ⊢; omega
      · simp [b5]
    | none =>
      rw [hx] at hf
      simp only [fA, iA] at hf
      rcases hq with rfl | ⟨tt, v, rfl, hpm⟩
      · simp [L13x0, -getElem?_pos, -List.getElem?_map, List.getElem?_cons_zero, List.getElem?_cons_succ, hlt, hlt', hg, hc, hd, hf, hsz]
        rw [hK]
        refine with_loop l hl hm i4 raw T v5 c5 (b :: r) (pre ++ [a]) ((pre.length : Int) + 1) (w ++ [⟨joinF p a, 1, [], false⟩]) _ _ (joinF p a) _ _ ?_ ?_ ?_ ?_ ?_ ?_ ?_
        · simp [h]
        · simp
        · simp [iA]
        · exact AppOk.tok (by simp)
        · simp; omega
        · simp at hw ⊢; omega
        · simp [b5]
      · simp [L13x0, -getElem?_pos, -List.getElem?_map, List.getElem?_cons_zero, List.getElem?_cons_succ, hlt, hlt', hg, hc, hd, hf, hsz, hpm]
        rw [hK]
        refine with_loop l hl hm i4 raw T v5 c5 (b :: r) (pre ++ [a]) ((pre.length : Int) + 1) (w ++ [⟨joinF p a, 1, [], false⟩]) _ _ (joinF p a) _ _ ?_ ?_ ?_ ?_ ?_ ?_ ?_
        · simp [h]
        · simp
        · simp [iA]
        · exact AppOk.tok (by simp)
        · simp; omega
        · simp at hw ⊢; omega
        · simp [b5]
/-- A tree within Wide: what is wrong with it is nothing. -/
theorem tree_loop (raw : List Raw) (hr : ∀ x ∈ raw, x.ok) : ∀ (k : Nat) (rest pre : List Raw) (i : Int) (t : List It) (T : List AV) (q : Perm) (bx : Bx) (pm : Pm), raw = pre ++ rest → i = pre.length → k + pre.length = 14 → T = t.map iA → t.length ≤ 16 * pre.length → (∀ x ∈ t, x.path.length ≤ 2000) →
    Res (RunD Sy (.loop L13x1) ⟨ofL [(0, sR raw), (3, .sl 4 T q), (4, .int .i64 i)], bx, pm, none⟩) fun ex st' => TQ raw (treeG t (rest.take k)) ex st'
  | k, [], pre, i, t, T, q, bx, pm, h, hi, hk, hT, hl, hp => by
    subst hi hT
    rw [List.append_nil] at h
    subst h
    refine loop_step fun K hK => ?_
    simp [L13x1, treeG]
    exact ⟨rfl, _, _, _, _, rfl⟩
  | 0, c :: rest, pre, i, t, T, q, bx, pm, h, hi, hk, hT, hl, hp => by
    subst hi hT
    have hlt : (pre.length : Int) < raw.length := by rw [h]; simp; omega
    have h8 : ¬ (pre.length : Int) < 14 := by omega
    refine loop_step fun K hK => ?_
    simp [L13x1, treeG, hlt, h8]
    exact ⟨rfl, _, _, _, _, rfl⟩
  | k + 1, c :: rest, pre, i, t, T, q, bx, pm, h, hi, hk, hT, hl, hp => by
    subst hi hT
    have hlt : (pre.length : Int) < raw.length := by rw [h]; simp; omega
    have h8 : (pre.length : Int) < 14 := by omega
    have hg : (raw.map rA)[pre.length]? = some (rA c) := by rw [h]; simp
    have hc := chk_i64 ((pre.length : Int) + 1) (by omega)
    have hit := item_den c (hr c (by rw [h]; simp))
    have hpl := itemT_len c
    have eT : itemT c = ⟨(itemF c).path, (itemF c).kind, (itemF c).data, false⟩ := rfl
    have hst : stepT t c = if (checkF (withG t [] (partsF (itemT c).path) ++ [itemT c]) wide).2 = 0 then withG t [] (partsF (itemT c).path) ++ [itemT c] else t := rfl
    rw [eT] at hpl hst
    simp only at hpl
    have hpa := parts_den (itemF c).path (by omega)
    have hpn := partsF_len (itemF c).path
    have hpm := fun x (hx : x ∈ partsF (itemF c).path) => partsF_mem hx
    have hnl := withG_len (partsF (itemF c).path) t []
    have hnm := withG_mem (partsF (itemF c).path) t []
    have hnx := fun T hT q bx pm => tree_loop raw hr k rest (pre ++ [c]) ((pre.length : Int) + 1) (stepT t c) T q bx pm (by simp [h]) (by simp) (by simp; omega) hT
    have hsum : ∀ l : List (List UInt8), (∀ x ∈ l, x.length ≤ 64) → (l.map List.length).sum ≤ 64 * l.length := by
      intro l
      induction l with
      | nil => simp
      | cons a l ih =>
        intro hl
        have h1 := hl a (by simp)
        have h2 := ih (fun x hx => hl x (List.mem_cons_of_mem _ hx))
        simp only [List.map_cons, List.sum_cons, List.length_cons]
        omega
    have hsm := hsum _ hpm
    generalize hw : withG t [] (partsF (itemF c).path) = w at hnl hnm hst
    have hwp : ∀ y ∈ w, y.path.length ≤ 2000 := fun y hy => by
      rcases hnm y hy with h | ⟨_, _, _, h4⟩
      · exact hp y h
      · simp only [List.length_nil] at h4
        omega
    have hW : ∀ y ∈ w ++ [⟨(itemF c).path, (itemF c).kind, (itemF c).data, false⟩], y.path.length ≤ 2000 := fun y hy => by
      rcases List.mem_append.1 hy with h | h
      · exact hwp y h
      · simp only [List.mem_singleton] at h
        subst h
        simp only
        omega
    have hck := check_den (w ++ [⟨(itemF c).path, (itemF c).kind, (itemF c).data, false⟩]) (by simp; omega) (fun y hy => by have := hW y hy; omega) wide
    have hwd : Den Sy 14 [] = some (lA wide) := wide_den
    have hsz2 : (w.length + 1) * 48 ≤ 140737488355328 := by omega
    have hsz : t.length * 48 ≤ 140737488355328 := by omega
    simp only [iA] at hit
    simp only [rA] at hg hit
    refine loop_step fun K hK => ?_
    simp [L13x1, -getElem?_pos, -List.getElem?_map, List.getElem?_cons_zero, List.getElem?_cons_succ, hlt, h8, hg, hc, hit, hsz, hpa]
    generalize hX : RunD Sy (.loop L13x0) _ = X
    obtain ⟨ex, st', rfl, rfl, q', p', k', pm', bx', hq', b5, rfl⟩ := Res.at hX (with_loop (partsF (itemF c).path) hpn hpm _ _ _ _ [.str (itemF c).path, .int .i64 (itemF c).kind, .str (itemF c).data, .bool false] (partsF (itemF c).path) [] 0 t _ _ [] _ _ rfl rfl rfl (AppOk.tok (by simp)) (by simp) (by omega) (by simp))
    rw [hw]
    have lw : lA wide = .agg [.int .i64 16, .int .i64 1000, .int .i64 200] := rfl
    rw [lw] at hwd hck
    have hT1 : ∀ x ∈ stepT t c, x.path.length ≤ 2000 := fun x hx => by
      rw [hst] at hx
      split at hx
      · exact hW x hx
      · exact hp x hx
    have hT2 : (stepT t c).length ≤ 16 * (pre ++ [c]).length := by
      rw [hst]
      have := partsF_len (itemF c).path
      split
      · simp
        omega
      · simp; omega
    rw [treeG_cons]
    simp only [sI, ftA, List.map_append, List.map_cons, List.map_nil, iA] at hck
    rcases hq' with rfl | ⟨tt, v, rfl, hpm'⟩
    · by_cases hc0 : (checkF (w ++ [⟨(itemF c).path, (itemF c).kind, (itemF c).data, false⟩]) wide).2 = 0
      · rw [if_pos hc0] at hst
        simp [L13x1, -getElem?_pos, -List.getElem?_map, List.getElem?_cons_zero, List.getElem?_cons_succ, b5, hsz2, hwd, hck, hc0, hc]
        rw [hK]
        refine hnx _ ?_ _ _ _ hT2 hT1
        rw [hst]
        simp [iA]
      · rw [if_neg hc0] at hst
        simp [L13x1, -getElem?_pos, -List.getElem?_map, List.getElem?_cons_zero, List.getElem?_cons_succ, b5, hsz2, hwd, hck, hc0, hc]
        rw [hK]
        refine hnx _ ?_ _ _ _ hT2 hT1
        rw [hst]
    · by_cases hc0 : (checkF (w ++ [⟨(itemF c).path, (itemF c).kind, (itemF c).data, false⟩]) wide).2 = 0
      · rw [if_pos hc0] at hst
        simp [L13x1, -getElem?_pos, -List.getElem?_map, List.getElem?_cons_zero, List.getElem?_cons_succ, b5, hsz2, hwd, hck, hc0, hc, hpm']
        rw [hK]
        refine hnx _ ?_ _ _ _ hT2 hT1
        rw [hst]
        simp [iA]
      · rw [if_neg hc0] at hst
        simp [L13x1, -getElem?_pos, -List.getElem?_map, List.getElem?_cons_zero, List.getElem?_cons_succ, b5, hsz2, hwd, hck, hc0, hc, hpm']
        rw [hK]
        refine hnx _ ?_ _ _ _ hT2 hT1
        rw [hst]
theorem tree_den (raw : List Raw) (hr : ∀ x ∈ raw, x.ok) : Den Sy 13 [sR raw] = some (sI (treeF raw)) := by
  rw [Den_fun Sy (af := A13) rfl rfl _ rfl]
  obtain ⟨ex, st', hL, rfl, q', i', pm', bx', rfl⟩ := tree_loop raw hr 14 raw [] 0 [] [] .nil (ofL []) none' rfl rfl rfl rfl (by simp) (by simp)
  simp [A13, hL, treeF]
end Go.Proofs.YtpkeiffclipjmaaGreatDoor.Rx
