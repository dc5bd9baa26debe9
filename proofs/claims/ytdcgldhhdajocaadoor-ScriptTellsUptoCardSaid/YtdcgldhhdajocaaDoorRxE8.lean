/-
  Rx, the script's plain program, whole: what it answers, the program answers.
-/
import Derived.Test.YtdcgldhhdajocaaDoorRxTab
import Derived.Test.YtdcgldhhdajocaaDoorRxE3
import Derived.Test.YtdcgldhhdajocaaDoorRxE7
namespace Go.Proofs.YtdcgldhhdajocaaDoor.Rx
open Go Go.RowKit

def extL : List (Nat × (List AV → Option AV)) := [(46, orF), (43, catchF), (34, itoaF), (47, atoiF), (45, indexF), (48, indexByteF), (41, cloneF), (33, wrF), (35, strF), (42, insF)]
def tblL : List (Nat × AFunc) := [(3, A3), (4, A4), (5, A5), (6, A6), (7, A7), (8, A8), (9, A9), (10, A10), (11, A11), (12, A12), (13, A13), (14, A14), (15, A15), (16, A16), (17, A17), (18, A18), (19, A19), (20, A20), (21, A21), (22, A22), (23, A23), (24, A24), (25, A25), (26, A26), (27, A27), (28, A28), (29, A29), (30, A30), (31, A31), (32, A32), (36, A36), (37, A37), (38, A38), (39, A39), (40, A40), (44, A44), (49, A49), (58, A58)]
def Sy : Sys := ⟨get extL, get tblL⟩
theorem get_mem {α : Type} : ∀ {l : List (Nat × α)} {i : Nat} {a : α}, get l i = some a → (i, a) ∈ l
  | [], i, a, h => by simp [get] at h
  | (k, v) :: l, i, a, h => by
    simp only [get] at h
    split at h
    · rename_i e
      simp only [Option.some.injEq] at h
      subst e h
      simp
    · exact List.mem_cons_of_mem _ (get_mem h)
theorem ext_all : ∀ p ∈ extL, ∀ args r, p.2 args = some r → Says C4 p.1 args r := by
  unfold extL
  refine List.forall_mem_cons.2 ⟨fun a r h => or_says Gs Bs a r h, ?_⟩
  refine List.forall_mem_cons.2 ⟨fun a r h => catch_says Gs Bs a r h, ?_⟩
  refine List.forall_mem_cons.2 ⟨itoa_says, ?_⟩
  refine List.forall_mem_cons.2 ⟨atoi_says, ?_⟩
  refine List.forall_mem_cons.2 ⟨index_says, ?_⟩
  refine List.forall_mem_cons.2 ⟨indexByte_says, ?_⟩
  refine List.forall_mem_cons.2 ⟨clone_says, ?_⟩
  refine List.forall_mem_cons.2 ⟨fun a r h => wr_says Gs Bs a r h, ?_⟩
  refine List.forall_mem_cons.2 ⟨fun a r h => str_says Gs Bs a r h, ?_⟩
  refine List.forall_mem_cons.2 ⟨fun a r h => ins_says Gs Bs a r h, ?_⟩
  exact fun _ h => absurd h List.not_mem_nil
theorem tbl_all : ∀ p ∈ tblL, ∃ K fn ks, Tryd.prog.funcs[p.1]? = some fn ∧ cmpF Tryd.prog K fn ks = some p.2 := by
  unfold tblL
  refine List.forall_mem_cons.2 ⟨⟨_, _, K3, Tryd.func3, c3⟩, ?_⟩
  refine List.forall_mem_cons.2 ⟨⟨_, _, K4, Tryd.func4, c4⟩, ?_⟩
  refine List.forall_mem_cons.2 ⟨⟨_, _, K5, Tryd.func5, c5⟩, ?_⟩
  refine List.forall_mem_cons.2 ⟨⟨_, _, K6, Tryd.func6, c6⟩, ?_⟩
  refine List.forall_mem_cons.2 ⟨⟨_, _, K7, Tryd.func7, c7⟩, ?_⟩
  refine List.forall_mem_cons.2 ⟨⟨_, _, K8, Tryd.func8, c8⟩, ?_⟩
  refine List.forall_mem_cons.2 ⟨⟨_, _, K9, Tryd.func9, c9⟩, ?_⟩
  refine List.forall_mem_cons.2 ⟨⟨_, _, K10, Tryd.func10, c10⟩, ?_⟩
  refine List.forall_mem_cons.2 ⟨⟨_, _, K11, Tryd.func11, c11⟩, ?_⟩
  refine List.forall_mem_cons.2 ⟨⟨_, _, K12, Tryd.func12, c12⟩, ?_⟩
  refine List.forall_mem_cons.2 ⟨⟨_, _, K13, Tryd.func13, c13⟩, ?_⟩
  refine List.forall_mem_cons.2 ⟨⟨_, _, K14, Tryd.func14, c14⟩, ?_⟩
  refine List.forall_mem_cons.2 ⟨⟨_, _, K15, Tryd.func15, c15⟩, ?_⟩
  refine List.forall_mem_cons.2 ⟨⟨_, _, K16, Tryd.func16, c16⟩, ?_⟩
  refine List.forall_mem_cons.2 ⟨⟨_, _, K17, Tryd.func17, c17⟩, ?_⟩
  refine List.forall_mem_cons.2 ⟨⟨_, _, K18, Tryd.func18, c18⟩, ?_⟩
  refine List.forall_mem_cons.2 ⟨⟨_, _, K19, Tryd.func19, c19⟩, ?_⟩
  refine List.forall_mem_cons.2 ⟨⟨_, _, K20, Tryd.func20, c20⟩, ?_⟩
  refine List.forall_mem_cons.2 ⟨⟨_, _, K21, Tryd.func21, c21⟩, ?_⟩
  refine List.forall_mem_cons.2 ⟨⟨_, _, K22, Tryd.func22, c22⟩, ?_⟩
  refine List.forall_mem_cons.2 ⟨⟨_, _, K23, Tryd.func23, c23⟩, ?_⟩
  refine List.forall_mem_cons.2 ⟨⟨_, _, K24, Tryd.func24, c24⟩, ?_⟩
  refine List.forall_mem_cons.2 ⟨⟨_, _, K25, Tryd.func25, c25⟩, ?_⟩
  refine List.forall_mem_cons.2 ⟨⟨_, _, K26, Tryd.func26, c26⟩, ?_⟩
  refine List.forall_mem_cons.2 ⟨⟨_, _, K27, Tryd.func27, c27⟩, ?_⟩
  refine List.forall_mem_cons.2 ⟨⟨_, _, K28, Tryd.func28, c28⟩, ?_⟩
  refine List.forall_mem_cons.2 ⟨⟨_, _, K29, Tryd.func29, c29⟩, ?_⟩
  refine List.forall_mem_cons.2 ⟨⟨_, _, K30, Tryd.func30, c30⟩, ?_⟩
  refine List.forall_mem_cons.2 ⟨⟨_, _, K31, Tryd.func31, c31⟩, ?_⟩
  refine List.forall_mem_cons.2 ⟨⟨_, _, K32, Tryd.func32, c32⟩, ?_⟩
  refine List.forall_mem_cons.2 ⟨⟨_, _, K36, Tryd.func36, c36⟩, ?_⟩
  refine List.forall_mem_cons.2 ⟨⟨_, _, K37, Tryd.func37, c37⟩, ?_⟩
  refine List.forall_mem_cons.2 ⟨⟨_, _, K38, Tryd.func38, c38⟩, ?_⟩
  refine List.forall_mem_cons.2 ⟨⟨_, _, K39, Tryd.func39, c39⟩, ?_⟩
  refine List.forall_mem_cons.2 ⟨⟨_, _, K40, Tryd.func40, c40⟩, ?_⟩
  refine List.forall_mem_cons.2 ⟨⟨_, _, K44, Tryd.func44, c44⟩, ?_⟩
  refine List.forall_mem_cons.2 ⟨⟨_, _, K49, Tryd.func49, c49⟩, ?_⟩
  refine List.forall_mem_cons.2 ⟨⟨_, _, K58, Tryd.func58, c58⟩, ?_⟩
  exact fun _ h => absurd h List.not_mem_nil
theorem fits : Fits C4 Sy := {
  mix := by kernel_rfl
  fine := fine4
  ext := fun _ _ h => ext_all _ (get_mem h)
  tbl := fun _ _ h => tbl_all _ (get_mem h) }
#print axioms fits
end Go.Proofs.YtdcgldhhdajocaaDoor.Rx
