/-
  Rx, the plain programs, whole: script.Decode's, and the reports'. What they answer, the program answers.
-/
import Derived.Test.YtdjgdipmjbkilaaGreatDoorRxF7
namespace Go.Proofs.YtdjgdipmjbkilaaGreatDoor.Rx
open Go Go.RowKit

theorem get_mem {α : Type} : ∀ {l : List (Nat × α)} {i : Nat} {a : α}, get l i = some a → (i, a) ∈ l
  | [], i, a, h => by simp [get] at h
  | (k, v) :: l, i, a, h => by
    simp only [get] at h
    split at h
    · rename_i e
      simp only [Option.some.injEq] at h
      subst e h
      simp
    · exact List.mem_cons_of_mem _ (get_mem h)
namespace D
def extL : List (Nat × (List AV → Option AV)) := [(87, orF), (84, catchFS), (51, itoaF), (83, atoiF), (86, indexF), (88, indexByteF)]
def tblL : List (Nat × AFunc) := [(58, A58), (85, A85), (49, A49), (76, A76)]
def Sy : Sys := ⟨get extL, get tblL⟩
theorem ext_all : ∀ p ∈ extL, ∀ args r, p.2 args = some r → Says (C4 odS) p.1 args r := by
  unfold extL
  refine List.forall_mem_cons.2 ⟨fun a r h => or_saysS Gs Bs a r h, ?_⟩
  refine List.forall_mem_cons.2 ⟨fun a r h => catch_saysS Gs Bs a r h, ?_⟩
  refine List.forall_mem_cons.2 ⟨itoa_says, ?_⟩
  refine List.forall_mem_cons.2 ⟨atoi_says, ?_⟩
  refine List.forall_mem_cons.2 ⟨index_says, ?_⟩
  refine List.forall_mem_cons.2 ⟨indexByte_says, ?_⟩
  exact fun _ h => absurd h List.not_mem_nil
theorem tbl_all : ∀ p ∈ tblL, ∃ K fn ks, Tryz.prog.funcs[p.1]? = some fn ∧ cmpF Tryz.prog K fn ks = some p.2 := by
  unfold tblL
  refine List.forall_mem_cons.2 ⟨⟨_, _, K58, Tryz.func58, c58⟩, ?_⟩
  refine List.forall_mem_cons.2 ⟨⟨_, _, K85, Tryz.func85, c85⟩, ?_⟩
  refine List.forall_mem_cons.2 ⟨⟨_, _, K49, Tryz.func49, c49⟩, ?_⟩
  refine List.forall_mem_cons.2 ⟨⟨_, _, K76, Tryz.func76, c76⟩, ?_⟩
  exact fun _ h => absurd h List.not_mem_nil
set_option maxRecDepth 100000 in
theorem fits : Fits (C4 odS) Sy := {
  mix := by kernel_rfl
  fine := fine4
  ext := fun _ _ h => ext_all _ (get_mem h)
  tbl := fun _ _ h => tbl_all _ (get_mem h) }
end D
/-- script.Decode, that answers without going up. -/
noncomputable def decodeF (args : List AV) : Option AV := match Den D.Sy 58 args with
  | some (.tup xs) => some (.tup xs)
  | _ => none
theorem decode_says (args : List AV) (r : AV) (h : decodeF args = some r) : Says (C4 odR) 58 args r := by
  unfold decodeF at h
  split at h
  · rename_i xs hd
    simp only [Option.some.injEq] at h
    subst h
    have hs := D.fits.den hd
    refine ⟨hs.1, fun w pr vals bs h1 h2 h3 h4 => (hs.2 w pr vals bs h1 h2 h3 h4).mono fun e w' hp => ?_⟩
    cases e with
    | returned v => exact hp
    | _ => exact hp.elim
  · simp at h
noncomputable def extL : List (Nat × (List AV → Option AV)) := [(37, orF), (35, catchFR), (51, itoaF), (83, atoiF), (86, indexF), (50, wrF), (30, strF), (28, numberF), (29, textF), (58, decodeF), (104, indexF), (11, turnedX)]
def tblL : List (Nat × AFunc) := [(3, A3), (4, A4), (5, A5), (6, A6), (7, A7), (8, A8), (9, A9), (10, A10), (11, A11), (12, A12), (13, A13), (14, A14), (15, A15), (16, A16), (17, A17), (18, A18), (19, A19), (20, A20), (21, A21), (22, A22), (23, A23), (24, A24), (25, A25), (26, A26), (27, A27), (31, A31), (32, A32), (33, A33), (34, A34), (36, A36), (38, A38), (39, A39), (40, A40), (41, A41), (42, A42), (43, A43), (44, A44), (45, A45), (46, A46), (47, A47), (48, A48), (49, A49), (52, A52), (53, A53), (54, A54), (55, A55), (56, A56), (57, A57), (59, A59), (60, A60), (61, A61), (62, A62), (63, A63), (64, A64), (65, A65), (66, A66), (67, A67), (68, A68), (69, A69), (70, A70), (71, A71), (72, A72), (73, A73), (74, A74), (75, A75), (76, A76), (79, A79), (80, A80), (81, A81), (82, A82), (89, A89), (90, A90), (91, A91), (92, A92), (93, A93), (94, A94), (95, A95), (96, A96), (97, A97), (98, A98), (101, A101), (106, A106), (107, A107), (108, A108), (109, A109), (110, A110), (111, A111), (112, A112), (113, A113), (114, A114), (128, A128)]
noncomputable def Sy : Sys := ⟨get extL, get tblL⟩
theorem ext_all : ∀ p ∈ extL, ∀ args r, p.2 args = some r → Says (C4 odR) p.1 args r := by
  unfold extL
  refine List.forall_mem_cons.2 ⟨fun a r h => or_saysR Gs Bs a r h, ?_⟩
  refine List.forall_mem_cons.2 ⟨fun a r h => catch_saysR Gs Bs a r h, ?_⟩
  refine List.forall_mem_cons.2 ⟨itoa_says, ?_⟩
  refine List.forall_mem_cons.2 ⟨atoi_says, ?_⟩
  refine List.forall_mem_cons.2 ⟨index_says, ?_⟩
  refine List.forall_mem_cons.2 ⟨fun a r h => wr_says Gs Bs a r h, ?_⟩
  refine List.forall_mem_cons.2 ⟨fun a r h => str_says Gs Bs a r h, ?_⟩
  refine List.forall_mem_cons.2 ⟨number_says, ?_⟩
  refine List.forall_mem_cons.2 ⟨text_says, ?_⟩
  refine List.forall_mem_cons.2 ⟨decode_says, ?_⟩
  refine List.forall_mem_cons.2 ⟨litIndex_says, ?_⟩
  refine List.forall_mem_cons.2 ⟨turned_says, ?_⟩
  exact fun _ h => absurd h List.not_mem_nil
theorem tbl_all : ∀ p ∈ tblL, ∃ K fn ks, Tryz.prog.funcs[p.1]? = some fn ∧ cmpF Tryz.prog K fn ks = some p.2 := by
  unfold tblL
  refine List.forall_mem_cons.2 ⟨⟨_, _, K3, Tryz.func3, c3⟩, ?_⟩
  refine List.forall_mem_cons.2 ⟨⟨_, _, K4, Tryz.func4, c4⟩, ?_⟩
  refine List.forall_mem_cons.2 ⟨⟨_, _, K5, Tryz.func5, c5⟩, ?_⟩
  refine List.forall_mem_cons.2 ⟨⟨_, _, K6, Tryz.func6, c6⟩, ?_⟩
  refine List.forall_mem_cons.2 ⟨⟨_, _, K7, Tryz.func7, c7⟩, ?_⟩
  refine List.forall_mem_cons.2 ⟨⟨_, _, K8, Tryz.func8, c8⟩, ?_⟩
  refine List.forall_mem_cons.2 ⟨⟨_, _, K9, Tryz.func9, c9⟩, ?_⟩
  refine List.forall_mem_cons.2 ⟨⟨_, _, K10, Tryz.func10, c10⟩, ?_⟩
  refine List.forall_mem_cons.2 ⟨⟨_, _, K11, Tryz.func11, c11⟩, ?_⟩
  refine List.forall_mem_cons.2 ⟨⟨_, _, K12, Tryz.func12, c12⟩, ?_⟩
  refine List.forall_mem_cons.2 ⟨⟨_, _, K13, Tryz.func13, c13⟩, ?_⟩
  refine List.forall_mem_cons.2 ⟨⟨_, _, K14, Tryz.func14, c14⟩, ?_⟩
  refine List.forall_mem_cons.2 ⟨⟨_, _, K15, Tryz.func15, c15⟩, ?_⟩
  refine List.forall_mem_cons.2 ⟨⟨_, _, K16, Tryz.func16, c16⟩, ?_⟩
  refine List.forall_mem_cons.2 ⟨⟨_, _, K17, Tryz.func17, c17⟩, ?_⟩
  refine List.forall_mem_cons.2 ⟨⟨_, _, K18, Tryz.func18, c18⟩, ?_⟩
  refine List.forall_mem_cons.2 ⟨⟨_, _, K19, Tryz.func19, c19⟩, ?_⟩
  refine List.forall_mem_cons.2 ⟨⟨_, _, K20, Tryz.func20, c20⟩, ?_⟩
  refine List.forall_mem_cons.2 ⟨⟨_, _, K21, Tryz.func21, c21⟩, ?_⟩
  refine List.forall_mem_cons.2 ⟨⟨_, _, K22, Tryz.func22, c22⟩, ?_⟩
  refine List.forall_mem_cons.2 ⟨⟨_, _, K23, Tryz.func23, c23⟩, ?_⟩
  refine List.forall_mem_cons.2 ⟨⟨_, _, K24, Tryz.func24, c24⟩, ?_⟩
  refine List.forall_mem_cons.2 ⟨⟨_, _, K25, Tryz.func25, c25⟩, ?_⟩
  refine List.forall_mem_cons.2 ⟨⟨_, _, K26, Tryz.func26, c26⟩, ?_⟩
  refine List.forall_mem_cons.2 ⟨⟨_, _, K27, Tryz.func27, c27⟩, ?_⟩
  refine List.forall_mem_cons.2 ⟨⟨_, _, K31, Tryz.func31, c31⟩, ?_⟩
  refine List.forall_mem_cons.2 ⟨⟨_, _, K32, Tryz.func32, c32⟩, ?_⟩
  refine List.forall_mem_cons.2 ⟨⟨_, _, K33, Tryz.func33, c33⟩, ?_⟩
  refine List.forall_mem_cons.2 ⟨⟨_, _, K34, Tryz.func34, c34⟩, ?_⟩
  refine List.forall_mem_cons.2 ⟨⟨_, _, K36, Tryz.func36, c36⟩, ?_⟩
  refine List.forall_mem_cons.2 ⟨⟨_, _, K38, Tryz.func38, c38⟩, ?_⟩
  refine List.forall_mem_cons.2 ⟨⟨_, _, K39, Tryz.func39, c39⟩, ?_⟩
  refine List.forall_mem_cons.2 ⟨⟨_, _, K40, Tryz.func40, c40⟩, ?_⟩
  refine List.forall_mem_cons.2 ⟨⟨_, _, K41, Tryz.func41, c41⟩, ?_⟩
  refine List.forall_mem_cons.2 ⟨⟨_, _, K42, Tryz.func42, c42⟩, ?_⟩
  refine List.forall_mem_cons.2 ⟨⟨_, _, K43, Tryz.func43, c43⟩, ?_⟩
  refine List.forall_mem_cons.2 ⟨⟨_, _, K44, Tryz.func44, c44⟩, ?_⟩
  refine List.forall_mem_cons.2 ⟨⟨_, _, K45, Tryz.func45, c45⟩, ?_⟩
  refine List.forall_mem_cons.2 ⟨⟨_, _, K46, Tryz.func46, c46⟩, ?_⟩
  refine List.forall_mem_cons.2 ⟨⟨_, _, K47, Tryz.func47, c47⟩, ?_⟩
  refine List.forall_mem_cons.2 ⟨⟨_, _, K48, Tryz.func48, c48⟩, ?_⟩
  refine List.forall_mem_cons.2 ⟨⟨_, _, K49, Tryz.func49, c49⟩, ?_⟩
  refine List.forall_mem_cons.2 ⟨⟨_, _, K52, Tryz.func52, c52⟩, ?_⟩
  refine List.forall_mem_cons.2 ⟨⟨_, _, K53, Tryz.func53, c53⟩, ?_⟩
  refine List.forall_mem_cons.2 ⟨⟨_, _, K54, Tryz.func54, c54⟩, ?_⟩
  refine List.forall_mem_cons.2 ⟨⟨_, _, K55, Tryz.func55, c55⟩, ?_⟩
  refine List.forall_mem_cons.2 ⟨⟨_, _, K56, Tryz.func56, c56⟩, ?_⟩
  refine List.forall_mem_cons.2 ⟨⟨_, _, K57, Tryz.func57, c57⟩, ?_⟩
  refine List.forall_mem_cons.2 ⟨⟨_, _, K59, Tryz.func59, c59⟩, ?_⟩
  refine List.forall_mem_cons.2 ⟨⟨_, _, K60, Tryz.func60, c60⟩, ?_⟩
  refine List.forall_mem_cons.2 ⟨⟨_, _, K61, Tryz.func61, c61⟩, ?_⟩
  refine List.forall_mem_cons.2 ⟨⟨_, _, K62, Tryz.func62, c62⟩, ?_⟩
  refine List.forall_mem_cons.2 ⟨⟨_, _, K63, Tryz.func63, c63⟩, ?_⟩
  refine List.forall_mem_cons.2 ⟨⟨_, _, K64, Tryz.func64, c64⟩, ?_⟩
  refine List.forall_mem_cons.2 ⟨⟨_, _, K65, Tryz.func65, c65⟩, ?_⟩
  refine List.forall_mem_cons.2 ⟨⟨_, _, K66, Tryz.func66, c66⟩, ?_⟩
  refine List.forall_mem_cons.2 ⟨⟨_, _, K67, Tryz.func67, c67⟩, ?_⟩
  refine List.forall_mem_cons.2 ⟨⟨_, _, K68, Tryz.func68, c68⟩, ?_⟩
  refine List.forall_mem_cons.2 ⟨⟨_, _, K69, Tryz.func69, c69⟩, ?_⟩
  refine List.forall_mem_cons.2 ⟨⟨_, _, K70, Tryz.func70, c70⟩, ?_⟩
  refine List.forall_mem_cons.2 ⟨⟨_, _, K71, Tryz.func71, c71⟩, ?_⟩
  refine List.forall_mem_cons.2 ⟨⟨_, _, K72, Tryz.func72, c72⟩, ?_⟩
  refine List.forall_mem_cons.2 ⟨⟨_, _, K73, Tryz.func73, c73⟩, ?_⟩
  refine List.forall_mem_cons.2 ⟨⟨_, _, K74, Tryz.func74, c74⟩, ?_⟩
  refine List.forall_mem_cons.2 ⟨⟨_, _, K75, Tryz.func75, c75⟩, ?_⟩
  refine List.forall_mem_cons.2 ⟨⟨_, _, K76, Tryz.func76, c76⟩, ?_⟩
  refine List.forall_mem_cons.2 ⟨⟨_, _, K79, Tryz.func79, c79⟩, ?_⟩
  refine List.forall_mem_cons.2 ⟨⟨_, _, K80, Tryz.func80, c80⟩, ?_⟩
  refine List.forall_mem_cons.2 ⟨⟨_, _, K81, Tryz.func81, c81⟩, ?_⟩
  refine List.forall_mem_cons.2 ⟨⟨_, _, K82, Tryz.func82, c82⟩, ?_⟩
  refine List.forall_mem_cons.2 ⟨⟨_, _, K89, Tryz.func89, c89⟩, ?_⟩
  refine List.forall_mem_cons.2 ⟨⟨_, _, K90, Tryz.func90, c90⟩, ?_⟩
  refine List.forall_mem_cons.2 ⟨⟨_, _, K91, Tryz.func91, c91⟩, ?_⟩
  refine List.forall_mem_cons.2 ⟨⟨_, _, K92, Tryz.func92, c92⟩, ?_⟩
  refine List.forall_mem_cons.2 ⟨⟨_, _, K93, Tryz.func93, c93⟩, ?_⟩
  refine List.forall_mem_cons.2 ⟨⟨_, _, K94, Tryz.func94, c94⟩, ?_⟩
  refine List.forall_mem_cons.2 ⟨⟨_, _, K95, Tryz.func95, c95⟩, ?_⟩
  refine List.forall_mem_cons.2 ⟨⟨_, _, K96, Tryz.func96, c96⟩, ?_⟩
  refine List.forall_mem_cons.2 ⟨⟨_, _, K97, Tryz.func97, c97⟩, ?_⟩
  refine List.forall_mem_cons.2 ⟨⟨_, _, K98, Tryz.func98, c98⟩, ?_⟩
  refine List.forall_mem_cons.2 ⟨⟨_, _, K101, Tryz.func101, c101⟩, ?_⟩
  refine List.forall_mem_cons.2 ⟨⟨_, _, K106, Tryz.func106, c106⟩, ?_⟩
  refine List.forall_mem_cons.2 ⟨⟨_, _, K107, Tryz.func107, c107⟩, ?_⟩
  refine List.forall_mem_cons.2 ⟨⟨_, _, K108, Tryz.func108, c108⟩, ?_⟩
  refine List.forall_mem_cons.2 ⟨⟨_, _, K109, Tryz.func109, c109⟩, ?_⟩
  refine List.forall_mem_cons.2 ⟨⟨_, _, K110, Tryz.func110, c110⟩, ?_⟩
  refine List.forall_mem_cons.2 ⟨⟨_, _, K111, Tryz.func111, c111⟩, ?_⟩
  refine List.forall_mem_cons.2 ⟨⟨_, _, K112, Tryz.func112, c112⟩, ?_⟩
  refine List.forall_mem_cons.2 ⟨⟨_, _, K113, Tryz.func113, c113⟩, ?_⟩
  refine List.forall_mem_cons.2 ⟨⟨_, _, K114, Tryz.func114, c114⟩, ?_⟩
  refine List.forall_mem_cons.2 ⟨⟨_, _, K128, Tryz.func128, c128⟩, ?_⟩
  exact fun _ h => absurd h List.not_mem_nil
set_option maxRecDepth 100000 in
theorem fits : Fits (C4 odR) Sy := {
  mix := by kernel_rfl
  fine := fine4
  ext := fun _ _ h => ext_all _ (get_mem h)
  tbl := fun _ _ h => tbl_all _ (get_mem h) }
#print axioms fits
end Go.Proofs.YtdjgdipmjbkilaaGreatDoor.Rx
