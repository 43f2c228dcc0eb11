import Derived.Test.YtpcmmjmoiplhjaaGreatDoorFB11
import Derived.Test.YtpcmmjmoiplhjaaGreatDoorFB10
/- FB12: a house is built. -/
set_option linter.unusedVariables false
set_option linter.unusedSimpArgs false
set_option maxRecDepth 20000
namespace Go.Proofs.YtpcmmjmoiplhjaaGreatDoor
open Go Go.PS
attribute [-simp] isKeyK List.map_take
abbrev nilT : TL := .v (.slice none 0 0)
theorem isName_ada : PCall Tryz.prog 64 [sV wAda] (pB true) [] := by
  have h1 := bsz wAda
  simp only [List.length_cons, List.length_nil, Nat.zero_add, Nat.reduceAdd] at h1
  have hb := hasB_spec wAda 103 fun c hc => in1_spec c ((by decide : ∀ c ∈ wAda, 97 ≤ c.toNat ∧ c.toNat ≤ 122) c hc).1 ((by decide : ∀ c ∈ wAda, 97 ≤ c.toNat ∧ c.toNat ≤ 122) c hc).2
  refine pcall_wp _ Tryz.func64 rfl (by kernel_rfl) rfl ?_
  have hne : (wAda != []) = true := rfl
  simp -dsimp [h1, hne]
  first
    | refine CallG.by (hb) ?_
    | refine CallGE.by (hb) ?_
    | refine CallGB.by (hb) ?_
  simp -dsimp
  refine retP_c ?_
  simp -dsimp
def srt (l : List Nat) : List (Nat × Res) := [(1000000, .blk 132 (l.map fun f => .clo f []))]
theorem form_house : ECall Tryz.prog 63 [sP lHA, .mx 1000000 5 1 0] (srt [64]) (.tup [.t .fz (.sl .any 1 [[sV wAda]]), pB true]) (srt [64]) := by
  have hs := sp_house
  have hn := isName_ada
  have k1 : IntKind.i64.wrap 1 = 1 := rfl
  unfold srt
  simp only [List.map_cons, List.map_nil]
  refine ecall_wp Tryz.func63 rfl (by kernel_rfl) ?_
  simp -dsimp
  first
    | refine CallG.by (hs) ?_
    | refine CallGE.by (hs) ?_
    | refine CallGB.by (hs) ?_
  simp -dsimp
  refine wk_loop (fun i : Nat => ⟨[(19, pI i), (18, pI 1), (17, .mx 1000000 5 1 0), (6, .t .fz (.sl .any 1 [[sV wAda]]))], [(1000000, .blk 132 [.clo 64 []])]⟩) (fun i => i ≤ 1) (fun i => 1 - i) 0
    (le_of (by simp) (by simp)) (by simp) fun i hi' => ?_
  rcases (by omega : i = 0 ∨ i = 1) with rfl | rfl
  · simp -dsimp
    first
      | refine CallG.by (hn) ?_
      | refine CallGE.by (hn) ?_
      | refine CallGB.by (hn) ?_
    simp -dsimp [k1]
    refine LoopP_next 1 (le_of (by simp) (by simp)) (by omega) (by omega)
  · simp -dsimp
    refine retE_c (by simp -dsimp) (by simp)
theorem form_town1 (f : Nat) : ECall Tryz.prog 63 [sP wTown, .mx 1000000 5 1 0] (srt [f]) (.tup [nilP, pB false]) (srt [f]) := by
  have hs := sp_town
  unfold srt
  simp only [List.map_cons, List.map_nil]
  refine ecall_wp Tryz.func63 rfl (by kernel_rfl) ?_
  simp -dsimp
  first
    | refine CallG.by (hs) ?_
    | refine CallGE.by (hs) ?_
    | refine CallGB.by (hs) ?_
  simp -dsimp
  refine retE_c (by simp -dsimp) (by simp)
theorem form_town2 (f g : Nat) : ECall Tryz.prog 63 [sP wTown, .mx 1000000 5 2 0] (srt [f, g]) (.tup [nilP, pB false]) (srt [f, g]) := by
  have hs := sp_town
  unfold srt
  simp only [List.map_cons, List.map_nil]
  refine ecall_wp Tryz.func63 rfl (by kernel_rfl) ?_
  simp -dsimp
  first
    | refine CallG.by (hs) ?_
    | refine CallGE.by (hs) ?_
    | refine CallGB.by (hs) ?_
  simp -dsimp
  refine retE_c (by simp -dsimp) (by simp)
theorem cloneS_nil : PCall Tryz.prog 111 [nilT] (.t .fz nilT) [] := by
  refine pcall_wp _ Tryz.func111 rfl (by kernel_rfl) rfl ?_
  simp -dsimp
  refine retP_c ?_
  simp -dsimp
theorem cloneG_nil : PCall Tryz.prog 112 [nilT] (.t .fz nilT) [] := by
  refine pcall_wp _ Tryz.func112 rfl (by kernel_rfl) rfl ?_
  simp -dsimp
  refine retP_c ?_
  simp -dsimp
theorem cloneF_nil : PCall Tryz.prog 113 [nilT] (.t .fz nilT) [] := by
  refine pcall_wp _ Tryz.func113 rfl (by kernel_rfl) rfl ?_
  simp -dsimp
  refine retP_c ?_
  simp -dsimp
theorem cloneP_nil : PCall Tryz.prog 114 [nilT] (.t .fz nilT) [] := by
  refine pcall_wp _ Tryz.func114 rfl (by kernel_rfl) rfl ?_
  simp -dsimp
  refine retP_c ?_
  simp -dsimp
theorem cloneT_nil : PCall Tryz.prog 115 [nilT] (.t .fz nilT) [] := by
  refine pcall_wp _ Tryz.func115 rfl (by kernel_rfl) rfl ?_
  simp -dsimp
  refine retP_c ?_
  simp -dsimp
theorem clone1 : ECall Tryz.prog 73 [.ptr 1000000 0] [(1000000, st1)] (.ptr 3 0) [(1000000, st1), (3, st1)] := by
  have h1 := cloneS_nil
  have h2 := cloneG_nil
  have h3 := cloneF_nil
  have h4 := cloneP_nil
  have h5 := cloneT_nil
  unfold st1
  refine ecall_wp Tryz.func73 rfl (by kernel_rfl) ?_
  simp -dsimp
  refine wk_draw 14 [] mixed (by kernel_rfl) ?_
  simp -dsimp
  first
    | refine CallG.by (h1) ?_
    | refine CallGE.by (h1) ?_
    | refine CallGB.by (h1) ?_
  simp -dsimp
  first
    | refine CallG.by (h2) ?_
    | refine CallGE.by (h2) ?_
    | refine CallGB.by (h2) ?_
  simp -dsimp
  first
    | refine CallG.by (h3) ?_
    | refine CallGE.by (h3) ?_
    | refine CallGB.by (h3) ?_
  simp -dsimp
  refine wk_draw 9 [] mixed (by kernel_rfl) ?_
  simp -dsimp
  first
    | refine CallG.by (h4) ?_
    | refine CallGE.by (h4) ?_
    | refine CallGB.by (h4) ?_
  simp -dsimp
  first
    | refine CallG.by (h5) ?_
    | refine CallGE.by (h5) ?_
    | refine CallGB.by (h5) ?_
  simp -dsimp
  refine retE_c (by simp -dsimp) (by simp)
theorem idxN_spec (s : List UInt8) : PCall Tryz.prog 134 [nilT, sV s] (pI (-1)) [] := by
  refine pcall_wp _ Tryz.func134 rfl (by kernel_rfl) rfl ?_
  simp -dsimp
  refine wk_loop (fun i : Nat => ⟨[(8, pI 0), (7, pI 0)], []⟩) (fun i => True) (fun i => 0) 0 (le_of (by simp) (by simp)) (by simp) fun i hi => ?_
  simp -dsimp
  refine retP_c ?_
  simp -dsimp
theorem house1 (s : List UInt8) : ECall Tryz.prog 102 [.ptr 1000000 0, sP s] [(1000000, st1)] (pI (-1)) [(1000000, st1)] := by
  have h := idxN_spec s
  unfold st1
  refine ecall_wp Tryz.func102 rfl (by kernel_rfl) ?_
  simp -dsimp
  first
    | refine CallG.by (h) ?_
    | refine CallGE.by (h) ?_
    | refine CallGB.by (h) ?_
  simp -dsimp
  refine retE_c (by simp -dsimp) (by simp)
def bdD : List (List Nat) := [[], [], [1], [1, 2], [1, 2, 3], [], [5], [5, 6], [5, 6, 7], [1, 2, 3, 4, 5, 6, 7, 8], [0, 1, 2, 3, 4, 5, 6, 7, 8, 9], [0, 1, 2, 3, 4, 5, 6, 7, 8, 9, 10], [0, 1, 2, 3, 4, 5, 6, 7, 8, 9, 10, 11]]
def bdT : List Nat := [0, 1, 2, 3, 4, 5, 6, 7, 8, 9, 10, 11, 12]
def bdP : List (List (Option Bool)) := [[some false, none, none, none, none, none, none, none, none, none, some false, some false, some false], [none, some false, some false, some false, some false, none, none, none, none, some false, some false, some false, some false], [none, some true, some false, some false, some false, none, none, none, none, some false, some false, some false, some false], [none, some true, some true, some false, some false, none, none, none, none, some false, some false, some false, some false], [none, some true, some true, some true, some false, none, none, none, none, some false, some false, some false, some false], [none, none, none, none, none, some false, some false, some false, some false, some false, some false, some false, some false], [none, none, none, none, none, some true, some false, some false, some false, some false, some false, some false, some false], [none, none, none, none, none, some true, some true, some false, some false, some false, some false, some false, some false], [none, none, none, none, none, some true, some true, some true, some false, some false, some false, some false, some false], [none, some true, some true, some true, some true, some true, some true, some true, some true, some false, some false, some false, some false], [some true, some true, some true, some true, some true, some true, some true, some true, some true, some true, some false, some false, some false], [some true, some true, some true, some true, some true, some true, some true, some true, some true, some true, some true, some false, some false], [some true, some true, some true, some true, some true, some true, some true, some true, some true, some true, some true, some true, some false]]
def st2 (h t : Nat) : Res := .blk 100 [pI 1, .osl h, .osl t, nilP, nilP, nilP]
theorem build1 : ECall Tryz.prog 62 [.ptr 1000000 0, .t .ro (.sl .any 1 [[sV wAda]])] [(1000000, st1)] (pI 0) [(1000000, st2 28 37), (28, .row 9 1 .fz [[sV wAda]]), (37, .row 3 1 .fz [[eI 0]])] := by
  have h := house1 wAda
  unfold st1 st2 at *
  refine ecall_wp Tryz.func62 rfl (by kernel_rfl) ?_
  simp -dsimp
  first
    | refine CallG.on (g := [(1000000, 1000000)]) (h) (by decide) (by simp) (by simp) (by simp [Sg.bk]) ?_
    | refine CallN.on (g := [(1000000, 1000000)]) (h) (by decide) (by simp) (by simp) (by simp [Sg.bk]) ?_
    | refine CallGB.on (g := [(1000000, 1000000)]) (h) (by decide) (by simp) (by simp) (by simp [Sg.bk]) ?_
  simp -dsimp
  refine wk_dagS (fun bs => ⟨[(19, cnd (bs.getD 0 false) (.ptr 1000000 0)), (20, cnd (bs.getD 1 false) (.ptr 1000000 0)), (21, cnd (bs.getD 2 false) (.ptr 1000000 0)), (22, cnd (bs.getD 3 false) (.ptr 1000000 1)), (23, cnd (bs.getD 4 false) nilP), (24, cnd (bs.getD 5 false) (.t .ro (.sl .any 1 [[sV wAda]]))), (25, cnd (bs.getD 6 false) (.t .ro (.rp [sV wAda] 0))), (26, cnd (bs.getD 7 false) (.t .ro (sV wAda))), (27, cnd (bs.getD 8 false) (.osl 27)), (28, cnd (bs.getD 9 false) (.osl 28)), (29, cnd (bs.getD 10 false) (.ptr 1000000 0)), (30, cnd (bs.getD 11 false) (.ptr 1000000 1)), (0, .ptr 1000000 0), (1, .t .ro (.sl .any 1 [[sV wAda]]))],
      [(27, cndR (bs.getD 8 false) (.row 9 1 .fz [[sV wAda]])), (28, cndR (bs.getD 9 false) (.row 9 1 .fz [[sV wAda]])), (1000000, .blk 100 [pI 1, if bs.getD 12 false then .osl 28 else nilP, nilP, nilP, nilP, nilP])]⟩) bdD bdT bdP mixed (by kernel_rfl) (le_of (by simp) (by simp)) ?_ ?_
  · unfold bdP
    simp -dsimp [-Bool.forall_bool]
    repeat' first
      | intro _
      | with_reducible apply And.intro
      | (refine le_of (by simp) ?_
         simp; done)
      | (rename_i x
         cases x <;> simp -dsimp)
  · simp -dsimp
    refine retE_c (by simp -dsimp) (by simp)
end Go.Proofs.YtpcmmjmoiplhjaaGreatDoor
