import Derived.Test.YtpcmmjmoiplhjaaGreatDoorFB3
/- FB4: append to a file; what a disk reads. -/
set_option linter.unusedVariables false
set_option linter.unusedSimpArgs false
set_option maxRecDepth 20000
namespace Go.Proofs.YtpcmmjmoiplhjaaGreatDoor
open Go Go.PS
attribute [-simp] isKeyK List.map_take
def apD : List (List Nat) := [[], [], [], [], [2], [2, 4], [2, 3, 4, 5], [2, 3, 4, 5, 6], [2, 3, 4, 5, 6, 7], [], [2, 3, 4, 5, 6, 7, 8, 9], [0], [0, 11], [0, 1, 2, 3, 4, 5, 6, 7, 8, 9, 10, 11, 12], [0, 1, 2, 3, 4, 5, 6, 7, 8, 9, 10, 11, 12, 13], [0, 1, 2, 3, 4, 5, 6, 7, 8, 9, 10, 11, 12, 13, 14]]
def apT : List Nat := [0, 1, 2, 3, 4, 5, 6, 7, 8, 9, 10, 11, 12, 13, 14, 15]
def apP : List (List (Option Bool)) := [[some false, none, none, none, none, none, none, none, none, none, none, some false, some false, some false, some false, some false], [none, some false, none, none, none, none, none, none, none, none, none, none, none, some false, some false, some false], [none, none, some false, none, some false, some false, some false, some false, some false, none, some false, none, none, some false, some false, some false], [none, none, none, some false, none, none, some false, some false, some false, none, some false, none, none, some false, some false, some false], [none, none, some true, none, some false, some false, some false, some false, some false, none, some false, none, none, some false, some false, some false], [none, none, some true, none, some true, some false, some false, some false, some false, none, some false, none, none, some false, some false, some false], [none, none, some true, some true, some true, some true, some false, some false, some false, none, some false, none, none, some false, some false, some false], [none, none, some true, some true, some true, some true, some true, some false, some false, none, some false, none, none, some false, some false, some false], [none, none, some true, some true, some true, some true, some true, some true, some false, none, some false, none, none, some false, some false, some false], [none, none, none, none, none, none, none, none, none, some false, some false, none, none, some false, some false, some false], [none, none, some true, some true, some true, some true, some true, some true, some true, some true, some false, none, none, some false, some false, some false], [some true, none, none, none, none, none, none, none, none, none, none, some false, some false, some false, some false, some false], [some true, none, none, none, none, none, none, none, none, none, none, some true, some false, some false, some false, some false], [some true, some true, some true, some true, some true, some true, some true, some true, some true, some true, some true, some true, some true, some false, some false, some false], [some true, some true, some true, some true, some true, some true, some true, some true, some true, some true, some true, some true, some true, some true, some false, some false], [some true, some true, some true, some true, some true, some true, some true, some true, some true, some true, some true, some true, some true, some true, some true, some false]]
set_option maxHeartbeats 1000000 in
theorem Append0_spec (l0 l1 : List UInt8) (s0 s1 size fuse : Int) (off : Bool) (b : List UInt8) (hs : (size == 0) = false) (h0 : l0.length ≤ 1000000) (hl1 : l1.length ≤ 1000000) (hb : b.length ≤ 1000000) (hsz : 0 ≤ size ∧ size ≤ 1000000) (h1 : -1 ≤ fuse) (h2 : fuse ≤ 4611686018427387904) :
    ECall Tryz.prog 13 [.ptr 1000000 0, pI 0, .t .ro (.sl .any 1 (bys b))] (dM l0 s0 l1 s1 size off fuse) (pI (if size - l0.length - l1.length < b.length then 8 else spE off fuse))
    (if size - l0.length - l1.length < b.length then dM l0 s0 l1 s1 size off fuse else if spO off fuse then dM l0 s0 l1 s1 size true (spF off fuse) else (dM (l0 ++ b) s0 l1 s1 size false (spF off fuse))) := by
  have hr := reach_spec l0 l1 s0 s1 size fuse off 0 hs (by simp)
  have hm := room_spec l0 l1 s0 s1 size fuse off h0 hl1 hsz.1 hsz.2
  have hp := spend_spec l0 l1 s0 s1 size fuse off h1 h2
  have e1 : bys l0 ++ bys b = bys (l0 ++ b) := bys_app l0 b
  have bd : l0.length + b.length ≤ 140737488355328 := by omega
  unfold spE at *
  generalize spF off fuse = F at *
  generalize spO off fuse = O at *
  by_cases hfull : size - l0.length - l1.length < b.length
  · rw [if_pos hfull, if_pos hfull]
    unfold dM dk at *
    refine ecall_wp Tryz.func13 rfl (by kernel_rfl) ?_
    simp -dsimp
    first
      | refine CallG.on (g := [(1000000, 1000000), (501, 501), (502, 502)]) (hr) (by decide) (by simp) (by simp) (by simp [Sg.bk]) ?_
      | refine CallN.on (g := [(1000000, 1000000), (501, 501), (502, 502)]) (hr) (by decide) (by simp) (by simp) (by simp [Sg.bk]) ?_
      | refine CallGB.on (g := [(1000000, 1000000), (501, 501), (502, 502)]) (hr) (by decide) (by simp) (by simp) (by simp [Sg.bk]) ?_
    simp -dsimp
    first
      | refine CallG.on (g := [(1000000, 1000000), (501, 501), (502, 502)]) (hm) (by decide) (by simp) (by simp) (by simp [Sg.bk]) ?_
      | refine CallN.on (g := [(1000000, 1000000), (501, 501), (502, 502)]) (hm) (by decide) (by simp) (by simp) (by simp [Sg.bk]) ?_
      | refine CallGB.on (g := [(1000000, 1000000), (501, 501), (502, 502)]) (hm) (by decide) (by simp) (by simp) (by simp [Sg.bk]) ?_
    simp -dsimp [hfull]
    refine retE_c (by simp -dsimp) (by simp)
  rw [if_neg hfull, if_neg hfull]
  cases O
  · simp only [Bool.false_eq_true, if_false] at hp ⊢
    unfold dM dk at *
    rw [← e1]
    refine ecall_wp Tryz.func13 rfl (by kernel_rfl) ?_
    simp -dsimp
    first
      | refine CallG.on (g := [(1000000, 1000000), (501, 501), (502, 502)]) (hr) (by decide) (by simp) (by simp) (by simp [Sg.bk]) ?_
      | refine CallN.on (g := [(1000000, 1000000), (501, 501), (502, 502)]) (hr) (by decide) (by simp) (by simp) (by simp [Sg.bk]) ?_
      | refine CallGB.on (g := [(1000000, 1000000), (501, 501), (502, 502)]) (hr) (by decide) (by simp) (by simp) (by simp [Sg.bk]) ?_
    simp -dsimp
    first
      | refine CallG.on (g := [(1000000, 1000000), (501, 501), (502, 502)]) (hm) (by decide) (by simp) (by simp) (by simp [Sg.bk]) ?_
      | refine CallN.on (g := [(1000000, 1000000), (501, 501), (502, 502)]) (hm) (by decide) (by simp) (by simp) (by simp [Sg.bk]) ?_
      | refine CallGB.on (g := [(1000000, 1000000), (501, 501), (502, 502)]) (hm) (by decide) (by simp) (by simp) (by simp [Sg.bk]) ?_
    simp -dsimp [hfull]
    first
      | refine CallG.on (g := [(1000000, 1000000), (501, 501), (502, 502)]) (hp) (by decide) (by simp) (by simp) (by simp [Sg.bk]) ?_
      | refine CallN.on (g := [(1000000, 1000000), (501, 501), (502, 502)]) (hp) (by decide) (by simp) (by simp) (by simp [Sg.bk]) ?_
      | refine CallGB.on (g := [(1000000, 1000000), (501, 501), (502, 502)]) (hp) (by decide) (by simp) (by simp) (by simp [Sg.bk]) ?_
    simp -dsimp
    refine wk_dagS (fun bs => ⟨[(25, cnd (bs.getD 0 false) (.ptr 1000000 0)), (26, cnd (bs.getD 1 false) (pI 0)), (27, cnd (bs.getD 2 false) (.ptr 1000000 0)), (28, cnd (bs.getD 3 false) (pI 0)), (29, cnd (bs.getD 4 false) (.ptr 1000000 0)), (30, cnd (bs.getD 5 false) (.ptr 1000000 0)), (31, cnd (bs.getD 6 false) (.ptr 1000000 0)), (32, cnd (bs.getD 7 false) (.ptr 1000000 0)), (33, cnd (bs.getD 8 false && !bs.getD 10 false) (.osl 501)), (34, cnd (bs.getD 9 false) (.t .ro (.sl .any 1 (bys b)))), (35, cnd (bs.getD 10 false) (.osl 501)), (36, cnd (bs.getD 11 false) (.ptr 1000000 0)), (37, cnd (bs.getD 12 false) (.ptr 1000000 0)), (38, cnd (bs.getD 13 false) (.ptr 1000000 0)), (39, cnd (bs.getD 14 false) (.ptr 1000000 0)), (0, .ptr 1000000 0), (1, pI 0), (2, .t .ro (.sl .any 1 (bys b)))],
      [(501, .row 5 1 .ro (bys l0 ++ if bs.getD 10 false then bys b else [])), (1000000, .blk 41 [if bs.getD 10 false && !bs.getD 15 false then .undef else .osl 501, pI s0, .osl 502, pI s1, pI size, pB false, pI F]), (502, .row 5 1 .ro (bys l1))]⟩) apD apT apP mixed (by kernel_rfl) (le_of (by simp) (by simp)) ?_ ?_
    · unfold apP
      simp -dsimp [bd, bys, -Bool.forall_bool]
      repeat' first
        | intro _
        | with_reducible apply And.intro
        | (refine le_of (by simp) ?_
           simp; done)
        | (rename_i x
           cases x <;> simp -dsimp)
    · simp -dsimp
      refine retE_c (by simp -dsimp) (by simp)
  · simp only [if_true] at hp ⊢
    unfold dM dk at *
    refine ecall_wp Tryz.func13 rfl (by kernel_rfl) ?_
    simp -dsimp
    first
      | refine CallG.on (g := [(1000000, 1000000), (501, 501), (502, 502)]) (hr) (by decide) (by simp) (by simp) (by simp [Sg.bk]) ?_
      | refine CallN.on (g := [(1000000, 1000000), (501, 501), (502, 502)]) (hr) (by decide) (by simp) (by simp) (by simp [Sg.bk]) ?_
      | refine CallGB.on (g := [(1000000, 1000000), (501, 501), (502, 502)]) (hr) (by decide) (by simp) (by simp) (by simp [Sg.bk]) ?_
    simp -dsimp
    first
      | refine CallG.on (g := [(1000000, 1000000), (501, 501), (502, 502)]) (hm) (by decide) (by simp) (by simp) (by simp [Sg.bk]) ?_
      | refine CallN.on (g := [(1000000, 1000000), (501, 501), (502, 502)]) (hm) (by decide) (by simp) (by simp) (by simp [Sg.bk]) ?_
      | refine CallGB.on (g := [(1000000, 1000000), (501, 501), (502, 502)]) (hm) (by decide) (by simp) (by simp) (by simp [Sg.bk]) ?_
    simp -dsimp [hfull]
    first
      | refine CallG.on (g := [(1000000, 1000000), (501, 501), (502, 502)]) (hp) (by decide) (by simp) (by simp) (by simp [Sg.bk]) ?_
      | refine CallN.on (g := [(1000000, 1000000), (501, 501), (502, 502)]) (hp) (by decide) (by simp) (by simp) (by simp [Sg.bk]) ?_
      | refine CallGB.on (g := [(1000000, 1000000), (501, 501), (502, 502)]) (hp) (by decide) (by simp) (by simp) (by simp [Sg.bk]) ?_
    simp -dsimp
    refine retE_c (by simp -dsimp) (by simp)
end Go.Proofs.YtpcmmjmoiplhjaaGreatDoor
