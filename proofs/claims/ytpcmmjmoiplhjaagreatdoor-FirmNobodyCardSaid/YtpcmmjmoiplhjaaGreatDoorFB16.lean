import Derived.Test.YtpcmmjmoiplhjaaGreatDoorFB15
/- FB16: Ask of the line 'town'. -/
set_option linter.unusedVariables false
set_option linter.unusedSimpArgs false
set_option maxRecDepth 20000
namespace Go.Proofs.YtpcmmjmoiplhjaaGreatDoor
open Go Go.PS Go.Shelf
attribute [-simp] isKeyK List.map_take
theorem near1 : PCall Tryz.prog 92 [st2T, eI 0, eI 0] (pB false) [] := by
  have k1 : shrI 0 0 = 0 := by decide
  have k2 : andI 0 1 = 0 := by decide
  refine pcall_wp _ Tryz.func92 rfl (by kernel_rfl) rfl ?_
  simp -dsimp [k1, k2]
  refine retP_c ?_
  simp -dsimp
abbrev lisT : TL := .clo 123 [.rp [st2T] 0, .rp [eI 0] 0]
theorem lisC : PCall Tryz.prog 123 [eI 0, .rp [st2T] 0, .rp [eI 0] 0] (pB false) [] := by
  have h := near1
  refine pcall_wp _ Tryz.func123 rfl (by kernel_rfl) rfl ?_
  simp -dsimp
  first
    | refine CallG.by (h) ?_
    | refine CallGE.by (h) ?_
    | refine CallGB.by (h) ?_
  simp -dsimp
  refine retP_c ?_
  simp -dsimp
theorem listed1 : PCall Tryz.prog 119 [st2T, lisT] nilP [] := by
  have hb := byName1
  have hc := lisC
  have k1 : IntKind.i64.wrap 1 = 1 := rfl
  refine pcall_wp _ Tryz.func119 rfl (by kernel_rfl) rfl ?_
  simp -dsimp
  first
    | refine CallG.by (hb) ?_
    | refine CallGE.by (hb) ?_
    | refine CallGB.by (hb) ?_
  simp -dsimp
  refine wk_loop (fun i : Nat => ⟨[(11, pI i), (10, pI 1), (9, .t .fz (.sl .any 1 [[eI 0]])), (0, .t .ro st2T), (1, .t .ro lisT), (5, nilP)], []⟩) (fun i => i ≤ 1) (fun i => 1 - i) 0
    (le_of (by simp) (by simp)) (by simp) fun i hi => ?_
  rcases (by omega : i = 0 ∨ i = 1) with rfl | rfl
  · simp -dsimp
    first
      | refine CallG.by (hc) ?_
      | refine CallGE.by (hc) ?_
      | refine CallGB.by (hc) ?_
    simp -dsimp [k1]
    refine LoopP_next 1 (le_of (by simp) (by simp)) (by omega) (by omega)
  · simp -dsimp
    refine retP_c ?_
    simp -dsimp
theorem join0 (s : List UInt8) : PCall Tryz.prog 91 [nilT, sV s] (sP []) [] := by
  refine pcall_wp _ Tryz.func91 rfl (by kernel_rfl) rfl ?_
  simp -dsimp
  refine retP_c ?_
  simp -dsimp
abbrev repT : List UInt8 := [116, 111, 119, 110, 32, 97, 100, 97, 58]
theorem listing1 : PCall Tryz.prog 79 [st2T] (sP repT) [] := by
  have hb := byName1
  have hl := listed1
  have hj := join0 [44]
  have k1 : IntKind.i64.wrap 1 = 1 := rfl
  have q1 : (ByteArray.mk #[32]).size + (ByteArray.mk wAda.toArray).size ≤ 9223372036854775807 := by decide
  have a1 : (ByteArray.mk #[32]) ++ (ByteArray.mk wAda.toArray) = ByteArray.mk #[32, 97, 100, 97] := by decide
  have q2 : (ByteArray.mk #[32, 97, 100, 97]).size + (ByteArray.mk #[58]).size ≤ 9223372036854775807 := by decide
  have a2 : (ByteArray.mk #[32, 97, 100, 97]) ++ (ByteArray.mk #[58]) = ByteArray.mk #[32, 97, 100, 97, 58] := by decide
  have q3 : (ByteArray.mk #[32, 97, 100, 97, 58]).size + (ByteArray.mk #[]).size ≤ 9223372036854775807 := by decide
  have a3 : (ByteArray.mk #[32, 97, 100, 97, 58]) ++ (ByteArray.mk #[]) = ByteArray.mk #[32, 97, 100, 97, 58] := by decide
  have q4 : (ByteArray.mk #[116, 111, 119, 110]).size + (ByteArray.mk #[32, 97, 100, 97, 58]).size ≤ 9223372036854775807 := by decide
  have a4 : (ByteArray.mk #[116, 111, 119, 110]) ++ (ByteArray.mk #[32, 97, 100, 97, 58]) = ByteArray.mk #[116, 111, 119, 110, 32, 97, 100, 97, 58] := by decide
  refine pcall_wp _ Tryz.func79 rfl (by kernel_rfl) rfl ?_
  simp -dsimp
  first
    | refine CallG.by (hb) ?_
    | refine CallGE.by (hb) ?_
    | refine CallGB.by (hb) ?_
  simp -dsimp
  refine wk_loop (fun i : Nat => ⟨[(9, pI i), (8, pI 1), (7, .t .fz (.sl .any 1 [[eI 0]])), (1, .ptr 1 0), (3, if i = 0 then sP [116, 111, 119, 110] else sP repT)], [(1, .blk 51 [.t .ro st2T])]⟩) (fun i => i ≤ 1) (fun i => 1 - i) 0
    (le_of (by simp) (by simp)) (by simp) fun i hi => ?_
  rcases (by omega : i = 0 ∨ i = 1) with rfl | rfl
  all_goals simp only [if_true, if_false, Nat.one_ne_zero]
  · simp -dsimp
    refine wk_draw 15 [12, 13] mixed (by kernel_rfl) ?_
    simp -dsimp [q1, a1, q2, a2]
    first
      | refine CallG.by (hl) ?_
      | refine CallGE.by (hl) ?_
      | refine CallGB.by (hl) ?_
    simp -dsimp
    first
      | refine CallG.by (hj) ?_
      | refine CallGE.by (hj) ?_
      | refine CallGB.by (hj) ?_
    simp -dsimp [k1, q3, a3, q4, a4]
    refine LoopP_next 1 (le_of (by simp) (by simp)) (by omega) (by omega)
  · simp -dsimp
    refine retP_c ?_
    simp -dsimp
theorem cut_town : cutT wTown 32 = .tup [sV wTown, sV [], eB false] := rfl
theorem reply1 : PCall Tryz.prog 52 [st2T, sV wTown] (.t .fz (.tup [sV repT, eI 0])) [] := by
  have hi := isLine_town
  have hc := Cut_spec wTown 32 (by simp)
  rw [cut_town] at hc
  have h1 := form_town1 68
  have h2 := form_town1 64
  have h3 := form_town2 64 64
  have hl := listing1
  unfold srt at *
  simp only [List.map_cons, List.map_nil] at h1 h2 h3
  refine pcall_wp _ Tryz.func52 rfl (by kernel_rfl) rfl ?_
  simp -dsimp
  first
    | refine CallG.by (hi) ?_
    | refine CallGE.by (hi) ?_
    | refine CallGB.by (hi) ?_
  simp -dsimp
  first
    | refine CallG.by (hc) ?_
    | refine CallGE.by (hc) ?_
    | refine CallGB.by (hc) ?_
  simp -dsimp
  first
    | refine CallG.on (g := [(34, 1000000)]) (h1) (by decide) (by simp) (by simp) (by simp [Sg.bk]) ?_
    | refine CallN.on (g := [(34, 1000000)]) (h1) (by decide) (by simp) (by simp) (by simp [Sg.bk]) ?_
    | refine CallGB.on (g := [(34, 1000000)]) (h1) (by decide) (by simp) (by simp) (by simp [Sg.bk]) ?_
  simp -dsimp
  first
    | refine CallG.on (g := [(57, 1000000)]) (h2) (by decide) (by simp) (by simp) (by simp [Sg.bk]) ?_
    | refine CallN.on (g := [(57, 1000000)]) (h2) (by decide) (by simp) (by simp) (by simp [Sg.bk]) ?_
    | refine CallGB.on (g := [(57, 1000000)]) (h2) (by decide) (by simp) (by simp) (by simp [Sg.bk]) ?_
  simp -dsimp
  first
    | refine CallG.on (g := [(75, 1000000)]) (h3) (by decide) (by simp) (by simp) (by simp [Sg.bk]) ?_
    | refine CallN.on (g := [(75, 1000000)]) (h3) (by decide) (by simp) (by simp) (by simp [Sg.bk]) ?_
    | refine CallGB.on (g := [(75, 1000000)]) (h3) (by decide) (by simp) (by simp) (by simp [Sg.bk]) ?_
  simp -dsimp
  first
    | refine CallG.by (hl) ?_
    | refine CallGE.by (hl) ?_
    | refine CallGB.by (hl) ?_
  simp -dsimp
  refine retP_c ?_
  simp -dsimp
def sN : List (Nat × Res) := [(703, st2 728 737), (728, .row 9 1 .ro [[sV wAda]]), (737, .row 3 1 .ro [[eI 0]])]
theorem none2 : ECall Tryz.prog 51 [.ptr 1000010 0] (fM2 ++ sN) (pB false) (fM2 ++ sN) := by
  unfold fM2 sN dE dM dk st1 st2
  simp only [List.cons_append, List.nil_append]
  refine ecall_wp Tryz.func51 rfl (by kernel_rfl) ?_
  simp -dsimp
  refine retE_c (by simp -dsimp) (by simp)
theorem ask_spec : ECall Tryz.prog 18 [.ptr 1000010 0, sP wTown] (fM2 ++ sN) (.tup [sP repT, pI 0]) (fM2 ++ sN) := by
  have h := reply1
  have hn := none2
  unfold fM2 sN dE dM dk st1 st2 at *
  simp only [List.cons_append, List.nil_append] at hn ⊢
  refine ecall_wp Tryz.func18 rfl (by kernel_rfl) ?_
  simp -dsimp
  first
    | refine CallG.on (g := [(1000010, 1000010), (1000011, 1000011), (1000000, 1000000), (501, 501), (502, 502), (703, 703), (728, 728), (737, 737)]) (hn) (by decide) (by simp) (by simp) (by simp [Sg.bk]) ?_
    | refine CallN.on (g := [(1000010, 1000010), (1000011, 1000011), (1000000, 1000000), (501, 501), (502, 502), (703, 703), (728, 728), (737, 737)]) (hn) (by decide) (by simp) (by simp) (by simp [Sg.bk]) ?_
    | refine CallGB.on (g := [(1000010, 1000010), (1000011, 1000011), (1000000, 1000000), (501, 501), (502, 502), (703, 703), (728, 728), (737, 737)]) (hn) (by decide) (by simp) (by simp) (by simp [Sg.bk]) ?_
  simp -dsimp
  first
    | refine CallG.by (h) ?_
    | refine CallGE.by (h) ?_
    | refine CallGB.by (h) ?_
  simp -dsimp
  refine retE_c (by simp -dsimp) (by simp)
theorem awake_spec : PCall Tryz.prog 6 [] (pB true) [] := by
  have h1 := disks_spec
  have h2 := open_spec
  have h3 := do_spec
  have h4 := ask_spec
  unfold fM2 sM sN fM dA dC dE fm1 rd0 dM dk st1 st2 at *
  simp only [List.cons_append, List.nil_append] at h1 h2 h3 h4
  refine pcall_wpS [2] Tryz.func6 rfl (by kernel_rfl) ?_
  simp -dsimp
  first
    | refine CallG.on (g := [(601, 701), (602, 702)]) (h1) (by decide) (by simp) (by simp) (by simp [Sg.bk]) ?_
    | refine CallN.on (g := [(601, 701), (602, 702)]) (h1) (by decide) (by simp) (by simp) (by simp [Sg.bk]) ?_
    | refine CallGB.on (g := [(601, 701), (602, 702)]) (h1) (by decide) (by simp) (by simp) (by simp [Sg.bk]) ?_
  simp -dsimp
  refine stop_adoptM 601 0 501 5 1 (by simp; exact ⟨rfl, rfl⟩) (by simp; rfl) (by simp) (by simp) ?_
  refine stop_adoptM 601 2 502 5 1 (by simp; exact ⟨rfl, rfl⟩) (by simp; rfl) (by simp) (by simp) ?_
  refine stop_go ?_
  simp -dsimp
  first
    | refine CallG.on (g := [(601, 1000000), (501, 501), (502, 502), (603, 71), (604, 69)]) (h2) (by decide) (by simp) (by simp) (by simp [Sg.bk]) ?_
    | refine CallN.on (g := [(601, 1000000), (501, 501), (502, 502), (603, 71), (604, 69)]) (h2) (by decide) (by simp) (by simp) (by simp [Sg.bk]) ?_
    | refine CallGB.on (g := [(601, 1000000), (501, 501), (502, 502), (603, 71), (604, 69)]) (h2) (by decide) (by simp) (by simp) (by simp [Sg.bk]) ?_
  simp -dsimp
  first
    | refine CallG.on (g := [(603, 1000010), (604, 1000011), (601, 1000000), (501, 501), (502, 502), (703, 703), (728, 728), (737, 737)]) (h3) (by decide) (by simp) (by simp) (by simp [Sg.bk]) ?_
    | refine CallN.on (g := [(603, 1000010), (604, 1000011), (601, 1000000), (501, 501), (502, 502), (703, 703), (728, 728), (737, 737)]) (h3) (by decide) (by simp) (by simp) (by simp [Sg.bk]) ?_
    | refine CallGB.on (g := [(603, 1000010), (604, 1000011), (601, 1000000), (501, 501), (502, 502), (703, 703), (728, 728), (737, 737)]) (h3) (by decide) (by simp) (by simp) (by simp [Sg.bk]) ?_
  simp -dsimp
  first
    | refine CallG.on (g := [(603, 1000010), (604, 1000011), (601, 1000000), (501, 501), (502, 502), (703, 703), (728, 728), (737, 737)]) (h4) (by decide) (by simp) (by simp) (by simp [Sg.bk]) ?_
    | refine CallN.on (g := [(603, 1000010), (604, 1000011), (601, 1000000), (501, 501), (502, 502), (703, 703), (728, 728), (737, 737)]) (h4) (by decide) (by simp) (by simp) (by simp [Sg.bk]) ?_
    | refine CallGB.on (g := [(603, 1000010), (604, 1000011), (601, 1000000), (501, 501), (502, 502), (703, 703), (728, 728), (737, 737)]) (h4) (by decide) (by simp) (by simp) (by simp [Sg.bk]) ?_
  simp -dsimp
  refine retP_c ?_
  simp -dsimp
end Go.Proofs.YtpcmmjmoiplhjaaGreatDoor
