import Derived.Test.YtpcmmjmoiplhjaaGreatDoorFN1
/- FN2: the law FirmNobody. -/
set_option linter.unusedVariables false
set_option linter.unusedSimpArgs false
set_option maxRecDepth 20000
namespace Go.Proofs.YtpcmmjmoiplhjaaGreatDoor
open Go Go.PS
attribute [-simp] isKeyK List.map_take
def zDR : Res := .blk 41 [nilP, pI 0, nilP, pI 0, pI 0, pB false, pI 0]
def zFR : Res := .blk 53 [nilA, nilA, pI 0, pI 0, pB false]
set_option maxHeartbeats 1000000 in
theorem nobody_true (s : List UInt8) (hs : s.length ≤ 140737488355328) (n m : Int) : PCall Tryz.prog 4 [sV s, eI n, eI m] (pB true) [] := by
  have d1 := fuseN nilX n noneDn
  have d2 := crashN nilX n m noneDn
  have d3 := readN nilX n (reachN nilX n noneDn)
  have d4 := openNn noneDn
  have d5 := appendN nilX n s (reachN nilX n noneDn)
  have d6 := syncN nilX n (reachN nilX n noneDn)
  have d7 := cutN nilX n m (reachN nilX n noneDn)
  have d8 := clearN nilX n (reachN nilX n noneDn)
  have e1 := fuseN zD n noneDz
  have e2 := crashN zD n m noneDz
  have e3 := readN zD n (reachN zD n noneDz)
  have e4 := openNz noneDz
  have e5 := appendN zD n s (reachN zD n noneDz)
  have e6 := syncN zD n (reachN zD n noneDz)
  have e7 := cutN zD n m (reachN zD n noneDz)
  have e8 := clearN zD n (reachN zD n noneDz)
  have f1 := doN nilX s (readyN nilX noneFn)
  have f2 := askN nilX s noneFn
  have f3 := compactN nilX (readyN nilX noneFn)
  have f4 := dumpN nilX noneFn
  have f5 := stateN nilX noneFn
  have f6 := markN nilX noneFn
  have g1 := doN zF s (readyN zF noneFz)
  have g2 := askN zF s noneFz
  have g3 := compactN zF (readyN zF noneFz)
  have g4 := dumpN zF noneFz
  have g5 := stateN zF noneFz
  have g6 := markN zF noneFz
  have ha := awake_spec
  have k1 : IntKind.i64.wrap 1 = 1 := rfl
  have k2 : IntKind.i64.wrap 2 = 2 := rfl
  refine pcall_wp _ Tryz.func4 rfl (by kernel_rfl) rfl ?_
  simp -dsimp
  refine wk_loop (fun i : Nat => ⟨[(23, pI i), (22, pI 2), (21, .mx 21 5 2 0), (0, .t .ro (sV s)), (1, .t .ro (eI n)), (2, .t .ro (eI m))], [(20, zDR), (21, .blk 23 [nilA, .ptr 20 0])]⟩) (fun i => i ≤ 2) (fun i => 2 - i) 0
    (le_of (by simp) (by simp [zDR])) (by simp) fun i hi => ?_
  unfold zDR
  rcases (by omega : i = 0 ∨ i = 1 ∨ i = 2) with rfl | rfl | rfl
  · simp -dsimp
    first
      | refine CallG.by (d1) ?_
      | refine CallGE.by (d1) ?_
      | refine CallGB.by (d1) ?_
    simp -dsimp
    first
      | refine CallG.by (d2) ?_
      | refine CallGE.by (d2) ?_
      | refine CallGB.by (d2) ?_
    simp -dsimp
    first
      | refine CallG.by (d3) ?_
      | refine CallGE.by (d3) ?_
      | refine CallGB.by (d3) ?_
    simp -dsimp
    first
      | refine CallG.by (d4) ?_
      | refine CallGE.by (d4) ?_
      | refine CallGB.by (d4) ?_
    simp -dsimp [hs]
    first
      | refine CallG.by (d5) ?_
      | refine CallGE.by (d5) ?_
      | refine CallGB.by (d5) ?_
    simp -dsimp
    first
      | refine CallG.by (d6) ?_
      | refine CallGE.by (d6) ?_
      | refine CallGB.by (d6) ?_
    simp -dsimp
    first
      | refine CallG.by (d7) ?_
      | refine CallGE.by (d7) ?_
      | refine CallGB.by (d7) ?_
    simp -dsimp
    first
      | refine CallG.by (d8) ?_
      | refine CallGE.by (d8) ?_
      | refine CallGB.by (d8) ?_
    simp -dsimp [k1]
    refine LoopP_next 1 (le_of (by simp) (by simp [zDR])) (by omega) (by omega)
  · simp -dsimp
    first
      | refine CallG.by (e1) ?_
      | refine CallGE.by (e1) ?_
      | refine CallGB.by (e1) ?_
    simp -dsimp
    first
      | refine CallG.by (e2) ?_
      | refine CallGE.by (e2) ?_
      | refine CallGB.by (e2) ?_
    simp -dsimp
    first
      | refine CallG.by (e3) ?_
      | refine CallGE.by (e3) ?_
      | refine CallGB.by (e3) ?_
    simp -dsimp
    first
      | refine CallG.by (e4) ?_
      | refine CallGE.by (e4) ?_
      | refine CallGB.by (e4) ?_
    simp -dsimp [hs]
    first
      | refine CallG.by (e5) ?_
      | refine CallGE.by (e5) ?_
      | refine CallGB.by (e5) ?_
    simp -dsimp
    first
      | refine CallG.by (e6) ?_
      | refine CallGE.by (e6) ?_
      | refine CallGB.by (e6) ?_
    simp -dsimp
    first
      | refine CallG.by (e7) ?_
      | refine CallGE.by (e7) ?_
      | refine CallGB.by (e7) ?_
    simp -dsimp
    first
      | refine CallG.by (e8) ?_
      | refine CallGE.by (e8) ?_
      | refine CallGB.by (e8) ?_
    simp -dsimp [k2]
    refine LoopP_next 2 (le_of (by simp) (by simp [zDR])) (by omega) (by omega)
  · simp -dsimp
    refine wk_loop (fun i : Nat => ⟨[(92, pI i), (91, pI 2), (90, .mx 90 5 2 0), (0, .t .ro (sV s))], [(89, zFR), (90, .blk 45 [nilA, .ptr 89 0])]⟩) (fun i => i ≤ 2) (fun i => 2 - i) 0
      (le_of (by simp) (by simp [zFR])) (by simp) fun i hi => ?_
    unfold zFR
    rcases (by omega : i = 0 ∨ i = 1 ∨ i = 2) with rfl | rfl | rfl
    · simp -dsimp
      first
        | refine CallG.by (f1) ?_
        | refine CallGE.by (f1) ?_
        | refine CallGB.by (f1) ?_
      simp -dsimp
      first
        | refine CallG.by (f2) ?_
        | refine CallGE.by (f2) ?_
        | refine CallGB.by (f2) ?_
      simp -dsimp
      first
        | refine CallG.by (f3) ?_
        | refine CallGE.by (f3) ?_
        | refine CallGB.by (f3) ?_
      simp -dsimp
      first
        | refine CallG.by (f4) ?_
        | refine CallGE.by (f4) ?_
        | refine CallGB.by (f4) ?_
      simp -dsimp
      first
        | refine CallG.by (f5) ?_
        | refine CallGE.by (f5) ?_
        | refine CallGB.by (f5) ?_
      simp -dsimp
      first
        | refine CallG.by (f6) ?_
        | refine CallGE.by (f6) ?_
        | refine CallGB.by (f6) ?_
      simp -dsimp [k1]
      refine LoopP_next 1 (le_of (by simp) (by simp [zFR])) (by omega) (by omega)
    · simp -dsimp
      first
        | refine CallG.by (g1) ?_
        | refine CallGE.by (g1) ?_
        | refine CallGB.by (g1) ?_
      simp -dsimp
      first
        | refine CallG.by (g2) ?_
        | refine CallGE.by (g2) ?_
        | refine CallGB.by (g2) ?_
      simp -dsimp
      first
        | refine CallG.by (g3) ?_
        | refine CallGE.by (g3) ?_
        | refine CallGB.by (g3) ?_
      simp -dsimp
      first
        | refine CallG.by (g4) ?_
        | refine CallGE.by (g4) ?_
        | refine CallGB.by (g4) ?_
      simp -dsimp
      first
        | refine CallG.by (g5) ?_
        | refine CallGE.by (g5) ?_
        | refine CallGB.by (g5) ?_
      simp -dsimp
      first
        | refine CallG.by (g6) ?_
        | refine CallGE.by (g6) ?_
        | refine CallGB.by (g6) ?_
      simp -dsimp [k2]
      refine LoopP_next 2 (le_of (by simp) (by simp [zFR])) (by omega) (by omega)
    · simp -dsimp
      first
        | refine CallG.by (ha) ?_
        | refine CallGE.by (ha) ?_
        | refine CallGB.by (ha) ?_
      simp -dsimp
      refine retP_c ?_
      simp -dsimp
end Go.Proofs.YtpcmmjmoiplhjaaGreatDoor
