import Derived.Test.YtnikonhkbldnnaaDoorLB40
/- LB41: variable of the parser. -/
set_option linter.unusedVariables false
set_option linter.unusedSimpArgs false
set_option maxRecDepth 20000
namespace Go.Proofs.YtnikonhkbldnnaaDoor
open Go Go.PS
attribute [-simp] isKeyK List.map_take
theorem variY (x : Nat) (hx : x < 4) (r : List UInt8) (h : r.length < 100000) : ECall Tryd.prog 69 [.ptr 1000000 0] (pM (ltr x :: r)) (pI x) (pM r) := by
  have hY := takeY (ltr x) r (by omega)
  have hN : ∀ i, i < x → ECall Tryd.prog 67 [.ptr 1000000 0, .t .fz (sV [ltr i])] (pM (ltr x :: r)) (pB false) (pM (ltr x :: r)) := fun i hi =>
    takeN (ltr i) (ltr x :: r) (by simp; omega) (by
      rw [pTk, if_neg]
      intro e
      have := ltr_inj hx (by omega) e
      omega)
  unfold pM at *
  refine ecall_wp Tryd.func69 rfl (by kernel_rfl) ?_
  simp -dsimp
  refine wk_loop (fun i : Nat => ⟨[(0, .ptr 1000000 0), (4, pI i)], [(1000000, .blk 99 [.t .fz (sV (ltr x :: r))])]⟩) (fun i => i ≤ x) (fun i => x - i) 0 (le_of (by simp) (by simp)) (by simp) fun i hi => ?_
  have hl := letter_spec i (by omega)
  have hi4 : (i : Int) < 4 := by omega
  have wi := wr (n := (i : Int) + 1) (by omega) (by omega)
  by_cases e : i = x
  · subst e
    simp -dsimp [hi4]
    first
      | refine CallG.by (hl) ?_
      | refine CallGE.by (hl) ?_
      | refine CallGB.by (hl) ?_
    simp -dsimp
    first
      | refine CallG.on (g := [(1000000, 1000000)]) (hY) (by decide) (by simp) (by simp) (by simp [Sg.bk]) ?_
      | refine CallN.on (g := [(1000000, 1000000)]) (hY) (by decide) (by simp) (by simp) (by simp [Sg.bk]) ?_
      | refine CallGB.on (g := [(1000000, 1000000)]) (hY) (by decide) (by simp) (by simp) (by simp [Sg.bk]) ?_
    simp -dsimp
    refine retE_c (by simp -dsimp) (by simp)
  · have ht := hN i (by omega)
    simp -dsimp [hi4]
    first
      | refine CallG.by (hl) ?_
      | refine CallGE.by (hl) ?_
      | refine CallGB.by (hl) ?_
    simp -dsimp
    first
      | refine CallG.on (g := [(1000000, 1000000)]) (ht) (by decide) (by simp) (by simp) (by simp [Sg.bk]) ?_
      | refine CallN.on (g := [(1000000, 1000000)]) (ht) (by decide) (by simp) (by simp) (by simp [Sg.bk]) ?_
      | refine CallGB.on (g := [(1000000, 1000000)]) (ht) (by decide) (by simp) (by simp) (by simp [Sg.bk]) ?_
    simp -dsimp
    refine LoopP_next (i + 1) (le_of (by simp [wi]) (by simp)) (by omega) (by omega)
theorem variN (s : List UInt8) (h : s.length ≤ 100000) (hn : pVar s = none) : XPan Tryd.prog 69 [.ptr 1000000 0] (pM s) wrC (pM s) := by
  have hk : ∀ i, i < 4 → pTk (ltr i) s = none := fun i hi => by
    cases hp : pTk (ltr i) s with
    | none => rfl
    | some r =>
      rw [pTk_some.1 hp, pVar_cons hi] at hn
      cases hn
  have hN : ∀ i, i < 4 → ECall Tryd.prog 67 [.ptr 1000000 0, .t .fz (sV [ltr i])] (pM s) (pB false) (pM s) := fun i hi => takeN (ltr i) s h (hk i hi)
  unfold pM at *
  refine xpan_of Tryd.func69 rfl (by kernel_rfl) (wpkS_sound [7] _ _ _ ?_)
  simp -dsimp
  refine wk_loopS [7] (fun i : Nat => ⟨[(0, .ptr 1000000 0), (4, pI i)], [(1000000, .blk 99 [.t .fz (sV s)])]⟩) (fun i => i ≤ 4) (fun i => 4 - i) 0 (le_of (by simp) (by simp)) (by simp) fun i hi => ?_
  have wi := wr (n := (i : Int) + 1) (by omega) (by omega)
  by_cases e : i = 4
  · subst e
    simp -dsimp
    refine cw_raise0 undW (by simp) rfl rfl rfl rfl rfl rfl rfl rfl rfl (by decide) (by decide) (endx_c fun q hq => ?_)
    simp at hq
    subst hq
    left
    rfl
  · have ht := hN i (by omega)
    have hl := letter_spec i (by omega)
    have hi4 : (i : Int) < 4 := by omega
    simp -dsimp [hi4]
    first
      | refine CallG.by (hl) ?_
      | refine CallGE.by (hl) ?_
      | refine CallGB.by (hl) ?_
    simp -dsimp
    first
      | refine CallG.on (g := [(1000000, 1000000)]) (ht) (by decide) (by simp) (by simp) (by simp [Sg.bk]) ?_
      | refine CallN.on (g := [(1000000, 1000000)]) (ht) (by decide) (by simp) (by simp) (by simp [Sg.bk]) ?_
      | refine CallGB.on (g := [(1000000, 1000000)]) (ht) (by decide) (by simp) (by simp) (by simp [Sg.bk]) ?_
    simp -dsimp
    refine LoopP_next (i + 1) (le_of (by simp [wi]) (by simp)) (by omega) (by omega)
end Go.Proofs.YtnikonhkbldnnaaDoor
