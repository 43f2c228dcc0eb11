import Derived.Test.YtmneioafbkknhaaPB22
/- PB25: sorted rows; the reference's rows. -/
set_option linter.unusedVariables false
set_option linter.unusedSimpArgs false
set_option maxRecDepth 20000
namespace Go.Proofs.Ytmneioafbkknhaa
open Go Go.PS
attribute [-simp] List.map_take
theorem clone_own (xs : List Int) (hx : xs ≠ []) (hb : xs.length * 8 ≤ 140737488355328) : PCall Try.prog 73 [eIs xs] (.osl 0) [(0, .row 3 1 .ro (xs.map cI))] := by
  refine pcall_any 0 rfl call73 (fun h => ?_) ?_
  · simp at h
    exact absurd h hx
  · refine pcall_wp _ Try.func73 rfl (by kernel_rfl) rfl ?_
    simp -dsimp [hb]
    exact retP_own 5 (by simp; rfl) (by simp) (by simp) (by simp) (by simp)
def sortI (xs : List Int) : List Int := xs.mergeSort fun a b => decide (a ≤ b)
/-- The rows of a set. -/
def bitsL (set : Nat) (k : Nat) : List Int := ((List.range k).filter set.testBit).map fun x : Nat => (x : Int)
theorem bitsL_succ (set k : Nat) : bitsL set (k + 1) = bitsL set k ++ if set.testBit k then [(k : Int)] else [] := by
  rw [bitsL, List.range_succ, List.filter_append, List.map_append]
  congr 1
  simp only [List.filter_cons, List.filter_nil]
  split <;> rfl
theorem bitsL_len (set k : Nat) : (bitsL set k).length ≤ k := by
  rw [bitsL, List.length_map]
  exact Nat.le_trans (List.length_filter_le _ _) (by simp)
theorem rows_spec (set : Nat) (hs : set < 256) : PCall Try.prog 85 [eI set] (.t .fz (eIs (bitsL set 8))) [] := by
  refine pcall_wp _ Try.func85 rfl (by kernel_rfl) rfl ?_
  simp -dsimp
  refine lg_adoptT 3 3 3 1 (by simp; rfl) (by simp) ?_
  refine wk_loop (fun i : Nat => ⟨[(5, pI i), (3, .osl 3), (0, .t .ro (eI set))], [(3, .row 3 1 .fz ((bitsL set i).map cI))]⟩) (fun i => i ≤ 8) (fun i => 8 - i) 0
    (le_of (by simp) (by simp [bitsL])) (by simp) fun i hi => ?_
  simp -dsimp
  refine condX_dec (fun h => ?_) (fun h => ?_)
  rotate_left
  · have : i = 8 := by omega
    subst this
    simp -dsimp
    refine retP_c ?_
    simp -dsimp
  have hw := wr (n := (i : Int) + 1) (by omega) (by omega)
  have ha := and1 set (by omega) i (by omega)
  have hb : ((bitsL set i).length + 1) * 8 ≤ 140737488355328 := by
    have := bitsL_len set i
    omega
  have hi0 : (0 : Int) ≤ i := by omega
  have hsu := bitsL_succ set i
  cases ht : set.testBit i with
  | true =>
    rw [ht] at ha hsu
    simp -dsimp [h, ha]
    simp -dsimp [hb, hw]
    refine LoopP_next (i + 1) (le_of (by simp) (by simp [hsu])) (by omega) (by omega)
  | false =>
    rw [ht] at ha hsu
    simp -dsimp [h, ha]
    simp -dsimp [hw]
    refine LoopP_next (i + 1) (le_of (by simp) (by simp [hsu])) (by omega) (by omega)
end Go.Proofs.Ytmneioafbkknhaa
