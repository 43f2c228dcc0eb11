import Derived.Test.YtnikonhkbldnnaaGreatDoorLW15
/- LW16: sums as the reference of Fractions makes them: node by node, with a test. Plain. -/
set_option linter.unusedVariables false
set_option linter.unusedSimpArgs false
namespace Go.Proofs.YtnikonhkbldnnaaGreatDoor
theorem nd_full {n : Nat} (hn : n ≤ 12) : ndN (2 ^ n - 1) = List.range n := by
  rw [← nd_filter hn (full_lt n)]
  refine List.filter_eq_self.2 fun k hk => ?_
  rw [Nat.testBit_two_pow_sub_one]
  exact decide_eq_true (List.mem_range.1 hk)
/-- The sum so far: nodes below k that stand in a set. -/
def sumTo (s : Nat) (f : Nat → Nat × Nat) (k : Nat) : Nat × Nat := frSum (((List.range k).filter s.testBit).map f)
theorem sumTo_zero (s : Nat) (f : Nat → Nat × Nat) : sumTo s f 0 = (0, 1) := rfl
theorem sumTo_next (s : Nat) (f : Nat → Nat × Nat) (k : Nat) : sumTo s f (k + 1) = if s.testBit k then frAdd (sumTo s f k) (f k) else sumTo s f k := by
  unfold sumTo frSum
  rw [List.range_succ, List.filter_append, List.map_append, List.foldl_append]
  cases h : s.testBit k <;> simp [h]
theorem sumTo_end {s n : Nat} (hn : n ≤ 12) (hs : s < 2 ^ n) (f : Nat → Nat × Nat) : sumTo s f n = frSum ((ndN s).map f) := by
  unfold sumTo
  rw [nd_filter hn hs]
theorem sumTo_B (s : Nat) (f : Nat → Nat × Nat) : ∀ k : Nat, (∀ i, i < k → FrOk (f i)) → FrB k (sumTo s f k)
  | 0, _ => frB_zero
  | k + 1, h => by
    have ih := sumTo_B s f k fun i hi => h i (by omega)
    rw [sumTo_next]
    split
    · exact frB_add ih (h k (by omega))
    · refine ⟨ih.pos, Nat.le_trans ih.den (Nat.pow_le_pow_right (by decide) (by omega)), Nat.le_trans ih.num (Nat.mul_le_mul_right _ (by omega))⟩
/-- The sum of all. -/
def sumAll (f : Nat → Nat × Nat) (k : Nat) : Nat × Nat := frSum ((List.range k).map f)
theorem sumAll_next (f : Nat → Nat × Nat) (k : Nat) : sumAll f (k + 1) = frAdd (sumAll f k) (f k) := by
  unfold sumAll frSum
  rw [List.range_succ, List.map_append, List.foldl_append]
  rfl
theorem sumAll_B (f : Nat → Nat × Nat) : ∀ k : Nat, (∀ i, i < k → FrOk (f i)) → FrB k (sumAll f k)
  | 0, _ => frB_zero
  | k + 1, h => by
    rw [sumAll_next]
    exact frB_add (sumAll_B f k fun i hi => h i (by omega)) (h k (by omega))
theorem sumAll_end {n : Nat} (hn : n ≤ 12) (f : Nat → Nat × Nat) : sumAll f n = frSum ((ndN (2 ^ n - 1)).map f) := by
  rw [nd_full hn]
  rfl
end Go.Proofs.YtnikonhkbldnnaaGreatDoor
