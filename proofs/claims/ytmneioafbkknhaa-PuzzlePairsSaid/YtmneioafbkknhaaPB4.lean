import Derived.Test.YtmneioafbkknhaaPB3
/- PB4: validity of a Rel. -/
set_option linter.unusedVariables false
set_option linter.unusedSimpArgs false
set_option maxRecDepth 20000
namespace Go.Proofs.Ytmneioafbkknhaa
open Go Go.PS
def goodAt (m : Int) (l : List Int) (j : Nat) : Bool := decide (0 ≤ l.getD j 0) && decide (l.getD j 0 < m) && (decide (j = 0) || decide (l.getD (j - 1) 0 < l.getD j 0))
def goodR (r : Rl) : Bool := decide (1 ≤ r.n) && decide (r.n ≤ 3) && decide (1 ≤ r.rows.length) && (List.range r.rows.length).all (goodAt (shlI 1 r.n.toNat) r.rows)
theorem goodR_false {r : Rl} (h : r.n < 1 ∨ 3 < r.n ∨ r.rows.length < 1) : goodR r = false := by
  simp only [goodR, Bool.and_eq_false_iff, decide_eq_false_iff_not]
  omega
theorem goodR_bad {r : Rl} (i : Nat) (h : i < r.rows.length) (hb : goodAt (shlI 1 r.n.toNat) r.rows i = false) : goodR r = false := by
  simp only [goodR, Bool.and_eq_false_iff]
  refine .inr ?_
  rw [List.all_eq_false]
  exact ⟨i, by simpa using h, by simpa using hb⟩
theorem goodR_true {r : Rl} (h1 : 1 ≤ r.n) (h2 : r.n ≤ 3) (h3 : 1 ≤ r.rows.length) (h : ∀ j < r.rows.length, goodAt (shlI 1 r.n.toNat) r.rows j = true) : goodR r = true := by
  simp only [goodR, h1, h2, h3, decide_true, Bool.true_and, List.all_eq_true, List.mem_range]
  exact h
theorem prel_spec (r : Rl) : PCall Try.prog 67 [eRl r] (pB (goodR r)) [] := by
  refine pcall_agg 0 1 rfl rfl call67 fun hlen => ?_
  simp only [List.length_map] at hlen
  refine pcall_wp _ Try.func67 rfl (by kernel_rfl) rfl ?_
  simp -dsimp
  refine condX_ndec (fun h1 => ?_) (fun h1 => ?_)
  rotate_left
  · simp -dsimp [h1]
    refine retP_c ?_
    simp -dsimp [goodR_false (.inl h1)]
  simp -dsimp [h1]
  refine condX_ndec (fun h2 => ?_) (fun h2 => ?_)
  rotate_left
  · simp -dsimp [h2]
    refine retP_c ?_
    simp -dsimp [goodR_false (.inr (.inl h2))]
  simp -dsimp [h2]
  refine condX_dec (fun h3 => ?_) (fun h3 => ?_)
  · have h4 : r.rows.length < 1 := by omega
    simp -dsimp [h3]
    refine retP_c ?_
    simp -dsimp [goodR_false (r := r) (.inr (.inr h4))]
  simp -dsimp [h3]
  refine wk_loop (fun i : Nat => ⟨[(22, pI i), (21, pI r.rows.length), (20, .t .ro (eIs r.rows)), (1, .ptr 1 0)], [(1, .blk 48 [PV.t Kind.ro (eI r.n), PV.t Kind.ro (eIs r.rows)])]⟩) (fun i => i ≤ r.rows.length ∧ ∀ j < i, goodAt (shlI 1 r.n.toNat) r.rows j = true) (fun i => r.rows.length - i) 0
    (le_of (by simp) (by simp)) (by simp) fun i ⟨hi, hJ⟩ => ?_
  simp -dsimp
  refine condX_dec (fun h => ?_) (fun h => ?_)
  · have hw := wr (n := (i : Int) + 1) (by omega) (by omega)
    have hn : 0 ≤ r.n := by omega
    have hg : r.rows.getD i 0 = r.rows[i] := by simp [h]
    have bad : goodAt (shlI 1 r.n.toNat) r.rows i = false → goodR r = false := goodR_bad i h
    simp only [goodAt, hg] at bad
    simp -dsimp [h]
    refine condX_ndec (fun c1 => ?_) (fun c1 => ?_)
    rotate_left
    · simp -dsimp [c1]
      refine retP_c ?_
      simp -dsimp [bad, c1, Int.not_le.2 c1]
    simp -dsimp [c1, hn]
    refine condX_ndec (fun c2 => ?_) (fun c2 => ?_)
    rotate_left
    · simp -dsimp [c2]
      refine retP_c ?_
      simp -dsimp [bad, c2, Int.not_lt.2 c2]
    simp -dsimp [c2]
    refine condX_dec (fun c3 => ?_) (fun c3 => ?_)
    · obtain ⟨j, rfl⟩ : ∃ j, i = j + 1 := ⟨i - 1, by omega⟩
      have hj : j < r.rows.length := by omega
      have hw2 := wr (n := (j : Int)) (by omega) (by omega)
      have hw3 := wr (n := (j : Int) + 1 + 1) (by omega) (by omega)
      simp only [Nat.add_sub_cancel, show r.rows.getD j 0 = r.rows[j] by simp [hj]] at bad
      have good : (decide (0 ≤ r.rows[j + 1]) && decide (r.rows[j + 1] < shlI 1 r.n.toNat) && (decide (j + 1 = 0) || decide (r.rows[j] < r.rows[j + 1]))) = goodAt (shlI 1 r.n.toNat) r.rows (j + 1) := by
        simp only [goodAt, hg, Nat.add_sub_cancel, show r.rows.getD j 0 = r.rows[j] by simp [hj]]
      simp -dsimp [c3, hw2, hj]
      refine condX_dec (fun c4 => ?_) (fun c4 => ?_)
      · simp -dsimp [c4]
        refine retP_c ?_
        simp -dsimp [bad, c4, Int.not_lt.2 c4]
      · simp -dsimp [c4, hw3]
        refine LoopP_next (j + 2) (le_of (by simp [Int.add_assoc]) (by simp)) ⟨h, fun j' hj' => ?_⟩ (by omega)
        by_cases e : j' = j + 1
        · subst e
          rw [← good]
          simp only [Bool.and_eq_true, Bool.or_eq_true, decide_eq_true_eq]
          omega
        · exact hJ j' (by omega)
    · have e0 : i = 0 := by omega
      subst e0
      have hw1 : IntKind.i64.wrap 1 = 1 := by decide
      simp -dsimp [c3, hw1]
      refine LoopP_next 1 (le_of (by simp) (by simp)) ⟨h, fun j' hj' => ?_⟩ (by omega)
      have : j' = 0 := by omega
      subst this
      simp only [goodAt, hg, Bool.and_eq_true, Bool.or_eq_true, decide_eq_true_eq]
      exact ⟨⟨by omega, by omega⟩, .inl trivial⟩
  · have : i = r.rows.length := by omega
    subst this
    simp -dsimp
    have hgood := goodR_true (r := r) (by omega) (by omega) (by omega) hJ
    refine retP_c ?_
    simp -dsimp [hgood]
theorem rrel_spec (r : Rl) : PCall Try.prog 34 [eRl r] (pB (goodR r)) [] := by
  refine pcall_agg 0 1 rfl rfl call34 fun hlen => ?_
  simp only [List.length_map] at hlen
  refine pcall_wp _ Try.func34 rfl (by kernel_rfl) rfl ?_
  simp -dsimp
  refine condX_ndec (fun h1 => ?_) (fun h1 => ?_)
  rotate_left
  · simp -dsimp [h1]
    refine retP_c ?_
    simp -dsimp [goodR_false (.inl h1)]
  simp -dsimp [h1]
  refine condX_ndec (fun h2 => ?_) (fun h2 => ?_)
  rotate_left
  · simp -dsimp [h2]
    refine retP_c ?_
    simp -dsimp [goodR_false (.inr (.inl h2))]
  simp -dsimp [h2]
  refine condX_dec (fun h3 => ?_) (fun h3 => ?_)
  · have h4 : r.rows.length < 1 := by omega
    simp -dsimp [h3]
    refine retP_c ?_
    simp -dsimp [goodR_false (r := r) (.inr (.inr h4))]
  simp -dsimp [h3]
  refine wk_loop (fun i : Nat => ⟨[(22, pI i), (21, pI r.rows.length), (20, .t .ro (eIs r.rows)), (1, .ptr 1 0)], [(1, .blk 46 [PV.t Kind.ro (eI r.n), PV.t Kind.ro (eIs r.rows)])]⟩) (fun i => i ≤ r.rows.length ∧ ∀ j < i, goodAt (shlI 1 r.n.toNat) r.rows j = true) (fun i => r.rows.length - i) 0
    (le_of (by simp) (by simp)) (by simp) fun i ⟨hi, hJ⟩ => ?_
  simp -dsimp
  refine condX_dec (fun h => ?_) (fun h => ?_)
  · have hw := wr (n := (i : Int) + 1) (by omega) (by omega)
    have hn : 0 ≤ r.n := by omega
    have hg : r.rows.getD i 0 = r.rows[i] := by simp [h]
    have bad : goodAt (shlI 1 r.n.toNat) r.rows i = false → goodR r = false := goodR_bad i h
    simp only [goodAt, hg] at bad
    simp -dsimp [h]
    refine condX_ndec (fun c1 => ?_) (fun c1 => ?_)
    rotate_left
    · simp -dsimp [c1]
      refine retP_c ?_
      simp -dsimp [bad, c1, Int.not_le.2 c1]
    simp -dsimp [c1, hn]
    refine condX_ndec (fun c2 => ?_) (fun c2 => ?_)
    rotate_left
    · simp -dsimp [c2]
      refine retP_c ?_
      simp -dsimp [bad, c2, Int.not_lt.2 c2]
    simp -dsimp [c2]
    refine condX_dec (fun c3 => ?_) (fun c3 => ?_)
    · obtain ⟨j, rfl⟩ : ∃ j, i = j + 1 := ⟨i - 1, by omega⟩
      have hj : j < r.rows.length := by omega
      have hw2 := wr (n := (j : Int)) (by omega) (by omega)
      have hw3 := wr (n := (j : Int) + 1 + 1) (by omega) (by omega)
      simp only [Nat.add_sub_cancel, show r.rows.getD j 0 = r.rows[j] by simp [hj]] at bad
      have good : (decide (0 ≤ r.rows[j + 1]) && decide (r.rows[j + 1] < shlI 1 r.n.toNat) && (decide (j + 1 = 0) || decide (r.rows[j] < r.rows[j + 1]))) = goodAt (shlI 1 r.n.toNat) r.rows (j + 1) := by
        simp only [goodAt, hg, Nat.add_sub_cancel, show r.rows.getD j 0 = r.rows[j] by simp [hj]]
      simp -dsimp [c3, hw2, hj]
      refine condX_dec (fun c4 => ?_) (fun c4 => ?_)
      · simp -dsimp [c4]
        refine retP_c ?_
        simp -dsimp [bad, c4, Int.not_lt.2 c4]
      · simp -dsimp [c4, hw3]
        refine LoopP_next (j + 2) (le_of (by simp [Int.add_assoc]) (by simp)) ⟨h, fun j' hj' => ?_⟩ (by omega)
        by_cases e : j' = j + 1
        · subst e
          rw [← good]
          simp only [Bool.and_eq_true, Bool.or_eq_true, decide_eq_true_eq]
          omega
        · exact hJ j' (by omega)
    · have e0 : i = 0 := by omega
      subst e0
      have hw1 : IntKind.i64.wrap 1 = 1 := by decide
      simp -dsimp [c3, hw1]
      refine LoopP_next 1 (le_of (by simp) (by simp)) ⟨h, fun j' hj' => ?_⟩ (by omega)
      have : j' = 0 := by omega
      subst this
      simp only [goodAt, hg, Bool.and_eq_true, Bool.or_eq_true, decide_eq_true_eq]
      exact ⟨⟨by omega, by omega⟩, .inl trivial⟩
  · have : i = r.rows.length := by omega
    subst this
    simp -dsimp
    have hgood := goodR_true (r := r) (by omega) (by omega) (by omega) hJ
    refine retP_c ?_
    simp -dsimp [hgood]
end Go.Proofs.Ytmneioafbkknhaa
