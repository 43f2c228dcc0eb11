import Derived.Test.YtnikonhkbldnnaaGreatDoorLBB
/- LR1: the reference's valid graphs; what the laws share: copies, two, nodes, awake. -/
set_option linter.unusedVariables false
set_option linter.unusedSimpArgs false
set_option maxRecDepth 20000
namespace Go.Proofs.YtnikonhkbldnnaaGreatDoor
open Go Go.PS
attribute [-simp] isKeyK List.map_take
theorem isg_spec (g : List Int) : PCall Tryz.prog 80 [eIs g, eI 6] (pB (isgB g)) [] := by
  refine pcall_sl 0 rfl call80 fun hlen => ?_
  simp only [List.length_map] at hlen
  refine pcall_wp _ Tryz.func80 rfl (by kernel_rfl) rfl ?_
  have hF : isgB g = (decide (1 ≤ g.length ∧ g.length ≤ 6) && graphB g) := rfl
  by_cases h0 : g.length = 0
  · have hF0 : isgB g = false := by rw [hF, decide_eq_false (by omega)]; rfl
    have e : g = [] := List.eq_nil_of_length_eq_zero h0
    subst e
    simp -dsimp
    refine wk_loop (fun i : Unit => ⟨[(10, pI 0), (9, pI 0), (8, .t .ro (eIs [])), (0, .t .ro (eIs [])), (1, .t .ro (eI 6))], []⟩)
      (fun _ => True) (fun _ => 0) () (le_of (by simp) (by simp)) trivial fun _ _ => ?_
    simp -dsimp
    refine retP_c ?_
    simp -dsimp [hF0]
  by_cases h6 : 6 < g.length
  · have hF0 : isgB g = false := by rw [hF, decide_eq_false (by omega)]; rfl
    have h6' : (6 : Int) < g.length := by omega
    have hx := at_ (l := g) (i := 0) (by omega)
    have hil : (0 : Int) < g.length := by omega
    generalize g.getD 0 0 = x at hx
    simp -dsimp
    refine wk_loop (fun i : Unit => ⟨[(10, pI 0), (9, pI g.length), (8, .t .ro (eIs g)), (0, .t .ro (eIs g)), (1, .t .ro (eI 6))], []⟩)
      (fun _ => True) (fun _ => 0) () (le_of (by simp) (by simp)) trivial fun _ _ => ?_
    have hpos : 0 < g.length := by omega
    simp -dsimp [hpos, hil, hx, h6']
    refine retP_c ?_
    simp -dsimp [hF0]
  have hbad : ∀ i, i < g.length → rowB g i = false → isgB g = false := fun i hi h => by
    rw [hF]
    have : graphB g = false := by
      rw [graphB, List.all_eq_false]
      exact ⟨i, List.mem_range.2 hi, by rw [h]; simp⟩
    rw [this, Bool.and_false]
  have hs := shl1 g.length (by omega)
  have hN : 2 ^ g.length ≤ 2 ^ 6 := Nat.pow_le_pow_right (by decide) (by omega)
  obtain ⟨N, hNe⟩ : ∃ N, N = 2 ^ g.length := ⟨_, rfl⟩
  rw [← hNe] at hs hN
  have h6' : ¬ (6 : Int) < g.length := by omega
  simp -dsimp
  refine wk_loop (fun i : Nat => ⟨[(10, pI i), (9, pI g.length), (8, .t .ro (eIs g)), (0, .t .ro (eIs g)), (1, .t .ro (eI 6))], []⟩)
    (fun i => i ≤ g.length ∧ ∀ k, k < i → rowB g k = true) (fun i => g.length - i) 0
    (le_of (by simp) (by simp)) ⟨by omega, fun k h => by omega⟩ fun i ⟨hi, hr⟩ => ?_
  simp -dsimp
  refine condX_dec (fun h => ?_) (fun h => ?_)
  · have hw := wr (n := (i : Int) + 1) (by omega) (by omega)
    have hx := at_ (l := g) (i := i) h
    have hA : rowA g i = !(decide (g.getD i 0 < 0) || (decide ((N : Int) ≤ g.getD i 0) || andI (shrI (g.getD i 0) i) 1 == 1)) := by rw [hNe]; rfl
    have hi0 : (0 : Int) ≤ i := by omega
    have hil : (i : Int) < g.length := by omega
    generalize hgx : g.getD i 0 = x at hx hA
    cases hb : rowA g i with
    | false =>
      have hF := hbad i h (by rw [rowB, hb]; rfl)
      rw [hb] at hA
      by_cases c1 : x < 0
      · simp -dsimp [hi0, hil, hx, c1, hs, h6']
        refine retP_c ?_
        simp -dsimp [hF]
      by_cases c2 : (N : Int) ≤ x
      · simp -dsimp [hi0, hil, hx, c1, c2, hs, h6']
        refine retP_c ?_
        simp -dsimp [hF]
      have c3 : (andI (shrI x i) 1 == 1) = true := by simpa [c1, c2] using hA
      simp -dsimp [hi0, hil, hx, c1, c2, c3, hs, h6']
      refine retP_c ?_
      simp -dsimp [hF]
    | true =>
      rw [hb] at hA
      have c1 : ¬ x < 0 := by
        intro e
        simp [e] at hA
      have c2 : ¬ (N : Int) ≤ x := by
        intro e
        simp [e] at hA
      have c3 : (andI (shrI x i) 1 == 1) = false := by simpa [c1, c2] using hA
      simp -dsimp [hi0, hil, hx, c1, c2, c3, hs, h6']
      refine wk_loop (fun j : Nat => ⟨[(39, pI j), (38, pI g.length), (5, pI i), (6, .t .ro (eI x)), (10, pI i), (9, pI g.length), (8, .t .ro (eIs g)), (0, .t .ro (eIs g)), (1, .t .ro (eI 6))], []⟩)
        (fun j => j ≤ g.length ∧ ∀ k, k < j → cellB g i k = true) (fun j => g.length - j) 0
        (le_of (by simp) (by simp)) ⟨by omega, fun k h => by omega⟩ fun j ⟨hj, hrj⟩ => ?_
      simp -dsimp
      refine condX_dec (fun h' => ?_) (fun h' => ?_)
      · have hw' := wr (n := (j : Int) + 1) (by omega) (by omega)
        have hy := at_ (l := g) (i := j) h'
        have hj0 : (0 : Int) ≤ j := by omega
        have hjl : (j : Int) < g.length := by omega
        have hC : cellB g i j = (andI (shrI x j) 1 == andI (shrI (g.getD j 0) i) 1) := by rw [cellB, hgx]
        generalize g.getD j 0 = y at hy hC
        simp -dsimp
        refine wk_draw 11 [] mixed (by kernel_rfl) ?_
        cases hc : cellB g i j with
        | false =>
          have hF := hbad i h (by
            rw [rowB, hb, Bool.true_and, Bool.eq_false_iff]
            intro e
            rw [List.all_eq_true.1 e j (List.mem_range.2 h')] at hc
            cases hc)
          have hne : (andI (shrI x j) 1 != andI (shrI y i) 1) = true := by rw [bne, ← hC, hc]; rfl
          simp -dsimp [hi0, hil, hj0, hjl, hy, hne]
          refine retP_c ?_
          simp -dsimp [hF]
        | true =>
          have hne : (andI (shrI x j) 1 != andI (shrI y i) 1) = false := by rw [bne, ← hC, hc]; rfl
          simp -dsimp [hi0, hil, hj0, hjl, hy, hne]
          refine LoopP_next (j + 1) (le_of (by simp [hw']) (by simp)) ⟨h', fun k hk => ?_⟩ (by omega)
          rcases Nat.lt_or_ge k j with h5 | h5
          · exact hrj k h5
          · rwa [show k = j by omega]
      · have hj' : j = g.length := by omega
        have hrow : rowB g i = true := by
          rw [rowB, hb, Bool.true_and, List.all_eq_true]
          intro k hk
          exact hrj k (by rw [hj']; exact List.mem_range.1 hk)
        simp -dsimp
        refine LoopP_next (i + 1) (le_of (by simp [hw]) (by simp)) ⟨h, fun k hk => ?_⟩ (by omega)
        rcases Nat.lt_or_ge k i with h5 | h5
        · exact hr k h5
        · rwa [show k = i by omega]
  · have hi' : i = g.length := by omega
    have hg : graphB g = true := List.all_eq_true.2 fun k hk => hr k (by rw [hi']; exact List.mem_range.1 hk)
    have hF1 : isgB g = true := by rw [hF, hg, decide_eq_true (by omega)]; rfl
    have h1 : (1 : Int) ≤ g.length := by omega
    have h6'' : (g.length : Int) ≤ 6 := by omega
    simp -dsimp [h1, h6'']
    refine retP_c ?_
    simp -dsimp [hF1]
/-- A step of the reference's way is a step of the program's. -/
theorem few_spec (xs : List Int) : PCall Tryz.prog 9 [eIs xs] (.t .ro (eIs (xs.take 10))) [] := by
  refine pcall_sl 0 rfl call9 fun hlen => ?_
  simp only [List.length_map] at hlen
  refine pcall_wp _ Tryz.func9 rfl (by kernel_rfl) rfl ?_
  have hm : (if 10 < (xs.length : Int) then (10 : Int) else (xs.length : Int)) = ((min xs.length 10 : Nat) : Int) := by
    split <;> omega
  have h1 : ((min xs.length 10 : Nat) : Int) ≤ xs.length := by omega
  have h2 : (0 : Int) ≤ ((min xs.length 10 : Nat) : Int) := by omega
  have ht : List.take (min xs.length 10) (List.map cI xs) = List.map cI (xs.take 10) := by
    rw [← List.map_take]
    congr 1
    rcases Nat.le_total xs.length 10 with h | h
    · rw [Nat.min_eq_left h, List.take_of_length_le (Nat.le_refl _), List.take_of_length_le h]
    · rw [Nat.min_eq_right h]
  generalize min xs.length 10 = m at hm h1 h2 ht
  simp -dsimp [hm, h1, h2, ht]
  first
    | refine CallG.by (clone32_spec (xs.take 10) (by simp; omega)) ?_
    | refine CallGE.by (clone32_spec (xs.take 10) (by simp; omega)) ?_
    | refine CallGB.by (clone32_spec (xs.take 10) (by simp; omega)) ?_
  simp -dsimp
  refine retP_c ?_
  simp -dsimp
theorem valid_spec (g : List Int) : PCall Tryz.prog 41 [eIs g] (pB (isgB g)) [] := by
  have h := isg_spec g
  refine pcall_wp _ Tryz.func41 rfl (by kernel_rfl) rfl ?_
  simp -dsimp
  first
    | refine CallG.by (h) ?_
    | refine CallGE.by (h) ?_
    | refine CallGB.by (h) ?_
  simp -dsimp
  refine retP_c ?_
  simp -dsimp
theorem two_spec (g h : List Int) : PCall Tryz.prog 12 [eIs g, eIs h] (pB (isgB g && isgB h)) [] := by
  have h1 := valid_spec g
  have h2 := valid_spec h
  refine pcall_wp _ Tryz.func12 rfl (by kernel_rfl) rfl ?_
  cases hb : isgB g
  · rw [hb] at h1
    simp -dsimp
    first
      | refine CallG.by (h1) ?_
      | refine CallGE.by (h1) ?_
      | refine CallGB.by (h1) ?_
    simp -dsimp
    refine retP_c ?_
    simp -dsimp
  · rw [hb] at h1
    simp -dsimp
    first
      | refine CallG.by (h1) ?_
      | refine CallGE.by (h1) ?_
      | refine CallGB.by (h1) ?_
    simp -dsimp
    first
      | refine CallG.by (h2) ?_
      | refine CallGE.by (h2) ?_
      | refine CallGB.by (h2) ?_
    simp -dsimp
    refine retP_c ?_
    simp -dsimp
/-- A copy of the beginning is valid exactly if the graph is, and is it then. -/
theorem take_isg (g : List Int) : isgB (g.take 10) = isgB g ∧ (isgB g = true → g.take 10 = g) := by
  by_cases h : g.length ≤ 10
  · rw [List.take_of_length_le h]
    exact ⟨rfl, fun _ => rfl⟩
  · have h1 : isgB g = false := by
      rw [isgB, decide_eq_false (by omega), Bool.false_and]
    have h2 : isgB (g.take 10) = false := by
      rw [isgB, decide_eq_false (by simp; omega), Bool.false_and]
    rw [h1, h2]
    exact ⟨rfl, fun h => by cases h⟩
theorem awake_spec : PCall Tryz.prog 13 [] (pB true) [] := by
  refine pcall_wp _ Tryz.func13 rfl (by kernel_rfl) rfl ?_
  have h1 := win_spec [2, 1] [0, 0] 2
  have h2 := alike_spec [2, 1] [2, 1]
  have e1 : ansF [2, 1] [0, 0] 2 [] [] = .tup [eB false, eI 0] := by kernel_rfl
  have e2 : isgB [2, 1] = true := by kernel_rfl
  have e3 : likeN (townOf [2, 1]) (townOf [2, 1]) = true := iso_like (town_tow e2) (town_tow e2) (Iso.refl (town_tow e2))
  have e4 : alkF [2, 1] [2, 1] = .tup [eB true, eI 0] := by rw [alkF, e2, e3]; rfl
  rw [e1] at h1
  rw [e4] at h2
  simp -dsimp
  first
    | refine CallG.by (h1) ?_
    | refine CallGE.by (h1) ?_
    | refine CallGB.by (h1) ?_
  simp -dsimp
  first
    | refine CallG.by (h2) ?_
    | refine CallGE.by (h2) ?_
    | refine CallGB.by (h2) ?_
  simp -dsimp
  refine retP_c ?_
  simp -dsimp
end Go.Proofs.YtnikonhkbldnnaaGreatDoor
