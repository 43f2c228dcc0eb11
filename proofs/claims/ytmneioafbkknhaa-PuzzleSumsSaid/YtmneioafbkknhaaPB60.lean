import Derived.Test.YtmneioafbkknhaaPC2
/- PB60: the law of Sums, walked. -/
set_option linter.unusedVariables false
set_option linter.unusedSimpArgs false
set_option maxRecDepth 20000
namespace Go.Proofs.Ytmneioafbkknhaa
open Go Go.PS
attribute [-simp] List.map_take
theorem pow_and : (List.range 9).all (fun j => andI ((2 ^ j : Nat) : Int) (((2 ^ j : Nat) : Int) - 1) == 0) = true := by kernel_rfl
theorem sums_true (p : Pz) (l : List Ln) : PCall Try.prog 17 [ePz p, eLns l] (pB true) [] := by
  have hgt := good_trim p
  refine pcall_wp _ Try.func17 rfl (by kernel_rfl) rfl ?_
  simp -dsimp
  first
    | refine CallG.by (of_spec p) ?_
    | refine CallGE.by (of_spec p) ?_
    | refine CallGB.by (of_spec p) ?_
  simp -dsimp
  first
    | refine CallG.by (class_spec (trimP p)) ?_
    | refine CallGE.by (class_spec (trimP p)) ?_
    | refine CallGB.by (class_spec (trimP p)) ?_
  cases hg : goodP p with
  | false =>
    rw [hg] at hgt
    have hsv := solve_bad' hgt.symm
    have e3 : countF (trimP p) = .tup [eI 0, eI 2] := by rw [countF, ← hgt]; rfl
    rw [clsT, ← hgt, if_neg (by simp)]
    simp -dsimp
    first
      | refine CallG.by (of_spec p) ?_
      | refine CallGE.by (of_spec p) ?_
      | refine CallGB.by (of_spec p) ?_
    simp -dsimp
    first
      | refine CallG.by (podd_bad (trimP p) hgt.symm) ?_
      | refine CallGE.by (podd_bad (trimP p) hgt.symm) ?_
      | refine CallGB.by (podd_bad (trimP p) hgt.symm) ?_
    simp -dsimp
    first
      | refine CallG.by (of_spec p) ?_
      | refine CallGE.by (of_spec p) ?_
      | refine CallGB.by (of_spec p) ?_
    simp -dsimp
    first
      | refine CallG.by (count_spec (trimP p)) ?_
      | refine CallGE.by (count_spec (trimP p)) ?_
      | refine CallGB.by (count_spec (trimP p)) ?_
    rw [e3]
    simp -dsimp
    first
      | refine CallG.by (of_spec p) ?_
      | refine CallGE.by (of_spec p) ?_
      | refine CallGB.by (of_spec p) ?_
    simp -dsimp
    first
      | refine CallG.by (psolve_spec (trimP p)) ?_
      | refine CallGE.by (psolve_spec (trimP p)) ?_
      | refine CallGB.by (psolve_spec (trimP p)) ?_
    rw [hsv]
    simp -dsimp
    first
      | refine CallG.by (of_spec p) ?_
      | refine CallGE.by (of_spec p) ?_
      | refine CallGB.by (of_spec p) ?_
    simp -dsimp
    first
      | refine CallG.by (lines_spec l) ?_
      | refine CallGE.by (lines_spec l) ?_
      | refine CallGB.by (lines_spec l) ?_
    simp -dsimp
    first
      | refine CallG.by (checkOdd_bad (trimP p) (l.take 42) hgt.symm) ?_
      | refine CallGE.by (checkOdd_bad (trimP p) (l.take 42) hgt.symm) ?_
      | refine CallGB.by (checkOdd_bad (trimP p) (l.take 42) hgt.symm) ?_
    simp -dsimp
    first
      | refine CallG.by (awake_spec) ?_
      | refine CallGE.by (awake_spec) ?_
      | refine CallGB.by (awake_spec) ?_
    simp -dsimp
    refine retP_c ?_
    simp -dsimp
  | true =>
    have hv := vars_le hg
    have hC : clsT p = .tup [eI (classF p 6), eI 0] := by rw [clsT, hg, if_pos rfl]
    rw [trim_of hg, hC]
    obtain ⟨_, _, _, kb⟩ := cls_bits p
    have kb5 := kb 5 (by omega)
    have hc := checkOdd_spec p (l.take 42) hg
    rw [odd_take] at hc
    have e3 : countF p = .tup [eI (allS p).length, eI 0] := by rw [countF, hg]; rfl
    have hsF : solveF p = (match allS p with
      | [] => .tup [eI 0, eI 4]
      | s :: _ => .tup [eI s, eI 0]) := by
      rw [solveF, hg, if_pos rfl]
      rfl
    have hnone : ∀ L, oddF p L = true → allS p = [] := fun L hL => by
      cases hA : allS p with
      | nil => rfl
      | cons s t =>
        have hm : s ∈ allS p := by rw [hA]; simp
        obtain ⟨k, rfl, _⟩ := allS_nat hm
        exact (oddF_none hg hL fun l hl => sol_line hg hm hl).elim
    have hO := podd_spec p hg
    simp -dsimp
    first
      | refine CallG.by (of_spec p) ?_
      | refine CallGE.by (of_spec p) ?_
      | refine CallGB.by (of_spec p) ?_
    rw [trim_of hg]
    simp -dsimp
    first
      | refine CallG.onP (g := [(600, 12)]) hO (by decide) (by simp) (by simp) (by simp [Sg.bk]) fun r M' hP => ?_
      | refine CallN.onP (g := [(600, 12)]) hO (by decide) (by simp) (by simp) (by simp [Sg.bk]) fun r M' hP => ?_
    rcases hP with ⟨out, rfl, rfl, hodd⟩ | ⟨rfl, rfl, s, hs, hsL⟩
    · have hA := hnone out hodd
      have hco := checkOdd_spec p out hg
      have hz1 : IntKind.i64.wrap (-1) = -1 := by decide
      have hz2 : andI 0 (-1) = 0 := by decide
      rw [hodd] at hco
      rw [hA] at e3 hsF
      simp -dsimp
      first
        | refine CallG.by (of_spec p) ?_
        | refine CallGE.by (of_spec p) ?_
        | refine CallGB.by (of_spec p) ?_
      rw [trim_of hg]
      simp -dsimp
      first
        | refine CallG.by (count_spec p) ?_
        | refine CallGE.by (count_spec p) ?_
        | refine CallGB.by (count_spec p) ?_
      rw [e3]
      simp -dsimp
      first
        | refine CallG.by (of_spec p) ?_
        | refine CallGE.by (of_spec p) ?_
        | refine CallGB.by (of_spec p) ?_
      rw [trim_of hg]
      simp -dsimp
      first
        | refine CallG.by (psolve_spec p) ?_
        | refine CallGE.by (psolve_spec p) ?_
        | refine CallGB.by (psolve_spec p) ?_
      rw [hsF]
      simp -dsimp
      first
        | refine CallG.by (of_spec p) ?_
        | refine CallGE.by (of_spec p) ?_
        | refine CallGB.by (of_spec p) ?_
      rw [trim_of hg]
      simp -dsimp
      first
        | refine CallG.by (lines_spec l) ?_
        | refine CallGE.by (lines_spec l) ?_
        | refine CallGB.by (lines_spec l) ?_
      simp -dsimp
      first
        | refine CallG.by (hc) ?_
        | refine CallGE.by (hc) ?_
        | refine CallGB.by (hc) ?_
      cases oddF p l with
      | true =>
        simp -dsimp
        first
          | refine CallG.by (of_spec p) ?_
          | refine CallGE.by (of_spec p) ?_
          | refine CallGB.by (of_spec p) ?_
        rw [trim_of hg]
        simp -dsimp
        first
          | refine CallG.by (hco) ?_
          | refine CallGE.by (hco) ?_
          | refine CallGB.by (hco) ?_
        simp -dsimp
        cases hK : keepA p 5 with
        | true =>
          rw [hK] at kb5
          simp -dsimp [kb5, eb, hz1, hz2]
          first
            | refine CallG.by (awake_spec) ?_
            | refine CallGE.by (awake_spec) ?_
            | refine CallGB.by (awake_spec) ?_
          simp -dsimp
          refine retP_c ?_
          simp -dsimp
        | false =>
          rw [hK] at kb5
          simp -dsimp [kb5, eb]
          first
            | refine CallG.by (awake_spec) ?_
            | refine CallGE.by (awake_spec) ?_
            | refine CallGB.by (awake_spec) ?_
          simp -dsimp
          refine retP_c ?_
          simp -dsimp
      | false =>
        simp -dsimp
        first
          | refine CallG.by (of_spec p) ?_
          | refine CallGE.by (of_spec p) ?_
          | refine CallGB.by (of_spec p) ?_
        rw [trim_of hg]
        simp -dsimp
        first
          | refine CallG.by (hco) ?_
          | refine CallGE.by (hco) ?_
          | refine CallGB.by (hco) ?_
        simp -dsimp
        cases hK : keepA p 5 with
        | true =>
          rw [hK] at kb5
          simp -dsimp [kb5, eb, hz1, hz2]
          first
            | refine CallG.by (awake_spec) ?_
            | refine CallGE.by (awake_spec) ?_
            | refine CallGB.by (awake_spec) ?_
          simp -dsimp
          refine retP_c ?_
          simp -dsimp
        | false =>
          rw [hK] at kb5
          simp -dsimp [kb5, eb]
          first
            | refine CallG.by (awake_spec) ?_
            | refine CallGE.by (awake_spec) ?_
            | refine CallGB.by (awake_spec) ?_
          simp -dsimp
          refine retP_c ?_
          simp -dsimp
    · cases hA : allS p with
      | nil =>
        have hk5 : keepA p 5 = false := by
          cases h : keepA p 5 with
          | false => rfl
          | true =>
            have := line_sol hg h hs hsL
            rw [hA] at this
            cases this
        rw [hk5] at kb5
        rw [hA] at e3 hsF
        simp -dsimp
        first
          | refine CallG.by (of_spec p) ?_
          | refine CallGE.by (of_spec p) ?_
          | refine CallGB.by (of_spec p) ?_
        rw [trim_of hg]
        simp -dsimp
        first
          | refine CallG.by (count_spec p) ?_
          | refine CallGE.by (count_spec p) ?_
          | refine CallGB.by (count_spec p) ?_
        rw [e3]
        simp -dsimp
        first
          | refine CallG.by (of_spec p) ?_
          | refine CallGE.by (of_spec p) ?_
          | refine CallGB.by (of_spec p) ?_
        rw [trim_of hg]
        simp -dsimp
        first
          | refine CallG.by (psolve_spec p) ?_
          | refine CallGE.by (psolve_spec p) ?_
          | refine CallGB.by (psolve_spec p) ?_
        rw [hsF]
        simp -dsimp
        first
          | refine CallG.by (of_spec p) ?_
          | refine CallGE.by (of_spec p) ?_
          | refine CallGB.by (of_spec p) ?_
        rw [trim_of hg]
        simp -dsimp
        first
          | refine CallG.by (lines_spec l) ?_
          | refine CallGE.by (lines_spec l) ?_
          | refine CallGB.by (lines_spec l) ?_
        simp -dsimp
        first
          | refine CallG.by (hc) ?_
          | refine CallGE.by (hc) ?_
          | refine CallGB.by (hc) ?_
        cases oddF p l with
        | true =>
          simp -dsimp [kb5, eb]
          first
            | refine CallG.by (awake_spec) ?_
            | refine CallGE.by (awake_spec) ?_
            | refine CallGB.by (awake_spec) ?_
          simp -dsimp
          refine retP_c ?_
          simp -dsimp
        | false =>
          simp -dsimp [kb5, eb]
          first
            | refine CallG.by (awake_spec) ?_
            | refine CallGE.by (awake_spec) ?_
            | refine CallGB.by (awake_spec) ?_
          simp -dsimp
          refine retP_c ?_
          simp -dsimp
      | cons s0 t =>
        have hol : oddF p l = false := by
          cases h : oddF p l with
          | false => rfl
          | true =>
            have := hnone l h
            rw [hA] at this
            cases this
        rw [hA] at hsF
        obtain ⟨n, hn⟩ : ∃ n, (allS p).length = n := ⟨_, rfl⟩
        have hn0 : 0 < n := by rw [← hn, hA]; simp
        rw [hn] at e3
        rw [hol] at hc
        simp -dsimp
        first
          | refine CallG.by (of_spec p) ?_
          | refine CallGE.by (of_spec p) ?_
          | refine CallGB.by (of_spec p) ?_
        rw [trim_of hg]
        simp -dsimp
        first
          | refine CallG.by (count_spec p) ?_
          | refine CallGE.by (count_spec p) ?_
          | refine CallGB.by (count_spec p) ?_
        rw [e3]
        simp -dsimp
        first
          | refine CallG.by (of_spec p) ?_
          | refine CallGE.by (of_spec p) ?_
          | refine CallGB.by (of_spec p) ?_
        rw [trim_of hg]
        simp -dsimp
        first
          | refine CallG.by (psolve_spec p) ?_
          | refine CallGE.by (psolve_spec p) ?_
          | refine CallGB.by (psolve_spec p) ?_
        rw [hsF]
        simp -dsimp
        first
          | refine CallG.by (of_spec p) ?_
          | refine CallGE.by (of_spec p) ?_
          | refine CallGB.by (of_spec p) ?_
        rw [trim_of hg]
        simp -dsimp
        first
          | refine CallG.by (lines_spec l) ?_
          | refine CallGE.by (lines_spec l) ?_
          | refine CallGB.by (lines_spec l) ?_
        simp -dsimp
        first
          | refine CallG.by (hc) ?_
          | refine CallGE.by (hc) ?_
          | refine CallGB.by (hc) ?_
        simp -dsimp [hn0]
        cases hK : keepA p 5 with
        | false =>
          rw [hK] at kb5
          simp -dsimp [kb5, eb]
          first
            | refine CallG.by (awake_spec) ?_
            | refine CallGE.by (awake_spec) ?_
            | refine CallGB.by (awake_spec) ?_
          simp -dsimp
          refine retP_c ?_
          simp -dsimp
        | true =>
          obtain ⟨j, hj, hnj⟩ : ∃ j, j ≤ 8 ∧ n = 2 ^ j := by
            rcases sols_pow hg hK with h | ⟨j, hj, h⟩
            · omega
            · exact ⟨j, hj, by rw [← hn, h]⟩
          have hpw := List.all_eq_true.1 pow_and j (List.mem_range.2 (by omega))
          rw [beq_iff_eq, ← hnj] at hpw
          have hp8 : 2 ^ j ≤ 2 ^ 8 := Nat.pow_le_pow_right (by decide) hj
          have hwn : IntKind.i64.wrap ((n : Int) - 1) = (n : Int) - 1 := wr (by omega) (by omega)
          rw [hK] at kb5
          simp -dsimp [kb5, eb, hwn, hpw]
          first
            | refine CallG.by (awake_spec) ?_
            | refine CallGE.by (awake_spec) ?_
            | refine CallGB.by (awake_spec) ?_
          simp -dsimp
          refine retP_c ?_
          simp -dsimp
end Go.Proofs.Ytmneioafbkknhaa
