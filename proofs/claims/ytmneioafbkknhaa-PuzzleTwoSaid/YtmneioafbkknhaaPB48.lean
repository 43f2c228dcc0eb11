import Derived.Test.YtmneioafbkknhaaPB46
import Derived.Test.YtmneioafbkknhaaPB42
/- PB48: the law of Two, walked. -/
set_option linter.unusedVariables false
set_option linter.unusedSimpArgs false
set_option maxRecDepth 20000
namespace Go.Proofs.Ytmneioafbkknhaa
open Go Go.PS
attribute [-simp] List.map_take
theorem two_true (p : Pz) : PCall Try.prog 9 [ePz p] (pB true) [] := by
  have hgt := good_trim p
  refine pcall_wp _ Try.func9 rfl (by kernel_rfl) rfl ?_
  simp -dsimp
  first
    | refine CallG.by (of_spec p) ?_
    | refine CallGE.by (of_spec p) ?_
    | refine CallGB.by (of_spec p) ?_
  simp -dsimp
  first
    | refine CallG.by (class_spec (trimP p)) ?_
    | refine CallGE.by (class_spec (trimP p)) ?_
    | refine CallGB.by (class_spec (trimP p)) ?_
  cases hg : goodP p with
  | false =>
    rw [hg] at hgt
    have hsv := solve_bad' hgt.symm
    rw [clsT, ← hgt, if_neg (by simp)]
    simp -dsimp
    first
      | refine CallG.by (of_spec p) ?_
      | refine CallGE.by (of_spec p) ?_
      | refine CallGB.by (of_spec p) ?_
    simp -dsimp
    first
      | refine CallG.by (ppairs_bad (trimP p) hgt.symm) ?_
      | refine CallGE.by (ppairs_bad (trimP p) hgt.symm) ?_
      | refine CallGB.by (ppairs_bad (trimP p) hgt.symm) ?_
    simp -dsimp
    first
      | refine CallG.by (of_spec p) ?_
      | refine CallGE.by (of_spec p) ?_
      | refine CallGB.by (of_spec p) ?_
    simp -dsimp
    first
      | refine CallG.by (psolve_spec (trimP p)) ?_
      | refine CallGE.by (psolve_spec (trimP p)) ?_
      | refine CallGB.by (psolve_spec (trimP p)) ?_
    rw [hsv]
    simp -dsimp
    first
      | refine CallG.by (awake_spec) ?_
      | refine CallGE.by (awake_spec) ?_
      | refine CallGB.by (awake_spec) ?_
    simp -dsimp
    refine retP_c ?_
    simp -dsimp
  | true =>
    obtain ⟨X, hX⟩ := pair_ex p hg
    have hv := vars_le hg
    have hC : clsT p = .tup [eI (classF p 6), eI 0] := by rw [clsT, hg, if_pos rfl]
    rw [trim_of hg, hC]
    obtain ⟨_, _, _, kb⟩ := cls_bits p
    have kb4 := kb 4 (by omega)
    have h1 := ppairs_spec p hg X hX
    have hbn := bad_none hg hX
    have hbs := bad_some hg hX
    have hsF : solveF p = (match allS p with
      | [] => .tup [eI 0, eI 4]
      | s :: _ => .tup [eI s, eI 0]) := by
      rw [solveF, hg, if_pos rfl]
      rfl
    cases hA : allS p with
    | nil =>
      rw [hA] at hsF
      cases hbad : badX X p.vars.toNat with
      | true =>
        rw [parT, hbad, if_pos rfl] at h1
        cases hk : keepA p 4 with
        | true =>
          rw [hk] at kb4
          simp -dsimp
          first
            | refine CallG.by (of_spec p) ?_
            | refine CallGE.by (of_spec p) ?_
            | refine CallGB.by (of_spec p) ?_
          rw [trim_of hg]
          simp -dsimp
          first
            | refine CallG.by (h1) ?_
            | refine CallGE.by (h1) ?_
            | refine CallGB.by (h1) ?_
          simp -dsimp
          first
            | refine CallG.by (of_spec p) ?_
            | refine CallGE.by (of_spec p) ?_
            | refine CallGB.by (of_spec p) ?_
          rw [trim_of hg]
          simp -dsimp
          first
            | refine CallG.by (psolve_spec p) ?_
            | refine CallGE.by (psolve_spec p) ?_
            | refine CallGB.by (psolve_spec p) ?_
          rw [hsF]
          simp -dsimp [kb4, eb]
          first
            | refine CallG.by (awake_spec) ?_
            | refine CallGE.by (awake_spec) ?_
            | refine CallGB.by (awake_spec) ?_
          simp -dsimp
          refine retP_c ?_
          simp -dsimp
        | false =>
          rw [hk] at kb4
          simp -dsimp
          first
            | refine CallG.by (of_spec p) ?_
            | refine CallGE.by (of_spec p) ?_
            | refine CallGB.by (of_spec p) ?_
          rw [trim_of hg]
          simp -dsimp
          first
            | refine CallG.by (h1) ?_
            | refine CallGE.by (h1) ?_
            | refine CallGB.by (h1) ?_
          simp -dsimp
          first
            | refine CallG.by (of_spec p) ?_
            | refine CallGE.by (of_spec p) ?_
            | refine CallGB.by (of_spec p) ?_
          rw [trim_of hg]
          simp -dsimp
          first
            | refine CallG.by (psolve_spec p) ?_
            | refine CallGE.by (psolve_spec p) ?_
            | refine CallGB.by (psolve_spec p) ?_
          rw [hsF]
          simp -dsimp [kb4, eb]
          first
            | refine CallG.by (awake_spec) ?_
            | refine CallGE.by (awake_spec) ?_
            | refine CallGB.by (awake_spec) ?_
          simp -dsimp
          refine retP_c ?_
          simp -dsimp
      | false =>
        have hk : keepA p 4 = false := by
          cases h : keepA p 4 with
          | false => rfl
          | true => exact absurd hA (hbs hbad h)
        rw [hk] at kb4
        rw [parT, hbad, if_neg (by simp)] at h1
        simp -dsimp
        first
          | refine CallG.by (of_spec p) ?_
          | refine CallGE.by (of_spec p) ?_
          | refine CallGB.by (of_spec p) ?_
        rw [trim_of hg]
        simp -dsimp
        first
          | refine CallG.by (h1) ?_
          | refine CallGE.by (h1) ?_
          | refine CallGB.by (h1) ?_
        simp -dsimp
        first
          | refine CallG.by (of_spec p) ?_
          | refine CallGE.by (of_spec p) ?_
          | refine CallGB.by (of_spec p) ?_
        rw [trim_of hg]
        simp -dsimp
        first
          | refine CallG.by (psolve_spec p) ?_
          | refine CallGE.by (psolve_spec p) ?_
          | refine CallGB.by (psolve_spec p) ?_
        rw [hsF]
        simp -dsimp [kb4, eb]
        first
          | refine CallG.by (awake_spec) ?_
          | refine CallGE.by (awake_spec) ?_
          | refine CallGB.by (awake_spec) ?_
        simp -dsimp
        refine retP_c ?_
        simp -dsimp
    | cons s l =>
      rw [hA] at hsF
      have hbad : badX X p.vars.toNat = false := by
        cases h : badX X p.vars.toNat with
        | false => rfl
        | true =>
          rw [hbn h] at hA
          cases hA
      rw [parT, hbad, if_neg (by simp)] at h1
      simp -dsimp
      first
        | refine CallG.by (of_spec p) ?_
        | refine CallGE.by (of_spec p) ?_
        | refine CallGB.by (of_spec p) ?_
      rw [trim_of hg]
      simp -dsimp
      first
        | refine CallG.by (h1) ?_
        | refine CallGE.by (h1) ?_
        | refine CallGB.by (h1) ?_
      simp -dsimp
      first
        | refine CallG.by (of_spec p) ?_
        | refine CallGE.by (of_spec p) ?_
        | refine CallGB.by (of_spec p) ?_
      rw [trim_of hg]
      simp -dsimp
      first
        | refine CallG.by (psolve_spec p) ?_
        | refine CallGE.by (psolve_spec p) ?_
        | refine CallGB.by (psolve_spec p) ?_
      rw [hsF]
      simp -dsimp
      first
        | refine CallG.by (awake_spec) ?_
        | refine CallGE.by (awake_spec) ?_
        | refine CallGB.by (awake_spec) ?_
      simp -dsimp
      refine retP_c ?_
      simp -dsimp
end Go.Proofs.Ytmneioafbkknhaa
