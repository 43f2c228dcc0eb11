import Derived.Test.YtmneioafbkknhaaPB39
/- PB40: the law of Narrows, walked. -/
set_option linter.unusedVariables false
set_option linter.unusedSimpArgs false
set_option maxRecDepth 20000
namespace Go.Proofs.Ytmneioafbkknhaa
open Go Go.PS
attribute [-simp] List.map_take
theorem pnarrow_bad (p : Pz) (hg : goodP p = false) : PCall Try.prog 41 [ePz p] (.t .ro (.tup [.v (.slice none 0 0), eI 2])) [] := by
  refine pcall_wpT Try.func41 rfl (by kernel_rfl) ?_
  simp -dsimp
  first
    | refine CallG.by (pvalid_spec p) ?_
    | refine CallGE.by (pvalid_spec p) ?_
    | refine CallGB.by (pvalid_spec p) ?_
  simp -dsimp [hg]
  refine retT_c ?_
  simp -dsimp
theorem narrows_true (p : Pz) : PCall Try.prog 8 [ePz p] (pB true) [] := by
  have hgt := good_trim p
  refine pcall_wp _ Try.func8 rfl (by kernel_rfl) rfl ?_
  simp -dsimp
  first
    | refine CallG.by (of_spec p) ?_
    | refine CallGE.by (of_spec p) ?_
    | refine CallGB.by (of_spec p) ?_
  simp -dsimp
  cases hg : goodP p with
  | false =>
    rw [hg] at hgt
    first
      | refine CallG.by (pnarrow_bad (trimP p) hgt.symm) ?_
      | refine CallGE.by (pnarrow_bad (trimP p) hgt.symm) ?_
      | refine CallGB.by (pnarrow_bad (trimP p) hgt.symm) ?_
    simp -dsimp
    first
      | refine CallG.by (rvalid_spec p) ?_
      | refine CallGE.by (rvalid_spec p) ?_
      | refine CallGB.by (rvalid_spec p) ?_
    simp -dsimp [hg]
    first
      | refine CallG.by (awake_spec) ?_
      | refine CallGE.by (awake_spec) ?_
      | refine CallGB.by (awake_spec) ?_
    simp -dsimp
    refine retP_c ?_
    simp -dsimp
  | true =>
    obtain ⟨N, hN⟩ := narrow_ex p hg
    rw [trim_of hg]
    have h1 := pnarrow_spec p hg N hN
    have h2 := rnarrow_spec p hg N hN
    by_cases h0 : (0 : Int) ∈ N
    · rw [narT, if_pos h0] at h1 h2
      have hs := pcall_arg 1 (pcall_arg 0 (equal_spec [] []) rfl nil_any') rfl nil_any'
      first
        | refine CallG.by (h1) ?_
        | refine CallGE.by (h1) ?_
        | refine CallGB.by (h1) ?_
      simp -dsimp
      first
        | refine CallG.by (rvalid_spec p) ?_
        | refine CallGE.by (rvalid_spec p) ?_
        | refine CallGB.by (rvalid_spec p) ?_
      simp -dsimp [hg]
      first
        | refine CallG.by (h2) ?_
        | refine CallGE.by (h2) ?_
        | refine CallGB.by (h2) ?_
      simp -dsimp
      first
        | refine CallG.by (hs) ?_
        | refine CallGE.by (hs) ?_
        | refine CallGB.by (hs) ?_
      simp -dsimp
      first
        | refine CallG.by (awake_spec) ?_
        | refine CallGE.by (awake_spec) ?_
        | refine CallGB.by (awake_spec) ?_
      simp -dsimp
      refine retP_c ?_
      simp -dsimp
    · rw [narT, if_neg h0] at h1 h2
      first
        | refine CallG.by (h1) ?_
        | refine CallGE.by (h1) ?_
        | refine CallGB.by (h1) ?_
      simp -dsimp
      first
        | refine CallG.by (rvalid_spec p) ?_
        | refine CallGE.by (rvalid_spec p) ?_
        | refine CallGB.by (rvalid_spec p) ?_
      simp -dsimp [hg]
      first
        | refine CallG.by (h2) ?_
        | refine CallGE.by (h2) ?_
        | refine CallGB.by (h2) ?_
      simp -dsimp
      first
        | refine CallG.by (equal_spec N N) ?_
        | refine CallGE.by (equal_spec N N) ?_
        | refine CallGB.by (equal_spec N N) ?_
      simp -dsimp
      first
        | refine CallG.by (awake_spec) ?_
        | refine CallGE.by (awake_spec) ?_
        | refine CallGB.by (awake_spec) ?_
      simp -dsimp
      refine retP_c ?_
      simp -dsimp
end Go.Proofs.Ytmneioafbkknhaa
