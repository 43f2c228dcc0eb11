import Derived.Test.YtmneioafbkknhaaPB12
import Derived.Test.YtmneioafbkknhaaPSC
/- PB13: Solve, awake and the law of Blame. -/
set_option linter.unusedVariables false
set_option linter.unusedSimpArgs false
set_option maxRecDepth 20000
namespace Go.Proofs.Ytmneioafbkknhaa
open Go Go.PS
def allS (p : Pz) : List Int := solsF p (maskI p.cons.length) (2 ^ p.vars.toNat)
def solveF (p : Pz) : TL := if goodP p then (match allS p with
  | [] => .tup [eI 0, eI 4]
  | s :: _ => .tup [eI s, eI 0]) else .tup [eI 0, eI 2]
theorem psolve_spec (p : Pz) : PCall Try.prog 23 [ePz p] (.t .fz (solveF p)) [] := by
  refine pcall_wp _ Try.func23 rfl (by kernel_rfl) rfl ?_
  simp -dsimp
  first
    | refine CallG.by (pvalid_spec p) ?_
    | refine CallGE.by (pvalid_spec p) ?_
    | refine CallGB.by (pvalid_spec p) ?_
  simp -dsimp
  refine condX_of (fun hv => ?_) (fun hv => ?_)
  · simp only [Bool.not_eq_true'] at hv
    simp -dsimp
    refine retP_c ?_
    simp -dsimp [solveF, hv]
  simp only [Bool.not_eq_false'] at hv
  have hg := hv
  simp only [goodP, Bool.and_eq_true, decide_eq_true_eq] at hg
  obtain ⟨⟨⟨⟨⟨g1, g2⟩, g3⟩, g4⟩, g5⟩, g6⟩ := hg
  have hok := okC_of g6
  have hF : solveF p = (match allS p with
    | [] => .tup [eI 0, eI 4]
    | s :: _ => .tup [eI s, eI 0]) := by simp only [solveF, hv, if_true]
  simp -dsimp
  refine wk_draw 3 [2] mixed (by kernel_rfl) ?_
  simp -dsimp
  first
    | refine CallG.by (every_spec p) ?_
    | refine CallGE.by (every_spec p) ?_
    | refine CallGB.by (every_spec p) ?_
  simp -dsimp
  first
    | refine CallG.by (psols_spec p (maskI p.cons.length) hok (by omega) g2) ?_
    | refine CallGE.by (psols_spec p (maskI p.cons.length) hok (by omega) g2) ?_
    | refine CallGB.by (psols_spec p (maskI p.cons.length) hok (by omega) g2) ?_
  rw [← allS]
  cases hA : allS p with
  | nil =>
    rw [hA] at hF
    simp -dsimp
    refine retP_c ?_
    simp -dsimp [hF]
  | cons s l =>
    rw [hA] at hF
    simp -dsimp
    refine condX_of (fun c => ?_) (fun c => ?_)
    · simp at c
      omega
    · simp -dsimp [c]
      refine retP_c ?_
      simp -dsimp [hF]
def awP : Pz := ⟨2, [⟨2, [2]⟩], [⟨0, [1, 0]⟩]⟩
theorem awake_solve : solveF awP = .tup [eI 1, eI 0] := by kernel_rfl
theorem awake_spec : PCall Try.prog 21 [] (pB true) [] := by
  refine pcall_h Try.func21 rfl (by kernel_rfl) ?_
  refine codeH_seq [] ?_
  simp -dsimp
  refine codeH_seq [2, 5, 6] ?_
  simp -dsimp
  have h := psolve_spec awP
  rw [awake_solve] at h
  refine CallG.by h ?_
  simp -dsimp
  refine codeH_go ?_
  simp -dsimp
  refine retP_c ?_
  simp -dsimp
/-- The law holds at a puzzle. -/
theorem blames_spec (p : Pz) (hL : goodP p = goodP (trimP p)) (hE : goodP p = true → blameF (trimP p) = rblameF p) : PCall Try.prog 3 [ePz p] (pB true) [] := by
  refine pcall_wp _ Try.func3 rfl (by kernel_rfl) rfl ?_
  simp -dsimp
  first
    | refine CallG.by (of_spec p) ?_
    | refine CallGE.by (of_spec p) ?_
    | refine CallGB.by (of_spec p) ?_
  simp -dsimp
  first
    | refine CallG.by (pblame_spec (trimP p)) ?_
    | refine CallGE.by (pblame_spec (trimP p)) ?_
    | refine CallGB.by (pblame_spec (trimP p)) ?_
  cases hv : goodP p with
  | false =>
    have hF : blameF (trimP p) = .tup [eI 0, eI 2] := by
      rw [blameF, ← hL, hv]
      rfl
    rw [hF]
    simp -dsimp
    first
      | refine CallG.by (rvalid_spec p) ?_
      | refine CallGE.by (rvalid_spec p) ?_
      | refine CallGB.by (rvalid_spec p) ?_
    simp -dsimp [hv]
    first
      | refine CallG.by (awake_spec) ?_
      | refine CallGE.by (awake_spec) ?_
      | refine CallGB.by (awake_spec) ?_
    simp -dsimp
    refine retP_c ?_
    simp -dsimp
  | true =>
    have hF := hE hv
    obtain ⟨a, b, hab⟩ : ∃ a b, rblameF p = .tup [eI a, eI b] := by
      unfold rblameF
      split
      · exact ⟨_, _, rfl⟩
      · exact ⟨_, _, rfl⟩
    have hR := rblame_spec p hv
    rw [hab] at hF hR
    rw [hF]
    simp -dsimp
    first
      | refine CallG.by (rvalid_spec p) ?_
      | refine CallGE.by (rvalid_spec p) ?_
      | refine CallGB.by (rvalid_spec p) ?_
    simp -dsimp [hv]
    first
      | refine CallG.by (hR) ?_
      | refine CallGE.by (hR) ?_
      | refine CallGB.by (hR) ?_
    simp -dsimp
    first
      | refine CallG.by (awake_spec) ?_
      | refine CallGE.by (awake_spec) ?_
      | refine CallGB.by (awake_spec) ?_
    simp -dsimp
    refine retP_c ?_
    simp -dsimp
end Go.Proofs.Ytmneioafbkknhaa
