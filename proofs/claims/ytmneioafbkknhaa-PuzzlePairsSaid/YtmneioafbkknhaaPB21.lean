import Derived.Test.YtmneioafbkknhaaPB20
/- PB21: Count, Check, Solutions; the law of Solves, walked. -/
set_option linter.unusedVariables false
set_option linter.unusedSimpArgs false
set_option maxRecDepth 20000
namespace Go.Proofs.Ytmneioafbkknhaa
open Go Go.PS
attribute [-simp] List.map_take
def countF (p : Pz) : TL := if goodP p then .tup [eI (allS p).length, eI 0] else .tup [eI 0, eI 2]
theorem count_spec (p : Pz) : PCall Try.prog 25 [ePz p] (.t .fz (countF p)) [] := by
  refine pcall_wp _ Try.func25 rfl (by kernel_rfl) rfl ?_
  simp -dsimp
  first
    | refine CallG.by (pvalid_spec p) ?_
    | refine CallGE.by (pvalid_spec p) ?_
    | refine CallGB.by (pvalid_spec p) ?_
  simp -dsimp
  refine condX_of (fun hv => ?_) (fun hv => ?_)
  · simp only [Bool.not_eq_true'] at hv
    simp -dsimp
    refine retP_c ?_
    simp -dsimp [countF, hv]
  simp only [Bool.not_eq_false'] at hv
  have hg := hv
  simp only [goodP, Bool.and_eq_true, decide_eq_true_eq] at hg
  obtain ⟨⟨⟨⟨⟨g1, g2⟩, g3⟩, g4⟩, g5⟩, g6⟩ := hg
  have hok := okC_of g6
  simp -dsimp
  refine wk_draw 3 [2] mixed (by kernel_rfl) ?_
  simp -dsimp
  first
    | refine CallG.by (every_spec p) ?_
    | refine CallGE.by (every_spec p) ?_
    | refine CallGB.by (every_spec p) ?_
  simp -dsimp
  first
    | refine CallG.by (psols_spec p (maskI p.cons.length) hok (by omega) g2) ?_
    | refine CallGE.by (psols_spec p (maskI p.cons.length) hok (by omega) g2) ?_
    | refine CallGB.by (psols_spec p (maskI p.cons.length) hok (by omega) g2) ?_
  rw [← allS]
  simp -dsimp
  refine retP_c ?_
  simp -dsimp [countF, hv]
def isSol (p : Pz) (s : Int) : Bool := decide (0 ≤ s) && (decide (s < ((2 ^ p.vars.toNat : Nat) : Int)) && solvF p (maskI p.cons.length) s p.cons 0)
def checkF (p : Pz) (s : Int) : TL := if goodP p then .tup [eB (isSol p s), eI 0] else .tup [eB false, eI 2]
theorem check_spec (p : Pz) (s : Int) : PCall Try.prog 26 [ePz p, eI s] (.t .fz (checkF p s)) [] := by
  refine pcall_wp _ Try.func26 rfl (by kernel_rfl) rfl ?_
  simp -dsimp
  first
    | refine CallG.by (pvalid_spec p) ?_
    | refine CallGE.by (pvalid_spec p) ?_
    | refine CallGB.by (pvalid_spec p) ?_
  simp -dsimp
  refine condX_of (fun hv => ?_) (fun hv => ?_)
  · simp only [Bool.not_eq_true'] at hv
    simp -dsimp
    refine retP_c ?_
    simp -dsimp [checkF, hv]
  simp only [Bool.not_eq_false'] at hv
  have hg := hv
  simp only [goodP, Bool.and_eq_true, decide_eq_true_eq] at hg
  obtain ⟨⟨⟨⟨⟨g1, g2⟩, g3⟩, g4⟩, g5⟩, g6⟩ := hg
  have hok := okC_of g6
  have hs := shl1 p.vars.toNat (by omega)
  have g0 : 0 ≤ p.vars := by omega
  have hF : checkF p s = .tup [eB (isSol p s), eI 0] := by rw [checkF, hv]; rfl
  unfold isSol at hF
  generalize 2 ^ p.vars.toNat = N at hs hF
  simp -dsimp
  refine wk_draw 14 [] mixed (by kernel_rfl) ?_
  by_cases h0 : 0 ≤ s
  · by_cases h1 : s < (N : Int)
    · simp -dsimp [h0, h1, hs, g0]
      first
        | refine CallG.by (every_spec p) ?_
        | refine CallGE.by (every_spec p) ?_
        | refine CallGB.by (every_spec p) ?_
      simp -dsimp
      first
        | refine CallG.by (psolves_spec p (maskI p.cons.length) s hok) ?_
        | refine CallGE.by (psolves_spec p (maskI p.cons.length) s hok) ?_
        | refine CallGB.by (psolves_spec p (maskI p.cons.length) s hok) ?_
      simp -dsimp
      refine retP_c ?_
      simp -dsimp [hF, h0, h1]
    · simp -dsimp [h0, h1, hs, g0]
      refine retP_c ?_
      simp -dsimp [hF, h0, h1]
  · simp -dsimp [h0]
    refine retP_c ?_
    simp -dsimp [hF, h0]
theorem rsols_spec (p : Pz) (hv : goodP p = true) : PCall Try.prog 29 [ePz p] (.t .fz (eIs (allS p))) [] := by
  have hg := hv
  simp only [goodP, Bool.and_eq_true, decide_eq_true_eq] at hg
  obtain ⟨⟨⟨⟨⟨g1, g2⟩, g3⟩, g4⟩, g5⟩, g6⟩ := hg
  have hok := okC_of g6
  refine pcall_wp _ Try.func29 rfl (by kernel_rfl) rfl ?_
  have hs := shl1 p.vars.toNat (by omega)
  have hN : 2 ^ p.vars.toNat ≤ 2 ^ 8 := Nat.pow_le_pow_right (by decide) (by omega)
  have g0 : 0 ≤ p.vars := by omega
  unfold allS
  generalize 2 ^ p.vars.toNat = N at hs hN
  simp -dsimp [g0, hs]
  refine lg_adoptT 3 3 3 1 (by simp; rfl) (by simp) ?_
  refine wk_loop (fun i : Nat => ⟨[(8, pI i), (7, pI N), (3, .osl 3), (1, .ptr 1 0)],
    [(3, .row 3 1 .fz ((solsF p (maskI p.cons.length) i).map cI)), (1, .blk 25 [PV.t Kind.ro (eI p.vars), PV.t Kind.ro (eRls p.rels), PV.t Kind.ro (eCns p.cons)])]⟩) (fun i => i ≤ N) (fun i => N - i) 0
    (le_of (by simp) (by simp [solsF])) (by simp) fun i hi => ?_
  simp -dsimp
  refine condX_dec (fun h => ?_) (fun h => ?_)
  · have hw := wr (n := (i : Int) + 1) (by omega) (by omega)
    have hi0 : (0 : Int) ≤ i := by omega
    simp -dsimp [h]
    refine wk_draw 4 [] mixed (by kernel_rfl) ?_
    simp -dsimp
    first
      | refine CallG.by (all_spec p) ?_
      | refine CallGE.by (all_spec p) ?_
      | refine CallGB.by (all_spec p) ?_
    simp -dsimp
    first
      | refine CallG.by (rsolves_spec p (maskI p.cons.length) i hok g0) ?_
      | refine CallGE.by (rsolves_spec p (maskI p.cons.length) i hok g0) ?_
      | refine CallGB.by (rsolves_spec p (maskI p.cons.length) i hok g0) ?_
    simp -dsimp [h, hs]
    refine condX_of (fun hc => ?_) (fun hc => ?_)
    · have hb : ((solsF p (maskI p.cons.length) i).length + 1) * 8 ≤ 140737488355328 := by
        have := solsF_len p (maskI p.cons.length) i
        omega
      simp -dsimp [hc, hb]
      refine LoopP_next (i + 1) (le_of (by simp [hw]) (by simp [solsF_succ, hc])) (by omega) (by omega)
    · simp -dsimp [hc]
      refine LoopP_next (i + 1) (le_of (by simp [hw]) (by simp [solsF_succ, hc])) (by omega) (by omega)
  · have : i = N := by omega
    subst this
    simp -dsimp
    refine retP_c ?_
    simp -dsimp
def rsolveF (p : Pz) : TL := match allS p with
  | [] => .tup [eI 0, eI 4]
  | s :: _ => .tup [eI s, eI 0]
theorem rsolve_spec (p : Pz) (hv : goodP p = true) : PCall Try.prog 27 [ePz p] (.t .fz (rsolveF p)) [] := by
  have hF : rsolveF p = (match allS p with
    | [] => .tup [eI 0, eI 4]
    | s :: _ => .tup [eI s, eI 0]) := rfl
  refine pcall_wp _ Try.func27 rfl (by kernel_rfl) rfl ?_
  simp -dsimp
  first
    | refine CallG.by (rsols_spec p hv) ?_
    | refine CallGE.by (rsols_spec p hv) ?_
    | refine CallGB.by (rsols_spec p hv) ?_
  cases hA : allS p with
  | nil =>
    rw [hA] at hF
    simp -dsimp
    refine retP_c ?_
    simp -dsimp [hF]
  | cons s l =>
    rw [hA] at hF
    have h0 : ((l.length : Int) + 1 == 0) = false := by simp; omega
    simp -dsimp [h0]
    refine retP_c ?_
    simp -dsimp [hF]
theorem risSol_spec (p : Pz) (s : Int) (hv : goodP p = true) : PCall Try.prog 30 [ePz p, eI s] (pB (isSol p s)) [] := by
  have hg := hv
  simp only [goodP, Bool.and_eq_true, decide_eq_true_eq] at hg
  obtain ⟨⟨⟨⟨⟨g1, g2⟩, g3⟩, g4⟩, g5⟩, g6⟩ := hg
  have hok := okC_of g6
  have hs := shl1 p.vars.toNat (by omega)
  refine pcall_wp _ Try.func30 rfl (by kernel_rfl) rfl ?_
  simp -dsimp
  refine wk_draw 4 [] mixed (by kernel_rfl) ?_
  simp -dsimp
  first
    | refine CallG.by (all_spec p) ?_
    | refine CallGE.by (all_spec p) ?_
    | refine CallGB.by (all_spec p) ?_
  simp -dsimp
  first
    | refine CallG.by (rsolves_spec p (maskI p.cons.length) s hok (by omega)) ?_
    | refine CallGE.by (rsolves_spec p (maskI p.cons.length) s hok (by omega)) ?_
    | refine CallGB.by (rsolves_spec p (maskI p.cons.length) s hok (by omega)) ?_
  rw [hs]
  have he : (solvF p (maskI p.cons.length) s p.cons 0 && decide (0 ≤ s) && decide (s < ((2 ^ p.vars.toNat : Nat) : Int))) = isSol p s := by
    rw [isSol]
    cases solvF p (maskI p.cons.length) s p.cons 0 <;> cases decide (0 ≤ s) <;> simp
  rw [he]
  simp -dsimp
  refine retP_c ?_
  simp -dsimp
end Go.Proofs.Ytmneioafbkknhaa
