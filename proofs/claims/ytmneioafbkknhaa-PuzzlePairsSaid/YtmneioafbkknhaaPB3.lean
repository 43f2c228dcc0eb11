import Derived.Test.YtmneioafbkknhaaPB2
/- PB3: solutions. -/
set_option linter.unusedVariables false
set_option linter.unusedSimpArgs false
set_option maxRecDepth 20000
namespace Go.Proofs.Ytmneioafbkknhaa
open Go Go.PS
def solsF (p : Pz) (set : Int) (k : Nat) : List Int := ((List.range k).map Int.ofNat).filter fun s => solvF p set s p.cons 0
theorem solsF_succ (p : Pz) (set : Int) (k : Nat) : solsF p set (k + 1) = solsF p set k ++ if solvF p set k p.cons 0 then [(k : Int)] else [] := by
  simp only [solsF, List.range_succ, List.map_append, List.filter_append, List.map_cons, List.map_nil]
  by_cases h : solvF p set k p.cons 0 = true
  · simp [h]
  · simp [h]
theorem solsF_len (p : Pz) (set : Int) (k : Nat) : (solsF p set k).length ≤ k := by
  unfold solsF
  refine Nat.le_trans (List.length_filter_le _ _) ?_
  simp
theorem psols_spec (p : Pz) (set : Int) (hp : ∀ c ∈ p.cons, okC p c) (h0 : 0 ≤ p.vars) (h8 : p.vars ≤ 8) : PCall Try.prog 59 [ePz p, eI set] (.t .fz (eIs (solsF p set (2 ^ p.vars.toNat)))) [] := by
  refine pcall_wp _ Try.func59 rfl (by kernel_rfl) rfl ?_
  have hs := shl1 p.vars.toNat (by omega)
  have hN : 2 ^ p.vars.toNat ≤ 2 ^ 8 := Nat.pow_le_pow_right (by decide) (by omega)
  generalize 2 ^ p.vars.toNat = N at hs hN
  simp -dsimp [h0, hs]
  refine lg_adoptT 5 5 3 1 (by simp; rfl) (by simp) ?_
  refine wk_loop (fun i : Nat => ⟨[(10, pI i), (9, pI N), (5, .osl 5), (2, .ptr 2 0), (1, .t .ro (eI set))],
    [(5, .row 3 1 .fz ((solsF p set i).map cI)), (2, .blk 32 [PV.t Kind.ro (eI p.vars), PV.t Kind.ro (eRls p.rels), PV.t Kind.ro (eCns p.cons)])]⟩) (fun i => i ≤ N) (fun i => N - i) 0
    (le_of (by simp) (by simp [solsF])) (by simp) fun i hi => ?_
  simp -dsimp
  refine condX_dec (fun h => ?_) (fun h => ?_)
  · have hw := wr (n := (i : Int) + 1) (by omega) (by omega)
    simp -dsimp [h]
    first
      | refine CallG.by (psolves_spec p set i hp) ?_
      | refine CallGE.by (psolves_spec p set i hp) ?_
      | refine CallGB.by (psolves_spec p set i hp) ?_
    simp -dsimp
    refine condX_of (fun hc => ?_) (fun hc => ?_)
    · have hb : ((solsF p set i).length + 1) * 8 ≤ 140737488355328 := by
        have := solsF_len p set i
        omega
      simp -dsimp [hc, hb]
      refine LoopP_next (i + 1) (le_of (by simp [hw]) (by simp [solsF_succ, hc])) (by omega) (by omega)
    · simp -dsimp [hc]
      refine LoopP_next (i + 1) (le_of (by simp [hw]) (by simp [solsF_succ, hc])) (by omega) (by omega)
  · have : i = N := by omega
    subst this
    simp -dsimp
    refine retP_c ?_
    simp -dsimp
end Go.Proofs.Ytmneioafbkknhaa
