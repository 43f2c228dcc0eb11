import Derived.Test.YtgcncgocdfioiaaDoorCW6
/- CL2: the laws of ChaseOne and ChaseEither. -/
set_option linter.unusedVariables false
set_option linter.unusedSimpArgs false
set_option maxRecDepth 20000
namespace Go.Proofs.YtgcncgocdfioiaaDoor
open Go Go.PS
attribute [-simp] isKeyK List.map_take
theorem one_true (g : List Int) : PCall Tryd.prog 14 [eIs g] (pB true) [] := by
  refine pcall_wp _ Tryd.func14 rfl (by kernel_rfl) rfl ?_
  have hf := few_spec g
  have ha := awake_spec
  generalize g.take 13 = h at *
  have h1 := rounds_spec h 1
  have hap := apart_spec h
  have hco := coreP_spec h
  cases hv : validG h with
  | false =>
    rw [rounds_bad (by rw [okG, hv]; rfl)] at h1
    rw [apartF, hv, if_neg (by simp)] at hap
    rw [coreF, hv, if_neg (by simp)] at hco
    simp -dsimp
    first
      | refine CallG.by (hf) ?_
      | refine CallGE.by (hf) ?_
      | refine CallGB.by (hf) ?_
    simp -dsimp
    first
      | refine CallG.by (hap) ?_
      | refine CallGE.by (hap) ?_
      | refine CallGB.by (hap) ?_
    simp -dsimp
    first
      | refine CallG.by (hf) ?_
      | refine CallGE.by (hf) ?_
      | refine CallGB.by (hf) ?_
    simp -dsimp
    first
      | refine CallG.by (h1) ?_
      | refine CallGE.by (h1) ?_
      | refine CallGB.by (h1) ?_
    simp -dsimp
    first
      | refine CallG.by (hf) ?_
      | refine CallGE.by (hf) ?_
      | refine CallGB.by (hf) ?_
    simp -dsimp
    first
      | refine CallG.by (hco) ?_
      | refine CallGE.by (hco) ?_
      | refine CallGB.by (hco) ?_
    simp -dsimp
    first
      | refine CallG.by (ha) ?_
      | refine CallGE.by (ha) ?_
      | refine CallGB.by (ha) ?_
    simp -dsimp
    refine retP_c ?_
    simp -dsimp
  | true =>
    rw [rounds_ok (by rw [okG, hv]; rfl)] at h1
    rw [apartF, hv, if_pos rfl] at hap
    rw [coreF, hv, if_pos rfl] at hco
    have hcw := core_cw hv
    rw [show false = ((1 : Int) == 2) by decide, ← strF_cw hv 1] at hcw
    obtain ⟨ht, hr, hs, hc⟩ := valid_facts hv
    have hl := town_len h
    have hp : 2 ≤ 2 ^ (townOf h).length := Nat.pow_le_pow_right (n := 2) (by decide) ht.1
    have hok := (core_ok ht hr hs (2 ^ (townOf h).length - 1) (by omega) (by omega)).1
    rw [hl] at hok
    have hlt := hok.lt
    rw [hl] at hlt
    have h8 := sub_lt ht hok.lt
    have hcor := corners_spec h (coreS (townOf h) (2 ^ h.length - 1) : Nat)
    have hce : cornersOk h (coreS (townOf h) (2 ^ h.length - 1) : Nat) = true := by
      rw [cornersOk, hv, Bool.true_and, decide_eq_true_eq]
      omega
    rw [cornersF, hce, if_pos rfl, Int.toNat_natCast, core_cor hv] at hcor
    have hfour := core_four hv
    have hck := checkApart_spec h (iL (apL (townOf h) (2 ^ h.length - 1)))
    have hsz := size_spec _ h8
    have hone : sgl (coreS (townOf h) (2 ^ h.length - 1)) = true → (bitsL (coreS (townOf h) (2 ^ h.length - 1))).length = 1 := fun e => by
      have := sgl_tz (by have := hok.pos; omega) h8 e
      rw [this]; rfl
    have hackk := apart_chk hv
    cases hsg : sgl (coreS (townOf h) (2 ^ h.length - 1)) with
    | true =>
      rw [hsg, if_pos rfl] at hap
      rw [hackk hsg] at hck
      have hlen := hone hsg
      rw [hlen] at hsz
      have hn : ¬ (strF h 1).2 < 0 := by have := hcw.1 hsg; omega
      rw [if_neg hn] at h1
      generalize apL (townOf h) (2 ^ h.length - 1) = A at *
      generalize coreS (townOf h) (2 ^ h.length - 1) = c at *
      generalize strF h 1 = q1 at *
      simp -dsimp
      first
        | refine CallG.by (hf) ?_
        | refine CallGE.by (hf) ?_
        | refine CallGB.by (hf) ?_
      simp -dsimp
      first
        | refine CallG.by (hap) ?_
        | refine CallGE.by (hap) ?_
        | refine CallGB.by (hap) ?_
      simp -dsimp
      first
        | refine CallG.by (hf) ?_
        | refine CallGE.by (hf) ?_
        | refine CallGB.by (hf) ?_
      simp -dsimp
      first
        | refine CallG.by (h1) ?_
        | refine CallGE.by (h1) ?_
        | refine CallGB.by (h1) ?_
      simp -dsimp
      first
        | refine CallG.by (hf) ?_
        | refine CallGE.by (hf) ?_
        | refine CallGB.by (hf) ?_
      simp -dsimp
      first
        | refine CallG.by (hco) ?_
        | refine CallGE.by (hco) ?_
        | refine CallGB.by (hco) ?_
      simp -dsimp
      first
        | refine CallG.by (hf) ?_
        | refine CallGE.by (hf) ?_
        | refine CallGB.by (hf) ?_
      simp -dsimp
      first
        | refine CallG.by (hcor) ?_
        | refine CallGE.by (hcor) ?_
        | refine CallGB.by (hcor) ?_
      simp -dsimp
      first
        | refine CallG.by (hf) ?_
        | refine CallGE.by (hf) ?_
        | refine CallGB.by (hf) ?_
      simp -dsimp
      first
        | refine CallG.by (hck) ?_
        | refine CallGE.by (hck) ?_
        | refine CallGB.by (hck) ?_
      simp -dsimp
      first
        | refine CallG.by (hsz) ?_
        | refine CallGE.by (hsz) ?_
        | refine CallGB.by (hsz) ?_
      simp -dsimp
      first
        | refine CallG.by (ha) ?_
        | refine CallGE.by (ha) ?_
        | refine CallGB.by (ha) ?_
      simp -dsimp
      refine retP_c ?_
      simp -dsimp
    | false =>
      rw [hsg, if_neg (by simp)] at hap
      have hfo := hfour hsg
      have hn : (strF h 1).2 < 0 := by
        apply Classical.byContradiction
        intro hn
        have := hcw.2 (by omega)
        rw [hsg] at this
        cases this
      rw [if_pos hn] at h1
      generalize coreS (townOf h) (2 ^ h.length - 1) = c at *
      generalize strF h 1 = q1 at *
      generalize (bitsL c).length = m at *
      have hm4 : (4 : Int) ≤ m := by omega
      simp -dsimp
      first
        | refine CallG.by (hf) ?_
        | refine CallGE.by (hf) ?_
        | refine CallGB.by (hf) ?_
      simp -dsimp
      first
        | refine CallG.by (hap) ?_
        | refine CallGE.by (hap) ?_
        | refine CallGB.by (hap) ?_
      simp -dsimp
      first
        | refine CallG.by (hf) ?_
        | refine CallGE.by (hf) ?_
        | refine CallGB.by (hf) ?_
      simp -dsimp
      first
        | refine CallG.by (h1) ?_
        | refine CallGE.by (h1) ?_
        | refine CallGB.by (h1) ?_
      simp -dsimp
      first
        | refine CallG.by (hf) ?_
        | refine CallGE.by (hf) ?_
        | refine CallGB.by (hf) ?_
      simp -dsimp
      first
        | refine CallG.by (hco) ?_
        | refine CallGE.by (hco) ?_
        | refine CallGB.by (hco) ?_
      simp -dsimp
      first
        | refine CallG.by (hf) ?_
        | refine CallGE.by (hf) ?_
        | refine CallGB.by (hf) ?_
      simp -dsimp
      first
        | refine CallG.by (hcor) ?_
        | refine CallGE.by (hcor) ?_
        | refine CallGB.by (hcor) ?_
      simp -dsimp
      first
        | refine CallG.by (hsz) ?_
        | refine CallGE.by (hsz) ?_
        | refine CallGB.by (hsz) ?_
      simp -dsimp [hfo, hm4]
      first
        | refine CallG.by (ha) ?_
        | refine CallGE.by (ha) ?_
        | refine CallGB.by (ha) ?_
      simp -dsimp
      refine retP_c ?_
      simp -dsimp
end Go.Proofs.YtgcncgocdfioiaaDoor
