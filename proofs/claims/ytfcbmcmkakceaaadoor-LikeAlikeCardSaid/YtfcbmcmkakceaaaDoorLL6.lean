import Derived.Test.YtfcbmcmkakceaaaDoorLL5
/- LL6: law Alike. -/
set_option linter.unusedVariables false
set_option linter.unusedSimpArgs false
set_option maxRecDepth 20000
namespace Go.Proofs.YtfcbmcmkakceaaaDoor
open Go Go.PS
attribute [-simp] isKeyK List.map_take
def frcF (g h : List Int) : TL := if isgB g && isgB h then (if likeN (townOf g) (townOf h) then .tup [eFss (frX (townOf g) (townOf h)), eI 0] else .tup [.v (.slice none 0 0), eI 4]) else .tup [.v (.slice none 0 0), eI 2]
theorem fraction_spec (g h : List Int) : PCall Tryd.prog 38 [eIs g, eIs h] (.t .fz (frcF g h)) [] := by
  by_cases hk : isgB g = true ∧ isgB h = true ∧ likeN (townOf g) (townOf h) = true
  · have := fraction_ok g h hk.1 hk.2.1 hk.2.2
    rw [frcF, hk.1, hk.2.1, hk.2.2]
    exact this
  · have hbo := both_spec g h
    rw [bothF] at hbo
    have hsh : isgB g = true → isgB h = true → PCall Tryd.prog 62 [eIs g, eIs h] (.t .fz (.tup [eNs (shN (townOf g) (townOf h)).1, eNs (shN (townOf g) (townOf h)).2, eB (likeN (townOf g) (townOf h))])) [] := fun h1 h2 => by
      have := shades_spec (townOf g) (townOf h) (town_tow h1) (town_tow h2)
      rw [show eNs (townOf g) = eIs g by rw [eNs, town_back h1], show eNs (townOf h) = eIs h by rw [eNs, town_back h2]] at this
      exact this
    have hF : frcF g h = if isgB g && isgB h then (if likeN (townOf g) (townOf h) then .tup [eFss (frX (townOf g) (townOf h)), eI 0] else .tup [.v (.slice none 0 0), eI 4]) else .tup [.v (.slice none 0 0), eI 2] := rfl
    refine pcall_wp _ Tryd.func38 rfl (by kernel_rfl) rfl ?_
    cases hg : isgB g <;> cases hh : isgB h
    all_goals
      rw [hg, hh] at hbo hF
      simp only [if_true, Bool.false_eq_true, if_false, Bool.and_true, Bool.and_false, Bool.true_and, Bool.false_and, Bool.and_self, nilT] at hbo hF
    · simp -dsimp
      first
        | refine CallG.by (hbo) ?_
        | refine CallGE.by (hbo) ?_
        | refine CallGB.by (hbo) ?_
      simp -dsimp
      refine retP_c ?_
      simp -dsimp [hF]
    · simp -dsimp
      first
        | refine CallG.by (hbo) ?_
        | refine CallGE.by (hbo) ?_
        | refine CallGB.by (hbo) ?_
      simp -dsimp
      refine retP_c ?_
      simp -dsimp [hF]
    · simp -dsimp
      first
        | refine CallG.by (hbo) ?_
        | refine CallGE.by (hbo) ?_
        | refine CallGB.by (hbo) ?_
      simp -dsimp
      refine retP_c ?_
      simp -dsimp [hF]
    · have hs := hsh hg hh
      have hl : likeN (townOf g) (townOf h) = false := by
        rw [Bool.eq_false_iff]
        exact fun e => hk ⟨hg, hh, e⟩
      rw [hl] at hs hF
      simp only [if_false, Bool.false_eq_true] at hF
      simp -dsimp
      first
        | refine CallG.by (hbo) ?_
        | refine CallGE.by (hbo) ?_
        | refine CallGB.by (hbo) ?_
      simp -dsimp
      first
        | refine CallG.by (hs) ?_
        | refine CallGE.by (hs) ?_
        | refine CallGB.by (hs) ?_
      simp -dsimp
      refine retP_c ?_
      simp -dsimp [hF]
theorem alike_law (g h : List Int) (X : List (List (Int × Int))) : PCall Tryd.prog 12 [eIs g, eIs h, eFss X] (pB true) [] := by
  have hf := few_spec g
  have hf' := few_spec h
  have hfr := fracs_spec X
  have haw := awake_spec
  generalize g.take 10 = G at *
  generalize h.take 10 = H at *
  generalize cutF X 9 = Y at *
  have ha := alike_spec G H
  have hm := fraction_spec G H
  have hc := checkF_spec G H Y
  have hc2 := checkF_spec G H (frX (townOf G) (townOf H))
  rw [alkF] at ha
  rw [frcF] at hm
  rw [cfF] at hc hc2
  refine pcall_wp _ Tryd.func12 rfl (by kernel_rfl) rfl ?_
  by_cases hv : isgB G = true ∧ isgB H = true
  · have hv' : (isgB G && isgB H) = true := by rw [hv.1, hv.2]; rfl
    have hs := fun e => chk_like (X := Y) (town_tow hv.1) (town_tow hv.2) e
    have ht := fun e => frac_chk (town_tow hv.1) (town_tow hv.2) e
    rw [hv'] at ha hm hc hc2
    simp only [if_true] at ha hm hc hc2
    generalize frX (townOf G) (townOf H) = Z at *
    generalize chkX (townOf G) (townOf H) Y = cY at *
    generalize chkX (townOf G) (townOf H) Z = cZ at *
    cases hl : likeN (townOf G) (townOf H)
    · rw [hl] at ha hm hs
      have hcY : cY = false := by
        cases cY
        · rfl
        · exact absurd (hs rfl) (by decide)
      subst hcY
      simp only [if_false, Bool.false_eq_true] at hm
      simp -dsimp
      first
        | refine CallG.by (hf) ?_
        | refine CallGE.by (hf) ?_
        | refine CallGB.by (hf) ?_
      simp -dsimp
      first
        | refine CallG.by (hf') ?_
        | refine CallGE.by (hf') ?_
        | refine CallGB.by (hf') ?_
      simp -dsimp
      first
        | refine CallG.by (ha) ?_
        | refine CallGE.by (ha) ?_
        | refine CallGB.by (ha) ?_
      simp -dsimp
      first
        | refine CallG.by (hf) ?_
        | refine CallGE.by (hf) ?_
        | refine CallGB.by (hf) ?_
      simp -dsimp
      first
        | refine CallG.by (hf') ?_
        | refine CallGE.by (hf') ?_
        | refine CallGB.by (hf') ?_
      simp -dsimp
      first
        | refine CallG.by (hm) ?_
        | refine CallGE.by (hm) ?_
        | refine CallGB.by (hm) ?_
      simp -dsimp
      first
        | refine CallG.by (hf) ?_
        | refine CallGE.by (hf) ?_
        | refine CallGB.by (hf) ?_
      simp -dsimp
      first
        | refine CallG.by (hf') ?_
        | refine CallGE.by (hf') ?_
        | refine CallGB.by (hf') ?_
      simp -dsimp
      first
        | refine CallG.by (hfr) ?_
        | refine CallGE.by (hfr) ?_
        | refine CallGB.by (hfr) ?_
      simp -dsimp
      first
        | refine CallG.by (hc) ?_
        | refine CallGE.by (hc) ?_
        | refine CallGB.by (hc) ?_
      simp -dsimp
      first
        | refine CallG.by (haw) ?_
        | refine CallGE.by (haw) ?_
        | refine CallGB.by (haw) ?_
      simp -dsimp
      refine retP_c ?_
      simp -dsimp
    · rw [hl] at ha hm ht
      have hcZ : cZ = true := ht rfl
      subst hcZ
      simp only [if_true] at hm
      simp -dsimp
      first
        | refine CallG.by (hf) ?_
        | refine CallGE.by (hf) ?_
        | refine CallGB.by (hf) ?_
      simp -dsimp
      first
        | refine CallG.by (hf') ?_
        | refine CallGE.by (hf') ?_
        | refine CallGB.by (hf') ?_
      simp -dsimp
      first
        | refine CallG.by (ha) ?_
        | refine CallGE.by (ha) ?_
        | refine CallGB.by (ha) ?_
      simp -dsimp
      first
        | refine CallG.by (hf) ?_
        | refine CallGE.by (hf) ?_
        | refine CallGB.by (hf) ?_
      simp -dsimp
      first
        | refine CallG.by (hf') ?_
        | refine CallGE.by (hf') ?_
        | refine CallGB.by (hf') ?_
      simp -dsimp
      first
        | refine CallG.by (hm) ?_
        | refine CallGE.by (hm) ?_
        | refine CallGB.by (hm) ?_
      simp -dsimp
      first
        | refine CallG.by (hf) ?_
        | refine CallGE.by (hf) ?_
        | refine CallGB.by (hf) ?_
      simp -dsimp
      first
        | refine CallG.by (hf') ?_
        | refine CallGE.by (hf') ?_
        | refine CallGB.by (hf') ?_
      simp -dsimp
      first
        | refine CallG.by (hfr) ?_
        | refine CallGE.by (hfr) ?_
        | refine CallGB.by (hfr) ?_
      simp -dsimp
      first
        | refine CallG.by (hc) ?_
        | refine CallGE.by (hc) ?_
        | refine CallGB.by (hc) ?_
      cases cY
      all_goals
        simp -dsimp
        first
          | refine CallG.by (hf) ?_
          | refine CallGE.by (hf) ?_
          | refine CallGB.by (hf) ?_
        simp -dsimp
        first
          | refine CallG.by (hf') ?_
          | refine CallGE.by (hf') ?_
          | refine CallGB.by (hf') ?_
        simp -dsimp
        first
          | refine CallG.by (hc2) ?_
          | refine CallGE.by (hc2) ?_
          | refine CallGB.by (hc2) ?_
        simp -dsimp
        first
          | refine CallG.by (haw) ?_
          | refine CallGE.by (haw) ?_
          | refine CallGB.by (haw) ?_
        simp -dsimp
        refine retP_c ?_
        simp -dsimp
  · have hv' : (isgB G && isgB H) = false := by
      rw [Bool.eq_false_iff]
      intro e
      rw [Bool.and_eq_true] at e
      exact hv e
    rw [hv'] at ha hm hc
    simp only [if_false, Bool.false_eq_true] at ha hm hc
    simp -dsimp
    first
      | refine CallG.by (hf) ?_
      | refine CallGE.by (hf) ?_
      | refine CallGB.by (hf) ?_
    simp -dsimp
    first
      | refine CallG.by (hf') ?_
      | refine CallGE.by (hf') ?_
      | refine CallGB.by (hf') ?_
    simp -dsimp
    first
      | refine CallG.by (ha) ?_
      | refine CallGE.by (ha) ?_
      | refine CallGB.by (ha) ?_
    simp -dsimp
    first
      | refine CallG.by (hf) ?_
      | refine CallGE.by (hf) ?_
      | refine CallGB.by (hf) ?_
    simp -dsimp
    first
      | refine CallG.by (hf') ?_
      | refine CallGE.by (hf') ?_
      | refine CallGB.by (hf') ?_
    simp -dsimp
    first
      | refine CallG.by (hm) ?_
      | refine CallGE.by (hm) ?_
      | refine CallGB.by (hm) ?_
    simp -dsimp
    first
      | refine CallG.by (hf) ?_
      | refine CallGE.by (hf) ?_
      | refine CallGB.by (hf) ?_
    simp -dsimp
    first
      | refine CallG.by (hf') ?_
      | refine CallGE.by (hf') ?_
      | refine CallGB.by (hf') ?_
    simp -dsimp
    first
      | refine CallG.by (hfr) ?_
      | refine CallGE.by (hfr) ?_
      | refine CallGB.by (hfr) ?_
    simp -dsimp
    first
      | refine CallG.by (hc) ?_
      | refine CallGE.by (hc) ?_
      | refine CallGB.by (hc) ?_
    simp -dsimp
    first
      | refine CallG.by (haw) ?_
      | refine CallGE.by (haw) ?_
      | refine CallGB.by (haw) ?_
    simp -dsimp
    refine retP_c ?_
    simp -dsimp
end Go.Proofs.YtfcbmcmkakceaaaDoor
