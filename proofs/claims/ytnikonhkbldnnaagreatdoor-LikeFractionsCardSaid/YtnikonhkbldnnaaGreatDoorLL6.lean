import Derived.Test.YtnikonhkbldnnaaGreatDoorLL5
/- LL6: law Alike. -/
set_option linter.unusedVariables false
set_option linter.unusedSimpArgs false
set_option maxRecDepth 20000
namespace Go.Proofs.YtnikonhkbldnnaaGreatDoor
open Go Go.PS
attribute [-simp] isKeyK List.map_take
def frcF (g h : List Int) : TL := if isgB g && isgB h then (if likeN (townOf g) (townOf h) then .tup [eFss (frX (townOf g) (townOf h)), eI 0] else .tup [.v (.slice none 0 0), eI 4]) else .tup [.v (.slice none 0 0), eI 2]
theorem fraction_spec (g h : List Int) : PCall Tryz.prog 8 [eIs g, eIs h] (.t .fz (frcF g h)) [] := by
  by_cases hk : isgB g = true ∧ isgB h = true ∧ likeN (townOf g) (townOf h) = true
  · have := fraction_ok g h hk.1 hk.2.1 hk.2.2
    rw [frcF, hk.1, hk.2.1, hk.2.2]
    exact this
  · have hbo := both_spec g h
    rw [bothF] at hbo
    have hsh : isgB g = true → isgB h = true → PCall Tryz.prog 34 [eIs g, eIs h] (.t .fz (.tup [eNs (shN (townOf g) (townOf h)).1, eNs (shN (townOf g) (townOf h)).2, eB (likeN (townOf g) (townOf h))])) [] := fun h1 h2 => by
      have := shades_spec (townOf g) (townOf h) (town_tow h1) (town_tow h2)
      rw [show eNs (townOf g) = eIs g by rw [eNs, town_back h1], show eNs (townOf h) = eIs h by rw [eNs, town_back h2]] at this
      exact this
    have hF : frcF g h = if isgB g && isgB h then (if likeN (townOf g) (townOf h) then .tup [eFss (frX (townOf g) (townOf h)), eI 0] else .tup [.v (.slice none 0 0), eI 4]) else .tup [.v (.slice none 0 0), eI 2] := rfl
    refine pcall_wp _ Tryz.func8 rfl (by kernel_rfl) rfl ?_
    cases hg : isgB g <;> cases hh : isgB h
    all_goals
      rw [hg, hh] at hbo hF
      simp only [if_true, Bool.false_eq_true, if_false, Bool.and_true, Bool.and_false, Bool.true_and, Bool.false_and, Bool.and_self, nilT] at hbo hF
    · simp -dsimp
      first
        | refine CallG.by (hbo) ?_
        | refine CallGE.by (hbo) ?_
        | refine CallGB.by (hbo) ?_
      simp -dsimp
      refine retP_c ?_
      simp -dsimp [hF]
    · simp -dsimp
      first
        | refine CallG.by (hbo) ?_
        | refine CallGE.by (hbo) ?_
        | refine CallGB.by (hbo) ?_
      simp -dsimp
      refine retP_c ?_
      simp -dsimp [hF]
    · simp -dsimp
      first
        | refine CallG.by (hbo) ?_
        | refine CallGE.by (hbo) ?_
        | refine CallGB.by (hbo) ?_
      simp -dsimp
      refine retP_c ?_
      simp -dsimp [hF]
    · have hs := hsh hg hh
      have hl : likeN (townOf g) (townOf h) = false := by
        rw [Bool.eq_false_iff]
        exact fun e => hk ⟨hg, hh, e⟩
      rw [hl] at hs hF
      simp only [if_false, Bool.false_eq_true] at hF
      simp -dsimp
      first
        | refine CallG.by (hbo) ?_
        | refine CallGE.by (hbo) ?_
        | refine CallGB.by (hbo) ?_
      simp -dsimp
      first
        | refine CallG.by (hs) ?_
        | refine CallGE.by (hs) ?_
        | refine CallGB.by (hs) ?_
      simp -dsimp
      refine retP_c ?_
      simp -dsimp [hF]
end Go.Proofs.YtnikonhkbldnnaaGreatDoor
