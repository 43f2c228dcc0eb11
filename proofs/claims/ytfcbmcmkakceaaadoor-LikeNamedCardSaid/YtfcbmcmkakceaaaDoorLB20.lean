import Derived.Test.YtfcbmcmkakceaaaDoorLB19
/- LB20: Maps. -/
set_option linter.unusedVariables false
set_option linter.unusedSimpArgs false
set_option maxRecDepth 20000
namespace Go.Proofs.YtfcbmcmkakceaaaDoor
open Go Go.PS
attribute [-simp] isKeyK List.map_take
def mapsF (t g : List Int) : TL := if isgB t && isgB g then .tup [eI (mapsN (townOf t) (townOf g) t.length [] : Nat), eI 0] else .tup [eI 0, eI 2]
theorem maps_spec (t g : List Int) : PCall Tryd.prog 30 [eIs t, eIs g] (.t .fz (mapsF t g)) [] := by
  have hbo := both_spec t g
  refine pcall_wp _ Tryd.func30 rfl (by kernel_rfl) rfl ?_
  rw [bothF] at hbo
  have hF : mapsF t g = if isgB t && isgB g then .tup [eI (mapsN (townOf t) (townOf g) t.length [] : Nat), eI 0] else .tup [eI 0, eI 2] := rfl
  cases ht : isgB t <;> cases hg : isgB g
  all_goals
    rw [ht, hg] at hbo hF
    simp only [if_true, Bool.false_eq_true, if_false, Bool.and_true, Bool.and_false, Bool.true_and, Bool.false_and, Bool.and_self, nilT] at hbo hF
  · simp -dsimp
    first
      | refine CallG.by (hbo) ?_
      | refine CallGE.by (hbo) ?_
      | refine CallGB.by (hbo) ?_
    simp -dsimp
    refine retP_c ?_
    simp -dsimp [hF]
  · simp -dsimp
    first
      | refine CallG.by (hbo) ?_
      | refine CallGE.by (hbo) ?_
      | refine CallGB.by (hbo) ?_
    simp -dsimp
    refine retP_c ?_
    simp -dsimp [hF]
  · simp -dsimp
    first
      | refine CallG.by (hbo) ?_
      | refine CallGE.by (hbo) ?_
      | refine CallGB.by (hbo) ?_
    simp -dsimp
    refine retP_c ?_
    simp -dsimp [hF]
  · have hm := mapsG_spec (townOf t) (townOf g) (town_tow ht) (town_tow hg) t.length [] (by simp [town_len]) (fun u hu => by simp at hu)
    rw [mpM, show eNs (townOf t) = eIs t by rw [eNs, town_back ht], show eNs (townOf g) = eIs g by rw [eNs, town_back hg]] at hm
    generalize mapsN (townOf t) (townOf g) t.length [] = m at *
    have hm' := ecall_adopt (M := [(1000000, .blk 22 [.t .fz (.v (.slice none 0 0))]), (1000001, .blk 84 [.t .ro (eIs t)]), (1000002, .blk 84 [.t .ro (eIs g)]), (1000003, .blk 100 [.clo 67 [.ptr 1000000 0, .ptr 1000001 0, .ptr 1000002 0, .ptr 1000003 0]])]) 1000000 0 1001 22 3 1 (k := .fz) (cs := [.t .fz (.v (.slice none 0 0))]) hm (fun q => by
      by_cases h1 : q = 1000000
      · subst h1; simp
      · by_cases h2 : q = 1001
        · subst h2; simp
        · simp [h1, h2, Ne.symm h1, Ne.symm h2]) (by simp) rfl (by simp) (by decide) (by decide) (by simp) (by simp)
    simp -dsimp
    first
      | refine CallG.by (hbo) ?_
      | refine CallGE.by (hbo) ?_
      | refine CallGB.by (hbo) ?_
    simp -dsimp
    first
      | refine CallG.on (g := [(9, 1000000), (6, 1000001), (7, 1000002), (10, 1000003), (120, 1001)]) (hm') (by decide) (by simp) (by simp) (by simp [Sg.bk]) ?_
      | refine CallN.on (g := [(9, 1000000), (6, 1000001), (7, 1000002), (10, 1000003), (120, 1001)]) (hm') (by decide) (by simp) (by simp) (by simp [Sg.bk]) ?_
      | refine CallGB.on (g := [(9, 1000000), (6, 1000001), (7, 1000002), (10, 1000003), (120, 1001)]) (hm') (by decide) (by simp) (by simp) (by simp [Sg.bk]) ?_
    simp -dsimp
    refine retP_c ?_
    simp -dsimp [hF]
end Go.Proofs.YtfcbmcmkakceaaaDoor
