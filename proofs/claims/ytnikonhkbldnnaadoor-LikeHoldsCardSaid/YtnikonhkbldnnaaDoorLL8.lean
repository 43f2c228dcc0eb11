import Derived.Test.YtnikonhkbldnnaaDoorLB31
import Derived.Test.YtnikonhkbldnnaaDoorLR10
import Derived.Test.YtnikonhkbldnnaaDoorLR1
/- LL8: law Holds. -/
set_option linter.unusedVariables false
set_option linter.unusedSimpArgs false
set_option maxRecDepth 20000
namespace Go.Proofs.YtnikonhkbldnnaaDoor
open Go Go.PS
attribute [-simp] isKeyK List.map_take
theorem holds_true (g : List Int) (f : FT) : PCall Tryd.prog 4 [eIs g, .agg (ftC f)] (pB true) [] := by
  have hf := few_spec g
  have haw := awake_spec
  have hv := valid_spec g
  have ho := Of_spec f
  generalize ofF f = z at *
  have hh := Holds_spec (g.take 10) z
  have hfo := Formula_spec z
  have hcl : formOk z = true → PCall Tryd.prog 16 [.agg (ftC z), eI (0 : Nat)] (pB (closF z 0)) [] := fun h => closedR_spec _ z (Nat.le_refl _) (form_shaped h).1 0 (by decide)
  have hhr : isgB g = true → formOk z = true → PCall Tryd.prog 17 [eIs g, .agg (ftC z)] (pB (trF (townOf g) z 0)) [] := fun hg h => HoldsR_spec g z hg (form_shaped h).1
  rw [hldF, (take_isg g).1] at hh
  obtain ⟨o, a, b, ks, hk⟩ := ft_split f
  obtain ⟨o', a', b', ks', hk'⟩ := ft_split z
  rw [hk, ftC_mk] at ho
  rw [hk, ftC_mk]
  rw [hk', ftC_mk] at ho
  rw [hk', ftC_mk, ← hk'] at hh hfo hcl hhr
  refine pcall_wp _ Tryd.func4 rfl (by kernel_rfl) rfl ?_
  cases hg : isgB g
  · rw [hg] at hh hv
    simp only [Bool.false_eq_true, if_false, Bool.false_and] at hh
    generalize g.take 10 = G at *
    simp -dsimp
    first
      | refine CallG.by (ho) ?_
      | refine CallGE.by (ho) ?_
      | refine CallGB.by (ho) ?_
    simp -dsimp
    refine wk_draw 8 [3] mixed (by kernel_rfl) ?_
    simp -dsimp
    first
      | refine CallG.by (hf) ?_
      | refine CallGE.by (hf) ?_
      | refine CallGB.by (hf) ?_
    simp -dsimp
    first
      | refine CallG.by (hh) ?_
      | refine CallGE.by (hh) ?_
      | refine CallGB.by (hh) ?_
    simp -dsimp
    first
      | refine CallG.by (hv) ?_
      | refine CallGE.by (hv) ?_
      | refine CallGB.by (hv) ?_
    simp -dsimp
    first
      | refine CallG.by (haw) ?_
      | refine CallGE.by (haw) ?_
      | refine CallGB.by (haw) ?_
    simp -dsimp
    refine retP_c ?_
    simp -dsimp
  · rw [hg] at hh hv
    have hhr := hhr hg
    rw [(take_isg g).2 hg] at hf hh
    simp only [Bool.true_and] at hh
    generalize trF (townOf g) z 0 = w at *
    cases hfz : formOk z
    · rw [hfz] at hh hfo
      simp only [Bool.false_eq_true, if_false, Bool.false_and] at hh
      simp -dsimp
      first
        | refine CallG.by (ho) ?_
        | refine CallGE.by (ho) ?_
        | refine CallGB.by (ho) ?_
      simp -dsimp
      refine wk_draw 8 [3] mixed (by kernel_rfl) ?_
      simp -dsimp
      first
        | refine CallG.by (hf) ?_
        | refine CallGE.by (hf) ?_
        | refine CallGB.by (hf) ?_
      simp -dsimp
      first
        | refine CallG.by (hh) ?_
        | refine CallGE.by (hh) ?_
        | refine CallGB.by (hh) ?_
      simp -dsimp
      first
        | refine CallG.by (hv) ?_
        | refine CallGE.by (hv) ?_
        | refine CallGB.by (hv) ?_
      simp -dsimp
      first
        | refine CallG.by (hfo) ?_
        | refine CallGE.by (hfo) ?_
        | refine CallGB.by (hfo) ?_
      simp -dsimp
      first
        | refine CallG.by (haw) ?_
        | refine CallGE.by (haw) ?_
        | refine CallGB.by (haw) ?_
      simp -dsimp
      refine retP_c ?_
      simp -dsimp
    · rw [hfz] at hh hfo
      have hcl := hcl hfz
      have hhr := hhr hfz
      simp only [Bool.true_and] at hh
      cases hc : closF z 0
      · rw [hc] at hh hcl
        simp only [Bool.false_eq_true, if_false] at hh
        simp -dsimp
        first
          | refine CallG.by (ho) ?_
          | refine CallGE.by (ho) ?_
          | refine CallGB.by (ho) ?_
        simp -dsimp
        refine wk_draw 8 [3] mixed (by kernel_rfl) ?_
        simp -dsimp
        first
          | refine CallG.by (hf) ?_
          | refine CallGE.by (hf) ?_
          | refine CallGB.by (hf) ?_
        simp -dsimp
        first
          | refine CallG.by (hh) ?_
          | refine CallGE.by (hh) ?_
          | refine CallGB.by (hh) ?_
        simp -dsimp
        first
          | refine CallG.by (hv) ?_
          | refine CallGE.by (hv) ?_
          | refine CallGB.by (hv) ?_
        simp -dsimp
        first
          | refine CallG.by (hfo) ?_
          | refine CallGE.by (hfo) ?_
          | refine CallGB.by (hfo) ?_
        simp -dsimp
        first
          | refine CallG.by (hcl) ?_
          | refine CallGE.by (hcl) ?_
          | refine CallGB.by (hcl) ?_
        simp -dsimp
        first
          | refine CallG.by (haw) ?_
          | refine CallGE.by (haw) ?_
          | refine CallGB.by (haw) ?_
        simp -dsimp
        refine retP_c ?_
        simp -dsimp
      · rw [hc] at hh hcl
        simp only [if_true] at hh
        simp -dsimp
        first
          | refine CallG.by (ho) ?_
          | refine CallGE.by (ho) ?_
          | refine CallGB.by (ho) ?_
        simp -dsimp
        refine wk_draw 8 [3] mixed (by kernel_rfl) ?_
        simp -dsimp
        first
          | refine CallG.by (hf) ?_
          | refine CallGE.by (hf) ?_
          | refine CallGB.by (hf) ?_
        simp -dsimp
        first
          | refine CallG.by (hh) ?_
          | refine CallGE.by (hh) ?_
          | refine CallGB.by (hh) ?_
        simp -dsimp
        first
          | refine CallG.by (hv) ?_
          | refine CallGE.by (hv) ?_
          | refine CallGB.by (hv) ?_
        simp -dsimp
        first
          | refine CallG.by (hfo) ?_
          | refine CallGE.by (hfo) ?_
          | refine CallGB.by (hfo) ?_
        simp -dsimp
        first
          | refine CallG.by (hcl) ?_
          | refine CallGE.by (hcl) ?_
          | refine CallGB.by (hcl) ?_
        simp -dsimp
        first
          | refine CallG.by (hhr) ?_
          | refine CallGE.by (hhr) ?_
          | refine CallGB.by (hhr) ?_
        simp -dsimp
        first
          | refine CallG.by (haw) ?_
          | refine CallGE.by (haw) ?_
          | refine CallGB.by (haw) ?_
        simp -dsimp
        refine retP_c ?_
        simp -dsimp
end Go.Proofs.YtnikonhkbldnnaaDoor
