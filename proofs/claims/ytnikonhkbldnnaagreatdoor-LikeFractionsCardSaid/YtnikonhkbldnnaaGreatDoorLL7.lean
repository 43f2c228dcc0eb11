import Derived.Test.YtnikonhkbldnnaaGreatDoorLL6
import Derived.Test.YtnikonhkbldnnaaGreatDoorLR5
import Derived.Test.YtnikonhkbldnnaaGreatDoorLR8
/- LL7: law Fractions. -/
set_option linter.unusedVariables false
set_option linter.unusedSimpArgs false
set_option maxRecDepth 20000
namespace Go.Proofs.YtnikonhkbldnnaaGreatDoor
open Go Go.PS
attribute [-simp] isKeyK List.map_take
theorem cut_row {r : List (Int × Int)} {n : Nat} (hn : n ≤ 6) : ((r.take 9).length == n && (r.take 9).all okI) = (r.length == n && r.all okI) := by
  by_cases h : r.length ≤ 9
  · rw [List.take_of_length_le h]
  · have h1 : (r.length == n) = false := beq_eq_false_iff_ne.2 (by omega)
    have h2 : ((r.take 9).length == n) = false := beq_eq_false_iff_ne.2 (by rw [List.length_take]; omega)
    rw [h1, h2, Bool.false_and, Bool.false_and]
theorem cut_valid (X : List (List (Int × Int))) {n m : Nat} (hn : n ≤ 6) (hm : m ≤ 6) : validX n m (cutF X 9) = validX n m X := by
  unfold validX cutF
  by_cases h : X.length ≤ 9
  · rw [List.take_of_length_le h, List.length_map, List.all_map]
    congr 3
    funext r
    exact cut_row hm
  · have h1 : (X.length == n) = false := beq_eq_false_iff_ne.2 (by omega)
    have h2 : (((X.take 9).map fun r => r.take 9).length == n) = false := beq_eq_false_iff_ne.2 (by rw [List.length_map, List.length_take]; omega)
    rw [h1, h2, Bool.false_and, Bool.false_and]
theorem cut_same {X : List (List (Int × Int))} {n m : Nat} (hn : n ≤ 6) (hm : m ≤ 6) (h : validX n m X = true) : cutF X 9 = X := by
  unfold validX at h
  simp only [Bool.and_eq_true, beq_iff_eq, List.all_eq_true] at h
  unfold cutF
  rw [List.take_of_length_le (by omega)]
  refine (List.map_congr_left fun r hr => ?_).trans (List.map_id _)
  have := (h.2.2 r hr).1
  exact List.take_of_length_le (by omega)
theorem cut_chk (X : List (List (Int × Int))) {a b : List Nat} (ha : a.length ≤ 6) (hb : b.length ≤ 6) : chkX a b (cutF X 9) = chkX a b X := by
  unfold chkX
  rw [cut_valid X ha hb]
  cases h : validX a.length b.length X
  · rfl
  · rw [cut_same ha hb h]
theorem fractions_true (g h : List Int) (X : List (List (Int × Int))) : PCall Tryz.prog 3 [eIs g, eIs h, eFss X] (pB true) [] := by
  have hf := few_spec g
  have hf' := few_spec h
  have hfr := fracs_spec X
  have haw := awake_spec
  have htw := two_spec g h
  have hm := fraction_spec (g.take 10) (h.take 10)
  have hc := checkF_spec (g.take 10) (h.take 10) (cutF X 9)
  rw [frcF] at hm
  rw [cfF] at hc
  rw [(take_isg g).1, (take_isg h).1] at hm hc
  refine pcall_wp _ Tryz.func3 rfl (by kernel_rfl) rfl ?_
  by_cases hv : isgB g = true ∧ isgB h = true
  · have hv' : (isgB g && isgB h) = true := by rw [hv.1, hv.2]; rfl
    have tg := town_tow hv.1
    have th := town_tow hv.2
    have bg : eNs (townOf g) = eIs g := by rw [eNs, town_back hv.1]
    have bh : eNs (townOf h) = eIs h := by rw [eNs, town_back hv.2]
    have hal := ralike_spec (townOf g) (townOf h) tg th
    have hi1 := isFr_spec (townOf g) (townOf h) X tg th
    have hi2 := isFr_spec (townOf g) (townOf h) (frX (townOf g) (townOf h)) tg th
    have ht := fun e => frac_chk tg th e
    rw [bg, bh] at hal hi1 hi2
    rw [(take_isg g).2 hv.1, (take_isg h).2 hv.2] at hm hc
    rw [(take_isg g).2 hv.1] at hf
    rw [(take_isg h).2 hv.2] at hf'
    rw [cut_chk X tg.le th.le] at hc
    rw [hv'] at hm hc htw
    simp only [if_true] at hm hc
    generalize frX (townOf g) (townOf h) = Z at *
    generalize chkX (townOf g) (townOf h) X = cX at *
    generalize chkX (townOf g) (townOf h) Z = cZ at *
    generalize cutF X 9 = Y at *
    cases hl : likeN (townOf g) (townOf h)
    · rw [hl] at hal hm
      simp only [if_false, Bool.false_eq_true] at hm
      cases cX
      all_goals
        simp -dsimp
        first
          | refine CallG.by (hf) ?_
          | refine CallGE.by (hf) ?_
          | refine CallGB.by (hf) ?_
        simp -dsimp
        first
          | refine CallG.by (hf') ?_
          | refine CallGE.by (hf') ?_
          | refine CallGB.by (hf') ?_
        simp -dsimp
        first
          | refine CallG.by (hm) ?_
          | refine CallGE.by (hm) ?_
          | refine CallGB.by (hm) ?_
        simp -dsimp
        first
          | refine CallG.by (hf) ?_
          | refine CallGE.by (hf) ?_
          | refine CallGB.by (hf) ?_
        simp -dsimp
        first
          | refine CallG.by (hf') ?_
          | refine CallGE.by (hf') ?_
          | refine CallGB.by (hf') ?_
        simp -dsimp
        first
          | refine CallG.by (hfr) ?_
          | refine CallGE.by (hfr) ?_
          | refine CallGB.by (hfr) ?_
        simp -dsimp
        first
          | refine CallG.by (hc) ?_
          | refine CallGE.by (hc) ?_
          | refine CallGB.by (hc) ?_
        simp -dsimp
        first
          | refine CallG.by (htw) ?_
          | refine CallGE.by (htw) ?_
          | refine CallGB.by (htw) ?_
        simp -dsimp
        first
          | refine CallG.by (hi1) ?_
          | refine CallGE.by (hi1) ?_
          | refine CallGB.by (hi1) ?_
        simp -dsimp
        first
          | refine CallG.by (haw) ?_
          | refine CallGE.by (haw) ?_
          | refine CallGB.by (haw) ?_
        simp -dsimp
        first
          | refine CallG.by (hal) ?_
          | refine CallGE.by (hal) ?_
          | refine CallGB.by (hal) ?_
        simp -dsimp
        refine retP_c ?_
        simp -dsimp
    · rw [hl] at hal hm ht
      have hcZ : cZ = true := ht rfl
      subst hcZ
      simp only [if_true] at hm
      cases cX
      all_goals
        simp -dsimp
        first
          | refine CallG.by (hf) ?_
          | refine CallGE.by (hf) ?_
          | refine CallGB.by (hf) ?_
        simp -dsimp
        first
          | refine CallG.by (hf') ?_
          | refine CallGE.by (hf') ?_
          | refine CallGB.by (hf') ?_
        simp -dsimp
        first
          | refine CallG.by (hm) ?_
          | refine CallGE.by (hm) ?_
          | refine CallGB.by (hm) ?_
        simp -dsimp
        first
          | refine CallG.by (hf) ?_
          | refine CallGE.by (hf) ?_
          | refine CallGB.by (hf) ?_
        simp -dsimp
        first
          | refine CallG.by (hf') ?_
          | refine CallGE.by (hf') ?_
          | refine CallGB.by (hf') ?_
        simp -dsimp
        first
          | refine CallG.by (hfr) ?_
          | refine CallGE.by (hfr) ?_
          | refine CallGB.by (hfr) ?_
        simp -dsimp
        first
          | refine CallG.by (hc) ?_
          | refine CallGE.by (hc) ?_
          | refine CallGB.by (hc) ?_
        simp -dsimp
        first
          | refine CallG.by (htw) ?_
          | refine CallGE.by (htw) ?_
          | refine CallGB.by (htw) ?_
        simp -dsimp
        first
          | refine CallG.by (hi1) ?_
          | refine CallGE.by (hi1) ?_
          | refine CallGB.by (hi1) ?_
        simp -dsimp
        first
          | refine CallG.by (haw) ?_
          | refine CallGE.by (haw) ?_
          | refine CallGB.by (haw) ?_
        simp -dsimp
        first
          | refine CallG.by (hal) ?_
          | refine CallGE.by (hal) ?_
          | refine CallGB.by (hal) ?_
        simp -dsimp
        first
          | refine CallG.by (hi2) ?_
          | refine CallGE.by (hi2) ?_
          | refine CallGB.by (hi2) ?_
        simp -dsimp
        refine retP_c ?_
        simp -dsimp
  · have hv' : (isgB g && isgB h) = false := by
      rw [Bool.eq_false_iff]
      intro e
      rw [Bool.and_eq_true] at e
      exact hv e
    rw [hv'] at htw hm hc
    simp only [if_false, Bool.false_eq_true] at hm hc
    generalize g.take 10 = G at *
    generalize h.take 10 = H at *
    generalize cutF X 9 = Y at *
    simp -dsimp
    first
      | refine CallG.by (hf) ?_
      | refine CallGE.by (hf) ?_
      | refine CallGB.by (hf) ?_
    simp -dsimp
    first
      | refine CallG.by (hf') ?_
      | refine CallGE.by (hf') ?_
      | refine CallGB.by (hf') ?_
    simp -dsimp
    first
      | refine CallG.by (hm) ?_
      | refine CallGE.by (hm) ?_
      | refine CallGB.by (hm) ?_
    simp -dsimp
    first
      | refine CallG.by (hf) ?_
      | refine CallGE.by (hf) ?_
      | refine CallGB.by (hf) ?_
    simp -dsimp
    first
      | refine CallG.by (hf') ?_
      | refine CallGE.by (hf') ?_
      | refine CallGB.by (hf') ?_
    simp -dsimp
    first
      | refine CallG.by (hfr) ?_
      | refine CallGE.by (hfr) ?_
      | refine CallGB.by (hfr) ?_
    simp -dsimp
    first
      | refine CallG.by (hc) ?_
      | refine CallGE.by (hc) ?_
      | refine CallGB.by (hc) ?_
    simp -dsimp
    first
      | refine CallG.by (htw) ?_
      | refine CallGE.by (htw) ?_
      | refine CallGB.by (htw) ?_
    simp -dsimp
    first
      | refine CallG.by (haw) ?_
      | refine CallGE.by (haw) ?_
      | refine CallGB.by (haw) ?_
    simp -dsimp
    refine retP_c ?_
    simp -dsimp
end Go.Proofs.YtnikonhkbldnnaaGreatDoor
