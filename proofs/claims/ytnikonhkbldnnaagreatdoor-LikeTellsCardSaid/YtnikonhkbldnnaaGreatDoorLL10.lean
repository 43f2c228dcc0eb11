import Derived.Test.YtnikonhkbldnnaaGreatDoorLB36
import Derived.Test.YtnikonhkbldnnaaGreatDoorLB38
import Derived.Test.YtnikonhkbldnnaaGreatDoorLR10
import Derived.Test.YtnikonhkbldnnaaGreatDoorLL1
/- LL10: law Tells. -/
set_option linter.unusedVariables false
set_option linter.unusedSimpArgs false
set_option maxRecDepth 20000
namespace Go.Proofs.YtnikonhkbldnnaaGreatDoor
open Go Go.PS
attribute [-simp] isKeyK List.map_take
theorem none_spec : PCall Tryz.prog 17 [.agg foZ] (pB true) [] := by
  unfold foZ nilT
  refine pcall_wp _ Tryz.func17 rfl (by kernel_rfl) rfl ?_
  simp -dsimp
  refine retP_c ?_
  simp -dsimp
theorem tells_true (g h : List Int) (k : Int) : PCall Tryz.prog 4 [eIs g, eIs h, eI k] (pB true) [] := by
  have hf := few_spec g
  have hf' := few_spec h
  have hw := Tell_spec (g.take 10) (h.take 10) k
  have ht := two_spec g h
  have ha := awake_spec
  have hno := none_spec
  obtain ⟨t1, t2⟩ := take_isg g
  obtain ⟨t1', t2'⟩ := take_isg h
  have hrf := fun h1 h2 h3 => answ_back (g := g) (h := h) (a := []) (b := []) (k := k) h1 h2 h3 ⟨rfl, by simp⟩ rfl rfl
  rw [TelF, t1, t1'] at hw
  refine pcall_wp _ Tryz.func4 rfl (by kernel_rfl) rfl ?_
  cases hb : isgB g && isgB h with
  | false =>
    rw [hb] at hw ht
    simp only [Bool.false_and, Bool.false_eq_true, if_false] at hw
    unfold foZ nilT at *
    simp -dsimp
    first
      | refine CallG.by (hf) ?_
      | refine CallGE.by (hf) ?_
      | refine CallGB.by (hf) ?_
    simp -dsimp
    first
      | refine CallG.by (hf') ?_
      | refine CallGE.by (hf') ?_
      | refine CallGB.by (hf') ?_
    simp -dsimp
    first
      | refine CallG.by (hw) ?_
      | refine CallGE.by (hw) ?_
      | refine CallGB.by (hw) ?_
    simp -dsimp
    first
      | refine CallG.by (ht) ?_
      | refine CallGE.by (ht) ?_
      | refine CallGB.by (ht) ?_
    simp -dsimp
    first
      | refine CallG.by (hno) ?_
      | refine CallGE.by (hno) ?_
      | refine CallGB.by (hno) ?_
    simp -dsimp
    first
      | refine CallG.by (ha) ?_
      | refine CallGE.by (ha) ?_
      | refine CallGB.by (ha) ?_
    simp -dsimp
    refine retP_c ?_
    simp -dsimp
  | true =>
    rw [hb] at hw ht
    simp only [Bool.true_and] at hw
    rw [Bool.and_eq_true] at hb
    rw [t2 hb.1, t2' hb.2] at hw
    rw [t2 hb.1] at hf
    rw [t2' hb.2] at hf'
    by_cases h1 : k < 0
    · rw [decide_eq_false (by omega)] at hw
      simp only [Bool.false_eq_true, if_false] at hw
      unfold foZ nilT at *
      simp -dsimp
      first
        | refine CallG.by (hf) ?_
        | refine CallGE.by (hf) ?_
        | refine CallGB.by (hf) ?_
      simp -dsimp
      first
        | refine CallG.by (hf') ?_
        | refine CallGE.by (hf') ?_
        | refine CallGB.by (hf') ?_
      simp -dsimp
      first
        | refine CallG.by (hw) ?_
        | refine CallGE.by (hw) ?_
        | refine CallGB.by (hw) ?_
      simp -dsimp
      first
        | refine CallG.by (ht) ?_
        | refine CallGE.by (ht) ?_
        | refine CallGB.by (ht) ?_
      simp -dsimp [h1]
      first
        | refine CallG.by (hno) ?_
        | refine CallGE.by (hno) ?_
        | refine CallGB.by (hno) ?_
      simp -dsimp
      first
        | refine CallG.by (ha) ?_
        | refine CallGE.by (ha) ?_
        | refine CallGB.by (ha) ?_
      simp -dsimp
      refine retP_c ?_
      simp -dsimp
    by_cases h2 : 3 < k
    · rw [decide_eq_false (by omega)] at hw
      simp only [Bool.false_eq_true, if_false] at hw
      unfold foZ nilT at *
      simp -dsimp
      first
        | refine CallG.by (hf) ?_
        | refine CallGE.by (hf) ?_
        | refine CallGB.by (hf) ?_
      simp -dsimp
      first
        | refine CallG.by (hf') ?_
        | refine CallGE.by (hf') ?_
        | refine CallGB.by (hf') ?_
      simp -dsimp
      first
        | refine CallG.by (hw) ?_
        | refine CallGE.by (hw) ?_
        | refine CallGB.by (hw) ?_
      simp -dsimp
      first
        | refine CallG.by (ht) ?_
        | refine CallGE.by (ht) ?_
        | refine CallGB.by (ht) ?_
      simp -dsimp [h1, h2]
      first
        | refine CallG.by (hno) ?_
        | refine CallGE.by (hno) ?_
        | refine CallGB.by (hno) ?_
      simp -dsimp
      first
        | refine CallG.by (ha) ?_
        | refine CallGE.by (ha) ?_
        | refine CallGB.by (ha) ?_
      simp -dsimp
      refine retP_c ?_
      simp -dsimp
    rw [decide_eq_true (by omega)] at hw
    simp only [if_true] at hw
    have hr := nil_argT 4 (nil_argT 3 (hrf hb.1 hb.2 (by omega)) rfl) rfl
    simp only [List.set_cons_succ, List.set_cons_zero] at hr
    have htt := tell_true k.toNat (t := townOf g) (s := townOf h) (a := []) (b := []) (town_tow hb.1) (town_tow hb.2) rfl (by simp; omega)
    rw [show townOf [] = [] from rfl] at hr
    have hgl : 0 < (townOf g).length := by have := isg_parts hb.1; rw [town_len]; omega
    have hhl : 0 < (townOf h).length := by have := isg_parts hb.2; rw [town_len]; omega
    cases hF : tellF k.toNat (townOf g) (townOf h) [] [] with
    | none =>
      rw [htt.1.1 hF] at hr
      rw [hF] at hw
      simp only at hw
      unfold foZ nilT at *
      simp -dsimp
      first
        | refine CallG.by (hf) ?_
        | refine CallGE.by (hf) ?_
        | refine CallGB.by (hf) ?_
      simp -dsimp
      first
        | refine CallG.by (hf') ?_
        | refine CallGE.by (hf') ?_
        | refine CallGB.by (hf') ?_
      simp -dsimp
      first
        | refine CallG.by (hw) ?_
        | refine CallGE.by (hw) ?_
        | refine CallGB.by (hw) ?_
      simp -dsimp
      first
        | refine CallG.by (ht) ?_
        | refine CallGE.by (ht) ?_
        | refine CallGB.by (ht) ?_
      simp -dsimp [h1, h2]
      first
        | refine CallG.by (hr) ?_
        | refine CallGE.by (hr) ?_
        | refine CallGB.by (hr) ?_
      simp -dsimp
      first
        | refine CallG.by (hno) ?_
        | refine CallGE.by (hno) ?_
        | refine CallGB.by (hno) ?_
      simp -dsimp
      first
        | refine CallG.by (ha) ?_
        | refine CallGE.by (ha) ?_
        | refine CallGB.by (ha) ?_
      simp -dsimp
      refine retP_c ?_
      simp -dsimp
    | some f =>
      have hwf : winN k.toNat (townOf g) (townOf h) [] [] = false := by
        rw [Bool.eq_false_iff]
        intro e
        rw [htt.1.2 e] at hF
        cases hF
      rw [hwf] at hr
      rw [hF] at hw
      simp only at hw
      have hok := htt.2 f hF
      obtain ⟨o1, o2, o3, o4, o5, o6⟩ := tell_form (by omega) hok
      have how := pcall_arg (y := .agg (foC f)) 0 (own_spec (ftOf f)) rfl fun w S v hr => fo_agg f w S v hr
      simp only [List.set_cons_zero] at how
      rw [o4] at how
      have hfo := Formula_spec (ftOf f)
      rw [o1] at hfo
      have hsh := (form_shaped o1).1
      have hcl := closedR_spec _ (ftOf f) (Nat.le_refl _) hsh 0 (by decide)
      rw [o2] at hcl
      have hde := depthR_spec _ (ftOf f) (Nat.le_refl _) (by have := hok.sz; have := szB_3 (k := k.toNat) (by omega); rw [ftOf_nodes]; omega)
      have hg1 := HoldsR_spec g (ftOf f) hb.1 hsh
      rw [o5 hgl] at hg1
      have hg2 := HoldsR_spec h (ftOf f) hb.2 hsh
      rw [o6 hhl] at hg2
      have hdk : ((deF (ftOf f) : Nat) : Int) ≤ k := by omega
      generalize deF (ftOf f) = D at *
      obtain ⟨o, a, b, ks, hk⟩ := ft_split (ftOf f)
      rw [hk, ftC_mk] at how hfo hcl hde hg1 hg2
      rcases foC_len f with ⟨o', x', y', hf1⟩ | ⟨o', x', y', ks', hf1⟩
      all_goals
        rw [hf1] at hw how
        simp -dsimp
        first
          | refine CallG.by (hf) ?_
          | refine CallGE.by (hf) ?_
          | refine CallGB.by (hf) ?_
        simp -dsimp
        first
          | refine CallG.by (hf') ?_
          | refine CallGE.by (hf') ?_
          | refine CallGB.by (hf') ?_
        simp -dsimp
        first
          | refine CallG.by (hw) ?_
          | refine CallGE.by (hw) ?_
          | refine CallGB.by (hw) ?_
        simp -dsimp
        first
          | refine CallG.by (ht) ?_
          | refine CallGE.by (ht) ?_
          | refine CallGB.by (ht) ?_
        simp -dsimp [h1, h2]
        first
          | refine CallG.by (hr) ?_
          | refine CallGE.by (hr) ?_
          | refine CallGB.by (hr) ?_
        simp -dsimp
        first
          | refine CallG.by (how) ?_
          | refine CallGE.by (how) ?_
          | refine CallGB.by (how) ?_
        simp -dsimp
        first
          | refine CallG.by (hfo) ?_
          | refine CallGE.by (hfo) ?_
          | refine CallGB.by (hfo) ?_
        simp -dsimp
        first
          | refine CallG.by (hcl) ?_
          | refine CallGE.by (hcl) ?_
          | refine CallGB.by (hcl) ?_
        simp -dsimp
        first
          | refine CallG.by (hde) ?_
          | refine CallGE.by (hde) ?_
          | refine CallGB.by (hde) ?_
        simp -dsimp [hdk]
        first
          | refine CallG.by (hg1) ?_
          | refine CallGE.by (hg1) ?_
          | refine CallGB.by (hg1) ?_
        simp -dsimp
        first
          | refine CallG.by (hg2) ?_
          | refine CallGE.by (hg2) ?_
          | refine CallGB.by (hg2) ?_
        simp -dsimp
        first
          | refine CallG.by (ha) ?_
          | refine CallGE.by (ha) ?_
          | refine CallGB.by (ha) ?_
        simp -dsimp
        refine retP_c ?_
        simp -dsimp
end Go.Proofs.YtnikonhkbldnnaaGreatDoor
