import Derived.Test.YtnikonhkbldnnaaGreatDoorLB47
import Derived.Test.YtnikonhkbldnnaaGreatDoorLB48
import Derived.Test.YtnikonhkbldnnaaGreatDoorLB36
import Derived.Test.YtnikonhkbldnnaaGreatDoorLB38
import Derived.Test.YtnikonhkbldnnaaGreatDoorLR1
import Derived.Test.YtnikonhkbldnnaaGreatDoorLB30
/- LL12: law Told. -/
set_option linter.unusedVariables false
set_option linter.unusedSimpArgs false
set_option maxRecDepth 20000
namespace Go.Proofs.YtnikonhkbldnnaaGreatDoor
open Go Go.PS
attribute [-simp] isKeyK List.map_take
/-- A formula that is one is read back. -/
theorem parse_back {f : Fo} (hok : formOk (ftOf f) = true) (hv : vokF f) : ParF (prF f) = .tup [.agg (ftC (ftOf f)), eI 0] ∧ (prF f).length < 100000 := by
  have h := hok
  unfold formOk at h
  rw [ftOf_nodes, ftOf_dp] at h
  simp only [Bool.and_eq_true, decide_eq_true_eq] at h
  have hl := prT_len (ftOf f)
  rw [ftOf_pr, ftOf_nodes] at hl
  have hp := pF_to f 40 [] hv h.1.2
  rw [List.append_nil] at hp
  refine ⟨?_, by omega⟩
  rw [ParF, if_neg (by omega), parP, hp]
  simp only
  rw [if_pos hok]
theorem told_true (g h : List Int) (k : Int) : PCall Tryz.prog 7 [eIs g, eIs h, eI k] (pB true) [] := by
  have hf := few_spec g
  have hf' := few_spec h
  have hw := Tell_spec (g.take 10) (h.take 10) k
  have hw2 := Tell_spec (h.take 10) (g.take 10) k
  have ha := awake_spec
  have hno := none_z
  obtain ⟨t1, t2⟩ := take_isg g
  obtain ⟨t1', t2'⟩ := take_isg h
  rw [TelF, t1, t1'] at hw
  refine pcall_wp _ Tryz.func7 rfl (by kernel_rfl) rfl ?_
  cases hb : ((isgB g && isgB h) && decide (0 ≤ k ∧ k ≤ 3)) with
  | false =>
    rw [hb] at hw
    simp only [Bool.false_eq_true, if_false] at hw
    unfold foZ nilT at *
    simp -dsimp
    first
      | refine CallG.by (hf) ?_
      | refine CallGE.by (hf) ?_
      | refine CallGB.by (hf) ?_
    simp -dsimp
    first
      | refine CallG.by (hf') ?_
      | refine CallGE.by (hf') ?_
      | refine CallGB.by (hf') ?_
    simp -dsimp
    first
      | refine CallG.by (hw) ?_
      | refine CallGE.by (hw) ?_
      | refine CallGB.by (hw) ?_
    simp -dsimp
    first
      | refine CallG.by (hno) ?_
      | refine CallGE.by (hno) ?_
      | refine CallGB.by (hno) ?_
    simp -dsimp
    first
      | refine CallG.by (ha) ?_
      | refine CallGE.by (ha) ?_
      | refine CallGB.by (ha) ?_
    simp -dsimp
    refine retP_c ?_
    simp -dsimp
  | true =>
    rw [hb] at hw
    simp only [if_true] at hw
    rw [Bool.and_eq_true, Bool.and_eq_true, decide_eq_true_eq] at hb
    obtain ⟨⟨hg, hh⟩, hk⟩ := hb
    rw [t2 hg, t2' hh] at hw
    rw [t2 hg] at hf
    rw [t2' hh] at hf'
    rw [t2 hg, t2' hh] at hw2
    have htt := tell_true k.toNat (t := townOf g) (s := townOf h) (a := []) (b := []) (town_tow hg) (town_tow hh) rfl (by simp; omega)
    have hgl : 0 < (townOf g).length := by have := isg_parts hg; rw [town_len]; omega
    have hhl : 0 < (townOf h).length := by have := isg_parts hh; rw [town_len]; omega
    cases hF : tellF k.toNat (townOf g) (townOf h) [] [] with
    | none =>
      rw [hF] at hw
      simp only at hw
      unfold foZ nilT at *
      simp -dsimp
      first
        | refine CallG.by (hf) ?_
        | refine CallGE.by (hf) ?_
        | refine CallGB.by (hf) ?_
      simp -dsimp
      first
        | refine CallG.by (hf') ?_
        | refine CallGE.by (hf') ?_
        | refine CallGB.by (hf') ?_
      simp -dsimp
      first
        | refine CallG.by (hw) ?_
        | refine CallGE.by (hw) ?_
        | refine CallGB.by (hw) ?_
      simp -dsimp
      first
        | refine CallG.by (hno) ?_
        | refine CallGE.by (hno) ?_
        | refine CallGB.by (hno) ?_
      simp -dsimp
      first
        | refine CallG.by (ha) ?_
        | refine CallGE.by (ha) ?_
        | refine CallGB.by (ha) ?_
      simp -dsimp
      refine retP_c ?_
      simp -dsimp
    | some f =>
      have hwf : winN k.toNat (townOf g) (townOf h) [] [] = false := by
        rw [Bool.eq_false_iff]
        intro e
        rw [htt.1.2 e] at hF
        cases hF
      rw [hF] at hw
      simp only at hw
      have hok := htt.2 f hF
      obtain ⟨o1, o2, o3, o4, o5, o6⟩ := tell_form (by omega) hok
      have hvk := hok.vok
      have arg : ∀ {fn : Nat} {y : PV} {Mr : List (Nat × Res)}, PCall Tryz.prog fn [.agg (ftC (ftOf f))] y Mr → PCall Tryz.prog fn [.agg (foC f)] y Mr := fun h0 => by
        have := pcall_arg (y := .agg (foC f)) 0 h0 rfl fun w S v hr => fo_agg f w S v hr
        simpa using this
      have arg1 : ∀ {fn : Nat} {x : TL} {y : PV} {Mr : List (Nat × Res)}, PCall Tryz.prog fn [x, .agg (ftC (ftOf f))] y Mr → PCall Tryz.prog fn [x, .agg (foC f)] y Mr := fun h0 => by
        have := pcall_arg (y := .agg (foC f)) 1 h0 rfl fun w S v hr => fo_agg f w S v hr
        simpa using this
      have how := own_spec (ftOf f)
      rw [o4] at how
      have how1 := arg how
      have hde := arg (Depth_spec (ftOf f))
      rw [depF, o1] at hde
      have hh1 := arg1 (Holds_spec g (ftOf f))
      have hh2 := arg1 (Holds_spec h (ftOf f))
      rw [hldF, hg, o1, o2, o5 hgl] at hh1
      rw [hldF, hh, o1, o2, o6 hhl] at hh2
      simp only [Bool.and_self, if_true] at hde hh1 hh2
      have hpr := arg (Print_spec (ftOf f))
      rw [prnF, o1, ftOf_pr] at hpr
      simp only [if_true] at hpr
      obtain ⟨p1, p2⟩ := parse_back o1 hvk
      have hpa := Parse_spec (prF f) p2
      rw [p1] at hpa
      have hsm := same_z (ftOf f)
      have htt2 := tell_true k.toNat (t := townOf h) (s := townOf g) (a := []) (b := []) (town_tow hh) (town_tow hg) rfl (by simp; omega)
      obtain ⟨f2, hF2⟩ : ∃ f2, tellF k.toNat (townOf h) (townOf g) [] [] = some f2 := by
        cases hF2 : tellF k.toNat (townOf h) (townOf g) [] [] with
        | some f2 => exact ⟨f2, rfl⟩
        | none =>
          have := htt2.1.1 hF2
          rw [winN_swap k.toNat (t := townOf h) (s := townOf g) (a := []) (b := []) rfl, hwf] at this
          cases this
      rw [TelF, hg, hh, decide_eq_true hk, hF2] at hw2
      simp only [Bool.and_self, if_true] at hw2
      have hdk : ((deF (ftOf f) : Nat) : Int) ≤ k := by omega
      generalize deF (ftOf f) = D at *
      generalize prF f = T at *
      obtain ⟨o, a, b, ks, hk⟩ := ft_split (ftOf f)
      rw [hk, ftC_mk] at how how1 hpa hsm
      rcases foC_len f with ⟨o', x', y', hf1⟩ | ⟨o', x', y', ks', hf1⟩ <;> rcases foC_len f2 with ⟨o'', x'', y'', hf2⟩ | ⟨o'', x'', y'', ks'', hf2⟩
      all_goals
        rw [hf1] at hw how1 hde hh1 hh2 hpr
        rw [hf2] at hw2
        simp -dsimp
        first
          | refine CallG.by (hf) ?_
          | refine CallGE.by (hf) ?_
          | refine CallGB.by (hf) ?_
        simp -dsimp
        first
          | refine CallG.by (hf') ?_
          | refine CallGE.by (hf') ?_
          | refine CallGB.by (hf') ?_
        simp -dsimp
        first
          | refine CallG.by (hw) ?_
          | refine CallGE.by (hw) ?_
          | refine CallGB.by (hw) ?_
        simp -dsimp
        refine wk_draw 8 [3] mixed (by kernel_rfl) ?_
        simp -dsimp
        first
          | refine CallG.by (hf) ?_
          | refine CallGE.by (hf) ?_
          | refine CallGB.by (hf) ?_
        simp -dsimp
        first
          | refine CallG.by (hh1) ?_
          | refine CallGE.by (hh1) ?_
          | refine CallGB.by (hh1) ?_
        simp -dsimp
        refine wk_draw 8 [3] mixed (by kernel_rfl) ?_
        simp -dsimp
        first
          | refine CallG.by (hf') ?_
          | refine CallGE.by (hf') ?_
          | refine CallGB.by (hf') ?_
        simp -dsimp
        first
          | refine CallG.by (hh2) ?_
          | refine CallGE.by (hh2) ?_
          | refine CallGB.by (hh2) ?_
        simp -dsimp
        first
          | refine CallG.by (hde) ?_
          | refine CallGE.by (hde) ?_
          | refine CallGB.by (hde) ?_
        simp -dsimp
        first
          | refine CallG.by (hf') ?_
          | refine CallGE.by (hf') ?_
          | refine CallGB.by (hf') ?_
        simp -dsimp
        first
          | refine CallG.by (hf) ?_
          | refine CallGE.by (hf) ?_
          | refine CallGB.by (hf) ?_
        simp -dsimp
        first
          | refine CallG.by (hw2) ?_
          | refine CallGE.by (hw2) ?_
          | refine CallGB.by (hw2) ?_
        simp -dsimp
        first
          | refine CallG.by (hpr) ?_
          | refine CallGE.by (hpr) ?_
          | refine CallGB.by (hpr) ?_
        simp -dsimp
        first
          | refine CallG.by (hpa) ?_
          | refine CallGE.by (hpa) ?_
          | refine CallGB.by (hpa) ?_
        simp -dsimp
        refine wk_draw 38 [] mixed (by kernel_rfl) ?_
        simp -dsimp [hdk]
        first
          | refine CallG.by (how1) ?_
          | refine CallGE.by (how1) ?_
          | refine CallGB.by (how1) ?_
        simp -dsimp
        first
          | refine CallG.by (how) ?_
          | refine CallGE.by (how) ?_
          | refine CallGB.by (how) ?_
        simp -dsimp
        first
          | refine CallG.by (hsm) ?_
          | refine CallGE.by (hsm) ?_
          | refine CallGB.by (hsm) ?_
        simp -dsimp
        first
          | refine CallG.by (ha) ?_
          | refine CallGE.by (ha) ?_
          | refine CallGB.by (ha) ?_
        simp -dsimp
        refine retP_c ?_
        simp -dsimp
end Go.Proofs.YtnikonhkbldnnaaGreatDoor
