import Derived.Test.YtnikonhkbldnnaaGreatDoorLL12
import Derived.Test.YtnikonhkbldnnaaGreatDoorLB39
import Derived.Test.YtnikonhkbldnnaaGreatDoorLB31
/- LL13: law Printed. -/
set_option linter.unusedVariables false
set_option linter.unusedSimpArgs false
set_option maxRecDepth 20000
namespace Go.Proofs.YtnikonhkbldnnaaGreatDoor
open Go Go.PS
attribute [-simp] isKeyK List.map_take
theorem bexT (s : List UInt8) (n : Nat) : (ByteArray.mk s.toArray).extract 0 n = ⟨(s.take n).toArray⟩ := by
  apply ByteArray.ext
  simp
/-- What a formula's text is read as; what is read is printed as it was. -/
theorem print_back {z : FT} (h : formOk z = true) : ∃ f, ftOf f = z ∧ vokF f ∧ prT z = prF f ∧ ofF z = z := by
  have h' := h
  unfold formOk at h'
  simp only [Bool.and_eq_true, decide_eq_true_eq] at h'
  obtain ⟨f, rfl, hv⟩ := ft_fo _ z (Nat.le_refl _) h'.2
  rw [ftOf_nodes, ftOf_dp] at h'
  exact ⟨f, rfl, hv, ftOf_pr f, own_ftOf f (by omega) (by omega)⟩
theorem par_some {s : List UInt8} {f : Fo} (h : parP s = some f) : formOk (ftOf f) = true ∧ prT (ftOf f) = s := by
  unfold parP at h
  split at h
  · rename_i f' hp
    split at h
    · rename_i hok
      cases h
      obtain ⟨h1, _, _⟩ := pF_of hp
      rw [List.append_nil] at h1
      exact ⟨hok, by rw [ftOf_pr, h1]⟩
    · cases h
  · cases h
set_option maxHeartbeats 2000000 in
theorem printed_true (f : FT) (s : List UInt8) : PCall Tryz.prog 5 [.agg (ftC f), sV s] (pB true) [] := by
  have ho := Of_spec f
  have ha := awake_spec
  have hp1 := Print_spec (ofF f)
  have hsz := bsz s
  generalize hzf : ofF f = z at ho hp1
  rw [prnF] at hp1
  have hbk := print_back (z := z)
  have hpb : formOk z = true → PCall Tryz.prog 26 [sV (prT z)] (.t .ro (.tup [.agg (ftC z), eI 0])) [] := fun hok => by
    obtain ⟨f0, h1, h2, h3, h4⟩ := hbk hok
    rw [← h1] at hok
    obtain ⟨p1, p2⟩ := parse_back hok h2
    have := Parse_spec (prF f0) p2
    rw [p1, h1] at this
    rw [h3]
    exact this
  have how : formOk z = true → PCall Tryz.prog 19 [.agg (ftC z)] (.t .ro (.agg (ftC z))) [] := fun hok => by
    obtain ⟨f0, h1, h2, h3, h4⟩ := hbk hok
    have := own_spec z
    rw [h4] at this
    exact this
  have hsm := same_z z
  generalize prT z = T at *
  obtain ⟨o, a, b, ks, hk⟩ := ft_split f
  rw [hk, ftC_mk] at ho
  rw [hk, ftC_mk]
  obtain ⟨o1, a1, b1, ks1, hk1⟩ := ft_split z
  rw [hk1, ftC_mk] at ho hp1 hpb how hsm
  rw [← hk1] at hp1 hpb how
  have hcut := bexT s 30000
  have hPs := fun h => Parse_spec (s.take 30000) h
  have hPs2 := fun h => Parse_spec s h
  refine pcall_wp _ Tryz.func5 rfl (by kernel_rfl) rfl ?_
  cases hok : formOk z with
  | false =>
    rw [hok] at hp1
    simp only [Bool.false_eq_true, if_false] at hp1
    simp -dsimp
    first
      | refine CallG.by (ho) ?_
      | refine CallGE.by (ho) ?_
      | refine CallGB.by (ho) ?_
    simp -dsimp
    first
      | refine CallG.by (hp1) ?_
      | refine CallGE.by (hp1) ?_
      | refine CallGB.by (hp1) ?_
    simp -dsimp
    by_cases g1 : 30000 < s.length
    · have g1' : (30000 : Int) < s.length := by omega
      have g1'' : (30000 : Int) ≤ s.length := by omega
      have q := hPs (by simp; omega)
      rw [ParF, if_pos (by rw [List.length_take]; omega)] at q
      unfold foZ nilT at q
      simp -dsimp [g1', g1'', hsz, hcut]
      first
        | refine CallG.by (q) ?_
        | refine CallGE.by (q) ?_
        | refine CallGB.by (q) ?_
      simp -dsimp
      first
        | refine CallG.by (ha) ?_
        | refine CallGE.by (ha) ?_
        | refine CallGB.by (ha) ?_
      simp -dsimp
      refine retP_c ?_
      simp -dsimp
    have g1' : ¬ (30000 : Int) < s.length := by omega
    have q := hPs2 (by omega)
    by_cases g2 : 20000 < s.length
    · rw [ParF, if_pos g2] at q
      unfold foZ nilT at q
      simp -dsimp [g1', hsz]
      first
        | refine CallG.by (q) ?_
        | refine CallGE.by (q) ?_
        | refine CallGB.by (q) ?_
      simp -dsimp
      first
        | refine CallG.by (ha) ?_
        | refine CallGE.by (ha) ?_
        | refine CallGB.by (ha) ?_
      simp -dsimp
      refine retP_c ?_
      simp -dsimp
    rw [ParF, if_neg g2] at q
    cases hp : parP s with
    | none =>
      rw [hp] at q
      simp only at q
      unfold foZ nilT at q
      simp -dsimp [g1', hsz]
      first
        | refine CallG.by (q) ?_
        | refine CallGE.by (q) ?_
        | refine CallGB.by (q) ?_
      simp -dsimp
      first
        | refine CallG.by (ha) ?_
        | refine CallGE.by (ha) ?_
        | refine CallGB.by (ha) ?_
      simp -dsimp
      refine retP_c ?_
      simp -dsimp
    | some f1 =>
      rw [hp] at q
      simp only at q
      obtain ⟨w1, w2⟩ := par_some hp
      have hp2 := Print_spec (ftOf f1)
      rw [prnF, w1, w2, if_pos rfl] at hp2
      obtain ⟨o2, a2, b2, ks2, hk2⟩ := ft_split (ftOf f1)
      rw [hk2, ftC_mk] at q hp2
      simp -dsimp [g1', hsz]
      first
        | refine CallG.by (q) ?_
        | refine CallGE.by (q) ?_
        | refine CallGB.by (q) ?_
      simp -dsimp
      first
        | refine CallG.by (hp2) ?_
        | refine CallGE.by (hp2) ?_
        | refine CallGB.by (hp2) ?_
      simp -dsimp
      first
        | refine CallG.by (ha) ?_
        | refine CallGE.by (ha) ?_
        | refine CallGB.by (ha) ?_
      simp -dsimp
      refine retP_c ?_
      simp -dsimp
  | true =>
    rw [hok] at hp1
    simp only [if_true] at hp1
    have hpb := hpb hok
    have how := how hok
    simp -dsimp
    first
      | refine CallG.by (ho) ?_
      | refine CallGE.by (ho) ?_
      | refine CallGB.by (ho) ?_
    simp -dsimp
    first
      | refine CallG.by (hp1) ?_
      | refine CallGE.by (hp1) ?_
      | refine CallGB.by (hp1) ?_
    simp -dsimp
    first
      | refine CallG.by (hpb) ?_
      | refine CallGE.by (hpb) ?_
      | refine CallGB.by (hpb) ?_
    simp -dsimp
    refine wk_draw 6 [] mixed (by kernel_rfl) ?_
    simp -dsimp
    first
      | refine CallG.by (how) ?_
      | refine CallGE.by (how) ?_
      | refine CallGB.by (how) ?_
    simp -dsimp
    first
      | refine CallG.by (hsm) ?_
      | refine CallGE.by (hsm) ?_
      | refine CallGB.by (hsm) ?_
    simp -dsimp
    by_cases g1 : 30000 < s.length
    · have g1' : (30000 : Int) < s.length := by omega
      have g1'' : (30000 : Int) ≤ s.length := by omega
      have q := hPs (by simp; omega)
      rw [ParF, if_pos (by rw [List.length_take]; omega)] at q
      unfold foZ nilT at q
      simp -dsimp [g1', g1'', hsz, hcut]
      first
        | refine CallG.by (q) ?_
        | refine CallGE.by (q) ?_
        | refine CallGB.by (q) ?_
      simp -dsimp
      first
        | refine CallG.by (ha) ?_
        | refine CallGE.by (ha) ?_
        | refine CallGB.by (ha) ?_
      simp -dsimp
      refine retP_c ?_
      simp -dsimp
    have g1' : ¬ (30000 : Int) < s.length := by omega
    have q := hPs2 (by omega)
    by_cases g2 : 20000 < s.length
    · rw [ParF, if_pos g2] at q
      unfold foZ nilT at q
      simp -dsimp [g1', hsz]
      first
        | refine CallG.by (q) ?_
        | refine CallGE.by (q) ?_
        | refine CallGB.by (q) ?_
      simp -dsimp
      first
        | refine CallG.by (ha) ?_
        | refine CallGE.by (ha) ?_
        | refine CallGB.by (ha) ?_
      simp -dsimp
      refine retP_c ?_
      simp -dsimp
    rw [ParF, if_neg g2] at q
    cases hp : parP s with
    | none =>
      rw [hp] at q
      simp only at q
      unfold foZ nilT at q
      simp -dsimp [g1', hsz]
      first
        | refine CallG.by (q) ?_
        | refine CallGE.by (q) ?_
        | refine CallGB.by (q) ?_
      simp -dsimp
      first
        | refine CallG.by (ha) ?_
        | refine CallGE.by (ha) ?_
        | refine CallGB.by (ha) ?_
      simp -dsimp
      refine retP_c ?_
      simp -dsimp
    | some f1 =>
      rw [hp] at q
      simp only at q
      obtain ⟨w1, w2⟩ := par_some hp
      have hp2 := Print_spec (ftOf f1)
      rw [prnF, w1, w2, if_pos rfl] at hp2
      obtain ⟨o2, a2, b2, ks2, hk2⟩ := ft_split (ftOf f1)
      rw [hk2, ftC_mk] at q hp2
      simp -dsimp [g1', hsz]
      first
        | refine CallG.by (q) ?_
        | refine CallGE.by (q) ?_
        | refine CallGB.by (q) ?_
      simp -dsimp
      first
        | refine CallG.by (hp2) ?_
        | refine CallGE.by (hp2) ?_
        | refine CallGB.by (hp2) ?_
      simp -dsimp
      first
        | refine CallG.by (ha) ?_
        | refine CallGE.by (ha) ?_
        | refine CallGB.by (ha) ?_
      simp -dsimp
      refine retP_c ?_
      simp -dsimp
end Go.Proofs.YtnikonhkbldnnaaGreatDoor
