import Derived.Test.YtnikonhkbldnnaaDoorLR14
import Derived.Test.YtnikonhkbldnnaaDoorLB48
import Derived.Test.YtnikonhkbldnnaaDoorLB38
import Derived.Test.YtnikonhkbldnnaaDoorLB39
import Derived.Test.YtnikonhkbldnnaaDoorLR1
/- LL14: law Reads. -/
set_option linter.unusedVariables false
set_option linter.unusedSimpArgs false
set_option maxRecDepth 20000
namespace Go.Proofs.YtnikonhkbldnnaaDoor
open Go Go.PS
attribute [-simp] isKeyK List.map_take
theorem bexU (s : List UInt8) (n : Nat) : (ByteArray.mk s.toArray).extract 0 n = ⟨(s.take n).toArray⟩ := by
  apply ByteArray.ext
  simp
theorem own_ok {z : FT} (h : formOk z = true) : ofF z = z := by
  unfold formOk at h
  simp only [Bool.and_eq_true, decide_eq_true_eq] at h
  obtain ⟨f, rfl, hv⟩ := ft_fo _ z (Nat.le_refl _) h.2
  rw [ftOf_nodes, ftOf_dp] at h
  exact own_ftOf f (by omega) (by omega)
theorem par_ok {s : List UInt8} {f : Fo} (h : parP s = some f) : formOk (ftOf f) = true := by
  unfold parP at h
  split at h
  · split at h
    · rename_i hok
      cases h
      exact hok
    · cases h
  · cases h
theorem reads_true (s : List UInt8) : PCall Tryd.prog 5 [sV s] (pB true) [] := by
  have ha := awake_spec
  have hno := none_z
  have hsz := bsz s
  have hcut := bexU s 30000
  refine pcall_wp _ Tryd.func5 rfl (by kernel_rfl) rfl ?_
  by_cases g1 : 30000 < s.length
  · have g1' : (30000 : Int) < s.length := by omega
    have g1'' : (30000 : Int) ≤ s.length := by omega
    have q := Parse_spec (s.take 30000) (by simp; omega)
    have q2 := ParseR_spec (s.take 30000) (by simp; omega)
    rw [ParF, if_pos (by rw [List.length_take]; omega)] at q q2
    unfold foZ nilT at *
    simp -dsimp [g1', g1'', hsz, hcut]
    first
      | refine CallG.by (q) ?_
      | refine CallGE.by (q) ?_
      | refine CallGB.by (q) ?_
    simp -dsimp
    first
      | refine CallG.by (q2) ?_
      | refine CallGE.by (q2) ?_
      | refine CallGB.by (q2) ?_
    simp -dsimp
    first
      | refine CallG.by (hno) ?_
      | refine CallGE.by (hno) ?_
      | refine CallGB.by (hno) ?_
    simp -dsimp
    first
      | refine CallG.by (ha) ?_
      | refine CallGE.by (ha) ?_
      | refine CallGB.by (ha) ?_
    simp -dsimp
    refine retP_c ?_
    simp -dsimp
  have g1' : ¬ (30000 : Int) < s.length := by omega
  have q := Parse_spec s (by omega)
  have q2 := ParseR_spec s (by omega)
  by_cases g2 : 20000 < s.length
  · rw [ParF, if_pos g2] at q q2
    unfold foZ nilT at *
    simp -dsimp [g1', hsz]
    first
      | refine CallG.by (q) ?_
      | refine CallGE.by (q) ?_
      | refine CallGB.by (q) ?_
    simp -dsimp
    first
      | refine CallG.by (q2) ?_
      | refine CallGE.by (q2) ?_
      | refine CallGB.by (q2) ?_
    simp -dsimp
    first
      | refine CallG.by (hno) ?_
      | refine CallGE.by (hno) ?_
      | refine CallGB.by (hno) ?_
    simp -dsimp
    first
      | refine CallG.by (ha) ?_
      | refine CallGE.by (ha) ?_
      | refine CallGB.by (ha) ?_
    simp -dsimp
    refine retP_c ?_
    simp -dsimp
  rw [ParF, if_neg g2] at q q2
  cases hp : parP s with
  | none =>
    rw [hp] at q q2
    simp only at q q2
    unfold foZ nilT at *
    simp -dsimp [g1', hsz]
    first
      | refine CallG.by (q) ?_
      | refine CallGE.by (q) ?_
      | refine CallGB.by (q) ?_
    simp -dsimp
    first
      | refine CallG.by (q2) ?_
      | refine CallGE.by (q2) ?_
      | refine CallGB.by (q2) ?_
    simp -dsimp
    first
      | refine CallG.by (hno) ?_
      | refine CallGE.by (hno) ?_
      | refine CallGB.by (hno) ?_
    simp -dsimp
    first
      | refine CallG.by (ha) ?_
      | refine CallGE.by (ha) ?_
      | refine CallGB.by (ha) ?_
    simp -dsimp
    refine retP_c ?_
    simp -dsimp
  | some f =>
    rw [hp] at q q2
    simp only at q q2
    have how := own_spec (ftOf f)
    rw [own_ok (par_ok hp)] at how
    have hsm := same_z (ftOf f)
    obtain ⟨o, a, b, ks, hz⟩ := ft_split (ftOf f)
    rw [hz, ftC_mk] at q q2 how hsm
    simp -dsimp [g1', hsz]
    first
      | refine CallG.by (q) ?_
      | refine CallGE.by (q) ?_
      | refine CallGB.by (q) ?_
    simp -dsimp
    first
      | refine CallG.by (q2) ?_
      | refine CallGE.by (q2) ?_
      | refine CallGB.by (q2) ?_
    simp -dsimp
    refine wk_draw 3 [] mixed (by kernel_rfl) ?_
    simp -dsimp
    first
      | refine CallG.by (how) ?_
      | refine CallGE.by (how) ?_
      | refine CallGB.by (how) ?_
    simp -dsimp
    first
      | refine CallG.by (hsm) ?_
      | refine CallGE.by (hsm) ?_
      | refine CallGB.by (hsm) ?_
    simp -dsimp
    first
      | refine CallG.by (ha) ?_
      | refine CallGE.by (ha) ?_
      | refine CallGB.by (ha) ?_
    simp -dsimp
    refine retP_c ?_
    simp -dsimp
end Go.Proofs.YtnikonhkbldnnaaDoor
