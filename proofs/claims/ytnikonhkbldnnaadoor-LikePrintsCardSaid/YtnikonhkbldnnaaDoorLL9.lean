import Derived.Test.YtnikonhkbldnnaaDoorLB31
import Derived.Test.YtnikonhkbldnnaaDoorLB30
import Derived.Test.YtnikonhkbldnnaaDoorLR11
import Derived.Test.YtnikonhkbldnnaaDoorLR1
/- LL9: law Prints. -/
set_option linter.unusedVariables false
set_option linter.unusedSimpArgs false
set_option maxRecDepth 20000
namespace Go.Proofs.YtnikonhkbldnnaaDoor
open Go Go.PS
attribute [-simp] isKeyK List.map_take
theorem prints_true (f : FT) : PCall Tryd.prog 3 [.agg (ftC f)] (pB true) [] := by
  have haw := awake_spec
  have ho := Of_spec f
  generalize ofF f = z at *
  have hp := Print_spec z
  have hd := Depth_spec z
  have hfo := Formula_spec z
  have hte : formOk z = true → PCall Tryd.prog 11 [.agg (ftC z)] (.t .fz (.v (.string ⟨(prT z).toArray⟩))) [] := fun h => Text_spec _ z (Nat.le_refl _) (form_shaped h).1 (by have := (form_shaped h).2; omega)
  have hdr : formOk z = true → PCall Tryd.prog 12 [.agg (ftC z)] (pI (deF z : Nat)) [] := fun h => depthR_spec _ z (Nat.le_refl _) (by have := (form_shaped h).2; omega)
  rw [prnF] at hp
  rw [depF] at hd
  obtain ⟨o, a, b, ks, hk⟩ := ft_split f
  obtain ⟨o', a', b', ks', hk'⟩ := ft_split z
  rw [hk, ftC_mk] at ho
  rw [hk, ftC_mk]
  rw [hk', ftC_mk] at ho
  rw [hk', ftC_mk, ← hk'] at hp hd hfo hte hdr
  refine pcall_wp _ Tryd.func3 rfl (by kernel_rfl) rfl ?_
  cases hfz : formOk z
  · rw [hfz] at hp hd hfo
    simp only [Bool.false_eq_true, if_false] at hp hd
    have he : ByteArray.empty.toList = [] := ByteArray.toList_eq _
    simp -dsimp
    first
      | refine CallG.by (ho) ?_
      | refine CallGE.by (ho) ?_
      | refine CallGB.by (ho) ?_
    simp -dsimp
    first
      | refine CallG.by (hp) ?_
      | refine CallGE.by (hp) ?_
      | refine CallGB.by (hp) ?_
    simp -dsimp
    first
      | refine CallG.by (hd) ?_
      | refine CallGE.by (hd) ?_
      | refine CallGB.by (hd) ?_
    simp -dsimp
    first
      | refine CallG.by (hfo) ?_
      | refine CallGE.by (hfo) ?_
      | refine CallGB.by (hfo) ?_
    simp -dsimp [he]
    first
      | refine CallG.by (haw) ?_
      | refine CallGE.by (haw) ?_
      | refine CallGB.by (haw) ?_
    simp -dsimp
    refine retP_c ?_
    simp -dsimp
  · rw [hfz] at hp hd hfo
    have hte := hte hfz
    have hdr := hdr hfz
    simp only [if_true] at hp hd
    generalize prT z = T at *
    generalize deF z = d at *
    simp -dsimp
    first
      | refine CallG.by (ho) ?_
      | refine CallGE.by (ho) ?_
      | refine CallGB.by (ho) ?_
    simp -dsimp
    first
      | refine CallG.by (hp) ?_
      | refine CallGE.by (hp) ?_
      | refine CallGB.by (hp) ?_
    simp -dsimp
    first
      | refine CallG.by (hd) ?_
      | refine CallGE.by (hd) ?_
      | refine CallGB.by (hd) ?_
    simp -dsimp
    first
      | refine CallG.by (hfo) ?_
      | refine CallGE.by (hfo) ?_
      | refine CallGB.by (hfo) ?_
    simp -dsimp
    first
      | refine CallG.by (hte) ?_
      | refine CallGE.by (hte) ?_
      | refine CallGB.by (hte) ?_
    simp -dsimp
    first
      | refine CallG.by (hdr) ?_
      | refine CallGE.by (hdr) ?_
      | refine CallGB.by (hdr) ?_
    simp -dsimp
    first
      | refine CallG.by (haw) ?_
      | refine CallGE.by (haw) ?_
      | refine CallGB.by (haw) ?_
    simp -dsimp
    refine retP_c ?_
    simp -dsimp
end Go.Proofs.YtnikonhkbldnnaaDoor
