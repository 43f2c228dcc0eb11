import Derived.Test.YtfcbmcmkakceaaaDoorLB4
/- LB5: formulas as trees; unless, unlike. -/
set_option linter.unusedVariables false
set_option linter.unusedSimpArgs false
set_option maxRecDepth 20000
namespace Go.Proofs.YtfcbmcmkakceaaaDoor
open Go Go.PS
attribute [-simp] isKeyK List.map_take
def sT (l : List UInt8) : TL := .v (.string ⟨l.toArray⟩)
/-- A formula's cells. -/
def foC : Fo → List TL
  | .eq i j => [sT [61], eI i, eI j, nilT]
  | .adj i j => [sT [126], eI i, eI j, nilT]
  | .no f => [sT [33], eI 0, eI 0, .sl .any 4 [foC f]]
  | .an f g => [sT [38], eI 0, eI 0, .sl .any 4 [foC f, foC g]]
  | .ex x f => [sT [69], eI x, eI 0, .sl .any 4 [foC f]]
def foZ : List TL := [.v (.string ByteArray.empty), eI 0, eI 0, nilT]
theorem foC_len (f : Fo) : (∃ (o : ByteArray) (x y : Int), foC f = [.v (.string o), eI x, eI y, .v (.slice none 0 0)]) ∨ ∃ (o : ByteArray) (x y : Int) (ks : List (List TL)), foC f = [.v (.string o), eI x, eI y, .sl .any 4 ks] := by
  cases f
  · exact .inl ⟨_, _, _, rfl⟩
  · exact .inl ⟨_, _, _, rfl⟩
  · exact .inr ⟨_, _, _, _, rfl⟩
  · exact .inr ⟨_, _, _, _, rfl⟩
  · exact .inr ⟨_, _, _, _, rfl⟩
theorem unless_spec (f : Fo) (c : Bool) : PCall Tryd.prog 125 [.agg (foC f), eB (!c)] (.t .ro (.agg (foC (unl c f)))) [] := by
  refine pcall_wpT Tryd.func125 rfl (by kernel_rfl) ?_
  have hno : foC (.no f) = [sT [33], eI 0, eI 0, .sl .any 4 [foC f]] := rfl
  cases c with
  | true =>
    rw [show unl true f = f from rfl]
    rcases foC_len f with ⟨o, x, y, hf⟩ | ⟨o, x, y, ks, hf⟩
    · rw [hf]
      simp -dsimp
      refine retT_c ?_
      simp -dsimp
    · rw [hf]
      simp -dsimp
      refine retT_c ?_
      simp -dsimp
  | false =>
    rw [show unl false f = .no f from rfl, hno]
    rcases foC_len f with ⟨o, x, y, hf⟩ | ⟨o, x, y, ks, hf⟩
    · rw [hf]
      simp -dsimp
      refine retT_c ?_
      simp -dsimp [sT]
    · rw [hf]
      simp -dsimp
      refine retT_c ?_
      simp -dsimp [sT]
end Go.Proofs.YtfcbmcmkakceaaaDoor
