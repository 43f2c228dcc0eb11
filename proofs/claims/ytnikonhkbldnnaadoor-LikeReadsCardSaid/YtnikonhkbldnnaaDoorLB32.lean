import Derived.Test.YtnikonhkbldnnaaDoorLBld
import Derived.Test.YtnikonhkbldnnaaDoorLB29
/- LB32: print of a formula. -/
set_option linter.unusedVariables false
set_option linter.unusedSimpArgs false
set_option maxRecDepth 20000
namespace Go.Proofs.YtnikonhkbldnnaaDoor
open Go Go.PS
attribute [-simp] isKeyK List.map_take
@[simp] theorem imax : IntKind.i64.max = 9223372036854775807 := rfl
theorem letter_spec (x : Nat) (hx : x < 4) : PCall Tryd.prog 58 [eI x] (.t .fz (.v (.string ⟨[ltr x].toArray⟩))) [] := by
  have sz : (ByteArray.mk #[97, 98, 99, 100]).size = 4 := rfl
  have e0 : (ByteArray.mk #[97, 98, 99, 100]).extract 0 1 = ⟨#[97]⟩ := by decide
  have e1 : (ByteArray.mk #[97, 98, 99, 100]).extract 1 2 = ⟨#[98]⟩ := by decide
  have e2 : (ByteArray.mk #[97, 98, 99, 100]).extract 2 3 = ⟨#[99]⟩ := by decide
  have e3 : (ByteArray.mk #[97, 98, 99, 100]).extract 3 4 = ⟨#[100]⟩ := by decide
  have l0 : ltr 0 = 97 := rfl
  have l1 : ltr 1 = 98 := rfl
  have l2 : ltr 2 = 99 := rfl
  have l3 : ltr 3 = 100 := rfl
  have w0 := wr (n := 1) (by omega) (by omega)
  refine pcall_wp _ Tryd.func58 rfl (by kernel_rfl) rfl ?_
  match x, hx with
  | 0, _ =>
    simp -dsimp [sz, e0, e1, e2, e3, wr]
    refine retP_c ?_
    simp -dsimp [l0]
  | 1, _ =>
    simp -dsimp [sz, e0, e1, e2, e3, wr]
    refine retP_c ?_
    simp -dsimp [l1]
  | 2, _ =>
    simp -dsimp [sz, e0, e1, e2, e3, wr]
    refine retP_c ?_
    simp -dsimp [l2]
  | 3, _ =>
    simp -dsimp [sz, e0, e1, e2, e3, wr]
    refine retP_c ?_
    simp -dsimp [l3]
end Go.Proofs.YtnikonhkbldnnaaDoor
