import Derived.Test.YtmneioafbkknhaaPB14
import Derived.Test.YtmneioafbkknhaaPSC
/- PB17: the operations, and copies that are new. -/
set_option linter.unusedVariables false
set_option linter.unusedSimpArgs false
set_option maxRecDepth 20000
namespace Go.Proofs.Ytmneioafbkknhaa
open Go Go.PS
attribute [-simp] List.map_take
theorem clone_fz (xs : List Int) (hb : xs.length * 8 ≤ 140737488355328) : PCall Try.prog 73 [eIs xs] (.t .fz (eIs xs)) [] := by
  refine pcall_any 0 rfl call73 (fun h => ?_) ?_
  · simp at h
    subst h
    refine pcall_weak (k := .fz) (x := .v (.slice none 0 0)) ?_ nil_any
    refine pcall_wp _ Try.func73 rfl (by kernel_rfl) rfl ?_
    simp -dsimp
    refine retP_c ?_
    simp -dsimp
  · refine pcall_fzrow (ty := 3) (k := .ro) ?_ (by simp)
    refine pcall_wp _ Try.func73 rfl (by kernel_rfl) rfl ?_
    simp -dsimp [hb]
    exact retP_own 5 (by simp; rfl) (by simp) (by simp) (by simp) (by simp)
/-- What an operation makes of its rows. -/
def opF (op : Nat) (n : Int) (l : List Int) : Int :=
  match op with
  | 0 => 0
  | 1 => IntKind.i64.wrap (shlI 1 n.toNat - 1)
  | 2 => andI (l.getD 0 0) (l.getD 1 0)
  | 3 => orI (l.getD 0 0) (l.getD 1 0)
  | 4 => orI (orI (andI (l.getD 0 0) (l.getD 1 0)) (andI (l.getD 0 0) (l.getD 2 0))) (andI (l.getD 1 0) (l.getD 2 0))
  | _ => xorI (xorI (l.getD 0 0) (l.getD 1 0)) (l.getD 2 0)
def arity (op : Nat) : Nat := match op with
  | 0 => 0
  | 1 => 0
  | 2 => 2
  | 3 => 2
  | _ => 3
def opClo (op : Nat) (n : Int) : Nat × List TL := match op with
  | 0 => (110, [])
  | 1 => (111, [.rp [eI n] 0])
  | 2 => (112, [])
  | 3 => (113, [])
  | 4 => (114, [])
  | _ => (115, [])
theorem of0_spec (xs : List Int) : PCall Try.prog 110 [eIs xs] (pI 0) [] := by
  refine pcall_wp _ Try.func110 rfl (by kernel_rfl) rfl ?_
  simp -dsimp
  refine retP_c ?_
  simp -dsimp
theorem of1_spec (xs : List Int) (n : Int) (hn : 0 ≤ n) : PCall Try.prog 111 [eIs xs, .rp [eI n] 0] (pI (opF 1 n xs)) [] := by
  refine pcall_wp _ Try.func111 rfl (by kernel_rfl) rfl ?_
  simp -dsimp [hn]
  refine retP_c ?_
  simp -dsimp [opF]
theorem of2_spec (a b : Int) : PCall Try.prog 112 [eIs [a, b]] (pI (opF 2 0 [a, b])) [] := by
  refine pcall_wp _ Try.func112 rfl (by kernel_rfl) rfl ?_
  simp -dsimp
  refine wk_draw 6 [] mixed (by kernel_rfl) ?_
  simp -dsimp
  refine retP_c ?_
  simp -dsimp [opF]
theorem of3_spec (a b : Int) : PCall Try.prog 113 [eIs [a, b]] (pI (opF 3 0 [a, b])) [] := by
  refine pcall_wp _ Try.func113 rfl (by kernel_rfl) rfl ?_
  simp -dsimp
  refine wk_draw 6 [] mixed (by kernel_rfl) ?_
  simp -dsimp
  refine retP_c ?_
  simp -dsimp [opF]
theorem of4_spec (a b c : Int) : PCall Try.prog 114 [eIs [a, b, c]] (pI (opF 4 0 [a, b, c])) [] := by
  refine pcall_wp _ Try.func114 rfl (by kernel_rfl) rfl ?_
  simp -dsimp
  refine wk_draw 22 [] mixed (by kernel_rfl) ?_
  simp -dsimp
  refine retP_c ?_
  simp -dsimp [opF]
theorem of5_spec (a b c : Int) : PCall Try.prog 115 [eIs [a, b, c]] (pI (opF 5 0 [a, b, c])) [] := by
  refine pcall_wp _ Try.func115 rfl (by kernel_rfl) rfl ?_
  simp -dsimp
  refine wk_draw 10 [] mixed (by kernel_rfl) ?_
  simp -dsimp
  refine retP_c ?_
  simp -dsimp [opF]
theorem opClo_spec (op : Nat) (n : Int) (xs : List Int) (hop : op ≤ 5) (hn : 0 ≤ n) (hx : xs.length = arity op) : PCall Try.prog (opClo op n).1 (eIs xs :: (opClo op n).2) (pI (opF op n xs)) [] := by
  match op, xs, hx, hop with
  | 0, xs, _, _ => exact of0_spec xs
  | 1, xs, _, _ => exact of1_spec xs n hn
  | 2, [a, b], _, _ => exact of2_spec a b
  | 3, [a, b], _, _ => exact of3_spec a b
  | 4, [a, b, c], _, _ => exact of4_spec a b c
  | 5, [a, b, c], _, _ => exact of5_spec a b c
theorem operate_spec (op : Nat) (n : Int) (hop : op ≤ 5) : PCall Try.prog 86 [eI op, eI n] (.t .fz (.agg [eI (arity op), .clo (opClo op n).1 (opClo op n).2])) [] := by
  refine pcall_wp _ Try.func86 rfl (by kernel_rfl) rfl ?_
  match op, hop with
  | 0, _ =>
    simp -dsimp
    refine retP_c ?_
    simp -dsimp [arity, opClo]
  | 1, _ =>
    simp -dsimp
    refine retP_c ?_
    simp -dsimp [arity, opClo]
  | 2, _ =>
    simp -dsimp
    refine retP_c ?_
    simp -dsimp [arity, opClo]
  | 3, _ =>
    simp -dsimp
    refine retP_c ?_
    simp -dsimp [arity, opClo]
  | 4, _ =>
    simp -dsimp
    refine retP_c ?_
    simp -dsimp [arity, opClo]
  | 5, _ =>
    simp -dsimp
    refine retP_c ?_
    simp -dsimp [arity, opClo]
end Go.Proofs.Ytmneioafbkknhaa
