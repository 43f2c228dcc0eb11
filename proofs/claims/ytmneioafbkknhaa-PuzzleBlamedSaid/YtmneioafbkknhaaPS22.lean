import Derived.Test.YtmneioafbkknhaaPS21
/- PS22: names for what the machine does with the bits of a number. -/
set_option linter.unusedVariables false
namespace Go.PS
open Go Go.RowKit
def shrI (a : Int) (n : Nat) : Int := a.fdiv (2 ^ min n IntKind.i64.bits)
def shlI (a : Int) (n : Nat) : Int := IntKind.i64.wrap (a * 2 ^ min n IntKind.i64.bits)
def andI (a b : Int) : Int := bits .and .i64 a b
def orI (a b : Int) : Int := bits .or .i64 a b
def xorI (a b : Int) : Int := bits .xor .i64 a b
@[simp] theorem shrI_fold (a : Int) (n : Nat) : a.fdiv (2 ^ min n IntKind.i64.bits) = shrI a n := rfl
@[simp] theorem shlI_fold (a : Int) (n : Nat) : IntKind.i64.wrap (a * 2 ^ min n IntKind.i64.bits) = shlI a n := rfl
@[simp] theorem shlI_fold1 (n : Nat) : IntKind.i64.wrap (2 ^ min n IntKind.i64.bits) = shlI 1 n := by simp only [shlI, Int.one_mul]
@[simp] theorem andI_fold (a b : Int) : bits .and .i64 a b = andI a b := rfl
@[simp] theorem orI_fold (a b : Int) : bits .or .i64 a b = orI a b := rfl
@[simp] theorem xorI_fold (a b : Int) : bits .xor .i64 a b = xorI a b := rfl
theorem shl1 (n : Nat) (h : n ≤ 62) : shlI 1 n = ((2 ^ n : Nat) : Int) := by
  have e : min n IntKind.i64.bits = n := by
    show min n 64 = n
    omega
  have hp : (2 : Nat) ^ n ≤ 2 ^ 62 := Nat.pow_le_pow_right (by decide) h
  unfold shlI
  rw [e, Int.one_mul]
  have h2 : ((2 : Int) ^ n) = ((2 ^ n : Nat) : Int) := by simp
  rw [h2]
  have h3 : (2 : Nat) ^ 62 = 4611686018427387904 := by decide
  generalize 2 ^ n = N at *
  exact wrap_id (by omega) (by omega)

section
variable {P : Program} {n : Nat} {s : StL}
theorem lg_adoptT {c : Code} {Q : Exit → StL → Prop} {wc : Wit c} {wQ : Wit Q} (t d ty sz : Nat) {k : Kind} (ht : getT s.T t = .t k (.v (.slice none 0 0))) (hf : s.free d = true)
    (h : LoopG P n c ⟨(t, .osl d) :: s.T, (d, .row ty sz .fz []) :: s.M⟩ Q wc wQ) : LoopG P n c s Q wc wQ := cw_adoptT t d ty sz ht hf h
theorem lg_adoptM {c : Code} {Q : Exit → StL → Prop} {wc : Wit c} {wQ : Wit Q} (m off d ty sz : Nat) {k : Kind} {ty0 : Nat} {cs : List PV} (hm : getM s.M m = .blk ty0 cs) (hc : cs[off]? = some (.t k (.v (.slice none 0 0)))) (hf : s.free d = true) (hne : (m == d) = false)
    (h : LoopG P n c ⟨s.T, (m, .blk ty0 (cs.set off (.osl d))) :: (d, .row ty sz .fz []) :: s.M⟩ Q wc wQ) : LoopG P n c s Q wc wQ := cw_adoptM m off d ty sz hm hc hf hne h
end

@[simp] theorem optL_map (f : PV → Option (Bool × TL)) (k : Kind) (caps : List TL) (h : ∀ x, f (.t k x) = some (false, x)) : optL f (caps.map (PV.t k)) = some (false, caps) := by
  induction caps with
  | nil => rfl
  | cons c caps ih => simp only [List.map_cons, optL, h, ih, Bool.or_self]
end Go.PS
