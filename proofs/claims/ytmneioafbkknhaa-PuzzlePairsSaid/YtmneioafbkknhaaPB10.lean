import Derived.Test.YtmneioafbkknhaaPB9
/- PB10: how many bits are set. -/
set_option linter.unusedVariables false
set_option linter.unusedSimpArgs false
set_option maxRecDepth 20000
namespace Go.Proofs.Ytmneioafbkknhaa
open Go Go.PS
def shU (a : Int) (n : Nat) : Int := a.fdiv (2 ^ min n IntKind.u64.bits)
def anU (a b : Int) : Int := bits .and .u64 a b
def adU (a b : Int) : Int := IntKind.u64.wrap (a + b)
theorem shU_fold (a : Int) (n : Nat) : a.fdiv (2 ^ min n IntKind.u64.bits) = shU a n := rfl
theorem anU_fold (a b : Int) : bits .and .u64 a b = anU a b := rfl
theorem adU_fold (a b : Int) : IntKind.u64.wrap (a + b) = adU a b := rfl
def on1 (n : Int) : Int := adU (anU (shU n 1) 6148914691236517205) (anU n 6148914691236517205)
def on2 (n : Int) : Int := adU (anU (shU n 2) 3689348814741910323) (anU n 3689348814741910323)
def on3 (n : Int) : Int := anU (adU (shU n 4) n) 1085102592571150095
def on4 (n : Int) : Int := adU n (shU n 8)
def on5 (n : Int) : Int := adU n (shU n 16)
def on6 (n : Int) : Int := adU n (shU n 32)
def onesF (n : Int) : Int := andI (IntKind.i64.wrap (on6 (on5 (on4 (on3 (on2 (on1 n))))))) 127
/-- How many bits are set, of the first twelve. -/
def pop (n : Nat) : Nat := ((List.range 12).filter n.testBit).length
theorem onesF_pop : (List.range 4096).all (fun n => onesF n == (pop n : Int)) = true := by kernel_rfl
theorem ones64_spec (n : Int) : PCall Try.prog 98 [.v (.int .u64 n)] (pI (onesF n)) [] := by
  refine pcall_wp _ Try.func98 rfl (by kernel_rfl) rfl ?_
  simp -dsimp [shU_fold, anU_fold, adU_fold]
  refine retP_c ?_
  simp -dsimp [shU_fold, anU_fold, adU_fold]
  simp only [onesF, on1, on2, on3, on4, on5, on6]
theorem ones_spec (n : Nat) (hn : n < 4096) : PCall Try.prog 58 [.v (.int .u64 n)] (pI (pop n)) [] := by
  have e : onesF n = pop n := by
    have := List.all_eq_true.1 onesF_pop n (List.mem_range.2 hn)
    simpa using this
  refine pcall_wp _ Try.func58 rfl (by kernel_rfl) rfl ?_
  simp -dsimp
  first
    | refine CallG.by (ones64_spec n) ?_
    | refine CallGE.by (ones64_spec n) ?_
    | refine CallGB.by (ones64_spec n) ?_
  simp -dsimp
  refine retP_c ?_
  simp -dsimp [e]
theorem pop_step : (List.range 4096).all (fun x => x == 0 || (andI x ((x : Int) - 1) == ((x &&& (x - 1) : Nat) : Int) && pop (x &&& (x - 1)) + 1 == pop x && decide ((x &&& (x - 1)) < x))) = true := by kernel_rfl
theorem pop_stepE (x : Nat) (h : x < 4096) (h0 : 0 < x) : ∃ y, y < x ∧ andI x ((x : Int) - 1) = (y : Int) ∧ pop y + 1 = pop x := by
  have := List.all_eq_true.1 pop_step x (List.mem_range.2 h)
  simp only [Bool.or_eq_true, Bool.and_eq_true, beq_iff_eq, decide_eq_true_eq] at this
  rcases this with h | ⟨⟨h1, h2⟩, h3⟩
  · omega
  · exact ⟨_, h3, h1, h2⟩
end Go.Proofs.Ytmneioafbkknhaa
