import Derived.Test.YtmneioafbkknhaaPB32
import Derived.Test.YtmneioafbkknhaaPSD
/- PB36: slices.Repeat. -/
set_option linter.unusedVariables false
set_option linter.unusedSimpArgs false
set_option maxRecDepth 20000
namespace Go.Proofs.Ytmneioafbkknhaa
open Go Go.PS
attribute [-simp] List.map_take
def mulT (n : Int) : Int := IntKind.u64.wrap (IntKind.u64.wrap (Int.fdiv 1 (2 ^ min 32 IntKind.u64.bits) * bits .and .u64 n 4294967295) + (IntKind.u64.wrap (bits .and .u64 1 4294967295 * bits .and .u64 n 4294967295)).fdiv (2 ^ min 32 IntKind.u64.bits))
def mulHi (n : Int) : Int := IntKind.u64.wrap (IntKind.u64.wrap (IntKind.u64.wrap (Int.fdiv 1 (2 ^ min 32 IntKind.u64.bits) * n.fdiv (2 ^ min 32 IntKind.u64.bits)) + (mulT n).fdiv (2 ^ min 32 IntKind.u64.bits)) +
  (IntKind.u64.wrap (bits .and .u64 (mulT n) 4294967295 + IntKind.u64.wrap (bits .and .u64 1 4294967295 * n.fdiv (2 ^ min 32 IntKind.u64.bits)))).fdiv (2 ^ min 32 IntKind.u64.bits))
theorem mulHi_all : (List.range 64).all (fun n => mulHi n == 0) = true := by kernel_rfl
theorem mulHi_eq {n : Nat} (h : n < 64) : mulHi n = 0 := by simpa using List.all_eq_true.1 mulHi_all n (List.mem_range.2 h)
theorem mul64_spec (n : Nat) (hn : n < 64) : PCall Try.prog 124 [.v (.int .u64 1), .v (.int .u64 n)] (.t .fz (.tup [.v (.int .u64 0), .v (.int .u64 n)])) [] := by
  refine pcall_wp _ Try.func124 rfl (by kernel_rfl) rfl ?_
  have hhi := mulHi_eq hn
  rw [mulHi, mulT] at hhi
  have hwu := wrU (n := (n : Int)) (by omega) (by omega)
  simp -dsimp
  refine retP_c ?_
  simp -dsimp [hhi, hwu]
theorem mul_spec (n : Nat) (hn : n < 64) : PCall Try.prog 107 [.v (.int .u64 1), .v (.int .u64 n)] (.t .fz (.tup [.v (.int .u64 0), .v (.int .u64 n)])) [] := by
  refine pcall_wp _ Try.func107 rfl (by kernel_rfl) rfl ?_
  simp -dsimp
  first
    | refine CallG.by (mul64_spec n hn) ?_
    | refine CallGE.by (mul64_spec n hn) ?_
    | refine CallGB.by (mul64_spec n hn) ?_
  simp -dsimp
  refine retP_c ?_
  simp -dsimp
def repDag : List (List Bool × List Nat) := [([false, false, false, false, false, false, false, false, false, false], [0, 1, 2, 4, 5]), ([true, false, false, false, false, false, false, false, false, false], [1, 2, 4, 5]), ([true, true, false, false, false, false, false, false, false, false], [2, 4, 5]), ([true, true, true, false, false, false, false, false, false, false], [3, 4, 5]), ([true, true, true, true, false, false, false, false, false, false], [4, 5]), ([true, true, true, true, true, false, false, false, false, false], [5]), ([true, true, true, true, true, true, false, false, false, false], [6]), ([true, true, true, true, true, true, true, false, false, false], [7]), ([true, true, true, true, true, true, true, true, false, false], [8]), ([true, true, true, true, true, true, true, true, true, false], [9]), ([true, true, true, true, true, true, true, true, true, true], []), ([true, true, true, true, false, true, false, false, false, false], [4]), ([true, true, true, false, true, false, false, false, false, false], [3, 5]), ([true, true, true, false, true, true, false, false, false, false], [3, 6]), ([true, true, true, false, true, true, true, false, false, false], [3]), ([true, true, true, false, false, true, false, false, false, false], [3, 4]), ([true, true, false, false, true, false, false, false, false, false], [2, 5]), ([true, true, false, false, true, true, false, false, false, false], [2, 6]), ([true, true, false, false, true, true, true, false, false, false], [2]), ([true, true, false, false, false, true, false, false, false, false], [2, 4]), ([true, false, true, false, false, false, false, false, false, false], [1, 4, 5]), ([true, false, true, false, true, false, false, false, false, false], [1, 5]), ([true, false, true, false, true, true, false, false, false, false], [1, 6]), ([true, false, true, false, true, true, true, false, false, false], [1]), ([true, false, true, false, false, true, false, false, false, false], [1, 4]), ([true, false, false, false, true, false, false, false, false, false], [1, 2, 5]), ([true, false, false, false, true, true, false, false, false, false], [1, 2, 6]), ([true, false, false, false, true, true, true, false, false, false], [1, 2]), ([true, false, false, false, false, true, false, false, false, false], [1, 2, 4]), ([false, true, false, false, false, false, false, false, false, false], [0, 2, 4, 5]), ([false, true, true, false, false, false, false, false, false, false], [0, 3, 4, 5]), ([false, true, true, true, false, false, false, false, false, false], [0, 4, 5]), ([false, true, true, true, true, false, false, false, false, false], [0, 5]), ([false, true, true, true, true, true, false, false, false, false], [0, 6]), ([false, true, true, true, true, true, true, false, false, false], [0, 7]), ([false, true, true, true, true, true, true, true, false, false], [0]), ([false, true, true, true, false, true, false, false, false, false], [0, 4]), ([false, true, true, false, true, false, false, false, false, false], [0, 3, 5]), ([false, true, true, false, true, true, false, false, false, false], [0, 3, 6]), ([false, true, true, false, true, true, true, false, false, false], [0, 3]), ([false, true, true, false, false, true, false, false, false, false], [0, 3, 4]), ([false, true, false, false, true, false, false, false, false, false], [0, 2, 5]), ([false, true, false, false, true, true, false, false, false, false], [0, 2, 6]), ([false, true, false, false, true, true, true, false, false, false], [0, 2]), ([false, true, false, false, false, true, false, false, false, false], [0, 2, 4]), ([false, false, true, false, false, false, false, false, false, false], [0, 1, 4, 5]), ([false, false, true, false, true, false, false, false, false, false], [0, 1, 5]), ([false, false, true, false, true, true, false, false, false, false], [0, 1, 6]), ([false, false, true, false, true, true, true, false, false, false], [0, 1]), ([false, false, true, false, false, true, false, false, false, false], [0, 1, 4]), ([false, false, false, false, true, false, false, false, false, false], [0, 1, 2, 5]), ([false, false, false, false, true, true, false, false, false, false], [0, 1, 2, 6]), ([false, false, false, false, true, true, true, false, false, false], [0, 1, 2]), ([false, false, false, false, false, true, false, false, false, false], [0, 1, 2, 4])]
theorem repeat_spec (v : Int) (n : Nat) (h1 : 1 ≤ n) (hn : n < 64) : PCall Try.prog 76 [eIs [v], eI n] (.osl 0) [(0, .row 3 1 .ro (List.replicate n [eI v]))] := by
  refine pcall_wp _ Try.func76 rfl (by kernel_rfl) rfl ?_
  have h0 : ¬ (n : Int) < 0 := by omega
  have hwu := wrU (n := (n : Int)) (by omega) (by omega)
  have hw := wr (n := (n : Int)) (by omega) (by omega)
  simp -dsimp [h0, hwu]
  first
    | refine CallG.by (mul_spec n hn) ?_
    | refine CallGE.by (mul_spec n hn) ?_
    | refine CallGB.by (mul_spec n hn) ?_
  have h2 : ¬ 9223372036854775807 < (n : Int) := by omega
  have h3 : (n : Int) ≤ 140737488355328 := by omega
  have h4 : 8 * (n : Int) ≤ 281474976710656 := by omega
  have hm1 : min 1 n = 1 := by omega
  simp -dsimp [h2, hw, h3, h4]
  refine lg_ren 7 30 500030 rfl rfl (by simp) (by simp) ?_
  refine wk_loop (fun m : Nat => ⟨[(8, pI m), (7, .osl 500030)], [(500030, .row 3 1 .ro (List.replicate m [eI v] ++ List.replicate (n - m) [eI 0]))]⟩) (fun m => 1 ≤ m ∧ m ≤ n) (fun m => n - m) 1
    (le_of (by simp [hm1]) (by simp [hm1])) ⟨by omega, h1⟩ fun m ⟨hm, hmn⟩ => ?_
  have hmx : m + (n - m) = n := by omega
  simp -dsimp [hmx]
  refine condX_dec (fun h => ?_) (fun h => ?_)
  · simp -dsimp
    have hm0 : 0 < m := hm
    obtain ⟨q, hq⟩ : ∃ q, min m (n - m) = q := ⟨_, rfl⟩
    refine wk_dag (dagS [(8, pI m), (7, .osl 500030)] [(7, .osl 500030)] 9 [(38, pI m), (39, .osl 500030), (40, pI m), (41, .osv 500030 1 m (n - m)), (42, .osl 500030), (43, pI m), (44, .osv 500030 1 0 m), (45, pI q), (46, pI (IntKind.i64.wrap ((m : Int) + q))), (8, pI (IntKind.i64.wrap ((m : Int) + q)))]
      [(500030, .row 3 1 .ro (List.replicate m [eI v] ++ List.replicate (n - m) [eI 0]))] [(500030, .row 3 1 .ro (spl (List.replicate m [eI v] ++ List.replicate (n - m) [eI 0]) m ((List.replicate m [eI v]).take q)))] 7) repDag mixed (by kernel_rfl) (le_of (by simp) (by simp)) ?_ ?_
    · unfold repDag
      simp -dsimp [hm0, h, hmn, hmx, hq]
      repeat' first
        | exact le_of (by simp) (by simp)
        | apply And.intro
    have hw1 := wr (n := (m : Int) + q) (by omega) (by omega)
    have hrow : spl (List.replicate m [eI v] ++ List.replicate (n - m) [eI 0]) m ((List.replicate m [eI v]).take q) = List.replicate (m + q) [eI v] ++ List.replicate (n - (m + q)) [eI 0] := by
      have hqm : q ≤ m := by omega
      have hqn : q ≤ n - m := by omega
      rw [spl, List.length_take, List.length_replicate, Nat.min_eq_left hqm, List.take_replicate, Nat.min_eq_left hqm]
      have e1 : (List.replicate m [eI v] ++ List.replicate (n - m) [eI 0]).take m = List.replicate m [eI v] := List.take_left' (by simp)
      have e2 : (List.replicate m [eI v] ++ List.replicate (n - m) [eI 0]).drop (m + q) = List.replicate (n - (m + q)) [eI 0] := by
        rw [List.drop_append, List.drop_eq_nil_of_le (by simp), List.nil_append, List.drop_replicate]
        congr 1
        simp
        omega
      rw [e1, e2, List.replicate_append_replicate]
    simp -dsimp
    exact LoopP_next (m + q) (le_of (by simp [hw1]) (by simp [← hrow])) ⟨by omega, by omega⟩ (by omega)
  · have e : m = n := by omega
    subst e
    simp -dsimp
    exact retP_own 500030 (by simp; rfl) (by simp) (by simp) (by simp) (by simp)
/-- A new row of plain values may be lent on. -/
theorem pcall_ownfz {P : Program} {f : FuncId} {args : List TL} {ty sz : Nat} {k : Kind} {xs : List (List TL)} (h : PCall P f args (.osl 0) [(0, .row ty sz k xs)]) (hflat : ∀ e ∈ xs, ∀ x ∈ e, ∃ v, x = TL.v v) : PCall P f args (.osl 0) [(0, .row ty sz .fz xs)] := by
  refine ⟨h.1, fun w S vals a b c => (h.2 w S vals a b c).mono ?_⟩
  rintro e w' ⟨v, φ, fp, h1, h2, h3, h4, h5, h6⟩
  refine ⟨v, φ, fp, h1, h2, fun m => ?_, h4, h5, ?_⟩
  · have := h3 m
    simp only [getM] at this ⊢
    by_cases e : 0 = m
    · rw [if_pos e] at this ⊢
      obtain ⟨cells, hown, hbd, hlen, hrep⟩ := this
      exact ⟨cells, hown, hbd, hlen, fun i j e x he hx => by
        obtain ⟨v, rfl⟩ := hflat e (List.mem_of_getElem? he) x (List.mem_of_getElem? hx)
        have := hrep i j e _ he hx
        cases this
        exact .v _⟩
    · rw [if_neg e] at this ⊢
      exact this
  · cases h6 with
    | osl h => exact .osl h
theorem repeat_fz (v : Int) (n : Nat) (h1 : 1 ≤ n) (hn : n < 64) : PCall Try.prog 76 [eIs [v], eI n] (.osl 0) [(0, .row 3 1 .fz (List.replicate n [eI v]))] :=
  pcall_ownfz (repeat_spec v n h1 hn) fun e he x hx => by
    rw [List.eq_of_mem_replicate he] at hx
    simp at hx
    exact ⟨_, hx⟩
end Go.Proofs.Ytmneioafbkknhaa
