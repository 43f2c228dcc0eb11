import Derived.Test.YtmneioafbkknhaaPB41
/- PB43: pairs: has, supported, the closure. -/
set_option linter.unusedVariables false
set_option linter.unusedSimpArgs false
set_option maxRecDepth 20000
namespace Go.Proofs.Ytmneioafbkknhaa
open Go Go.PS
attribute [-simp] List.map_take
/-- A table of 8 times 8 sets of pairs. -/
def tabP (X : List Int) : Prop := X.length = 64 ∧ ∀ x ∈ X, InN 4 x
def hasF (X : List Int) (i a j b : Nat) : Bool := bt (X.getD (i * 8 + j) 0) (a + 2 * b)
@[simp] theorem arT98 : arT Try.prog 98 = some (8, 8) := by kernel_rfl
@[simp] theorem arT96 : arT Try.prog 96 = some (8, 1) := by kernel_rfl
theorem bit_is {x : Int} (hx : InN 4 x) {s : Nat} (hs : s ≤ 62) : (andI (shrI x s) 1 == 1) = bt x s := by
  obtain ⟨k, rfl, hk⟩ := hx
  rw [and1 k (by omega) s (by omega)]
  show _ = k.testBit s
  cases h : k.testBit s <;> simp
theorem phas_spec (X : List Int) (i a j b : Nat) (hX : tabP X) (hi : i < 8) (hj : j < 8) (ha : a < 2) (hb : b < 2) : PCall Try.prog 71 [.rp (X.map eI) 0, eI i, eI a, eI j, eI b] (pB (hasF X i a j b)) [] := by
  refine pcall_wp _ Try.func71 rfl (by kernel_rfl) rfl ?_
  have hl := hX.1
  have hij : i * 8 + j < X.length := by omega
  have hij' : i * 8 + j < 64 := by omega
  have hi0 : (0 : Int) ≤ i := by omega
  have hi8 : (i : Int) < 8 := by omega
  have hj0 : (0 : Int) ≤ j := by omega
  have hj8 : (j : Int) < 8 := by omega
  have hw1 : IntKind.i64.wrap (2 * (b : Int)) = 2 * b := wr (by omega) (by omega)
  obtain ⟨s, hs⟩ : ∃ s, a + 2 * b = s := ⟨_, rfl⟩
  have hw2 : IntKind.i64.wrap ((a : Int) + 2 * b) = (s : Int) := by rw [wr (by omega) (by omega)]; omega
  have hs0 : (0 : Int) ≤ (s : Int) := by omega
  have hbit := bit_is (hX.2 _ (List.getElem_mem hij)) (s := s) (by omega)
  have hF : hasF X i a j b = bt X[i * 8 + j] s := by rw [hasF, getD_mem hij, hs]
  simp -dsimp [hi0, hi8, hj0, hj8, hij, hw1, hw2, hs0, hbit]
  refine retP_c ?_
  simp -dsimp [hF]
/-- Has a pair a value of every variable? -/
def supP (X : List Int) (n i a j b : Nat) : Bool := (List.range n).all fun k => (hasF X i a k 0 && hasF X j b k 0) || (hasF X i a k 1 && hasF X j b k 1)
theorem psupp_spec (X : List Int) (n i a j b : Nat) (hX : tabP X) (hn : n ≤ 8) (hi : i < 8) (hj : j < 8) (ha : a < 2) (hb : b < 2) : PCall Try.prog 72 [.rp (X.map eI) 0, eI n, eI i, eI a, eI j, eI b] (pB (supP X n i a j b)) [] := by
  refine pcall_wp _ Try.func72 rfl (by kernel_rfl) rfl ?_
  simp -dsimp
  refine wk_loop (fun k : Nat => ⟨[(15, pI k), (14, .t .ro (eI n)), (0, .t .ro (.rp (X.map eI) 0)), (2, .t .ro (eI i)), (3, .t .ro (eI a)), (4, .t .ro (eI j)), (5, .t .ro (eI b))], []⟩) (fun k => k ≤ n ∧ supP X k i a j b = true) (fun k => n - k) 0 (le_of (by simp) (by simp)) ⟨by omega, rfl⟩ fun k ⟨hk, hJ⟩ => ?_
  simp -dsimp
  refine condX_dec (fun h => ?_) (fun h => ?_)
  rotate_left
  · have e : k = n := by omega
    subst e
    simp -dsimp
    refine retP_c ?_
    simp -dsimp [hJ]
  have hw := wr (n := (k : Int) + 1) (by omega) (by omega)
  have h10 := phas_spec X i a k 0 hX hi (by omega) ha (by omega)
  have h20 := phas_spec X j b k 0 hX hj (by omega) hb (by omega)
  have h11 := phas_spec X i a k 1 hX hi (by omega) ha (by omega)
  have h21 := phas_spec X j b k 1 hX hj (by omega) hb (by omega)
  have hbad : ((hasF X i a k 0 && hasF X j b k 0) || (hasF X i a k 1 && hasF X j b k 1)) = false → supP X n i a j b = false := fun hf => by
    rw [supP, List.all_eq_false]
    exact ⟨k, List.mem_range.2 h, by rw [hf]; simp⟩
  have hgood : ((hasF X i a k 0 && hasF X j b k 0) || (hasF X i a k 1 && hasF X j b k 1)) = true → supP X (k + 1) i a j b = true := fun hf => by
    rw [supP, List.range_succ, List.all_append, ← supP, hJ]
    simpa using hf
  simp -dsimp
  first
    | refine CallG.by (h10) ?_
    | refine CallGE.by (h10) ?_
    | refine CallGB.by (h10) ?_
  cases e10 : hasF X i a k 0 with
  | true =>
    simp -dsimp
    first
      | refine CallG.by (h20) ?_
      | refine CallGE.by (h20) ?_
      | refine CallGB.by (h20) ?_
    cases e20 : hasF X j b k 0 with
    | true =>
      simp -dsimp [hw]
      exact LoopP_next (k + 1) (le_of (by simp) (by simp)) ⟨h, hgood (by rw [e10, e20]; rfl)⟩ (by omega)
    | false =>
      simp -dsimp
      first
        | refine CallG.by (h11) ?_
        | refine CallGE.by (h11) ?_
        | refine CallGB.by (h11) ?_
      cases e11 : hasF X i a k 1 with
      | true =>
        simp -dsimp
        first
          | refine CallG.by (h21) ?_
          | refine CallGE.by (h21) ?_
          | refine CallGB.by (h21) ?_
        cases e21 : hasF X j b k 1 with
        | true =>
          simp -dsimp [hw]
          exact LoopP_next (k + 1) (le_of (by simp) (by simp)) ⟨h, hgood (by rw [e10, e20, e11, e21]; rfl)⟩ (by omega)
        | false =>
          have hb' := hbad (by rw [e10, e20, e11, e21]; rfl)
          simp -dsimp
          refine retP_c ?_
          simp -dsimp [hb']
      | false =>
        have hb' := hbad (by rw [e10, e20, e11]; rfl)
        simp -dsimp
        refine retP_c ?_
        simp -dsimp [hb']
  | false =>
    simp -dsimp
    first
      | refine CallG.by (h11) ?_
      | refine CallGE.by (h11) ?_
      | refine CallGB.by (h11) ?_
    cases e11 : hasF X i a k 1 with
    | true =>
      simp -dsimp
      first
        | refine CallG.by (h21) ?_
        | refine CallGE.by (h21) ?_
        | refine CallGB.by (h21) ?_
      cases e21 : hasF X j b k 1 with
      | true =>
        simp -dsimp [hw]
        exact LoopP_next (k + 1) (le_of (by simp) (by simp)) ⟨h, hgood (by rw [e10, e11, e21]; rfl)⟩ (by omega)
      | false =>
        have hb' := hbad (by rw [e10, e11, e21]; rfl)
        simp -dsimp
        refine retP_c ?_
        simp -dsimp [hb']
    | false =>
      have hb' := hbad (by rw [e10, e11]; rfl)
      simp -dsimp
      refine retP_c ?_
      simp -dsimp [hb']
end Go.Proofs.Ytmneioafbkknhaa
