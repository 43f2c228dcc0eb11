import Derived.Test.YtfcbmcmkakceaaaDoorLB1
/- LB2: reading a graph, both, rounds, near; copies; a choice more. -/
set_option linter.unusedVariables false
set_option linter.unusedSimpArgs false
set_option maxRecDepth 20000
namespace Go.Proofs.YtfcbmcmkakceaaaDoor
open Go Go.PS
theorem at_ {l : List Int} {i : Nat} (h : i < l.length) : l[i]? = some (l.getD i 0) := by simp [List.getD_eq_getElem?_getD, h]
theorem orI_nat (a b : Nat) (ha : a < 9223372036854775808) (hb : b < 9223372036854775808) : orI (a : Int) (b : Int) = ((a ||| b : Nat) : Int) := by
  have hx : a ||| b < 2 ^ 63 := Nat.or_lt_two_pow (by omega) (by omega)
  have h1 : (BitVec.ofInt 64 (a : Int)).toNat = a := by
    rw [BitVec.ofInt_natCast, BitVec.toNat_ofNat]; exact Nat.mod_eq_of_lt (by omega)
  have h2 : (BitVec.ofInt 64 (b : Int)).toNat = b := by
    rw [BitVec.ofInt_natCast, BitVec.toNat_ofNat]; exact Nat.mod_eq_of_lt (by omega)
  show IntKind.i64.wrap ((BitVec.ofInt 64 (a : Int) ||| BitVec.ofInt 64 (b : Int)).toNat : Int) = _
  rw [BitVec.toNat_or, h1, h2, IntKind.wrap_i64]
  omega
/-- A row's own bounds. -/
def rowA (g : List Int) (i : Nat) : Bool := !(decide (g.getD i 0 < 0) || (decide (((2 ^ g.length : Nat) : Int) ≤ g.getD i 0) || andI (shrI (g.getD i 0) i) 1 == 1))
def cellB (g : List Int) (i j : Nat) : Bool := andI (shrI (g.getD i 0) j) 1 == andI (shrI (g.getD j 0) i) 1
def rowB (g : List Int) (i : Nat) : Bool := rowA g i && (List.range g.length).all (cellB g i)
def graphB (g : List Int) : Bool := (List.range g.length).all (rowB g)
def isgB (g : List Int) : Bool := decide (1 ≤ g.length ∧ g.length ≤ 6) && graphB g
/-- The town of a graph. -/
def townOf (g : List Int) : List Nat := g.map Int.toNat
def readF (g : List Int) : TL := if isgB g = true then .tup [eIs g, eB true] else .tup [.v (.slice none 0 0), eB false]
theorem rowA_lt {g : List Int} {i : Nat} (h : rowA g i = true) : 0 ≤ g.getD i 0 ∧ g.getD i 0 < (2 ^ g.length : Nat) := by
  simp only [rowA, Bool.not_eq_true', Bool.or_eq_false_iff, decide_eq_false_iff_not] at h
  omega
theorem isg_parts {g : List Int} (h : isgB g = true) : 1 ≤ g.length ∧ g.length ≤ 6 ∧ ∀ i, i < g.length → rowA g i = true ∧ ∀ j, j < g.length → cellB g i j = true := by
  simp only [isgB, graphB, rowB, Bool.and_eq_true, decide_eq_true_eq, List.all_eq_true, List.mem_range] at h
  exact ⟨h.1.1, h.1.2, fun i hi => h.2 i hi⟩
theorem town_len (g : List Int) : (townOf g).length = g.length := by simp [townOf]
theorem town_get (g : List Int) (i : Nat) : (townOf g).getD i 0 = (g.getD i 0).toNat := by
  simp only [townOf, List.getD_eq_getElem?_getD, List.getElem?_map]
  cases g[i]? <;> rfl
theorem town_back {g : List Int} (h : isgB g = true) : iL (townOf g) = g := by
  obtain ⟨_, _, h3⟩ := isg_parts h
  apply List.ext_getElem (by simp [town_len])
  intro i h1 h2
  have h4 := (rowA_lt (h3 i h2).1).1
  rw [List.getD_eq_getElem?_getD, List.getElem?_eq_getElem h2] at h4
  simp only [Option.getD_some] at h4
  simp [iL, townOf]
  omega
theorem and1_bit (x i : Nat) (hx : x < 4096) (hi : i < 64) : andI (shrI (x : Int) i) 1 = if x.testBit i then 1 else 0 := and1 x (by omega) i (by omega)
theorem town_tow {g : List Int} (h : isgB g = true) : Tow 6 (townOf g) := by
  obtain ⟨h1, h6, h3⟩ := isg_parts h
  have hlt : ∀ i, i < g.length → (g.getD i 0).toNat < 2 ^ g.length ∧ ((g.getD i 0).toNat : Int) = g.getD i 0 := fun i hi => by
    have := rowA_lt (h3 i hi).1
    omega
  have h64 : 2 ^ g.length ≤ 2 ^ 6 := Nat.pow_le_pow_right (by decide) h6
  have hbit : ∀ i j, i < g.length → j < 64 → andI (shrI (g.getD i 0) j) 1 = if (g.getD i 0).toNat.testBit j then 1 else 0 := fun i j hi hj => by
    have := hlt i hi
    rw [← this.2]
    exact and1_bit _ j (by omega) hj
  refine ⟨by rw [town_len]; exact h1, by rw [town_len]; exact h6, fun x hx => ?_, fun i hi => ?_, fun i j hi hj => ?_⟩
  · obtain ⟨i, hi, rfl⟩ := List.mem_iff_getElem.1 hx
    have hi' : i < g.length := by rw [← town_len]; exact hi
    have e : (townOf g)[i] = (townOf g).getD i 0 := by simp [List.getD_eq_getElem?_getD, hi]
    rw [e, town_get, town_len]
    exact (hlt i hi').1
  · rw [town_len] at hi
    have hA := (h3 i hi).1
    rw [town_get]
    simp only [rowA, Bool.not_eq_true', Bool.or_eq_false_iff] at hA
    have := hA.2.2
    rw [hbit i i hi (by omega)] at this
    cases hb : (g.getD i 0).toNat.testBit i with
    | false => rfl
    | true => rw [hb] at this; simp at this
  · rw [town_len] at hi hj
    have hC := (h3 i hi).2 j hj
    rw [cellB, hbit i j hi (by omega), hbit j i hj (by omega)] at hC
    rw [town_get, town_get]
    cases h1 : (g.getD i 0).toNat.testBit j <;> cases h2 : (g.getD j 0).toNat.testBit i <;> rw [h1, h2] at hC <;> simp at hC <;> rfl
theorem read_spec (g : List Int) : PCall Tryd.prog 60 [eIs g] (.t .ro (readF g)) [] := by
  refine pcall_wpT Tryd.func60 rfl (by kernel_rfl) ?_
  have hF0 : isgB g = false → readF g = .tup [.v (.slice none 0 0), eB false] := fun h => by rw [readF, h]; rfl
  by_cases h1 : (g.length : Int) < 1
  · have hF := hF0 (by rw [isgB, decide_eq_false (by omega)]; rfl)
    simp -dsimp [h1]
    refine retT_c ?_
    simp -dsimp [hF]
  by_cases h8 : 6 < (g.length : Int)
  · have hF := hF0 (by rw [isgB, decide_eq_false (by omega)]; rfl)
    simp -dsimp [h1, h8]
    refine retT_c ?_
    simp -dsimp [hF]
  have hbad : ∀ i, i < g.length → rowB g i = false → readF g = .tup [.v (.slice none 0 0), eB false] := fun i hi h => by
    apply hF0
    rw [isgB]
    have : graphB g = false := by
      rw [graphB, List.all_eq_false]
      exact ⟨i, List.mem_range.2 hi, by rw [h]; simp⟩
    rw [this, Bool.and_false]
  have hs := shl1 g.length (by omega)
  have hN : 2 ^ g.length ≤ 2 ^ 6 := Nat.pow_le_pow_right (by decide) (by omega)
  obtain ⟨N, hNe⟩ : ∃ N, N = 2 ^ g.length := ⟨_, rfl⟩
  rw [← hNe] at hs hN
  simp -dsimp [h1, h8]
  refine wk_loop (fun i : Nat => ⟨[(18, pI i), (17, pI g.length), (16, .t .ro (eIs g)), (4, pI g.length), (0, .t .ro (eIs g))], []⟩)
    (fun i => i ≤ g.length ∧ ∀ k, k < i → rowB g k = true) (fun i => g.length - i) 0
    (le_of (by simp) (by simp)) ⟨by omega, fun k h => by omega⟩ fun i ⟨hi, hr⟩ => ?_
  simp -dsimp
  refine condX_dec (fun h => ?_) (fun h => ?_)
  · have hw := wr (n := (i : Int) + 1) (by omega) (by omega)
    have hx := at_ (l := g) (i := i) h
    have hA : rowA g i = !(decide (g.getD i 0 < 0) || (decide ((N : Int) ≤ g.getD i 0) || andI (shrI (g.getD i 0) i) 1 == 1)) := by rw [hNe]; rfl
    have hi0 : (0 : Int) ≤ i := by omega
    have hil : (i : Int) < g.length := by omega
    generalize hgx : g.getD i 0 = x at hx hA
    cases hb : rowA g i with
    | false =>
      have hF := hbad i h (by rw [rowB, hb]; rfl)
      rw [hb] at hA
      by_cases c1 : x < 0
      · simp -dsimp [hi0, hil, hx, c1, hs]
        refine retT_c ?_
        simp -dsimp [hF]
      by_cases c2 : (N : Int) ≤ x
      · simp -dsimp [hi0, hil, hx, c1, c2, hs]
        refine retT_c ?_
        simp -dsimp [hF]
      have c3 : (andI (shrI x i) 1 == 1) = true := by simpa [c1, c2] using hA
      simp -dsimp [hi0, hil, hx, c1, c2, c3, hs]
      refine retT_c ?_
      simp -dsimp [hF]
    | true =>
      rw [hb] at hA
      have c1 : ¬ x < 0 := by
        intro e
        simp [e] at hA
      have c2 : ¬ (N : Int) ≤ x := by
        intro e
        simp [e] at hA
      have c3 : (andI (shrI x i) 1 == 1) = false := by simpa [c1, c2] using hA
      simp -dsimp [hi0, hil, hx, c1, c2, c3, hs]
      refine wk_loop (fun j : Nat => ⟨[(39, pI j), (38, pI g.length), (5, pI i), (6, .t .ro (eI x)), (18, pI i), (17, pI g.length), (16, .t .ro (eIs g)), (4, pI g.length), (0, .t .ro (eIs g))], []⟩)
        (fun j => j ≤ g.length ∧ ∀ k, k < j → cellB g i k = true) (fun j => g.length - j) 0
        (le_of (by simp) (by simp)) ⟨by omega, fun k h => by omega⟩ fun j ⟨hj, hrj⟩ => ?_
      simp -dsimp
      refine condX_dec (fun h' => ?_) (fun h' => ?_)
      · have hw' := wr (n := (j : Int) + 1) (by omega) (by omega)
        have hy := at_ (l := g) (i := j) h'
        have hj0 : (0 : Int) ≤ j := by omega
        have hjl : (j : Int) < g.length := by omega
        have hC : cellB g i j = (andI (shrI x j) 1 == andI (shrI (g.getD j 0) i) 1) := by rw [cellB, hgx]
        generalize g.getD j 0 = y at hy hC
        simp -dsimp
        refine wk_draw 11 [] mixed (by kernel_rfl) ?_
        cases hc : cellB g i j with
        | false =>
          have hF := hbad i h (by
            rw [rowB, hb, Bool.true_and, Bool.eq_false_iff]
            intro e
            rw [List.all_eq_true.1 e j (List.mem_range.2 h')] at hc
            cases hc)
          have hne : (andI (shrI x j) 1 != andI (shrI y i) 1) = true := by rw [bne, ← hC, hc]; rfl
          simp -dsimp [hi0, hil, hj0, hjl, hy, hne]
          refine retT_c ?_
          simp -dsimp [hF]
        | true =>
          have hne : (andI (shrI x j) 1 != andI (shrI y i) 1) = false := by rw [bne, ← hC, hc]; rfl
          simp -dsimp [hi0, hil, hj0, hjl, hy, hne]
          refine LoopP_next (j + 1) (le_of (by simp [hw']) (by simp)) ⟨h', fun k hk => ?_⟩ (by omega)
          rcases Nat.lt_or_ge k j with h5 | h5
          · exact hrj k h5
          · rwa [show k = j by omega]
      · have hj' : j = g.length := by omega
        have hrow : rowB g i = true := by
          rw [rowB, hb, Bool.true_and, List.all_eq_true]
          intro k hk
          exact hrj k (by rw [hj']; exact List.mem_range.1 hk)
        simp -dsimp
        refine LoopP_next (i + 1) (le_of (by simp [hw]) (by simp)) ⟨h, fun k hk => ?_⟩ (by omega)
        rcases Nat.lt_or_ge k i with h5 | h5
        · exact hr k h5
        · rwa [show k = i by omega]
  · have hi' : i = g.length := by omega
    have hg : graphB g = true := List.all_eq_true.2 fun k hk => hr k (by rw [hi']; exact List.mem_range.1 hk)
    have hF : readF g = .tup [eIs g, eB true] := by rw [readF, if_pos (by rw [isgB, hg, decide_eq_true (by omega)]; rfl)]
    simp -dsimp
    refine retT_c ?_
    simp -dsimp [hF]
end Go.Proofs.YtfcbmcmkakceaaaDoor
