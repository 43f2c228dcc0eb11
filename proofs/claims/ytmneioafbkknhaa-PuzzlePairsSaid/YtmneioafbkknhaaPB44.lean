import Derived.Test.YtmneioafbkknhaaPB43
/- PB44: pairs: the closure that gathers what is allowed. -/
set_option linter.unusedVariables false
set_option linter.unusedSimpArgs false
set_option maxRecDepth 20000
namespace Go.Proofs.Ytmneioafbkknhaa
open Go Go.PS
attribute [-simp] List.map_take
/-- The cells of a table of numbers. -/
def tabC (A : List Int) : List PV := A.map fun v => .t .fz (.v (.int .i64 v))
@[simp] theorem tabC_len (A : List Int) : (tabC A).length = A.length := by simp [tabC]
@[simp] theorem tabC_get (A : List Int) (i : Nat) : (tabC A)[i]? = (A[i]?).map fun v => .t .fz (.v (.int .i64 v)) := by simp [tabC]
@[simp] theorem tabC_getE (A : List Int) (i : Nat) (h : i < (tabC A).length) : (tabC A)[i] = .t .fz (.v (.int .i64 (A[i]'(by simpa using h)))) := by simp [tabC]
@[simp] theorem tabC_set (A : List Int) (i : Nat) (v : Int) : (tabC A).set i (.t .fz (.v (.int .i64 v))) = tabC (A.set i v) := by simp [tabC, List.map_set]
@[simp] theorem tabC_men (m : Nat) : ∀ A : List Int, PV.menL m (tabC A) = false
  | [] => rfl
  | x :: A => tabC_men m A
@[simp] theorem tabC_mp (f : Nat → Option Nat) (nk : Bool) : ∀ A : List Int, PV.mpL f nk (tabC A) = tabC A
  | [] => rfl
  | x :: A => by
    have := tabC_mp f nk A
    simp only [tabC, List.map_cons, PV.mpL, PV.mp] at this ⊢
    rw [this]
    cases nk <;> rfl
@[simp] theorem tabC_nm (b : Bool) (z : Nat) : ∀ A : List Int, PV.nmL b z (tabC A) = true
  | [] => rfl
  | x :: A => tabC_nm b z A
@[simp] theorem tabC_ren (d : Nat) : ∀ A : List Int, PV.renL d (tabC A) = tabC A
  | [] => rfl
  | x :: A => by
    have := tabC_ren d A
    simp only [tabC, List.map_cons, PV.renL, PV.ren] at this ⊢
    rw [this]
@[simp] theorem tabC_kill (m : Nat) (A : List Int) : (tabC A).map (fun x => if x.men m then .undef else x) = tabC A := by
  simp [tabC, PV.men]
@[simp] theorem tabC_lend (f : PV → Option (Bool × TL)) (h : ∀ x, f (.t .fz x) = some (false, x)) : ∀ A : List Int, optL f (tabC A) = some (false, A.map eI)
  | [] => rfl
  | x :: A => by
    have := tabC_lend f h A
    simp only [tabC, List.map_cons, optL, h] at this ⊢
    rw [this]
    rfl
theorem shl_bit {s : Nat} (hs : s < 4) : InN 4 (shlI 1 s) ∧ ∀ t, bt (shlI 1 s) t = decide (s = t) := by
  rw [shl1 s (by omega)]
  exact ⟨⟨_, rfl, Nat.pow_lt_pow_right (by decide) hs⟩, fun t => by rw [bt, Int.toNat_natCast, Nat.testBit_two_pow]⟩
theorem tab_set {A : List Int} (hA : tabP A) {k : Nat} (hk : k < A.length) {y : Int} (hy : InN 4 y) : tabP (A.set k y) ∧ ∀ m, (A.set k y).getD m 0 = if k = m then y else A.getD m 0 := by
  refine ⟨⟨by rw [List.length_set]; exact hA.1, fun x hx => ?_⟩, fun m => ?_⟩
  · rcases List.mem_or_eq_of_mem_set hx with h | h
    · exact hA.2 x h
    · rw [h]
      exact hy
  · rw [List.getD_eq_getElem?_getD]
    by_cases e : k = m
    · subst e
      rw [if_pos rfl, List.getElem?_set_self hk]
      rfl
    · rw [if_neg e, List.getElem?_set_ne e, List.getD_eq_getElem?_getD]
/-- One pair more. -/
theorem tab_or {A : List Int} (hA : tabP A) {u w s : Nat} (hu : u < 8) (hw : w < 8) (hs : s < 4) (hk : u * 8 + w < A.length) : tabP (A.set (u * 8 + w) (orI A[u * 8 + w] (shlI 1 s))) ∧
    ∀ i j t, i < 8 → j < 8 → bt ((A.set (u * 8 + w) (orI A[u * 8 + w] (shlI 1 s))).getD (i * 8 + j) 0) t = (bt (A.getD (i * 8 + j) 0) t || (decide (i = u) && decide (j = w) && decide (s = t))) := by
  have hx := hA.2 _ (List.getElem_mem hk)
  obtain ⟨h1, h2⟩ := shl_bit hs
  obtain ⟨t1, t2⟩ := tab_set hA hk (inN_or (by omega) hx h1)
  refine ⟨t1, fun i j t hi hj => ?_⟩
  rw [t2]
  by_cases e : u * 8 + w = i * 8 + j
  · have e1 : i = u := by omega
    have e2 : j = w := by omega
    subst e1 e2
    rw [if_pos rfl, bt_or (by omega) hx h1, h2, getD_mem hk]
    simp
  · rw [if_neg e]
    have : (decide (i = u) && decide (j = w)) = false := by
      by_cases e1 : i = u
      · by_cases e2 : j = w
        · subst e1 e2
          exact absurd rfl e
        · simp [e2]
      · simp [e1]
    rw [this]
    simp
@[simp] def pM (A : List Int) (x : List (Int × Int)) : List (Nat × Res) := [(1000000, .blk 98 (tabC A)), (1000010, .tab .ro (mI x))]
theorem lookup_iff {x : List (Int × Int)} (h : (x.map (·.1)).Nodup) {v y : Int} : x.lookup v = some y ↔ ∃ i : Nat, x[i]? = some (v, y) := by
  constructor
  · intro hl
    obtain ⟨l1, l2, hxe, _⟩ := List.lookup_eq_some_iff.1 hl
    exact ⟨l1.length, by rw [hxe]; simp⟩
  · rintro ⟨i, hi⟩
    exact lookup_of h hi
theorem pairs1_spec (A : List Int) (x : List (Int × Int)) (n : Nat) (hn : n ≤ 8) (hA : tabP A) (hx : goodX n x) :
    ECallP Try.prog 70 [.omp 1000010, .ptr 1000000 0] (pM A x) fun r M' => r = pB true ∧ ∃ A', M' = pM A' x ∧ tabP A' ∧ ∀ i a j b : Nat, i < 8 → j < 8 → a < 2 → b < 2 → (hasF A' i a j b = true ↔ hasF A i a j b = true ∨ (x.lookup (i : Int) = some (a : Int) ∧ x.lookup (j : Int) = some (b : Int))) := by
  refine ecallP_wp Try.func70 rfl (by kernel_rfl) ?_
  simp -dsimp
  refine wk_loop (fun q : List Nat × List Int => ⟨[(9, .ptr 9 0), (0, .omp 1000010), (1, .ptr 1000000 0)], (9, .iter 1000010 x.length q.1) :: pM q.2 x⟩)
    (fun q => (∀ i ∈ q.1, i < x.length) ∧ tabP q.2 ∧ ∀ i a j b : Nat, i < 8 → j < 8 → a < 2 → b < 2 → (hasF q.2 i a j b = true ↔ hasF A i a j b = true ∨ ((∃ k ∈ q.1, x[k]? = some ((i : Int), (a : Int))) ∧ x.lookup (j : Int) = some (b : Int)))) (fun q => unseen x.length q.1) ([], A) (le_of (by simp) (by simp)) ⟨by simp, hA, by simp⟩ fun ⟨seen, A1⟩ ⟨hlt, hA1, hJ⟩ => ?_
  dsimp only at hlt hA1 hJ
  simp -dsimp
  refine NextG.by (by decide) (by simp) (fun hall => ?_) (fun k p hp hns => ?_)
  · simp -dsimp
    refine retEP_c (pB true) (pM A1 x) ⟨rfl, A1, rfl, hA1, fun i a j b hi hj ha hb => ?_⟩ (by simp) (by simp)
    rw [hJ i a j b hi hj ha hb, lookup_iff hx.1 (v := (i : Int))]
    constructor
    · rintro (h | ⟨⟨k, _, hk⟩, h⟩)
      · exact .inl h
      · exact .inr ⟨⟨k, hk⟩, h⟩
    · rintro (h | ⟨⟨k, hk⟩, h⟩)
      · exact .inl h
      · exact .inr ⟨⟨k, hall k (List.getElem?_eq_some_iff.1 hk).1, hk⟩, h⟩
  obtain ⟨q, hq, rfl⟩ := mI_get hp
  have hkl : k < x.length := (List.getElem?_eq_some_iff.1 hq).1
  obtain ⟨h1, h2, h3, h4⟩ := hx.2 q (List.mem_of_getElem? hq)
  obtain ⟨u, v⟩ := q
  dsimp only at h1 h2 h3 h4
  obtain ⟨u, rfl⟩ : ∃ u' : Nat, u = u' := ⟨u.toNat, by omega⟩
  obtain ⟨v, rfl⟩ : ∃ v' : Nat, v = v' := ⟨v.toNat, by omega⟩
  simp -dsimp [hp]
  refine wk_loop (fun z : List Nat × List Int => ⟨[(16, .ptr 16 0), (9, .ptr 9 0), (4, .t .fz (eI u)), (5, .t .ro (eI v)), (0, .omp 1000010), (1, .ptr 1000000 0)], (16, .iter 1000010 x.length z.1) :: (9, .iter 1000010 x.length (k :: seen)) :: pM z.2 x⟩)
    (fun z => (∀ i ∈ z.1, i < x.length) ∧ tabP z.2 ∧ ∀ i a j b : Nat, i < 8 → j < 8 → a < 2 → b < 2 → (hasF z.2 i a j b = true ↔ hasF A1 i a j b = true ∨ (i = u ∧ a = v ∧ ∃ m ∈ z.1, x[m]? = some ((j : Int), (b : Int))))) (fun z => unseen x.length z.1) ([], A1) (le_of (by simp) (by simp)) ⟨by simp, hA1, by simp⟩ fun ⟨seen2, A2⟩ ⟨hlt2, hA2, hJ2⟩ => ?_
  dsimp only at hlt2 hA2 hJ2
  simp -dsimp
  refine NextG.by (by decide) (by simp) (fun hall => ?_) (fun m p2 hp2 hns2 => ?_)
  · simp -dsimp
    refine LoopP_next (k :: seen, A2) (le_of (by simp) (by simp)) ⟨fun i hi => ?_, hA2, fun i a j b hi hj ha hb => ?_⟩ (unseen_lt hkl hns)
    · rcases List.mem_cons.1 hi with rfl | hi
      · exact hkl
      · exact hlt i hi
    · dsimp only
      rw [hJ2 i a j b hi hj ha hb, hJ i a j b hi hj ha hb, lookup_iff hx.1 (v := (j : Int))]
      constructor
      · rintro ((h | ⟨⟨z, hz, hz2⟩, h⟩) | ⟨rfl, rfl, z, hz, hz2⟩)
        · exact .inl h
        · exact .inr ⟨⟨z, by simp [hz], hz2⟩, h⟩
        · exact .inr ⟨⟨k, by simp, hq⟩, ⟨z, hz2⟩⟩
      · rintro (h | ⟨⟨z, hz, hz2⟩, ⟨w, hw⟩⟩)
        · exact .inl (.inl h)
        · rcases List.mem_cons.1 hz with rfl | hz
          · rw [hq] at hz2
            simp only [Option.some.injEq, Prod.mk.injEq, Int.natCast_inj] at hz2
            exact .inr ⟨hz2.1.symm, hz2.2.symm, w, hall w (List.getElem?_eq_some_iff.1 hw).1, hw⟩
          · exact .inl (.inr ⟨⟨z, hz, hz2⟩, ⟨w, hw⟩⟩)
  obtain ⟨q2, hq2, rfl⟩ := mI_get hp2
  have hml : m < x.length := (List.getElem?_eq_some_iff.1 hq2).1
  obtain ⟨k1, k2, k3, k4⟩ := hx.2 q2 (List.mem_of_getElem? hq2)
  obtain ⟨w, y⟩ := q2
  dsimp only at k1 k2 k3 k4
  obtain ⟨w, rfl⟩ : ∃ w' : Nat, w = w' := ⟨w.toNat, by omega⟩
  obtain ⟨y, rfl⟩ : ∃ y' : Nat, y = y' := ⟨y.toNat, by omega⟩
  have hu8 : u < 8 := by omega
  have hw8 : w < 8 := by omega
  have hlA := hA2.1
  have hidx : u * 8 + w < A2.length := by omega
  have hidx' : u * 8 + w < 64 := by omega
  have hu8' : (u : Int) < 8 := by omega
  have hw8' : (w : Int) < 8 := by omega
  obtain ⟨s, hs⟩ : ∃ s, v + 2 * y = s := ⟨_, rfl⟩
  have hs4 : s < 4 := by omega
  have hw1 : IntKind.i64.wrap (2 * (y : Int)) = 2 * y := wr (by omega) (by omega)
  have hw2 : IntKind.i64.wrap ((v : Int) + 2 * y) = (s : Int) := by rw [wr (by omega) (by omega)]; omega
  have hs0 : (0 : Int) ≤ (s : Int) := by omega
  obtain ⟨t1, t2⟩ := tab_or hA2 hu8 hw8 hs4 hidx
  simp -dsimp [hp2]
  refine wk_draw 12 [] mixed (by kernel_rfl) ?_
  have hu0 : (0 : Int) ≤ u := by omega
  have hw0 : (0 : Int) ≤ w := by omega
  have hidx1 : u * 8 + w + 1 ≤ A2.length := hidx
  simp -dsimp [hu0, hw0, hu8', hw8', hidx, hidx1, hw1, hw2, hs0]
  refine LoopP_next (m :: seen2, A2.set (u * 8 + w) (orI A2[u * 8 + w] (shlI 1 s))) (le_of (by simp) (by simp)) ⟨fun i hi => ?_, t1, fun i a j b hi hj ha hb => ?_⟩ (unseen_lt hml hns2)
  · rcases List.mem_cons.1 hi with rfl | hi
    · exact hml
    · exact hlt2 i hi
  · dsimp only
    rw [hasF, t2 i j _ hi hj, Bool.or_eq_true, ← hasF, hJ2 i a j b hi hj ha hb]
    simp only [Bool.and_eq_true, decide_eq_true_eq]
    constructor
    · rintro ((h | ⟨rfl, rfl, z, hz, hz2⟩) | ⟨⟨rfl, rfl⟩, h⟩)
      · exact .inl h
      · exact .inr ⟨rfl, rfl, z, by simp [hz], hz2⟩
      · have e1 : a = v := by omega
        have e2 : b = y := by omega
        subst e1 e2
        exact .inr ⟨rfl, rfl, m, by simp, hq2⟩
    · rintro (h | ⟨rfl, rfl, z, hz, hz2⟩)
      · exact .inl (.inl h)
      · rcases List.mem_cons.1 hz with rfl | hz
        · rw [hq2] at hz2
          simp only [Option.some.injEq, Prod.mk.injEq, Int.natCast_inj] at hz2
          obtain ⟨rfl, rfl⟩ := hz2
          exact .inr ⟨⟨rfl, rfl⟩, hs.symm⟩
        · exact .inl (.inr ⟨rfl, rfl, z, hz, hz2⟩)
end Go.Proofs.Ytmneioafbkknhaa
