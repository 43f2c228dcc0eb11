import Derived.Test.YtmneioafbkknhaaPB47
/- PB46: Pairs of the program. -/
set_option linter.unusedVariables false
set_option linter.unusedSimpArgs false
set_option maxRecDepth 20000
namespace Go.Proofs.Ytmneioafbkknhaa
open Go Go.PS
attribute [-simp] List.map_take
/-- A table of nothing. -/
def zeroT : List Int := List.replicate 64 0
@[simp] theorem z64 : ([.t .fz (.v (.int .i64 0)), .t .fz (.v (.int .i64 0)), .t .fz (.v (.int .i64 0)), .t .fz (.v (.int .i64 0)), .t .fz (.v (.int .i64 0)), .t .fz (.v (.int .i64 0)), .t .fz (.v (.int .i64 0)), .t .fz (.v (.int .i64 0)), .t .fz (.v (.int .i64 0)), .t .fz (.v (.int .i64 0)), .t .fz (.v (.int .i64 0)), .t .fz (.v (.int .i64 0)), .t .fz (.v (.int .i64 0)), .t .fz (.v (.int .i64 0)), .t .fz (.v (.int .i64 0)), .t .fz (.v (.int .i64 0)), .t .fz (.v (.int .i64 0)), .t .fz (.v (.int .i64 0)), .t .fz (.v (.int .i64 0)), .t .fz (.v (.int .i64 0)), .t .fz (.v (.int .i64 0)), .t .fz (.v (.int .i64 0)), .t .fz (.v (.int .i64 0)), .t .fz (.v (.int .i64 0)), .t .fz (.v (.int .i64 0)), .t .fz (.v (.int .i64 0)), .t .fz (.v (.int .i64 0)), .t .fz (.v (.int .i64 0)), .t .fz (.v (.int .i64 0)), .t .fz (.v (.int .i64 0)), .t .fz (.v (.int .i64 0)), .t .fz (.v (.int .i64 0)), .t .fz (.v (.int .i64 0)), .t .fz (.v (.int .i64 0)), .t .fz (.v (.int .i64 0)), .t .fz (.v (.int .i64 0)), .t .fz (.v (.int .i64 0)), .t .fz (.v (.int .i64 0)), .t .fz (.v (.int .i64 0)), .t .fz (.v (.int .i64 0)), .t .fz (.v (.int .i64 0)), .t .fz (.v (.int .i64 0)), .t .fz (.v (.int .i64 0)), .t .fz (.v (.int .i64 0)), .t .fz (.v (.int .i64 0)), .t .fz (.v (.int .i64 0)), .t .fz (.v (.int .i64 0)), .t .fz (.v (.int .i64 0)), .t .fz (.v (.int .i64 0)), .t .fz (.v (.int .i64 0)), .t .fz (.v (.int .i64 0)), .t .fz (.v (.int .i64 0)), .t .fz (.v (.int .i64 0)), .t .fz (.v (.int .i64 0)), .t .fz (.v (.int .i64 0)), .t .fz (.v (.int .i64 0)), .t .fz (.v (.int .i64 0)), .t .fz (.v (.int .i64 0)), .t .fz (.v (.int .i64 0)), .t .fz (.v (.int .i64 0)), .t .fz (.v (.int .i64 0)), .t .fz (.v (.int .i64 0)), .t .fz (.v (.int .i64 0)), .t .fz (.v (.int .i64 0))] : List PV) = tabC zeroT := rfl
@[simp] theorem tabC_optK (f : PV → Option (Kind × TL)) (h : ∀ v : Int, f (.t .fz (.v (.int .i64 v))) = some (.fz, .v (.int .i64 v))) : ∀ A : List Int, optK f (tabC A) = some (.fz, A.map eI)
  | [] => rfl
  | x :: A => by
    have := tabC_optK f h A
    simp only [tabC, List.map_cons, optK, h] at this ⊢
    rw [this]
    rfl
theorem tabP_zero : tabP zeroT := ⟨by simp [zeroT], fun x hx => by rw [List.eq_of_mem_replicate hx]; exact ⟨0, rfl, by decide⟩⟩
theorem has_zero (i a j b : Nat) : hasF zeroT i a j b = false := by
  show hasF (List.replicate 64 0) i a j b = false
  have : (List.replicate 64 (0 : Int)).getD (i * 8 + j) 0 = 0 := by
    rw [List.getD_eq_getElem?_getD]
    by_cases h : i * 8 + j < 64
    · rw [List.getElem?_eq_getElem (by rw [List.length_replicate]; exact h), List.getElem_replicate]
      rfl
    · rw [List.getElem?_eq_none (by simp; omega)]
      rfl
  rw [hasF, this]
  simp [bt]
/-- A cell of a table is set. -/
theorem has_set {A : List Int} (hA : tabP A) {u w : Nat} (hu : u < 8) (hw : w < 8) {y : Int} (hy : InN 4 y) : tabP (A.set (u * 8 + w) y) ∧ ∀ i a j b : Nat, i < 8 → j < 8 → hasF (A.set (u * 8 + w) y) i a j b = if i = u ∧ j = w then bt y (a + 2 * b) else hasF A i a j b := by
  have hk : u * 8 + w < A.length := by rw [hA.1]; omega
  obtain ⟨t1, t2⟩ := tab_set hA hk hy
  refine ⟨t1, fun i a j b hi hj => ?_⟩
  rw [hasF, t2]
  by_cases e : i = u ∧ j = w
  · rw [if_pos e, if_pos (by rw [e.1, e.2])]
  · rw [if_neg e, if_neg (by omega), hasF]
theorem ab_cases {a b : Nat} (ha : a < 2) (hb : b < 2) : (a = 0 ∨ a = 1) ∧ (b = 0 ∨ b = 1) := by omega
theorem bt_15 {a b : Nat} (ha : a < 2) (hb : b < 2) : bt 15 (a + 2 * b) = true := by
  obtain ⟨h1 | h1, h2 | h2⟩ := ab_cases ha hb <;> subst h1 h2 <;> decide
theorem bt_9 {a b : Nat} (ha : a < 2) (hb : b < 2) : bt 9 (a + 2 * b) = decide (a = b) := by
  obtain ⟨h1 | h1, h2 | h2⟩ := ab_cases ha hb <;> subst h1 h2 <;> decide
theorem nan4_all : (List.range 16).all (fun x => (List.range 4).all fun s => (nanI x (shlI 1 s) == (nanI x (shlI 1 s)).toNat) && decide ((nanI x (shlI 1 s)).toNat < 16) && (List.range 4).all fun t => bt (nanI x (shlI 1 s)) t == (bt (x : Int) t && !(t == s))) = true := by kernel_rfl
theorem nan4 {x : Int} (hx : InN 4 x) {s : Nat} (hs : s < 4) : InN 4 (nanI x (shlI 1 s)) ∧ ∀ t, t < 4 → bt (nanI x (shlI 1 s)) t = (bt x t && !(t == s)) := by
  obtain ⟨k, rfl, hk⟩ := hx
  have h1 := List.all_eq_true.1 nan4_all k (List.mem_range.2 hk)
  have h2 := List.all_eq_true.1 h1 s (List.mem_range.2 hs)
  simp only [Bool.and_eq_true, beq_iff_eq, decide_eq_true_eq, List.all_eq_true, List.mem_range] at h2
  exact ⟨⟨_, h2.1.1, h2.1.2⟩, fun t ht => h2.2 t ht⟩
/-- A pair without support goes. -/
theorem parI_drop {p : Pz} {X : List Int} (hX : ParI p X) (hn : p.vars.toNat ≤ 8) {i a j b : Nat} (hi : i < p.vars.toNat) (hj : j < p.vars.toNat) (ha : a < 2) (hb : b < 2) (hk : i * 8 + j < X.length) (hh : hasF X i a j b = true) (hs : supP X p.vars.toNat i a j b = false) :
    ParI p (X.set (i * 8 + j) (nanI X[i * 8 + j] (shlI 1 (a + 2 * b)))) ∧ (∀ i' a' j' b' : Nat, i' < 8 → j' < 8 → a' < 2 → b' < 2 → hasF (X.set (i * 8 + j) (nanI X[i * 8 + j] (shlI 1 (a + 2 * b)))) i' a' j' b' = true → hasF X i' a' j' b' = true) ∧ sizeT (X.set (i * 8 + j) (nanI X[i * 8 + j] (shlI 1 (a + 2 * b)))) < sizeT X := by
  have hx := hX.tab.2 _ (List.getElem_mem hk)
  obtain ⟨y1, y2⟩ := nan4 hx (s := a + 2 * b) (by omega)
  have hxb : ∀ a' b', bt X[i * 8 + j] (a' + 2 * b') = hasF X i a' j b' := fun a' b' => by rw [hasF, getD_mem hk]
  generalize nanI X[i * 8 + j] (shlI 1 (a + 2 * b)) = y at *
  obtain ⟨t1, t2⟩ := has_set hX.tab (u := i) (w := j) (by omega) (by omega) y1
  refine ⟨⟨t1, fun E hE hEc i' a' j' b' hi' hj' ha' hb' he => ?_⟩, fun i' a' j' b' hi' hj' ha' hb' he => ?_, sizeT_set hk (fun t ht => ?_) (t := a + 2 * b) (by omega) (by rw [hxb]; exact hh) (by rw [y2 _ (by omega)]; simp)⟩
  · have h1 := hX.sup E hE hEc i' a' j' b' hi' hj' ha' hb' he
    rw [t2 i' a' j' b' (by omega) (by omega)]
    split
    · rename_i e
      obtain ⟨rfl, rfl⟩ := e
      rw [y2 _ (by omega), hxb, h1]
      by_cases e2 : a' + 2 * b' = a + 2 * b
      · have e3 : a' = a := by omega
        have e4 : b' = b := by omega
        subst e3 e4
        have := supP_mono (hX.sup E hE hEc) hi' hj' ha' hb' (hEc i' a' j' b' hi' hj' ha' hb' he).2
        rw [hs] at this
        cases this
      · simp [e2]
    · exact h1
  · rw [t2 i' a' j' b' hi' hj'] at he
    split at he
    · rename_i e
      obtain ⟨rfl, rfl⟩ := e
      rw [y2 _ (by omega), Bool.and_eq_true, hxb] at he
      exact he.1
    · exact he
  · by_cases ht4 : t < 4
    · rw [y2 t ht4, Bool.and_eq_true] at ht
      exact ht.1
    · obtain ⟨k, rfl, hk'⟩ := y1
      have h16 : 2 ^ 4 ≤ 2 ^ t := Nat.pow_le_pow_right (by decide) (by omega)
      rw [bt, Int.toNat_natCast, Nat.testBit_lt_two_pow (by omega)] at ht
      cases ht
/-- How far a round has come. -/
def doneP (n i j k : Nat) (X : List Int) : Prop :=
  (∀ i' a j' b : Nat, i' < i → j' < n → a < 2 → b < 2 → hasF X i' a j' b = true → supP X n i' a j' b = true) ∧ (∀ a j' b : Nat, j' < j → a < 2 → b < 2 → hasF X i a j' b = true → supP X n i a j' b = true) ∧ ∀ a b : Nat, a < 2 → b < 2 → a + 2 * b < k → hasF X i a j b = true → supP X n i a j b = true
theorem ppairs_bad (p : Pz) (hg : goodP p = false) : PCall Try.prog 38 [ePz p] (.t .ro (.tup [.v (.slice none 0 0), eI 2])) [] := by
  refine pcall_wpT Try.func38 rfl (by kernel_rfl) ?_
  simp -dsimp
  first
    | refine CallG.by (pvalid_spec p) ?_
    | refine CallGE.by (pvalid_spec p) ?_
    | refine CallGB.by (pvalid_spec p) ?_
  simp -dsimp [hg]
  refine retT_c ?_
  simp -dsimp
/-- What Pairs returns. -/
def parT (X : List Int) (n : Nat) : TL := if badX X n then .tup [.v (.slice none 0 0), eI 4] else .tup [.sl .any 1 ((List.range n).map fun x => [eIs (rowL X n x)]), eI 0]
theorem ppairs_spec (p : Pz) (hg : goodP p = true) (X0 : List Int) (hX00 : PairLaw p X0) : PCall Try.prog 38 [ePz p] (.t .ro (parT X0 p.vars.toNat)) [] := by
  have hv := hg
  simp only [goodP, Bool.and_eq_true, decide_eq_true_eq] at hv
  obtain ⟨⟨⟨⟨⟨g1, g2⟩, g3⟩, g4⟩, g5⟩, g6⟩ := hv
  have hok := okC_of g6
  obtain ⟨n, hn⟩ : ∃ n : Nat, p.vars = n := ⟨p.vars.toNat, by omega⟩
  have hn8 : n ≤ 8 := by omega
  refine pcall_wpT Try.func38 rfl (by kernel_rfl) ?_
  simp -dsimp
  first
    | refine CallG.by (pvalid_spec p) ?_
    | refine CallGE.by (pvalid_spec p) ?_
    | refine CallGB.by (pvalid_spec p) ?_
  simp -dsimp [hg]
  refine wk_loop (fun q : Nat × List Int => ⟨[(27, pI q.1), (26, .t .ro (eI p.vars)), (4, .ptr 4 0), (1, .ptr 1 0)], [(4, .blk 98 (tabC q.2)), (1, .blk 32 [.t .ro (eI p.vars), .t .ro (eRls p.rels), .t .ro (eCns p.cons)])]⟩)
    (fun q => q.1 ≤ n ∧ tabP q.2 ∧ ∀ i a j b : Nat, i < q.1 → j < n → a < 2 → b < 2 → (hasF q.2 i a j b = true ↔ (i = j → a = b))) (fun q => n - q.1) (0, zeroT) (le_of (by simp) (by simp)) ⟨by simp, tabP_zero, fun i a j b hi => by simp at hi⟩ fun ⟨i, X⟩ ⟨hi, hX, hJ⟩ => ?_
  dsimp only at hi hX hJ
  simp -dsimp
  refine condX_dec (fun h => ?_) (fun h => ?_)
  · have h' : i < n := by omega
    have hw := wr (n := (i : Int) + 1) (by omega) (by omega)
    have hi0 : (0 : Int) ≤ i := by omega
    have hi8 : (i : Int) < 8 := by omega
    simp -dsimp
    refine wk_loop (fun q : Nat × List Int => ⟨[(32, pI q.1), (31, .t .ro (eI p.vars)), (5, pI i), (27, pI i), (26, .t .ro (eI p.vars)), (4, .ptr 4 0), (1, .ptr 1 0)], [(4, .blk 98 (tabC q.2)), (1, .blk 32 [.t .ro (eI p.vars), .t .ro (eRls p.rels), .t .ro (eCns p.cons)])]⟩)
      (fun q => q.1 ≤ n ∧ tabP q.2 ∧ (∀ i' a j b : Nat, i' < i → j < n → a < 2 → b < 2 → (hasF q.2 i' a j b = true ↔ (i' = j → a = b))) ∧ ∀ a j b : Nat, j < q.1 → a < 2 → b < 2 → hasF q.2 i a j b = true) (fun q => n - q.1) (0, X) (le_of (by simp) (by simp)) ⟨by simp, hX, hJ, fun a j b hj => by simp at hj⟩ fun ⟨j, Y⟩ ⟨hj, hY, hJ1, hJ2⟩ => ?_
    dsimp only at hj hY hJ1 hJ2
    have hYl := hY.1
    simp -dsimp
    refine condX_dec (fun hjl => ?_) (fun hjl => ?_)
    · have hj' : j < n := by omega
      have hw2 := wr (n := (j : Int) + 1) (by omega) (by omega)
      have hj0 : (0 : Int) ≤ j := by omega
      have hj8 : (j : Int) < 8 := by omega
      have hk1 : i * 8 + j + 1 ≤ Y.length := by omega
      obtain ⟨t1, t2⟩ := has_set hY (u := i) (w := j) (by omega) (by omega) (y := 15) ⟨15, rfl, by decide⟩
      simp -dsimp [hi0, hi8, hj0, hj8, hk1, hw2]
      refine LoopP_next (j + 1, Y.set (i * 8 + j) 15) (le_of (by simp) (by simp)) ⟨hj', t1, fun i' a j' b hi' hj' ha hb => ?_, fun a j' b hj' ha hb => ?_⟩ (by simp only; omega)
      · dsimp only
        rw [t2 i' a j' b (by omega) (by omega), if_neg (by omega)]
        exact hJ1 i' a j' b hi' hj' ha hb
      · dsimp only at hj' ⊢
        rw [t2 i a j' b (by omega) (by omega)]
        split
        · exact bt_15 ha hb
        · exact hJ2 a j' b (by omega) ha hb
    · have e : j = n := by omega
      subst e
      have hk1 : i * 8 + i + 1 ≤ Y.length := by omega
      obtain ⟨t1, t2⟩ := has_set hY (u := i) (w := i) (by omega) (by omega) (y := 9) ⟨9, rfl, by decide⟩
      simp -dsimp [hi0, hi8, hk1, hw]
      refine LoopP_next (i + 1, Y.set (i * 8 + i) 9) (le_of (by simp) (by simp)) ⟨h', t1, fun i' a j' b hi' hj' ha hb => ?_⟩ (by simp only; omega)
      dsimp only at hi' ⊢
      rw [t2 i' a j' b (by omega) (by omega)]
      by_cases e : i' = i
      · subst e
        by_cases e2 : j' = i'
        · subst e2
          rw [if_pos ⟨rfl, rfl⟩, bt_9 ha hb]
          simp
        · rw [if_neg (by omega)]
          have := hJ2 a j' b hj' ha hb
          simp [this]
          intro e3
          exact absurd e3.symm e2
      · rw [if_neg (by omega)]
        exact hJ1 i' a j' b (by omega) hj' ha hb
  have e : n = i := by omega
  subst e
  have hpn : p.vars.toNat = n := by omega
  have hX0 : ParI p X := ⟨hX, fun E hE hEc i a j b hi hj ha hb hh => by
    rw [hpn] at hi hj
    exact (hJ i a j b hi hj ha hb).2 ((hEc i a j b (by omega) (by omega) ha hb hh).1.1)⟩
  have hB0 : ∀ i a j b : Nat, i < n → j < n → a < 2 → b < 2 → hasF X i a j b = true → baseQ p [] i a j b := fun i a j b hi hj ha hb hh => ⟨(hJ i a j b hi hj ha hb).1 hh, by simp⟩
  clear hJ
  simp -dsimp
  refine wk_loop (fun q : Nat × List Int => ⟨[(48, pI q.1), (47, pI p.cons.length), (46, .t .ro (eCns p.cons)), (4, .ptr 4 0), (1, .ptr 1 0)], [(4, .blk 98 (tabC q.2)), (1, .blk 32 [.t .ro (eI p.vars), .t .ro (eRls p.rels), .t .ro (eCns p.cons)])]⟩)
    (fun q => q.1 ≤ p.cons.length ∧ ParI p q.2 ∧ ∀ i a j b : Nat, i < n → j < n → a < 2 → b < 2 → hasF q.2 i a j b = true → baseQ p (p.cons.take q.1) i a j b) (fun q => p.cons.length - q.1) (0, X) (le_of (by simp) (by simp)) ⟨by simp, hX0, by simpa using hB0⟩ fun ⟨ci, X1⟩ ⟨hci, hX1, hB1⟩ => ?_
  dsimp only at hci hX1 hB1
  simp -dsimp
  refine condX_dec (fun h2 => ?_) (fun h2 => ?_)
  · have hcm : p.cons[ci] ∈ p.cons := List.getElem_mem h2
    have htk : p.cons.take (ci + 1) = p.cons.take ci ++ [p.cons[ci]] := by
      rw [List.take_add_one, List.getElem?_eq_getElem h2]
      rfl
    obtain ⟨c, hc⟩ : ∃ c, c = p.cons[ci] := ⟨_, rfl⟩
    rw [← hc] at hcm htk
    have hcI := consI hg hcm
    have hgc := List.all_eq_true.1 g6 c hcm
    simp only [goodC, Bool.and_eq_true, decide_eq_true_eq] at hgc
    obtain ⟨⟨⟨c1, c2⟩, c3⟩, c4⟩ := hgc
    have hvr : ∀ v ∈ c.vars, 0 ≤ v ∧ v < n := fun v hm => by have := hcI.var v hm; omega
    have hpr := prows2_spec p c zeroT n hn8 tabP_zero c1 (by omega) hcI.r3 (goodR_len hcI.good) hcI.len hvr
    have hw := wr (n := (ci : Int) + 1) (by omega) (by omega)
    have hlc := hcI.len
    simp -dsimp [h2, ← hc]
    first
      | refine CallG.onP (g := [(9, 1000000)]) hpr (by decide) (by simp) (by simp) (by simp [Sg.bk]) fun r M' hP => ?_
      | refine CallN.onP (g := [(9, 1000000)]) hpr (by decide) (by simp) (by simp) (by simp [Sg.bk]) fun r M' hP => ?_
    obtain ⟨rfl, A, rfl, hA, hAb⟩ := hP
    have hAal : ∀ i a j b : Nat, i < 8 → j < 8 → a < 2 → b < 2 → (hasF A i a j b = true ↔ alw (relOf p c).rows c i a j b) := fun i a j b hi hj ha hb => by
      rw [hAb i a j b hi hj ha hb, has_zero]
      constructor
      · rintro (h | ⟨r, hr, hh⟩)
        · cases h
        · exact ⟨r, hr, (rowGives_iff (hcI.r3 r hr) hlc ha hb).1 hh⟩
      · rintro ⟨r, hr, hh⟩
        exact .inr ⟨r, hr, (rowGives_iff (hcI.r3 r hr) hlc ha hb).2 hh⟩
    have hAl := hA.1
    simp -dsimp
    refine wk_loop (fun q : Nat × List Int => ⟨[(59, pI q.1), (58, pI c.vars.length), (57, .t .ro (eIs c.vars)), (9, .ptr 9 0), (8, .ptr 8 0), (48, pI ci), (47, pI p.cons.length), (46, .t .ro (eCns p.cons)), (4, .ptr 4 0), (1, .ptr 1 0)], [(9, .blk 98 (tabC A)), (8, .blk 39 [.t .ro (eI c.rel), .t .ro (eIs c.vars)]), (4, .blk 98 (tabC q.2)), (1, .blk 32 [.t .ro (eI p.vars), .t .ro (eRls p.rels), .t .ro (eCns p.cons)])]⟩)
      (fun q => q.1 ≤ c.vars.length ∧ tabP q.2 ∧ ∀ i a j b : Nat, i < 8 → j < 8 → a < 2 → b < 2 → (hasF q.2 i a j b = true ↔ hasF X1 i a j b = true ∧ ((∃ x, x < q.1 ∧ vAt c x = i) → (j : Int) ∈ c.vars → hasF A i a j b = true))) (fun q => c.vars.length - q.1) (0, X1) (le_of (by simp) (by simp)) ⟨by simp, hX1.tab, by simp⟩ fun ⟨x, X2⟩ ⟨hx, hX2, hJx⟩ => ?_
    dsimp only at hx hX2 hJx
    simp -dsimp
    refine condX_dec (fun hxl => ?_) (fun hxl => ?_)
    · obtain ⟨u, hud⟩ : ∃ u : Nat, c.vars[x] = u := ⟨c.vars[x].toNat, by have := hvr _ (List.getElem_mem hxl); omega⟩
      have hun : u < n := by have := hvr _ (List.getElem_mem hxl); omega
      have hux : vAt c x = u := by rw [← hud]; exact getD_mem hxl
      have hwx := wr (n := (x : Int) + 1) (by omega) (by omega)
      simp -dsimp [hxl, hud]
      refine wk_loop (fun q : Nat × List Int => ⟨[(66, pI q.1), (65, pI c.vars.length), (64, .t .ro (eIs c.vars)), (11, .t .ro (eI u)), (59, pI x), (58, pI c.vars.length), (57, .t .ro (eIs c.vars)), (9, .ptr 9 0), (8, .ptr 8 0), (48, pI ci), (47, pI p.cons.length), (46, .t .ro (eCns p.cons)), (4, .ptr 4 0), (1, .ptr 1 0)], [(9, .blk 98 (tabC A)), (8, .blk 39 [.t .ro (eI c.rel), .t .ro (eIs c.vars)]), (4, .blk 98 (tabC q.2)), (1, .blk 32 [.t .ro (eI p.vars), .t .ro (eRls p.rels), .t .ro (eCns p.cons)])]⟩)
        (fun q => q.1 ≤ c.vars.length ∧ tabP q.2 ∧ ∀ i a j b : Nat, i < 8 → j < 8 → a < 2 → b < 2 → (hasF q.2 i a j b = true ↔ hasF X2 i a j b = true ∧ (i = u → (∃ y, y < q.1 ∧ vAt c y = j) → hasF A i a j b = true))) (fun q => c.vars.length - q.1) (0, X2) (le_of (by simp) (by simp)) ⟨by simp, hX2, by simp⟩ fun ⟨y, X3⟩ ⟨hy, hX3, hJy⟩ => ?_
      dsimp only at hy hX3 hJy
      simp -dsimp
      refine condX_dec (fun hyl => ?_) (fun hyl => ?_)
      · obtain ⟨w, hwd⟩ : ∃ w : Nat, c.vars[y] = w := ⟨c.vars[y].toNat, by have := hvr _ (List.getElem_mem hyl); omega⟩
        have hwn : w < n := by have := hvr _ (List.getElem_mem hyl); omega
        have hwy : vAt c y = w := by rw [← hwd]; exact getD_mem hyl
        have hwy2 := wr (n := (y : Int) + 1) (by omega) (by omega)
        have hl3 := hX3.1
        have hk3 : u * 8 + w < X3.length := by omega
        have hk3' : u * 8 + w + 1 ≤ X3.length := by omega
        have hkA : u * 8 + w < A.length := by omega
        have hu0 : (0 : Int) ≤ u := by omega
        have hw0 : (0 : Int) ≤ w := by omega
        have hu8 : (u : Int) < 8 := by omega
        have hw8 : (w : Int) < 8 := by omega
        have hin1 := hX3.2 _ (List.getElem_mem hk3)
        have hin2 := hA.2 _ (List.getElem_mem hkA)
        obtain ⟨t1, t2⟩ := has_set hX3 (u := u) (w := w) (by omega) (by omega) (inN_and (by omega) hin1 hin2)
        simp -dsimp [hyl, hwd]
        refine wk_draw 12 [] mixed (by kernel_rfl) ?_
        simp -dsimp [hu0, hw0, hu8, hw8, hk3, hk3', hkA, hwy2]
        refine LoopP_next (y + 1, X3.set (u * 8 + w) (andI X3[u * 8 + w] A[u * 8 + w])) (le_of (by simp) (by simp)) ⟨hyl, t1, fun i a j b hi hj ha hb => ?_⟩ (by simp only; omega)
        dsimp only
        rw [t2 i a j b hi hj]
        by_cases e : i = u ∧ j = w
        · obtain ⟨rfl, rfl⟩ := e
          rw [if_pos ⟨rfl, rfl⟩, bt_and (by omega) hin1 hin2, Bool.and_eq_true]
          have e1 : bt X3[i * 8 + j] (a + 2 * b) = hasF X3 i a j b := by rw [hasF, getD_mem hk3]
          have e2 : bt A[i * 8 + j] (a + 2 * b) = hasF A i a j b := by rw [hasF, getD_mem hkA]
          rw [e1, e2, hJy i a j b hi hj ha hb]
          constructor
          · rintro ⟨⟨h1, _⟩, h3⟩
            exact ⟨h1, fun _ _ => h3⟩
          · rintro ⟨h1, h3⟩
            have := h3 rfl ⟨y, by omega, hwy⟩
            exact ⟨⟨h1, fun _ _ => this⟩, this⟩
        · rw [if_neg e, hJy i a j b hi hj ha hb]
          constructor
          · rintro ⟨h1, h3⟩
            refine ⟨h1, fun hiu hyy => ?_⟩
            obtain ⟨z, hz, hzj⟩ := hyy
            rcases Nat.lt_or_ge z y with hlt | hge
            · exact h3 hiu ⟨z, hlt, hzj⟩
            · have : z = y := by omega
              subst this
              rw [hwy] at hzj
              exact absurd ⟨hiu, by omega⟩ e
          · rintro ⟨h1, h3⟩
            exact ⟨h1, fun hiu ⟨z, hz, hzj⟩ => h3 hiu ⟨z, by omega, hzj⟩⟩
      · have ey : y = c.vars.length := by omega
        subst ey
        simp -dsimp [hwx]
        refine LoopP_next (x + 1, X3) (le_of (by simp) (by simp)) ⟨hxl, hX3, fun i a j b hi hj ha hb => ?_⟩ (by simp only; omega)
        dsimp only
        have hmem : (∃ y, y < c.vars.length ∧ vAt c y = j) ↔ (j : Int) ∈ c.vars := by
          constructor
          · rintro ⟨z, hz, hzj⟩
            rw [← hzj, vAt, getD_mem hz]
            exact List.getElem_mem hz
          · intro hm
            obtain ⟨z, hz, hzj⟩ := List.getElem_of_mem hm
            exact ⟨z, hz, by rw [vAt, getD_mem hz, hzj]⟩
        rw [hJy i a j b hi hj ha hb, hJx i a j b hi hj ha hb, hmem]
        constructor
        · rintro ⟨⟨h1, h3⟩, h4⟩
          refine ⟨h1, fun ⟨z, hz, hzi⟩ hjm => ?_⟩
          rcases Nat.lt_or_ge z x with hlt | hge
          · exact h3 ⟨z, hlt, hzi⟩ hjm
          · have : z = x := by omega
            subst this
            rw [hux] at hzi
            exact h4 (by omega) hjm
        · rintro ⟨h1, h3⟩
          exact ⟨⟨h1, fun ⟨z, hz, hzi⟩ hjm => h3 ⟨z, by omega, hzi⟩ hjm⟩, fun hiu hjm => h3 ⟨x, by omega, by rw [hux, hiu]⟩ hjm⟩
    · have ex : x = c.vars.length := by omega
      subst ex
      have hmemi : ∀ i : Nat, (∃ x, x < c.vars.length ∧ vAt c x = i) ↔ (i : Int) ∈ c.vars := fun i => by
        constructor
        · rintro ⟨z, hz, hzj⟩
          rw [← hzj, vAt, getD_mem hz]
          exact List.getElem_mem hz
        · intro hm
          obtain ⟨z, hz, hzj⟩ := List.getElem_of_mem hm
          exact ⟨z, hz, by rw [vAt, getD_mem hz, hzj]⟩
      simp -dsimp [hw]
      refine LoopP_next (ci + 1, X2) (le_of (by simp) (by simp)) ⟨h2, ⟨hX2, fun E hE hEc i a j b hi hj ha hb hh => ?_⟩, fun i a j b hi hj ha hb hh => ?_⟩ (by simp only; omega)
      · rw [hpn] at hi hj
        rw [hJx i a j b (by omega) (by omega) ha hb]
        refine ⟨hX1.sup E hE hEc i a j b (by omega) (by omega) ha hb hh, fun him hjm => ?_⟩
        rw [hAal i a j b (by omega) (by omega) ha hb]
        exact (hEc i a j b (by omega) (by omega) ha hb hh).1.2 c hcm ((hmemi i).1 him) hjm
      · dsimp only at hh ⊢
        rw [hJx i a j b (by omega) (by omega) ha hb] at hh
        obtain ⟨q1, q2⟩ := hB1 i a j b hi hj ha hb hh.1
        refine ⟨q1, fun d hd him hjm => ?_⟩
        rw [htk] at hd
        rcases List.mem_append.1 hd with hd | hd
        · exact q2 d hd him hjm
        · simp at hd
          subst hd
          exact (hAal i a j b (by omega) (by omega) ha hb).1 (hh.2 ((hmemi i).2 him) hjm)
  have ec : ci = p.cons.length := by omega
  subst ec
  rw [List.take_length] at hB1
  simp -dsimp
  refine wk_loop (fun q : List Int × Bool => ⟨[(14, pB q.2), (4, .ptr 4 0), (1, .ptr 1 0)], [(4, .blk 98 (tabC q.1)), (1, .blk 32 [.t .ro (eI p.vars), .t .ro (eRls p.rels), .t .ro (eCns p.cons)])]⟩)
    (fun q => ParI p q.1 ∧ (∀ i a j b : Nat, i < n → j < n → a < 2 → b < 2 → hasF q.1 i a j b = true → baseQ p p.cons i a j b) ∧ (q.2 = false → ∀ i a j b : Nat, i < n → j < n → a < 2 → b < 2 → hasF q.1 i a j b = true → supP q.1 n i a j b = true)) (fun q => 2 * sizeT q.1 + q.2.toNat) (X1, true) (le_of (by simp) (by simp)) ⟨hX1, hB1, by simp⟩ fun ⟨D0, again⟩ ⟨hD0, hB2, hcl⟩ => ?_
  dsimp only at hD0 hB2 hcl
  cases again with
  | false =>
    have hlaw : PairLaw p D0 := ⟨hD0.tab, fun i a j b hi hj ha hb hh => ⟨hB2 i a j b (by omega) (by omega) ha hb hh, by rw [hpn]; exact hcl rfl i a j b (by omega) (by omega) ha hb hh⟩, hD0.sup⟩
    have hn0 : (0 : Int) ≤ p.vars := by omega
    simp -dsimp
    refine lg_frz [4] ?_
    refine lg_adoptT 20 20 37 1 (by simp; rfl) (by simp) ?_
    refine wk_loop (fun i : Nat => ⟨[(134, pI i), (133, .t .ro (eI p.vars)), (20, .osl 20), (4, .t .fz (.rp (D0.map eI) 0)), (1, .ptr 1 0)], [(20, .row 37 1 .fz ((List.range i).map fun x => [eIs (rowL D0 n x)])), (1, .blk 32 [.t .ro (eI p.vars), .t .ro (eRls p.rels), .t .ro (eCns p.cons)])]⟩)
      (fun i => i ≤ n ∧ ∀ x, x < i → (0 : Int) ∉ rowL D0 n x) (fun i => n - i) 0 (le_of (by simp) (by simp)) ⟨by simp, fun x hx => by omega⟩ fun i ⟨hi, hJ⟩ => ?_
    simp -dsimp
    refine condX_dec (fun h => ?_) (fun h => ?_)
    · have hin : i < n := by omega
      have hwi := wr (n := (i : Int) + 1) (by omega) (by omega)
      have hi0 : (0 : Int) ≤ i := by omega
      have hi8 : (i : Int) < 8 := by omega
      have hl0 := hD0.tab.1
      simp -dsimp
      refine wk_draw 8 [6, 7] mixed (by kernel_rfl) ?_
      have hi56 : i * 8 ≤ 56 := by omega
      have hsl : (List.take p.vars.toNat (List.drop (i * 8) (List.map eI D0))).map (fun c => [c]) = (rowL D0 n i).map cI := by
        rw [hpn, rowL, ← List.map_drop, ← List.map_take, List.map_map]
        rfl
      have hrl := rowL_len hl0 hn8 (i := i) (by omega)
      have hgi : ∀ Z : List TL, (List.map (fun x => [TL.sl SF.any 1 (List.map cI (rowL D0 n x))]) (List.range i) ++ [Z])[i]? = some Z := fun Z => by
        rw [List.getElem?_append_right (by simp)]
        simp
      simp -dsimp [hi0, hi8, hl0, g2, hn0, hi56]
      rw [hsl]
      first
        | refine CallG.by (clone_fz (rowL D0 n i) (by omega)) ?_
        | refine CallGE.by (clone_fz (rowL D0 n i) (by omega)) ?_
        | refine CallGB.by (clone_fz (rowL D0 n i) (by omega)) ?_
      have hb24 : (i + 1) * 24 ≤ 140737488355328 := by omega
      have hii : (i : Int) < (i : Int) + 1 := by omega
      have hnext : (List.range (i + 1)).map (fun x => [eIs (rowL D0 n x)]) = (List.range i).map (fun x => [eIs (rowL D0 n x)]) ++ [[eIs (rowL D0 n i)]] := by
        rw [List.range_succ, List.map_append]
        rfl
      simp -dsimp [hb24, hgi, hii]
      first
        | refine CallG.by (contains_spec (rowL D0 n i) 0) ?_
        | refine CallGE.by (contains_spec (rowL D0 n i) 0) ?_
        | refine CallGB.by (contains_spec (rowL D0 n i) 0) ?_
      by_cases h0 : (0 : Int) ∈ rowL D0 n i
      · have hb : badX X0 n = true := by
          have := badX_eq hg hlaw hX00
          rw [hpn] at this
          rw [← this, badX, List.any_eq_true]
          exact ⟨i, List.mem_range.2 hin, by simpa using h0⟩
        simp -dsimp [h0]
        refine retT_c ?_
        simp -dsimp [parT, hb, hpn]
      · simp -dsimp [h0, hwi]
        refine LoopP_next (i + 1) (le_of (by simp) (by rw [hnext]; simp)) ⟨hin, fun x hx => ?_⟩ (by omega)
        rcases Nat.lt_or_ge x i with h1 | h1
        · exact hJ x h1
        · rw [show x = i by omega]
          exact h0
    · have e : i = n := by omega
      subst e
      have hb : badX X0 p.vars.toNat = false := by
        rw [← badX_eq hg hlaw hX00, badX, List.any_eq_false]
        intro x hx
        rw [List.mem_range, hpn] at hx
        rw [hpn]
        simpa using hJ x hx
      rw [hpn] at hb
      have hrr : (List.range i).map (fun x => [TL.sl SF.any 1 (List.map cI (rowL D0 i x))]) = (List.range i).map fun x => [TL.sl SF.any 1 (List.map cI (rowL X0 i x))] := by
        refine List.map_congr_left fun x hx => ?_
        rw [List.mem_range] at hx
        have := pair_rows hg hlaw hX00 (i := x) (by omega)
        rw [hpn] at this
        rw [this]
      simp -dsimp
      refine retT_c ?_
      simp -dsimp [parT, hb, hpn, hrr]
  | true =>
    simp -dsimp
    refine wk_loop (fun q : Nat × List Int × Bool => ⟨[(89, pI q.1), (88, .t .ro (eI p.vars)), (14, pB q.2.2), (4, .ptr 4 0), (1, .ptr 1 0)], [(4, .blk 98 (tabC q.2.1)), (1, .blk 32 [.t .ro (eI p.vars), .t .ro (eRls p.rels), .t .ro (eCns p.cons)])]⟩)
      (fun q => q.1 ≤ n ∧ ParI p q.2.1 ∧ (∀ i a j b : Nat, i < n → j < n → a < 2 → b < 2 → hasF q.2.1 i a j b = true → baseQ p p.cons i a j b) ∧ sizeT q.2.1 ≤ sizeT D0 ∧ (q.2.2 = true → sizeT q.2.1 < sizeT D0) ∧ (q.2.2 = false → doneP n q.1 0 0 q.2.1)) (fun q => n - q.1) (0, D0, false) (le_of (by simp) (by simp)) ⟨by simp, hD0, hB2, Nat.le_refl _, by simp, fun _ => ⟨fun i a j b hi => by simp at hi, fun a j b hj => by omega, fun a b ha hb hk => by omega⟩⟩ fun ⟨i, D, ag⟩ ⟨hi, hD, hBD, hsz, hlt, hdn⟩ => ?_
    dsimp only at hi hD hBD hsz hlt hdn
    simp -dsimp
    refine condX_dec (fun h => ?_) (fun h => ?_)
    rotate_left
    · have e : i = n := by omega
      subst e
      simp -dsimp
      refine LoopP_next (D, ag) (le_of (by simp) (by simp)) ⟨hD, hBD, fun hf i a j b hi hj ha hb hh => (hdn hf).1 i a j b hi hj ha hb hh⟩ ?_
      simp only
      cases ag with
      | true =>
        have := hlt rfl
        simp only [Bool.toNat_true]
        omega
      | false =>
        simp only [Bool.toNat_true, Bool.toNat_false]
        omega
    have hin : i < n := by omega
    have hwi := wr (n := (i : Int) + 1) (by omega) (by omega)
    simp -dsimp
    refine wk_loop (fun q : Nat × List Int × Bool => ⟨[(94, pI q.1), (93, .t .ro (eI p.vars)), (15, pI i), (89, pI i), (88, .t .ro (eI p.vars)), (14, pB q.2.2), (4, .ptr 4 0), (1, .ptr 1 0)], [(4, .blk 98 (tabC q.2.1)), (1, .blk 32 [.t .ro (eI p.vars), .t .ro (eRls p.rels), .t .ro (eCns p.cons)])]⟩)
      (fun q => q.1 ≤ n ∧ ParI p q.2.1 ∧ (∀ i a j b : Nat, i < n → j < n → a < 2 → b < 2 → hasF q.2.1 i a j b = true → baseQ p p.cons i a j b) ∧ sizeT q.2.1 ≤ sizeT D0 ∧ (q.2.2 = true → sizeT q.2.1 < sizeT D0) ∧ (q.2.2 = false → doneP n i q.1 0 q.2.1)) (fun q => n - q.1) (0, D, ag) (le_of (by simp) (by simp)) ⟨by simp, hD, hBD, hsz, hlt, hdn⟩ fun ⟨j, D1, ag1⟩ ⟨hj, hD1, hBD1, hsz1, hlt1, hdn1⟩ => ?_
    dsimp only at hj hD1 hBD1 hsz1 hlt1 hdn1
    simp -dsimp
    refine condX_dec (fun hjl => ?_) (fun hjl => ?_)
    rotate_left
    · have e : j = n := by omega
      subst e
      simp -dsimp [hwi]
      refine LoopP_next (i + 1, D1, ag1) (le_of (by simp) (by simp)) ⟨hin, hD1, hBD1, hsz1, hlt1, fun hf => ?_⟩ (by simp only; omega)
      obtain ⟨d1, d2, d3⟩ := hdn1 hf
      refine ⟨fun i' a j' b hi' hj' ha hb hh => ?_, fun a j' b hj' => by omega, fun a b ha hb hk => by omega⟩
      dsimp only at hi' hh ⊢
      by_cases e : i' = i
      · subst e
        exact d2 a j' b hj' ha hb hh
      · exact d1 i' a j' b (by omega) hj' ha hb hh
    have hjn : j < n := by omega
    have hwj := wr (n := (j : Int) + 1) (by omega) (by omega)
    simp -dsimp
    refine wk_loop (fun q : Nat × List Int × Bool => ⟨[(97, pI q.1), (16, pI j), (94, pI j), (93, .t .ro (eI p.vars)), (15, pI i), (89, pI i), (88, .t .ro (eI p.vars)), (14, pB q.2.2), (4, .ptr 4 0), (1, .ptr 1 0)], [(4, .blk 98 (tabC q.2.1)), (1, .blk 32 [.t .ro (eI p.vars), .t .ro (eRls p.rels), .t .ro (eCns p.cons)])]⟩)
      (fun q => q.1 ≤ 4 ∧ ParI p q.2.1 ∧ (∀ i a j b : Nat, i < n → j < n → a < 2 → b < 2 → hasF q.2.1 i a j b = true → baseQ p p.cons i a j b) ∧ sizeT q.2.1 ≤ sizeT D0 ∧ (q.2.2 = true → sizeT q.2.1 < sizeT D0) ∧ (q.2.2 = false → doneP n i j q.1 q.2.1)) (fun q => 4 - q.1) (0, D1, ag1) (le_of (by simp) (by simp)) ⟨by simp, hD1, hBD1, hsz1, hlt1, hdn1⟩ fun ⟨k, D2, ag2⟩ ⟨hk, hD2, hBD2, hsz2, hlt2, hdn2⟩ => ?_
    dsimp only at hk hD2 hBD2 hsz2 hlt2 hdn2
    simp -dsimp
    refine condX_dec (fun hkl => ?_) (fun hkl => ?_)
    rotate_left
    · have e : k = 4 := by omega
      subst e
      simp -dsimp [hwj]
      refine LoopP_next (j + 1, D2, ag2) (le_of (by simp) (by simp)) ⟨hjn, hD2, hBD2, hsz2, hlt2, fun hf => ?_⟩ (by simp only; omega)
      obtain ⟨d1, d2, d3⟩ := hdn2 hf
      refine ⟨d1, fun a j' b hj' ha hb hh => ?_, fun a b ha hb hk => by omega⟩
      dsimp only at hj' hh ⊢
      by_cases e : j' = j
      · subst e
        exact d3 a b ha hb (by omega) hh
      · exact d2 a j' b (by omega) ha hb hh
    obtain ⟨a, b, ha, hb, hkab, hka, hkb⟩ : ∃ a b : Nat, a < 2 ∧ b < 2 ∧ k = a + 2 * b ∧ andI (k : Int) 1 = (a : Int) ∧ shrI (k : Int) 1 = (b : Int) := by
      have hk4 : k = 0 ∨ k = 1 ∨ k = 2 ∨ k = 3 := by omega
      rcases hk4 with rfl | rfl | rfl | rfl
      · exact ⟨0, 0, by omega, by omega, rfl, rfl, rfl⟩
      · exact ⟨1, 0, by omega, by omega, rfl, rfl, rfl⟩
      · exact ⟨0, 1, by omega, by omega, rfl, rfl, rfl⟩
      · exact ⟨1, 1, by omega, by omega, rfl, rfl, rfl⟩
    have hwk := wr (n := (k : Int) + 1) (by omega) (by omega)
    have hkl' : k + 1 ≤ 4 := by omega
    have hl2 := hD2.tab.1
    have hidx : i * 8 + j < D2.length := by omega
    have hidx1 : i * 8 + j + 1 ≤ D2.length := by omega
    have hi0 : (0 : Int) ≤ i := by omega
    have hi8 : (i : Int) < 8 := by omega
    have hj0 : (0 : Int) ≤ j := by omega
    have hj8 : (j : Int) < 8 := by omega
    have hk0 : (0 : Int) ≤ k := by omega
    have hph := phas_spec D2 i a j b hD2.tab (by omega) (by omega) ha hb
    have hps := psupp_spec D2 n i a j b hD2.tab hn8 (by omega) (by omega) ha hb
    rw [← hn] at hps
    have hext : ∀ (h : hasF D2 i a j b = true → supP D2 n i a j b = true), ag2 = false → doneP n i j (k + 1) D2 := fun hh hf => by
      obtain ⟨d1, d2, d3⟩ := hdn2 hf
      refine ⟨d1, d2, fun a' b' ha' hb' hab h' => ?_⟩
      rcases Nat.lt_or_ge (a' + 2 * b') k with hlt | hge
      · exact d3 a' b' ha' hb' hlt h'
      · have e1 : a' = a := by omega
        have e2 : b' = b := by omega
        subst e1 e2
        exact hh h'
    simp -dsimp [hkl, hka, hkb]
    first
      | refine CallG.by (hph) ?_
      | refine CallGE.by (hph) ?_
      | refine CallGB.by (hph) ?_
    cases eH : hasF D2 i a j b with
    | false =>
      simp -dsimp [hwk]
      refine LoopP_next (k + 1, D2, ag2) (le_of (by simp) (by simp)) ⟨hkl', hD2, hBD2, hsz2, hlt2, hext (by rw [eH]; simp)⟩ (by simp only; omega)
    | true =>
      simp -dsimp
      first
        | refine CallG.by (hps) ?_
        | refine CallGE.by (hps) ?_
        | refine CallGB.by (hps) ?_
      cases eS : supP D2 n i a j b with
      | true =>
        simp -dsimp [hwk]
        refine LoopP_next (k + 1, D2, ag2) (le_of (by simp) (by simp)) ⟨hkl', hD2, hBD2, hsz2, hlt2, hext (fun _ => eS)⟩ (by simp only; omega)
      | false =>
        obtain ⟨q1, q2, q3⟩ := parI_drop hD2 (by omega) (by omega : i < p.vars.toNat) (by omega : j < p.vars.toNat) ha hb hidx eH (by rw [hpn]; exact eS)
        rw [← hkab] at q1 q2 q3
        simp -dsimp
        refine wk_draw 9 [] mixed (by kernel_rfl) ?_
        simp -dsimp [hi0, hi8, hj0, hj8, hidx, hidx1, hk0, hwk]
        refine LoopP_next (k + 1, D2.set (i * 8 + j) (nanI D2[i * 8 + j] (shlI 1 k)), true) (le_of (by simp) (by simp)) ⟨hkl', q1, fun i' a' j' b' hi' hj' ha' hb' hh => hBD2 i' a' j' b' hi' hj' ha' hb' (q2 i' a' j' b' (by omega) (by omega) ha' hb' hh), by simp only; omega, fun _ => by simp only; omega, by simp⟩ (by simp only; omega)
end Go.Proofs.Ytmneioafbkknhaa
