import Derived.Test.YtmneioafbkknhaaPB46
/- PD1: the reference's Pairs, and the law of Pairs -/
set_option linter.unusedVariables false
set_option linter.unusedSimpArgs false
set_option maxRecDepth 20000
/- PB61: the plain law of the reference's Pairs. -/
namespace Go.Proofs.Ytmneioafbkknhaa
open Go Go.PS
attribute [-simp] List.map_take
/-- A table of what is said of pairs. -/
def tabOf (f : Nat → Nat → Nat → Nat → Bool) : List Int := (List.range 64).map fun k => ((bitsN (fun t => f (k / 8) (t % 2) (k % 8) (t / 2)) 4 : Nat) : Int)
theorem tabOf_tab (f : Nat → Nat → Nat → Nat → Bool) : tabP (tabOf f) := ⟨by simp [tabOf], fun x hx => by
  obtain ⟨k, _, rfl⟩ := List.mem_map.1 hx
  exact ⟨_, rfl, bitsN_lt _ _⟩⟩
theorem tabOf_has (f : Nat → Nat → Nat → Nat → Bool) {i a j b : Nat} (hi : i < 8) (hj : j < 8) (ha : a < 2) (hb : b < 2) : hasF (tabOf f) i a j b = f i a j b := by
  have hlt : i * 8 + j < (tabOf f).length := by rw [(tabOf_tab f).1]; omega
  have e1 : (i * 8 + j) / 8 = i := by omega
  have e2 : (i * 8 + j) % 8 = j := by omega
  have e3 : (a + 2 * b) % 2 = a := by omega
  have e4 : (a + 2 * b) / 2 = b := by omega
  have h4 : a + 2 * b < 4 := by omega
  rw [hasF, getD_mem hlt]
  simp only [tabOf, List.getElem_map, List.getElem_range, e1, e2, bt, Int.toNat_natCast, bitsN_bit, h4, decide_true, Bool.true_and, e3, e4]
/-- An element of a matrix. -/
def cellM (X : List (List Int)) (i j : Nat) : Int := (X.getD i []).getD j 0
def hasM (X : List (List Int)) (i a j b : Nat) : Bool := bt (cellM X i j) (a + 2 * b)
def shapeM (n : Nat) (X : List (List Int)) : Prop := X.length = n ∧ ∀ i, i < n → (X.getD i []).length = n ∧ ∀ x ∈ X.getD i [], InN 4 x
theorem shape_in {n : Nat} {X : List (List Int)} (h : shapeM n X) {i j : Nat} (hi : i < n) (hj : j < n) : InN 4 (cellM X i j) := by
  obtain ⟨h1, h2⟩ := h.2 i hi
  rw [cellM, getD_mem (by omega)]
  exact h2 _ (List.getElem_mem _)
/-- Some value of a variable makes with both values a pair. -/
def midM (X : List (List Int)) (i j k a b : Nat) : Bool := (hasM X i a k 0 && hasM X k 0 j b) || (hasM X i a k 1 && hasM X k 1 j b)
theorem midM_iff {X : List (List Int)} {i j k a b : Nat} : midM X i j k a b = true ↔ ∃ c, c < 2 ∧ hasM X i a k c = true ∧ hasM X k c j b = true := by
  simp only [midM, Bool.or_eq_true, Bool.and_eq_true]
  constructor
  · rintro (⟨h1, h2⟩ | ⟨h1, h2⟩)
    · exact ⟨0, by omega, h1, h2⟩
    · exact ⟨1, by omega, h1, h2⟩
  · rintro ⟨c, hc, h1, h2⟩
    have : c = 0 ∨ c = 1 := by omega
    rcases this with rfl | rfl
    · exact .inl ⟨h1, h2⟩
    · exact .inr ⟨h1, h2⟩
theorem alw_sym {rows : List Int} {c : Cn} {i a j b : Nat} (h : alw rows c i a j b) : alw rows c j b i a := by
  obtain ⟨r, h1, h2, h3, h4⟩ := h
  exact ⟨r, h1, h2, h4, h3⟩
theorem baseQ_sym {p : Pz} {cs : List Cn} {i a j b : Nat} (h : baseQ p cs i a j b) : baseQ p cs j b i a :=
  ⟨fun e => (h.1 e.symm).symm, fun c hc hj hi => alw_sym (h.2 c hc hi hj)⟩
/-- All of the law's pairs are in the matrix. -/
def subM (n : Nat) (X0 : List Int) (X : List (List Int)) : Prop := ∀ i a j b : Nat, i < n → j < n → a < 2 → b < 2 → hasF X0 i a j b = true → hasM X i a j b = true
theorem sub_mid {p : Pz} {X0 : List Int} (hX0 : PairLaw p X0) {X : List (List Int)} (hs : subM p.vars.toNat X0 X) {i a j b k : Nat} (hi : i < p.vars.toNat) (hj : j < p.vars.toNat) (hk : k < p.vars.toNat) (ha : a < 2) (hb : b < 2) (h : hasF X0 i a j b = true) : midM X i j k a b = true := by
  obtain ⟨d, hd, h1, h2⟩ := supP_iff.1 (hX0.2.1 i a j b hi hj ha hb h).2 k hk
  exact midM_iff.2 ⟨d, hd, hs i a k d hi hk ha hd h1, hs k d j b hk hj hd hb (pair_sym hX0.2.1 hj hk hb hd h2)⟩
/-- A matrix of pairs, each supported, is below the law's. -/
theorem mat_below {p : Pz} (hg : goodP p = true) {X0 : List Int} (hX0 : PairLaw p X0) {X : List (List Int)}
    (hc : ∀ i a j b : Nat, i < p.vars.toNat → j < p.vars.toNat → a < 2 → b < 2 → hasM X i a j b = true → baseQ p p.cons i a j b ∧ ∀ k, k < p.vars.toNat → midM X i j k a b = true) :
    ∀ i a j b : Nat, i < p.vars.toNat → j < p.vars.toNat → a < 2 → b < 2 → hasM X i a j b = true → hasF X0 i a j b = true := by
  have hv := vars_le hg
  let f : Nat → Nat → Nat → Nat → Bool := fun i a j b => hasM X i a j b || hasM X j b i a
  have hf : ∀ i a j b : Nat, i < p.vars.toNat → j < p.vars.toNat → a < 2 → b < 2 → hasF (tabOf f) i a j b = (hasM X i a j b || hasM X j b i a) := fun i a j b hi hj ha hb => tabOf_has f (by omega) (by omega) ha hb
  have hcl : closedQ p (tabOf f) := by
    intro i a j b hi hj ha hb hh
    rw [hf i a j b hi hj ha hb, Bool.or_eq_true] at hh
    rcases hh with hh | hh
    · obtain ⟨h1, h2⟩ := hc i a j b hi hj ha hb hh
      refine ⟨h1, supP_iff.2 fun k hk => ?_⟩
      obtain ⟨c, hc2, h3, h4⟩ := midM_iff.1 (h2 k hk)
      refine ⟨c, hc2, ?_, ?_⟩
      · rw [hf i a k c hi hk ha hc2, h3]
        rfl
      · rw [hf j b k c hj hk hb hc2, h4, Bool.or_true]
    · obtain ⟨h1, h2⟩ := hc j b i a hj hi hb ha hh
      refine ⟨baseQ_sym h1, supP_iff.2 fun k hk => ?_⟩
      obtain ⟨c, hc2, h3, h4⟩ := midM_iff.1 (h2 k hk)
      refine ⟨c, hc2, ?_, ?_⟩
      · rw [hf i a k c hi hk ha hc2, h4, Bool.or_true]
      · rw [hf j b k c hj hk hb hc2, h3]
        rfl
  intro i a j b hi hj ha hb hh
  refine hX0.2.2 _ (tabOf_tab f) hcl i a j b hi hj ha hb ?_
  rw [hf i a j b hi hj ha hb, hh]
  rfl
/-- Its rows are the law's. -/
theorem mat_rows {p : Pz} (hg : goodP p = true) {X0 : List Int} (hX0 : PairLaw p X0) {X : List (List Int)} (hsh : shapeM p.vars.toNat X) (hs : subM p.vars.toNat X0 X)
    (hc : ∀ i a j b : Nat, i < p.vars.toNat → j < p.vars.toNat → a < 2 → b < 2 → hasM X i a j b = true → baseQ p p.cons i a j b ∧ ∀ k, k < p.vars.toNat → midM X i j k a b = true) :
    X = (List.range p.vars.toNat).map (rowL X0 p.vars.toNat) := by
  have hv := vars_le hg
  have hb := mat_below hg hX0 hc
  refine List.ext_getElem (by simp [hsh.1]) fun i h1 h2 => ?_
  have hi : i < p.vars.toNat := by rw [← hsh.1]; exact h1
  obtain ⟨hl, hin⟩ := hsh.2 i hi
  have hge : X.getD i [] = X[i] := getD_mem h1
  simp only [List.getElem_map, List.getElem_range]
  have hl0 := rowL_len hX0.1.1 (n := p.vars.toNat) (i := i) (by omega) (by omega)
  rw [hge] at hl
  refine List.ext_getElem (by omega) fun j h3 h4 => ?_
  have hj : j < p.vars.toNat := by omega
  have e1 : X[i][j] = cellM X i j := by rw [cellM, hge, getD_mem h3]
  rw [rowL_get hX0.1.1 (by omega) (by omega) h4, e1]
  have hlt : i * 8 + j < X0.length := by rw [hX0.1.1]; omega
  refine inN_eq (n := 4) (shape_in hsh hi hj) (by rw [getD_mem hlt]; exact hX0.1.2 _ (List.getElem_mem hlt)) fun t ht => ?_
  have e2 : bt (cellM X i j) t = hasM X i (t % 2) j (t / 2) := by rw [hasM, show t % 2 + 2 * (t / 2) = t by omega]
  have e3 : bt (X0.getD (i * 8 + j) 0) t = hasF X0 i (t % 2) j (t / 2) := by rw [hasF, show t % 2 + 2 * (t / 2) = t by omega]
  rw [e2, e3, Bool.eq_iff_iff]
  exact ⟨hb i _ j _ hi hj (by omega) (by omega), hs i _ j _ hi hj (by omega) (by omega)⟩
/-- A change of one element. -/
def setM (X : List (List Int)) (i j : Nat) (y : Int) : List (List Int) := X.set i ((X.getD i []).set j y)
theorem getD_setL {α : Type} (l : List α) (i k : Nat) (x d : α) (h : i < l.length) : (l.set i x).getD k d = if i = k then x else l.getD k d := by
  rw [List.getD_eq_getElem?_getD]
  by_cases e : i = k
  · subst e
    rw [if_pos rfl, List.getElem?_set_self h]
    rfl
  · rw [if_neg e, List.getElem?_set_ne e, List.getD_eq_getElem?_getD]
theorem cell_setM {X : List (List Int)} {i j : Nat} (hi : i < X.length) (hj : j < (X.getD i []).length) (y : Int) (u w : Nat) : cellM (setM X i j y) u w = if i = u ∧ j = w then y else cellM X u w := by
  rw [cellM, setM, getD_setL _ _ _ _ _ hi]
  by_cases e : i = u
  · subst e
    rw [if_pos rfl, getD_setL _ _ _ _ _ hj, cellM]
    by_cases e2 : j = w
    · rw [if_pos e2, if_pos ⟨rfl, e2⟩]
    · rw [if_neg e2, if_neg (fun h => e2 h.2)]
  · rw [if_neg e, if_neg (fun h => e h.1), cellM]
theorem shape_setM {n : Nat} {X : List (List Int)} (h : shapeM n X) {i j : Nat} (hi : i < n) (hj : j < n) {y : Int} (hy : InN 4 y) : shapeM n (setM X i j y) := by
  obtain ⟨h1, h2⟩ := h.2 i hi
  have hil : i < X.length := by rw [h.1]; exact hi
  refine ⟨by rw [setM, List.length_set]; exact h.1, fun u hu => ?_⟩
  rw [setM, getD_setL _ _ _ _ _ hil]
  by_cases e : i = u
  · rw [if_pos e]
    refine ⟨by rw [List.length_set]; exact h1, fun x hx => ?_⟩
    rcases List.mem_or_eq_of_mem_set hx with hx | hx
    · exact h2 x hx
    · rw [hx]
      exact hy
  · rw [if_neg e]
    exact h.2 u hu
/-- How many pairs a matrix has. -/
def sizeM (X : List (List Int)) : Nat := (X.map fun r => (r.map fun x => ((List.range 4).filter (bt x)).length).sum).sum
theorem sumL_set_lt {α : Type} {f : α → Nat} : ∀ (D : List α) (i : Nat) (x : α) (h : i < D.length), f x < f D[i] → ((D.set i x).map f).sum < (D.map f).sum
  | d :: D, 0, x, h, hlt => by
    simp only [List.getElem_cons_zero] at hlt
    simp only [List.set_cons_zero, List.map_cons, List.sum_cons]
    omega
  | d :: D, i + 1, x, h, hlt => by
    have := sumL_set_lt D i x (by simpa using h) (by simpa using hlt)
    simp only [List.set_cons_succ, List.map_cons, List.sum_cons]
    omega
theorem sizeM_set {X : List (List Int)} {i j : Nat} (hi : i < X.length) (hj : j < (X.getD i []).length) {y : Int} (h : ∀ t, bt y t = true → bt (cellM X i j) t = true) {t : Nat} (ht : t < 4) (h1 : bt (cellM X i j) t = true) (h2 : bt y t = false) : sizeM (setM X i j y) < sizeM X := by
  have hge : X.getD i [] = X[i] := getD_mem hi
  have hj' : j < X[i].length := by rw [← hge]; exact hj
  have hc : cellM X i j = X[i][j] := by rw [cellM, hge, getD_mem hj']
  rw [hc] at h h1
  rw [setM, hge]
  refine sumL_set_lt X i _ hi ?_
  exact sumL_set_lt X[i] j y hj' (fltLt (bt X[i][j]) (bt y) h t h1 h2 _ (List.mem_range.2 ht))
end Go.Proofs.Ytmneioafbkknhaa
/- PB62: middle and allowed of the reference. -/
namespace Go.Proofs.Ytmneioafbkknhaa
open Go Go.PS
attribute [-simp] List.map_take
theorem rmid_spec (X : List (List Int)) (n i j k a b : Nat) (hX : shapeM n X) (hn : n ≤ 8) (hi : i < n) (hj : j < n) (hk : k < n) (ha : a < 2) (hb : b < 2) : PCall Try.prog 75 [mxT X, eI i, eI j, eI k, eI a, eI b] (pB (midM X i j k a b)) [] := by
  have hm : mxT X = .sl .any 1 (X.map fun r => [eIs r]) := rfl
  rw [hm]
  refine pcall_wp _ Try.func75 rfl (by kernel_rfl) rfl ?_
  have hl := hX.1
  have hiX : i < X.length := by omega
  have hkX : k < X.length := by omega
  have hri : X.getD i [] = X[i] := getD_mem hiX
  have hrk : X.getD k [] = X[k] := getD_mem hkX
  have hli : X[i].length = n := by rw [← hri]; exact (hX.2 i hi).1
  have hlk : X[k].length = n := by rw [← hrk]; exact (hX.2 k hk).1
  have hki : k < X[i].length := by omega
  have hjk : j < X[k].length := by omega
  have c1 : cellM X i k = X[i][k] := by rw [cellM, hri, getD_mem hki]
  have c2 : cellM X k j = X[k][j] := by rw [cellM, hrk, getD_mem hjk]
  have in1 : InN 4 X[i][k] := by rw [← c1]; exact shape_in hX hi hk
  have in2 : InN 4 X[k][j] := by rw [← c2]; exact shape_in hX hk hj
  have hi0 : (0 : Int) ≤ i := by omega
  have hj0 : (0 : Int) ≤ j := by omega
  have hk0 : (0 : Int) ≤ k := by omega
  simp -dsimp
  refine wk_loop (fun c : Nat => ⟨[(14, pI c), (0, .t .ro (.sl .any 1 (X.map fun r => [eIs r]))), (1, .t .ro (eI i)), (2, .t .ro (eI j)), (3, .t .ro (eI k)), (4, .t .ro (eI a)), (5, .t .ro (eI b))], []⟩) (fun c => c ≤ 2 ∧ ∀ d, d < c → (hasM X i a k d && hasM X k d j b) = false) (fun c => 2 - c) 0 (le_of (by simp) (by simp)) ⟨by omega, fun d hd => by omega⟩ fun c ⟨hc, hJ⟩ => ?_
  simp -dsimp
  refine condX_dec (fun h => ?_) (fun h => ?_)
  rotate_left
  · have e : c = 2 := by omega
    subst e
    have hF : midM X i j k a b = false := by rw [midM, hJ 0 (by omega), hJ 1 (by omega)]; rfl
    simp -dsimp
    refine retP_c ?_
    simp -dsimp [hF]
  have hw := wr (n := (c : Int) + 1) (by omega) (by omega)
  have hw1 : IntKind.i64.wrap (2 * (c : Int)) = 2 * c := wr (by omega) (by omega)
  have hw3 : IntKind.i64.wrap (2 * (b : Int)) = 2 * b := wr (by omega) (by omega)
  obtain ⟨s, hs⟩ : ∃ s, a + 2 * c = s := ⟨_, rfl⟩
  obtain ⟨u, hu⟩ : ∃ u, c + 2 * b = u := ⟨_, rfl⟩
  have hw2 : IntKind.i64.wrap ((a : Int) + 2 * c) = (s : Int) := by rw [wr (by omega) (by omega)]; omega
  have hw4 : IntKind.i64.wrap ((c : Int) + 2 * b) = (u : Int) := by rw [wr (by omega) (by omega)]; omega
  have hs0 : (0 : Int) ≤ (s : Int) := by omega
  have hu0 : (0 : Int) ≤ (u : Int) := by omega
  have hb1 := bit_is in1 (s := s) (by omega)
  have hb2 := bit_is in2 (s := u) (by omega)
  have e1 : hasM X i a k c = bt X[i][k] s := by rw [hasM, c1, hs]
  have e2 : hasM X k c j b = bt X[k][j] u := by rw [hasM, c2, hu]
  have hext : (hasM X i a k c && hasM X k c j b) = false → ∀ d, d < c + 1 → (hasM X i a k d && hasM X k d j b) = false := fun hf d hd => by
    rcases Nat.lt_or_ge d c with h1 | h1
    · exact hJ d h1
    · rw [show d = c by omega]
      exact hf
  cases h1 : bt X[i][k] s with
  | false =>
    rw [h1] at hb1
    simp -dsimp [hi0, hj0, hk0, hiX, hkX, hki, hjk, hw1, hw2, hs0, hb1, hw]
    exact LoopP_next (c + 1) (le_of (by simp) (by simp)) ⟨by omega, hext (by rw [e1, h1]; rfl)⟩ (by omega)
  | true =>
    rw [h1] at hb1
    cases h2 : bt X[k][j] u with
    | false =>
      rw [h2] at hb2
      simp -dsimp [hi0, hj0, hk0, hiX, hkX, hki, hjk, hw1, hw2, hw3, hw4, hs0, hu0, hb1, hb2, hw]
      exact LoopP_next (c + 1) (le_of (by simp) (by simp)) ⟨by omega, hext (by rw [e2, h2, Bool.and_false])⟩ (by omega)
    | true =>
      rw [h2] at hb2
      have hF : midM X i j k a b = true := midM_iff.2 ⟨c, by omega, by rw [e1, h1], by rw [e2, h2]⟩
      simp -dsimp [hi0, hj0, hk0, hiX, hkX, hki, hjk, hw1, hw2, hw3, hw4, hs0, hu0, hb1, hb2]
      refine retP_c ?_
      simp -dsimp [hF]
def inV (c : Cn) (n i : Nat) : Bool := (List.range n).any fun k => vAt c k == (i : Int)
theorem inV_iff {c : Cn} {i : Nat} : inV c c.vars.length i = true ↔ (i : Int) ∈ c.vars := by
  simp only [inV, List.any_eq_true, List.mem_range, beq_iff_eq]
  constructor
  · rintro ⟨k, hk, e⟩
    rw [← e, vAt, getD_mem hk]
    exact List.getElem_mem hk
  · intro hm
    obtain ⟨k, hk, e⟩ := List.getElem_of_mem hm
    exact ⟨k, hk, by rw [vAt, getD_mem hk, e]⟩
def fitF (c : Cn) (r : Int) (n i j : Nat) (A B : Bool) : Bool := (List.range n).all fun k => (!(vAt c k == (i : Int)) || (bt r k == A)) && (!(vAt c k == (j : Int)) || (bt r k == B))
def alwF (rows : List Int) (c : Cn) (i j : Nat) (A B : Bool) : Bool := rows.any fun r => agreesF c r && fitF c r c.vars.length i j A B
def okA (p : Pz) (i j : Nat) (A B : Bool) (c : Cn) : Bool := !(inV c c.vars.length i && (inV c c.vars.length j && !alwF (relOf p c).rows c i j A B))
theorem alwF_iff {rows : List Int} {c : Cn} {i a j b : Nat} (ha : a < 2) (hb : b < 2) (hi : (i : Int) ∈ c.vars) (hj : (j : Int) ∈ c.vars) : alwF rows c i j (a == 1) (b == 1) = true ↔ alw rows c i a j b := by
  obtain ⟨ki, hki, ei⟩ := List.getElem_of_mem hi
  obtain ⟨kj, hkj, ej⟩ := List.getElem_of_mem hj
  have vi : vAt c ki = i := by rw [vAt, getD_mem hki, ei]
  have vj : vAt c kj = j := by rw [vAt, getD_mem hkj, ej]
  simp only [alwF, List.any_eq_true, Bool.and_eq_true, fitF, List.all_eq_true, List.mem_range, Bool.or_eq_true, Bool.not_eq_true', beq_eq_false_iff_ne, beq_iff_eq]
  constructor
  · rintro ⟨r, hr, hag, hf⟩
    refine ⟨r, hr, hag, ⟨ki, hki, vi, ?_⟩, ⟨kj, hkj, vj, ?_⟩⟩
    · exact (hf ki hki).1.resolve_left (fun h => h vi)
    · exact (hf kj hkj).2.resolve_left (fun h => h vj)
  · rintro ⟨r, hr, hag, ⟨k1, h1, v1, b1⟩, ⟨k2, h2, v2, b2⟩⟩
    refine ⟨r, hr, hag, fun k hk => ⟨?_, ?_⟩⟩
    · by_cases e : vAt c k = i
      · exact .inr (by rw [agreesF_iff.1 hag k k1 hk h1 (by rw [e, v1]), b1])
      · exact .inl e
    · by_cases e : vAt c k = j
      · exact .inr (by rw [agreesF_iff.1 hag k k2 hk h2 (by rw [e, v2]), b2])
      · exact .inl e
theorem okA_base {p : Pz} {i a j b : Nat} (ha : a < 2) (hb : b < 2) : (p.cons.all (okA p i j (a == 1) (b == 1)) = true) ↔ ∀ c ∈ p.cons, (i : Int) ∈ c.vars → (j : Int) ∈ c.vars → alw (relOf p c).rows c i a j b := by
  rw [List.all_eq_true]
  refine forall_congr' fun c => forall_congr' fun hc => ?_
  rw [okA]
  by_cases hi : (i : Int) ∈ c.vars
  · by_cases hj : (j : Int) ∈ c.vars
    · rw [inV_iff.2 hi, inV_iff.2 hj]
      simp only [Bool.true_and, Bool.not_not]
      rw [alwF_iff ha hb hi hj]
      exact ⟨fun h _ _ => h, fun h => h hi hj⟩
    · have : inV c c.vars.length j = false := by
        cases h : inV c c.vars.length j with
        | false => rfl
        | true => exact absurd (inV_iff.1 h) hj
      rw [this]
      simp [hj]
  · have : inV c c.vars.length i = false := by
      cases h : inV c c.vars.length i with
      | false => rfl
      | true => exact absurd (inV_iff.1 h) hi
    rw [this]
    simp [hi]
theorem rallowed_spec (p : Pz) (i j : Nat) (A B : Bool) (hg : goodP p = true) (hi8 : i < 8) (hj8 : j < 8) : PCall Try.prog 74 [ePz p, eI i, eI j, eI (eb A), eI (eb B)] (pB (p.cons.all (okA p i j A B))) [] := by
  have hv := hg
  simp only [goodP, Bool.and_eq_true, decide_eq_true_eq] at hv
  obtain ⟨⟨⟨⟨⟨g1, g2⟩, g3⟩, g4⟩, g5⟩, g6⟩ := hv
  refine pcall_wp _ Try.func74 rfl (by kernel_rfl) rfl ?_
  simp -dsimp
  refine wk_loop (fun q : Nat => ⟨[(26, pI q), (25, pI p.cons.length), (24, .t .ro (eCns p.cons)), (5, .ptr 5 0), (1, .t .ro (eI i)), (2, .t .ro (eI j)), (3, .t .ro (eI (eb A))), (4, .t .ro (eI (eb B)))], [(5, .blk 25 [.t .ro (eI p.vars), .t .ro (eRls p.rels), .t .ro (eCns p.cons)])]⟩)
    (fun q => q ≤ p.cons.length ∧ p.cons.all (okA p i j A B) = (p.cons.drop q).all (okA p i j A B)) (fun q => p.cons.length - q) 0 (le_of (by simp) (by simp)) ⟨by simp, rfl⟩ fun ci ⟨hci, hJ⟩ => ?_
  simp -dsimp
  refine condX_dec (fun h => ?_) (fun h => ?_)
  rotate_left
  · have e : ci = p.cons.length := by omega
    subst e
    rw [List.drop_length, List.all_nil] at hJ
    simp -dsimp
    refine retP_c ?_
    simp -dsimp [hJ]
  have hw := wr (n := (ci : Int) + 1) (by omega) (by omega)
  rw [List.drop_eq_getElem_cons h, List.all_cons] at hJ
  obtain ⟨c, hc⟩ : ∃ c, c = p.cons[ci] := ⟨_, rfl⟩
  have hcm : c ∈ p.cons := by rw [hc]; exact List.getElem_mem h
  rw [← hc] at hJ
  have hcI := consI hg hcm
  have hok := okC_of g6 c hcm
  have hrl : c.rel.toNat < p.rels.length := hok.2.1
  have hr0 : 0 ≤ c.rel := hok.1
  have hrl' : c.rel < (p.rels.length : Int) := by omega
  have hro : relOf p c = p.rels[c.rel.toNat] := getD_mem hrl
  obtain ⟨r, hr⟩ : ∃ r, r = p.rels[c.rel.toNat] := ⟨_, rfl⟩
  rw [← hr] at hro
  have hrI : ∀ x ∈ r.rows, InN 3 x := by rw [← hro]; exact hcI.r3
  have hrl8 : r.rows.length ≤ 8 := by rw [← hro]; exact goodR_len hcI.good
  have hl3 := hcI.len
  simp -dsimp [h, ← hc]
  refine wk_loop (fun q : Nat × Bool × Bool => ⟨[(33, pI q.1), (32, pI c.vars.length), (31, .t .ro (eIs c.vars)), (13, pB q.2.1), (14, pB q.2.2), (15, pB false), (12, .ptr 12 0), (26, pI ci), (25, pI p.cons.length), (24, .t .ro (eCns p.cons)), (5, .ptr 5 0), (1, .t .ro (eI i)), (2, .t .ro (eI j)), (3, .t .ro (eI (eb A))), (4, .t .ro (eI (eb B)))], [(12, .blk 87 [.t .ro (eI c.rel), .t .ro (eIs c.vars)]), (5, .blk 25 [.t .ro (eI p.vars), .t .ro (eRls p.rels), .t .ro (eCns p.cons)])]⟩)
    (fun q => q.1 ≤ c.vars.length ∧ q.2.1 = inV c q.1 i ∧ q.2.2 = inV c q.1 j) (fun q => c.vars.length - q.1) (0, false, false) (le_of (by simp) (by simp)) ⟨by simp, rfl, rfl⟩ fun ⟨x, f, s⟩ ⟨hx, hf, hs⟩ => ?_
  dsimp only at hx hf hs
  simp -dsimp
  refine condX_dec (fun hxl => ?_) (fun hxl => ?_)
  · have hwx := wr (n := (x : Int) + 1) (by omega) (by omega)
    obtain ⟨v, hvd⟩ : ∃ v, v = c.vars[x] := ⟨_, rfl⟩
    have hvA : vAt c x = v := by rw [hvd]; exact getD_mem hxl
    have hn1 : inV c (x + 1) i = (f || (v == (i : Int))) := by rw [inV, List.range_succ, List.any_append, ← inV, ← hf]; simp [hvA]
    have hn2 : inV c (x + 1) j = (s || (v == (j : Int))) := by rw [inV, List.range_succ, List.any_append, ← inV, ← hs]; simp [hvA]
    cases f with
    | true =>
      cases s with
      | true =>
        simp -dsimp [hxl, ← hvd, hwx]
        exact LoopP_next (x + 1, true, true) (le_of (by simp) (by simp)) ⟨hxl, by rw [hn1]; rfl, by rw [hn2]; rfl⟩ (by simp only; omega)
      | false =>
        simp -dsimp [hxl, ← hvd, hwx]
        exact LoopP_next (x + 1, true, v == (j : Int)) (le_of (by simp) (by simp)) ⟨hxl, by rw [hn1]; rfl, by rw [hn2]; rfl⟩ (by simp only; omega)
    | false =>
      cases s with
      | true =>
        simp -dsimp [hxl, ← hvd, hwx]
        exact LoopP_next (x + 1, v == (i : Int), true) (le_of (by simp) (by simp)) ⟨hxl, by rw [hn1]; rfl, by rw [hn2]; rfl⟩ (by simp only; omega)
      | false =>
        simp -dsimp [hxl, ← hvd, hwx]
        exact LoopP_next (x + 1, v == (i : Int), v == (j : Int)) (le_of (by simp) (by simp)) ⟨hxl, by rw [hn1]; rfl, by rw [hn2]; rfl⟩ (by simp only; omega)
  have ex : x = c.vars.length := by omega
  subst ex
  have hOK : okA p i j A B c = !(f && (s && !r.rows.any fun x => agreesF c x && fitF c x c.vars.length i j A B)) := by rw [okA, ← hf, ← hs, hro, alwF]
  simp -dsimp [hr0, hrl, hrl', ← hr]
  refine wk_loop (fun q : Nat × Bool => ⟨[(58, pI q.1), (57, pI r.rows.length), (56, .t .ro (eIs r.rows)), (15, pB q.2), (13, pB f), (14, pB s), (12, .ptr 12 0), (26, pI ci), (25, pI p.cons.length), (24, .t .ro (eCns p.cons)), (5, .ptr 5 0), (1, .t .ro (eI i)), (2, .t .ro (eI j)), (3, .t .ro (eI (eb A))), (4, .t .ro (eI (eb B)))], [(12, .blk 87 [.t .ro (eI c.rel), .t .ro (eIs c.vars)]), (5, .blk 25 [.t .ro (eI p.vars), .t .ro (eRls p.rels), .t .ro (eCns p.cons)])]⟩)
    (fun q => q.1 ≤ r.rows.length ∧ q.2 = (r.rows.take q.1).any fun x => agreesF c x && fitF c x c.vars.length i j A B) (fun q => r.rows.length - q.1) (0, false) (le_of (by simp) (by simp)) ⟨by simp, rfl⟩ fun ⟨q, sm⟩ ⟨hq, hsm⟩ => ?_
  dsimp only at hq hsm
  simp -dsimp
  refine condX_dec (fun hql => ?_) (fun hql => ?_)
  rotate_left
  · have eq : q = r.rows.length := by omega
    subst eq
    rw [List.take_length] at hsm
    rw [← hsm] at hOK
    rw [hOK] at hJ
    cases f with
    | false =>
      simp -dsimp [hw]
      exact LoopP_next (ci + 1) (le_of (by simp) (by simp)) ⟨h, by rw [hJ]; rfl⟩ (by omega)
    | true =>
      cases s with
      | false =>
        simp -dsimp [hw]
        exact LoopP_next (ci + 1) (le_of (by simp) (by simp)) ⟨h, by rw [hJ]; rfl⟩ (by omega)
      | true =>
        cases sm with
        | true =>
          simp -dsimp [hw]
          exact LoopP_next (ci + 1) (le_of (by simp) (by simp)) ⟨h, by rw [hJ]; rfl⟩ (by omega)
        | false =>
          have hF : p.cons.all (okA p i j A B) = false := by rw [hJ]; rfl
          simp -dsimp
          refine retP_c ?_
          simp -dsimp [hF]
  have hwq := wr (n := (q : Int) + 1) (by omega) (by omega)
  obtain ⟨x, hxd⟩ : ∃ x, x = r.rows[q] := ⟨_, rfl⟩
  have hx3 : InN 3 x := by rw [hxd]; exact hrI _ (List.getElem_mem hql)
  have hnx : ((r.rows.take (q + 1)).any fun x => agreesF c x && fitF c x c.vars.length i j A B) = (sm || (agreesF c x && fitF c x c.vars.length i j A B)) := by
    rw [List.take_add_one, List.getElem?_eq_getElem hql, ← hxd, List.any_append, ← hsm]
    simp
  simp -dsimp [hql, ← hxd]
  first
    | refine CallG.by (agrees_spec c x hx3 hl3) ?_
    | refine CallGE.by (agrees_spec c x hx3 hl3) ?_
    | refine CallGB.by (agrees_spec c x hx3 hl3) ?_
  simp -dsimp
  refine wk_loop (fun z : Nat × Bool => ⟨[(68, pI z.1), (67, pI c.vars.length), (66, .t .ro (eIs c.vars)), (20, pB z.2), (19, .t .ro (eI x)), (58, pI q), (57, pI r.rows.length), (56, .t .ro (eIs r.rows)), (15, pB sm), (13, pB f), (14, pB s), (12, .ptr 12 0), (26, pI ci), (25, pI p.cons.length), (24, .t .ro (eCns p.cons)), (5, .ptr 5 0), (1, .t .ro (eI i)), (2, .t .ro (eI j)), (3, .t .ro (eI (eb A))), (4, .t .ro (eI (eb B)))], [(12, .blk 87 [.t .ro (eI c.rel), .t .ro (eIs c.vars)]), (5, .blk 25 [.t .ro (eI p.vars), .t .ro (eRls p.rels), .t .ro (eCns p.cons)])]⟩)
    (fun z => z.1 ≤ c.vars.length ∧ z.2 = (agreesF c x && fitF c x z.1 i j A B)) (fun z => c.vars.length - z.1) (0, agreesF c x) (le_of (by simp) (by simp)) ⟨by simp, by simp [fitF]⟩ fun ⟨k, ok⟩ ⟨hk, hok2⟩ => ?_
  dsimp only at hk hok2
  simp -dsimp
  refine condX_dec (fun hkl => ?_) (fun hkl => ?_)
  rotate_left
  · have ek : k = c.vars.length := by omega
    subst ek
    rw [← hok2] at hnx
    cases sm with
    | true =>
      simp -dsimp [hwq]
      exact LoopP_next (q + 1, true) (le_of (by simp) (by simp)) ⟨hql, by rw [hnx]; rfl⟩ (by simp only; omega)
    | false =>
      simp -dsimp [hwq]
      exact LoopP_next (q + 1, ok) (le_of (by simp) (by simp)) ⟨hql, by rw [hnx]; rfl⟩ (by simp only; omega)
  have hwk := wr (n := (k : Int) + 1) (by omega) (by omega)
  have hk0 : (0 : Int) ≤ (k : Int) := by omega
  obtain ⟨v, hvd⟩ : ∃ v, v = c.vars[k] := ⟨_, rfl⟩
  have hvA : vAt c k = v := by rw [hvd]; exact getD_mem hkl
  have hbk := eb_eq hx3 (j := k) (by omega)
  have hnk : fitF c x (k + 1) i j A B = (fitF c x k i j A B && ((!(v == (i : Int)) || (bt x k == A)) && (!(v == (j : Int)) || (bt x k == B)))) := by
    rw [fitF, List.range_succ, List.all_append, ← fitF]
    simp [hvA]
  have hst : (agreesF c x && fitF c x (k + 1) i j A B) = (ok && ((!(v == (i : Int)) || (bt x k == A)) && (!(v == (j : Int)) || (bt x k == B)))) := by rw [hnk, hok2, Bool.and_assoc]
  generalize bt x k = bk at hbk hst
  cases ok with
  | false =>
    simp -dsimp [hkl, ← hvd, hwk]
    exact LoopP_next (k + 1, false) (le_of (by simp) (by simp)) ⟨hkl, by rw [hst]; rfl⟩ (by simp only; omega)
  | true =>
    cases e1 : (v == (i : Int)) with
    | false =>
      have n1 : (v != (i : Int)) = true := by rw [bne, e1]; rfl
      cases e2 : (v == (j : Int)) with
      | false =>
        have n2 : (v != (j : Int)) = true := by rw [bne, e2]; rfl
        simp -dsimp [hkl, ← hvd, hwk, n1, n2, e1, e2]
        exact LoopP_next (k + 1, true) (le_of (by simp) (by simp)) ⟨hkl, by rw [hst, e1, e2]; rfl⟩ (by simp only; omega)
      | true =>
        have n2 : (v != (j : Int)) = false := by rw [bne, e2]; rfl
        simp -dsimp [hkl, ← hvd, hwk, n1, n2, e1, e2, hk0, hbk, eb_beq]
        exact LoopP_next (k + 1, bk == B) (le_of (by simp) (by simp)) ⟨hkl, by rw [hst, e1, e2]; simp⟩ (by simp only; omega)
    | true =>
      have n1 : (v != (i : Int)) = false := by rw [bne, e1]; rfl
      cases e3 : (bk == A) with
      | false =>
        simp -dsimp [hkl, ← hvd, hwk, n1, e1, hk0, hbk, eb_beq, e3]
        exact LoopP_next (k + 1, false) (le_of (by simp) (by simp)) ⟨hkl, by rw [hst, e1, e3]; rfl⟩ (by simp only; omega)
      | true =>
        cases e2 : (v == (j : Int)) with
        | false =>
          have n2 : (v != (j : Int)) = true := by rw [bne, e2]; rfl
          simp -dsimp [hkl, ← hvd, hwk, n1, n2, e1, e2, hk0, hbk, eb_beq, e3]
          exact LoopP_next (k + 1, true) (le_of (by simp) (by simp)) ⟨hkl, by rw [hst, e1, e2, e3]; rfl⟩ (by simp only; omega)
        | true =>
          have n2 : (v != (j : Int)) = false := by rw [bne, e2]; rfl
          simp -dsimp [hkl, ← hvd, hwk, n1, n2, e1, e2, hk0, hbk, eb_beq, e3]
          exact LoopP_next (k + 1, bk == B) (le_of (by simp) (by simp)) ⟨hkl, by rw [hst, e1, e2, e3]; simp⟩ (by simp only; omega)
end Go.Proofs.Ytmneioafbkknhaa
/- PB63: Pairs of the reference. -/
namespace Go.Proofs.Ytmneioafbkknhaa
open Go Go.PS
attribute [-simp] List.map_take
/-- Rows that are made so far. -/
def rowsOK (n i : Nat) (X : List (List Int)) : Prop := X.length = n ∧ ∀ u, u < n → (u < i → (X.getD u []).length = n ∧ ∀ x ∈ X.getD u [], InN 4 x) ∧ (i ≤ u → X.getD u [] = [])
def bitsOK (p : Pz) (X : List (List Int)) (u w : Nat) : Prop := ∀ s, s < 4 → (bt (cellM X u w) s = true ↔ baseQ p p.cons u (s % 2) w (s / 2))
theorem rowsOK_set {n i : Nat} {X : List (List Int)} (h : rowsOK n (i + 1) X) {j : Nat} (hi : i < n) (hj : j < n) {y : Int} (hy : InN 4 y) : rowsOK n (i + 1) (setM X i j y) := by
  have hil : i < X.length := by rw [h.1]; exact hi
  refine ⟨by rw [setM, List.length_set]; exact h.1, fun u hu => ?_⟩
  rw [setM, getD_setL _ _ _ _ _ hil]
  by_cases e : i = u
  · subst e
    rw [if_pos rfl]
    obtain ⟨h1, h2⟩ := (h.2 i hi).1 (by omega)
    refine ⟨fun _ => ⟨by rw [List.length_set]; exact h1, fun x hx => ?_⟩, fun h => by omega⟩
    rcases List.mem_or_eq_of_mem_set hx with hx | hx
    · exact h2 x hx
    · rw [hx]
      exact hy
  · rw [if_neg e]
    exact h.2 u hu
theorem get_getD {X : List (List Int)} {i : Nat} (h : i < X.length) : X[i]? = some (X.getD i []) := by rw [getD_mem h, List.getElem?_eq_getElem h]
/-- How far a round has come. -/
def doneM (n i j t k : Nat) (X : List (List Int)) : Prop :=
  (∀ u w s v : Nat, u < i → w < n → s < 4 → v < n → bt (cellM X u w) s = true → midM X u w v (s % 2) (s / 2) = true) ∧ (∀ w s v : Nat, w < j → s < 4 → v < n → bt (cellM X i w) s = true → midM X i w v (s % 2) (s / 2) = true) ∧
  (∀ s v : Nat, s < t → v < n → bt (cellM X i j) s = true → midM X i j v (s % 2) (s / 2) = true) ∧ ∀ v : Nat, v < k → bt (cellM X i j) t = true → midM X i j v (t % 2) (t / 2) = true
theorem has_bt (X : List (List Int)) (i j s : Nat) : bt (cellM X i j) s = hasM X i (s % 2) j (s / 2) := by rw [hasM, show s % 2 + 2 * (s / 2) = s by omega]
theorem t_bits {t : Nat} (ht : t < 4) : andI (t : Int) 1 = eb (t % 2 == 1) ∧ shrI (t : Int) 1 = eb (t / 2 == 1) ∧ andI (t : Int) 1 = ((t % 2 : Nat) : Int) ∧ shrI (t : Int) 1 = ((t / 2 : Nat) : Int) ∧ ((t : Int) == 0) = (t == 0) ∧ ((t : Int) == 3) = (t == 3) := by
  have : t = 0 ∨ t = 1 ∨ t = 2 ∨ t = 3 := by omega
  rcases this with rfl | rfl | rfl | rfl <;> decide
set_option maxHeartbeats 2000000 in
theorem rpairs_spec (p : Pz) (hg : goodP p = true) (X0 : List Int) (hX0 : PairLaw p X0) : PCall Try.prog 39 [ePz p] (.t .ro (parT X0 p.vars.toNat)) [] := by
  have hv := vars_le hg
  obtain ⟨n, hn⟩ : ∃ n : Nat, p.vars = n := ⟨p.vars.toNat, by omega⟩
  have hpn : p.vars.toNat = n := by omega
  have hn8 : n ≤ 8 := by omega
  have hn1 : 1 ≤ n := by omega
  have m1 : (0 : Int) ≤ p.vars := by omega
  have m2 : p.vars ≤ 140737488355328 := by omega
  have m3 : 24 * p.vars ≤ 281474976710656 := by omega
  have m4 : 8 * p.vars ≤ 281474976710656 := by omega
  refine pcall_wpT Try.func39 rfl (by kernel_rfl) ?_
  simp -dsimp [m1, m2, m3, hpn]
  refine lg_mat (t0 := 37) (L := n) (k := .fz) 4 19 700 3 (by simp) (by simp) hn1 (by simp) (by simp) ?_
  have hr0 : rowsOK n 0 (List.replicate n ([] : List Int)) := ⟨by simp, fun u hu => ⟨fun h => by omega, fun _ => by rw [getD_mem (by simpa using hu)]; simp⟩⟩
  refine wk_loop (fun q : Nat × List (List Int) => ⟨[(22, pI q.1), (21, pI n), (4, .mx 700 0 0 0), (1, .ptr 1 0)], [(700, .mat 37 3 q.2), (1, .blk 25 [.t .ro (eI p.vars), .t .ro (eRls p.rels), .t .ro (eCns p.cons)])]⟩)
    (fun q => q.1 ≤ n ∧ rowsOK n q.1 q.2 ∧ ∀ u w : Nat, u < q.1 → w < n → bitsOK p q.2 u w) (fun q => n - q.1) (0, List.replicate n []) (le_of (by simp) (by simp)) ⟨by simp, hr0, fun u w hu => by simp at hu⟩ fun ⟨i, X⟩ ⟨hi, hR, hB⟩ => ?_
  dsimp only at hi hR hB
  simp -dsimp
  refine condX_dec (fun h => ?_) (fun h => ?_)
  · have hin : i < n := by omega
    have hwi := wr (n := (i : Int) + 1) (by omega) (by omega)
    have hi0 : (0 : Int) ≤ (i : Int) := by omega
    have hXl := hR.1
    have hiX : i < X.length := by omega
    have hXi : X[i]? = some [] := by rw [get_getD hiX, (hR.2 i hin).2 (by omega)]
    have hre : (List.replicate n [TL.v (Value.int IntKind.i64 0)]).isEmpty = false := by
      rw [List.isEmpty_replicate]
      simp
      omega
    have hXi' : X[i] = [] := by
      rw [List.getElem?_eq_getElem hiX] at hXi
      exact Option.some.inj hXi
    have hR1 : rowsOK n (i + 1) (X.set i (List.replicate n 0)) := ⟨by rw [List.length_set]; exact hXl, fun u hu => by
      rw [getD_setL _ _ _ _ _ hiX]
      by_cases e : i = u
      · rw [if_pos e]
        refine ⟨fun _ => ⟨by simp, fun x hx => ?_⟩, fun h => by omega⟩
        rw [List.eq_of_mem_replicate hx]
        exact ⟨0, rfl, by decide⟩
      · rw [if_neg e]
        exact ⟨fun hlt => (hR.2 u hu).1 (by omega), fun hge => (hR.2 u hu).2 (by omega)⟩⟩
    have hB1 : ∀ u w : Nat, u < i → w < n → bitsOK p (X.set i (List.replicate n 0)) u w := fun u w hu hw => by
      have := hB u w hu hw
      intro s hs
      rw [cellM, getD_setL _ _ _ _ _ hiX, if_neg (by omega)]
      exact this s hs
    have hZ1 : ∀ w, cellM (X.set i (List.replicate n 0)) i w = 0 := fun w => by
      rw [cellM, getD_setL _ _ _ _ _ hiX, if_pos rfl, List.getD_eq_getElem?_getD, List.getElem?_replicate]
      split <;> rfl
    simp -dsimp [m1, m2, m3, m4, hpn, hi0, hiX, hXi, hre, hXi']
    refine wk_loop (fun q : Nat × List (List Int) => ⟨[(36, pI q.1), (35, pI n), (5, pI i), (22, pI i), (21, pI n), (4, .mx 700 0 0 0), (1, .ptr 1 0)], [(700, .mat 37 3 q.2), (1, .blk 25 [.t .ro (eI p.vars), .t .ro (eRls p.rels), .t .ro (eCns p.cons)])]⟩)
      (fun q => q.1 ≤ n ∧ rowsOK n (i + 1) q.2 ∧ (∀ u w : Nat, u < i → w < n → bitsOK p q.2 u w) ∧ (∀ w, w < q.1 → bitsOK p q.2 i w) ∧ ∀ w, q.1 ≤ w → cellM q.2 i w = 0) (fun q => n - q.1) (0, X.set i (List.replicate n 0)) (le_of (by simp) (by simp)) ⟨by simp, hR1, hB1, fun w hw => by simp at hw, fun w _ => hZ1 w⟩ fun ⟨j, X2⟩ ⟨hj, hR2, hB2, hD2, hZ2⟩ => ?_
    dsimp only at hj hR2 hB2 hD2 hZ2
    simp -dsimp
    refine condX_dec (fun hjl => ?_) (fun hjl => ?_)
    · have hjn : j < n := by omega
      have hwj := wr (n := (j : Int) + 1) (by omega) (by omega)
      have hj0 : (0 : Int) ≤ (j : Int) := by omega
      simp -dsimp
      refine wk_loop (fun q : Nat × List (List Int) => ⟨[(39, pI q.1), (6, pI j), (36, pI j), (35, pI n), (5, pI i), (22, pI i), (21, pI n), (4, .mx 700 0 0 0), (1, .ptr 1 0)], [(700, .mat 37 3 q.2), (1, .blk 25 [.t .ro (eI p.vars), .t .ro (eRls p.rels), .t .ro (eCns p.cons)])]⟩)
        (fun q => q.1 ≤ 4 ∧ rowsOK n (i + 1) q.2 ∧ (∀ u w : Nat, u < i → w < n → bitsOK p q.2 u w) ∧ (∀ w, w < j → bitsOK p q.2 i w) ∧ (∀ w, j < w → cellM q.2 i w = 0) ∧ ∀ s, s < 4 → (bt (cellM q.2 i j) s = true ↔ s < q.1 ∧ baseQ p p.cons i (s % 2) j (s / 2))) (fun q => 4 - q.1) (0, X2) (le_of (by simp) (by simp)) ⟨by simp, hR2, hB2, hD2, fun w hw => hZ2 w (by omega), fun s hs => by
          rw [hZ2 j (Nat.le_refl _)]
          simp [bt]⟩ fun ⟨t, X3⟩ ⟨ht, hR3, hB3, hD3, hZ3, hS3⟩ => ?_
      dsimp only at ht hR3 hB3 hD3 hZ3 hS3
      simp -dsimp
      refine condX_dec (fun htl => ?_) (fun htl => ?_)
      · have ht4 : t < 4 := by omega
        have hwt := wr (n := (t : Int) + 1) (by omega) (by omega)
        have ht0 : (0 : Int) ≤ (t : Int) := by omega
        obtain ⟨hb1, hb2, _, _, hz0, hz3⟩ := t_bits ht4
        have hal := rallowed_spec p i j (t % 2 == 1) (t / 2 == 1) hg (by omega) (by omega)
        have hiff := okA_base (p := p) (i := i) (j := j) (a := t % 2) (b := t / 2) (by omega) (by omega)
        have hX3l := hR3.1
        have hiX3 : i < X3.length := by omega
        have hrl := ((hR3.2 i hin).1 (by omega)).1
        have hjr : j < (X3.getD i []).length := by omega
        have hXg := get_getD hiX3
        obtain ⟨row, hrow⟩ : ∃ row, row = X3.getD i [] := ⟨_, rfl⟩
        have hjr' : j < row.length := by rw [hrow]; exact hjr
        have hcell : cellM X3 i j = row[j]'hjr' := by
          rw [cellM, ← hrow]
          exact getD_mem hjr'
        have hXg' : X3[i]? = some row := by rw [hXg, hrow]
        have hXg2 : X3[i] = row := by
          rw [List.getElem?_eq_getElem hiX3] at hXg'
          exact Option.some.inj hXg'
        have hin4 : InN 4 row[j] := by
          rw [← hcell, cellM, ← hrow, getD_mem hjr']
          exact ((hR3.2 i hin).1 (by omega)).2 _ (by rw [← hrow]; exact List.getElem_mem _)
        have hkeep : ¬ baseQ p p.cons i (t % 2) j (t / 2) → ∀ s, s < 4 → (bt (cellM X3 i j) s = true ↔ s < t + 1 ∧ baseQ p p.cons i (s % 2) j (s / 2)) := fun hn s hs => by
          rw [hS3 s hs]
          constructor
          · rintro ⟨h1, h2⟩
            exact ⟨by omega, h2⟩
          · rintro ⟨h1, h2⟩
            refine ⟨?_, h2⟩
            rcases Nat.lt_or_ge s t with h3 | h3
            · exact h3
            · have : s = t := by omega
              subst this
              exact absurd h2 hn
        have hset : baseQ p p.cons i (t % 2) j (t / 2) → ∀ y, y = orI row[j] (shlI 1 t) → rowsOK n (i + 1) (X3.set i (row.set j y)) ∧ (∀ u w : Nat, u < i → w < n → bitsOK p (X3.set i (row.set j y)) u w) ∧ (∀ w, w < j → bitsOK p (X3.set i (row.set j y)) i w) ∧ (∀ w, j < w → cellM (X3.set i (row.set j y)) i w = 0) ∧ ∀ s, s < 4 → (bt (cellM (X3.set i (row.set j y)) i j) s = true ↔ s < t + 1 ∧ baseQ p p.cons i (s % 2) j (s / 2)) := fun hbs y hy => by
          have hsh := shl_bit ht4
          have hyin : InN 4 y := by rw [hy]; exact inN_or (by omega) hin4 hsh.1
          have hyb : ∀ s, bt y s = (bt row[j] s || decide (t = s)) := fun s => by rw [hy, bt_or (by omega) hin4 hsh.1, hsh.2]
          have hsm : X3.set i (row.set j y) = setM X3 i j y := by rw [setM, ← hrow]
          rw [hsm]
          have hcs := fun u w => cell_setM hiX3 hjr y u w
          refine ⟨rowsOK_set hR3 hin hjn hyin, fun u w hu hw s hs => ?_, fun w hw s hs => ?_, fun w hw => ?_, fun s hs => ?_⟩
          · rw [hcs, if_neg (by omega)]
            exact hB3 u w hu hw s hs
          · rw [hcs, if_neg (by omega)]
            exact hD3 w hw s hs
          · rw [hcs, if_neg (by omega)]
            exact hZ3 w hw
          · rw [hcs, if_pos ⟨rfl, rfl⟩, hyb, ← hcell, Bool.or_eq_true, hS3 s hs, decide_eq_true_eq]
            constructor
            · rintro (⟨h1, h2⟩ | h1)
              · exact ⟨by omega, h2⟩
              · subst h1
                exact ⟨by omega, hbs⟩
            · rintro ⟨h1, h2⟩
              rcases Nat.lt_or_ge s t with h3 | h3
              · exact .inl ⟨h3, h2⟩
              · exact .inr (by omega)
        cases hij : (i != j) with
        | true =>
          have hij' : i ≠ j := by simpa using hij
          have hiji : ((i : Int) != (j : Int)) = true := by simp; omega
          have hbase : i = j → t % 2 = t / 2 := fun e => absurd e hij'
          simp -dsimp [hiji, hb1, hb2]
          first
            | refine CallG.by (hal) ?_
            | refine CallGE.by (hal) ?_
            | refine CallGB.by (hal) ?_
          cases hA : p.cons.all (okA p i j (t % 2 == 1) (t / 2 == 1)) with
          | true =>
            obtain ⟨q1, q2, q3, q4, q5⟩ := hset ⟨hbase, hiff.1 hA⟩ _ rfl
            simp -dsimp
            refine wk_draw 9 [] mixed (by kernel_rfl) ?_
            simp -dsimp [hi0, hj0, hiX3, hXg', hXg2, hjr', ht0, hwt]
            exact LoopP_next (t + 1, X3.set i (row.set j (orI row[j] (shlI 1 t)))) (le_of (by simp) (by simp)) ⟨by simp only; omega, q1, q2, q3, q4, q5⟩ (by simp only; omega)
          | false =>
            simp -dsimp [hwt]
            exact LoopP_next (t + 1, X3) (le_of (by simp) (by simp)) ⟨by simp only; omega, hR3, hB3, hD3, hZ3, hkeep fun hb => by rw [hiff.2 hb.2] at hA; cases hA⟩ (by simp only; omega)
        | false =>
          have hij' : i = j := by simpa using hij
          have hiji : ((i : Int) != (j : Int)) = false := by simp; omega
          cases e0 : (t == 0) with
          | true =>
            rw [e0] at hz0
            have hbase : i = j → t % 2 = t / 2 := fun _ => by
              have : t = 0 := by simpa using e0
              omega
            simp -dsimp [hiji, hb1, hb2, hz0]
            first
              | refine CallG.by (hal) ?_
              | refine CallGE.by (hal) ?_
              | refine CallGB.by (hal) ?_
            cases hA : p.cons.all (okA p i j (t % 2 == 1) (t / 2 == 1)) with
            | true =>
              obtain ⟨q1, q2, q3, q4, q5⟩ := hset ⟨hbase, hiff.1 hA⟩ _ rfl
              simp -dsimp
              refine wk_draw 9 [] mixed (by kernel_rfl) ?_
              simp -dsimp [hi0, hj0, hiX3, hXg', hXg2, hjr', ht0, hwt]
              exact LoopP_next (t + 1, X3.set i (row.set j (orI row[j] (shlI 1 t)))) (le_of (by simp) (by simp)) ⟨by simp only; omega, q1, q2, q3, q4, q5⟩ (by simp only; omega)
            | false =>
              simp -dsimp [hwt]
              exact LoopP_next (t + 1, X3) (le_of (by simp) (by simp)) ⟨by simp only; omega, hR3, hB3, hD3, hZ3, hkeep fun hb => by rw [hiff.2 hb.2] at hA; cases hA⟩ (by simp only; omega)
          | false =>
            rw [e0] at hz0
            cases e3 : (t == 3) with
            | true =>
              rw [e3] at hz3
              have hbase : i = j → t % 2 = t / 2 := fun _ => by
                have : t = 3 := by simpa using e3
                omega
              simp -dsimp [hiji, hb1, hb2, hz0, hz3]
              first
                | refine CallG.by (hal) ?_
                | refine CallGE.by (hal) ?_
                | refine CallGB.by (hal) ?_
              cases hA : p.cons.all (okA p i j (t % 2 == 1) (t / 2 == 1)) with
              | true =>
                obtain ⟨q1, q2, q3, q4, q5⟩ := hset ⟨hbase, hiff.1 hA⟩ _ rfl
                simp -dsimp
                refine wk_draw 9 [] mixed (by kernel_rfl) ?_
                simp -dsimp [hi0, hj0, hiX3, hXg', hXg2, hjr', ht0, hwt]
                exact LoopP_next (t + 1, X3.set i (row.set j (orI row[j] (shlI 1 t)))) (le_of (by simp) (by simp)) ⟨by simp only; omega, q1, q2, q3, q4, q5⟩ (by simp only; omega)
              | false =>
                simp -dsimp [hwt]
                exact LoopP_next (t + 1, X3) (le_of (by simp) (by simp)) ⟨by simp only; omega, hR3, hB3, hD3, hZ3, hkeep fun hb => by rw [hiff.2 hb.2] at hA; cases hA⟩ (by simp only; omega)
            | false =>
              rw [e3] at hz3
              simp -dsimp [hiji, hb1, hb2, hz0, hz3, hwt]
              refine LoopP_next (t + 1, X3) (le_of (by simp) (by simp)) ⟨by simp only; omega, hR3, hB3, hD3, hZ3, hkeep fun hb => ?_⟩ (by simp only; omega)
              have h0 : t ≠ 0 := by simpa using e0
              have h3 : t ≠ 3 := by simpa using e3
              have := hb.1 hij'
              omega
      · have e : t = 4 := by omega
        subst e
        simp -dsimp [hwj]
        refine LoopP_next (j + 1, X3) (le_of (by simp) (by simp)) ⟨hjn, hR3, hB3, fun w hw => ?_, fun w hw => hZ3 w (by simp only at hw; omega)⟩ (by simp only; omega)
        rcases Nat.lt_or_ge w j with h1 | h1
        · exact hD3 w h1
        · have : w = j := by simp only at hw; omega
          subst this
          intro s hs
          rw [hS3 s hs]
          exact ⟨fun h => h.2, fun h => ⟨hs, h⟩⟩
    · have e : j = n := by omega
      subst e
      simp -dsimp [hwi]
      refine LoopP_next (i + 1, X2) (le_of (by simp) (by simp)) ⟨hin, hR2, fun u w hu hw => ?_⟩ (by simp only; omega)
      rcases Nat.lt_or_ge u i with h1 | h1
      · exact hB2 u w h1 hw
      · have : u = i := by simp only at hu; omega
        subst this
        exact hD2 w hw
  have e : i = n := by omega
  subst e
  have hsh : shapeM i X := ⟨hR.1, fun u hu => (hR.2 u hu).1 hu⟩
  have hBA : ∀ u w s : Nat, u < i → w < i → s < 4 → bt (cellM X u w) s = true → baseQ p p.cons u (s % 2) w (s / 2) := fun u w s hu hw hs hb => (hB u w hu hw s hs).1 hb
  have hsub : subM i X0 X := fun u a w b hu hw ha hb hh => by
    rw [hasM, hB u w hu hw _ (by omega), show (a + 2 * b) % 2 = a by omega, show (a + 2 * b) / 2 = b by omega]
    exact (hX0.2.1 u a w b (by omega) (by omega) ha hb hh).1
  clear hB hR h
  simp -dsimp
  refine wk_loop (fun q : List (List Int) × Bool => ⟨[(8, pB q.2), (4, .mx 700 0 0 0), (1, .ptr 1 0)], [(700, .mat 37 3 q.1), (1, .blk 25 [.t .ro (eI p.vars), .t .ro (eRls p.rels), .t .ro (eCns p.cons)])]⟩)
    (fun q => shapeM i q.1 ∧ subM i X0 q.1 ∧ (∀ u w s : Nat, u < i → w < i → s < 4 → bt (cellM q.1 u w) s = true → baseQ p p.cons u (s % 2) w (s / 2)) ∧ (q.2 = false → doneM i i 0 0 0 q.1)) (fun q => 2 * sizeM q.1 + q.2.toNat) (X, true) (le_of (by simp) (by simp)) ⟨hsh, hsub, hBA, by simp⟩ fun ⟨D0, again⟩ ⟨hD0, hs0, hb0, hcl⟩ => ?_
  dsimp only at hD0 hs0 hb0 hcl
  cases again with
  | false =>
    obtain ⟨hmid, _⟩ := hcl rfl
    have hrows := mat_rows hg hX0 (X := D0) (by rw [hpn]; exact hD0) (by rw [hpn]; exact hs0) (fun u a w b hu hw ha hb hh => by
      have hu' : u < i := by omega
      have hw' : w < i := by omega
      have h1 := hb0 u w (a + 2 * b) hu' hw' (by omega) hh
      rw [show (a + 2 * b) % 2 = a by omega, show (a + 2 * b) / 2 = b by omega] at h1
      refine ⟨h1, fun k hk => ?_⟩
      have h2 := hmid u w (a + 2 * b) k hu' hw' (by omega) (by omega) hh
      rw [show (a + 2 * b) % 2 = a by omega, show (a + 2 * b) / 2 = b by omega] at h2
      exact h2)
    rw [hpn] at hrows
    have hDl := hD0.1
    have hcl0 : ∀ u, u < i → (D0.getD u []).length = i ∧ D0.getD u [] = rowL X0 i u := fun u hu => by
      refine ⟨(hD0.2 u hu).1, ?_⟩
      have hlt : u < D0.length := by omega
      rw [getD_mem hlt]
      simp [hrows]
    simp -dsimp
    refine wk_loop (fun u : Nat => ⟨[(136, pI u), (135, pI i), (134, .mx 700 0 0 0), (4, .mx 700 0 0 0)], [(700, .mat 37 3 D0)]⟩)
      (fun u => u ≤ i ∧ ∀ x, x < u → (0 : Int) ∉ rowL X0 i x) (fun u => i - u) 0 (le_of (by simp [hDl]) (by simp)) ⟨by simp, fun x hx => by omega⟩ fun u ⟨hu, hJ⟩ => ?_
    simp -dsimp
    refine condX_dec (fun hul => ?_) (fun hul => ?_)
    rotate_left
    · have e : u = i := by omega
      have hbad : badX X0 i = false := by
        rw [badX, List.any_eq_false]
        intro x hx
        rw [List.mem_range] at hx
        simpa using hJ x (by omega)
      have hT : mxT D0 = .sl .any 1 ((List.range i).map fun x => [eIs (rowL X0 i x)]) := by
        rw [hrows, mxT, List.map_map]
        rfl
      simp -dsimp
      refine retT_c ?_
      simp -dsimp [parT, hbad, hpn, hT]
    have hui : u < i := by omega
    have hwu := wr (n := (u : Int) + 1) (by omega) (by omega)
    have hu0 : (0 : Int) ≤ (u : Int) := by omega
    have huD : u < D0.length := by omega
    obtain ⟨hc1, hc2⟩ := hcl0 u hui
    obtain ⟨row, hrow⟩ : ∃ row, row = D0.getD u [] := ⟨_, rfl⟩
    rw [← hrow] at hc1 hc2
    have hDg' : D0[u]? = some row := by rw [get_getD huD, hrow]
    have hDg2 : D0[u] = row := by
      rw [List.getElem?_eq_getElem huD] at hDg'
      exact Option.some.inj hDg'
    simp -dsimp [hu0, huD, hDg', hDg2]
    refine wk_loop (fun w : Nat => ⟨[(142, pI w), (141, pI i), (140, .mx 700 1 u 0), (136, pI u), (135, pI i), (134, .mx 700 0 0 0), (4, .mx 700 0 0 0)], [(700, .mat 37 3 D0)]⟩)
      (fun w => w ≤ i ∧ ∀ (x : Nat) (h : x < row.length), x < w → row[x] ≠ 0) (fun w => i - w) 0 (le_of (by simp [hc1]) (by simp)) ⟨by simp, fun x _ hx => by omega⟩ fun w ⟨hw, hJ2⟩ => ?_
    simp -dsimp
    refine condX_dec (fun hwl => ?_) (fun hwl => ?_)
    rotate_left
    · have e : w = i := by omega
      subst e
      simp -dsimp [hwu]
      refine LoopP_next (u + 1) (le_of (by simp) (by simp)) ⟨hui, fun x hx => ?_⟩ (by omega)
      rcases Nat.lt_or_ge x u with h1 | h1
      · exact hJ x h1
      · have : x = u := by omega
        subst this
        rw [← hc2]
        intro hm
        obtain ⟨q, hq, e⟩ := List.getElem_of_mem hm
        exact hJ2 q hq (by omega) e
    have hww := wr (n := (w : Int) + 1) (by omega) (by omega)
    have hw0 : (0 : Int) ≤ (w : Int) := by omega
    have hwr : w < row.length := by omega
    by_cases h0 : row[w] = 0
    · have hbad : badX X0 i = true := by
        rw [badX, List.any_eq_true]
        refine ⟨u, List.mem_range.2 hui, ?_⟩
        have hm : (0 : Int) ∈ rowL X0 i u := by
          rw [← hc2, ← h0]
          exact List.getElem_mem hwr
        simpa using hm
      simp -dsimp [hw0, huD, hDg', hDg2, hwr, h0]
      refine retT_c ?_
      simp -dsimp [parT, hbad, hpn]
    · have h0' : (row[w] == 0) = false := by simpa using h0
      simp -dsimp [hw0, huD, hDg', hDg2, hwr, h0', hww]
      refine LoopP_next (w + 1) (le_of (by simp) (by simp)) ⟨by omega, fun x hx hxl => ?_⟩ (by omega)
      rcases Nat.lt_or_ge x w with h1 | h1
      · exact hJ2 x hx h1
      · have : x = w := by omega
        subst this
        exact h0
  | true =>
    have hDl := hD0.1
    simp -dsimp
    refine wk_loop (fun q : Nat × List (List Int) × Bool => ⟨[(80, pI q.1), (79, pI i), (8, pB q.2.2), (4, .mx 700 0 0 0), (1, .ptr 1 0)], [(700, .mat 37 3 q.2.1), (1, .blk 25 [.t .ro (eI p.vars), .t .ro (eRls p.rels), .t .ro (eCns p.cons)])]⟩)
      (fun q => q.1 ≤ i ∧ shapeM i q.2.1 ∧ subM i X0 q.2.1 ∧ (∀ u w s : Nat, u < i → w < i → s < 4 → bt (cellM q.2.1 u w) s = true → baseQ p p.cons u (s % 2) w (s / 2)) ∧ sizeM q.2.1 ≤ sizeM D0 ∧ (q.2.2 = true → sizeM q.2.1 < sizeM D0) ∧ (q.2.2 = false → doneM i q.1 0 0 0 q.2.1)) (fun q => i - q.1) (0, D0, false) (le_of (by simp [hDl]) (by simp)) ⟨by simp, hD0, hs0, hb0, Nat.le_refl _, by simp, fun _ => ⟨fun u w s v hu => by simp at hu, fun w s v hw => by omega, fun s v hs => by omega, fun v hv => by omega⟩⟩ fun ⟨u, D1, ag1⟩ ⟨hu, hD1, hs1, hb1, hz1, hlt1, hdn1⟩ => ?_
    dsimp only at hu hD1 hs1 hb1 hz1 hlt1 hdn1
    have hD1l := hD1.1
    simp -dsimp
    refine condX_dec (fun hul => ?_) (fun hul => ?_)
    rotate_left
    · have e : u = i := by omega
      subst e
      simp -dsimp
      refine LoopP_next (D1, ag1) (le_of (by simp) (by simp)) ⟨hD1, hs1, hb1, fun hf => ?_⟩ ?_
      · obtain ⟨d1, d2, d3, d4⟩ := hdn1 hf
        exact ⟨d1, d2, d3, d4⟩
      · simp only
        cases ag1 with
        | true =>
          have := hlt1 rfl
          simp only [Bool.toNat_true]
          omega
        | false =>
          simp only [Bool.toNat_true, Bool.toNat_false]
          omega
    have hui : u < i := by omega
    have hwu := wr (n := (u : Int) + 1) (by omega) (by omega)
    have hu0 : (0 : Int) ≤ (u : Int) := by omega
    simp -dsimp
    refine wk_loop (fun q : Nat × List (List Int) × Bool => ⟨[(85, pI q.1), (84, pI i), (9, pI u), (80, pI u), (79, pI i), (8, pB q.2.2), (4, .mx 700 0 0 0), (1, .ptr 1 0)], [(700, .mat 37 3 q.2.1), (1, .blk 25 [.t .ro (eI p.vars), .t .ro (eRls p.rels), .t .ro (eCns p.cons)])]⟩)
      (fun q => q.1 ≤ i ∧ shapeM i q.2.1 ∧ subM i X0 q.2.1 ∧ (∀ u w s : Nat, u < i → w < i → s < 4 → bt (cellM q.2.1 u w) s = true → baseQ p p.cons u (s % 2) w (s / 2)) ∧ sizeM q.2.1 ≤ sizeM D0 ∧ (q.2.2 = true → sizeM q.2.1 < sizeM D0) ∧ (q.2.2 = false → doneM i u q.1 0 0 q.2.1)) (fun q => i - q.1) (0, D1, ag1) (le_of (by simp [hD1l]) (by simp)) ⟨by simp, hD1, hs1, hb1, hz1, hlt1, hdn1⟩ fun ⟨w, D2, ag2⟩ ⟨hw, hD2, hs2, hb2, hz2, hlt2, hdn2⟩ => ?_
    dsimp only at hw hD2 hs2 hb2 hz2 hlt2 hdn2
    have hD2l := hD2.1
    simp -dsimp
    refine condX_dec (fun hwl => ?_) (fun hwl => ?_)
    rotate_left
    · have e : w = i := by omega
      subst e
      simp -dsimp [hwu]
      refine LoopP_next (u + 1, D2, ag2) (le_of (by simp) (by simp)) ⟨hui, hD2, hs2, hb2, hz2, hlt2, fun hf => ?_⟩ (by simp only; omega)
      obtain ⟨d1, d2, d3, d4⟩ := hdn2 hf
      refine ⟨fun u' w' s v hu' hw' hs hv hb => ?_, fun w s v hw => by omega, fun s v hs => by omega, fun v hv => by omega⟩
      simp only at hu'
      rcases Nat.lt_or_ge u' u with h1 | h1
      · exact d1 u' w' s v h1 hw' hs hv hb
      · have : u' = u := by omega
        subst this
        exact d2 w' s v hw' hs hv hb
    have hwi : w < i := by omega
    have hww := wr (n := (w : Int) + 1) (by omega) (by omega)
    have hw0 : (0 : Int) ≤ (w : Int) := by omega
    simp -dsimp
    refine wk_loop (fun q : Nat × List (List Int) × Bool => ⟨[(88, pI q.1), (10, pI w), (85, pI w), (84, pI i), (9, pI u), (80, pI u), (79, pI i), (8, pB q.2.2), (4, .mx 700 0 0 0), (1, .ptr 1 0)], [(700, .mat 37 3 q.2.1), (1, .blk 25 [.t .ro (eI p.vars), .t .ro (eRls p.rels), .t .ro (eCns p.cons)])]⟩)
      (fun q => q.1 ≤ 4 ∧ shapeM i q.2.1 ∧ subM i X0 q.2.1 ∧ (∀ u w s : Nat, u < i → w < i → s < 4 → bt (cellM q.2.1 u w) s = true → baseQ p p.cons u (s % 2) w (s / 2)) ∧ sizeM q.2.1 ≤ sizeM D0 ∧ (q.2.2 = true → sizeM q.2.1 < sizeM D0) ∧ (q.2.2 = false → doneM i u w q.1 0 q.2.1)) (fun q => 4 - q.1) (0, D2, ag2) (le_of (by simp) (by simp)) ⟨by simp, hD2, hs2, hb2, hz2, hlt2, hdn2⟩ fun ⟨t, D3, ag3⟩ ⟨ht, hD3, hs3, hb3, hz3, hlt3, hdn3⟩ => ?_
    dsimp only at ht hD3 hs3 hb3 hz3 hlt3 hdn3
    have hD3l := hD3.1
    simp -dsimp
    refine condX_dec (fun htl => ?_) (fun htl => ?_)
    rotate_left
    · have e : t = 4 := by omega
      subst e
      simp -dsimp [hww]
      refine LoopP_next (w + 1, D3, ag3) (le_of (by simp) (by simp)) ⟨hwi, hD3, hs3, hb3, hz3, hlt3, fun hf => ?_⟩ (by simp only; omega)
      obtain ⟨d1, d2, d3, d4⟩ := hdn3 hf
      refine ⟨d1, fun w' s v hw' hs hv hb => ?_, fun s v hs => by omega, fun v hv => by omega⟩
      simp only at hw'
      rcases Nat.lt_or_ge w' w with h1 | h1
      · exact d2 w' s v h1 hs hv hb
      · have : w' = w := by omega
        subst this
        exact d3 s v hs hv hb
    have ht4 : t < 4 := by omega
    have hwt := wr (n := (t : Int) + 1) (by omega) (by omega)
    have ht0 : (0 : Int) ≤ (t : Int) := by omega
    obtain ⟨_, _, hta, htb, _, _⟩ := t_bits ht4
    simp -dsimp
    refine wk_loop (fun q : Nat × List (List Int) × Bool => ⟨[(93, pI q.1), (92, pI i), (11, pI t), (88, pI t), (10, pI w), (85, pI w), (84, pI i), (9, pI u), (80, pI u), (79, pI i), (8, pB q.2.2), (4, .mx 700 0 0 0), (1, .ptr 1 0)], [(700, .mat 37 3 q.2.1), (1, .blk 25 [.t .ro (eI p.vars), .t .ro (eRls p.rels), .t .ro (eCns p.cons)])]⟩)
      (fun q => q.1 ≤ i ∧ shapeM i q.2.1 ∧ subM i X0 q.2.1 ∧ (∀ u w s : Nat, u < i → w < i → s < 4 → bt (cellM q.2.1 u w) s = true → baseQ p p.cons u (s % 2) w (s / 2)) ∧ sizeM q.2.1 ≤ sizeM D0 ∧ (q.2.2 = true → sizeM q.2.1 < sizeM D0) ∧ (q.2.2 = false → doneM i u w t q.1 q.2.1)) (fun q => i - q.1) (0, D3, ag3) (le_of (by simp [hD3l]) (by simp)) ⟨by simp, hD3, hs3, hb3, hz3, hlt3, hdn3⟩ fun ⟨k, D, ag⟩ ⟨hk, hD, hs4, hb4, hz4, hlt4, hdn4⟩ => ?_
    dsimp only at hk hD hs4 hb4 hz4 hlt4 hdn4
    have hDl4 := hD.1
    simp -dsimp
    refine condX_dec (fun hkl => ?_) (fun hkl => ?_)
    rotate_left
    · have e : k = i := by omega
      subst e
      simp -dsimp [hwt]
      refine LoopP_next (t + 1, D, ag) (le_of (by simp) (by simp)) ⟨by simp only; omega, hD, hs4, hb4, hz4, hlt4, fun hf => ?_⟩ (by simp only; omega)
      obtain ⟨d1, d2, d3, d4⟩ := hdn4 hf
      refine ⟨d1, d2, fun s v hs hv hb => ?_, fun v hv => by omega⟩
      simp only at hs
      rcases Nat.lt_or_ge s t with h1 | h1
      · exact d3 s v h1 hv hb
      · have : s = t := by omega
        subst this
        exact d4 v hv hb
    have hki : k < i := by omega
    have hwk := wr (n := (k : Int) + 1) (by omega) (by omega)
    have huD : u < D.length := by omega
    obtain ⟨row, hrow⟩ : ∃ row, row = D.getD u [] := ⟨_, rfl⟩
    have hrl : row.length = i := by rw [hrow]; exact (hD.2 u hui).1
    have hwr : w < row.length := by omega
    have hwr' : w < (D.getD u []).length := by rw [← hrow]; exact hwr
    have hDg' : D[u]? = some row := by rw [get_getD huD, hrow]
    have hDg2 : D[u] = row := by
      rw [List.getElem?_eq_getElem huD] at hDg'
      exact Option.some.inj hDg'
    have hcell : cellM D u w = row[w] := by
      rw [cellM, ← hrow]
      exact getD_mem hwr
    have hin4 : InN 4 row[w] := by rw [← hcell]; exact shape_in hD hui hwi
    have hbi := bit_is hin4 (s := t) (by omega)
    have hmid := rmid_spec D i u w k (t % 2) (t / 2) hD hn8 hui hwi hki (by omega) (by omega)
    have hext : (bt (cellM D u w) t = true → midM D u w k (t % 2) (t / 2) = true) → ag = false → doneM i u w t (k + 1) D := fun hh hf => by
      obtain ⟨d1, d2, d3, d4⟩ := hdn4 hf
      refine ⟨d1, d2, d3, fun v hv hb => ?_⟩
      rcases Nat.lt_or_ge v k with h1 | h1
      · exact d4 v h1 hb
      · have : v = k := by omega
        subst this
        exact hh hb
    cases hbt : bt row[w] t with
    | false =>
      rw [hbt] at hbi
      simp -dsimp [hu0, hw0, huD, hDg', hDg2, hwr, ht0, hbi, hwk]
      exact LoopP_next (k + 1, D, ag) (le_of (by simp) (by simp)) ⟨hki, hD, hs4, hb4, hz4, hlt4, hext (by rw [hcell, hbt]; simp)⟩ (by simp only; omega)
    | true =>
      rw [hbt] at hbi
      obtain ⟨a, hda⟩ : ∃ a, t % 2 = a := ⟨_, rfl⟩
      obtain ⟨b, hdb⟩ : ∃ b, t / 2 = b := ⟨_, rfl⟩
      rw [hda] at hta
      rw [hdb] at htb
      rw [hda, hdb] at hmid hext
      simp -dsimp [hu0, hw0, huD, hDg', hDg2, hwr, ht0, hbi, hta, htb]
      first
        | refine CallG.by (hmid) ?_
        | refine CallGE.by (hmid) ?_
        | refine CallGB.by (hmid) ?_
      cases hM : midM D u w k a b with
      | true =>
        simp -dsimp [hwk]
        exact LoopP_next (k + 1, D, ag) (le_of (by simp) (by simp)) ⟨hki, hD, hs4, hb4, hz4, hlt4, hext (fun _ => hM)⟩ (by simp only; omega)
      | false =>
        obtain ⟨y1, y2⟩ := nan4 hin4 (s := t) ht4
        have hsm : D.set u (row.set w (nanI row[w] (shlI 1 t))) = setM D u w (nanI row[w] (shlI 1 t)) := by rw [setM, ← hrow]
        have hcs := fun x z => cell_setM huD hwr' (nanI row[w] (shlI 1 t)) x z
        have hle : ∀ s, bt (nanI row[w] (shlI 1 t)) s = true → bt (cellM D u w) s = true := fun s hs => by
          rw [hcell]
          by_cases hs4 : s < 4
          · rw [y2 s hs4, Bool.and_eq_true] at hs
            exact hs.1
          · obtain ⟨q, hq, hq16⟩ := y1
            have h16 : 2 ^ 4 ≤ 2 ^ s := Nat.pow_le_pow_right (by decide) (by omega)
            rw [hq, bt, Int.toNat_natCast, Nat.testBit_lt_two_pow (by omega)] at hs
            cases hs
        have hlt5 : sizeM (setM D u w (nanI row[w] (shlI 1 t))) < sizeM D := sizeM_set huD hwr' hle (t := t) ht4 (by rw [hcell]; exact hbt) (by rw [y2 t ht4]; simp)
        have hD5 := shape_setM hD hui hwi y1
        have hb5 : ∀ u' w' s : Nat, u' < i → w' < i → s < 4 → bt (cellM (setM D u w (nanI row[w] (shlI 1 t))) u' w') s = true → baseQ p p.cons u' (s % 2) w' (s / 2) := fun u' w' s hu' hw' hs hb => by
          rw [hcs] at hb
          split at hb
          · rename_i e
            obtain ⟨rfl, rfl⟩ := e
            exact hb4 u w s hu' hw' hs (hle s hb)
          · exact hb4 u' w' s hu' hw' hs hb
        have hs5 : subM i X0 (setM D u w (nanI row[w] (shlI 1 t))) := fun u' a' w' b' hu' hw' ha' hb' hh => by
          have h1 := hs4 u' a' w' b' hu' hw' ha' hb' hh
          rw [hasM, hcs]
          split
          · rename_i e
            obtain ⟨rfl, rfl⟩ := e
            rw [y2 _ (by omega), Bool.and_eq_true, ← hcell]
            refine ⟨h1, ?_⟩
            by_cases e : a' + 2 * b' = t
            · exfalso
              have ea : a' = a := by omega
              have eb' : b' = b := by omega
              subst ea eb'
              have := sub_mid hX0 (X := D) (by rw [hpn]; exact hs4) (by omega) (by omega) (by omega : k < p.vars.toNat) ha' hb' hh
              rw [hM] at this
              cases this
            · simp [e]
          · exact h1
        rw [← hsm] at hlt5 hD5 hb5 hs5
        simp -dsimp
        refine wk_draw 9 [] mixed (by kernel_rfl) ?_
        simp -dsimp [hu0, hw0, huD, hDg', hDg2, hwr, ht0, hwk]
        exact LoopP_next (k + 1, D.set u (row.set w (nanI row[w] (shlI 1 t))), true) (le_of (by simp) (by simp)) ⟨hki, hD5, hs5, hb5, by simp only; omega, fun _ => by simp only; omega, by simp⟩ (by simp only; omega)
end Go.Proofs.Ytmneioafbkknhaa
/- PB64: the law of Pairs, walked. -/
namespace Go.Proofs.Ytmneioafbkknhaa
open Go Go.PS
attribute [-simp] List.map_take
theorem eqf_same (A : List (List Int)) (hA : A.length ≤ 8) : PCall Try.prog 40 [.sl .any 1 (A.map fun r => [eIs r]), .sl .any 1 (A.map fun r => [eIs r]), .clo 37 []] (pB true) [] := by
  refine pcall_wp _ Try.func40 rfl (by kernel_rfl) rfl ?_
  simp -dsimp
  refine wk_loop (fun i : Nat => ⟨[(17, pI i), (16, pI A.length), (15, .t .ro (.sl .any 1 (A.map fun r => [eIs r]))), (1, .t .ro (.sl .any 1 (A.map fun r => [eIs r]))), (2, .t .ro (.clo 37 []))], []⟩) (fun i => i ≤ A.length) (fun i => A.length - i) 0
    (le_of (by simp) (by simp)) (by omega) fun i hi => ?_
  simp -dsimp
  refine condX_dec (fun h => ?_) (fun h => ?_)
  · have hw := wr (n := (i : Int) + 1) (by omega) (by omega)
    simp -dsimp [h]
    first
      | refine CallG.by (equal_spec A[i] A[i]) ?_
      | refine CallGE.by (equal_spec A[i] A[i]) ?_
      | refine CallGB.by (equal_spec A[i] A[i]) ?_
    simp -dsimp [hw]
    exact LoopP_next (i + 1) (le_of (by simp) (by simp)) h (by omega)
  · simp -dsimp
    refine retP_c ?_
    simp -dsimp
theorem pairs_true (p : Pz) : PCall Try.prog 7 [ePz p] (pB true) [] := by
  have hgt := good_trim p
  refine pcall_wp _ Try.func7 rfl (by kernel_rfl) rfl ?_
  simp -dsimp
  first
    | refine CallG.by (of_spec p) ?_
    | refine CallGE.by (of_spec p) ?_
    | refine CallGB.by (of_spec p) ?_
  simp -dsimp
  cases hg : goodP p with
  | false =>
    rw [hg] at hgt
    first
      | refine CallG.by (ppairs_bad (trimP p) hgt.symm) ?_
      | refine CallGE.by (ppairs_bad (trimP p) hgt.symm) ?_
      | refine CallGB.by (ppairs_bad (trimP p) hgt.symm) ?_
    simp -dsimp
    first
      | refine CallG.by (rvalid_spec p) ?_
      | refine CallGE.by (rvalid_spec p) ?_
      | refine CallGB.by (rvalid_spec p) ?_
    simp -dsimp [hg]
    first
      | refine CallG.by (awake_spec) ?_
      | refine CallGE.by (awake_spec) ?_
      | refine CallGB.by (awake_spec) ?_
    simp -dsimp
    refine retP_c ?_
    simp -dsimp
  | true =>
    obtain ⟨X, hX⟩ := pair_ex p hg
    have hv := vars_le hg
    rw [trim_of hg]
    have h1 := ppairs_spec p hg X hX
    have h2 := rpairs_spec p hg X hX
    cases hb : badX X p.vars.toNat with
    | true =>
      rw [parT, hb, if_pos rfl] at h1 h2
      have hs := pcall_arg 1 (pcall_arg 0 (eqf_same [] (by simp)) rfl nil_any') rfl nil_any'
      first
        | refine CallG.by (h1) ?_
        | refine CallGE.by (h1) ?_
        | refine CallGB.by (h1) ?_
      simp -dsimp
      first
        | refine CallG.by (rvalid_spec p) ?_
        | refine CallGE.by (rvalid_spec p) ?_
        | refine CallGB.by (rvalid_spec p) ?_
      simp -dsimp [hg]
      first
        | refine CallG.by (h2) ?_
        | refine CallGE.by (h2) ?_
        | refine CallGB.by (h2) ?_
      simp -dsimp
      first
        | refine CallG.by (hs) ?_
        | refine CallGE.by (hs) ?_
        | refine CallGB.by (hs) ?_
      simp -dsimp
      first
        | refine CallG.by (awake_spec) ?_
        | refine CallGE.by (awake_spec) ?_
        | refine CallGB.by (awake_spec) ?_
      simp -dsimp
      refine retP_c ?_
      simp -dsimp
    | false =>
      rw [parT, hb, if_neg (by simp)] at h1 h2
      have hs := eqf_same ((List.range p.vars.toNat).map (rowL X p.vars.toNat)) (by simp; omega)
      rw [List.map_map] at hs
      have hs' : PCall Try.prog 40 [.sl .any 1 ((List.range p.vars.toNat).map fun x => [eIs (rowL X p.vars.toNat x)]), .sl .any 1 ((List.range p.vars.toNat).map fun x => [eIs (rowL X p.vars.toNat x)]), .clo 37 []] (pB true) [] := hs
      first
        | refine CallG.by (h1) ?_
        | refine CallGE.by (h1) ?_
        | refine CallGB.by (h1) ?_
      simp -dsimp
      first
        | refine CallG.by (rvalid_spec p) ?_
        | refine CallGE.by (rvalid_spec p) ?_
        | refine CallGB.by (rvalid_spec p) ?_
      simp -dsimp [hg]
      first
        | refine CallG.by (h2) ?_
        | refine CallGE.by (h2) ?_
        | refine CallGB.by (h2) ?_
      simp -dsimp
      first
        | refine CallG.by (hs') ?_
        | refine CallGE.by (hs') ?_
        | refine CallGB.by (hs') ?_
      simp -dsimp
      first
        | refine CallG.by (awake_spec) ?_
        | refine CallGE.by (awake_spec) ?_
        | refine CallGB.by (awake_spec) ?_
      simp -dsimp
      refine retP_c ?_
      simp -dsimp
end Go.Proofs.Ytmneioafbkknhaa
