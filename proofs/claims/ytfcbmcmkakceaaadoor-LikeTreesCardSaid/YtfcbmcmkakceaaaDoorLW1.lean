import Derived.Test.YtfcbmcmkakceaaaDoorProg
/- LW1: the game of two players on two graphs. No program in sight. -/
set_option linter.unusedVariables false
set_option linter.unusedSimpArgs false
namespace Go.Proofs.YtfcbmcmkakceaaaDoor
/-- Whether two nodes are neighbours. -/
def nbN (t : List Nat) (x y : Nat) : Bool := (t.getD x 0).testBit y
/-- What the choices i and j tell apart: whether they are the same, whether they are neighbours. -/
def badE (a b : List Nat) (i j : Nat) : Bool := (a.getD i 0 == a.getD j 0) != (b.getD i 0 == b.getD j 0)
def badN (t s : List Nat) (a b : List Nat) (i j : Nat) : Bool := nbN t (a.getD i 0) (a.getD j 0) != nbN s (b.getD i 0) (b.getD j 0)
def okN (t s : List Nat) (a b : List Nat) : Bool := (List.range a.length).all fun j => (List.range j).all fun i => !(badE a b i j || badN t s a b i j)
/-- To each choice an answer. -/
def ansN (w : List Nat → List Nat → Bool) (n m : Nat) (a b : List Nat) : Bool := (List.range n).all fun v => (List.range m).any fun u => w (a ++ [v]) (b ++ [u])
/-- Whether the second player can win. -/
def winN : Nat → List Nat → List Nat → List Nat → List Nat → Bool
  | 0, t, s, a, b => okN t s a b
  | k + 1, t, s, a, b => okN t s a b && (ansN (winN k t s) t.length s.length a b && ansN (winN k s t) s.length t.length b a)
/-- A checked graph. -/
structure Tow (n : Nat) (t : List Nat) : Prop where
  pos : 1 ≤ t.length
  le : t.length ≤ n
  lt : ∀ x ∈ t, x < 2 ^ t.length
  irr : ∀ i, i < t.length → (t.getD i 0).testBit i = false
  sym : ∀ i j, i < t.length → j < t.length → (t.getD i 0).testBit j = (t.getD j 0).testBit i
theorem Tow.get {n : Nat} {t : List Nat} (h : Tow n t) (i : Nat) : t.getD i 0 < 2 ^ t.length := by
  rcases Nat.lt_or_ge i t.length with hi | hi
  · rw [List.getD_eq_getElem?_getD, List.getElem?_eq_getElem hi]
    exact h.lt _ (List.getElem_mem hi)
  · rw [List.getD_eq_getElem?_getD, List.getElem?_eq_none hi]
    exact Nat.two_pow_pos _
theorem nb_sym {n : Nat} {t : List Nat} (h : Tow n t) {x y : Nat} (hx : x < t.length) (hy : y < t.length) : nbN t x y = nbN t y x := h.sym x y hx hy
theorem okN_range {t s a b : List Nat} : okN t s a b = true ↔ ∀ j, j < a.length → ∀ i, i < j → badE a b i j = false ∧ badN t s a b i j = false := by
  unfold okN
  simp only [List.all_eq_true, List.mem_range, Bool.not_eq_true', Bool.or_eq_false_iff]
theorem okN_no {t s a b : List Nat} {i j : Nat} (hj : j < a.length) (hi : i < j) (h : (badE a b i j || badN t s a b i j) = true) : okN t s a b = false := by
  rw [Bool.eq_false_iff]
  intro e
  have := okN_range.1 e j hj i hi
  rw [this.1, this.2] at h
  cases h
end Go.Proofs.YtfcbmcmkakceaaaDoor
