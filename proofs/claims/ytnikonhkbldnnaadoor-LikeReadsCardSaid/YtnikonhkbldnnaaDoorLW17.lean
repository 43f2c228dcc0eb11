import Derived.Test.YtnikonhkbldnnaaDoorLWA
import Derived.Test.YtnikonhkbldnnaaDoorPS27
/- LW17: formulas as they come: size, depth, shape, what is closed, truth. Plain. -/
set_option linter.unusedVariables false
set_option linter.unusedSimpArgs false
namespace Go.Proofs.YtnikonhkbldnnaaDoor
open Go Go.PS
abbrev oEq : ByteArray := ⟨#[61]⟩
abbrev oAd : ByteArray := ⟨#[126]⟩
abbrev oNo : ByteArray := ⟨#[33]⟩
abbrev oEx : ByteArray := ⟨#[69]⟩
abbrev oAn : ByteArray := ⟨#[38]⟩
/-- How many formulas an operation has. -/
def kidsI (o : ByteArray) : Int := if o = oEq ∨ o = oAd then 0 else if o = oNo ∨ o = oEx then 1 else if o = oAn then 2 else -1
def hasV (x : Int) (used : Bool) : Bool := decide (0 ≤ x) && decide (x < 4) && (used || decide (x = 0))
/-- A node as it has to be. -/
def nodeOk (o : ByteArray) (a b : Int) (m : Nat) : Bool := decide (kidsI o = m) && hasV a (decide (kidsI o = 0) || decide (o = oEx)) && hasV b (decide (kidsI o = 0))
mutual
def shapedF : FT → Bool
  | .mk o a b ks => nodeOk o a b ks.length && shapedL ks
def shapedL : List FT → Bool
  | [] => true
  | k :: l => shapedF k && shapedL l
end
mutual
def nodesF : FT → Nat
  | .mk _ _ _ ks => 1 + nodesL ks
def nodesL : List FT → Nat
  | [] => 0
  | k :: l => nodesF k + nodesL l
end
mutual
def dpF : FT → Nat
  | .mk _ _ _ ks => 1 + dpL ks
def dpL : List FT → Nat
  | [] => 0
  | k :: l => max (dpF k) (dpL l)
end
mutual
def sizeF : FT → Int → Int → Int
  | .mk o a b ks, left, deep => if left < 1 ∨ deep < 1 ∨ nodeOk o a b ks.length = false then -1 else sizeL ks (left - 1) (deep - 1)
def sizeL : List FT → Int → Int → Int
  | [], left, _ => left
  | k :: l, left, deep => if sizeF k left deep < 0 then -1 else sizeL l (sizeF k left deep) deep
end
theorem nodesF_pos (f : FT) : 0 < nodesF f := by
  cases f
  rw [nodesF]
  omega
theorem dpF_pos (f : FT) : 0 < dpF f := by
  cases f
  rw [dpF]
  omega
mutual
theorem sizeF_iff : ∀ (f : FT) (left deep : Int), (shapedF f = true ∧ (nodesF f : Int) ≤ left ∧ (dpF f : Int) ≤ deep → sizeF f left deep = left - nodesF f) ∧ (¬ (shapedF f = true ∧ (nodesF f : Int) ≤ left ∧ (dpF f : Int) ≤ deep) → sizeF f left deep = -1)
  | .mk o a b ks, left, deep => by
    have ih := sizeL_iff ks (left - 1) (deep - 1)
    rw [sizeF, shapedF, nodesF, dpF, Bool.and_eq_true]
    constructor
    · rintro ⟨⟨h1, h2⟩, h3, h4⟩
      rw [if_neg (by rw [h1]; simp; omega), ih.1 ⟨h2, by omega, by omega, by omega⟩]
      omega
    · intro h
      split
      · rfl
      · rename_i hh
        rw [not_or, not_or] at hh
        exact ih.2 (fun h2 => h ⟨⟨by simpa using hh.2.2, h2.1⟩, by omega, by omega⟩) (by omega) (by omega)
theorem sizeL_iff : ∀ (l : List FT) (left deep : Int), (shapedL l = true ∧ (nodesL l : Int) ≤ left ∧ (dpL l : Int) ≤ deep ∧ 0 ≤ left → sizeL l left deep = left - nodesL l) ∧ (¬ (shapedL l = true ∧ (nodesL l : Int) ≤ left ∧ (dpL l : Int) ≤ deep) → 0 ≤ left → 0 ≤ deep → sizeL l left deep = -1)
  | [], left, deep => by
    rw [sizeL, shapedL, nodesL, dpL]
    exact ⟨fun _ => by omega, fun h h1 h2 => absurd ⟨rfl, by omega, by omega⟩ h⟩
  | k :: l, left, deep => by
    have ihk := sizeF_iff k left deep
    rw [sizeL, shapedL, nodesL, dpL, Bool.and_eq_true]
    by_cases hk : shapedF k = true ∧ (nodesF k : Int) ≤ left ∧ (dpF k : Int) ≤ deep
    · rw [ihk.1 hk, if_neg (by omega)]
      have ihl := sizeL_iff l (left - nodesF k) deep
      constructor
      · rintro ⟨⟨h1, h2⟩, h3, h4, h5⟩
        rw [ihl.1 ⟨h2, by omega, by omega, by omega⟩]
        omega
      · intro h h0 hd
        exact ihl.2 (fun h2 => h ⟨⟨hk.1, h2.1⟩, by omega, by omega⟩) (by omega) hd
    · rw [ihk.2 hk, if_pos (by omega)]
      constructor
      · rintro ⟨⟨h1, h2⟩, h3, h4, h5⟩
        exact absurd ⟨h1, by omega, by omega⟩ hk
      · intros
        rfl
end
/-- A formula as the reference asks for it. -/
def formOk (f : FT) : Bool := decide (nodesF f ≤ 2000) && decide (dpF f ≤ 40) && shapedF f
theorem size_form (f : FT) : decide (0 ≤ sizeF f 2000 40) = formOk f := by
  have h := sizeF_iff f 2000 40
  unfold formOk
  rw [Bool.eq_iff_iff, Bool.and_eq_true, Bool.and_eq_true, decide_eq_true_iff, decide_eq_true_iff, decide_eq_true_iff]
  by_cases hs : shapedF f = true ∧ (nodesF f : Int) ≤ 2000 ∧ (dpF f : Int) ≤ 40
  · rw [h.1 hs]
    exact ⟨fun _ => ⟨⟨by omega, by omega⟩, hs.1⟩, fun _ => by omega⟩
  · rw [h.2 hs]
    exact ⟨fun h => absurd h (by decide), fun h => absurd ⟨h.2, by omega, by omega⟩ hs⟩
theorem nodesL_snoc (l : List FT) (k : FT) : nodesL (l ++ [k]) = nodesL l + nodesF k := by
  induction l with
  | nil => simp [nodesL]
  | cons x l ih => rw [List.cons_append, nodesL, nodesL, ih]; omega
theorem nodesL_le (l : List FT) (i : Nat) : nodesL (l.take i) ≤ nodesL l := by
  induction l generalizing i with
  | nil => simp [nodesL]
  | cons x l ih =>
    cases i with
    | zero => simp [nodesL]
    | succ i => rw [List.take_succ_cons, nodesL, nodesL]; have := ih i; omega
theorem shapedL_all (l : List FT) : shapedL l = l.all shapedF := by
  induction l with
  | nil => rfl
  | cons x l ih => rw [shapedL, List.all_cons, ih]
mutual
def deepR : FT → Nat → Nat
  | .mk _ _ _ ks, left => deepRL ks left
def deepRL : List FT → Nat → Nat
  | [], _ => 1
  | k :: l, left => if left < 1 then 41 else max (1 + deepR k (left - 1)) (deepRL l left)
end
mutual
theorem deepR_iff : ∀ (f : FT) (left : Nat), (dpF f ≤ left + 1 → deepR f left = dpF f) ∧ (left + 1 < dpF f → 41 ≤ deepR f left)
  | .mk o a b ks, left => by
    have ih := deepRL_iff ks left
    rw [dpF, deepR]
    exact ⟨fun h => by rw [ih.1 (by omega)], fun h => ih.2 (by omega)⟩
theorem deepRL_iff : ∀ (l : List FT) (left : Nat), (dpL l ≤ left → deepRL l left = 1 + dpL l) ∧ (left < dpL l → 41 ≤ deepRL l left)
  | [], left => by
    rw [dpL, deepRL]
    exact ⟨fun _ => rfl, fun h => by omega⟩
  | k :: l, left => by
    have ihk := deepR_iff k (left - 1)
    have ihl := deepRL_iff l left
    have hp := dpF_pos k
    rw [dpL, deepRL]
    by_cases h0 : left < 1
    · rw [if_pos h0]
      exact ⟨fun h => by omega, fun _ => by omega⟩
    · rw [if_neg h0]
      constructor
      · intro h
        rw [ihk.1 (by omega), ihl.1 (by omega)]
        omega
      · intro h
        by_cases hk : left < dpF k
        · have := ihk.2 (by omega)
          omega
        · have := ihl.2 (by omega)
          omega
end
theorem deepRL_snoc (l : List FT) (k : FT) {left : Nat} (h : 1 ≤ left) : deepRL (l ++ [k]) left = max (deepRL l left) (1 + deepR k (left - 1)) := by
  induction l with
  | nil =>
    have hl : ¬ left < 1 := by omega
    simp [deepRL, hl]
  | cons x l ih => rw [List.cons_append, deepRL, deepRL, if_neg (by omega), if_neg (by omega), ih]; omega
mutual
theorem deepR_ub : ∀ (f : FT) (left : Nat), deepR f left ≤ left + 41
  | .mk o a b ks, left => by
    rw [deepR]
    exact deepRL_ub ks left
theorem deepRL_ub : ∀ (l : List FT) (left : Nat), deepRL l left ≤ left + 41
  | [], left => by rw [deepRL]; omega
  | k :: l, left => by
    have h1 := deepR_ub k (left - 1)
    have h2 := deepRL_ub l left
    rw [deepRL]
    split
    · omega
    · omega
end
theorem deep_form (f : FT) : decide (deepR f 41 ≤ 40) = decide (dpF f ≤ 40) := by
  have h := deepR_iff f 41
  rw [decide_eq_decide]
  by_cases hd : dpF f ≤ 42
  · rw [h.1 hd]
  · have := h.2 (by omega)
    omega
end Go.Proofs.YtnikonhkbldnnaaDoor
