import Derived.Test.YtnikonhkbldnnaaGreatDoorLWA
import Derived.Test.YtnikonhkbldnnaaGreatDoorPS27
/- LW17: formulas as they come: size, depth, shape, what is closed, truth. Plain. -/
set_option linter.unusedVariables false
set_option linter.unusedSimpArgs false
namespace Go.Proofs.YtnikonhkbldnnaaGreatDoor
open Go Go.PS
abbrev oEq : ByteArray := ⟨#[61]⟩
abbrev oAd : ByteArray := ⟨#[126]⟩
abbrev oNo : ByteArray := ⟨#[33]⟩
abbrev oEx : ByteArray := ⟨#[69]⟩
abbrev oAn : ByteArray := ⟨#[38]⟩
/-- How many formulas an operation has. -/
def kidsI (o : ByteArray) : Int := if o = oEq ∨ o = oAd then 0 else if o = oNo ∨ o = oEx then 1 else if o = oAn then 2 else -1
def hasV (x : Int) (used : Bool) : Bool := decide (0 ≤ x) && decide (x < 4) && (used || decide (x = 0))
/-- A node as it has to be. -/
def nodeOk (o : ByteArray) (a b : Int) (m : Nat) : Bool := decide (kidsI o = m) && hasV a (decide (kidsI o = 0) || decide (o = oEx)) && hasV b (decide (kidsI o = 0))
mutual
def shapedF : FT → Bool
  | .mk o a b ks => nodeOk o a b ks.length && shapedL ks
def shapedL : List FT → Bool
  | [] => true
  | k :: l => shapedF k && shapedL l
end
mutual
def nodesF : FT → Nat
  | .mk _ _ _ ks => 1 + nodesL ks
def nodesL : List FT → Nat
  | [] => 0
  | k :: l => nodesF k + nodesL l
end
mutual
def dpF : FT → Nat
  | .mk _ _ _ ks => 1 + dpL ks
def dpL : List FT → Nat
  | [] => 0
  | k :: l => max (dpF k) (dpL l)
end
mutual
def sizeF : FT → Int → Int → Int
  | .mk o a b ks, left, deep => if left < 1 ∨ deep < 1 ∨ nodeOk o a b ks.length = false then -1 else sizeL ks (left - 1) (deep - 1)
def sizeL : List FT → Int → Int → Int
  | [], left, _ => left
  | k :: l, left, deep => if sizeF k left deep < 0 then -1 else sizeL l (sizeF k left deep) deep
end
theorem nodesF_pos (f : FT) : 0 < nodesF f := by
  cases f
  rw [nodesF]
  omega
mutual
theorem sizeF_iff : ∀ (f : FT) (left deep : Int), (shapedF f = true ∧ (nodesF f : Int) ≤ left ∧ (dpF f : Int) ≤ deep → sizeF f left deep = left - nodesF f) ∧ (¬ (shapedF f = true ∧ (nodesF f : Int) ≤ left ∧ (dpF f : Int) ≤ deep) → sizeF f left deep = -1)
  | .mk o a b ks, left, deep => by
    have ih := sizeL_iff ks (left - 1) (deep - 1)
    rw [sizeF, shapedF, nodesF, dpF, Bool.and_eq_true]
    constructor
    · rintro ⟨⟨h1, h2⟩, h3, h4⟩
      rw [if_neg (by rw [h1]; simp; omega), ih.1 ⟨h2, by omega, by omega, by omega⟩]
      omega
    · intro h
      split
      · rfl
      · rename_i hh
        rw [not_or, not_or] at hh
        exact ih.2 (fun h2 => h ⟨⟨by simpa using hh.2.2, h2.1⟩, by omega, by omega⟩) (by omega) (by omega)
theorem sizeL_iff : ∀ (l : List FT) (left deep : Int), (shapedL l = true ∧ (nodesL l : Int) ≤ left ∧ (dpL l : Int) ≤ deep ∧ 0 ≤ left → sizeL l left deep = left - nodesL l) ∧ (¬ (shapedL l = true ∧ (nodesL l : Int) ≤ left ∧ (dpL l : Int) ≤ deep) → 0 ≤ left → 0 ≤ deep → sizeL l left deep = -1)
  | [], left, deep => by
    rw [sizeL, shapedL, nodesL, dpL]
    exact ⟨fun _ => by omega, fun h h1 h2 => absurd ⟨rfl, by omega, by omega⟩ h⟩
  | k :: l, left, deep => by
    have ihk := sizeF_iff k left deep
    rw [sizeL, shapedL, nodesL, dpL, Bool.and_eq_true]
    by_cases hk : shapedF k = true ∧ (nodesF k : Int) ≤ left ∧ (dpF k : Int) ≤ deep
    · rw [ihk.1 hk, if_neg (by omega)]
      have ihl := sizeL_iff l (left - nodesF k) deep
      constructor
      · rintro ⟨⟨h1, h2⟩, h3, h4, h5⟩
        rw [ihl.1 ⟨h2, by omega, by omega, by omega⟩]
        omega
      · intro h h0 hd
        exact ihl.2 (fun h2 => h ⟨⟨hk.1, h2.1⟩, by omega, by omega⟩) (by omega) hd
    · rw [ihk.2 hk, if_pos (by omega)]
      constructor
      · rintro ⟨⟨h1, h2⟩, h3, h4, h5⟩
        exact absurd ⟨h1, by omega, by omega⟩ hk
      · intros
        rfl
end
/-- A formula as the reference asks for it. -/
def formOk (f : FT) : Bool := decide (nodesF f ≤ 2000) && decide (dpF f ≤ 40) && shapedF f
theorem size_form (f : FT) : decide (0 ≤ sizeF f 2000 40) = formOk f := by
  have h := sizeF_iff f 2000 40
  unfold formOk
  rw [Bool.eq_iff_iff, Bool.and_eq_true, Bool.and_eq_true, decide_eq_true_iff, decide_eq_true_iff, decide_eq_true_iff]
  by_cases hs : shapedF f = true ∧ (nodesF f : Int) ≤ 2000 ∧ (dpF f : Int) ≤ 40
  · rw [h.1 hs]
    exact ⟨fun _ => ⟨⟨by omega, by omega⟩, hs.1⟩, fun _ => by omega⟩
  · rw [h.2 hs]
    exact ⟨fun h => absurd h (by decide), fun h => absurd ⟨h.2, by omega, by omega⟩ hs⟩
theorem shapedL_all (l : List FT) : shapedL l = l.all shapedF := by
  induction l with
  | nil => rfl
  | cons x l ih => rw [shapedL, List.all_cons, ih]
mutual
def closF : FT → Nat → Bool
  | .mk o a b ks, bd => if o = oEq ∨ o = oAd then bd.testBit a.toNat && bd.testBit b.toNat else closL ks (if o = oEx then bd ||| 2 ^ a.toNat else bd)
def closL : List FT → Nat → Bool
  | [], _ => true
  | k :: l, bd => closF k bd && closL l bd
end
theorem closL_all (l : List FT) (bd : Nat) : closL l bd = l.all fun k => closF k bd := by
  induction l with
  | nil => rfl
  | cons x l ih => rw [closL, List.all_cons, ih]
/-- The node of a variable in a choice. -/
def dg (n c x : Nat) : Nat := c / n ^ x % n
def setD (n c x v : Nat) : Nat := c - dg n c x * n ^ x + v * n ^ x
mutual
def trF (t : List Nat) : FT → Nat → Bool
  | .mk o a b ks, c =>
    if o = oEq then dg t.length c a.toNat == dg t.length c b.toNat
    else if o = oAd then nbN t (dg t.length c a.toNat) (dg t.length c b.toNat)
    else if o = oNo then !trL t ks 0 c
    else if o = oAn then trL t ks 0 c && trL t ks 1 c
    else (List.range t.length).any fun v => trL t ks 0 (setD t.length c a.toNat v)
def trL (t : List Nat) : List FT → Nat → Nat → Bool
  | [], _, _ => false
  | k :: _, 0, c => trF t k c
  | _ :: l, i + 1, c => trL t l i c
end
def tabF (t : List Nat) (f : FT) : List Bool := (List.range (t.length ^ 4)).map (trF t f)
theorem dg_lt {n c x : Nat} (hn : 0 < n) : dg n c x < n := Nat.mod_lt _ hn
theorem setD_lt {n c x v : Nat} (hn : 0 < n) (hc : c < n ^ 4) (hx : x < 4) (hv : v < n) : dg n c x * n ^ x ≤ c ∧ setD n c x v < n ^ 4 := by
  obtain ⟨y, hy⟩ : ∃ y, n ^ 4 = n ^ x * (n * n ^ y) ∧ y + x = 3 := ⟨3 - x, by
    have : n ^ 4 = n ^ (x + (1 + (3 - x))) := by congr 1; omega
    rw [this, Nat.pow_add, Nat.pow_add, Nat.pow_one], by omega⟩
  have hp : 0 < n ^ x := Nat.pow_pos hn
  unfold setD dg
  rw [hy.1] at hc ⊢
  generalize n ^ x = p at *
  generalize n ^ y = r at *
  have h1 : c / p < n * r := Nat.div_lt_of_lt_mul hc
  have h2 : c = p * (c / p) + c % p := (Nat.div_add_mod c p).symm
  have h3 : c % p < p := Nat.mod_lt _ hp
  generalize c / p = m at *
  generalize c % p = q at *
  have h4 : m / n < r := Nat.div_lt_of_lt_mul h1
  have h5 : m = n * (m / n) + m % n := (Nat.div_add_mod m n).symm
  have h6 : m % n < n := Nat.mod_lt _ hn
  generalize m / n = k at *
  generalize m % n = d at *
  subst h5
  have e1 : p * (n * k + d) = p * (n * k) + d * p := by rw [Nat.mul_add, Nat.mul_comm p d]
  have e2 : p * (n * r) = p * (n * k) + p * (n * (r - k)) := by
    rw [← Nat.mul_add, ← Nat.mul_add]
    congr 2
    omega
  have e3 : p * n ≤ p * (n * (r - k)) := Nat.mul_le_mul_left _ (Nat.le_mul_of_pos_right _ (by omega))
  have e4 : v * p + p ≤ p * n := by
    have : (v + 1) * p ≤ n * p := Nat.mul_le_mul_right _ (by omega)
    rw [Nat.add_mul, Nat.one_mul, Nat.mul_comm n p] at this
    exact this
  rw [e1] at h2
  omega
end Go.Proofs.YtnikonhkbldnnaaGreatDoor
