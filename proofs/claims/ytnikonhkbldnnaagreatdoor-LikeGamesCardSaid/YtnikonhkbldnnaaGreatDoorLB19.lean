import Derived.Test.YtnikonhkbldnnaaGreatDoorLBB
import Derived.Test.YtnikonhkbldnnaaGreatDoorPSG
/- LB19: Maps: a closure that calls itself. -/
set_option linter.unusedVariables false
set_option linter.unusedSimpArgs false
set_option maxRecDepth 20000
namespace Go.Proofs.YtnikonhkbldnnaaGreatDoor
open Go Go.PS
attribute [-simp] isKeyK List.map_take
def idxP {α : Type} (g : α → Bool) : List α → Nat → Int
  | [], _ => -1
  | x :: xs, i => if g x then (i : Int) else idxP g xs (i + 1)
theorem idxP_drop {α : Type} (g : α → Bool) (xs : List α) (k : Nat) (h : k < xs.length) : idxP g (xs.drop k) k = if g xs[k] then (k : Int) else idxP g (xs.drop (k + 1)) (k + 1) := by
  rw [List.drop_eq_getElem_cons h]
  simp [idxP]
theorem idxP_any {α : Type} (g : α → Bool) (xs : List α) (k : Nat) : decide (0 ≤ idxP g xs k) = xs.any g := by
  induction xs generalizing k with
  | nil => simp [idxP]
  | cons x xs ih =>
    simp only [idxP, List.any_cons]
    by_cases h : g x = true
    · simp [h]
    · simpa [h] using ih (k + 1)
@[simp] def mpS : Sg := [(1000000, 1000000), (1001, 1001), (1000001, 1000001), (1000002, 1000002), (1000003, 1000003)]
theorem maps_fit (t g b : List Nat) (ht : Tow 6 t) (hb : b.length < t.length) (x : Nat) :
    (ndN (t.getD b.length 0 &&& (2 ^ b.length - 1))).any (fun u => !nbN g (b.getD u 0) x) = !fitN t g b x := by
  have h64 : 2 ^ t.length ≤ 2 ^ 6 := Nat.pow_le_pow_right (by decide) ht.le
  have hl := ht.get b.length
  have hle := ht.le
  rw [Bool.eq_iff_iff, List.any_eq_true, Bool.not_eq_true', Bool.eq_false_iff]
  unfold fitN
  rw [ne_eq, List.all_eq_true, Classical.not_forall]
  have hand : t.getD b.length 0 &&& (2 ^ b.length - 1) < 4096 := Nat.lt_of_le_of_lt Nat.and_le_left (by omega)
  constructor
  · rintro ⟨u, hu, hn⟩
    have h1 := (bits_mem hand).1 hu
    rw [Nat.testBit_and, Nat.testBit_two_pow_sub_one, Bool.and_eq_true, decide_eq_true_eq] at h1
    refine ⟨u, ?_⟩
    rw [Classical.not_imp]
    refine ⟨List.mem_range.2 h1.2, ?_⟩
    have h2 : nbN t b.length u = true := h1.1
    simp only [Bool.not_eq_true'] at hn
    rw [h2, hn]
    decide
  · rintro ⟨u, hu⟩
    rw [Classical.not_imp] at hu
    obtain ⟨h1, h2⟩ := hu
    have h1 := List.mem_range.1 h1
    simp only [Bool.or_eq_true, Bool.not_eq_true', not_or, Bool.not_eq_false, Bool.not_eq_true] at h2
    refine ⟨u, (bits_mem hand).2 ?_, by simpa using h2.2⟩
    rw [Nat.testBit_and, Nat.testBit_two_pow_sub_one, Bool.and_eq_true, decide_eq_true_eq]
    exact ⟨h2.1, h1⟩
theorem any_iL (l : List Nat) (p : Nat → Bool) (q : Int → Bool) (h : ∀ u ∈ l, q (u : Int) = p u) : (iL l).any q = l.any p := by
  induction l with
  | nil => rfl
  | cons x l ih =>
    simp only [iL_cons, List.any_cons]
    rw [h x (by simp), ih fun u hu => h u (List.mem_cons_of_mem _ hu)]
theorem maps_le (t g : List Nat) (hg : g.length ≤ 6) : ∀ (f : Nat) (b : List Nat), mapsN t g f b ≤ 6 ^ f
  | 0, b => by simp [mapsN]
  | f + 1, b => by
    rw [mapsN]
    have : ∀ n, ((List.range n).map fun x => if fitN t g b x then mapsN t g f (b ++ [x]) else 0).sum ≤ n * 6 ^ f := by
      intro n
      induction n with
      | zero => simp
      | succ n ih =>
        rw [List.range_succ, List.map_append, List.sum_append, Nat.succ_mul]
        have h1 := maps_le t g hg f (b ++ [n])
        simp only [List.map_cons, List.map_nil, List.sum_cons, List.sum_nil, Nat.add_zero]
        split <;> omega
    have h2 := this g.length
    rw [Nat.pow_succ]
    have h3 : g.length * 6 ^ f ≤ 6 * 6 ^ f := Nat.mul_le_mul_right _ hg
    omega
theorem sum_range_succ (F : Nat → Nat) (n : Nat) : ((List.range (n + 1)).map F).sum = ((List.range n).map F).sum + F n := by
  rw [List.range_succ, List.map_append, List.sum_append]
  simp
theorem maps_sum_le (t g : List Nat) (hg : g.length ≤ 6) (f : Nat) (b : List Nat) : ∀ n, ((List.range n).map fun x => if fitN t g b x then mapsN t g f (b ++ [x]) else 0).sum ≤ n * 6 ^ f
  | 0 => by simp
  | n + 1 => by
    have ih := maps_sum_le t g hg f b n
    rw [sum_range_succ, Nat.succ_mul]
    have h1 := maps_le t g hg f (b ++ [n])
    split <;> omega
end Go.Proofs.YtnikonhkbldnnaaGreatDoor
