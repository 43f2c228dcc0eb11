import Derived.Test.YtfcbmcmkakceaaaDoorLW12
/- LW13: towns side by side; trees that grow. Plain. -/
set_option linter.unusedVariables false
set_option linter.unusedSimpArgs false
namespace Go.Proofs.YtfcbmcmkakceaaaDoor
theorem bes_tow {s t : List Nat} (hs : Tow 6 s) (ht : Tow 6 t) (hl : s.length + t.length ≤ 6) : Tow 6 (besN s t) := by
  have hbl := bes_len s t
  have hp := hs.pos
  have hlt1 : ∀ i j, i < s.length → s.length ≤ j → (s.getD i 0).testBit j = false := fun i j hi hj =>
    Nat.testBit_lt_two_pow (Nat.lt_of_lt_of_le (hs.get i) (Nat.pow_le_pow_right (by decide) hj))
  refine ⟨by omega, by omega, fun x hx => ?_, fun i hi => ?_, fun i j hi hj => ?_⟩
  · rw [hbl, Nat.pow_add]
    rcases List.mem_append.1 hx with h1 | h1
    · exact Nat.lt_of_lt_of_le (hs.lt x h1) (Nat.le_mul_of_pos_right _ (Nat.two_pow_pos _))
    · obtain ⟨y, hy, rfl⟩ := List.mem_map.1 h1
      have := ht.lt y hy
      show y <<< s.length < _
      rw [Nat.shiftLeft_eq, Nat.mul_comm]
      exact Nat.mul_lt_mul_of_pos_left this (Nat.two_pow_pos _)
  · rw [hbl] at hi
    rcases Nat.lt_or_ge i s.length with h | h
    · rw [bes_left h]
      exact hs.irr i h
    · obtain ⟨y, rfl⟩ : ∃ y, i = s.length + y := ⟨i - s.length, by omega⟩
      rw [bes_right (by omega), Nat.testBit_shiftLeft]
      simp only [Nat.add_sub_cancel_left]
      rw [ht.irr y (by omega), Bool.and_false]
  · rw [hbl] at hi hj
    rcases Nat.lt_or_ge i s.length with h | h <;> rcases Nat.lt_or_ge j s.length with h' | h'
    · rw [bes_left h, bes_left h']
      exact hs.sym i j h h'
    · obtain ⟨y, rfl⟩ : ∃ y, j = s.length + y := ⟨j - s.length, by omega⟩
      rw [bes_left h, bes_right (by omega), Nat.testBit_shiftLeft, hlt1 i _ h (by omega)]
      have : ¬ s.length ≤ i := by omega
      simp [this]
    · obtain ⟨y, rfl⟩ : ∃ y, i = s.length + y := ⟨i - s.length, by omega⟩
      rw [bes_left h', bes_right (by omega), Nat.testBit_shiftLeft, hlt1 j _ h' (by omega)]
      have : ¬ s.length ≤ j := by omega
      simp [this]
    · obtain ⟨x, rfl⟩ : ∃ y, i = s.length + y := ⟨i - s.length, by omega⟩
      obtain ⟨y, rfl⟩ : ∃ y, j = s.length + y := ⟨j - s.length, by omega⟩
      rw [bes_right (by omega), bes_right (by omega), Nat.testBit_shiftLeft, Nat.testBit_shiftLeft]
      simp only [Nat.add_sub_cancel_left, Nat.le_add_right, decide_true, Bool.true_and]
      exact ht.sym x y (by omega) (by omega)
/-- A tree with a node more. -/
def addN (T : List Nat) (p : Nat) : List Nat := T.set p (T.getD p 0 ||| 2 ^ T.length) ++ [2 ^ p]
theorem add_len (T : List Nat) (p : Nat) : (addN T p).length = T.length + 1 := by simp [addN]
theorem add_old {T : List Nat} {p i : Nat} (hi : i < T.length) : (addN T p).getD i 0 = if i = p then T.getD p 0 ||| 2 ^ T.length else T.getD i 0 := by
  unfold addN
  rw [List.getD_eq_getElem?_getD, List.getElem?_append_left (by simpa using hi), List.getElem?_set]
  by_cases e : p = i
  · subst e
    simp [hi]
  · have e' : ¬ i = p := fun h => e h.symm
    simp [e, e', List.getD_eq_getElem?_getD]
theorem add_new (T : List Nat) (p : Nat) : (addN T p).getD T.length 0 = 2 ^ p := by
  unfold addN
  rw [List.getD_eq_getElem?_getD, List.getElem?_append_right (by simp)]
  simp
theorem add_bit {T : List Nat} {p i j : Nat} (hT : Tow 6 T) (hi : i < T.length) : ((addN T p).getD i 0).testBit j = ((T.getD i 0).testBit j || (decide (i = p) && decide (j = T.length))) := by
  rw [add_old hi]
  split
  · rename_i e
    subst e
    rw [Nat.testBit_or, Nat.testBit_two_pow]
    have : decide (T.length = j) = decide (j = T.length) := by
      rw [decide_eq_decide]; exact eq_comm
    simp [this]
  · rename_i e
    simp [e]
theorem add_tow {T : List Nat} {p : Nat} (hT : Tow 6 T) (hp : p < T.length) (h5 : T.length ≤ 5) : Tow 6 (addN T p) := by
  have hl := add_len T p
  have hlt : ∀ i, (T.getD i 0).testBit T.length = false := fun i => Nat.testBit_lt_two_pow (hT.get i)
  have hge : ∀ i, i < (addN T p).length → (addN T p).getD i 0 < 2 ^ (addN T p).length := fun i hi => by
    rw [hl] at hi ⊢
    rcases Nat.lt_or_ge i T.length with h | h
    · rw [add_old h]
      have h1 : 2 ^ T.length < 2 ^ (T.length + 1) := Nat.pow_lt_pow_right (by decide) (by omega)
      split
      · exact Nat.or_lt_two_pow (Nat.lt_trans (hT.get p) h1) h1
      · exact Nat.lt_trans (hT.get i) h1
    · rw [show i = T.length by omega, add_new]
      exact Nat.pow_lt_pow_right (by decide) (by omega)
  refine ⟨by omega, by omega, fun x hx => ?_, fun i hi => ?_, fun i j hi hj => ?_⟩
  · obtain ⟨i, hi, rfl⟩ := List.mem_iff_getElem.1 hx
    have := hge i hi
    rwa [List.getD_eq_getElem?_getD, List.getElem?_eq_getElem hi] at this
  · rw [hl] at hi
    rcases Nat.lt_or_ge i T.length with h | h
    · rw [add_bit hT h, hT.irr i h]
      have : ¬ i = T.length := by omega
      simp [this]
    · rw [show i = T.length by omega, add_new, Nat.testBit_two_pow]
      simp
      omega
  · rw [hl] at hi hj
    rcases Nat.lt_or_ge i T.length with h | h <;> rcases Nat.lt_or_ge j T.length with h' | h'
    · have e1 : ¬ i = T.length := by omega
      have e2 : ¬ j = T.length := by omega
      rw [add_bit hT h, add_bit hT h', hT.sym i j h h']
      simp [e1, e2]
    · rw [show j = T.length by omega, add_new, add_bit hT h, hlt, Nat.testBit_two_pow]
      have : decide (i = p) = decide (p = i) := by
        rw [decide_eq_decide]; exact eq_comm
      simp [this]
    · rw [show i = T.length by omega, add_new, add_bit hT h', hlt, Nat.testBit_two_pow]
      have : decide (j = p) = decide (p = j) := by
        rw [decide_eq_decide]; exact eq_comm
      simp [this]
    · rw [show i = T.length by omega, show j = T.length by omega]
theorem add_tre {T : List Nat} {p : Nat} {par : Nat → Nat} (hT : Tow 6 T) (hp : p < T.length) (h : Tre T par) : Tre (addN T p) fun k => if k = T.length then p else par k := by
  intro k hk1 hk
  rw [add_len] at hk
  rcases Nat.lt_or_ge k T.length with h5 | h5
  · obtain ⟨h1, h2⟩ := h k hk1 h5
    have e : ¬ k = T.length := by omega
    simp only [if_neg e]
    refine ⟨h1, fun u hu => ?_⟩
    have e2 : ¬ u = T.length := by omega
    rw [← h2 u hu]
    unfold nbN
    rw [add_bit hT h5]
    simp [e2]
  · have e : k = T.length := by omega
    subst e
    simp only [if_true]
    refine ⟨hp, fun u hu => ?_⟩
    unfold nbN
    rw [add_new, Nat.testBit_two_pow, decide_eq_decide]
    exact eq_comm
theorem one_tow : Tow 6 [0] := ⟨by decide, by decide, by simp, by simp, by simp⟩
theorem one_tre : Tre [0] fun _ => 0 := fun k h1 h2 => by simp at h2; omega
end Go.Proofs.YtfcbmcmkakceaaaDoor
