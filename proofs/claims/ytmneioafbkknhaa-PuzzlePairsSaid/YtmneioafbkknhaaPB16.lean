import Derived.Test.YtmneioafbkknhaaPB15
/- PB16: the plain law of Blamed. -/
set_option linter.unusedVariables false
set_option linter.unusedSimpArgs false
set_option maxRecDepth 20000
namespace Go.Proofs.Ytmneioafbkknhaa
open Go Go.PS
theorem blame_min {p : Pz} (h : goodP p = true) : (blameO p = none ∧ ∀ j < 2 ^ p.cons.length, dead p j = false) ∨
    ∃ b, blameO p = some b ∧ b < 2 ^ p.cons.length ∧ b ≠ 0 ∧ dead p b = true ∧ ∀ j < 2 ^ p.cons.length, dead p j = true → pop b ≤ pop j := by
  have g4 : p.cons.length ≤ 12 := by
    simp only [goodP, Bool.and_eq_true, decide_eq_true_eq] at h
    exact h.1.1.2
  rcases rfold_inv p (2 ^ p.cons.length) with ⟨h1, h2⟩ | ⟨h1, h2, h3, h4⟩
  · exact .inl ⟨blameS_none p _ h2, h2⟩
  · have hp := pop_bd g4 h1
    have h0 : (rfold p (2 ^ p.cons.length)).1 ≠ 0 := fun e => by
      rw [e, dead_zero] at h2
      cases h2
    exact .inr ⟨_, blameS_some p _ h1 h2 h4 p.cons.length 1 (by omega) (by omega), h1, h0, h2, fun j hj hd => (h4 j hj hd).1⟩
theorem filt_le {α : Type} (f g : α → Bool) (h : ∀ x, g x = true → f x = true) : ∀ l : List α, (l.filter g).length ≤ (l.filter f).length
  | [] => Nat.le_refl _
  | x :: l => by
    have := filt_le f g h l
    simp only [List.filter_cons]
    cases hg : g x with
    | true => simp [h x hg, this]
    | false => cases hf : f x <;> simp <;> omega
theorem filt_lt {α : Type} (f g : α → Bool) (h : ∀ x, g x = true → f x = true) (k : α) (hf : f k = true) (hg : g k = false) : ∀ l : List α, k ∈ l → (l.filter g).length < (l.filter f).length
  | [], hk => by cases hk
  | x :: l, hk => by
    rcases List.mem_cons.1 hk with rfl | hk
    · have := filt_le f g h l
      simp [List.filter_cons, hf, hg]
      omega
    · have := filt_lt f g h k hf hg l hk
      simp only [List.filter_cons]
      cases hg : g x with
      | true => simp [h x hg, this]
      | false => cases hf : f x <;> simp <;> omega
/-- b without k. -/
def butK (b k : Nat) : Nat := b ^^^ 2 ^ k
theorem butK_bit {b k : Nat} (h : b.testBit k = true) (j : Nat) : (butK b k).testBit j = (b.testBit j && decide (j ≠ k)) := by
  rw [butK, Nat.testBit_xor, Nat.testBit_two_pow]
  by_cases e : k = j
  · subst e; simp [h]
  · simp [e, Ne.symm e]
theorem butK_pop {b k : Nat} (h : b.testBit k = true) (hk : k < 12) : pop (butK b k) < pop b := by
  refine filt_lt _ _ (fun x hx => ?_) k h ?_ _ (List.mem_range.2 hk)
  · rw [butK_bit h] at hx
    simp at hx
    exact hx.1
  · rw [butK_bit h]
    simp
theorem butK_lt {b k m : Nat} (hb : b < 2 ^ m) (hk : k < m) : butK b k < 2 ^ m := Nat.xor_lt_two_pow hb (Nat.pow_lt_pow_right (by decide) hk)
/-- A set of Cons, and the Cons of it. -/
theorem solv_sub (p : Pz) (b : Nat) (k : Int) (b' : Nat) (hb' : b' < 4096) (hb : b < 4096) (hbit : ∀ j, b'.testBit j = (b.testBit j && decide ((j : Int) ≠ k))) (s : Int) : ∀ (l : List Cn) (i : Nat), i + l.length ≤ 64 →
    solvF p b' s l i = (subL b k l i).all (holds p s)
  | [], i, _ => rfl
  | c :: l, i, hi => by
    simp only [List.length_cons] at hi
    have ih := solv_sub p b k b' hb' hb hbit s l (i + 1) (by omega)
    rw [solvF, subL, bitI_nat b' i hb' (by omega), bitI_nat b i hb (by omega), hbit i, ih]
    cases b.testBit i && decide ((i : Int) ≠ k) <;> cases hh : holds p s c <;> simp [hh]
theorem solv_full (q : Pz) (n : Nat) (hn : n ≤ 12) (s : Int) : ∀ (l : List Cn) (i : Nat), i + l.length ≤ n → solvF q ((2 ^ n - 1 : Nat) : Int) s l i = l.all (holds q s)
  | [], i, _ => rfl
  | c :: l, i, hi => by
    simp only [List.length_cons] at hi
    have hp : 2 ^ n ≤ 2 ^ 12 := Nat.pow_le_pow_right (by decide) hn
    have ih := solv_full q n hn s l (i + 1) (by omega)
    rw [solvF, bitI_nat _ i (by omega) (by omega), Nat.testBit_two_pow_sub_one, ih]
    have : i < n := by omega
    cases hh : holds q s c <;> simp [hh, this]
theorem mask_nat {n : Nat} (hn : n ≤ 12) : maskI n = ((2 ^ n - 1 : Nat) : Int) := by
  have hp : 2 ^ n ≤ 2 ^ 12 := Nat.pow_le_pow_right (by decide) hn
  have h0 : 0 < 2 ^ n := Nat.pow_pos (by decide)
  rw [maskI, shl1 n (by omega), wr (by omega) (by omega)]
  omega
theorem allS_full {q : Pz} (hq : q.cons.length ≤ 12) : allS q = ((List.range (2 ^ q.vars.toNat)).map Int.ofNat).filter fun s => q.cons.all (holds q s) := by
  rw [allS, mask_nat hq, solsF]
  refine List.filter_congr fun s _ => ?_
  exact solv_full q q.cons.length hq s q.cons 0 (by omega)
theorem sub_good {p : Pz} (h : goodP p = true) (b : Nat) (k : Int) : goodP (subP p b k) = true := by
  have hmem : ∀ (l : List Cn) (i : Nat), ∀ c ∈ subL b k l i, c ∈ l := by
    intro l
    induction l with
    | nil => intro i c hc; exact hc
    | cons x l ih =>
      intro i c hc
      rw [subL] at hc
      split at hc
      · rcases List.mem_cons.1 hc with rfl | hc
        · simp
        · exact List.mem_cons_of_mem _ (ih _ c hc)
      · exact List.mem_cons_of_mem _ (ih _ c hc)
  have hl := subL_len b k p.cons 0
  simp only [goodP, Bool.and_eq_true, decide_eq_true_eq] at h ⊢
  obtain ⟨⟨⟨⟨⟨g1, g2⟩, g3⟩, g4⟩, g5⟩, g6⟩ := h
  refine ⟨⟨⟨⟨⟨g1, g2⟩, g3⟩, by simp only [subP]; omega⟩, g5⟩, ?_⟩
  rw [List.all_eq_true] at g6 ⊢
  exact fun c hc => g6 c (hmem _ _ c hc)
theorem sub_solve {p : Pz} (h : goodP p = true) (b : Nat) (hb : b < 4096) (k : Int) (b' : Nat) (hb' : b' < 4096) (hbit : ∀ j, b'.testBit j = (b.testBit j && decide ((j : Int) ≠ k))) :
    (dead p b' = true → solveF (subP p b k) = .tup [eI 0, eI 4]) ∧ (dead p b' = false → ∃ s, solveF (subP p b k) = .tup [eI s, eI 0]) := by
  have g4 : p.cons.length ≤ 12 := by
    simp only [goodP, Bool.and_eq_true, decide_eq_true_eq] at h
    exact h.1.1.2
  have hl := subL_len b k p.cons 0
  have e : allS (subP p b k) = solsF p b' (2 ^ p.vars.toNat) := by
    rw [allS_full (by simp only [subP]; omega), solsF]
    refine List.filter_congr fun s _ => ?_
    rw [solv_sub p b k b' hb' hb hbit s p.cons 0 (by omega)]
    rfl
  rw [solveF, sub_good h, if_pos rfl, e, dead]
  cases solsF p b' (2 ^ p.vars.toNat) with
  | nil => exact ⟨fun _ => rfl, fun h => by cases h⟩
  | cons s l => exact ⟨fun h => (by cases h), fun _ => ⟨s, rfl⟩⟩
theorem subL_full (b : Nat) (k : Int) (hb : b < 4096) : ∀ (l : List Cn) (i : Nat), i + l.length ≤ 64 → (∀ j, i ≤ j → j < i + l.length → (b.testBit j && decide ((j : Int) ≠ k)) = true) → subL b k l i = l
  | [], _, _, _ => rfl
  | c :: l, i, hi, h => by
    simp only [List.length_cons] at hi h
    rw [subL, bitI_nat b i hb (by omega), h i (by omega) (by omega), if_pos rfl, subL_full b k hb l (i + 1) (by omega) fun j h1 h2 => h j (by omega) (by omega)]
theorem whole_solve {p : Pz} (h : goodP p = true) : (dead p (2 ^ p.cons.length - 1) = true → solveF p = .tup [eI 0, eI 4]) ∧ (dead p (2 ^ p.cons.length - 1) = false → ∃ s, solveF p = .tup [eI s, eI 0]) := by
  have g4 : p.cons.length ≤ 12 := by
    simp only [goodP, Bool.and_eq_true, decide_eq_true_eq] at h
    exact h.1.1.2
  rw [solveF, h, if_pos rfl, allS, mask_nat g4, dead]
  cases solsF p ((2 ^ p.cons.length - 1 : Nat) : Int) (2 ^ p.vars.toNat) with
  | nil => exact ⟨fun _ => rfl, fun h => by cases h⟩
  | cons s l => exact ⟨fun h => (by cases h), fun _ => ⟨s, rfl⟩⟩
theorem dead_mono {p : Pz} (hm : p.cons.length ≤ 12) {b : Nat} (hb : b < 2 ^ p.cons.length) (hd : dead p b = true) : dead p (2 ^ p.cons.length - 1) = true := by
  have hp : 2 ^ p.cons.length ≤ 2 ^ 12 := Nat.pow_le_pow_right (by decide) hm
  cases h : dead p (2 ^ p.cons.length - 1) with
  | true => rfl
  | false =>
    exfalso
    have h1 := dead_any p (2 ^ p.cons.length - 1)
    rw [h] at h1
    obtain ⟨s, hs, hv⟩ := List.any_eq_true.1 h1.symm
    have h2 := dead_any p b
    rw [hd] at h2
    have h3 := List.any_eq_false.1 h2.symm s hs
    rw [solv_full p p.cons.length hm s p.cons 0 (by omega)] at hv
    have h4 := solv_sub p b (-1) b (by omega) (by omega) (fun j => by
      have : (j : Int) ≠ -1 := by omega
      simp [this]) s p.cons 0 (by omega)
    apply h3
    rw [h4, List.all_eq_true]
    rw [List.all_eq_true] at hv
    have hmem : ∀ (l : List Cn) (i : Nat), ∀ c ∈ subL b (-1) l i, c ∈ l := by
      intro l
      induction l with
      | nil => intro i c hc; exact hc
      | cons x l ih =>
        intro i c hc
        rw [subL] at hc
        split at hc
        · rcases List.mem_cons.1 hc with rfl | hc
          · simp
          · exact List.mem_cons_of_mem _ (ih _ c hc)
        · exact List.mem_cons_of_mem _ (ih _ c hc)
    exact fun c hc => hv c (hmem _ _ c hc)
theorem blamed_true (p : Pz) : PCall Try.prog 4 [ePz p] (pB true) [] := by
  refine blamed_spec p (good_trim p) (fun h hn => ?_) (fun h b hb => ?_)
  · rcases blame_min h with ⟨_, h1⟩ | ⟨b, hb, _⟩
    · exact (whole_solve h).2 (h1 _ (by have : 0 < 2 ^ p.cons.length := Nat.pow_pos (by decide)
                                        omega))
    · rw [hb] at hn
      cases hn
  · have g4 : p.cons.length ≤ 12 := by
      simp only [goodP, Bool.and_eq_true, decide_eq_true_eq] at h
      exact h.1.1.2
    have hp : 2 ^ p.cons.length ≤ 2 ^ 12 := Nat.pow_le_pow_right (by decide) g4
    rcases blame_min h with ⟨h0, _⟩ | ⟨b', hb', h1, h2, h3, h4⟩
    · rw [h0] at hb
      cases hb
    rw [hb'] at hb
    cases hb
    refine ⟨(whole_solve h).1 (dead_mono g4 h1 h3), by omega, h1, ⟨0, (sub_solve h b (by omega) (-1) b (by omega) fun j => ?_).1 h3⟩, fun k hk hbk => ?_⟩
    · have : (j : Int) ≠ -1 := by omega
      simp [this]
    · rw [bitI_nat b k (by omega) (by omega)] at hbk
      have hlt := butK_lt h1 hk
      have hpop := butK_pop hbk (by omega)
      refine (sub_solve h b (by omega) k (butK b k) (by omega) fun j => ?_).2 ?_
      · rw [butK_bit hbk]
        congr 1
        exact decide_eq_decide.2 (by omega)
      · cases hd : dead p (butK b k) with
        | false => rfl
        | true => have := h4 _ hlt hd; omega
end Go.Proofs.Ytmneioafbkknhaa
