import Derived.Test.YtmneioafbkknhaaPB13
/- PB14: the plain law of Blame. -/
set_option linter.unusedVariables false
set_option linter.unusedSimpArgs false
set_option maxRecDepth 20000
namespace Go.Proofs.Ytmneioafbkknhaa
open Go Go.PS
theorem goodR_rise {r : Rl} (h : goodR r = true) : ∀ j, j < r.rows.length → (j : Int) ≤ r.rows.getD j 0 := by
  simp only [goodR, Bool.and_eq_true, decide_eq_true_eq, List.all_eq_true, List.mem_range] at h
  obtain ⟨_, h⟩ := h
  intro j
  induction j with
  | zero =>
    intro hj
    have := h 0 hj
    simp only [goodAt, Bool.and_eq_true, decide_eq_true_eq] at this
    exact this.1.1
  | succ j ih =>
    intro hj
    have h1 := ih (by omega)
    have h2 := h (j + 1) hj
    simp only [goodAt, Bool.and_eq_true, Bool.or_eq_true, decide_eq_true_eq, Nat.add_sub_cancel] at h2
    omega
theorem goodR_len {r : Rl} (h : goodR r = true) : r.rows.length ≤ 8 := by
  rcases Nat.lt_or_ge 8 r.rows.length with hl | hl
  · have h1 := goodR_rise h 8 hl
    simp only [goodR, Bool.and_eq_true, decide_eq_true_eq, List.all_eq_true, List.mem_range] at h
    have h2 := h.2 8 hl
    simp only [goodAt, Bool.and_eq_true, decide_eq_true_eq] at h2
    have h3 := shl1 r.n.toNat (by omega)
    have h4 : 2 ^ r.n.toNat ≤ 2 ^ 3 := Nat.pow_le_pow_right (by decide) (by omega)
    rw [h3] at h2
    generalize 2 ^ r.n.toNat = N at h2 h4
    omega
  · exact hl
theorem trimR_len {r : Rl} (h : goodR (trimR r) = true) : trimR r = r := by
  have := goodR_len h
  cases r with
  | mk n rows =>
    simp only [trimR, List.length_take] at this ⊢
    rw [List.take_of_length_le (by omega)]
theorem trimR_of {r : Rl} (h : goodR r = true) : trimR r = r := by
  have := goodR_len h
  cases r with
  | mk n rows =>
    simp only [trimR] at this ⊢
    rw [List.take_of_length_le (by omega)]
theorem map_id_of {α : Type} {f : α → α} {l : List α} (h : ∀ x ∈ l, f x = x) : l.map f = l := by
  induction l with
  | nil => rfl
  | cons x l ih => rw [List.map_cons, h x (by simp), ih fun y hy => h y (by simp [hy])]
theorem relOf_n {p : Pz} (hr : p.rels.all goodR = true) {c : Cn} (h : c.rel.toNat < p.rels.length) : (relOf p c).n ≤ 3 := by
  have h1 := List.all_eq_true.1 hr _ (List.getElem_mem h)
  have h2 : relOf p c = p.rels[c.rel.toNat] := by simp [relOf, h]
  simp only [goodR, Bool.and_eq_true, decide_eq_true_eq] at h1
  rw [h2]
  exact h1.1.1.2
theorem goodC_len {p : Pz} (hr : p.rels.all goodR = true) {c : Cn} (h : goodC p c = true) : c.vars.length ≤ 3 := by
  simp only [goodC, Bool.and_eq_true, decide_eq_true_eq] at h
  have := relOf_n hr (c := c) (by omega)
  omega
theorem trim_of {p : Pz} (h : goodP p = true) : trimP p = p := by
  simp only [goodP, Bool.and_eq_true, decide_eq_true_eq] at h
  obtain ⟨⟨⟨⟨⟨g1, g2⟩, g3⟩, g4⟩, g5⟩, g6⟩ := h
  have e1 : cutR p.rels p.rels.length = p.rels := by
    rw [cutR, List.take_of_length_le (by omega)]
    exact map_id_of fun r hr => trimR_of (List.all_eq_true.1 g5 r hr)
  have e2 : cutC p.cons p.cons.length = p.cons := by
    rw [cutC, List.take_of_length_le (by omega)]
    refine map_id_of fun c hc => ?_
    have := goodC_len g5 (List.all_eq_true.1 g6 c hc)
    cases c with
    | mk rel vars =>
      simp only [trimC] at this ⊢
      rw [List.take_of_length_le (by omega)]
  rw [trimP, e1, e2]
theorem trim_of' {p : Pz} (h : goodP (trimP p) = true) : trimP p = p := by
  simp only [goodP, Bool.and_eq_true, decide_eq_true_eq] at h
  obtain ⟨⟨⟨⟨⟨g1, g2⟩, g3⟩, g4⟩, g5⟩, g6⟩ := h
  have l1 : p.rels.length ≤ 5 := by
    simp only [trimP, cutR, List.length_map, List.length_take] at g3
    omega
  have l2 : p.cons.length ≤ 12 := by
    simp only [trimP, cutC, List.length_map, List.length_take] at g4
    omega
  have c1 : (trimP p).rels = p.rels.map trimR := by
    simp only [trimP, cutR]
    rw [List.take_of_length_le (by omega)]
  have c2 : (trimP p).cons = p.cons.map trimC := by
    simp only [trimP, cutC]
    rw [List.take_of_length_le (by omega)]
  have e1 : (trimP p).rels = p.rels := by
    rw [c1]
    refine map_id_of fun r hr => trimR_len (List.all_eq_true.1 g5 _ ?_)
    rw [c1]
    exact List.mem_map_of_mem hr
  have e2 : (trimP p).cons = p.cons := by
    rw [c2]
    refine map_id_of fun c hc => ?_
    have := goodC_len g5 (List.all_eq_true.1 g6 (trimC c) (by rw [c2]; exact List.mem_map_of_mem hc))
    cases c with
    | mk rel vars =>
      simp only [trimC, List.length_take] at this ⊢
      rw [List.take_of_length_le (by omega)]
  cases p with
  | mk v r c =>
    simp only at e1 e2
    show Pz.mk v (trimP ⟨v, r, c⟩).rels (trimP ⟨v, r, c⟩).cons = _
    rw [e1, e2]
theorem good_trim (p : Pz) : goodP p = goodP (trimP p) := by
  cases h : goodP p with
  | true => rw [trim_of h, h]
  | false =>
    cases h' : goodP (trimP p) with
    | false => rfl
    | true => rw [trim_of' h', h] at h'; cases h'

theorem pop_m : (List.range 13).all (fun m => (List.range (2 ^ m)).all fun j => decide (pop j ≤ m) && (j == 0 || decide (1 ≤ pop j))) = true := by kernel_rfl
theorem pop_bd {m j : Nat} (hm : m ≤ 12) (hj : j < 2 ^ m) : pop j ≤ m ∧ (j = 0 ∨ 1 ≤ pop j) := by
  have := List.all_eq_true.1 (List.all_eq_true.1 pop_m m (List.mem_range.2 (by omega))) j (List.mem_range.2 hj)
  simpa using this
theorem bit_zero (i : Nat) : bitI 0 i = false := by
  have e : shrI 0 i = 0 := by simp only [shrI, Int.zero_fdiv]
  rw [bitI, e]
  decide
theorem solv_zero (p : Pz) (s : Int) : ∀ (l : List Cn) (i : Nat), solvF p 0 s l i = true
  | [], _ => rfl
  | c :: l, i => by rw [solvF, bit_zero]; simpa using solv_zero p s l (i + 1)
theorem dead_zero (p : Pz) : dead p 0 = false := by
  have := dead_any p 0
  have h : (List.range (2 ^ p.vars.toNat)).any (fun s => solvF p ((0 : Nat) : Int) s p.cons 0) = true := by
    rw [List.any_eq_true]
    exact ⟨0, List.mem_range.2 (Nat.pow_pos (by decide)), solv_zero p _ _ _⟩
  rw [h] at this
  simpa using this
theorem rfold_inv (p : Pz) : ∀ n, (rfold p n = (0, 99) ∧ ∀ j < n, dead p j = false) ∨
    ((rfold p n).1 < n ∧ dead p (rfold p n).1 = true ∧ (rfold p n).2 = pop (rfold p n).1 ∧ ∀ j < n, dead p j = true → pop (rfold p n).1 ≤ pop j ∧ (pop j = pop (rfold p n).1 → (rfold p n).1 ≤ j))
  | 0 => .inl ⟨rfl, fun j hj => by omega⟩
  | n + 1 => by
    rw [rfold_succ]
    have hle := pop_le n
    rcases rfold_inv p n with ⟨h1, h2⟩ | ⟨h1, h2, h3, h4⟩
    · rw [h1, rstep]
      cases hd : dead p n with
      | false =>
        refine .inl ⟨by simp, fun j hj => ?_⟩
        rcases Nat.lt_succ_iff_lt_or_eq.1 hj with h | rfl
        · exact h2 j h
        · exact hd
      | true =>
        have : ¬ 99 ≤ pop n := by omega
        simp only [this, decide_false, Bool.not_true, Bool.or_self, Bool.false_eq_true, if_false]
        refine .inr ⟨by omega, hd, trivial, fun j hj hdj => ?_⟩
        rcases Nat.lt_succ_iff_lt_or_eq.1 hj with h | rfl
        · rw [h2 j h] at hdj; cases hdj
        · exact ⟨Nat.le_refl _, fun _ => Nat.le_refl _⟩
    · generalize rfold p n = q at h1 h2 h3 h4
      obtain ⟨b, f⟩ := q
      simp only at h1 h2 h3 h4
      subst h3
      rw [rstep]
      simp only
      cases hd : dead p n with
      | false =>
        simp only [Bool.not_false, Bool.or_true, if_true]
        refine .inr ⟨by omega, h2, trivial, fun j hj hdj => ?_⟩
        rcases Nat.lt_succ_iff_lt_or_eq.1 hj with h | rfl
        · exact h4 j h hdj
        · rw [hd] at hdj; cases hdj
      | true =>
        by_cases hle2 : pop b ≤ pop n
        · simp only [hle2, decide_true, Bool.true_or, if_true]
          refine .inr ⟨by omega, h2, trivial, fun j hj hdj => ?_⟩
          rcases Nat.lt_succ_iff_lt_or_eq.1 hj with h | rfl
          · exact h4 j h hdj
          · exact ⟨hle2, fun _ => by omega⟩
        · simp only [hle2, decide_false, Bool.not_true, Bool.or_self, Bool.false_eq_true, if_false]
          refine .inr ⟨by omega, hd, trivial, fun j hj hdj => ?_⟩
          rcases Nat.lt_succ_iff_lt_or_eq.1 hj with h | rfl
          · have := h4 j h hdj
            exact ⟨by omega, by omega⟩
          · exact ⟨Nat.le_refl _, fun _ => Nat.le_refl _⟩
theorem blameS_none (p : Pz) : ∀ (l : List Nat), (∀ j < 2 ^ p.cons.length, dead p j = false) → blameS p l = none
  | [], _ => rfl
  | k :: l, h => by
    rw [blameS, findF_none (fun j hj => by simp [hit, h j hj])]
    exact blameS_none p l h
theorem blameS_some (p : Pz) (b : Nat) (hb : b < 2 ^ p.cons.length) (hd : dead p b = true) (hmin : ∀ j < 2 ^ p.cons.length, dead p j = true → pop b ≤ pop j ∧ (pop j = pop b → b ≤ j)) :
    ∀ (r k : Nat), k ≤ pop b → pop b < k + r → blameS p (List.range' k r) = some b
  | 0, k, h1, h2 => by omega
  | r + 1, k, h1, h2 => by
    rw [List.range'_succ, blameS]
    by_cases e : k = pop b
    · have hh : hit p k b = true := by simp [hit, hd, e]
      rw [findF_some hb hh (fun j hj => by
        cases hdj : dead p j with
        | false => simp [hit, hdj]
        | true =>
          have := hmin j (by omega) hdj
          have hne : pop j ≠ k := fun e' => by
            have := this.2 (by omega)
            omega
          simp [hit, hne])]
    · rw [findF_none (fun j hj => by
        cases hdj : dead p j with
        | false => simp [hit, hdj]
        | true =>
          have := hmin j hj hdj
          have hne : pop j ≠ k := by omega
          simp [hit, hne])]
      exact blameS_some p b hb hd hmin r (k + 1) (by omega) (by omega)
theorem blame_law (p : Pz) (h : goodP p = true) : blameF p = rblameF p := by
  have g4 : p.cons.length ≤ 12 := by
    simp only [goodP, Bool.and_eq_true, decide_eq_true_eq] at h
    exact h.1.1.2
  rw [blameF, if_pos h, blameO, rblameF]
  rcases rfold_inv p (2 ^ p.cons.length) with ⟨h1, h2⟩ | ⟨h1, h2, h3, h4⟩
  · rw [blameS_none p _ h2, h1]
    rfl
  · have hp := pop_bd g4 h1
    have h0 : (rfold p (2 ^ p.cons.length)).1 ≠ 0 := fun e => by
      rw [e, dead_zero] at h2
      cases h2
    rw [blameS_some p _ h1 h2 h4 p.cons.length 1 (by omega) (by omega), h3, if_neg (by omega)]
    rfl
theorem blames_true (p : Pz) : PCall Try.prog 3 [ePz p] (pB true) [] :=
  blames_spec p (good_trim p) fun h => by rw [trim_of h]; exact blame_law p h
end Go.Proofs.Ytmneioafbkknhaa
