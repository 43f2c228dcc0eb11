import Derived.Test.YtgcncgocdfioiaaDoorCB5
/- CB6: steps of the sweeps. -/
set_option linter.unusedVariables false
set_option linter.unusedSimpArgs false
set_option maxRecDepth 20000
namespace Go.Proofs.YtgcncgocdfioiaaDoor
open Go Go.PS
theorem pair_spec (c : TL) (a b : Nat) : PCall Tryd.prog 86 [c, eI a, eI b] (.t .fz (.agg [eI (min a b : Nat), eI (max a b : Nat)])) [] := by
  refine pcall_wp _ Tryd.func86 rfl (by kernel_rfl) rfl ?_
  have h1 : (if (b : Int) < a then (b : Int) else a) = ((min a b : Nat) : Int) := by split <;> omega
  have h2 : (if (a : Int) < b then (b : Int) else a) = ((max a b : Nat) : Int) := by split <;> omega
  have h1' : (if b < a then (b : Int) else a) = ((min a b : Nat) : Int) := by split <;> omega
  have h2' : (if a < b then (b : Int) else a) = ((max a b : Nat) : Int) := by split <;> omega
  simp -dsimp [h1, h2]
  refine retP_c ?_
  simp -dsimp [h1', h2']
theorem caught_spec (p : Nat × Nat × Nat) : PCall Tryd.prog 70 [.agg [eI p.1, eI p.2.1, eI p.2.2]] (pB (decide (p.2.2 = p.1 ∨ p.2.2 = p.2.1))) [] := by
  refine pcall_wp _ Tryd.func70 rfl (by kernel_rfl) rfl ?_
  have h1 : ((p.2.2 : Int) == p.1) = decide (p.2.2 = p.1) := by rw [Bool.eq_iff_iff]; simp; omega
  have h2 : ((p.2.2 : Int) == p.2.1) = decide (p.2.2 = p.2.1) := by rw [Bool.eq_iff_iff]; simp; omega
  by_cases c1 : p.2.2 = p.1
  · rw [decide_eq_true c1] at h1
    simp -dsimp [h1]
    refine retP_c ?_
    simp -dsimp [h1, c1]
  · rw [decide_eq_false c1] at h1
    simp -dsimp [h1, h2]
    refine retP_c ?_
    simp -dsimp [h1, h2, c1]
/-- What the sweeps can reach, with repetitions. -/
def rawOf (two : Bool) (A B : List Nat) : List Pr := A.flatMap fun x => (B.filter fun y => two || x == y).map fun y => (min x y, max x y)
def rawTo (two : Bool) (A B : List Nat) (i j : Nat) : List Pr := ((A.take i).flatMap fun x => (B.filter fun y => two || x == y).map fun y => (min x y, max x y)) ++ ((B.take j).filter fun y => two || (A.getD i 0) == y).map fun y => (min (A.getD i 0) y, max (A.getD i 0) y)
theorem rawTo_succ (two : Bool) (A B : List Nat) (i j : Nat) (hj : j < B.length) : rawTo two A B i (j + 1) = rawTo two A B i j ++ if (two || A.getD i 0 == B.getD j 0) then [(min (A.getD i 0) (B.getD j 0), max (A.getD i 0) (B.getD j 0))] else [] := by
  have e : B.take (j + 1) = B.take j ++ [B.getD j 0] := by
    rw [List.take_add_one]
    simp [List.getD_eq_getElem?_getD, hj]
  simp only [rawTo, e, List.filter_append, List.map_append, List.append_assoc]
  congr 2
  generalize A.getD i 0 = x
  generalize B.getD j 0 = y
  cases h : (two || x == y) <;> simp only [List.filter_cons, List.filter_nil, h] <;> simp
theorem rawTo_row (two : Bool) (A B : List Nat) (i : Nat) (hi : i < A.length) : rawTo two A B (i + 1) 0 = rawTo two A B i B.length := by
  have e : A.take (i + 1) = A.take i ++ [A.getD i 0] := by
    rw [List.take_add_one]
    simp [List.getD_eq_getElem?_getD, hi]
  simp [rawTo, e]
theorem rawTo_len (two : Bool) (A B : List Nat) (i j : Nat) : (rawTo two A B i j).length ≤ A.length * B.length + B.length := by
  simp only [rawTo, List.length_append, List.length_map, List.length_flatMap]
  have h1 : ((B.take j).filter fun y => two || (A.getD i 0) == y).length ≤ B.length := Nat.le_trans (List.length_filter_le _ _) (by simp; omega)
  have h2 : ∀ L : List Nat, (L.map fun x => (B.filter fun y => two || x == y).length).sum ≤ L.length * B.length := fun L => by
    induction L with
    | nil => simp
    | cons x L ih =>
      have := List.length_filter_le (fun y => two || x == y) B
      simp only [List.map_cons, List.sum_cons, List.length_cons, Nat.add_mul, Nat.one_mul]
      omega
  have h3 := h2 (A.take i)
  have h4 : (A.take i).length * B.length ≤ A.length * B.length := Nat.mul_le_mul_right _ (by simp; omega)
  omega
theorem sorted_ext {l l' : List Pr} (h : l.Pairwise fun a b => ltP a b = true) (h' : l'.Pairwise fun a b => ltP a b = true) (hm : ∀ x, x ∈ l ↔ x ∈ l') : l = l' := by
  induction l generalizing l' with
  | nil =>
    cases l' with
    | nil => rfl
    | cons y l' => exact absurd ((hm y).2 (by simp)) (by simp)
  | cons x l ih =>
    cases l' with
    | nil => exact absurd ((hm x).1 (by simp)) (by simp)
    | cons y l' =>
      rw [List.pairwise_cons] at h h'
      have hirr : ∀ a : Pr, ltP a a = false := fun a => by simp [ltP]
      have has : ∀ a b : Pr, ltP a b = true → ltP b a = true → False := fun a b h1 h2 => by simp [ltP] at h1 h2; omega
      have hxy : x = y := by
        rcases List.mem_cons.1 ((hm x).1 (by simp)) with e | e
        · exact e
        · rcases List.mem_cons.1 ((hm y).2 (by simp)) with e' | e'
          · exact e'.symm
          · exact (has _ _ (h'.1 x e) (h.1 y e')).elim
      subst hxy
      congr 1
      refine ih h.2 h'.2 fun z => ?_
      constructor
      · intro hz
        rcases List.mem_cons.1 ((hm z).1 (by simp [hz])) with e | e
        · subst e
          have := h.1 z hz
          rw [hirr] at this
          cases this
        · exact e
      · intro hz
        rcases List.mem_cons.1 ((hm z).2 (by simp [hz])) with e | e
        · subst e
          have := h'.1 z hz
          rw [hirr] at this
          cases this
        · exact e
theorem cgo_sorted : ∀ (l : List Pr) (p : Pr), (∀ x ∈ l, ltP x p = false) → l.Pairwise (fun a b => ltP b a = false) → (∀ x ∈ cgo p l, ltP p x = true) ∧ (cgo p l).Pairwise (fun a b => ltP a b = true) ∧ ∀ x, x ∈ p :: cgo p l ↔ x ∈ p :: l
  | [], p, _, _ => ⟨by simp [cgo], by simp [cgo], by simp [cgo]⟩
  | y :: l, p, h1, h2 => by
    rw [List.pairwise_cons] at h2
    by_cases e : y = p
    · subst e
      obtain ⟨a, b, c⟩ := cgo_sorted l y h2.1 h2.2
      simp only [cgo, if_true]
      refine ⟨a, b, fun x => ?_⟩
      rw [c x]
      simp
    · obtain ⟨a, b, c⟩ := cgo_sorted l y h2.1 h2.2
      have hpy : ltP p y = true := by
        have := h1 y (by simp)
        simp [ltP] at this ⊢
        have : ¬ (y.1 = p.1 ∧ y.2 = p.2) := fun h => e (Prod.ext h.1 h.2)
        omega
      have tr : ∀ x, ltP y x = true → ltP p x = true := fun x hx => by simp [ltP] at hx hpy ⊢; omega
      simp only [cgo, if_neg e]
      refine ⟨fun x hx => ?_, List.pairwise_cons.2 ⟨a, b⟩, fun x => ?_⟩
      · rcases List.mem_cons.1 hx with rfl | hx
        · exact hpy
        · exact tr x (a x hx)
      · have := c x
        simp only [List.mem_cons] at this ⊢
        rw [this]
theorem cmpF_sorted {l : List Pr} (h : l.Pairwise (fun a b => ltP b a = false)) : (cmpF l).Pairwise (fun a b => ltP a b = true) ∧ ∀ x, x ∈ cmpF l ↔ x ∈ l := by
  cases l with
  | nil => simp [cmpF]
  | cons x l =>
    rw [List.pairwise_cons] at h
    obtain ⟨a, b, c⟩ := cgo_sorted l x h.1 h.2
    exact ⟨List.pairwise_cons.2 ⟨a, b⟩, c⟩
theorem prs_sorted (n : Nat) (f : Nat → Nat → Bool) : (prs n f).Pairwise (fun a b => ltP a b = true) := by
  unfold prs
  have hr : (List.range n).Pairwise (· < ·) := List.pairwise_lt_range
  generalize List.range n = R at hr
  have key : ∀ L : List Nat, L.Pairwise (· < ·) → (L.flatMap fun a => (R.filter (f a)).map fun b => (a, b)).Pairwise (fun a b => ltP a b = true) := fun L hL => by
    induction L with
    | nil => simp
    | cons a L ih =>
      rw [List.pairwise_cons] at hL
      simp only [List.flatMap_cons]
      rw [List.pairwise_append]
      refine ⟨?_, ih hL.2, ?_⟩
      · rw [List.pairwise_map]
        exact (hr.filter _).imp fun {x y} h => by simp [ltP, h]
      · intro p hp q hq
        simp only [List.mem_map, List.mem_flatMap] at hp hq
        obtain ⟨b, _, rfl⟩ := hp
        obtain ⟨a', ha', b', _, rfl⟩ := hq
        simp [ltP, hL.1 a' ha']
  exact key R hr
/-- Where a pair of sweeps can go. -/
def mvF (t : List Nat) (two : Bool) (a b : Nat) (x y : Nat) : Bool := decide (x ≤ y) && (((t.getD a 0).testBit x && (t.getD b 0).testBit y) || ((t.getD a 0).testBit y && (t.getD b 0).testBit x)) && (two || x == y)
def movesL (t : List Nat) (two : Bool) (a b : Nat) : List Pr := prs t.length (mvF t two a b)
theorem raw_moves {t : List Nat} (ht : Twn t) {two : Bool} {a b : Nat} (ha : a < t.length) (hb : b < t.length) (p : Pr) : p ∈ rawOf two (bitsL (t.getD a 0)) (bitsL (t.getD b 0)) ↔ p ∈ movesL t two a b := by
  have h1 := ht.lt _ (getD_mem ha)
  have h2 := ht.lt _ (getD_mem hb)
  have n1 := ht.2.2 _ (getD_mem ha)
  have n2 := ht.2.2 _ (getD_mem hb)
  rw [movesL, prs_mem]
  simp only [rawOf, List.mem_flatMap, List.mem_map, List.mem_filter, mvF, Bool.and_eq_true, Bool.or_eq_true, decide_eq_true_eq, beq_iff_eq]
  obtain ⟨x, y⟩ := p
  simp only [Prod.mk.injEq]
  constructor
  · rintro ⟨u, hu, v, ⟨hv, hw⟩, rfl, rfl⟩
    have hu' := (bits_mem h1).1 hu
    have hv' := (bits_mem h2).1 hv
    have lu := node_lt n1 hu
    have lv := node_lt n2 hv
    rcases Nat.le_total u v with h | h
    · rw [Nat.min_eq_left h, Nat.max_eq_right h]
      exact ⟨lu, lv, ⟨h, .inl ⟨hu', hv'⟩⟩, hw⟩
    · rw [Nat.min_eq_right h, Nat.max_eq_left h]
      exact ⟨lv, lu, ⟨h, .inr ⟨hu', hv'⟩⟩, hw.imp id Eq.symm⟩
  · rintro ⟨lx, ly, ⟨hxy, hm⟩, hw⟩
    rcases hm with ⟨q1, q2⟩ | ⟨q1, q2⟩
    · exact ⟨x, (bits_mem h1).2 q1, y, ⟨(bits_mem h2).2 q2, hw⟩, by omega, by omega⟩
    · exact ⟨y, (bits_mem h1).2 q1, x, ⟨(bits_mem h2).2 q2, hw.imp id Eq.symm⟩, by omega, by omega⟩
theorem moves_of {t : List Nat} (ht : Twn t) {two : Bool} {a b : Nat} (ha : a < t.length) (hb : b < t.length) {ys : List Pr} (hp : (rawOf two (bitsL (t.getD a 0)) (bitsL (t.getD b 0))).Perm ys) (hs : ys.Pairwise (fun a b => ltP b a = false)) : cmpF ys = movesL t two a b := by
  obtain ⟨h1, h2⟩ := cmpF_sorted hs
  refine sorted_ext h1 (prs_sorted _ _) fun x => ?_
  rw [h2 x, ← hp.mem_iff]
  exact raw_moves ht ha hb x
end Go.Proofs.YtgcncgocdfioiaaDoor
