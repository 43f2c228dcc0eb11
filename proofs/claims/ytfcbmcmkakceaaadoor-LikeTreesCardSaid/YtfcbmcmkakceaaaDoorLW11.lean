import Derived.Test.YtfcbmcmkakceaaaDoorLW10
/- LW11: sorting by insertion, step by step. No program in sight. -/
set_option linter.unusedVariables false
set_option linter.unusedSimpArgs false
namespace Go.Proofs.YtfcbmcmkakceaaaDoor
/-- Not behind. -/
def leK (x y : List Nat) : Prop := ¬ cmpN y x < 0
theorem leK_trans {x y z : List Nat} (h1 : leK x y) (h2 : leK y z) : leK x z := by
  unfold leK at *
  intro h
  -- z < x
  rcases cmpN_cases y x with e | e | e
  · rw [e] at h1; exact h1 (by decide)
  · rw [cmpN_eq e] at h2; exact h2 h
  · have hxy : cmpN x y < 0 := by rw [cmpN_anti, e]; decide
    exact h2 (cmpN_trans h hxy)
theorem leK_of_lt {x y : List Nat} (h : cmpN x y < 0) : leK x y := by
  unfold leK
  rw [cmpN_anti]
  omega
def gK (l : List (List Nat)) (i : Nat) : List Nat := l.getD i []
/-- The first are sorted; but the one at j need not be behind those ahead of it. -/
def InsJ (zs : List (List Nat)) (i j : Nat) : Prop := ∀ p q, p < q → q ≤ i → q ≠ j → leK (gK zs p) (gK zs q)
def SrtTo (zs : List (List Nat)) (i : Nat) : Prop := ∀ p q, p < q → q < i → leK (gK zs p) (gK zs q)
def swp (zs : List (List Nat)) (j : Nat) : List (List Nat) := (zs.set j (gK zs (j - 1))).set (j - 1) (gK zs j)
theorem gK_set {l : List (List Nat)} {i : Nat} (hi : i < l.length) (x : List Nat) (p : Nat) : gK (l.set i x) p = if p = i then x else gK l p := by
  unfold gK
  simp only [List.getD_eq_getElem?_getD, List.getElem?_set]
  by_cases h : i = p
  · subst h; simp [hi]
  · rw [if_neg h, if_neg (Ne.symm h)]
theorem gK_swp {zs : List (List Nat)} {j : Nat} (hj : j < zs.length) (h0 : 0 < j) (p : Nat) : gK (swp zs j) p = if p = j - 1 then gK zs j else if p = j then gK zs (j - 1) else gK zs p := by
  unfold swp
  rw [gK_set (by simp; omega), gK_set hj]
theorem swp_len (zs : List (List Nat)) (j : Nat) : (swp zs j).length = zs.length := by simp [swp]
theorem ins_start {zs : List (List Nat)} {i : Nat} (h : SrtTo zs i) : InsJ zs i i := fun p q hpq hq hne => h p q hpq (by omega)
theorem ins_step {zs : List (List Nat)} {i j : Nat} (hi : i < zs.length) (h0 : 0 < j) (hj : j ≤ i) (h : InsJ zs i j) (hlt : cmpN (gK zs j) (gK zs (j - 1)) < 0) : InsJ (swp zs j) i (j - 1) := by
  intro p q hpq hq hne
  rw [gK_swp (by omega) h0, gK_swp (by omega) h0]
  rw [if_neg hne]
  by_cases e1 : q = j
  · subst e1
    rw [if_pos rfl]
    by_cases e2 : p = q - 1
    · rw [if_pos e2]
      exact leK_of_lt hlt
    · rw [if_neg e2, if_neg (by omega)]
      exact h p (q - 1) (by omega) (by omega) (by omega)
  · rw [if_neg e1]
    by_cases e2 : p = j - 1
    · rw [if_pos e2]
      exact h j q (by omega) hq e1
    · rw [if_neg e2]
      by_cases e3 : p = j
      · rw [if_pos e3]
        exact h (j - 1) q (by omega) hq e1
      · rw [if_neg e3]
        exact h p q hpq hq e1
theorem ins_end {zs : List (List Nat)} {i j : Nat} (hj : j ≤ i) (h : InsJ zs i j) (hc : j = 0 ∨ ¬ cmpN (gK zs j) (gK zs (j - 1)) < 0) : SrtTo zs (i + 1) := by
  intro p q hpq hq
  by_cases e : q = j
  · subst e
    rcases hc with hc | hc
    · omega
    · by_cases e2 : p = q - 1
      · subst e2; exact hc
      · exact leK_trans (h p (q - 1) (by omega) (by omega) (by omega)) hc
  · exact h p q hpq (by omega) e
theorem swp_perm {zs : List (List Nat)} {j : Nat} (hj : j < zs.length) (h0 : 0 < j) : (swp zs j).Perm zs := by
  have e : zs = zs.take (j - 1) ++ gK zs (j - 1) :: gK zs j :: zs.drop (j + 1) := by
    have h1 : gK zs (j - 1) = zs[j - 1] := by
      have : j - 1 < zs.length := by omega
      simp [gK, List.getD_eq_getElem?_getD, this]
    have h2 : gK zs j = zs[j] := by simp [gK, List.getD_eq_getElem?_getD, hj]
    rw [h1, h2, ← List.drop_eq_getElem_cons hj]
    have h3 : zs.drop j = zs.drop (j - 1 + 1) := by congr 1; omega
    rw [h3, ← List.drop_eq_getElem_cons (show j - 1 < zs.length by omega), List.take_append_drop]
  have e2 : swp zs j = zs.take (j - 1) ++ gK zs j :: gK zs (j - 1) :: zs.drop (j + 1) := by
    apply List.ext_getElem?
    intro p
    by_cases hp : p < zs.length
    · have h1 : (swp zs j)[p]? = some (gK (swp zs j) p) := by
        have : p < (swp zs j).length := by rw [swp_len]; exact hp
        simp [gK, List.getD_eq_getElem?_getD, this]
      rw [h1, gK_swp hj h0]
      have htl : (zs.take (j - 1)).length = j - 1 := by simp; omega
      by_cases c1 : p < j - 1
      · rw [List.getElem?_append_left (by omega), if_neg (by omega), if_neg (by omega), List.getElem?_take_of_lt c1]
        simp [gK, List.getD_eq_getElem?_getD, hp]
      · rw [List.getElem?_append_right (by omega), htl]
        by_cases c2 : p = j - 1
        · subst c2; simp
        · by_cases c3 : p = j
          · subst c3
            rw [if_neg (by omega), if_pos rfl, show p - (p - 1) = 1 by omega]
            simp
          · rw [if_neg (by omega), if_neg c3, show p - (j - 1) = (p - (j + 1)) + 1 + 1 by omega]
            simp only [List.getElem?_cons_succ, List.getElem?_drop]
            rw [show j + 1 + (p - (j + 1)) = p by omega]
            simp [gK, List.getD_eq_getElem?_getD, hp]
    · rw [List.getElem?_eq_none (by rw [swp_len]; omega), List.getElem?_eq_none (by simp; omega)]
  rw [e2]
  conv => rhs; rw [e]
  exact (List.Perm.swap _ _ _).append_left _
theorem srt_pairwise {zs : List (List Nat)} (h : SrtTo zs zs.length) : zs.Pairwise leK := by
  rw [List.pairwise_iff_getElem]
  intro i j hi hj hij
  have := h i j hij hj
  simpa [gK, List.getD_eq_getElem?_getD, hi, hj] using this
/-- Neighbours that are equal: one of them. -/
def cgoK (p : List Nat) : List (List Nat) → List (List Nat)
  | [] => []
  | y :: l => if y = p then cgoK y l else y :: cgoK y l
def cmpK : List (List Nat) → List (List Nat)
  | [] => []
  | x :: l => x :: cgoK x l
theorem cgoK_ris : ∀ (l : List (List Nat)) (p : List Nat), (p :: l).Pairwise leK → Ris (p :: cgoK p l) ∧ ∀ x, x ∈ p :: cgoK p l ↔ x ∈ p :: l
  | [], p, _ => ⟨by simp [Ris, cgoK], fun x => by simp [cgoK]⟩
  | y :: l, p, h => by
    have h1 := List.pairwise_cons.1 h
    obtain ⟨i1, i2⟩ := cgoK_ris l y h1.2
    rw [cgoK]
    split
    · rename_i e
      subst e
      refine ⟨i1, fun x => ?_⟩
      rw [i2 x]
      simp
    · rename_i hne
      have hlt : ∀ z ∈ y :: cgoK y l, cmpN p z < 0 := fun z hz => by
        have hpy : cmpN p y < 0 := by
          have := h1.1 y (by simp)
          unfold leK at this
          rcases cmpN_cases y p with e | e | e
          · rw [e] at this; exact absurd (by decide) this
          · exact absurd (cmpN_eq e) hne
          · rw [cmpN_anti, e]; decide
        rcases List.mem_cons.1 hz with rfl | hz
        · exact hpy
        · exact cmpN_trans hpy ((List.pairwise_cons.1 i1).1 z hz)
      refine ⟨List.pairwise_cons.2 ⟨hlt, i1⟩, fun x => ?_⟩
      have h3 := i2 x
      rw [List.mem_cons (a := x) (b := p), h3, List.mem_cons (a := x) (b := p)]
/-- A sorted list without repetitions is that of the different ones. -/
theorem cmpK_kinds {L ys : List (List Nat)} (hp : L.Perm ys) (hs : ys.Pairwise leK) : cmpK ys = kindsL L := by
  refine ris_unique ?_ (kinds_ris L) fun x => ?_
  · cases ys with
    | nil => exact List.Pairwise.nil
    | cons y l => exact (cgoK_ris l y hs).1
  · rw [kinds_mem, hp.mem_iff]
    cases ys with
    | nil => simp [cmpK]
    | cons y l => exact (cgoK_ris l y hs).2 x
end Go.Proofs.YtfcbmcmkakceaaaDoor
