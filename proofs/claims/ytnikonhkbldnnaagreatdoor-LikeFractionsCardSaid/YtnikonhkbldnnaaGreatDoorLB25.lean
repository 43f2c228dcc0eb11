import Derived.Test.YtnikonhkbldnnaaGreatDoorLB24
/- LB25: right, CheckFraction. -/
set_option linter.unusedVariables false
set_option linter.unusedSimpArgs false
set_option maxRecDepth 20000
namespace Go.Proofs.YtnikonhkbldnnaaGreatDoor
open Go Go.PS
attribute [-simp] isKeyK List.map_take
theorem valid_parts {n m : Nat} {X : List (List (Int × Int))} (h : validX n m X = true) : n = m ∧ X.length = n ∧ ∀ i, i < n → (X.getD i []).length = m ∧ ∀ j, j < m → ((X.getD i []).getD j (0, 0)).1 = ((elM X i j).1 : Int) ∧ ((X.getD i []).getD j (0, 0)).2 = ((elM X i j).2 : Int) := by
  unfold validX at h
  simp only [Bool.and_eq_true, beq_iff_eq, List.all_eq_true] at h
  obtain ⟨h1, h2, h3⟩ := h
  refine ⟨h1, h2, fun i hi => ?_⟩
  have hi' : i < X.length := by omega
  have e : X.getD i [] = X[i] := by simp [List.getD_eq_getElem?_getD, hi']
  obtain ⟨h4, h5⟩ := h3 X[i] (List.getElem_mem hi')
  refine ⟨by rw [e]; exact h4, fun j hj => ?_⟩
  have hj' : j < X[i].length := by omega
  have e2 : X[i].getD j (0, 0) = X[i][j] := by simp [List.getD_eq_getElem?_getD, hj']
  have h6 := h5 X[i][j] (List.getElem_mem hj')
  unfold okI at h6
  simp only [Bool.and_eq_true, decide_eq_true_eq, beq_iff_eq] at h6
  unfold elM frN
  rw [e, e2]
  constructor
  · show X[i][j].1 = (X[i][j].1.toNat : Int); omega
  · show X[i][j].2 = (X[i][j].2.toNat : Int); omega
/-- What a cell reads as. -/
theorem gX {X : List (List (Int × Int))} {i : Nat} (h : i < X.length) : (X.map fun r => [eFs r])[i]? = some [.sl .any 2 ((X.getD i []).map cFr)] := by
  simp [List.getD_eq_getElem?_getD, h]
theorem gE {n m : Nat} {X : List (List (Int × Int))} (h : validX n m X = true) {i j : Nat} (hi : i < n) (hj : j < m) : ((X.getD i []).map cFr)[j]? = some [eI ((elM X i j).1 : Nat), eI ((elM X i j).2 : Nat)] := by
  obtain ⟨h1, h2, h3⟩ := valid_parts h
  obtain ⟨h4, h5⟩ := h3 i hi
  rw [gF (by omega), (h5 j hj).1, (h5 j hj).2]
theorem el1_walk (a b : List Nat) (C R : List (List TL)) (i k : Nat) (p : Nat × Nat) (hC : C[i]? = some [.sl .any 2 R]) (hR : R[k]? = some [eI p.1, eI p.2]) :
    PCall Tryz.prog 76 [eI k, .rp [eNs a, eNs b, .sl .any 1 C] 0, .rp [eI i] 0] (.t .ro (eFr p)) [] := by
  have i3 := (List.getElem?_eq_some_iff.1 hC).1
  have i4 := (List.getElem?_eq_some_iff.1 hR).1
  have i1 : ((i : Nat) : Int) < C.length := by omega
  have i2 : ((k : Nat) : Int) < R.length := by omega
  have q1 : ∀ hh : i < C.length, C[i]'hh = _ := fun hh => (List.getElem?_eq_some_iff.1 hC).2
  have q2 : ∀ hh : k < R.length, R[k]'hh = _ := fun hh => (List.getElem?_eq_some_iff.1 hR).2
  refine pcall_wpT Tryz.func76 rfl (by kernel_rfl) ?_
  unfold eFr
  simp -dsimp [hC, hR, i1, i2, i3, i4, q1, q2]
  refine retT_c ?_
  simp -dsimp
theorem el2_walk (a b : List Nat) (C R : List (List TL)) (i k : Nat) (p : Nat × Nat) (hC : C[k]? = some [.sl .any 2 R]) (hR : R[i]? = some [eI p.1, eI p.2]) :
    PCall Tryz.prog 78 [eI k, .rp [eNs a, eNs b, .sl .any 1 C] 0, .rp [eI i] 0] (.t .ro (eFr p)) [] := by
  have i3 := (List.getElem?_eq_some_iff.1 hC).1
  have i4 := (List.getElem?_eq_some_iff.1 hR).1
  have i1 : ((k : Nat) : Int) < C.length := by omega
  have i2 : ((i : Nat) : Int) < R.length := by omega
  have q1 : ∀ hh : k < C.length, C[k]'hh = _ := fun hh => (List.getElem?_eq_some_iff.1 hC).2
  have q2 : ∀ hh : i < R.length, R[i]'hh = _ := fun hh => (List.getElem?_eq_some_iff.1 hR).2
  refine pcall_wpT Tryz.func78 rfl (by kernel_rfl) ?_
  unfold eFr
  simp -dsimp [hC, hR, i1, i2, i3, i4, q1, q2]
  refine wk_draw 6 [] mixed (by kernel_rfl) ?_
  simp -dsimp [hC, hR, i1, i2, i3, i4, q1, q2]
  refine retT_c ?_
  simp -dsimp
theorem el3_walk (a b : List Nat) (C R : List (List TL)) (i k : Nat) (p : Nat × Nat) (hC : C[k]? = some [.sl .any 2 R]) (hR : R[i]? = some [eI p.1, eI p.2]) :
    PCall Tryz.prog 79 [eI k, .rp [eNs a, eNs b, .sl .any 1 C] 0, .rp [eI i] 0] (.t .ro (eFr p)) [] := by
  have i3 := (List.getElem?_eq_some_iff.1 hC).1
  have i4 := (List.getElem?_eq_some_iff.1 hR).1
  have i1 : ((k : Nat) : Int) < C.length := by omega
  have i2 : ((i : Nat) : Int) < R.length := by omega
  have q1 : ∀ hh : k < C.length, C[k]'hh = _ := fun hh => (List.getElem?_eq_some_iff.1 hC).2
  have q2 : ∀ hh : i < R.length, R[i]'hh = _ := fun hh => (List.getElem?_eq_some_iff.1 hR).2
  refine pcall_wpT Tryz.func79 rfl (by kernel_rfl) ?_
  unfold eFr
  simp -dsimp [hC, hR, i1, i2, i3, i4, q1, q2]
  refine wk_draw 6 [] mixed (by kernel_rfl) ?_
  simp -dsimp [hC, hR, i1, i2, i3, i4, q1, q2]
  refine retT_c ?_
  simp -dsimp
theorem el1_spec {n m : Nat} (a b : List Nat) (X : List (List (Int × Int))) (h : validX n m X = true) (i k : Nat) (hi : i < n) (hk : k < m) :
    PCall Tryz.prog 76 [eI k, .rp [eNs a, eNs b, eFss X] 0, .rp [eI i] 0] (.t .fz (eFr (elM X i k))) [] := by
  have h2 := (valid_parts h).2.1
  exact pcall_weak (el1_walk a b _ _ i k (elM X i k) (gX (by omega)) (gE h hi hk)) fun _ _ _ _ h => fr_free _ h
theorem el2_spec {n m : Nat} (a b : List Nat) (X : List (List (Int × Int))) (h : validX n m X = true) (i k : Nat) (hi : i < m) (hk : k < n) :
    PCall Tryz.prog 78 [eI k, .rp [eNs a, eNs b, eFss X] 0, .rp [eI i] 0] (.t .fz (eFr (elM X k i))) [] := by
  have h2 := (valid_parts h).2.1
  exact pcall_weak (el2_walk a b _ _ i k (elM X k i) (gX (by omega)) (gE h hk hi)) fun _ _ _ _ h => fr_free _ h
theorem el3_spec {n m : Nat} (a b : List Nat) (X : List (List (Int × Int))) (h : validX n m X = true) (i k : Nat) (hi : i < m) (hk : k < n) :
    PCall Tryz.prog 79 [eI k, .rp [eNs a, eNs b, eFss X] 0, .rp [eI i] 0] (.t .fz (eFr (elM X k i))) [] := by
  have h2 := (valid_parts h).2.1
  exact pcall_weak (el3_walk a b _ _ i k (elM X k i) (gX (by omega)) (gE h hk hi)) fun _ _ _ _ h => fr_free _ h
end Go.Proofs.YtnikonhkbldnnaaGreatDoor
