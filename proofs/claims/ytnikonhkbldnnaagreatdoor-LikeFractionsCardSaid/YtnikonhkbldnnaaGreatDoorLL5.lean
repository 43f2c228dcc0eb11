import Derived.Test.YtnikonhkbldnnaaGreatDoorLB27
import Derived.Test.YtnikonhkbldnnaaGreatDoorLR1
/- LL5: fracs; law Alike. -/
set_option linter.unusedVariables false
set_option linter.unusedSimpArgs false
set_option maxRecDepth 20000
namespace Go.Proofs.YtnikonhkbldnnaaGreatDoor
open Go Go.PS
attribute [-simp] isKeyK List.map_take
theorem cloneF_row (xs : List (Int × Int)) (hb : xs.length * 16 ≤ 140737488355328) : PCall Tryz.prog 40 [eFs xs] (.osl 0) [(0, .row 75 2 .ro (xs.map cFr))] := by
  refine pcall_any 0 rfl call40 (fun h => ?_) ?_
  · simp at h
    subst h
    refine pcall_nilrow (k := .fz) ?_
    refine pcall_wp _ Tryz.func40 rfl (by kernel_rfl) rfl ?_
    simp -dsimp
    refine retP_c ?_
    simp -dsimp
  · refine pcall_wp _ Tryz.func40 rfl (by kernel_rfl) rfl ?_
    simp -dsimp [hb]
    exact retP_own 5 (by simp; rfl) (by simp) (by simp) (by simp) (by simp)
theorem cloneF_fz (xs : List (Int × Int)) (hb : xs.length * 16 ≤ 140737488355328) : PCall Tryz.prog 40 [eFs xs] (.t .fz (eFs xs)) [] :=
  pcall_fzrow (cloneF_row xs hb) (cFr_flat xs)
def cutF (X : List (List (Int × Int))) (k : Nat) : List (List (Int × Int)) := (X.take k).map fun r => r.take 9
theorem cutF_snoc {X : List (List (Int × Int))} {i : Nat} (h : i < X.length) : cutF X (i + 1) = cutF X i ++ [X[i].take 9] := by
  unfold cutF
  rw [List.take_add_one, List.map_append, List.getElem?_eq_getElem h]
  rfl
theorem fracs_spec (X : List (List (Int × Int))) : PCall Tryz.prog 11 [eFss X] (.t .fz (eFss (cutF X 9))) [] := by
  refine pcall_sl 0 rfl call11 fun hlen => ?_
  simp only [List.length_map] at hlen
  refine pcall_wpS [8] Tryz.func11 rfl (by kernel_rfl) ?_
  simp -dsimp
  refine lg_adoptT 3 3 73 1 (by simp; rfl) (by simp) ?_
  refine wk_loop (fun i : Nat => ⟨[(8, pI i), (7, pI X.length), (6, .t .ro (eFss X)), (3, .osl 3)], [(3, .row 73 1 .fz ((cutF X (min i 9)).map fun r => [eFs r]))]⟩)
    (fun i => i ≤ X.length) (fun i => X.length - i) 0
    (le_of (by simp) (by simp [cutF])) (by simp) fun i hi => ?_
  simp -dsimp
  refine condX_dec (fun hx => ?_) (fun hx => ?_)
  · have hw := wr (n := (i : Int) + 1) (by omega) (by omega)
    have hil : (i : Int) < X.length := by omega
    have hq : (X.map fun r => [eFs r])[i]? = some [eFs X[i]] := by rw [List.getElem?_map, List.getElem?_eq_getElem hx]; rfl
    have hsn := cutF_snoc hx
    generalize X[i] = r at *
    unfold eFs at hq
    simp -dsimp [hil, hq]
    refine condX_dec (fun h9 => ?_) (fun h9 => ?_)
    · have h9' : i < 9 := by omega
      have hm1 : min i 9 = i := by omega
      have hm2 : min (i + 1) 9 = i + 1 := by omega
      have hm : (if 9 < (r.length : Int) then (9 : Int) else (r.length : Int)) = ((min r.length 9 : Nat) : Int) := by
        split <;> omega
      have h1 : ((min r.length 9 : Nat) : Int) ≤ r.length := by omega
      have h2 : (0 : Int) ≤ ((min r.length 9 : Nat) : Int) := by omega
      have ht : List.take (min r.length 9) (List.map cFr r) = List.map cFr (r.take 9) := by
        rw [← List.map_take]
        congr 1
        rcases Nat.le_total r.length 9 with h | h
        · rw [Nat.min_eq_left h, List.take_of_length_le (Nat.le_refl _), List.take_of_length_le h]
        · rw [Nat.min_eq_right h]
      have h3 : min r.length 9 ≤ r.length := by omega
      generalize min r.length 9 = m at hm h1 h2 ht h3
      have hcl := cloneF_fz (r.take 9) (by simp; omega)
      have hcu : (cutF X i).length ≤ 9 := by simp [cutF]; omega
      have hbb : ((cutF X i).length + 1) * 24 ≤ 140737488355328 := by omega
      rw [hm1]
      generalize cutF X i = C at *
      simp -dsimp [hm, h1, h2, h3, ht, h9]
      first
        | refine CallG.by (hcl) ?_
        | refine CallGE.by (hcl) ?_
        | refine CallGB.by (hcl) ?_
      simp -dsimp [hbb]
      refine LoopP_next (i + 1) (le_of (by simp [hw]) (by simp [hm2, hsn])) (by omega) (by omega)
    · have hm1 : min i 9 = 9 := by omega
      have hm2 : min (i + 1) 9 = 9 := by omega
      simp -dsimp
      refine LoopP_next (i + 1) (le_of (by simp [hw]) (by simp [hm1, hm2])) (by omega) (by omega)
  · have hi' : i = X.length := by omega
    have hc : cutF X (min i 9) = cutF X 9 := by
      unfold cutF
      rcases Nat.le_total X.length 9 with h | h
      · rw [hi', Nat.min_eq_left h, List.take_of_length_le (Nat.le_refl _), List.take_of_length_le h]
      · rw [hi', Nat.min_eq_right h]
    rw [hc]
    generalize cutF X 9 = C at *
    simp -dsimp
    refine stop_frz [3] ?_
    simp -dsimp
    refine stop_go ?_
    simp -dsimp
    refine retP_c ?_
    simp -dsimp
end Go.Proofs.YtnikonhkbldnnaaGreatDoor
