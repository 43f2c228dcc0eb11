import Derived.Test.YtnikonhkbldnnaaGreatDoorLR2
/- LR3: the reference: both, compare, sorted, most. -/
set_option linter.unusedVariables false
set_option linter.unusedSimpArgs false
set_option maxRecDepth 20000
namespace Go.Proofs.YtnikonhkbldnnaaGreatDoor
open Go Go.PS
attribute [-simp] isKeyK List.map_take
theorem rboth_spec (t h : List Nat) (ht : t.length ≤ 6) (hh : h.length ≤ 6) (hs : ∀ x ∈ h, x < 64) : PCall Tryz.prog 45 [eNs t, eNs h] (.t .ro (eNs (besN t h))) [] := by
  refine pcall_wpT Tryz.func45 rfl (by kernel_rfl) ?_
  have hw6 : ∀ i : Nat, i ≤ 6 → IntKind.i64.wrap ((i : Int) + 1) = (i : Int) + 1 := fun i hi => wr (by omega) (by omega)
  have hb0 : t.length * 8 ≤ 140737488355328 := by omega
  simp -dsimp [hb0]
  refine wk_loop (fun i : Nat => ⟨[(13, pI i), (12, pI h.length), (11, .t .ro (eNs h)), (5, .osl 8), (0, .t .ro (eNs t))], [(8, .row 3 1 .ro ((iL (t ++ (h.take i).map (· <<< t.length))).map cI))]⟩)
    (fun i => i ≤ h.length) (fun i => h.length - i) 0
    (le_of (by simp) (by simp)) (by omega) fun i hi => ?_
  simp -dsimp
  refine condX_dec (fun hx => ?_) (fun hx => ?_)
  · have q1 := iL_at (l := h) (i := i) hx
    have hm := hs _ (getD_mem hx)
    have hw := hw6 i (by omega)
    have ht1 : h.take (i + 1) = h.take i ++ [h.getD i 0] := take_at hx
    generalize h.getD i 0 = x at q1 hm ht1
    have hsh := shl_nat x t.length ht hm
    have i1 : (i : Int) < h.length := by omega
    have i5 : (0 : Int) ≤ i := by omega
    have hbb : (t.length + min i h.length + 1) * 8 ≤ 140737488355328 := by omega
    simp -dsimp [i1, i5, q1, hsh, hbb]
    refine LoopP_next (i + 1) (le_of (by simp [hw, ht1]) (by simp [ht1])) (by omega) (by omega)
  · have hi' : i = h.length := by omega
    subst hi'
    have hF : besN t h = t ++ h.map (· <<< t.length) := rfl
    simp -dsimp
    refine retT_c ?_
    simp -dsimp [hF]
theorem most_rspec (l : List Nat) (hb : ∀ x ∈ l, x < 1000000) : PCall Tryz.prog 82 [eNs l] (pI (mostN l)) [] := by
  refine pcall_sl 0 rfl call82 fun hlen => ?_
  simp only [List.length_map, iL_length] at hlen
  refine pcall_wp _ Tryz.func82 rfl (by kernel_rfl) rfl ?_
  simp -dsimp
  refine wk_loop (fun i : Nat => ⟨[(3, pI (mostN (l.take i))), (8, pI i), (7, pI l.length), (6, .t .ro (eNs l))], []⟩)
    (fun i => i ≤ l.length) (fun i => l.length - i) 0
    (le_of (by simp [mostN]) (by simp)) (by omega) fun i hi => ?_
  simp -dsimp
  refine condX_dec (fun h => ?_) (fun h => ?_)
  · have hw := wr (n := (i : Int) + 1) (by omega) (by omega)
    have q1 := iL_at (l := l) (i := i) h
    have hlt := hb _ (getD_mem h)
    have hs : mostN (l.take (i + 1)) = max (mostN (l.take i)) (l.getD i 0 + 1) := by rw [take_at h, most_snoc]
    generalize l.getD i 0 = x at q1 hs hlt
    have hwx := wr (n := (x : Int) + 1) (by omega) (by omega)
    have hm : (if (mostN (l.take i) : Int) < (x : Int) + 1 then (x : Int) + 1 else (mostN (l.take i) : Int)) = (mostN (l.take (i + 1)) : Int) := by
      rw [hs]
      split <;> omega
    have i1 : (i : Int) < l.length := by omega
    have i5 : (0 : Int) ≤ i := by omega
    simp -dsimp [i1, i5, q1, hwx, hm]
    refine LoopP_next (i + 1) (le_of (by simp [hw]) (by simp)) (by omega) (by omega)
  · have hi' : i = l.length := by omega
    subst hi'
    have ht : l.take l.length = l := List.take_length
    rw [ht]
    simp -dsimp
    refine retP_c ?_
    simp -dsimp
theorem rcmp_spec (a b : List Nat) : PCall Tryz.prog 106 [eNs a, eNs b] (pI (cmpN a b)) [] := by
  refine pcall_sl 0 rfl call106 fun hla => ?_
  refine pcall_sl 1 rfl call106 fun hlb => ?_
  simp only [List.length_map, iL_length] at hla hlb
  refine pcall_wp _ Tryz.func106 rfl (by kernel_rfl) rfl ?_
  simp -dsimp
  refine wk_loop (fun i : Nat => ⟨[(9, pI i), (8, pI a.length), (7, .t .ro (eNs a)), (0, .t .ro (eNs a)), (1, .t .ro (eNs b)), (4, pI 0)], []⟩)
    (fun i => i ≤ a.length ∧ i ≤ b.length ∧ cmpN a b = cmpN (a.drop i) (b.drop i)) (fun i => a.length - i) 0
    (le_of (by simp) (by simp)) ⟨by omega, by omega, by simp⟩ fun i ⟨hi, hib, hJ⟩ => ?_
  simp -dsimp
  refine condX_dec (fun h => ?_) (fun h => ?_)
  rotate_left
  · have hi' : i = a.length := by omega
    subst hi'
    rw [List.drop_length] at hJ
    by_cases hlt : (a.length : Int) < b.length
    · have hF : cmpN a b = -1 := by
        rw [hJ, List.drop_eq_getElem_cons (show a.length < b.length by omega)]
        rfl
      simp -dsimp [hlt]
      refine retP_c ?_
      simp -dsimp [hF]
    · have hF : cmpN a b = 0 := by
        rw [hJ, List.drop_eq_nil_of_le (show b.length ≤ a.length by omega)]
        rfl
      simp -dsimp [hlt]
      refine retP_c ?_
      simp -dsimp [hF]
  have hw := wr (n := (i : Int) + 1) (by omega) (by omega)
  have q1 := iL_at (l := a) (i := i) h
  have i1 : (i : Int) < a.length := by omega
  have i5 : (0 : Int) ≤ i := by omega
  by_cases hb : (b.length : Int) ≤ i
  · have hF : cmpN a b = 1 := by
      rw [hJ, List.drop_eq_getElem_cons h, List.drop_eq_nil_of_le (show b.length ≤ i by omega)]
      rfl
    simp -dsimp [i1, i5, q1, hb]
    refine retP_c ?_
    simp -dsimp [hF]
  have hib' : i < b.length := by omega
  have q2 := iL_at (l := b) (i := i) hib'
  have hd := cmpN_drop h hib'
  have i2 : (i : Int) < b.length := by omega
  generalize a.getD i 0 = x at *
  generalize b.getD i 0 = y at *
  have hcI : cmpI (x : Int) (y : Int) = if (x : Int) < y then -1 else if (y : Int) < x then 1 else 0 := rfl
  by_cases c1 : (y : Int) < x
  · rw [if_neg (by omega), if_pos c1] at hcI
    rw [hcI, if_neg (by omega)] at hd
    have hF : cmpN a b = 1 := by rw [hJ, hd]
    simp -dsimp [i1, i2, i5, q1, q2, hb, c1]
    refine retP_c ?_
    simp -dsimp [hF]
  by_cases c2 : (x : Int) < y
  · rw [if_pos c2] at hcI
    rw [hcI, if_neg (by omega)] at hd
    have hF : cmpN a b = -1 := by rw [hJ, hd]
    simp -dsimp [i1, i2, i5, q1, q2, hb, c1, c2]
    refine retP_c ?_
    simp -dsimp [hF]
  rw [if_neg c2, if_neg c1] at hcI
  rw [hcI, if_pos rfl] at hd
  simp -dsimp [i1, i2, i5, q1, q2, hb, c1, c2]
  refine LoopP_next (i + 1) (le_of (by simp [hw]) (by simp)) ⟨h, hib', by rw [hJ, hd]⟩ (by omega)
theorem ins_at {x : Nat} : ∀ {S : List Nat} {k : Nat}, k ≤ S.length → (∀ j, j < k → S.getD j 0 ≤ x) → (k = S.length ∨ x < S.getD k 0) → S.take k ++ x :: S.drop k = insN x S
  | [], 0, _, _, _ => rfl
  | [], k + 1, h, _, _ => by simp at h
  | y :: S, 0, _, _, h => by
    have : x < y := by simpa using h
    rw [insN, if_pos this]
    rfl
  | y :: S, k + 1, hk, hj, h => by
    have h0 := hj 0 (by omega)
    have h0' : ¬ x < y := by simpa using h0
    rw [insN, if_neg h0']
    have := ins_at (x := x) (S := S) (k := k) (by simpa using hk) (fun j hjk => by simpa using hj (j + 1) (by omega)) (by simpa using h)
    simp [this]
def d101D : List (List Nat) := [[], [], [], [1, 2], [0, 1, 2, 3], [], [5], [0, 1, 2, 3, 4, 5, 6], [], [], [8, 9], [0, 1, 2, 3, 4, 5, 6, 7, 8, 9, 10], [0, 1, 2, 3, 4, 5, 6, 7, 8, 9, 10, 11]]
def d101T : List Nat := [0, 1, 2, 3, 4, 5, 6, 7, 8, 9, 10, 11, 12]
def d101P : List (List (Option Bool)) := [[some false, none, none, none, some false, none, none, some false, none, none, none, some false, some false], [none, some false, none, some false, some false, none, none, some false, none, none, none, some false, some false], [none, none, some false, some false, some false, none, none, some false, none, none, none, some false, some false], [none, some true, some true, some false, some false, none, none, some false, none, none, none, some false, some false], [some true, some true, some true, some true, some false, none, none, some false, none, none, none, some false, some false], [none, none, none, none, none, some false, some false, some false, none, none, none, some false, some false], [none, none, none, none, none, some true, some false, some false, none, none, none, some false, some false], [some true, some true, some true, some true, some true, some true, some true, some false, none, none, none, some false, some false], [none, none, none, none, none, none, none, none, some false, none, some false, some false, some false], [none, none, none, none, none, none, none, none, none, some false, some false, some false, some false], [none, none, none, none, none, none, none, none, some true, some true, some false, some false, some false], [some true, some true, some true, some true, some true, some true, some true, some true, some true, some true, some true, some false, some false], [some true, some true, some true, some true, some true, some true, some true, some true, some true, some true, some true, some true, some false]]

theorem srt_snoc (l : List Nat) (x : Nat) : srtN (l ++ [x]) = insN x (srtN l) := by simp [srtN, List.foldl_append]
theorem srt_len (l : List Nat) : (srtN l).length = l.length := (srtN_perm l).length_eq
set_option maxHeartbeats 1000000 in
theorem sorted_spec (l : List Nat) (h100 : l.length ≤ 1000) : PCall Tryz.prog 105 [eNs l] (.t .fz (eNs (srtN l))) [] := by
  refine pcall_wp _ Tryz.func105 rfl (by kernel_rfl) rfl ?_
  simp -dsimp
  refine lg_adoptT 3 27 3 1 (by simp; rfl) (by simp) ?_
  refine wk_loop (fun i : Nat => ⟨[(9, pI i), (8, pI l.length), (7, .t .ro (eNs l)), (3, .osl 27)], [(27, .row 3 1 .fz ((iL (srtN (l.take i))).map cI))]⟩)
    (fun i => i ≤ l.length) (fun i => l.length - i) 0
    (le_of (by simp) (by simp [srtN])) (by omega) fun i hi => ?_
  simp -dsimp
  refine condX_dec (fun h => ?_) (fun h => ?_)
  rotate_left
  · have hi' : i = l.length := by omega
    subst hi'
    rw [List.take_length]
    simp -dsimp
    refine retP_c ?_
    simp -dsimp
  have hw := wr (n := (i : Int) + 1) (by omega) (by omega)
  have q1 := iL_at (l := l) (i := i) h
  have hsn : srtN (l.take (i + 1)) = insN (l.getD i 0) (srtN (l.take i)) := by rw [take_at h, srt_snoc]
  have hsl : (srtN (l.take i)).length ≤ 1000 := by rw [srt_len]; simp; omega
  generalize l.getD i 0 = x at q1 hsn
  generalize srtN (l.take i) = S at hsn hsl
  have i1 : (i : Int) < l.length := by omega
  have i5 : (0 : Int) ≤ i := by omega
  simp -dsimp [i1, i5, q1]
  refine lg_frz [27] ?_
  simp -dsimp
  refine wk_loop (fun k : Nat => ⟨[(6, pI k), (5, .t .ro (eI x)), (3, .t .fz (eNs S)), (9, pI i), (8, pI l.length), (7, .t .ro (eNs l))], []⟩)
    (fun k => k ≤ S.length ∧ ∀ j, j < k → S.getD j 0 ≤ x) (fun k => S.length - k) 0
    (le_of (by simp) (by simp)) ⟨by omega, fun j hj => by omega⟩ fun k ⟨hk, hJ⟩ => ?_
  have hwk := wr (n := (k : Int) + 1) (by omega) (by omega)
  have i6 : (0 : Int) ≤ k := by omega
  have hfin : (k = S.length ∨ x < S.getD k 0) → S.take k ++ x :: S.drop k = insN x S := fun hc => ins_at hk hJ hc
  by_cases hkl : k < S.length
  · have r1 := iL_at (l := S) (i := k) hkl
    have j1 : (k : Int) < S.length := by omega
    have hJ' : S.getD k 0 ≤ x → ∀ j, j < k + 1 → S.getD j 0 ≤ x := fun hle j hj => by
      rcases Nat.lt_or_ge j k with h5 | h5
      · exact hJ j h5
      · rwa [show j = k by omega]
    generalize S.getD k 0 = y at r1 hfin hJ'
    by_cases hle : (y : Int) ≤ x
    · simp -dsimp [j1, i6, r1, hle]
      refine LoopP_next (k + 1) (le_of (by simp [hwk]) (by simp)) ⟨by omega, hJ' (by omega)⟩ (by omega)
    · have j2 : (k : Int) ≤ S.length := by omega
      have hfin := hfin (.inr (by omega))
      obtain ⟨A, hA⟩ : ∃ A, A = S.take k := ⟨_, rfl⟩
      obtain ⟨B, hB⟩ : ∃ B, B = S.drop k := ⟨_, rfl⟩
      have k1 : List.take k (List.map cI (iL S)) = List.map cI (iL A) := by rw [hA]; simp [iL, List.map_take]
      have k2 : List.drop k (List.map cI (iL S)) = List.map cI (iL B) := by rw [hB]; simp [iL, List.map_drop]
      have k3 : List.take (S.length - k) (List.map cI (iL B)) = List.map cI (iL B) := List.take_of_length_le (by rw [hB]; simp)
      have lA : A.length ≤ 1000 := by rw [hA]; simp; omega
      have lB : B.length ≤ 1000 := by rw [hB]; simp; omega
      have hb1 : A.length * 8 ≤ 140737488355328 := by omega
      have hb2 : (A.length + 1) * 8 ≤ 140737488355328 := by omega
      have hb3 : (A.length + 1 + B.length) * 8 ≤ 140737488355328 := by omega
      rw [← hA, ← hB] at hfin
      simp -dsimp [j1, i6, r1, hle]
      refine wk_dagS (fun bs => ⟨[(27, cnd (bs.getD 0 false && !bs.getD 4 false) (.osl 27)), (28, cnd (bs.getD 1 false) (.t .fz (eNs S))), (29, cnd (bs.getD 2 false) (pI k)), (30, cnd (bs.getD 3 false) (.t .fz (eNs A))), (31, cnd (bs.getD 4 false && !bs.getD 7 false) (.osl 27)), (32, cnd (bs.getD 5 false) (.t .ro (eI x))), (33, cnd (bs.getD 6 false) (.osl 33)), (34, cnd (bs.getD 7 false && !bs.getD 11 false) (.osl 27)), (35, cnd (bs.getD 8 false) (.t .fz (eNs S))), (36, cnd (bs.getD 9 false) (pI k)), (37, cnd (bs.getD 10 false) (.t .fz (eNs B))), (38, cnd (bs.getD 11 false) (.osl 27)), (3, if bs.getD 12 false then .osl 27 else .t .fz (eNs S)), (6, pI k), (5, .t .ro (eI x)), (9, pI i), (8, pI l.length), (7, .t .ro (eNs l))],
        [(27, cndR (bs.getD 0 false) (.row 3 1 .fz (if bs.getD 11 false then (iL (A ++ [x] ++ B)).map cI else if bs.getD 7 false then (iL (A ++ [x])).map cI else if bs.getD 4 false then (iL A).map cI else []))), (33, cndR (bs.getD 6 false) (.row 3 1 .fz [cI x]))]⟩) d101D d101T d101P mixed (by kernel_rfl) (le_of (by simp) (by simp)) ?_ ?_
      · unfold d101P
        repeat' first
          | exact dagSG_end
          | refine dagSG_step ?_ ?_
        all_goals
          simp -dsimp [k1, k2, k3, i6, hb1, hb2, hb3, hk, -Bool.forall_bool, -Res.men, -Res.kill]
        repeat' first
          | intro _
          | with_reducible apply And.intro
          | (refine le_of (by simp) ?_
             simp; done)
      · simp -dsimp
        refine LoopP_next (i + 1) (le_of (by simp [hw]) (by simp [hsn, ← hfin])) (by omega) (by omega)
  · have j1 : ¬ (k : Int) < S.length := by omega
    have j2 : (k : Int) ≤ S.length := by omega
    have hfin := hfin (.inl (by omega))
    obtain ⟨A, hA⟩ : ∃ A, A = S.take k := ⟨_, rfl⟩
    obtain ⟨B, hB⟩ : ∃ B, B = S.drop k := ⟨_, rfl⟩
    have k1 : List.take k (List.map cI (iL S)) = List.map cI (iL A) := by rw [hA]; simp [iL, List.map_take]
    have k2 : List.drop k (List.map cI (iL S)) = List.map cI (iL B) := by rw [hB]; simp [iL, List.map_drop]
    have k3 : List.take (S.length - k) (List.map cI (iL B)) = List.map cI (iL B) := List.take_of_length_le (by rw [hB]; simp)
    have lA : A.length ≤ 1000 := by rw [hA]; simp; omega
    have lB : B.length ≤ 1000 := by rw [hB]; simp; omega
    have hb1 : A.length * 8 ≤ 140737488355328 := by omega
    have hb2 : (A.length + 1) * 8 ≤ 140737488355328 := by omega
    have hb3 : (A.length + 1 + B.length) * 8 ≤ 140737488355328 := by omega
    rw [← hA, ← hB] at hfin
    simp -dsimp [j1]
    refine wk_dagS (fun bs => ⟨[(27, cnd (bs.getD 0 false && !bs.getD 4 false) (.osl 27)), (28, cnd (bs.getD 1 false) (.t .fz (eNs S))), (29, cnd (bs.getD 2 false) (pI k)), (30, cnd (bs.getD 3 false) (.t .fz (eNs A))), (31, cnd (bs.getD 4 false && !bs.getD 7 false) (.osl 27)), (32, cnd (bs.getD 5 false) (.t .ro (eI x))), (33, cnd (bs.getD 6 false) (.osl 33)), (34, cnd (bs.getD 7 false && !bs.getD 11 false) (.osl 27)), (35, cnd (bs.getD 8 false) (.t .fz (eNs S))), (36, cnd (bs.getD 9 false) (pI k)), (37, cnd (bs.getD 10 false) (.t .fz (eNs B))), (38, cnd (bs.getD 11 false) (.osl 27)), (3, if bs.getD 12 false then .osl 27 else .t .fz (eNs S)), (6, pI k), (5, .t .ro (eI x)), (9, pI i), (8, pI l.length), (7, .t .ro (eNs l))],
      [(27, cndR (bs.getD 0 false) (.row 3 1 .fz (if bs.getD 11 false then (iL (A ++ [x] ++ B)).map cI else if bs.getD 7 false then (iL (A ++ [x])).map cI else if bs.getD 4 false then (iL A).map cI else []))), (33, cndR (bs.getD 6 false) (.row 3 1 .fz [cI x]))]⟩) d101D d101T d101P mixed (by kernel_rfl) (le_of (by simp) (by simp)) ?_ ?_
    · unfold d101P
      repeat' first
        | exact dagSG_end
        | refine dagSG_step ?_ ?_
      all_goals
        simp -dsimp [k1, k2, k3, i6, hb1, hb2, hb3, hk, -Bool.forall_bool, -Res.men, -Res.kill]
      repeat' first
        | intro _
        | with_reducible apply And.intro
        | (refine le_of (by simp) ?_
           simp; done)
    · simp -dsimp
      refine LoopP_next (i + 1) (le_of (by simp [hw]) (by simp [hsn, ← hfin])) (by omega) (by omega)
end Go.Proofs.YtnikonhkbldnnaaGreatDoor
