import Derived.Test.YtfcbmcmkakceaaaDoorLB11
/- LB12: slices.Sort of numbers: as few as there are here, it sorts by insertion. -/
set_option linter.unusedVariables false
set_option linter.unusedSimpArgs false
set_option maxRecDepth 20000
namespace Go.Proofs.YtfcbmcmkakceaaaDoor
open Go Go.PS
attribute [-simp] isKeyK List.map_take
def d157D : List (List Nat) := [[], [], [], [], [3], [], [], [6], [5, 6, 7], [5, 6, 7, 8], [], [], [10, 11], [10, 11, 12], [0, 1, 5, 6, 7, 8, 9, 10, 11, 12, 13], [0, 1, 5, 6, 7, 8, 9, 10, 11, 12, 13, 14], [0, 1, 2, 3, 4, 5, 6, 7, 8, 9, 10, 11, 12, 13, 14, 15], [0, 1, 2, 3, 4, 5, 6, 7, 8, 9, 10, 11, 12, 13, 14, 15, 16]]
def d157T : List Nat := [0, 1, 2, 3, 4, 5, 6, 7, 8, 9, 10, 11, 12, 13, 14, 15, 16, 17]
def d157P : List (List (Option Bool)) := [[some false, none, none, none, none, none, none, none, none, none, none, none, none, none, some false, some false, some false, some false], [none, some false, none, none, none, none, none, none, none, none, none, none, none, none, some false, some false, some false, some false], [none, none, some false, none, none, none, none, none, none, none, none, none, none, none, none, none, some false, some false], [none, none, none, some false, some false, none, none, none, none, none, none, none, none, none, none, none, some false, some false], [none, none, none, some true, some false, none, none, none, none, none, none, none, none, none, none, none, some false, some false], [none, none, none, none, none, some false, none, none, some false, some false, none, none, none, none, some false, some false, some false, some false], [none, none, none, none, none, none, some false, some false, some false, some false, none, none, none, none, some false, some false, some false, some false], [none, none, none, none, none, none, some true, some false, some false, some false, none, none, none, none, some false, some false, some false, some false], [none, none, none, none, none, some true, some true, some true, some false, some false, none, none, none, none, some false, some false, some false, some false], [none, none, none, none, none, some true, some true, some true, some true, some false, none, none, none, none, some false, some false, some false, some false], [none, none, none, none, none, none, none, none, none, none, some false, none, some false, some false, some false, some false, some false, some false], [none, none, none, none, none, none, none, none, none, none, none, some false, some false, some false, some false, some false, some false, some false], [none, none, none, none, none, none, none, none, none, none, some true, some true, some false, some false, some false, some false, some false, some false], [none, none, none, none, none, none, none, none, none, none, some true, some true, some true, some false, some false, some false, some false, some false], [some true, some true, none, none, none, some true, some true, some true, some true, some true, some true, some true, some true, some true, some false, some false, some false, some false], [some true, some true, none, none, none, some true, some true, some true, some true, some true, some true, some true, some true, some true, some true, some false, some false, some false], [some true, some true, some true, some true, some true, some true, some true, some true, some true, some true, some true, some true, some true, some true, some true, some true, some false, some false], [some true, some true, some true, some true, some true, some true, some true, some true, some true, some true, some true, some true, some true, some true, some true, some true, some true, some false]]
theorem less_spec (x y : Int) : PCall Tryd.prog 163 [eI x, eI y] (pB (decide (x < y))) [] := by
  refine pcall_wp _ Tryd.func163 rfl (by kernel_rfl) rfl ?_
  have hn1 := nan_spec x
  simp -dsimp
  first
    | refine CallG.by (hn1) ?_
    | refine CallGE.by (hn1) ?_
    | refine CallGB.by (hn1) ?_
  simp -dsimp
  refine retP_c ?_
  simp -dsimp
def sg (l : List Nat) : List (List Nat) := l.map fun x => [x]
theorem sg_len (l : List Nat) : (sg l).length = l.length := by simp [sg]
theorem sg_get {l : List Nat} {i : Nat} (h : i < l.length) : gK (sg l) i = [l[i]] := by simp [gK, sg, List.getD_eq_getElem?_getD, h]
theorem sg_back {l m : List Nat} (h : (sg l).Perm (sg m)) : l.Perm m := by
  have := h.map fun x => x.headD 0
  simpa [sg, List.map_map, Function.comp_def] using this
theorem sg_lt (x y : Nat) : cmpN [x] [y] < 0 ↔ x < y := by
  simp only [cmpN]
  repeat' split
  all_goals simp
  all_goals omega
theorem iL_set (l : List Nat) (i x : Nat) : iL (l.set i x) = (iL l).set i (x : Int) := by simp [iL, List.map_set]
theorem sg_swp {ws : List Nat} {j : Nat} (z1 : j + 1 < ws.length) : swp (sg ws) (j + 1) = sg ((ws.set (j + 1) ws[j]).set j ws[j + 1]) := by
  unfold swp
  rw [Nat.add_sub_cancel, sg_get z1, sg_get (show j < ws.length by omega)]
  simp [sg, List.map_set]
theorem sg_sorted {l : List Nat} (h : (sg l).Pairwise leK) : l.Pairwise (· ≤ ·) := by
  unfold sg at h
  rw [List.pairwise_map] at h
  refine h.imp fun {a b} hab => ?_
  unfold leK at hab
  rw [sg_lt] at hab
  omega
set_option maxHeartbeats 2000000 in
theorem insI_spec (L : List Nat) (h100 : L.length ≤ 100) :
    ECallP Tryd.prog 157 [.osl 1000011, .t .fz (eI 0), .t .fz (eI L.length)] [(1000011, .row 3 1 .ro ((iL L).map cI))]
      fun r M' => r = .tup [] ∧ M' = [(1000011, .row 3 1 .ro ((iL (srtN L)).map cI))] := by
  refine ecallP_wp Tryd.func157 rfl (by kernel_rfl) ?_
  have hw1 : IntKind.i64.wrap 1 = 1 := by decide
  simp -dsimp [hw1]
  refine wk_loop (fun p : Kind × Nat × List Nat => ⟨[(6, .t p.1 (eI p.2.1)), (0, .osl 1000011), (1, .t .fz (eI 0)), (2, .t .fz (eI L.length))], [(1000011, .row 3 1 .ro ((iL p.2.2).map cI))]⟩)
    (fun p => L.Perm p.2.2 ∧ 1 ≤ p.2.1 ∧ p.2.1 ≤ 101 ∧ SrtTo (sg p.2.2) p.2.1) (fun p => L.length - p.2.1) (.fz, 1, L)
    (le_of (by simp) (by simp)) ⟨.refl _, by simp, by simp, fun p q hpq hq => by simp only at hq; omega⟩ fun ⟨kd, i, zs⟩ ⟨hp, hi1, hi2, hs⟩ => ?_
  dsimp only at hp hi1 hi2 hs
  have hl := hp.length_eq
  simp -dsimp
  refine condX_dec (fun h => ?_) (fun h => ?_)
  rotate_left
  · have hsp : zs.Pairwise (· ≤ ·) := sg_sorted (srt_pairwise fun p q hpq hq => hs p q hpq (by rw [sg_len] at hq; omega))
    have hS : zs = srtN L := srtN_of hsp hp.symm
    simp -dsimp
    exact retEP_c (.tup []) [(1000011, .row 3 1 .ro ((iL zs).map cI))] ⟨rfl, by rw [hS]⟩ (by simp) (by simp)
  have hwi := wr (n := (i : Int) + 1) (by omega) (by omega)
  simp -dsimp
  refine wk_loop (fun p : Kind × Nat × List Nat => ⟨[(7, .t p.1 (eI p.2.1)), (6, .t kd (eI i)), (0, .osl 1000011), (1, .t .fz (eI 0)), (2, .t .fz (eI L.length))], [(1000011, .row 3 1 .ro ((iL p.2.2).map cI))]⟩)
    (fun p => L.Perm p.2.2 ∧ p.2.1 ≤ i ∧ InsJ (sg p.2.2) i p.2.1) (fun p => p.2.1) (kd, i, zs)
    (le_of (by simp) (by simp)) ⟨hp, Nat.le_refl _, ins_start hs⟩ fun ⟨kj, j, ws⟩ ⟨hpw, hj, hJ⟩ => ?_
  dsimp only at hpw hj hJ
  have hlw := hpw.length_eq
  simp -dsimp
  refine wk_draw 13 [] mixed (by kernel_rfl) ?_
  cases j with
  | zero =>
    have hS := ins_end hj hJ (.inl rfl)
    simp -dsimp
    refine LoopP_next (.fz, i + 1, ws) (le_of (by simp [hwi]) (by simp)) ⟨hpw, by simp only; omega, by simp only; omega, hS⟩ (by simp only; omega)
  | succ j =>
    have z1 : j + 1 < ws.length := by omega
    have z2 : j < ws.length := by omega
    have hw1 := wr (n := (j : Int) + 1 - 1) (by omega) (by omega)
    have he : (j : Int) + 1 - 1 = j := by omega
    rw [he] at hw1
    have hj0 : (0 : Int) < (j : Int) + 1 := by omega
    have z3 : (j : Int) + 1 < ws.length := by omega
    have z4 : (j : Int) < ws.length := by omega
    have z5 : (0 : Int) ≤ (j : Int) + 1 := by omega
    have z6 : (0 : Int) ≤ (j : Int) := by omega
    have hc := less_spec (ws[j + 1] : Nat) (ws[j] : Nat)
    have q1 := iL_get ws (j + 1) z1
    have q2 := iL_get ws j z2
    have g1 := sg_get z1
    have g2 : gK (sg ws) (j + 1 - 1) = [ws[j]] := sg_get z2
    by_cases hlt : ws[j + 1] < ws[j]
    · have hst := ins_step (zs := sg ws) (i := i) (j := j + 1) (by rw [sg_len]; omega) (by omega) hj hJ (by rw [g1, g2]; exact (sg_lt _ _).2 hlt)
      have hsw := sg_swp z1
      rw [hsw] at hst
      have hpm := hpw.trans (sg_back (hsw ▸ (swp_perm (zs := sg ws) (j := j + 1) (by rw [sg_len]; omega) (by omega)))).symm
      have hltI : ((ws[j + 1] : Nat) : Int) < ((ws[j] : Nat) : Int) := by omega
      rw [decide_eq_true hltI] at hc
      simp -dsimp [hj0, he, hw1, z1, z2, z3, z4, z5, z6, q1, q2]
      first
        | refine CallG.by (hc) ?_
        | refine CallGE.by (hc) ?_
        | refine CallGB.by (hc) ?_
      simp -dsimp
      refine wk_dagS (fun bs => ⟨[(33, cnd (bs.getD 0 false) (.osl 1000011)), (34, cnd (bs.getD 1 false) (.t kj (eI ((j : Int) + 1)))), (35, cnd (bs.getD 2 false) (.osl 1000011)), (36, cnd (bs.getD 3 false) (.t kj (eI ((j : Int) + 1)))), (37, cnd (bs.getD 4 false) (pI j)), (38, cnd (bs.getD 5 false) (.osl 1000011)), (39, cnd (bs.getD 6 false) (.t kj (eI ((j : Int) + 1)))), (40, cnd (bs.getD 7 false) (pI j)), (41, cnd (bs.getD 8 false) (.oep 1000011 1 j 0)), (42, cnd (bs.getD 9 false) (.t .ro (eI (ws[j] : Nat)))), (43, cnd (bs.getD 10 false) (.osl 1000011)), (44, cnd (bs.getD 11 false) (.t kj (eI ((j : Int) + 1)))), (45, cnd (bs.getD 12 false) (.oep 1000011 1 (j + 1) 0)), (46, cnd (bs.getD 13 false) (.t .ro (eI (ws[j + 1] : Nat)))), (47, cnd (bs.getD 14 false) (.oep 1000011 1 (j + 1) 0)), (48, cnd (bs.getD 16 false) (.oep 1000011 1 j 0)), (7, .t kj (eI ((j : Int) + 1))), (6, .t kd (eI i)), (0, .osl 1000011), (1, .t .fz (eI 0)), (2, .t .fz (eI L.length))], [(1000011, .row 3 1 .ro (if bs.getD 17 false then (iL ((ws.set (j + 1) ws[j]).set j ws[j + 1])).map cI else if bs.getD 15 false then (iL (ws.set (j + 1) ws[j])).map cI else (iL ws).map cI))]⟩) d157D d157T d157P mixed (by kernel_rfl) (le_of (by simp) (by simp)) ?_ ?_
      · unfold d157P
        simp -dsimp [he, hw1, z1, z2, z3, z4, z5, z6, q1, q2, -Bool.forall_bool]
        repeat' first
          | intro _
          | with_reducible apply And.intro
          | (refine le_of (by simp) ?_
             simp [iL_set, List.map_set]; done)
      · simp -dsimp [he, hw1]
        refine LoopP_next (.fz, j, (ws.set (j + 1) ws[j]).set j ws[j + 1]) (le_of (by simp) (by simp)) ⟨hpm, by simp only; omega, hst⟩ (by simp only; omega)
    · have hS := ins_end hj hJ (.inr (by rw [g1, g2, sg_lt]; exact hlt))
      have hltI : ¬ ((ws[j + 1] : Nat) : Int) < ((ws[j] : Nat) : Int) := by omega
      rw [decide_eq_false hltI] at hc
      simp -dsimp [hj0, he, hw1, z1, z2, z3, z4, z5, z6, q1, q2]
      first
        | refine CallG.by (hc) ?_
        | refine CallGE.by (hc) ?_
        | refine CallGB.by (hc) ?_
      simp -dsimp
      refine LoopP_next (.fz, i + 1, ws) (le_of (by simp [hwi]) (by simp)) ⟨hpw, by simp only; omega, by simp only; omega, hS⟩ (by simp only; omega)
end Go.Proofs.YtfcbmcmkakceaaaDoor
