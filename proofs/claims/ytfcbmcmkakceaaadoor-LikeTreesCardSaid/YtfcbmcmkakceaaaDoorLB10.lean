import Derived.Test.YtfcbmcmkakceaaaDoorLB9
import Derived.Test.YtfcbmcmkakceaaaDoorLW11
/- LB10: sorting kinds by insertion. -/
set_option linter.unusedVariables false
set_option linter.unusedSimpArgs false
set_option maxRecDepth 20000
namespace Go.Proofs.YtfcbmcmkakceaaaDoor
open Go Go.PS
attribute [-simp] isKeyK List.map_take
def d168D : List (List Nat) := [[], [], [], [], [3], [], [], [6], [5, 6, 7], [5, 6, 7, 8], [], [], [10, 11], [10, 11, 12], [0, 1, 5, 6, 7, 8, 9, 10, 11, 12, 13], [0, 1, 5, 6, 7, 8, 9, 10, 11, 12, 13, 14], [0, 1, 2, 3, 4, 5, 6, 7, 8, 9, 10, 11, 12, 13, 14, 15], [0, 1, 2, 3, 4, 5, 6, 7, 8, 9, 10, 11, 12, 13, 14, 15, 16]]
def d168T : List Nat := [0, 1, 2, 3, 4, 5, 6, 7, 8, 9, 10, 11, 12, 13, 14, 15, 16, 17]
def d168P : List (List (Option Bool)) := [[some false, none, none, none, none, none, none, none, none, none, none, none, none, none, some false, some false, some false, some false], [none, some false, none, none, none, none, none, none, none, none, none, none, none, none, some false, some false, some false, some false], [none, none, some false, none, none, none, none, none, none, none, none, none, none, none, none, none, some false, some false], [none, none, none, some false, some false, none, none, none, none, none, none, none, none, none, none, none, some false, some false], [none, none, none, some true, some false, none, none, none, none, none, none, none, none, none, none, none, some false, some false], [none, none, none, none, none, some false, none, none, some false, some false, none, none, none, none, some false, some false, some false, some false], [none, none, none, none, none, none, some false, some false, some false, some false, none, none, none, none, some false, some false, some false, some false], [none, none, none, none, none, none, some true, some false, some false, some false, none, none, none, none, some false, some false, some false, some false], [none, none, none, none, none, some true, some true, some true, some false, some false, none, none, none, none, some false, some false, some false, some false], [none, none, none, none, none, some true, some true, some true, some true, some false, none, none, none, none, some false, some false, some false, some false], [none, none, none, none, none, none, none, none, none, none, some false, none, some false, some false, some false, some false, some false, some false], [none, none, none, none, none, none, none, none, none, none, none, some false, some false, some false, some false, some false, some false, some false], [none, none, none, none, none, none, none, none, none, none, some true, some true, some false, some false, some false, some false, some false, some false], [none, none, none, none, none, none, none, none, none, none, some true, some true, some true, some false, some false, some false, some false, some false], [some true, some true, none, none, none, some true, some true, some true, some true, some true, some true, some true, some true, some true, some false, some false, some false, some false], [some true, some true, none, none, none, some true, some true, some true, some true, some true, some true, some true, some true, some true, some true, some false, some false, some false], [some true, some true, some true, some true, some true, some true, some true, some true, some true, some true, some true, some true, some true, some true, some true, some true, some false, some false], [some true, some true, some true, some true, some true, some true, some true, some true, some true, some true, some true, some true, some true, some true, some true, some true, some true, some false]]
def rK (kr : Kind) (zs : List (List Nat)) : Res := .row 164 2 kr (zs.map eKd)
set_option maxHeartbeats 2000000 in
theorem inssort_spec (L : List (List Nat)) (hne : ∀ x ∈ L, x ≠ []) (h100 : L.length ≤ 100) (ka kb kr : Kind) :
    ECallP Tryd.prog 168 [.osl 1000011, .t ka (eI 0), .t kb (eI L.length), .clo 130 []] [(1000011, .row 164 2 kr (L.map eKd))]
      fun r M' => r = .tup [] ∧ ∃ ys : List (List Nat), L.Perm ys ∧ ys.Pairwise leK ∧ M' = [(1000011, .row 164 2 kr (ys.map eKd))] := by
  refine ecallP_wp Tryd.func168 rfl (by kernel_rfl) ?_
  have hw1 : IntKind.i64.wrap 1 = 1 := by decide
  simp -dsimp [hw1]
  refine wk_loop (fun p : Kind × Nat × List (List Nat) => ⟨[(8, .t p.1 (eI p.2.1)), (0, .osl 1000011), (1, .t ka (eI 0)), (2, .t kb (eI L.length)), (3, .clo 130 [])], [(1000011, .row 164 2 kr (p.2.2.map eKd))]⟩)
    (fun p => L.Perm p.2.2 ∧ 1 ≤ p.2.1 ∧ p.2.1 ≤ 101 ∧ SrtTo p.2.2 p.2.1) (fun p => L.length - p.2.1) (.fz, 1, L)
    (le_of (by simp) (by simp)) ⟨.refl _, by simp, by simp, fun p q hpq hq => by simp only at hq; omega⟩ fun ⟨kd, i, zs⟩ ⟨hp, hi1, hi2, hs⟩ => ?_
  dsimp only at hp hi1 hi2 hs
  have hl := hp.length_eq
  simp -dsimp
  refine condX_dec (fun h => ?_) (fun h => ?_)
  rotate_left
  · have hsp : zs.Pairwise leK := srt_pairwise fun p q hpq hq => hs p q hpq (by omega)
    simp -dsimp
    exact retEP_c (.tup []) [(1000011, .row 164 2 kr (zs.map eKd))] ⟨rfl, zs, hp, hsp, rfl⟩ (by simp) (by simp)
  have hwi := wr (n := (i : Int) + 1) (by omega) (by omega)
  simp -dsimp
  refine wk_loop (fun p : Kind × Nat × List (List Nat) => ⟨[(9, .t p.1 (eI p.2.1)), (8, .t kd (eI i)), (0, .osl 1000011), (1, .t ka (eI 0)), (2, .t kb (eI L.length)), (3, .clo 130 [])], [(1000011, .row 164 2 kr (p.2.2.map eKd))]⟩)
    (fun p => L.Perm p.2.2 ∧ p.2.1 ≤ i ∧ InsJ p.2.2 i p.2.1) (fun p => p.2.1) (kd, i, zs)
    (le_of (by simp) (by simp)) ⟨hp, Nat.le_refl _, ins_start hs⟩ fun ⟨kj, j, ws⟩ ⟨hpw, hj, hJ⟩ => ?_
  dsimp only at hpw hj hJ
  have hlw := hpw.length_eq
  simp -dsimp
  refine wk_draw 14 [] mixed (by kernel_rfl) ?_
  cases j with
  | zero =>
    have hS := ins_end hj hJ (.inl rfl)
    simp -dsimp
    refine LoopP_next (.fz, i + 1, ws) (le_of (by simp [hwi]) (by simp)) ⟨hpw, by simp only; omega, by simp only; omega, hS⟩ (by simp only; omega)
  | succ j =>
    have z1 : j + 1 < ws.length := by omega
    have z2 : j < ws.length := by omega
    have hw1 := wr (n := (j : Int) + 1 - 1) (by omega) (by omega)
    have he : (j : Int) + 1 - 1 = j := by omega
    rw [he] at hw1
    have hj0 : (0 : Int) < (j : Int) + 1 := by omega
    have z3 : (j : Int) + 1 < ws.length := by omega
    have z4 : (j : Int) < ws.length := by omega
    have z5 : (0 : Int) ≤ (j : Int) + 1 := by omega
    have z6 : (0 : Int) ≤ (j : Int) := by omega
    have n1 : ws[j + 1] ≠ [] := hne _ (hpw.mem_iff.2 (List.getElem_mem z1))
    have n2 : ws[j] ≠ [] := hne _ (hpw.mem_iff.2 (List.getElem_mem z2))
    have hc := compare_spec ws[j + 1] ws[j] n1 n2
    have g1 : gK ws (j + 1) = ws[j + 1] := by simp [gK, List.getD_eq_getElem?_getD, z1]
    have g2 : gK ws (j + 1 - 1) = ws[j] := by simp [gK, List.getD_eq_getElem?_getD, z2]
    by_cases hlt : cmpN ws[j + 1] ws[j] < 0
    · have hst := ins_step (zs := ws) (i := i) (j := j + 1) (by omega) (by omega) hj hJ (by rw [g1, g2]; exact hlt)
      have hpm := hpw.trans (swp_perm (zs := ws) (j := j + 1) (by omega) (by omega)).symm
      have hsw : swp ws (j + 1) = (ws.set (j + 1) ws[j]).set j ws[j + 1] := by unfold swp; rw [g1, g2]; rfl
      simp -dsimp [hj0, he, hw1, z1, z2, z3, z4, z5, z6]
      first
        | refine CallG.by (hc) ?_
        | refine CallGE.by (hc) ?_
        | refine CallGB.by (hc) ?_
      simp -dsimp [hlt]
      refine wk_dagS (fun bs => ⟨[(37, cnd (bs.getD 0 false) (.osl 1000011)), (38, cnd (bs.getD 1 false) (.t kj (eI ((j : Int) + 1)))), (39, cnd (bs.getD 2 false) (.osl 1000011)), (40, cnd (bs.getD 3 false) (.t kj (eI ((j : Int) + 1)))), (41, cnd (bs.getD 4 false) (pI j)), (42, cnd (bs.getD 5 false) (.osl 1000011)), (43, cnd (bs.getD 6 false) (.t kj (eI ((j : Int) + 1)))), (44, cnd (bs.getD 7 false) (pI j)), (45, cnd (bs.getD 8 false) (.oep 1000011 2 j 0)), (46, cnd (bs.getD 9 false) (.t kr (.agg [eI (hdN ws[j]), eNs (tlN ws[j])]))), (47, cnd (bs.getD 10 false) (.osl 1000011)), (48, cnd (bs.getD 11 false) (.t kj (eI ((j : Int) + 1)))), (49, cnd (bs.getD 12 false) (.oep 1000011 2 (j + 1) 0)), (50, cnd (bs.getD 13 false) (.t kr (.agg [eI (hdN ws[j + 1]), eNs (tlN ws[j + 1])]))), (51, cnd (bs.getD 14 false) (.oep 1000011 2 (j + 1) 0)), (52, cnd (bs.getD 16 false) (.oep 1000011 2 j 0)), (9, .t kj (eI ((j : Int) + 1))), (8, .t kd (eI i)), (0, .osl 1000011), (1, .t ka (eI 0)), (2, .t kb (eI L.length)), (3, .clo 130 [])], [(1000011, .row 164 2 kr (if bs.getD 17 false then ((ws.set (j + 1) ws[j]).set j ws[j + 1]).map eKd else if bs.getD 15 false then (ws.set (j + 1) ws[j]).map eKd else ws.map eKd))]⟩) d168D d168T d168P mixed (by kernel_rfl) (le_of (by simp) (by simp)) ?_ ?_
      · unfold d168P
        simp -dsimp [he, hw1, z1, z2, z3, z4, z5, z6, -Bool.forall_bool]
        repeat' first
          | intro _
          | with_reducible apply And.intro
          | (refine le_of (by simp) ?_
             simp [List.map_set]; done)
          | (cases kr <;> (refine le_of (by simp) ?_; simp [List.map_set]; done))
      · simp -dsimp [he, hw1]
        refine LoopP_next (.fz, j, swp ws (j + 1)) (le_of (by simp [hsw]) (by simp [hsw])) ⟨hpm, by simp only; omega, hst⟩ (by simp only; omega)
    · have hS := ins_end hj hJ (.inr (by rw [g1, g2]; exact hlt))
      simp -dsimp [hj0, he, hw1, z1, z2, z3, z4, z5, z6]
      first
        | refine CallG.by (hc) ?_
        | refine CallGE.by (hc) ?_
        | refine CallGB.by (hc) ?_
      simp -dsimp [hlt]
      refine LoopP_next (.fz, i + 1, ws) (le_of (by simp [hwi]) (by simp)) ⟨hpw, by simp only; omega, by simp only; omega, hS⟩ (by simp only; omega)
end Go.Proofs.YtfcbmcmkakceaaaDoor
