import Derived.Test.YtnikonhkbldnnaaDoorLBA
import Derived.Test.YtnikonhkbldnnaaDoorLWA
import Derived.Test.YtnikonhkbldnnaaDoorLBits
import Derived.Test.YtnikonhkbldnnaaDoorPSF
/- LB10: sorting kinds by insertion. -/
set_option linter.unusedVariables false
set_option linter.unusedSimpArgs false
set_option maxRecDepth 20000
namespace Go.Proofs.YtnikonhkbldnnaaDoor
open Go Go.PS
attribute [-simp] isKeyK List.map_take
def d168D : List (List Nat) := [[], [], [], [], [3], [], [], [6], [5, 6, 7], [5, 6, 7, 8], [], [], [10, 11], [10, 11, 12], [0, 1, 5, 6, 7, 8, 9, 10, 11, 12, 13], [0, 1, 5, 6, 7, 8, 9, 10, 11, 12, 13, 14], [0, 1, 2, 3, 4, 5, 6, 7, 8, 9, 10, 11, 12, 13, 14, 15], [0, 1, 2, 3, 4, 5, 6, 7, 8, 9, 10, 11, 12, 13, 14, 15, 16]]
def d168T : List Nat := [0, 1, 2, 3, 4, 5, 6, 7, 8, 9, 10, 11, 12, 13, 14, 15, 16, 17]
def d168P : List (List (Option Bool)) := [[some false, none, none, none, none, none, none, none, none, none, none, none, none, none, some false, some false, some false, some false], [none, some false, none, none, none, none, none, none, none, none, none, none, none, none, some false, some false, some false, some false], [none, none, some false, none, none, none, none, none, none, none, none, none, none, none, none, none, some false, some false], [none, none, none, some false, some false, none, none, none, none, none, none, none, none, none, none, none, some false, some false], [none, none, none, some true, some false, none, none, none, none, none, none, none, none, none, none, none, some false, some false], [none, none, none, none, none, some false, none, none, some false, some false, none, none, none, none, some false, some false, some false, some false], [none, none, none, none, none, none, some false, some false, some false, some false, none, none, none, none, some false, some false, some false, some false], [none, none, none, none, none, none, some true, some false, some false, some false, none, none, none, none, some false, some false, some false, some false], [none, none, none, none, none, some true, some true, some true, some false, some false, none, none, none, none, some false, some false, some false, some false], [none, none, none, none, none, some true, some true, some true, some true, some false, none, none, none, none, some false, some false, some false, some false], [none, none, none, none, none, none, none, none, none, none, some false, none, some false, some false, some false, some false, some false, some false], [none, none, none, none, none, none, none, none, none, none, none, some false, some false, some false, some false, some false, some false, some false], [none, none, none, none, none, none, none, none, none, none, some true, some true, some false, some false, some false, some false, some false, some false], [none, none, none, none, none, none, none, none, none, none, some true, some true, some true, some false, some false, some false, some false, some false], [some true, some true, none, none, none, some true, some true, some true, some true, some true, some true, some true, some true, some true, some false, some false, some false, some false], [some true, some true, none, none, none, some true, some true, some true, some true, some true, some true, some true, some true, some true, some true, some false, some false, some false], [some true, some true, some true, some true, some true, some true, some true, some true, some true, some true, some true, some true, some true, some true, some true, some true, some false, some false], [some true, some true, some true, some true, some true, some true, some true, some true, some true, some true, some true, some true, some true, some true, some true, some true, some true, some false]]
set_option maxHeartbeats 2000000 in
theorem inssort_spec (L : List (List Nat)) (hne : ∀ x ∈ L, x ≠ []) (h100 : L.length ≤ 100) (ka kb kr : Kind) :
    ECallP Tryd.prog 111 [.osl 1000011, .t ka (eI 0), .t kb (eI L.length), .clo 84 []] [(1000011, .row 129 2 kr (L.map eKd))]
      fun r M' => r = .tup [] ∧ ∃ ys : List (List Nat), L.Perm ys ∧ ys.Pairwise leK ∧ M' = [(1000011, .row 129 2 kr (ys.map eKd))] := by
  refine ecallP_wp Tryd.func111 rfl (by kernel_rfl) ?_
  have hw1 : IntKind.i64.wrap 1 = 1 := by decide
  simp -dsimp [hw1]
  refine wk_loop (fun p : Kind × Nat × List (List Nat) => ⟨[(8, .t p.1 (eI p.2.1)), (0, .osl 1000011), (1, .t ka (eI 0)), (2, .t kb (eI L.length)), (3, .clo 84 [])], [(1000011, .row 129 2 kr (p.2.2.map eKd))]⟩)
    (fun p => L.Perm p.2.2 ∧ 1 ≤ p.2.1 ∧ p.2.1 ≤ 101 ∧ SrtTo p.2.2 p.2.1) (fun p => L.length - p.2.1) (.fz, 1, L)
    (le_of (by simp) (by simp)) ⟨.refl _, by simp, by simp, fun p q hpq hq => by simp only at hq; omega⟩ fun ⟨kd, i, zs⟩ ⟨hp, hi1, hi2, hs⟩ => ?_
  dsimp only at hp hi1 hi2 hs
  have hl := hp.length_eq
  simp -dsimp
  refine condX_dec (fun h => ?_) (fun h => ?_)
  rotate_left
  · have hsp : zs.Pairwise leK := srt_pairwise fun p q hpq hq => hs p q hpq (by omega)
    simp -dsimp
    exact retEP_c (.tup []) [(1000011, .row 129 2 kr (zs.map eKd))] ⟨rfl, zs, hp, hsp, rfl⟩ (by simp) (by simp)
  have hwi := wr (n := (i : Int) + 1) (by omega) (by omega)
  simp -dsimp
  refine wk_loop (fun p : Kind × Nat × List (List Nat) => ⟨[(9, .t p.1 (eI p.2.1)), (8, .t kd (eI i)), (0, .osl 1000011), (1, .t ka (eI 0)), (2, .t kb (eI L.length)), (3, .clo 84 [])], [(1000011, .row 129 2 kr (p.2.2.map eKd))]⟩)
    (fun p => L.Perm p.2.2 ∧ p.2.1 ≤ i ∧ InsJ p.2.2 i p.2.1) (fun p => p.2.1) (kd, i, zs)
    (le_of (by simp) (by simp)) ⟨hp, Nat.le_refl _, ins_start hs⟩ fun ⟨kj, j, ws⟩ ⟨hpw, hj, hJ⟩ => ?_
  dsimp only at hpw hj hJ
  have hlw := hpw.length_eq
  simp -dsimp
  refine wk_draw 14 [] mixed (by kernel_rfl) ?_
  cases j with
  | zero =>
    have hS := ins_end hj hJ (.inl rfl)
    simp -dsimp
    refine LoopP_next (.fz, i + 1, ws) (le_of (by simp [hwi]) (by simp)) ⟨hpw, by simp only; omega, by simp only; omega, hS⟩ (by simp only; omega)
  | succ j =>
    have z1 : j + 1 < ws.length := by omega
    have z2 : j < ws.length := by omega
    have hw1 := wr (n := (j : Int) + 1 - 1) (by omega) (by omega)
    have he : (j : Int) + 1 - 1 = j := by omega
    rw [he] at hw1
    have hj0 : (0 : Int) < (j : Int) + 1 := by omega
    have z3 : (j : Int) + 1 < ws.length := by omega
    have z4 : (j : Int) < ws.length := by omega
    have z5 : (0 : Int) ≤ (j : Int) + 1 := by omega
    have z6 : (0 : Int) ≤ (j : Int) := by omega
    have n1 : ws[j + 1] ≠ [] := hne _ (hpw.mem_iff.2 (List.getElem_mem z1))
    have n2 : ws[j] ≠ [] := hne _ (hpw.mem_iff.2 (List.getElem_mem z2))
    have hc := compare_spec ws[j + 1] ws[j] n1 n2
    have g1 : gK ws (j + 1) = ws[j + 1] := by simp [gK, List.getD_eq_getElem?_getD, z1]
    have g2 : gK ws (j + 1 - 1) = ws[j] := by simp [gK, List.getD_eq_getElem?_getD, z2]
    by_cases hlt : cmpN ws[j + 1] ws[j] < 0
    · have hst := ins_step (zs := ws) (i := i) (j := j + 1) (by omega) (by omega) hj hJ (by rw [g1, g2]; exact hlt)
      have hpm := hpw.trans (swp_perm (zs := ws) (j := j + 1) (by omega) (by omega)).symm
      have hsw : swp ws (j + 1) = (ws.set (j + 1) ws[j]).set j ws[j + 1] := by unfold swp; rw [g1, g2]; rfl
      simp -dsimp [hj0, he, hw1, z1, z2, z3, z4, z5, z6]
      first
        | refine CallG.by (hc) ?_
        | refine CallGE.by (hc) ?_
        | refine CallGB.by (hc) ?_
      simp -dsimp [hlt]
      refine wk_dagS (fun bs => ⟨[(37, cnd (bs.getD 0 false) (.osl 1000011)), (38, cnd (bs.getD 1 false) (.t kj (eI ((j : Int) + 1)))), (39, cnd (bs.getD 2 false) (.osl 1000011)), (40, cnd (bs.getD 3 false) (.t kj (eI ((j : Int) + 1)))), (41, cnd (bs.getD 4 false) (pI j)), (42, cnd (bs.getD 5 false) (.osl 1000011)), (43, cnd (bs.getD 6 false) (.t kj (eI ((j : Int) + 1)))), (44, cnd (bs.getD 7 false) (pI j)), (45, cnd (bs.getD 8 false) (.oep 1000011 2 j 0)), (46, cnd (bs.getD 9 false) (.t kr (.agg [eI (hdN ws[j]), eNs (tlN ws[j])]))), (47, cnd (bs.getD 10 false) (.osl 1000011)), (48, cnd (bs.getD 11 false) (.t kj (eI ((j : Int) + 1)))), (49, cnd (bs.getD 12 false) (.oep 1000011 2 (j + 1) 0)), (50, cnd (bs.getD 13 false) (.t kr (.agg [eI (hdN ws[j + 1]), eNs (tlN ws[j + 1])]))), (51, cnd (bs.getD 14 false) (.oep 1000011 2 (j + 1) 0)), (52, cnd (bs.getD 16 false) (.oep 1000011 2 j 0)), (9, .t kj (eI ((j : Int) + 1))), (8, .t kd (eI i)), (0, .osl 1000011), (1, .t ka (eI 0)), (2, .t kb (eI L.length)), (3, .clo 84 [])], [(1000011, .row 129 2 kr (if bs.getD 17 false then ((ws.set (j + 1) ws[j]).set j ws[j + 1]).map eKd else if bs.getD 15 false then (ws.set (j + 1) ws[j]).map eKd else ws.map eKd))]⟩) d168D d168T d168P mixed (by kernel_rfl) (le_of (by simp) (by simp)) ?_ ?_
      · unfold d168P
        simp -dsimp [he, hw1, z1, z2, z3, z4, z5, z6, -Bool.forall_bool]
        repeat' first
          | intro _
          | with_reducible apply And.intro
          | (refine le_of (by simp) ?_
             simp [List.map_set]; done)
          | (cases kr <;> (refine le_of (by simp) ?_; simp [List.map_set]; done))
      · simp -dsimp [he, hw1]
        refine LoopP_next (.fz, j, swp ws (j + 1)) (le_of (by simp [hsw]) (by simp [hsw])) ⟨hpm, by simp only; omega, hst⟩ (by simp only; omega)
    · have hS := ins_end hj hJ (.inr (by rw [g1, g2]; exact hlt))
      simp -dsimp [hj0, he, hw1, z1, z2, z3, z4, z5, z6]
      first
        | refine CallG.by (hc) ?_
        | refine CallGE.by (hc) ?_
        | refine CallGB.by (hc) ?_
      simp -dsimp [hlt]
      refine LoopP_next (.fz, i + 1, ws) (le_of (by simp [hwi]) (by simp)) ⟨hpw, by simp only; omega, by simp only; omega, hS⟩ (by simp only; omega)
end Go.Proofs.YtnikonhkbldnnaaDoor
/- LB11: slices.SortFunc of kinds: as few as there are here, it sorts by insertion. -/
set_option linter.unusedVariables false
set_option linter.unusedSimpArgs false
set_option maxRecDepth 20000
namespace Go.Proofs.YtnikonhkbldnnaaDoor
open Go Go.PS Go.Shelf
attribute [-simp] isKeyK List.map_take
theorem blen_spec (n : Nat) (h : n < 1000000) : PCall Tryd.prog 92 [.v (.int .u64 n)] (pI (Go.Lib.bitLen n : Nat)) [] := by
  refine ⟨call92, fun w S vals hG hS hs hr => ?_⟩
  have h0 := hr 0 _ rfl
  have hv : vals = #[.int .u64 (n : Int)] := by
    have h1 : vals.getD 0 Go.undef = .int .u64 (n : Int) := tv_inv h0
    have hsz : vals.size = 1 := by simpa using hs
    apply Array.ext (by simpa using hsz)
    intro i a b
    have : i = 0 := by simp at b; omega
    subst this
    simpa [Array.getD_eq_getD_getElem?, a] using h1
  subst hv
  have hc := Any.bits_Len (SlLaysF0.n15.bits (P := Tryd.prog) (ρ := Tryd.bitsRen) { Tryd.bits15 with }) (n : Int) w (by omega) (by omega)
  rw [Int.toNat_natCast] at hc
  refine Calls.mono hc ?_
  rintro e w' ⟨rfl, rfl⟩
  exact ⟨_, fun _ => Go.undef, fun _ _ => False, rfl, Evo.refl _ _, fun m g hg => hg, fun _ _ _ h1 _ => h1.elim, fun _ _ h1 => h1.elim, .t (.v _)⟩
/-- What sorting leaves. -/
def SortPost (L : List (List Nat)) (r : PV) (M' : List (Nat × Res)) : Prop := r = .tup [] ∧ ∃ ys : List (List Nat), L.Perm ys ∧ ys.Pairwise leK ∧ M' = [(1000011, .row 129 2 .ro (ys.map eKd))]
theorem pdq_spec (L : List (List Nat)) (hne : ∀ x ∈ L, x ≠ []) (h12 : L.length ≤ 12) (ka kb kc : Kind) (m : Int) :
    ECallP Tryd.prog 93 [.osl 1000011, .t ka (eI 0), .t kb (eI L.length), .t kc (eI m), .clo 84 []] [(1000011, .row 129 2 .ro (L.map eKd))] (SortPost L) := by
  refine ecallP_wp Tryd.func93 rfl (by kernel_rfl) ?_
  have hs := inssort_spec L hne (by omega) .fz .fz .ro
  have hw0 := wr (n := (L.length : Int)) (by omega) (by omega)
  have h12' : (L.length : Int) ≤ 12 := by omega
  simp -dsimp
  refine wk_loop (fun _ : Unit => ⟨[(0, .osl 1000011), (1, .t ka (eI 0)), (2, .t kb (eI L.length)), (3, .t kc (eI m)), (4, .clo 84 [])], [(1000011, .row 129 2 .ro (L.map eKd))]⟩)
    (fun _ => True) (fun _ => 0) () (le_of (by simp) (by simp)) trivial fun _ _ => ?_
  simp -dsimp [hw0, h12']
  refine CallG.onP (g := [(1000011, 1000011)]) hs (by decide) (by simp) (by simp) (by simp [Sg.bk]) fun r M' hP => ?_
  obtain ⟨rfl, ys, hp, hsd, rfl⟩ := hP
  simp -dsimp
  exact retEP_c (.tup []) [(1000011, .row 129 2 .ro (ys.map eKd))] ⟨rfl, ys, hp, hsd, rfl⟩ (by simp) (by simp)
theorem sortK_spec (L : List (List Nat)) (hne : ∀ x ∈ L, x ≠ []) (h12 : L.length ≤ 12) :
    ECallP Tryd.prog 83 [.osl 1000011, .clo 84 []] [(1000011, .row 129 2 .ro (L.map eKd))] (SortPost L) := by
  refine ecallP_wp Tryd.func83 rfl (by kernel_rfl) ?_
  have hb := blen_spec L.length (by omega)
  have hs := pdq_spec L hne h12 .fz .fz .fz (Go.Lib.bitLen L.length : Nat)
  have hu : IntKind.u64.wrap (L.length : Int) = L.length := by
    rw [IntKind.wrap_u64]
    omega
  generalize (Go.Lib.bitLen L.length : Nat) = m at *
  simp -dsimp [hu]
  first
    | refine CallG.by (hb) ?_
    | refine CallGE.by (hb) ?_
    | refine CallGB.by (hb) ?_
  simp -dsimp
  refine CallG.onP (g := [(1000011, 1000011)]) hs (by decide) (by simp) (by simp) (by simp [Sg.bk]) fun r M' hP => ?_
  obtain ⟨rfl, ys, hp, hsd, rfl⟩ := hP
  simp -dsimp
  exact retEP_c (.tup []) [(1000011, .row 129 2 .ro (ys.map eKd))] ⟨rfl, ys, hp, hsd, rfl⟩ (by simp) (by simp)
end Go.Proofs.YtnikonhkbldnnaaDoor
/- LB12: slices.Sort of numbers: as few as there are here, it sorts by insertion. -/
set_option linter.unusedVariables false
set_option linter.unusedSimpArgs false
set_option maxRecDepth 20000
namespace Go.Proofs.YtnikonhkbldnnaaDoor
open Go Go.PS
attribute [-simp] isKeyK List.map_take
def d157D : List (List Nat) := [[], [], [], [], [3], [], [], [6], [5, 6, 7], [5, 6, 7, 8], [], [], [10, 11], [10, 11, 12], [0, 1, 5, 6, 7, 8, 9, 10, 11, 12, 13], [0, 1, 5, 6, 7, 8, 9, 10, 11, 12, 13, 14], [0, 1, 2, 3, 4, 5, 6, 7, 8, 9, 10, 11, 12, 13, 14, 15], [0, 1, 2, 3, 4, 5, 6, 7, 8, 9, 10, 11, 12, 13, 14, 15, 16]]
def d157T : List Nat := [0, 1, 2, 3, 4, 5, 6, 7, 8, 9, 10, 11, 12, 13, 14, 15, 16, 17]
def d157P : List (List (Option Bool)) := [[some false, none, none, none, none, none, none, none, none, none, none, none, none, none, some false, some false, some false, some false], [none, some false, none, none, none, none, none, none, none, none, none, none, none, none, some false, some false, some false, some false], [none, none, some false, none, none, none, none, none, none, none, none, none, none, none, none, none, some false, some false], [none, none, none, some false, some false, none, none, none, none, none, none, none, none, none, none, none, some false, some false], [none, none, none, some true, some false, none, none, none, none, none, none, none, none, none, none, none, some false, some false], [none, none, none, none, none, some false, none, none, some false, some false, none, none, none, none, some false, some false, some false, some false], [none, none, none, none, none, none, some false, some false, some false, some false, none, none, none, none, some false, some false, some false, some false], [none, none, none, none, none, none, some true, some false, some false, some false, none, none, none, none, some false, some false, some false, some false], [none, none, none, none, none, some true, some true, some true, some false, some false, none, none, none, none, some false, some false, some false, some false], [none, none, none, none, none, some true, some true, some true, some true, some false, none, none, none, none, some false, some false, some false, some false], [none, none, none, none, none, none, none, none, none, none, some false, none, some false, some false, some false, some false, some false, some false], [none, none, none, none, none, none, none, none, none, none, none, some false, some false, some false, some false, some false, some false, some false], [none, none, none, none, none, none, none, none, none, none, some true, some true, some false, some false, some false, some false, some false, some false], [none, none, none, none, none, none, none, none, none, none, some true, some true, some true, some false, some false, some false, some false, some false], [some true, some true, none, none, none, some true, some true, some true, some true, some true, some true, some true, some true, some true, some false, some false, some false, some false], [some true, some true, none, none, none, some true, some true, some true, some true, some true, some true, some true, some true, some true, some true, some false, some false, some false], [some true, some true, some true, some true, some true, some true, some true, some true, some true, some true, some true, some true, some true, some true, some true, some true, some false, some false], [some true, some true, some true, some true, some true, some true, some true, some true, some true, some true, some true, some true, some true, some true, some true, some true, some true, some false]]
theorem less_spec (x y : Int) : PCall Tryd.prog 106 [eI x, eI y] (pB (decide (x < y))) [] := by
  refine pcall_wp _ Tryd.func106 rfl (by kernel_rfl) rfl ?_
  have hn1 := nan_spec x
  simp -dsimp
  first
    | refine CallG.by (hn1) ?_
    | refine CallGE.by (hn1) ?_
    | refine CallGB.by (hn1) ?_
  simp -dsimp
  refine retP_c ?_
  simp -dsimp
def sg (l : List Nat) : List (List Nat) := l.map fun x => [x]
theorem sg_len (l : List Nat) : (sg l).length = l.length := by simp [sg]
theorem sg_get {l : List Nat} {i : Nat} (h : i < l.length) : gK (sg l) i = [l[i]] := by simp [gK, sg, List.getD_eq_getElem?_getD, h]
theorem sg_back {l m : List Nat} (h : (sg l).Perm (sg m)) : l.Perm m := by
  have := h.map fun x => x.headD 0
  simpa [sg, List.map_map, Function.comp_def] using this
theorem sg_lt (x y : Nat) : cmpN [x] [y] < 0 ↔ x < y := by
  simp only [cmpN]
  repeat' split
  all_goals simp
  all_goals omega
theorem iL_set (l : List Nat) (i x : Nat) : iL (l.set i x) = (iL l).set i (x : Int) := by simp [iL, List.map_set]
theorem sg_swp {ws : List Nat} {j : Nat} (z1 : j + 1 < ws.length) : swp (sg ws) (j + 1) = sg ((ws.set (j + 1) ws[j]).set j ws[j + 1]) := by
  unfold swp
  rw [Nat.add_sub_cancel, sg_get z1, sg_get (show j < ws.length by omega)]
  simp [sg, List.map_set]
theorem sg_sorted {l : List Nat} (h : (sg l).Pairwise leK) : l.Pairwise (· ≤ ·) := by
  unfold sg at h
  rw [List.pairwise_map] at h
  refine h.imp fun {a b} hab => ?_
  unfold leK at hab
  rw [sg_lt] at hab
  omega
set_option maxHeartbeats 2000000 in
theorem insI_spec (L : List Nat) (h100 : L.length ≤ 100) :
    ECallP Tryd.prog 100 [.osl 1000011, .t .fz (eI 0), .t .fz (eI L.length)] [(1000011, .row 3 1 .ro ((iL L).map cI))]
      fun r M' => r = .tup [] ∧ M' = [(1000011, .row 3 1 .ro ((iL (srtN L)).map cI))] := by
  refine ecallP_wp Tryd.func100 rfl (by kernel_rfl) ?_
  have hw1 : IntKind.i64.wrap 1 = 1 := by decide
  simp -dsimp [hw1]
  refine wk_loop (fun p : Kind × Nat × List Nat => ⟨[(6, .t p.1 (eI p.2.1)), (0, .osl 1000011), (1, .t .fz (eI 0)), (2, .t .fz (eI L.length))], [(1000011, .row 3 1 .ro ((iL p.2.2).map cI))]⟩)
    (fun p => L.Perm p.2.2 ∧ 1 ≤ p.2.1 ∧ p.2.1 ≤ 101 ∧ SrtTo (sg p.2.2) p.2.1) (fun p => L.length - p.2.1) (.fz, 1, L)
    (le_of (by simp) (by simp)) ⟨.refl _, by simp, by simp, fun p q hpq hq => by simp only at hq; omega⟩ fun ⟨kd, i, zs⟩ ⟨hp, hi1, hi2, hs⟩ => ?_
  dsimp only at hp hi1 hi2 hs
  have hl := hp.length_eq
  simp -dsimp
  refine condX_dec (fun h => ?_) (fun h => ?_)
  rotate_left
  · have hsp : zs.Pairwise (· ≤ ·) := sg_sorted (srt_pairwise fun p q hpq hq => hs p q hpq (by rw [sg_len] at hq; omega))
    have hS : zs = srtN L := srtN_of hsp hp.symm
    simp -dsimp
    exact retEP_c (.tup []) [(1000011, .row 3 1 .ro ((iL zs).map cI))] ⟨rfl, by rw [hS]⟩ (by simp) (by simp)
  have hwi := wr (n := (i : Int) + 1) (by omega) (by omega)
  simp -dsimp
  refine wk_loop (fun p : Kind × Nat × List Nat => ⟨[(7, .t p.1 (eI p.2.1)), (6, .t kd (eI i)), (0, .osl 1000011), (1, .t .fz (eI 0)), (2, .t .fz (eI L.length))], [(1000011, .row 3 1 .ro ((iL p.2.2).map cI))]⟩)
    (fun p => L.Perm p.2.2 ∧ p.2.1 ≤ i ∧ InsJ (sg p.2.2) i p.2.1) (fun p => p.2.1) (kd, i, zs)
    (le_of (by simp) (by simp)) ⟨hp, Nat.le_refl _, ins_start hs⟩ fun ⟨kj, j, ws⟩ ⟨hpw, hj, hJ⟩ => ?_
  dsimp only at hpw hj hJ
  have hlw := hpw.length_eq
  simp -dsimp
  refine wk_draw 13 [] mixed (by kernel_rfl) ?_
  cases j with
  | zero =>
    have hS := ins_end hj hJ (.inl rfl)
    simp -dsimp
    refine LoopP_next (.fz, i + 1, ws) (le_of (by simp [hwi]) (by simp)) ⟨hpw, by simp only; omega, by simp only; omega, hS⟩ (by simp only; omega)
  | succ j =>
    have z1 : j + 1 < ws.length := by omega
    have z2 : j < ws.length := by omega
    have hw1 := wr (n := (j : Int) + 1 - 1) (by omega) (by omega)
    have he : (j : Int) + 1 - 1 = j := by omega
    rw [he] at hw1
    have hj0 : (0 : Int) < (j : Int) + 1 := by omega
    have z3 : (j : Int) + 1 < ws.length := by omega
    have z4 : (j : Int) < ws.length := by omega
    have z5 : (0 : Int) ≤ (j : Int) + 1 := by omega
    have z6 : (0 : Int) ≤ (j : Int) := by omega
    have hc := less_spec (ws[j + 1] : Nat) (ws[j] : Nat)
    have q1 := iL_get ws (j + 1) z1
    have q2 := iL_get ws j z2
    have g1 := sg_get z1
    have g2 : gK (sg ws) (j + 1 - 1) = [ws[j]] := sg_get z2
    by_cases hlt : ws[j + 1] < ws[j]
    · have hst := ins_step (zs := sg ws) (i := i) (j := j + 1) (by rw [sg_len]; omega) (by omega) hj hJ (by rw [g1, g2]; exact (sg_lt _ _).2 hlt)
      have hsw := sg_swp z1
      rw [hsw] at hst
      have hpm := hpw.trans (sg_back (hsw ▸ (swp_perm (zs := sg ws) (j := j + 1) (by rw [sg_len]; omega) (by omega)))).symm
      have hltI : ((ws[j + 1] : Nat) : Int) < ((ws[j] : Nat) : Int) := by omega
      rw [decide_eq_true hltI] at hc
      simp -dsimp [hj0, he, hw1, z1, z2, z3, z4, z5, z6, q1, q2]
      first
        | refine CallG.by (hc) ?_
        | refine CallGE.by (hc) ?_
        | refine CallGB.by (hc) ?_
      simp -dsimp
      refine wk_dagS (fun bs => ⟨[(33, cnd (bs.getD 0 false) (.osl 1000011)), (34, cnd (bs.getD 1 false) (.t kj (eI ((j : Int) + 1)))), (35, cnd (bs.getD 2 false) (.osl 1000011)), (36, cnd (bs.getD 3 false) (.t kj (eI ((j : Int) + 1)))), (37, cnd (bs.getD 4 false) (pI j)), (38, cnd (bs.getD 5 false) (.osl 1000011)), (39, cnd (bs.getD 6 false) (.t kj (eI ((j : Int) + 1)))), (40, cnd (bs.getD 7 false) (pI j)), (41, cnd (bs.getD 8 false) (.oep 1000011 1 j 0)), (42, cnd (bs.getD 9 false) (.t .ro (eI (ws[j] : Nat)))), (43, cnd (bs.getD 10 false) (.osl 1000011)), (44, cnd (bs.getD 11 false) (.t kj (eI ((j : Int) + 1)))), (45, cnd (bs.getD 12 false) (.oep 1000011 1 (j + 1) 0)), (46, cnd (bs.getD 13 false) (.t .ro (eI (ws[j + 1] : Nat)))), (47, cnd (bs.getD 14 false) (.oep 1000011 1 (j + 1) 0)), (48, cnd (bs.getD 16 false) (.oep 1000011 1 j 0)), (7, .t kj (eI ((j : Int) + 1))), (6, .t kd (eI i)), (0, .osl 1000011), (1, .t .fz (eI 0)), (2, .t .fz (eI L.length))], [(1000011, .row 3 1 .ro (if bs.getD 17 false then (iL ((ws.set (j + 1) ws[j]).set j ws[j + 1])).map cI else if bs.getD 15 false then (iL (ws.set (j + 1) ws[j])).map cI else (iL ws).map cI))]⟩) d157D d157T d157P mixed (by kernel_rfl) (le_of (by simp) (by simp)) ?_ ?_
      · unfold d157P
        simp -dsimp [he, hw1, z1, z2, z3, z4, z5, z6, q1, q2, -Bool.forall_bool]
        repeat' first
          | intro _
          | with_reducible apply And.intro
          | (refine le_of (by simp) ?_
             simp [iL_set, List.map_set]; done)
      · simp -dsimp [he, hw1]
        refine LoopP_next (.fz, j, (ws.set (j + 1) ws[j]).set j ws[j + 1]) (le_of (by simp) (by simp)) ⟨hpm, by simp only; omega, hst⟩ (by simp only; omega)
    · have hS := ins_end hj hJ (.inr (by rw [g1, g2, sg_lt]; exact hlt))
      have hltI : ¬ ((ws[j + 1] : Nat) : Int) < ((ws[j] : Nat) : Int) := by omega
      rw [decide_eq_false hltI] at hc
      simp -dsimp [hj0, he, hw1, z1, z2, z3, z4, z5, z6, q1, q2]
      first
        | refine CallG.by (hc) ?_
        | refine CallGE.by (hc) ?_
        | refine CallGB.by (hc) ?_
      simp -dsimp
      refine LoopP_next (.fz, i + 1, ws) (le_of (by simp [hwi]) (by simp)) ⟨hpw, by simp only; omega, by simp only; omega, hS⟩ (by simp only; omega)
end Go.Proofs.YtnikonhkbldnnaaDoor
/- LB13: slices.Sort of at most 12 numbers. -/
set_option linter.unusedVariables false
set_option linter.unusedSimpArgs false
set_option maxRecDepth 20000
namespace Go.Proofs.YtnikonhkbldnnaaDoor
open Go Go.PS
attribute [-simp] isKeyK List.map_take
def SortIPost (L : List Nat) (r : PV) (M' : List (Nat × Res)) : Prop := r = .tup [] ∧ M' = [(1000011, .row 3 1 .ro ((iL (srtN L)).map cI))]
theorem pdqI_spec (L : List Nat) (h12 : L.length ≤ 12) (m : Int) :
    ECallP Tryd.prog 91 [.osl 1000011, .t .fz (eI 0), .t .fz (eI L.length), .t .fz (eI m)] [(1000011, .row 3 1 .ro ((iL L).map cI))] (SortIPost L) := by
  refine ecallP_wp Tryd.func91 rfl (by kernel_rfl) ?_
  have hs := insI_spec L (by omega)
  have hw0 := wr (n := (L.length : Int)) (by omega) (by omega)
  have h12' : (L.length : Int) ≤ 12 := by omega
  simp -dsimp
  refine wk_loop (fun _ : Unit => ⟨[(0, .osl 1000011), (1, .t .fz (eI 0)), (2, .t .fz (eI L.length)), (3, .t .fz (eI m))], [(1000011, .row 3 1 .ro ((iL L).map cI))]⟩)
    (fun _ => True) (fun _ => 0) () (le_of (by simp) (by simp)) trivial fun _ _ => ?_
  simp -dsimp [hw0, h12']
  refine CallG.onP (g := [(1000011, 1000011)]) hs (by decide) (by simp) (by simp) (by simp [Sg.bk]) fun r M' hP => ?_
  obtain ⟨rfl, rfl⟩ := hP
  simp -dsimp
  exact retEP_c (.tup []) [(1000011, .row 3 1 .ro ((iL (srtN L)).map cI))] ⟨rfl, rfl⟩ (by simp) (by simp)
theorem sortI_spec (L : List Nat) (h12 : L.length ≤ 12) :
    ECallP Tryd.prog 81 [.osl 1000011] [(1000011, .row 3 1 .ro ((iL L).map cI))] (SortIPost L) := by
  refine ecallP_wp Tryd.func81 rfl (by kernel_rfl) ?_
  have hb := blen_spec L.length (by omega)
  have hs := pdqI_spec L h12 (Go.Lib.bitLen L.length : Nat)
  have hu : IntKind.u64.wrap (L.length : Int) = L.length := by
    rw [IntKind.wrap_u64]
    omega
  generalize (Go.Lib.bitLen L.length : Nat) = m at *
  simp -dsimp [hu]
  first
    | refine CallG.by (hb) ?_
    | refine CallGE.by (hb) ?_
    | refine CallGB.by (hb) ?_
  simp -dsimp
  refine CallG.onP (g := [(1000011, 1000011)]) hs (by decide) (by simp) (by simp) (by simp [Sg.bk]) fun r M' hP => ?_
  obtain ⟨rfl, rfl⟩ := hP
  simp -dsimp
  exact retEP_c (.tup []) [(1000011, .row 3 1 .ro ((iL (srtN L)).map cI))] ⟨rfl, rfl⟩ (by simp) (by simp)
end Go.Proofs.YtnikonhkbldnnaaDoor
/- LB14: slices.CompactFunc of kinds. -/
set_option linter.unusedVariables false
set_option linter.unusedSimpArgs false
set_option maxRecDepth 20000
namespace Go.Proofs.YtnikonhkbldnnaaDoor
open Go Go.PS
attribute [-simp] isKeyK List.map_take
theorem drop_gK {l : List (List Nat)} {i : Nat} (h : i < l.length) : l.drop i = gK l i :: l.drop (i + 1) := by
  rw [List.drop_eq_getElem_cons h]
  simp [gK, List.getD_eq_getElem?_getD, h]
theorem take_gK {l : List (List Nat)} {i : Nat} (h : i < l.length) : l.take (i + 1) = l.take i ++ [gK l i] := by
  rw [List.take_add_one]
  simp [gK, List.getD_eq_getElem?_getD, h]
def CmpPostK (l : List (List Nat)) (r : PV) (M : List (Nat × Res)) : Prop :=
  ∃ (zs : List (List Nat)) (tl : List (List TL)), M = [(1000011, .row 129 2 .ro (zs.map eKd ++ tl))] ∧ zs = cmpK l ∧ ((r = .osl 1000011 ∧ tl = []) ∨ (r = .osv 1000011 2 0 zs.length ∧ 0 < zs.length))
/-- Nothing, or one: it stays. -/
theorem compactK_few (l : List (List Nat)) (h2 : (l.length : Int) < 2) : ECallP Tryd.prog 85 [.osl 1000011, .clo 86 []] [(1000011, .row 129 2 .ro (l.map eKd))] (CmpPostK l) := by
  refine ecallP_wp Tryd.func85 rfl (by kernel_rfl) ?_
  simp -dsimp [h2]
  have hF : cmpK l = l := by
    match l, h2 with
    | [], _ => rfl
    | [x], _ => rfl
    | _ :: _ :: _, h => simp at h; omega
  exact retEP_c (.osl 1000011) [(1000011, .row 129 2 .ro (l.map eKd))] ⟨l, [], by simp, hF.symm, .inl ⟨rfl, rfl⟩⟩ (by simp) (by simp)
set_option maxHeartbeats 1000000 in
theorem compactK_spec (l : List (List Nat)) (hne : ∀ x ∈ l, x ≠ []) (hl : l.length ≤ 1000) : ECallP Tryd.prog 85 [.osl 1000011, .clo 86 []] [(1000011, .row 129 2 .ro (l.map eKd))] (CmpPostK l) := by
  by_cases h2 : (l.length : Int) < 2
  · exact compactK_few l h2
  refine ecallP_wp Tryd.func85 rfl (by kernel_rfl) ?_
  simp -dsimp [h2]
  refine wk_loop (fun p : Kind × Nat => ⟨[(5, .t p.1 (eI p.2)), (0, .osl 1000011), (1, .clo 86 [])], [(1000011, .row 129 2 .ro (l.map eKd))]⟩)
    (fun p => 1 ≤ p.2 ∧ p.2 ≤ l.length ∧ cmpK l = l.take p.2 ++ cgoK (gK l (p.2 - 1)) (l.drop p.2)) (fun p => l.length - p.2) (.fz, 1)
    (le_of (by simp) (by simp)) ⟨by simp, by simp only; omega, by
      cases l with
      | nil => simp at h2
      | cons x l => simp [cmpK, gK]⟩ fun ⟨kd, i⟩ ⟨hi1, hi, hr⟩ => ?_
  dsimp only at hi1 hi hr
  simp -dsimp
  refine condX_dec (fun h => ?_) (fun h => ?_)
  · have hw := wr (n := (i : Int) + 1) (by omega) (by omega)
    have he : (i : Int) - 1 = ((i - 1 : Nat) : Int) := by omega
    have hw1 := wr (n := ((i - 1 : Nat) : Int)) (by omega) (by omega)
    have h' : i - 1 < l.length := by omega
    have hi0 : ((i - 1 : Nat) : Int) < l.length := by omega
    have q1 : gK l i = l[i] := by simp [gK, List.getD_eq_getElem?_getD, h]
    have q2 : gK l (i - 1) = l[i - 1] := by simp [gK, List.getD_eq_getElem?_getD, h']
    rw [q2, drop_gK h, q1] at hr
    have hP := closure132 l[i] l[i - 1] (hne _ (List.getElem_mem h)) (hne _ (List.getElem_mem h'))
    simp -dsimp
    refine wk_draw 10 [] mixed (by kernel_rfl) ?_
    by_cases hq : l[i] = l[i - 1]
    · rw [decide_eq_true hq] at hP
      simp -dsimp [he, hw1, h, h', hi0]
      first
        | refine CallG.by (hP) ?_
        | refine CallGE.by (hP) ?_
        | refine CallGB.by (hP) ?_
      simp -dsimp [he, hw1, h, h', hi0]
      refine wk_loop (fun p : Kind × Nat × Nat × List (List Nat) => ⟨[(7, pI p.2.1), (6, .osv 1000011 2 i (l.length - i)), (5, .t p.1 (eI p.2.2.1)), (0, .osl 1000011), (1, .clo 86 [])], [(1000011, .row 129 2 .ro (p.2.2.2.map eKd))]⟩)
        (fun p => 1 ≤ p.2.1 ∧ i + p.2.1 ≤ l.length ∧ i ≤ p.2.2.1 ∧ p.2.2.1 + 1 ≤ i + p.2.1 ∧ p.2.2.2.length = l.length ∧ (∀ a, i + p.2.1 ≤ a + 1 → gK p.2.2.2 a = gK l a) ∧ cmpK l = p.2.2.2.take p.2.2.1 ++ cgoK (gK l (i + p.2.1 - 1)) (l.drop (i + p.2.1))) (fun p => l.length - (i + p.2.1)) (kd, 1, i, l)
        (le_of (by simp) (by simp)) ⟨by simp, by simp only; omega, by simp, by simp, rfl, fun a _ => rfl, by
          simp only [Nat.add_sub_cancel, q1]
          rw [hr, cgoK, if_pos hq]⟩ fun ⟨k3, j, c, zs⟩ ⟨hj1, hj, hc1, hc2, hzl, hza, hzr⟩ => ?_
      dsimp only at hj1 hj hc1 hc2 hzl hza hzr
      simp -dsimp
      refine condX_dec (fun hx => ?_) (fun hx => ?_)
      · have ha : i + j < l.length := by omega
        have hwj := wr (n := (j : Int) + 1) (by omega) (by omega)
        have hwc := wr (n := (c : Int) + 1) (by omega) (by omega)
        have hej : (j : Int) - 1 = ((j - 1 : Nat) : Int) := by omega
        have hwj1 := wr (n := ((j - 1 : Nat) : Int)) (by omega) (by omega)
        have z1 : i + j < zs.length := by omega
        have z2 : i + (j - 1) < zs.length := by omega
        have z0 : c < zs.length := by omega
        have zc : (c : Int) < zs.length := by omega
        have hv1 : j - 1 < l.length - i := by omega
        have hv3 : i + (l.length - i) ≤ zs.length := by omega
        have hz1 := hza (i + j) (by omega)
        have hz2 := hza (i + (j - 1)) (by omega)
        have r1 : gK zs (i + j) = zs[i + j] := by simp [gK, List.getD_eq_getElem?_getD, z1]
        have r2 : gK zs (i + (j - 1)) = zs[i + (j - 1)] := by simp [gK, List.getD_eq_getElem?_getD, z2]
        have m1 : zs[i + j] ∈ l := by
          rw [← r1, hz1]
          simp [gK, List.getD_eq_getElem?_getD, ha]
        have m2 : zs[i + (j - 1)] ∈ l := by
          have : i + (j - 1) < l.length := by omega
          rw [← r2, hz2]
          simp [gK, List.getD_eq_getElem?_getD, this]
        have hP2 := closure132 zs[i + j] zs[i + (j - 1)] (hne _ m1) (hne _ m2)
        have hzr2 : cmpK l = zs.take c ++ cgoK zs[i + (j - 1)] (zs[i + j] :: l.drop (i + (j + 1))) := by
          rw [hzr, drop_gK ha, ← r1, hz1, ← r2, hz2, show i + j - 1 = i + (j - 1) by omega]
          rfl
        simp -dsimp
        refine wk_draw 10 [] mixed (by kernel_rfl) ?_
        by_cases hq2 : zs[i + j] = zs[i + (j - 1)]
        · rw [decide_eq_true hq2] at hP2
          simp -dsimp [hx, hej, hwj1, z1, z2, hv1, hv3]
          first
            | refine CallG.by (hP2) ?_
            | refine CallGE.by (hP2) ?_
            | refine CallGB.by (hP2) ?_
          simp -dsimp
          refine LoopP_next (k3, j + 1, c, zs) (le_of (by simp [hwj]) (by simp)) ⟨by simp only; omega, by simp only; omega, hc1, by simp only; omega, hzl, fun a ha => hza a (by simp only at ha; omega), ?_⟩ (by simp only; omega)
          simp only
          rw [hzr2, cgoK, if_pos hq2, show i + (j + 1) - 1 = i + j by omega, ← hz1, r1]
        · rw [decide_eq_false hq2] at hP2
          simp -dsimp [hx, hej, hwj1, z1, z2, hv1, hv3, zc, z0]
          first
            | refine CallG.by (hP2) ?_
            | refine CallGE.by (hP2) ?_
            | refine CallGB.by (hP2) ?_
          simp -dsimp [hx, hej, hwj1, z1, z2, hv1, hv3, zc, z0]
          refine LoopP_next (.fz, j + 1, c + 1, zs.set c zs[i + j]) (le_of (by simp [hwj, hwc]) (by simp [List.map_set])) ⟨by simp only; omega, by simp only; omega, by simp only; omega, by simp only; omega, by simpa using hzl, fun a ha => ?_, ?_⟩ (by simp only; omega)
          · simp only at ha ⊢
            rw [← hza a (by omega)]
            simp [gK, List.getD_eq_getElem?_getD, List.getElem?_set_ne (show c ≠ a by omega)]
          · simp only
            have e1 : (zs.set c zs[i + j]).take (c + 1) = zs.take c ++ [zs[i + j]] := by
              rw [List.take_add_one, List.take_set_of_le (by omega)]
              simp [z0]
            rw [hzr2, cgoK, if_neg hq2, show i + (j + 1) - 1 = i + j by omega, ← hz1, r1, e1, List.append_assoc]
            rfl
      · have hjl : i + j = l.length := by omega
        have z0 : c < zs.length := by omega
        have zc : (c : Int) < zs.length := by omega
        have hc0 : (0 : Int) ≤ c := by omega
        have hcp : (0 : Int) < c := by omega
        have hfin : zs.take c = cmpK l := by rw [hzr, hjl, List.drop_length, cgoK, List.append_nil]
        have hsp : c + (zs.length - c) ≤ zs.length := by omega
        have hsp0 : 0 < zs.length - c := by omega
        obtain ⟨tl, htl⟩ : ∃ tl, tl = List.replicate (zs.length - c) [TL.v (Value.int IntKind.i64 0), TL.v (Value.slice none 0 0)] := ⟨_, rfl⟩
        have hlen : (zs.take c).length = c := by simp; omega
        have hrow : List.take c (List.map eKd zs) ++ (List.replicate (zs.length - c) [TL.v (Value.int IntKind.i64 0), TL.v (Value.slice none 0 0)] ++ List.drop (c + (zs.length - c)) (List.map eKd zs)) = (zs.take c).map eKd ++ tl := by
          rw [List.drop_eq_nil_of_le (by simp; omega), htl]
          simp [List.map_take]
        have htll : tl.length = zs.length - c := by rw [htl]; simp
        rw [hfin] at hrow hlen
        generalize hks : cmpK l = ks at hrow hlen
        have z4 : (c : Int) ≤ (ks.map eKd ++ tl).length := by simp; omega
        have hcn : 0 < c := by omega
        have z5 : c ≤ ks.length + tl.length := by omega
        have z6 : (c : Int) ≤ (ks.length : Int) + tl.length := by omega
        simp -dsimp [zc, z0, hc0, hcp, hsp, hsp0, hrow, z4, hcn, z5, z6]
        exact retEP_c (.osv 1000011 2 0 c) [(1000011, .row 129 2 .ro (ks.map eKd ++ tl))] ⟨ks, tl, rfl, hks.symm, .inr ⟨by rw [hlen], by omega⟩⟩ (by simp) (by simp)
    · rw [decide_eq_false hq] at hP
      simp -dsimp [he, hw1, h, h', hi0]
      first
        | refine CallG.by (hP) ?_
        | refine CallGE.by (hP) ?_
        | refine CallGB.by (hP) ?_
      simp -dsimp
      refine LoopP_next (.fz, i + 1) (le_of (by simp [hw]) (by simp)) ⟨by simp only; omega, by simp only; omega, ?_⟩ (by simp only; omega)
      have e1 : l.take (i + 1) = l.take i ++ [l[i]] := by rw [take_gK h, q1]
      simp only [Nat.add_sub_cancel, q1]
      rw [e1, hr, cgoK, if_neg hq, List.append_assoc]
      rfl
  · have hi' : i = l.length := by omega
    subst hi'
    have hF : cmpK l = l := by rw [hr, List.drop_length, cgoK, List.append_nil, List.take_length]
    simp -dsimp
    exact retEP_c (.osl 1000011) [(1000011, .row 129 2 .ro (l.map eKd))] ⟨l, [], by simp, hF.symm, .inl ⟨rfl, rfl⟩⟩ (by simp) (by simp)
end Go.Proofs.YtnikonhkbldnnaaDoor
/- LB15: slices.BinarySearchFunc of kinds; slices.Max; different. -/
set_option linter.unusedVariables false
set_option linter.unusedSimpArgs false
set_option maxRecDepth 20000
namespace Go.Proofs.YtnikonhkbldnnaaDoor
open Go Go.PS
attribute [-simp] isKeyK List.map_take
theorem ris_lt {S : List (List Nat)} (hS : Ris S) {i j : Nat} (hij : i < j) (hj : j < S.length) : cmpN (gK S i) (gK S j) < 0 := by
  have := List.pairwise_iff_getElem.1 hS i j (by omega) hj hij
  simpa [gK, List.getD_eq_getElem?_getD, hj, show i < S.length by omega] using this
theorem rk_where {S : List (List Nat)} (hS : Ris S) {p : List Nat} (hp : p ∈ S) {i : Nat} (h0 : i ≤ S.length) (h1 : ∀ a, a < i → cmpN (gK S a) p < 0) (h2 : ∀ a, i ≤ a → a < S.length → ¬ cmpN (gK S a) p < 0) : i = rkL S p ∧ i < S.length ∧ gK S i = p := by
  obtain ⟨hl, he⟩ := rk_get hS hp
  have hg : gK S (rkL S p) = p := by simpa [gK, List.getD_eq_getElem?_getD, hl] using he
  have : i = rkL S p := by
    rcases Nat.lt_trichotomy i (rkL S p) with h | h | h
    · exfalso
      have a1 := ris_lt hS h hl
      rw [hg] at a1
      exact h2 i (Nat.le_refl _) (by omega) a1
    · exact h
    · exfalso
      have a1 := h1 _ h
      rw [hg, cmpN_self] at a1
      omega
  subst this
  exact ⟨rfl, hl, hg⟩
theorem half_fdiv (a b : Nat) : ((a : Int) + (b : Int)).fdiv (2 ^ min 1 IntKind.u64.bits) = (((a + b) / 2 : Nat) : Int) := by
  have e : (2 : Int) ^ min 1 IntKind.u64.bits = 2 := by decide
  rw [e]
  have := Int.ofNat_fdiv (a + b) 2
  rw [← Int.natCast_add]
  exact this.symm
theorem bsK_spec (S : List (List Nat)) (p : List Nat) (hS : Ris S) (hne : ∀ x ∈ S, x ≠ []) (hp : p ∈ S) (hl : S.length ≤ 100) :
    PCall Tryd.prog 87 [.sl .any 2 (S.map eKd), .agg (eKd p), .clo 84 []] (.t .fz (.tup [eI (rkL S p : Nat), eB true])) [] := by
  refine pcall_wp _ Tryd.func87 rfl (by kernel_rfl) rfl ?_
  have hpn := hne p hp
  simp -dsimp
  refine wk_loop (fun q : Nat × Nat => ⟨[(9, pI q.1), (10, pI q.2), (8, pI S.length), (4, .ptr 4 0), (0, .t .ro (.sl .any 2 (S.map eKd))), (2, .t .ro (.clo 84 []))], [(4, .blk 129 [.t .ro (eI (hdN p)), .t .ro (eNs (tlN p))])]⟩)
    (fun q => q.1 ≤ q.2 ∧ q.2 ≤ S.length ∧ (∀ a, a < q.1 → cmpN (gK S a) p < 0) ∧ ∀ a, q.2 ≤ a → a < S.length → ¬ cmpN (gK S a) p < 0) (fun q => q.2 - q.1) (0, S.length)
    (le_of (by simp) (by simp)) ⟨by simp, by simp, fun a h => by simp at h, fun a h1 h2 => by simp only at h1; omega⟩ fun ⟨i, j⟩ ⟨hij, hj, h1, h2⟩ => ?_
  dsimp only at hij hj h1 h2
  simp -dsimp
  refine condX_dec (fun h => ?_) (fun h => ?_)
  · have hw := wr (n := (i : Int) + j) (by omega) (by omega)
    have hu : IntKind.u64.wrap ((i : Int) + j) = (i : Int) + j := by
      rw [IntKind.wrap_u64]
      omega
    have hh := half_fdiv i j
    have hm1 : i ≤ (i + j) / 2 := by omega
    have hm2 : (i + j) / 2 < j := by omega
    generalize (i + j) / 2 = m at hh hm1 hm2
    have hwm := wr (n := (m : Int)) (by omega) (by omega)
    have hwm1 := wr (n := (m : Int) + 1) (by omega) (by omega)
    have z1 : m < S.length := by omega
    have q1 : gK S m = S[m] := by simp [gK, List.getD_eq_getElem?_getD, z1]
    have hc := compare_spec S[m] p (hne _ (List.getElem_mem z1)) hpn
    simp -dsimp [hw, hu, hh, hwm]
    refine wk_draw 6 [] mixed (by kernel_rfl) ?_
    simp -dsimp [z1]
    first
      | refine CallG.by (hc) ?_
      | refine CallGE.by (hc) ?_
      | refine CallGB.by (hc) ?_
    by_cases hlt : cmpN S[m] p < 0
    · simp -dsimp [hlt]
      refine LoopP_next (m + 1, j) (le_of (by simp [hwm1]) (by simp)) ⟨by simp only; omega, hj, fun a ha => ?_, h2⟩ (by simp only; omega)
      simp only at ha
      rcases Nat.lt_or_ge a m with h5 | h5
      · have a1 := ris_lt hS h5 z1
        rw [q1] at a1
        exact cmpN_trans a1 hlt
      · rw [show a = m by omega, q1]
        exact hlt
    · simp -dsimp [hlt]
      refine LoopP_next (i, m) (le_of (by simp) (by simp)) ⟨by simp only; omega, by simp only; omega, h1, fun a ha hal => ?_⟩ (by simp only; omega)
      simp only at ha
      rcases Nat.lt_or_ge m a with h5 | h5
      · intro hx
        have a1 := ris_lt hS h5 hal
        rw [q1] at a1
        exact hlt (cmpN_trans a1 hx)
      · rw [show a = m by omega, q1]
        exact hlt
  · have hij' : i = j := by omega
    subst hij'
    obtain ⟨hr, hil, hg⟩ := rk_where hS hp hj h1 h2
    have q1 : gK S i = S[i] := by simp [gK, List.getD_eq_getElem?_getD, hil]
    rw [q1] at hg
    have hc := compare_spec S[i] p (hne _ (List.getElem_mem hil)) hpn
    rw [hg, cmpN_self] at hc
    simp -dsimp
    refine wk_draw 15 [11] mixed (by kernel_rfl) ?_
    simp -dsimp [hil, hg]
    first
      | refine CallG.by (hc) ?_
      | refine CallGE.by (hc) ?_
      | refine CallGB.by (hc) ?_
    simp -dsimp
    refine retP_c ?_
    simp -dsimp [hr]
end Go.Proofs.YtnikonhkbldnnaaDoor
/- LB16: slices.Max, different; towns side by side. -/
set_option linter.unusedVariables false
set_option linter.unusedSimpArgs false
set_option maxRecDepth 20000
namespace Go.Proofs.YtnikonhkbldnnaaDoor
open Go Go.PS
attribute [-simp] isKeyK List.map_take
theorem most_snoc (l : List Nat) (x : Nat) : mostN (l ++ [x]) = max (mostN l) (x + 1) := by simp [mostN, List.foldl_append]
theorem take_at {l : List Nat} {i : Nat} (h : i < l.length) : l.take (i + 1) = l.take i ++ [l.getD i 0] := by
  rw [List.take_add_one]
  simp [List.getD_eq_getElem?_getD, h]
theorem max_spec (l : List Nat) (h0 : l ≠ []) (hb : ∀ x ∈ l, x < 1000000) : PCall Tryd.prog 75 [eNs l] (pI ((mostN l : Nat) - 1 : Int)) [] := by
  refine pcall_sl 0 rfl call75 fun hlen => ?_
  simp only [List.length_map, iL_length] at hlen
  have hpos : 0 < l.length := List.length_pos_iff.2 h0
  have q0 := iL_at (l := l) (i := 0) hpos
  have e1 : ((mostN (l.take 1) : Nat) : Int) - 1 = ((l.getD 0 0 : Nat) : Int) := by
    rw [take_at hpos, most_snoc]
    simp [mostN]
  refine pcall_wp _ Tryd.func75 rfl (by kernel_rfl) rfl ?_
  have hn1 : ¬ (l.length : Int) < 1 := by omega
  have hpI : (0 : Int) < l.length := by omega
  generalize l.getD 0 0 = x0 at q0 e1
  have q0' : ∀ hh : 0 < (iL l).length, (iL l)[0]'hh = (x0 : Int) := fun hh => by
    rw [List.getElem?_eq_getElem hh] at q0
    exact Option.some.inj q0
  simp -dsimp [hn1, hpI, hpos, q0, q0']
  refine wk_loop (fun p : Kind × Nat => ⟨[(3, .t p.1 (eI ((mostN (l.take p.2) : Nat) - 1 : Int))), (4, pI p.2), (0, .t .ro (eNs l)), (2, pI 0)], []⟩)
    (fun p => 1 ≤ p.2 ∧ p.2 ≤ l.length) (fun p => l.length - p.2) (.ro, 1)
    (le_of (by simp [e1, q0']) (by simp)) ⟨by simp, by simp only; omega⟩ fun ⟨k, i⟩ ⟨hi1, hi⟩ => ?_
  dsimp only at hi1 hi
  simp -dsimp
  refine condX_dec (fun h => ?_) (fun h => ?_)
  · have hw := wr (n := (i : Int) + 1) (by omega) (by omega)
    have q1 := iL_at (l := l) (i := i) h
    have hs : mostN (l.take (i + 1)) = max (mostN (l.take i)) (l.getD i 0 + 1) := by rw [take_at h, most_snoc]
    generalize l.getD i 0 = x at q1 hs
    have hm : (if ((mostN (l.take i) : Nat) - 1 : Int) < (x : Int) then (x : Int) else ((mostN (l.take i) : Nat) - 1 : Int)) = ((mostN (l.take (i + 1)) : Nat) - 1 : Int) := by
      rw [hs]
      split <;> omega
    have i1 : (i : Int) < l.length := by omega
    have i5 : (0 : Int) ≤ i := by omega
    simp -dsimp [i1, i5, q1, hm]
    refine LoopP_next (.fz, i + 1) (le_of (by simp [hw]) (by simp)) ⟨by simp only; omega, by simp only; omega⟩ (by simp only; omega)
  · have hi' : i = l.length := by omega
    subst hi'
    have ht : l.take l.length = l := List.take_length
    rw [ht]
    simp -dsimp
    refine retP_c ?_
    simp -dsimp
theorem diff_spec (l : List Nat) (h0 : l ≠ []) (hb : ∀ x ∈ l, x < 1000000) : PCall Tryd.prog 65 [eNs l] (pI (mostN l)) [] := by
  have h := max_spec l h0 hb
  have hm : mostN l ≤ 1000000 := most_le fun x hx => by have := hb x hx; omega
  refine pcall_wp _ Tryd.func65 rfl (by kernel_rfl) rfl ?_
  have hw := wr (n := (mostN l : Int)) (by omega) (by omega)
  have he : ((mostN l : Nat) : Int) - 1 + 1 = mostN l := by omega
  simp -dsimp
  first
    | refine CallG.by (h) ?_
    | refine CallGE.by (h) ?_
    | refine CallGB.by (h) ?_
  simp -dsimp [he, hw]
  refine retP_c ?_
  simp -dsimp
theorem shl_nat (s n : Nat) (hn : n ≤ 6) (hs : s < 64) : shlI (s : Int) n = ((s <<< n : Nat) : Int) := by
  have e : min n IntKind.i64.bits = n := by
    show min n 64 = n
    omega
  unfold shlI
  rw [e, Nat.shiftLeft_eq]
  have h2 : ((2 : Int) ^ n) = ((2 ^ n : Nat) : Int) := by simp
  have h3 : 2 ^ n ≤ 2 ^ 6 := Nat.pow_le_pow_right (by decide) hn
  have h4 : s * 2 ^ n ≤ 64 * 64 := Nat.mul_le_mul (by omega) (by omega)
  rw [h2, ← Int.natCast_mul]
  exact wr (by omega) (by omega)
theorem clone134_row (xs : List Int) (hb : xs.length * 8 ≤ 140737488355328) : PCall Tryd.prog 73 [eIs xs] (.osl 0) [(0, .row 3 1 .ro (xs.map cI))] := by
  refine pcall_any 0 rfl call73 (fun h => ?_) ?_
  · simp at h
    subst h
    refine pcall_nilrow (k := .fz) ?_
    refine pcall_wp _ Tryd.func73 rfl (by kernel_rfl) rfl ?_
    simp -dsimp
    refine retP_c ?_
    simp -dsimp
  · refine pcall_wp _ Tryd.func73 rfl (by kernel_rfl) rfl ?_
    simp -dsimp [hb]
    exact retP_own 5 (by simp; rfl) (by simp) (by simp) (by simp) (by simp)
theorem beside_spec (t h : List Nat) (ht : t.length ≤ 6) (hh : h.length ≤ 6) (hs : ∀ x ∈ h, x < 64) : PCall Tryd.prog 61 [eNs t, eNs h] (.t .ro (eNs (besN t h))) [] := by
  refine pcall_wpT Tryd.func61 rfl (by kernel_rfl) ?_
  have hc := clone134_row (iL t) (by simp; omega)
  have hw6 : ∀ i : Nat, i ≤ 6 → IntKind.i64.wrap ((i : Int) + 1) = (i : Int) + 1 := fun i hi => wr (by omega) (by omega)
  simp -dsimp
  first
    | refine CallG.by (hc) ?_
    | refine CallGE.by (hc) ?_
    | refine CallGB.by (hc) ?_
  simp -dsimp
  refine wk_loop (fun i : Nat => ⟨[(12, pI i), (11, pI h.length), (10, .t .ro (eNs h)), (5, .osl 9), (0, .t .ro (eNs t))], [(9, .row 3 1 .ro ((iL (t ++ (h.take i).map (· <<< t.length))).map cI))]⟩)
    (fun i => i ≤ h.length) (fun i => h.length - i) 0
    (le_of (by simp) (by simp)) (by omega) fun i hi => ?_
  simp -dsimp
  refine condX_dec (fun hx => ?_) (fun hx => ?_)
  · have q1 := iL_at (l := h) (i := i) hx
    have hm := hs _ (getD_mem hx)
    have hw := hw6 i (by omega)
    have ht1 : h.take (i + 1) = h.take i ++ [h.getD i 0] := take_at hx
    generalize h.getD i 0 = x at q1 hm ht1
    have hsh := shl_nat x t.length ht hm
    have i1 : (i : Int) < h.length := by omega
    have i5 : (0 : Int) ≤ i := by omega
    have hbb : (t.length + min i h.length + 1) * 8 ≤ 140737488355328 := by omega
    simp -dsimp [i1, i5, q1, hsh, hbb]
    refine LoopP_next (i + 1) (le_of (by simp [hw, ht1]) (by simp [ht1])) (by omega) (by omega)
  · have hi' : i = h.length := by omega
    subst hi'
    have hF : besN t h = t ++ h.map (· <<< t.length) := rfl
    simp -dsimp
    refine retT_c ?_
    simp -dsimp [hF]
end Go.Proofs.YtnikonhkbldnnaaDoor
/- LB17: the colours of the next round. -/
set_option linter.unusedVariables false
set_option linter.unusedSimpArgs false
set_option maxRecDepth 20000
namespace Go.Proofs.YtnikonhkbldnnaaDoor
open Go Go.PS
attribute [-simp] isKeyK List.map_take
theorem cI_flat (l : List Int) : ∀ e ∈ l.map cI, ∀ x ∈ e, ∃ v, x = TL.v v := by
  intro e he x hx
  obtain ⟨n, _, rfl⟩ := List.mem_map.1 he
  simp [cI] at hx
  exact ⟨_, hx⟩
theorem clone128_row (L : List (List Nat)) (hb : L.length ≤ 1000) : PCall Tryd.prog 82 [.sl .any 2 (L.map eKd)] (.osl 0) [(0, .row 129 2 .ro (L.map eKd))] := by
  refine pcall_any 0 rfl call82 (fun h => ?_) ?_
  · simp at h
    subst h
    refine pcall_nilrow (k := .fz) ?_
    refine pcall_wp _ Tryd.func82 rfl (by kernel_rfl) rfl ?_
    simp -dsimp
    refine retP_c ?_
    simp -dsimp
  · have hb' : L.length * 32 ≤ 140737488355328 := by omega
    refine pcall_wp _ Tryd.func82 rfl (by kernel_rfl) rfl ?_
    simp -dsimp [hb']
    exact retP_own 5 (by simp; rfl) (by simp) (by simp) (by simp) (by simp)
def colAt (c : List Nat) (u : Nat) : Nat := c.getD u 0
theorem kdN_eq (t c : List Nat) (v : Nat) : kdN t c v = c.getD v 0 :: srtN ((ndN (t.getD v 0)).map (colAt c)) := rfl
theorem kds_take (t c : List Nat) {v : Nat} (h : v < t.length) : (List.range (v + 1)).map (kdN t c) = (List.range v).map (kdN t c) ++ [kdN t c v] := by rw [List.range_succ, List.map_append]; rfl
theorem cgoK_len : ∀ (l : List (List Nat)) (p : List Nat), (cgoK p l).length ≤ l.length
  | [], p => by simp [cgoK]
  | x :: l, p => by
    have := cgoK_len l x
    have := cgoK_len l p
    rw [cgoK]
    split <;> simp <;> omega
theorem cmpK_len (l : List (List Nat)) : (cmpK l).length ≤ l.length := by
  cases l with
  | nil => simp [cmpK]
  | cons x l =>
    have := cgoK_len l x
    simp [cmpK]
    omega
theorem refined_spec (t c : List Nat) (hc : c.length = t.length) (ht : t.length ≤ 12) (hs : ∀ x ∈ t, x < 2 ^ t.length) :
    PCall Tryd.prog 74 [eNs t, eNs c] (.t .fz (eNs (refN t c))) [] := by
  refine pcall_wpS [14] Tryd.func74 rfl (by kernel_rfl) ?_
  have h12 : 2 ^ t.length ≤ 2 ^ 12 := Nat.pow_le_pow_right (by decide) ht
  simp -dsimp
  refine lg_adoptT 5 5 129 2 (by simp; rfl) (by simp) ?_
  refine wk_loopS [11, 12] (fun p : Kind × Nat => ⟨[(19, pI p.2), (18, pI t.length), (17, .t .ro (eNs t)), (5, .osl 5), (0, .t .ro (eNs t)), (1, .t .ro (eNs c))], [(5, .row 129 2 p.1 (((List.range p.2).map (kdN t c)).map eKd))]⟩)
    (fun p => p.2 ≤ t.length) (fun p => t.length - p.2) (.fz, 0)
    (le_of (by simp) (by simp)) (by simp) fun ⟨kr, v⟩ hv => ?_
  dsimp only at hv
  simp -dsimp
  refine condX_dec (fun hx => ?_) (fun hx => ?_)
  · have hw := wr (n := (v : Int) + 1) (by omega) (by omega)
    have q1 := iL_at (l := t) (i := v) hx
    have q2 := iL_at (l := c) (i := v) (by omega)
    have hm := hs _ (getD_mem hx)
    have hkd := kdN_eq t c v
    have hkt := kds_take t c hx
    have hnlt : ∀ u ∈ ndN (t.getD v 0), u < c.length := fun u hu => by
      have hb := (bits_mem (s := t.getD v 0) (i := u) (by omega)).1 hu
      rcases Nat.lt_or_ge u c.length with h5 | h5
      · exact h5
      · rw [Nat.testBit_lt_two_pow (Nat.lt_of_lt_of_le hm (Nat.pow_le_pow_right (n := 2) (by decide) (by omega)))] at hb
        cases hb
    have hnl := bits_len (t.getD v 0)
    have hnd := nodes_spec (t.getD v 0) (by omega)
    generalize t.getD v 0 = s at q1 hkd hnlt hnl hnd
    generalize c.getD v 0 = own at q2 hkd
    generalize ndN s = L at hkd hnlt hnl hnd
    have i1 : (v : Int) < t.length := by omega
    have i2 : (v : Int) < c.length := by omega
    have i5 : (0 : Int) ≤ v := by omega
    simp -dsimp [i1, i2, i5, q1, q2]
    first
      | refine CallG.by (hnd) ?_
      | refine CallGE.by (hnd) ?_
      | refine CallGB.by (hnd) ?_
    simp -dsimp
    refine lg_adoptM 8 1 120 3 1 (by simp; exact ⟨rfl, rfl⟩) (by simp; rfl) (by simp) (by simp) ?_
    refine wk_loop (fun i : Nat => ⟨[(32, pI i), (31, pI L.length), (30, .t .fz (eNs L)), (8, .ptr 8 0), (19, pI v), (18, pI t.length), (17, .t .ro (eNs t)), (5, .osl 5), (0, .t .ro (eNs t)), (1, .t .ro (eNs c))],
        [(8, .blk 129 [.t .ro (eI own), .osl 120]), (120, .row 3 1 .fz ((iL ((L.take i).map (colAt c))).map cI)), (5, .row 129 2 kr (((List.range v).map (kdN t c)).map eKd))]⟩)
      (fun i => i ≤ L.length) (fun i => L.length - i) 0
      (le_of (by simp) (by simp)) (by simp) fun i hi => ?_
    simp -dsimp
    refine condX_dec (fun hy => ?_) (fun hy => ?_)
    · have hwi := wr (n := (i : Int) + 1) (by omega) (by omega)
      have r1 := iL_at (l := L) (i := i) hy
      have hlt := hnlt _ (getD_mem hy)
      have r2 := iL_at (l := c) (i := L.getD i 0) hlt
      have hta : (L.take (i + 1)).map (colAt c) = (L.take i).map (colAt c) ++ [c.getD (L.getD i 0) 0] := by
        rw [take_at hy, List.map_append]; rfl
      generalize L.getD i 0 = u at r1 hlt r2 hta
      generalize c.getD u 0 = q at r2 hta
      have j1 : (i : Int) < L.length := by omega
      have j2 : (u : Int) < c.length := by omega
      have j5 : (0 : Int) ≤ i := by omega
      have j6 : (0 : Int) ≤ u := by omega
      have hbb : (min i L.length + 1) * 8 ≤ 140737488355328 := by omega
      simp -dsimp [j1, j5, r1]
      refine wk_draw 7 [6] mixed (by kernel_rfl) ?_
      simp -dsimp [j2, j6, r2, hbb]
      refine LoopP_next (i + 1) (le_of (by simp [hwi]) (by simp [hta])) (by omega) (by omega)
    · have hi' : i = L.length := by omega
      subst hi'
      rw [List.take_length]
      have hso := sortI_spec (L.map (colAt c)) (by simp; exact hnl)
      simp -dsimp
      refine stop_rowk 120 .ro (ty := 3) (sz := 1) (k := .fz) (xs := (iL (L.map (colAt c))).map cI) (by simp) (cI_flat _) ?_
      refine stop_go ?_
      simp -dsimp
      refine CallG.onP (g := [(120, 1000011)]) hso (by decide) (by simp) (by simp) (by simp [Sg.bk]) fun r M' hP => ?_
      obtain ⟨rfl, rfl⟩ := hP
      simp -dsimp
      refine stop_frz [120] ?_
      simp -dsimp
      refine stop_go ?_
      have hbb : (v + 1) * 32 ≤ 140737488355328 := by omega
      simp -dsimp [hbb]
      refine LoopP_next (.ro, v + 1) (le_of (by simp [hw]) (by simp [hkt, hkd])) (by simp only; omega) (by simp only; omega)
  · have hv' : v = t.length := by omega
    subst hv'
    have hF : refN t c = (kdsN t c).map (rkL (kindsL (kdsN t c))) := rfl
    have hKl : (kdsN t c).length = t.length := by simp [kdsN]
    have hKn : ∀ x ∈ kdsN t c, x ≠ [] := fun x hx => by
      obtain ⟨u, _, rfl⟩ := List.mem_map.1 hx
      simp [kdN]
    rw [show List.map (eKd ∘ kdN t c) (List.range t.length) = (kdsN t c).map eKd by simp [kdsN]]
    generalize kdsN t c = K at hF hKl hKn
    have hS := kinds_ris K
    have hSm := kinds_mem K
    have hsk := sortK_spec K hKn (by omega)
    have hcl := clone128_row K (by omega)
    simp -dsimp
    refine stop_frz [5] ?_
    simp -dsimp
    refine stop_go ?_
    simp -dsimp
    first
      | refine CallG.by (hcl) ?_
      | refine CallGE.by (hcl) ?_
      | refine CallGB.by (hcl) ?_
    simp -dsimp
    refine CallG.onP (g := [(55, 1000011)]) hsk (by decide) (by simp) (by simp) (by simp [Sg.bk]) fun r M' hP => ?_
    obtain ⟨rfl, ys, hperm, hsd, rfl⟩ := hP
    have hyl := hperm.length_eq
    have hck := compactK_spec ys (fun x hx => hKn x (hperm.mem_iff.2 hx)) (by omega)
    have hcs := cmpK_kinds hperm hsd
    simp -dsimp
    refine CallG.onP (g := [(55, 1000011)]) hck (by decide) (by simp) (by simp) (by simp [Sg.bk]) fun r M' hP => ?_
    obtain ⟨zs, tl, rfl, hz, hr⟩ := hP
    have hzl := cmpK_len ys
    rw [← hz] at hzl
    rw [hcs] at hz
    subst hz
    generalize kindsL K = S at hF hS hSm hr hzl
    have hSl : S.length ≤ 100 := by omega
    have hbb : ∀ i, i < K.length → (min i K.length + 1) * 8 ≤ 140737488355328 := fun i hi => by omega
    have hwi : ∀ i, i < K.length → IntKind.i64.wrap ((i : Int) + 1) = (i : Int) + 1 := fun i hi => wr (by omega) (by omega)
    rcases hr with ⟨rfl, hz0⟩ | ⟨rfl, hz0⟩
    all_goals
      simp -dsimp
      refine lg_frz [55] ?_
      simp -dsimp [hz0]
      refine lg_adoptT 12 12 3 1 (by simp; rfl) (by simp) ?_
      refine wk_loop (fun i : Nat => ⟨[(62, pI i), (61, pI K.length), (60, .t kr (.sl .any 2 (K.map eKd))), (11, .t .ro (.sl .any 2 (S.map eKd))), (12, .osl 12)], [(12, .row 3 1 .fz ((iL ((K.take i).map (rkL S))).map cI))]⟩)
        (fun i => i ≤ K.length) (fun i => K.length - i) 0
        (le_of (by simp) (by simp)) (by omega) fun i hi => ?_
      simp -dsimp
      refine condX_dec (fun hy => ?_) (fun hy => ?_)
      · have hb := bsK_spec S K[i] hS (fun x hx => hKn x ((hSm x).1 hx)) ((hSm _).2 (List.getElem_mem hy)) hSl
        have hta : (K.take (i + 1)).map (rkL S) = (K.take i).map (rkL S) ++ [rkL S K[i]] := by
          rw [List.take_add_one, List.map_append]
          simp [hy]
        have h1 := hbb i hy
        have h2 := hwi i hy
        simp -dsimp [hy]
        first
          | refine CallG.by (hb) ?_
          | refine CallGE.by (hb) ?_
          | refine CallGB.by (hb) ?_
        simp -dsimp [h1]
        refine LoopP_next (i + 1) (le_of (by simp [h2]) (by simp [hta])) (by omega) (by omega)
      · have hi' : i = K.length := by omega
        subst hi'
        rw [List.take_length, ← hF]
        simp -dsimp
        refine retP_c ?_
        simp -dsimp
end Go.Proofs.YtnikonhkbldnnaaDoor
/- LB18: colours, tally, equal slices, shades, Alike, Refine. -/
set_option linter.unusedVariables false
set_option linter.unusedSimpArgs false
set_option maxRecDepth 20000
namespace Go.Proofs.YtnikonhkbldnnaaDoor
open Go Go.PS
attribute [-simp] isKeyK List.map_take
theorem colours_spec (t : List Nat) (hp : 1 ≤ t.length) (ht : t.length ≤ 12) (hs : ∀ x ∈ t, x < 2 ^ t.length) :
    PCall Tryd.prog 62 [eNs t] (.t .fz (.tup [eNs (colN t).1, eI ((colN t).2 : Nat)])) [] := by
  refine pcall_wp _ Tryd.func62 rfl (by kernel_rfl) rfl ?_
  have hb : (t.length : Int) ≤ 140737488355328 := by omega
  have hb2 : 8 * (t.length : Int) ≤ 281474976710656 := by omega
  have hz : (iL (List.replicate t.length 0)).map cI = List.replicate t.length [eI 0] := by simp [iL, cI]
  simp -dsimp [hb, hb2]
  refine lg_frz [7] ?_
  simp -dsimp
  refine wk_loop (fun p : List Nat × Nat => ⟨[(2, .t .fz (eNs p.1)), (3, pI p.2), (0, .t .ro (eNs t))], []⟩)
    (fun p => Full t.length p.1 ∧ colW t p.1 p.2 = colN t ∧ p.2 ≤ 12 - (t.length - mostN p.1)) (fun p => t.length - mostN p.1) (List.replicate t.length 0, 0)
    (le_of (by simp [hz]) (by simp)) ⟨full_zero _, rfl, by simp⟩ fun ⟨c, r⟩ ⟨hf, hc, hr⟩ => ?_
  dsimp only at hf hc hr
  have hf' := refN_full t c
  have h1 := most_mono hf
  have h2 := full_le hf'
  have h3 := full_le hf
  have hcl := hf.1
  have hrl := hf'.1
  have hre := refined_spec t c hcl ht hs
  have hd1 := diff_spec (refN t c) (by intro e; rw [e] at hrl; simp at hrl; omega) fun x hx => by
    have := most_lt hx
    omega
  have hd2 := diff_spec c (by intro e; rw [e] at hcl; simp at hcl; omega) fun x hx => by
    have := most_lt hx
    omega
  have hw := wr (n := (r : Int) + 1) (by omega) (by omega)
  have hstop := fun e => colW_stop (t := t) (c := c) (r := r) e
  have hgo := fun e => colW_go (r := r) hf e
  generalize refN t c = d at *
  simp -dsimp
  first
    | refine CallG.by (hre) ?_
    | refine CallGE.by (hre) ?_
    | refine CallGB.by (hre) ?_
  simp -dsimp
  first
    | refine CallG.by (hd1) ?_
    | refine CallGE.by (hd1) ?_
    | refine CallGB.by (hd1) ?_
  simp -dsimp
  first
    | refine CallG.by (hd2) ?_
    | refine CallGE.by (hd2) ?_
    | refine CallGB.by (hd2) ?_
  by_cases he : mostN d = mostN c
  · have hF := hstop he
    rw [hc] at hF
    have he' : ((mostN d : Int) == (mostN c : Int)) = true := by simp [he]
    simp -dsimp [he']
    refine retP_c ?_
    simp -dsimp [hF]
  · have he' : ((mostN d : Int) == (mostN c : Int)) = false := by
      rw [beq_eq_false_iff_ne]
      omega
    simp -dsimp [he']
    refine LoopP_next (d, r + 1) (le_of (by simp [hw]) (by simp)) ⟨hf', ?_, ?_⟩ ?_
    · simp only
      rw [← hgo he, hc]
    · simp only
      omega
    · simp only
      omega
/-- How often each number occurs. -/
def tlyN (l : List Nat) (m : Nat) : List Nat := (List.range m).map fun q => l.count q
theorem tly_len (l : List Nat) (m : Nat) : (tlyN l m).length = m := by simp [tlyN]
theorem tly_get (l : List Nat) {m q : Nat} (h : q < m) : (tlyN l m).getD q 0 = l.count q := by simp [tlyN, List.getD_eq_getElem?_getD, h]
theorem tly_snoc (l : List Nat) {m c : Nat} (h : c < m) : (tlyN l m).set c (l.count c + 1) = tlyN (l ++ [c]) m := by
  apply List.ext_getElem (by simp [tly_len])
  intro i h1 h2
  simp only [List.length_set, tly_len] at h1
  rw [List.getElem_set]
  simp only [tlyN, List.getElem_map, List.getElem_range, List.count_append, List.count_singleton]
  by_cases e : c = i
  · subst e
    simp
  · have e' : (c == i) = false := by simpa using e
    simp [e, e']
theorem tally_spec (l : List Nat) (m : Nat) (hm : m ≤ 1000) (hl : ∀ x ∈ l, x < m) (h100 : l.length ≤ 1000) : PCall Tryd.prog 64 [eNs l, eI m] (.t .fz (eNs (tlyN l m))) [] := by
  refine pcall_wp _ Tryd.func64 rfl (by kernel_rfl) rfl ?_
  have hb : (m : Int) ≤ 140737488355328 := by omega
  have hb2 : 8 * (m : Int) ≤ 281474976710656 := by omega
  have hz : (iL (tlyN [] m)).map cI = List.replicate m [eI 0] := by
    simp only [tlyN, List.count_nil, iL, List.map_map]
    apply List.ext_getElem (by simp)
    intro i h1 h2
    simp [cI]
  simp -dsimp [hb, hb2]
  refine wk_loop (fun i : Nat => ⟨[(12, pI i), (11, pI l.length), (10, .t .ro (eNs l)), (5, .osl 9)], [(9, .row 3 1 .fz ((iL (tlyN (l.take i) m)).map cI))]⟩)
    (fun i => i ≤ l.length) (fun i => l.length - i) 0
    (le_of (by simp) (by simp [hz])) (by omega) fun i hi => ?_
  simp -dsimp
  refine condX_dec (fun h => ?_) (fun h => ?_)
  · have hw := wr (n := (i : Int) + 1) (by omega) (by omega)
    have q1 := iL_at (l := l) (i := i) h
    have hlt := hl _ (getD_mem h)
    have hta := take_at h
    have hcnt : (l.take i).count (l.getD i 0) ≤ l.length := Nat.le_trans List.count_le_length (by simp; omega)
    have hsn := tly_snoc (l.take i) hlt
    have hg := tly_get (l.take i) hlt
    rw [← hta] at hsn
    generalize l.getD i 0 = q at *
    generalize List.count q (l.take i) = k at *
    have hll := tly_len (l.take i) m
    generalize tlyN (l.take i) m = C at *
    have q2 := iL_at (l := C) (i := q) (by omega)
    rw [hg] at q2
    have hwk := wr (n := (k : Int) + 1) (by omega) (by omega)
    have hset := iL_set C q (k + 1)
    rw [hsn] at hset
    have hset' : List.map cI (iL (tlyN (l.take (i + 1)) m)) = (List.map cI (iL C)).set q [eI ((k : Int) + 1)] := by
      rw [hset, List.map_set]
      rfl
    have q2' : ∀ hh : q < (iL C).length, (iL C)[q]'hh = (k : Int) := fun hh => by
      rw [List.getElem?_eq_getElem hh] at q2
      exact Option.some.inj q2
    have i1 : (i : Int) < l.length := by omega
    have i2 : (q : Int) < C.length := by omega
    have i3 : q < C.length := by omega
    have i5 : (0 : Int) ≤ i := by omega
    have i6 : (0 : Int) ≤ q := by omega
    simp -dsimp [i1, i5, q1, i2, i3, i6, q2, hwk]
    refine LoopP_next (i + 1) (le_of (by simp [hw]) (by simp [hset', q2', hwk])) (by omega) (by omega)
  · have hi' : i = l.length := by omega
    subst hi'
    rw [List.take_length]
    simp -dsimp
    refine retP_c ?_
    simp -dsimp
theorem equal_spec (a b : List Int) : PCall Tryd.prog 63 [eIs a, eIs b] (pB (decide (a = b))) [] := by
  refine pcall_sl 0 rfl call63 fun hla => ?_
  refine pcall_sl 1 rfl call63 fun hlb => ?_
  simp only [List.length_map] at hla hlb
  refine pcall_wp _ Tryd.func63 rfl (by kernel_rfl) rfl ?_
  by_cases hl : a.length = b.length
  rotate_left
  · have hne : ((a.length : Int) != (b.length : Int)) = true := by
      rw [bne_iff_ne]
      omega
    have hF : decide (a = b) = false := by
      rw [decide_eq_false_iff_not]
      rintro rfl
      exact hl rfl
    simp -dsimp [hne]
    refine retP_c ?_
    simp -dsimp [hF]
  have hne : ((a.length : Int) != (b.length : Int)) = false := by
    rw [bne_eq_false_iff_eq]
    omega
  simp -dsimp [hne]
  refine wk_loop (fun i : Nat => ⟨[(13, pI i), (12, pI a.length), (0, .t .ro (eIs a)), (1, .t .ro (eIs b))], []⟩)
    (fun i => i ≤ a.length ∧ a.take i = b.take i) (fun i => a.length - i) 0
    (le_of (by simp) (by simp)) ⟨by omega, rfl⟩ fun i ⟨hi, ht⟩ => ?_
  simp -dsimp
  refine condX_dec (fun h => ?_) (fun h => ?_)
  · have hw := wr (n := (i : Int) + 1) (by omega) (by omega)
    have i1 : (i : Int) < a.length := by omega
    have i2 : (i : Int) < b.length := by omega
    have h' : i < b.length := by omega
    have q1 := at_ (l := a) h
    have q2 := at_ (l := b) h'
    have t1 : a.take (i + 1) = a.take i ++ [a.getD i 0] := by
      rw [List.take_add_one, q1]; rfl
    have t2 : b.take (i + 1) = b.take i ++ [b.getD i 0] := by
      rw [List.take_add_one, q2]; rfl
    generalize a.getD i 0 = x at *
    generalize b.getD i 0 = y at *
    simp -dsimp
    refine wk_draw 8 [] mixed (by kernel_rfl) ?_
    by_cases e : x = y
    · subst e
      have hv : (x != x) = false := by simp
      simp -dsimp [i1, i2, q1, q2, hv]
      refine LoopP_next (i + 1) (le_of (by simp [hw]) (by simp)) ⟨h, by rw [t1, t2, ht]⟩ (by omega)
    · have hv : (x != y) = true := by simpa using e
      have hF : decide (a = b) = false := by
        rw [decide_eq_false_iff_not]
        rintro rfl
        rw [q1] at q2
        exact e (Option.some.inj q2)
      simp -dsimp [i1, i2, q1, q2, hv]
      refine retP_c ?_
      simp -dsimp [hF]
  · have hi' : i = a.length := by omega
    have hF : decide (a = b) = true := by
      rw [decide_eq_true_iff]
      rw [hi', List.take_length, hl, List.take_length] at ht
      exact ht
    simp -dsimp
    refine retP_c ?_
    simp -dsimp [hF]
theorem iL_inj {a b : List Nat} (h : iL a = iL b) : a = b := by
  have := congrArg (List.map Int.toNat) h
  simp only [iL, List.map_map] at this
  have e : (Int.toNat ∘ fun (x : Nat) => (x : Int)) = id := funext fun x => by simp
  rwa [e, List.map_id, List.map_id] at this
theorem like_tly (t h : List Nat) : likeN t h = decide (iL (tlyN (shN t h).1 (mostN (colN (besN t h)).1)) = iL (tlyN (shN t h).2 (mostN (colN (besN t h)).1))) := by
  rw [Bool.eq_iff_iff, decide_eq_true_iff]
  unfold likeN
  rw [List.all_eq_true]
  constructor
  · intro hh
    congr 1
    unfold tlyN
    refine List.map_congr_left fun q hq => ?_
    simpa using hh q hq
  · intro hh q hq
    have := iL_inj hh
    have h1 := tly_get (shN t h).1 (List.mem_range.1 hq)
    have h2 := tly_get (shN t h).2 (List.mem_range.1 hq)
    rw [this, h2] at h1
    simp [h1]
theorem bes_facts {t h : List Nat} (ht : Tow 6 t) (hh : Tow 6 h) : (besN t h).length = t.length + h.length ∧ ∀ x ∈ besN t h, x < 2 ^ (besN t h).length := by
  have hl := bes_len t h
  refine ⟨hl, fun x hx => ?_⟩
  rw [hl, Nat.pow_add]
  rcases List.mem_append.1 hx with h1 | h1
  · have := ht.lt x h1
    have h2 := Nat.two_pow_pos h.length
    exact Nat.lt_of_lt_of_le this (Nat.le_mul_of_pos_right _ h2)
  · obtain ⟨y, hy, rfl⟩ := List.mem_map.1 h1
    have := hh.lt y hy
    show y <<< t.length < _
    rw [Nat.shiftLeft_eq, Nat.mul_comm]
    exact Nat.mul_lt_mul_of_pos_left this (Nat.two_pow_pos _)
theorem shades_spec (t h : List Nat) (ht : Tow 6 t) (hh : Tow 6 h) : PCall Tryd.prog 48 [eNs t, eNs h] (.t .fz (.tup [eNs (shN t h).1, eNs (shN t h).2, eB (likeN t h)])) [] := by
  refine pcall_wp _ Tryd.func48 rfl (by kernel_rfl) rfl ?_
  have h6 := ht.le
  have h6' := hh.le
  have hp := ht.pos
  have hp' := hh.pos
  obtain ⟨hbl, hbs⟩ := bes_facts ht hh
  have h64 : 2 ^ h.length ≤ 2 ^ 6 := Nat.pow_le_pow_right (by decide) h6'
  have hbe := beside_spec t h h6 h6' fun x hx => Nat.lt_of_lt_of_le (hh.lt x hx) h64
  have hco := colours_spec (besN t h) (by omega) (by omega) hbs
  have hfu := colN_full (besN t h)
  have hle := full_le hfu
  have hcl := hfu.1
  have hne : (colN (besN t h)).1 ≠ [] := by
    intro e
    rw [e] at hcl
    simp at hcl
    omega
  have hdi := diff_spec (colN (besN t h)).1 hne fun x hx => by
    have := most_lt hx
    omega
  have e1 : (shN t h).1 = (colN (besN t h)).1.take t.length := rfl
  have e2 : (shN t h).2 = (colN (besN t h)).1.drop t.length := rfl
  have hL := like_tly t h
  rw [e1, e2] at hL ⊢
  clear e1 e2
  have ht1 := tally_spec ((colN (besN t h)).1.take t.length) (mostN (colN (besN t h)).1) (by omega) (fun x hx => most_lt (List.mem_of_mem_take hx)) (by simp; omega)
  have ht2 := tally_spec ((colN (besN t h)).1.drop t.length) (mostN (colN (besN t h)).1) (by omega) (fun x hx => most_lt (List.mem_of_mem_drop hx)) (by simp; omega)
  have heq := equal_spec (iL (tlyN ((colN (besN t h)).1.take t.length) (mostN (colN (besN t h)).1))) (iL (tlyN ((colN (besN t h)).1.drop t.length) (mostN (colN (besN t h)).1)))
  rw [← hL] at heq
  generalize likeN t h = b at *
  generalize tlyN ((colN (besN t h)).1.take t.length) (mostN (colN (besN t h)).1) = T1 at *
  generalize tlyN ((colN (besN t h)).1.drop t.length) (mostN (colN (besN t h)).1) = T2 at *
  generalize (colN (besN t h)).1 = C at *
  generalize (colN (besN t h)).2 = r at *
  have k1 : List.take t.length (List.map cI (iL C)) = List.map cI (iL (C.take t.length)) := by simp [iL, List.map_take]
  have k2 : List.drop t.length (List.map cI (iL C)) = List.map cI (iL (C.drop t.length)) := by simp [iL, List.map_drop]
  have k3 : (t.length : Int) ≤ C.length := by omega
  have k4 : List.take (C.length - t.length) (List.map cI (iL (C.drop t.length))) = List.map cI (iL (C.drop t.length)) := List.take_of_length_le (by simp)
  simp -dsimp
  first
    | refine CallG.by (hbe) ?_
    | refine CallGE.by (hbe) ?_
    | refine CallGB.by (hbe) ?_
  simp -dsimp
  first
    | refine CallG.by (hco) ?_
    | refine CallGE.by (hco) ?_
    | refine CallGB.by (hco) ?_
  simp -dsimp
  refine wk_draw 9 [] mixed (by kernel_rfl) ?_
  simp -dsimp [k1, k2, k3, k4]
  first
    | refine CallG.by (hdi) ?_
    | refine CallGE.by (hdi) ?_
    | refine CallGB.by (hdi) ?_
  simp -dsimp
  first
    | refine CallG.by (ht1) ?_
    | refine CallGE.by (ht1) ?_
    | refine CallGB.by (ht1) ?_
  simp -dsimp
  first
    | refine CallG.by (hdi) ?_
    | refine CallGE.by (hdi) ?_
    | refine CallGB.by (hdi) ?_
  simp -dsimp
  first
    | refine CallG.by (ht2) ?_
    | refine CallGE.by (ht2) ?_
    | refine CallGB.by (ht2) ?_
  simp -dsimp
  first
    | refine CallG.by (heq) ?_
    | refine CallGE.by (heq) ?_
    | refine CallGB.by (heq) ?_
  simp -dsimp
  refine retP_c ?_
  simp -dsimp
def alkF (g h : List Int) : TL := if isgB g && isgB h then .tup [eB (likeN (townOf g) (townOf h)), eI 0] else .tup [eB false, eI 2]
theorem alike_spec (g h : List Int) : PCall Tryd.prog 31 [eIs g, eIs h] (.t .fz (alkF g h)) [] := by
  have hbo := both_spec g h
  refine pcall_wp _ Tryd.func31 rfl (by kernel_rfl) rfl ?_
  rw [bothF] at hbo
  have hF : alkF g h = if isgB g && isgB h then .tup [eB (likeN (townOf g) (townOf h)), eI 0] else .tup [eB false, eI 2] := rfl
  have hsh : isgB g = true → isgB h = true → PCall Tryd.prog 48 [eIs g, eIs h] (.t .fz (.tup [eNs (shN (townOf g) (townOf h)).1, eNs (shN (townOf g) (townOf h)).2, eB (likeN (townOf g) (townOf h))])) [] := fun h1 h2 => by
    have := shades_spec (townOf g) (townOf h) (town_tow h1) (town_tow h2)
    rw [show eNs (townOf g) = eIs g by rw [eNs, town_back h1], show eNs (townOf h) = eIs h by rw [eNs, town_back h2]] at this
    exact this
  cases hg : isgB g <;> cases hh : isgB h
  all_goals
    rw [hg, hh] at hbo hF
    simp only [if_true, Bool.false_eq_true, if_false, Bool.and_true, Bool.and_false, Bool.true_and, Bool.false_and, Bool.and_self, nilT] at hbo hF
  · simp -dsimp
    first
      | refine CallG.by (hbo) ?_
      | refine CallGE.by (hbo) ?_
      | refine CallGB.by (hbo) ?_
    simp -dsimp
    refine retP_c ?_
    simp -dsimp [hF]
  · simp -dsimp
    first
      | refine CallG.by (hbo) ?_
      | refine CallGE.by (hbo) ?_
      | refine CallGB.by (hbo) ?_
    simp -dsimp
    refine retP_c ?_
    simp -dsimp [hF]
  · simp -dsimp
    first
      | refine CallG.by (hbo) ?_
      | refine CallGE.by (hbo) ?_
      | refine CallGB.by (hbo) ?_
    simp -dsimp
    refine retP_c ?_
    simp -dsimp [hF]
  · have hsh := hsh hg hh
    simp -dsimp
    first
      | refine CallG.by (hbo) ?_
      | refine CallGE.by (hbo) ?_
      | refine CallGB.by (hbo) ?_
    simp -dsimp
    first
      | refine CallG.by (hsh) ?_
      | refine CallGE.by (hsh) ?_
      | refine CallGB.by (hsh) ?_
    simp -dsimp
    refine retP_c ?_
    simp -dsimp [hF]
end Go.Proofs.YtnikonhkbldnnaaDoor
