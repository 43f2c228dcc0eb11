import Derived.Test.YtgcncgocdfioiaaDoorCB6
/- CB7: steps, walked. -/
set_option linter.unusedVariables false
set_option linter.unusedSimpArgs false
set_option maxRecDepth 20000
namespace Go.Proofs.YtgcncgocdfioiaaDoor
open Go Go.PS
theorem rawTo_all (two : Bool) (A B : List Nat) : rawTo two A B A.length 0 = rawOf two A B := by simp [rawTo, rawOf]
theorem steps_spec (t : List Nat) (ht : Twn t) (k : Int) (R : TL) (a b : Nat) (ha : a < t.length) (hb : b < t.length) (hne : rawOf (k == 2) (bitsL (t.getD a 0)) (bitsL (t.getD b 0)) ≠ []) :
    PCall Tryd.prog 65 [eC t k R, eI a, eI b] (.t .fz (ePrs (movesL t (k == 2) a b))) [] := by
  have hmv := fun ys hp hs => moves_of ht (two := (k == 2)) ha hb (ys := ys) hp hs
  refine pcall_wp _ Tryd.func65 rfl (by kernel_rfl) rfl ?_
  have t1 := ht.lt _ (getD_mem ha)
  have t2 := ht.lt _ (getD_mem hb)
  have q1 := iL_at ha
  have q2 := iL_at hb
  have ha' : (a : Int) < t.length := by omega
  have hb' : (b : Int) < t.length := by omega
  generalize t.getD a 0 = ta at *
  generalize t.getD b 0 = tb at *
  have la := bits_len ta
  have lb := bits_len tb
  have hna := nodes_spec ta t1
  have hnb := nodes_spec tb t2
  generalize bitsL ta = A at *
  generalize bitsL tb = B at *
  simp -dsimp [ha', q1]
  first
    | refine CallG.by (hna) ?_
    | refine CallGE.by (hna) ?_
    | refine CallGB.by (hna) ?_
  simp -dsimp
  refine lg_adoptT 7 7 30 2 (by simp; rfl) (by simp) ?_
  refine wk_loop (fun i : Nat => ⟨[(21, pI i), (20, pI A.length), (19, .t .fz (eNs A)), (7, .osl 7), (0, .t .ro (eC t k R)), (1, .t .ro (eI a)), (2, .t .ro (eI b))], [(7, .row 30 2 .fz ((rawTo (k == 2) A B i 0).map cPr))]⟩)
    (fun i => i ≤ A.length) (fun i => A.length - i) 0
    (le_of (by simp) (by simp [rawTo])) (by simp) fun i hi => ?_
  simp -dsimp
  refine condX_dec (fun h => ?_) (fun h => ?_)
  · have hw := wr (n := (i : Int) + 1) (by omega) (by omega)
    have hil : (i : Int) < A.length := by omega
    have qi := iL_at h
    have hS := fun j hj => rawTo_succ (k == 2) A B i j hj
    have hRow := rawTo_row (k == 2) A B i h
    generalize A.getD i 0 = x at qi hS
    simp -dsimp [hil, qi, hb', q2]
    first
      | refine CallG.by (hnb) ?_
      | refine CallGE.by (hnb) ?_
      | refine CallGB.by (hnb) ?_
    simp -dsimp
    refine wk_loop (fun j : Nat => ⟨[(9, .t .fz (eI x)), (34, pI j), (33, pI B.length), (32, .t .fz (eNs B)), (21, pI i), (20, pI A.length), (19, .t .fz (eNs A)), (7, .osl 7), (0, .t .ro (eC t k R)), (1, .t .ro (eI a)), (2, .t .ro (eI b))], [(7, .row 30 2 .fz ((rawTo (k == 2) A B i j).map cPr))]⟩)
      (fun j => j ≤ B.length) (fun j => B.length - j) 0
      (le_of (by simp) (by simp)) (by simp) fun j hj => ?_
    simp -dsimp
    refine condX_dec (fun h' => ?_) (fun h' => ?_)
    · have hwj := wr (n := (j : Int) + 1) (by omega) (by omega)
      have hjl : (j : Int) < B.length := by omega
      have qj := iL_at h'
      have hS := hS j h'
      have hlen := rawTo_len (k == 2) A B i j
      have hm : A.length * B.length ≤ 8 * 8 := Nat.mul_le_mul la lb
      have hbd : ((rawTo (k == 2) A B i j).length + 1) * 16 ≤ 140737488355328 := by omega
      generalize B.getD j 0 = y at qj hS
      have hp := pair_spec (eC t k R) x y
      have hxy : (x == y) = ((x : Int) == (y : Int)) := by rw [Bool.eq_iff_iff]; simp; omega
      rw [hxy] at hS
      cases c2 : (k == 2)
      · rw [c2] at hS hbd
        cases c3 : ((x : Int) == (y : Int))
        · rw [c3] at hS
          simp -dsimp [hjl, qj, c2, c3]
          refine LoopP_next (j + 1) (le_of (by simp [hwj]) (by simp [c2, hS])) h' (by omega)
        · rw [c3] at hS
          simp -dsimp [hjl, qj, c2, c3]
          first
            | refine CallG.by (hp) ?_
            | refine CallGE.by (hp) ?_
            | refine CallGB.by (hp) ?_
          simp -dsimp [hbd]
          refine LoopP_next (j + 1) (le_of (by simp [hwj]) (by simp [c2, hS])) h' (by omega)
      · rw [c2] at hS hbd
        simp -dsimp [hjl, qj, c2]
        first
          | refine CallG.by (hp) ?_
          | refine CallGE.by (hp) ?_
          | refine CallGB.by (hp) ?_
        simp -dsimp [hbd]
        refine LoopP_next (j + 1) (le_of (by simp [hwj]) (by simp [c2, hS])) h' (by omega)
    · have hj' : j = B.length := by omega
      subst hj'
      simp -dsimp
      refine LoopP_next (i + 1) (le_of (by simp [hw]) (by simp [hRow])) h (by omega)
  · have hi' : i = A.length := by omega
    have hA := rawTo_all (k == 2) A B
    rw [← hi'] at hA
    rw [hA]
    have hlen : (rawOf (k == 2) A B).length ≤ 100 := by
      have := rawTo_len (k == 2) A B i 0
      have hm : A.length * B.length ≤ 8 * 8 := Nat.mul_le_mul la lb
      rw [hA] at this
      omega
    have hs := sortP_fz (rawOf (k == 2) A B) hne
    simp -dsimp
    refine CallG.onP (g := [(7, 1000011)]) hs (by decide) (by simp) (by simp) (by simp [Sg.bk]) fun r M' hP => ?_
    obtain ⟨rfl, ys, hpe, hso, rfl⟩ := hP
    have hmoves := hmv ys hpe hso
    have hyl : ys.length ≤ 100000 := by rw [← hpe.length_eq]; omega
    have hcm := compact_fz ys hyl
    simp -dsimp
    refine CallG.onP (g := [(7, 1000011)]) hcm (by decide) (by simp) (by simp) (by simp [Sg.bk]) fun r M' hP => ?_
    obtain ⟨zs, rfl, hz⟩ := hP
    rw [hmoves] at hz
    rcases hz with ⟨rfl, rfl⟩ | ⟨n, hn0, hn, rfl, hz⟩
    · simp -dsimp
      refine retP_c ?_
      simp -dsimp
    · simp -dsimp
      refine retP_c ?_
      simp -dsimp [hn0, hn, hz]
      rw [← hz, List.map_take]
end Go.Proofs.YtgcncgocdfioiaaDoor
