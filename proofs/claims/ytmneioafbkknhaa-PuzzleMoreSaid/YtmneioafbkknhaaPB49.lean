import Derived.Test.YtmneioafbkknhaaPB46
import Derived.Test.YtmneioafbkknhaaPB42
/- PB49: the law of More, walked. -/
set_option linter.unusedVariables false
set_option linter.unusedSimpArgs false
set_option maxRecDepth 20000
namespace Go.Proofs.Ytmneioafbkknhaa
open Go Go.PS
attribute [-simp] List.map_take
theorem less_good {p : Pz} {c : Cn} {l : List Cn} (h : goodP p = true) (hc : p.cons = c :: l) : goodP ⟨p.vars, p.rels, l⟩ = true := by
  simp only [goodP, Bool.and_eq_true, decide_eq_true_eq] at h ⊢
  obtain ⟨⟨⟨⟨⟨g1, g2⟩, g3⟩, g4⟩, g5⟩, g6⟩ := h
  rw [hc] at g4 g6
  refine ⟨⟨⟨⟨⟨g1, g2⟩, g3⟩, by simp only [List.length_cons] at g4; omega⟩, g5⟩, ?_⟩
  rw [List.all_eq_true] at g6 ⊢
  exact fun d hd => g6 d (by simp [hd])
theorem less_len {p : Pz} {c : Cn} {l : List Cn} (h : goodP p = true) (hc : p.cons = c :: l) : (allS p).length ≤ (allS ⟨p.vars, p.rels, l⟩).length := by
  have h2 := less_good h hc
  simp only [goodP, Bool.and_eq_true, decide_eq_true_eq] at h h2
  rw [allS_full (q := p) (by omega), allS_full (q := ⟨p.vars, p.rels, l⟩) (by simp only; omega), hc, ← List.countP_eq_length_filter, ← List.countP_eq_length_filter]
  refine List.countP_mono_left fun s _ hs => ?_
  simp only [List.all_cons, Bool.and_eq_true] at hs
  exact hs.2
theorem more_true (p : Pz) (s : Int) : PCall Try.prog 11 [ePz p, eI s] (pB true) [] := by
  have hgt := good_trim p
  refine pcall_wp _ Try.func11 rfl (by kernel_rfl) rfl ?_
  simp -dsimp
  first
    | refine CallG.by (of_spec p) ?_
    | refine CallGE.by (of_spec p) ?_
    | refine CallGB.by (of_spec p) ?_
  simp -dsimp
  first
    | refine CallG.by (count_spec (trimP p)) ?_
    | refine CallGE.by (count_spec (trimP p)) ?_
    | refine CallGB.by (count_spec (trimP p)) ?_
  cases hg : goodP p with
  | false =>
    have e3 : countF (trimP p) = .tup [eI 0, eI 2] := by rw [countF, ← hgt, hg]; rfl
    rw [e3]
    simp -dsimp
    first
      | refine CallG.by (awake_spec) ?_
      | refine CallGE.by (awake_spec) ?_
      | refine CallGB.by (awake_spec) ?_
    simp -dsimp
    refine retP_c ?_
    simp -dsimp
  | true =>
    have hv := vars_le hg
    have e3 : countF p = .tup [eI (allS p).length, eI 0] := by rw [countF, hg]; rfl
    have e4 : checkF p s = .tup [eB (isSol p s), eI 0] := by rw [checkF, hg]; rfl
    rw [trim_of hg, e3]
    obtain ⟨X, hX⟩ := pair_ex p hg
    obtain ⟨N, hN⟩ := narrow_ex p hg
    obtain ⟨n, hn⟩ : ∃ n : Nat, p.vars = n := ⟨p.vars.toNat, by omega⟩
    have hpn : p.vars.toNat = n := by omega
    simp -dsimp
    refine condX_dec (fun h => ?_) (fun h => ?_)
    rotate_left
    simp -dsimp
    rotate_left
    obtain ⟨c, l, hc⟩ : ∃ c l, p.cons = c :: l := by
      cases hc : p.cons with
      | nil => rw [hc] at h; simp at h
      | cons c l => exact ⟨c, l, rfl⟩
    have h2 := less_good hg hc
    have hle := less_len hg hc
    have e5 : countF ⟨p.vars, p.rels, l⟩ = .tup [eI (allS ⟨p.vars, p.rels, l⟩).length, eI 0] := by rw [countF, h2]; rfl
    have hdr : List.drop 1 (List.map cCn p.cons) = List.map cCn l := by rw [hc]; rfl
    simp -dsimp
    first
      | refine CallG.by (of_spec p) ?_
      | refine CallGE.by (of_spec p) ?_
      | refine CallGB.by (of_spec p) ?_
    rw [trim_of hg]
    have h1 : (1 : Int) ≤ (p.cons.length : Int) := by omega
    have htk : List.take (p.cons.length - 1) (List.map cCn l) = List.map cCn l := List.take_of_length_le (by rw [hc]; simp)
    have hle2 : ¬ ((allS ⟨p.vars, p.rels, l⟩).length : Int) < ((allS p).length : Int) := by omega
    simp -dsimp [h, h1, hdr, htk]
    first
      | refine CallG.by (count_spec ⟨p.vars, p.rels, l⟩) ?_
      | refine CallGE.by (count_spec ⟨p.vars, p.rels, l⟩) ?_
      | refine CallGB.by (count_spec ⟨p.vars, p.rels, l⟩) ?_
    rw [e5]
    simp -dsimp [hle2]
    clear hle2 htk h1 hdr e5 hle h2 hc
    all_goals
      first
        | refine CallG.by (of_spec p) ?_
        | refine CallGE.by (of_spec p) ?_
        | refine CallGB.by (of_spec p) ?_
      rw [trim_of hg]
      simp -dsimp
      first
        | refine CallG.by (check_spec p s) ?_
        | refine CallGE.by (check_spec p s) ?_
        | refine CallGB.by (check_spec p s) ?_
      rw [e4]
      cases hS : isSol p s with
      | false =>
        simp -dsimp
        first
          | refine CallG.by (awake_spec) ?_
          | refine CallGE.by (awake_spec) ?_
          | refine CallGB.by (awake_spec) ?_
        simp -dsimp
        refine retP_c ?_
        simp -dsimp
      | true =>
        have hsA : s ∈ allS p := by
          rw [isSol_iff hg, decide_eq_true_eq] at hS
          exact hS
        obtain ⟨k, rfl, hkl⟩ := allS_nat hsA
        have hne : allS p ≠ [] := fun e => by rw [e] at hsA; cases hsA
        have h0N : (0 : Int) ∉ N := fun h => hne (sole_zero hg hN h)
        have hbX : badX X p.vars.toNat = false := by
          cases hb : badX X p.vars.toNat with
          | false => rfl
          | true => exact absurd (bad_none hg hX hb) hne
        have hn1 := pnarrow_spec p hg N hN
        have hn2 := ppairs_spec p hg X hX
        rw [narT, if_neg h0N] at hn1
        rw [parT, hbX, if_neg (by simp), hpn] at hn2
        have hNl : (N.length : Int) = n := by rw [hN.1.1, hpn]
        simp -dsimp
        first
          | refine CallG.by (of_spec p) ?_
          | refine CallGE.by (of_spec p) ?_
          | refine CallGB.by (of_spec p) ?_
        rw [trim_of hg]
        simp -dsimp
        first
          | refine CallG.by (hn1) ?_
          | refine CallGE.by (hn1) ?_
          | refine CallGB.by (hn1) ?_
        simp -dsimp
        first
          | refine CallG.by (of_spec p) ?_
          | refine CallGE.by (of_spec p) ?_
          | refine CallGB.by (of_spec p) ?_
        rw [trim_of hg]
        simp -dsimp
        first
          | refine CallG.by (hn2) ?_
          | refine CallGE.by (hn2) ?_
          | refine CallGB.by (hn2) ?_
        have hgn : (0 : Int) ≤ p.vars := by omega
        have hn8 : n ≤ 8 := by omega
        have hk62 : k < 9223372036854775808 := by
          have : 2 ^ p.vars.toNat ≤ 2 ^ 8 := Nat.pow_le_pow_right (by decide) (by omega)
          omega
        simp -dsimp [hNl, hn]
        refine wk_loop (fun i : Nat => ⟨[(97, pI i), (96, pI n), (11, .t .ro (eIs N)), (12, .t .ro (.sl .any 1 ((List.range n).map fun x => [eIs (rowL X n x)]))), (2, .ptr 2 0), (1, .t .ro (eI k))], [(2, .blk 25 [.t .ro (eI n), .t .ro (eRls p.rels), .t .ro (eCns p.cons)])]⟩)
          (fun i => i ≤ n) (fun i => n - i) 0 (le_of (by simp) (by simp)) (by omega) fun i hi => ?_
        simp -dsimp
        refine condX_dec (fun h => ?_) (fun h => ?_)
        rotate_left
        · simp -dsimp
          first
            | refine CallG.by (awake_spec) ?_
            | refine CallGE.by (awake_spec) ?_
            | refine CallGB.by (awake_spec) ?_
          simp -dsimp
          refine retP_c ?_
          simp -dsimp
        have hin : i < n := by omega
        have hiN : i < N.length := by omega
        have hi0 : (0 : Int) ≤ i := by omega
        have hwi := wr (n := (i : Int) + 1) (by omega) (by omega)
        simp -dsimp
        refine wk_draw 19 [] mixed (by kernel_rfl) ?_
        obtain ⟨bi, hbi⟩ : ∃ bi : Nat, (k.testBit i).toNat = bi := ⟨_, rfl⟩
        have hbi1 : bi ≤ 1 := by have := Bool.toNat_le (k.testBit i); omega
        have hsi : andI (shrI (k : Int) i) 1 = (bi : Int) := by
          rw [and1 k hk62 i (by omega), ← hbi]
          cases k.testBit i <;> rfl
        have hbi0 : (0 : Int) ≤ (bi : Int) := by omega
        have hNi : andI (shrI N[i] bi) 1 = 1 := by
          have := sole_live hg hN hsA (v := i) (by omega)
          rw [dv, Int.toNat_natCast, getD_mem hiN, hbi] at this
          have h1 := bit_is (inN_mono (by omega : 2 ≤ 4) (hN.1.2 _ (List.getElem_mem hiN))) (s := bi) (by omega)
          rw [this, beq_iff_eq] at h1
          exact h1
        have hrl := rowL_len hX.1.1 hn8 (i := i) (by omega)
        simp -dsimp [hi0, hiN, hin, hsi, hbi0, hNi, hrl]
        refine wk_loop (fun j : Nat => ⟨[(123, pI j), (122, pI n), (14, pI i), (97, pI i), (96, pI n), (11, .t .ro (eIs N)), (12, .t .ro (.sl .any 1 ((List.range n).map fun x => [eIs (rowL X n x)]))), (2, .ptr 2 0), (1, .t .ro (eI k))], [(2, .blk 25 [.t .ro (eI n), .t .ro (eRls p.rels), .t .ro (eCns p.cons)])]⟩)
          (fun j => j ≤ n) (fun j => n - j) 0 (le_of (by simp [hNl]) (by simp)) (by omega) fun j hj => ?_
        simp -dsimp
        refine condX_dec (fun h2 => ?_) (fun h2 => ?_)
        rotate_left
        · simp -dsimp [hwi]
          exact LoopP_next (i + 1) (le_of (by simp) (by simp)) hin (by omega)
        have hjn : j < n := by omega
        have hjr : j < (rowL X n i).length := by omega
        have hj0 : (0 : Int) ≤ j := by omega
        have hwj := wr (n := (j : Int) + 1) (by omega) (by omega)
        obtain ⟨bj, hbj⟩ : ∃ bj : Nat, (k.testBit j).toNat = bj := ⟨_, rfl⟩
        have hbj1 : bj ≤ 1 := by have := Bool.toNat_le (k.testBit j); omega
        have hsj : andI (shrI (k : Int) j) 1 = (bj : Int) := by
          rw [and1 k hk62 j (by omega), ← hbj]
          cases k.testBit j <;> rfl
        obtain ⟨t, ht⟩ : ∃ t : Nat, bi + 2 * bj = t := ⟨_, rfl⟩
        have hw1 : IntKind.i64.wrap (2 * (bj : Int)) = 2 * bj := wr (by omega) (by omega)
        have hw2 : IntKind.i64.wrap ((bi : Int) + 2 * bj) = (t : Int) := by rw [wr (by omega) (by omega)]; omega
        have ht0 : (0 : Int) ≤ (t : Int) := by omega
        have hXj : andI (shrI (rowL X n i)[j] t) 1 = 1 := by
          have := soleX_live hg hX hsA (i := i) (j := j) (by omega) (by omega)
          rw [hasF, hbi, hbj, ht, ← rowL_get hX.1.1 hn8 (by omega) hjr] at this
          have hlt : i * 8 + j < X.length := by rw [hX.1.1]; omega
          have hin4 : InN 4 (rowL X n i)[j] := by
            rw [rowL_get hX.1.1 hn8 (by omega) hjr, getD_mem hlt]
            exact hX.1.2 _ (List.getElem_mem hlt)
          have h1 := bit_is hin4 (s := t) (by omega)
          rw [this, beq_iff_eq] at h1
          exact h1
        simp -dsimp
        refine wk_draw 17 [] mixed (by kernel_rfl) ?_
        simp -dsimp [hi0, hj0, hin, hjn, hjr, hsi, hsj, hw1, hw2, ht0, hXj, hwj, hrl]
        exact LoopP_next (j + 1) (le_of (by simp) (by simp)) hjn (by omega)
end Go.Proofs.Ytmneioafbkknhaa
