import Derived.Test.YtmneioafbkknhaaPB41
/- PB42: the law of Ends, walked. -/
set_option linter.unusedVariables false
set_option linter.unusedSimpArgs false
set_option maxRecDepth 20000
namespace Go.Proofs.Ytmneioafbkknhaa
open Go Go.PS
attribute [-simp] List.map_take
theorem endCheck_spec (p : Pz) (s : Int) (hg : goodP p = true) : PCall Try.prog 43 [eI s, .rp [eI p.vars, eRls p.rels, eCns p.cons] 0] (pB (isSol p s)) [] := by
  have hch : checkF p s = .tup [eB (isSol p s), eI 0] := by rw [checkF, hg, if_pos rfl]
  refine pcall_wp _ Try.func43 rfl (by kernel_rfl) rfl ?_
  simp -dsimp
  first
    | refine CallG.by (of_spec p) ?_
    | refine CallGE.by (of_spec p) ?_
    | refine CallGB.by (of_spec p) ?_
  rw [trim_of hg]
  simp -dsimp
  first
    | refine CallG.by (check_spec p s) ?_
    | refine CallGE.by (check_spec p s) ?_
    | refine CallGB.by (check_spec p s) ?_
  rw [hch]
  cases isSol p s with
  | true =>
    simp -dsimp
    refine retP_c ?_
    simp -dsimp
  | false =>
    simp -dsimp
    refine retP_c ?_
    simp -dsimp
theorem isSol_iff {p : Pz} (h : goodP p = true) (s : Int) : isSol p s = decide (s ∈ allS p) := by
  rw [Bool.eq_iff_iff]
  simp only [isSol, allS, solsF, Bool.and_eq_true, decide_eq_true_eq, List.mem_filter, List.mem_map, List.mem_range]
  constructor
  · rintro ⟨h1, h2, h3⟩
    exact ⟨⟨s.toNat, by omega, by simp; omega⟩, h3⟩
  · rintro ⟨⟨k, hk, rfl⟩, h3⟩
    exact ⟨by simp, by simp only [Int.ofNat_eq_natCast]; omega, h3⟩
/-- Does an operation keep all Rels of the Cons? -/
def keepA (p : Pz) (op : Nat) : Bool := p.cons.all (keepC p op)
theorem cls_all : (List.range 64).all (fun m => andI m 1 == (if m.testBit 0 then 1 else 0) && ((andI m 3 != 0) == (m.testBit 0 || m.testBit 1)) && ((andI m 12 == 0) == !(m.testBit 2 || m.testBit 3))) = true := by kernel_rfl
theorem cls_bits (p : Pz) : andI (classF p 6) 1 = eb (keepA p 0) ∧ (andI (classF p 6) 3 != 0) = (keepA p 0 || keepA p 1) ∧ (andI (classF p 6) 12 == 0) = !(keepA p 2 || keepA p 3) ∧ ∀ op ≤ 5, andI (shrI (classF p 6) op) 1 = eb (keepA p op) := by
  obtain ⟨m, h1, h2, h3⟩ := classF_nat p 6 (by omega)
  have := List.all_eq_true.1 cls_all m (List.mem_range.2 h2)
  simp only [Bool.and_eq_true, beq_iff_eq] at this
  obtain ⟨⟨c1, c2⟩, c3⟩ := this
  have hb : ∀ op ≤ 5, m.testBit op = keepA p op := fun op hop => by
    rw [h3, keepA]
    simp [show op < 6 by omega]
  rw [h1]
  refine ⟨?_, ?_, ?_, fun op hop => ?_⟩
  · rw [c1, hb 0 (by omega)]
    rfl
  · rw [c2, hb 0 (by omega), hb 1 (by omega)]
  · rw [c3, hb 2 (by omega), hb 3 (by omega)]
  · have := class_bit p op hop
    rw [h1] at this
    exact this
theorem least_step {N : List Int} {i : Nat} (hi : i < N.length) (h2 : ∀ x ∈ N, InN 2 x) (hl : N.length ≤ 8) : orI ((bitsN (leastB N) i : Nat) : Int) (shlI (IntKind.i64.wrap (1 - andI N[i] 1)) i) = ((bitsN (leastB N) (i + 1) : Nat) : Int) := by
  obtain ⟨k, hk, hk4⟩ := h2 _ (List.getElem_mem hi)
  have hb : leastB N i = !k.testBit 0 := by
    rw [leastB, dv, Int.toNat_natCast, getD_mem hi, hk]
    rfl
  have hlt := bitsN_lt (leastB N) i
  have hp : 2 ^ i ≤ 2 ^ 8 := Nat.pow_le_pow_right (by decide) (by omega)
  rw [hk, bitsN, hb]
  have hk' : k = 0 ∨ k = 1 ∨ k = 2 ∨ k = 3 := by omega
  have e1 : ∀ b : Nat, b ≤ 1 → orI ((bitsN (leastB N) i : Nat) : Int) (shlI (b : Int) i) = ((bitsN (leastB N) i ||| (if b = 1 then 2 ^ i else 0) : Nat) : Int) := by
    intro b hb
    rcases (show b = 0 ∨ b = 1 by omega) with rfl | rfl
    · have : shlI 0 i = ((0 : Nat) : Int) := by
        simp [shlI]
        exact wr (by omega) (by omega)
      rw [show ((0 : Nat) : Int) = 0 from rfl, this, orI_nat _ _ (by omega) (by omega)]
      rfl
    · rw [show ((1 : Nat) : Int) = 1 from rfl, shl1 i (by omega), orI_nat _ _ (by omega) (by omega)]
      rfl
  rcases hk' with rfl | rfl | rfl | rfl
  · exact e1 1 (by omega)
  · exact e1 0 (by omega)
  · exact e1 1 (by omega)
  · exact e1 0 (by omega)
theorem most_step {N : List Int} {i : Nat} (hi : i < N.length) (h2 : ∀ x ∈ N, InN 2 x) (hl : N.length ≤ 8) : orI ((bitsN (mostB N) i : Nat) : Int) (shlI (shrI N[i] 1) i) = ((bitsN (mostB N) (i + 1) : Nat) : Int) := by
  obtain ⟨k, hk, hk4⟩ := h2 _ (List.getElem_mem hi)
  have hb : mostB N i = k.testBit 1 := by
    rw [mostB, dv, Int.toNat_natCast, getD_mem hi, hk]
    rfl
  have hlt := bitsN_lt (mostB N) i
  have hp : 2 ^ i ≤ 2 ^ 8 := Nat.pow_le_pow_right (by decide) (by omega)
  rw [hk, bitsN, hb]
  have hk' : k = 0 ∨ k = 1 ∨ k = 2 ∨ k = 3 := by omega
  have e1 : ∀ b : Nat, b ≤ 1 → orI ((bitsN (mostB N) i : Nat) : Int) (shlI (b : Int) i) = ((bitsN (mostB N) i ||| (if b = 1 then 2 ^ i else 0) : Nat) : Int) := by
    intro b hb
    rcases (show b = 0 ∨ b = 1 by omega) with rfl | rfl
    · have : shlI 0 i = ((0 : Nat) : Int) := by
        simp [shlI]
        exact wr (by omega) (by omega)
      rw [show ((0 : Nat) : Int) = 0 from rfl, this, orI_nat _ _ (by omega) (by omega)]
      rfl
    · rw [show ((1 : Nat) : Int) = 1 from rfl, shl1 i (by omega), orI_nat _ _ (by omega) (by omega)]
      rfl
  rcases hk' with rfl | rfl | rfl | rfl
  · exact e1 0 (by omega)
  · exact e1 0 (by omega)
  · exact e1 1 (by omega)
  · exact e1 1 (by omega)
set_option maxHeartbeats 4000000 in
theorem ends_true (p : Pz) : PCall Try.prog 10 [ePz p] (pB true) [] := by
  have hgt := good_trim p
  refine pcall_wp _ Try.func10 rfl (by kernel_rfl) rfl ?_
  simp -dsimp
  first
    | refine CallG.by (of_spec p) ?_
    | refine CallGE.by (of_spec p) ?_
    | refine CallGB.by (of_spec p) ?_
  simp -dsimp
  first
    | refine CallG.by (class_spec (trimP p)) ?_
    | refine CallGE.by (class_spec (trimP p)) ?_
    | refine CallGB.by (class_spec (trimP p)) ?_
  cases hg : goodP p with
  | false =>
    rw [hg] at hgt
    have hsv := solve_bad' hgt.symm
    rw [clsT, ← hgt, if_neg (by simp)]
    simp -dsimp
    first
      | refine CallG.by (of_spec p) ?_
      | refine CallGE.by (of_spec p) ?_
      | refine CallGB.by (of_spec p) ?_
    simp -dsimp
    first
      | refine CallG.by (pnarrow_bad (trimP p) hgt.symm) ?_
      | refine CallGE.by (pnarrow_bad (trimP p) hgt.symm) ?_
      | refine CallGB.by (pnarrow_bad (trimP p) hgt.symm) ?_
    simp -dsimp
    first
      | refine CallG.by (of_spec p) ?_
      | refine CallGE.by (of_spec p) ?_
      | refine CallGB.by (of_spec p) ?_
    simp -dsimp
    first
      | refine CallG.by (psolve_spec (trimP p)) ?_
      | refine CallGE.by (psolve_spec (trimP p)) ?_
      | refine CallGB.by (psolve_spec (trimP p)) ?_
    rw [hsv]
    simp -dsimp
    first
      | refine CallG.by (awake_spec) ?_
      | refine CallGE.by (awake_spec) ?_
      | refine CallGB.by (awake_spec) ?_
    simp -dsimp
    refine retP_c ?_
    simp -dsimp
  | true =>
    obtain ⟨N, hN⟩ := narrow_ex p hg
    have hv := vars_le hg
    have hC : clsT p = .tup [eI (classF p 6), eI 0] := by rw [clsT, hg, if_pos rfl]
    rw [trim_of hg, hC]
    obtain ⟨k1, k3, k12, kb⟩ := cls_bits p
    have kb1 := kb 1 (by omega)
    have kb2 := kb 2 (by omega)
    have kb3 := kb 3 (by omega)
    have h1 := pnarrow_spec p hg N hN
    have hsF : solveF p = (match allS p with
      | [] => .tup [eI 0, eI 4]
      | s :: _ => .tup [eI s, eI 0]) := by
      rw [solveF, hg, if_pos rfl]
      rfl
    have hs0 : keepA p 0 = true → isSol p 0 = true := fun h => by
      rw [isSol_iff hg, decide_eq_true_eq]
      exact sols_closed hg (by decide) h (l := []) rfl (by simp)
    have hw1 := shl1 p.vars.toNat (by omega)
    have hs1 : keepA p 1 = true → isSol p (IntKind.i64.wrap (shlI 1 p.vars.toNat - 1)) = true := fun h => by
      rw [isSol_iff hg, decide_eq_true_eq]
      exact sols_closed hg (by decide) h (l := []) rfl (by simp)
    have hs2 : (0 : Int) ∉ N → keepA p 2 = true → isSol p ((bitsN (leastB N) p.vars.toNat : Nat) : Int) = true := fun h0 h => by
      rw [isSol_iff hg, decide_eq_true_eq]
      exact least_sol hg hN h0 h
    have hs3 : (0 : Int) ∉ N → keepA p 3 = true → isSol p ((bitsN (mostB N) p.vars.toNat : Nat) : Int) = true := fun h0 h => by
      rw [isSol_iff hg, decide_eq_true_eq]
      exact most_sol hg hN h0 h
    have hmem : ∀ s, isSol p s = true → s ∈ allS p := fun s h => by
      rw [isSol_iff hg, decide_eq_true_eq] at h
      exact h
    generalize keepA p 0 = K0 at *
    generalize keepA p 1 = K1 at *
    generalize keepA p 2 = K2 at *
    generalize keepA p 3 = K3 at *
    have g0 : 0 ≤ p.vars := by omega
    cases hA : allS p with
    | nil =>
      rw [hA] at hsF hmem
      have e0 : K0 = false := by
        cases K0 with
        | false => rfl
        | true => have := hmem _ (hs0 rfl); cases this
      have e1 : K1 = false := by
        cases K1 with
        | false => rfl
        | true => have := hmem _ (hs1 rfl); cases this
      subst e0 e1
      by_cases h0 : (0 : Int) ∈ N
      · rw [narT, if_pos h0] at h1
        simp -dsimp
        first
          | refine CallG.by (of_spec p) ?_
          | refine CallGE.by (of_spec p) ?_
          | refine CallGB.by (of_spec p) ?_
        rw [trim_of hg]
        simp -dsimp
        first
          | refine CallG.by (h1) ?_
          | refine CallGE.by (h1) ?_
          | refine CallGB.by (h1) ?_
        simp -dsimp
        first
          | refine CallG.by (of_spec p) ?_
          | refine CallGE.by (of_spec p) ?_
          | refine CallGB.by (of_spec p) ?_
        rw [trim_of hg]
        simp -dsimp
        first
          | refine CallG.by (psolve_spec p) ?_
          | refine CallGE.by (psolve_spec p) ?_
          | refine CallGB.by (psolve_spec p) ?_
        rw [hsF]
        simp -dsimp [k1, k3, kb1, eb]
        cases hk : K2 || K3 with
        | false =>
          simp -dsimp [k12, hk]
          first
            | refine CallG.by (awake_spec) ?_
            | refine CallGE.by (awake_spec) ?_
            | refine CallGB.by (awake_spec) ?_
          simp -dsimp
          refine retP_c ?_
          simp -dsimp
        | true =>
          simp -dsimp [k12, hk]
          first
            | refine CallG.by (awake_spec) ?_
            | refine CallGE.by (awake_spec) ?_
            | refine CallGB.by (awake_spec) ?_
          simp -dsimp
          refine retP_c ?_
          simp -dsimp
      · have e2 : K2 = false := by
          cases K2 with
          | false => rfl
          | true => have := hmem _ (hs2 h0 rfl); cases this
        have e3 : K3 = false := by
          cases K3 with
          | false => rfl
          | true => have := hmem _ (hs3 h0 rfl); cases this
        subst e2 e3
        rw [narT, if_neg h0] at h1
        simp -dsimp
        first
          | refine CallG.by (of_spec p) ?_
          | refine CallGE.by (of_spec p) ?_
          | refine CallGB.by (of_spec p) ?_
        rw [trim_of hg]
        simp -dsimp
        first
          | refine CallG.by (h1) ?_
          | refine CallGE.by (h1) ?_
          | refine CallGB.by (h1) ?_
        simp -dsimp
        first
          | refine CallG.by (of_spec p) ?_
          | refine CallGE.by (of_spec p) ?_
          | refine CallGB.by (of_spec p) ?_
        rw [trim_of hg]
        simp -dsimp
        first
          | refine CallG.by (psolve_spec p) ?_
          | refine CallGE.by (psolve_spec p) ?_
          | refine CallGB.by (psolve_spec p) ?_
        rw [hsF]
        simp -dsimp [k1, k3, kb1, k12, eb]
        first
          | refine CallG.by (awake_spec) ?_
          | refine CallGE.by (awake_spec) ?_
          | refine CallGB.by (awake_spec) ?_
        simp -dsimp
        refine retP_c ?_
        simp -dsimp
    | cons s l =>
      rw [hA] at hsF
      have h0 : (0 : Int) ∉ N := fun h => by
        rw [sole_zero hg hN h] at hA
        cases hA
      rw [narT, if_neg h0] at h1
      have hNl : N.length = p.vars.toNat := hN.1.1
      have hs2' := hs2 h0
      have hs3' := hs3 h0
      rw [← hNl] at hs2' hs3'
      have hc0 := endCheck_spec p 0 hg
      have hc1 := endCheck_spec p (IntKind.i64.wrap (shlI 1 p.vars.toNat - 1)) hg
      have hc2 := endCheck_spec p ((bitsN (leastB N) N.length : Nat) : Int) hg
      have hc3 := endCheck_spec p ((bitsN (mostB N) N.length : Nat) : Int) hg
      have hlen : ((N.length : Int) == p.vars) = true := by
        rw [beq_iff_eq]
        omega
      simp -dsimp
      first
        | refine CallG.by (of_spec p) ?_
        | refine CallGE.by (of_spec p) ?_
        | refine CallGB.by (of_spec p) ?_
      rw [trim_of hg]
      simp -dsimp
      first
        | refine CallG.by (h1) ?_
        | refine CallGE.by (h1) ?_
        | refine CallGB.by (h1) ?_
      simp -dsimp
      first
        | refine CallG.by (of_spec p) ?_
        | refine CallGE.by (of_spec p) ?_
        | refine CallGB.by (of_spec p) ?_
      rw [trim_of hg]
      simp -dsimp
      first
        | refine CallG.by (psolve_spec p) ?_
        | refine CallGE.by (psolve_spec p) ?_
        | refine CallGB.by (psolve_spec p) ?_
      rw [hsF]
      cases K0 with
      | false =>
        cases K1 with
        | false =>
          simp -dsimp [k1, k3, kb1, eb, g0]
          cases K2 with
          | false =>
            cases K3 with
            | false =>
              simp -dsimp [k12]
              first
                | refine CallG.by (awake_spec) ?_
                | refine CallGE.by (awake_spec) ?_
                | refine CallGB.by (awake_spec) ?_
              simp -dsimp
              refine retP_c ?_
              simp -dsimp
            | true =>
              simp -dsimp [k12]
              refine wk_loop (fun i : Nat => ⟨[(118, pI i), (117, pI N.length), (116, .t .ro (eIs N)), (10, pI ((bitsN (leastB N) i : Nat) : Int)), (11, pI ((bitsN (mostB N) i : Nat) : Int)), (5, .t .ro (eIs N)), (3, pI (classF p 6)), (9, .clo 43 [.ptr 1 0]), (1, .ptr 1 0)], [(1, .blk 25 [.t .ro (eI p.vars), .t .ro (eRls p.rels), .t .ro (eCns p.cons)])]⟩)
                (fun i => i ≤ N.length) (fun i => N.length - i) 0 (le_of (by simp [bitsN]) (by simp)) (by omega) fun i hi => ?_
              simp -dsimp
              refine condX_dec (fun h => ?_) (fun h => ?_)
              · have hw := wr (n := (i : Int) + 1) (by omega) (by omega)
                have hls := least_step h hN.1.2 (by omega)
                have hms := most_step h hN.1.2 (by omega)
                have hx : 1 ≤ N[i] ∧ N[i] ≤ 3 := by
                  obtain ⟨k, hk, hk4⟩ := hN.1.2 _ (List.getElem_mem h)
                  have : N[i] ≠ 0 := fun e => h0 (by rw [← e]; exact List.getElem_mem h)
                  omega
                have hx1 : ¬ N[i] < 1 := by omega
                have hx3 : ¬ 3 < N[i] := by omega
                have hi0 : (0 : Int) ≤ i := by omega
                simp -dsimp [h, hx1, hx3, hi0, hls, hms, hw]
                exact LoopP_next (i + 1) (le_of (by simp) (by simp)) h (by omega)
              have e : i = N.length := by omega
              subst e
              simp -dsimp [hlen, kb2, kb3, eb]
              first
                | refine CallG.by (hc3) ?_
                | refine CallGE.by (hc3) ?_
                | refine CallGB.by (hc3) ?_
              rw [hs3' rfl]
              simp -dsimp
              first
                | refine CallG.by (awake_spec) ?_
                | refine CallGE.by (awake_spec) ?_
                | refine CallGB.by (awake_spec) ?_
              simp -dsimp
              refine retP_c ?_
              simp -dsimp
          | true =>
            cases K3 with
            | false =>
              simp -dsimp [k12]
              refine wk_loop (fun i : Nat => ⟨[(118, pI i), (117, pI N.length), (116, .t .ro (eIs N)), (10, pI ((bitsN (leastB N) i : Nat) : Int)), (11, pI ((bitsN (mostB N) i : Nat) : Int)), (5, .t .ro (eIs N)), (3, pI (classF p 6)), (9, .clo 43 [.ptr 1 0]), (1, .ptr 1 0)], [(1, .blk 25 [.t .ro (eI p.vars), .t .ro (eRls p.rels), .t .ro (eCns p.cons)])]⟩)
                (fun i => i ≤ N.length) (fun i => N.length - i) 0 (le_of (by simp [bitsN]) (by simp)) (by omega) fun i hi => ?_
              simp -dsimp
              refine condX_dec (fun h => ?_) (fun h => ?_)
              · have hw := wr (n := (i : Int) + 1) (by omega) (by omega)
                have hls := least_step h hN.1.2 (by omega)
                have hms := most_step h hN.1.2 (by omega)
                have hx : 1 ≤ N[i] ∧ N[i] ≤ 3 := by
                  obtain ⟨k, hk, hk4⟩ := hN.1.2 _ (List.getElem_mem h)
                  have : N[i] ≠ 0 := fun e => h0 (by rw [← e]; exact List.getElem_mem h)
                  omega
                have hx1 : ¬ N[i] < 1 := by omega
                have hx3 : ¬ 3 < N[i] := by omega
                have hi0 : (0 : Int) ≤ i := by omega
                simp -dsimp [h, hx1, hx3, hi0, hls, hms, hw]
                exact LoopP_next (i + 1) (le_of (by simp) (by simp)) h (by omega)
              have e : i = N.length := by omega
              subst e
              simp -dsimp [hlen, kb2, kb3, eb]
              first
                | refine CallG.by (hc2) ?_
                | refine CallGE.by (hc2) ?_
                | refine CallGB.by (hc2) ?_
              rw [hs2' rfl]
              simp -dsimp [kb3, eb]
              first
                | refine CallG.by (awake_spec) ?_
                | refine CallGE.by (awake_spec) ?_
                | refine CallGB.by (awake_spec) ?_
              simp -dsimp
              refine retP_c ?_
              simp -dsimp
            | true =>
              simp -dsimp [k12]
              refine wk_loop (fun i : Nat => ⟨[(118, pI i), (117, pI N.length), (116, .t .ro (eIs N)), (10, pI ((bitsN (leastB N) i : Nat) : Int)), (11, pI ((bitsN (mostB N) i : Nat) : Int)), (5, .t .ro (eIs N)), (3, pI (classF p 6)), (9, .clo 43 [.ptr 1 0]), (1, .ptr 1 0)], [(1, .blk 25 [.t .ro (eI p.vars), .t .ro (eRls p.rels), .t .ro (eCns p.cons)])]⟩)
                (fun i => i ≤ N.length) (fun i => N.length - i) 0 (le_of (by simp [bitsN]) (by simp)) (by omega) fun i hi => ?_
              simp -dsimp
              refine condX_dec (fun h => ?_) (fun h => ?_)
              · have hw := wr (n := (i : Int) + 1) (by omega) (by omega)
                have hls := least_step h hN.1.2 (by omega)
                have hms := most_step h hN.1.2 (by omega)
                have hx : 1 ≤ N[i] ∧ N[i] ≤ 3 := by
                  obtain ⟨k, hk, hk4⟩ := hN.1.2 _ (List.getElem_mem h)
                  have : N[i] ≠ 0 := fun e => h0 (by rw [← e]; exact List.getElem_mem h)
                  omega
                have hx1 : ¬ N[i] < 1 := by omega
                have hx3 : ¬ 3 < N[i] := by omega
                have hi0 : (0 : Int) ≤ i := by omega
                simp -dsimp [h, hx1, hx3, hi0, hls, hms, hw]
                exact LoopP_next (i + 1) (le_of (by simp) (by simp)) h (by omega)
              have e : i = N.length := by omega
              subst e
              simp -dsimp [hlen, kb2, kb3, eb]
              first
                | refine CallG.by (hc2) ?_
                | refine CallGE.by (hc2) ?_
                | refine CallGB.by (hc2) ?_
              rw [hs2' rfl]
              simp -dsimp [kb3, eb]
              first
                | refine CallG.by (hc3) ?_
                | refine CallGE.by (hc3) ?_
                | refine CallGB.by (hc3) ?_
              rw [hs3' rfl]
              simp -dsimp
              first
                | refine CallG.by (awake_spec) ?_
                | refine CallGE.by (awake_spec) ?_
                | refine CallGB.by (awake_spec) ?_
              simp -dsimp
              refine retP_c ?_
              simp -dsimp
        | true =>
          simp -dsimp [k1, k3, kb1, eb, g0]
          first
            | refine CallG.by (hc1) ?_
            | refine CallGE.by (hc1) ?_
            | refine CallGB.by (hc1) ?_
          rw [hs1 rfl]
          simp -dsimp [k3, eb]
          cases K2 with
          | false =>
            cases K3 with
            | false =>
              simp -dsimp [k12]
              first
                | refine CallG.by (awake_spec) ?_
                | refine CallGE.by (awake_spec) ?_
                | refine CallGB.by (awake_spec) ?_
              simp -dsimp
              refine retP_c ?_
              simp -dsimp
            | true =>
              simp -dsimp [k12]
              refine wk_loop (fun i : Nat => ⟨[(118, pI i), (117, pI N.length), (116, .t .ro (eIs N)), (10, pI ((bitsN (leastB N) i : Nat) : Int)), (11, pI ((bitsN (mostB N) i : Nat) : Int)), (5, .t .ro (eIs N)), (3, pI (classF p 6)), (9, .clo 43 [.ptr 1 0]), (1, .ptr 1 0)], [(1, .blk 25 [.t .ro (eI p.vars), .t .ro (eRls p.rels), .t .ro (eCns p.cons)])]⟩)
                (fun i => i ≤ N.length) (fun i => N.length - i) 0 (le_of (by simp [bitsN]) (by simp)) (by omega) fun i hi => ?_
              simp -dsimp
              refine condX_dec (fun h => ?_) (fun h => ?_)
              · have hw := wr (n := (i : Int) + 1) (by omega) (by omega)
                have hls := least_step h hN.1.2 (by omega)
                have hms := most_step h hN.1.2 (by omega)
                have hx : 1 ≤ N[i] ∧ N[i] ≤ 3 := by
                  obtain ⟨k, hk, hk4⟩ := hN.1.2 _ (List.getElem_mem h)
                  have : N[i] ≠ 0 := fun e => h0 (by rw [← e]; exact List.getElem_mem h)
                  omega
                have hx1 : ¬ N[i] < 1 := by omega
                have hx3 : ¬ 3 < N[i] := by omega
                have hi0 : (0 : Int) ≤ i := by omega
                simp -dsimp [h, hx1, hx3, hi0, hls, hms, hw]
                exact LoopP_next (i + 1) (le_of (by simp) (by simp)) h (by omega)
              have e : i = N.length := by omega
              subst e
              simp -dsimp [hlen, kb2, kb3, eb]
              first
                | refine CallG.by (hc3) ?_
                | refine CallGE.by (hc3) ?_
                | refine CallGB.by (hc3) ?_
              rw [hs3' rfl]
              simp -dsimp
              first
                | refine CallG.by (awake_spec) ?_
                | refine CallGE.by (awake_spec) ?_
                | refine CallGB.by (awake_spec) ?_
              simp -dsimp
              refine retP_c ?_
              simp -dsimp
          | true =>
            cases K3 with
            | false =>
              simp -dsimp [k12]
              refine wk_loop (fun i : Nat => ⟨[(118, pI i), (117, pI N.length), (116, .t .ro (eIs N)), (10, pI ((bitsN (leastB N) i : Nat) : Int)), (11, pI ((bitsN (mostB N) i : Nat) : Int)), (5, .t .ro (eIs N)), (3, pI (classF p 6)), (9, .clo 43 [.ptr 1 0]), (1, .ptr 1 0)], [(1, .blk 25 [.t .ro (eI p.vars), .t .ro (eRls p.rels), .t .ro (eCns p.cons)])]⟩)
                (fun i => i ≤ N.length) (fun i => N.length - i) 0 (le_of (by simp [bitsN]) (by simp)) (by omega) fun i hi => ?_
              simp -dsimp
              refine condX_dec (fun h => ?_) (fun h => ?_)
              · have hw := wr (n := (i : Int) + 1) (by omega) (by omega)
                have hls := least_step h hN.1.2 (by omega)
                have hms := most_step h hN.1.2 (by omega)
                have hx : 1 ≤ N[i] ∧ N[i] ≤ 3 := by
                  obtain ⟨k, hk, hk4⟩ := hN.1.2 _ (List.getElem_mem h)
                  have : N[i] ≠ 0 := fun e => h0 (by rw [← e]; exact List.getElem_mem h)
                  omega
                have hx1 : ¬ N[i] < 1 := by omega
                have hx3 : ¬ 3 < N[i] := by omega
                have hi0 : (0 : Int) ≤ i := by omega
                simp -dsimp [h, hx1, hx3, hi0, hls, hms, hw]
                exact LoopP_next (i + 1) (le_of (by simp) (by simp)) h (by omega)
              have e : i = N.length := by omega
              subst e
              simp -dsimp [hlen, kb2, kb3, eb]
              first
                | refine CallG.by (hc2) ?_
                | refine CallGE.by (hc2) ?_
                | refine CallGB.by (hc2) ?_
              rw [hs2' rfl]
              simp -dsimp [kb3, eb]
              first
                | refine CallG.by (awake_spec) ?_
                | refine CallGE.by (awake_spec) ?_
                | refine CallGB.by (awake_spec) ?_
              simp -dsimp
              refine retP_c ?_
              simp -dsimp
            | true =>
              simp -dsimp [k12]
              refine wk_loop (fun i : Nat => ⟨[(118, pI i), (117, pI N.length), (116, .t .ro (eIs N)), (10, pI ((bitsN (leastB N) i : Nat) : Int)), (11, pI ((bitsN (mostB N) i : Nat) : Int)), (5, .t .ro (eIs N)), (3, pI (classF p 6)), (9, .clo 43 [.ptr 1 0]), (1, .ptr 1 0)], [(1, .blk 25 [.t .ro (eI p.vars), .t .ro (eRls p.rels), .t .ro (eCns p.cons)])]⟩)
                (fun i => i ≤ N.length) (fun i => N.length - i) 0 (le_of (by simp [bitsN]) (by simp)) (by omega) fun i hi => ?_
              simp -dsimp
              refine condX_dec (fun h => ?_) (fun h => ?_)
              · have hw := wr (n := (i : Int) + 1) (by omega) (by omega)
                have hls := least_step h hN.1.2 (by omega)
                have hms := most_step h hN.1.2 (by omega)
                have hx : 1 ≤ N[i] ∧ N[i] ≤ 3 := by
                  obtain ⟨k, hk, hk4⟩ := hN.1.2 _ (List.getElem_mem h)
                  have : N[i] ≠ 0 := fun e => h0 (by rw [← e]; exact List.getElem_mem h)
                  omega
                have hx1 : ¬ N[i] < 1 := by omega
                have hx3 : ¬ 3 < N[i] := by omega
                have hi0 : (0 : Int) ≤ i := by omega
                simp -dsimp [h, hx1, hx3, hi0, hls, hms, hw]
                exact LoopP_next (i + 1) (le_of (by simp) (by simp)) h (by omega)
              have e : i = N.length := by omega
              subst e
              simp -dsimp [hlen, kb2, kb3, eb]
              first
                | refine CallG.by (hc2) ?_
                | refine CallGE.by (hc2) ?_
                | refine CallGB.by (hc2) ?_
              rw [hs2' rfl]
              simp -dsimp [kb3, eb]
              first
                | refine CallG.by (hc3) ?_
                | refine CallGE.by (hc3) ?_
                | refine CallGB.by (hc3) ?_
              rw [hs3' rfl]
              simp -dsimp
              first
                | refine CallG.by (awake_spec) ?_
                | refine CallGE.by (awake_spec) ?_
                | refine CallGB.by (awake_spec) ?_
              simp -dsimp
              refine retP_c ?_
              simp -dsimp
      | true =>
        cases K1 with
        | false =>
          simp -dsimp [k1, k3, kb1, eb, g0]
          first
            | refine CallG.by (hc0) ?_
            | refine CallGE.by (hc0) ?_
            | refine CallGB.by (hc0) ?_
          rw [hs0 rfl]
          simp -dsimp [k3, kb1, eb, g0]
          cases K2 with
          | false =>
            cases K3 with
            | false =>
              simp -dsimp [k12]
              first
                | refine CallG.by (awake_spec) ?_
                | refine CallGE.by (awake_spec) ?_
                | refine CallGB.by (awake_spec) ?_
              simp -dsimp
              refine retP_c ?_
              simp -dsimp
            | true =>
              simp -dsimp [k12]
              refine wk_loop (fun i : Nat => ⟨[(118, pI i), (117, pI N.length), (116, .t .ro (eIs N)), (10, pI ((bitsN (leastB N) i : Nat) : Int)), (11, pI ((bitsN (mostB N) i : Nat) : Int)), (5, .t .ro (eIs N)), (3, pI (classF p 6)), (9, .clo 43 [.ptr 1 0]), (1, .ptr 1 0)], [(1, .blk 25 [.t .ro (eI p.vars), .t .ro (eRls p.rels), .t .ro (eCns p.cons)])]⟩)
                (fun i => i ≤ N.length) (fun i => N.length - i) 0 (le_of (by simp [bitsN]) (by simp)) (by omega) fun i hi => ?_
              simp -dsimp
              refine condX_dec (fun h => ?_) (fun h => ?_)
              · have hw := wr (n := (i : Int) + 1) (by omega) (by omega)
                have hls := least_step h hN.1.2 (by omega)
                have hms := most_step h hN.1.2 (by omega)
                have hx : 1 ≤ N[i] ∧ N[i] ≤ 3 := by
                  obtain ⟨k, hk, hk4⟩ := hN.1.2 _ (List.getElem_mem h)
                  have : N[i] ≠ 0 := fun e => h0 (by rw [← e]; exact List.getElem_mem h)
                  omega
                have hx1 : ¬ N[i] < 1 := by omega
                have hx3 : ¬ 3 < N[i] := by omega
                have hi0 : (0 : Int) ≤ i := by omega
                simp -dsimp [h, hx1, hx3, hi0, hls, hms, hw]
                exact LoopP_next (i + 1) (le_of (by simp) (by simp)) h (by omega)
              have e : i = N.length := by omega
              subst e
              simp -dsimp [hlen, kb2, kb3, eb]
              first
                | refine CallG.by (hc3) ?_
                | refine CallGE.by (hc3) ?_
                | refine CallGB.by (hc3) ?_
              rw [hs3' rfl]
              simp -dsimp
              first
                | refine CallG.by (awake_spec) ?_
                | refine CallGE.by (awake_spec) ?_
                | refine CallGB.by (awake_spec) ?_
              simp -dsimp
              refine retP_c ?_
              simp -dsimp
          | true =>
            cases K3 with
            | false =>
              simp -dsimp [k12]
              refine wk_loop (fun i : Nat => ⟨[(118, pI i), (117, pI N.length), (116, .t .ro (eIs N)), (10, pI ((bitsN (leastB N) i : Nat) : Int)), (11, pI ((bitsN (mostB N) i : Nat) : Int)), (5, .t .ro (eIs N)), (3, pI (classF p 6)), (9, .clo 43 [.ptr 1 0]), (1, .ptr 1 0)], [(1, .blk 25 [.t .ro (eI p.vars), .t .ro (eRls p.rels), .t .ro (eCns p.cons)])]⟩)
                (fun i => i ≤ N.length) (fun i => N.length - i) 0 (le_of (by simp [bitsN]) (by simp)) (by omega) fun i hi => ?_
              simp -dsimp
              refine condX_dec (fun h => ?_) (fun h => ?_)
              · have hw := wr (n := (i : Int) + 1) (by omega) (by omega)
                have hls := least_step h hN.1.2 (by omega)
                have hms := most_step h hN.1.2 (by omega)
                have hx : 1 ≤ N[i] ∧ N[i] ≤ 3 := by
                  obtain ⟨k, hk, hk4⟩ := hN.1.2 _ (List.getElem_mem h)
                  have : N[i] ≠ 0 := fun e => h0 (by rw [← e]; exact List.getElem_mem h)
                  omega
                have hx1 : ¬ N[i] < 1 := by omega
                have hx3 : ¬ 3 < N[i] := by omega
                have hi0 : (0 : Int) ≤ i := by omega
                simp -dsimp [h, hx1, hx3, hi0, hls, hms, hw]
                exact LoopP_next (i + 1) (le_of (by simp) (by simp)) h (by omega)
              have e : i = N.length := by omega
              subst e
              simp -dsimp [hlen, kb2, kb3, eb]
              first
                | refine CallG.by (hc2) ?_
                | refine CallGE.by (hc2) ?_
                | refine CallGB.by (hc2) ?_
              rw [hs2' rfl]
              simp -dsimp [kb3, eb]
              first
                | refine CallG.by (awake_spec) ?_
                | refine CallGE.by (awake_spec) ?_
                | refine CallGB.by (awake_spec) ?_
              simp -dsimp
              refine retP_c ?_
              simp -dsimp
            | true =>
              simp -dsimp [k12]
              refine wk_loop (fun i : Nat => ⟨[(118, pI i), (117, pI N.length), (116, .t .ro (eIs N)), (10, pI ((bitsN (leastB N) i : Nat) : Int)), (11, pI ((bitsN (mostB N) i : Nat) : Int)), (5, .t .ro (eIs N)), (3, pI (classF p 6)), (9, .clo 43 [.ptr 1 0]), (1, .ptr 1 0)], [(1, .blk 25 [.t .ro (eI p.vars), .t .ro (eRls p.rels), .t .ro (eCns p.cons)])]⟩)
                (fun i => i ≤ N.length) (fun i => N.length - i) 0 (le_of (by simp [bitsN]) (by simp)) (by omega) fun i hi => ?_
              simp -dsimp
              refine condX_dec (fun h => ?_) (fun h => ?_)
              · have hw := wr (n := (i : Int) + 1) (by omega) (by omega)
                have hls := least_step h hN.1.2 (by omega)
                have hms := most_step h hN.1.2 (by omega)
                have hx : 1 ≤ N[i] ∧ N[i] ≤ 3 := by
                  obtain ⟨k, hk, hk4⟩ := hN.1.2 _ (List.getElem_mem h)
                  have : N[i] ≠ 0 := fun e => h0 (by rw [← e]; exact List.getElem_mem h)
                  omega
                have hx1 : ¬ N[i] < 1 := by omega
                have hx3 : ¬ 3 < N[i] := by omega
                have hi0 : (0 : Int) ≤ i := by omega
                simp -dsimp [h, hx1, hx3, hi0, hls, hms, hw]
                exact LoopP_next (i + 1) (le_of (by simp) (by simp)) h (by omega)
              have e : i = N.length := by omega
              subst e
              simp -dsimp [hlen, kb2, kb3, eb]
              first
                | refine CallG.by (hc2) ?_
                | refine CallGE.by (hc2) ?_
                | refine CallGB.by (hc2) ?_
              rw [hs2' rfl]
              simp -dsimp [kb3, eb]
              first
                | refine CallG.by (hc3) ?_
                | refine CallGE.by (hc3) ?_
                | refine CallGB.by (hc3) ?_
              rw [hs3' rfl]
              simp -dsimp
              first
                | refine CallG.by (awake_spec) ?_
                | refine CallGE.by (awake_spec) ?_
                | refine CallGB.by (awake_spec) ?_
              simp -dsimp
              refine retP_c ?_
              simp -dsimp
        | true =>
          simp -dsimp [k1, k3, kb1, eb, g0]
          first
            | refine CallG.by (hc0) ?_
            | refine CallGE.by (hc0) ?_
            | refine CallGB.by (hc0) ?_
          rw [hs0 rfl]
          simp -dsimp [k3, kb1, eb, g0]
          first
            | refine CallG.by (hc1) ?_
            | refine CallGE.by (hc1) ?_
            | refine CallGB.by (hc1) ?_
          rw [hs1 rfl]
          simp -dsimp [k3, eb]
          cases K2 with
          | false =>
            cases K3 with
            | false =>
              simp -dsimp [k12]
              first
                | refine CallG.by (awake_spec) ?_
                | refine CallGE.by (awake_spec) ?_
                | refine CallGB.by (awake_spec) ?_
              simp -dsimp
              refine retP_c ?_
              simp -dsimp
            | true =>
              simp -dsimp [k12]
              refine wk_loop (fun i : Nat => ⟨[(118, pI i), (117, pI N.length), (116, .t .ro (eIs N)), (10, pI ((bitsN (leastB N) i : Nat) : Int)), (11, pI ((bitsN (mostB N) i : Nat) : Int)), (5, .t .ro (eIs N)), (3, pI (classF p 6)), (9, .clo 43 [.ptr 1 0]), (1, .ptr 1 0)], [(1, .blk 25 [.t .ro (eI p.vars), .t .ro (eRls p.rels), .t .ro (eCns p.cons)])]⟩)
                (fun i => i ≤ N.length) (fun i => N.length - i) 0 (le_of (by simp [bitsN]) (by simp)) (by omega) fun i hi => ?_
              simp -dsimp
              refine condX_dec (fun h => ?_) (fun h => ?_)
              · have hw := wr (n := (i : Int) + 1) (by omega) (by omega)
                have hls := least_step h hN.1.2 (by omega)
                have hms := most_step h hN.1.2 (by omega)
                have hx : 1 ≤ N[i] ∧ N[i] ≤ 3 := by
                  obtain ⟨k, hk, hk4⟩ := hN.1.2 _ (List.getElem_mem h)
                  have : N[i] ≠ 0 := fun e => h0 (by rw [← e]; exact List.getElem_mem h)
                  omega
                have hx1 : ¬ N[i] < 1 := by omega
                have hx3 : ¬ 3 < N[i] := by omega
                have hi0 : (0 : Int) ≤ i := by omega
                simp -dsimp [h, hx1, hx3, hi0, hls, hms, hw]
                exact LoopP_next (i + 1) (le_of (by simp) (by simp)) h (by omega)
              have e : i = N.length := by omega
              subst e
              simp -dsimp [hlen, kb2, kb3, eb]
              first
                | refine CallG.by (hc3) ?_
                | refine CallGE.by (hc3) ?_
                | refine CallGB.by (hc3) ?_
              rw [hs3' rfl]
              simp -dsimp
              first
                | refine CallG.by (awake_spec) ?_
                | refine CallGE.by (awake_spec) ?_
                | refine CallGB.by (awake_spec) ?_
              simp -dsimp
              refine retP_c ?_
              simp -dsimp
          | true =>
            cases K3 with
            | false =>
              simp -dsimp [k12]
              refine wk_loop (fun i : Nat => ⟨[(118, pI i), (117, pI N.length), (116, .t .ro (eIs N)), (10, pI ((bitsN (leastB N) i : Nat) : Int)), (11, pI ((bitsN (mostB N) i : Nat) : Int)), (5, .t .ro (eIs N)), (3, pI (classF p 6)), (9, .clo 43 [.ptr 1 0]), (1, .ptr 1 0)], [(1, .blk 25 [.t .ro (eI p.vars), .t .ro (eRls p.rels), .t .ro (eCns p.cons)])]⟩)
                (fun i => i ≤ N.length) (fun i => N.length - i) 0 (le_of (by simp [bitsN]) (by simp)) (by omega) fun i hi => ?_
              simp -dsimp
              refine condX_dec (fun h => ?_) (fun h => ?_)
              · have hw := wr (n := (i : Int) + 1) (by omega) (by omega)
                have hls := least_step h hN.1.2 (by omega)
                have hms := most_step h hN.1.2 (by omega)
                have hx : 1 ≤ N[i] ∧ N[i] ≤ 3 := by
                  obtain ⟨k, hk, hk4⟩ := hN.1.2 _ (List.getElem_mem h)
                  have : N[i] ≠ 0 := fun e => h0 (by rw [← e]; exact List.getElem_mem h)
                  omega
                have hx1 : ¬ N[i] < 1 := by omega
                have hx3 : ¬ 3 < N[i] := by omega
                have hi0 : (0 : Int) ≤ i := by omega
                simp -dsimp [h, hx1, hx3, hi0, hls, hms, hw]
                exact LoopP_next (i + 1) (le_of (by simp) (by simp)) h (by omega)
              have e : i = N.length := by omega
              subst e
              simp -dsimp [hlen, kb2, kb3, eb]
              first
                | refine CallG.by (hc2) ?_
                | refine CallGE.by (hc2) ?_
                | refine CallGB.by (hc2) ?_
              rw [hs2' rfl]
              simp -dsimp [kb3, eb]
              first
                | refine CallG.by (awake_spec) ?_
                | refine CallGE.by (awake_spec) ?_
                | refine CallGB.by (awake_spec) ?_
              simp -dsimp
              refine retP_c ?_
              simp -dsimp
            | true =>
              simp -dsimp [k12]
              refine wk_loop (fun i : Nat => ⟨[(118, pI i), (117, pI N.length), (116, .t .ro (eIs N)), (10, pI ((bitsN (leastB N) i : Nat) : Int)), (11, pI ((bitsN (mostB N) i : Nat) : Int)), (5, .t .ro (eIs N)), (3, pI (classF p 6)), (9, .clo 43 [.ptr 1 0]), (1, .ptr 1 0)], [(1, .blk 25 [.t .ro (eI p.vars), .t .ro (eRls p.rels), .t .ro (eCns p.cons)])]⟩)
                (fun i => i ≤ N.length) (fun i => N.length - i) 0 (le_of (by simp [bitsN]) (by simp)) (by omega) fun i hi => ?_
              simp -dsimp
              refine condX_dec (fun h => ?_) (fun h => ?_)
              · have hw := wr (n := (i : Int) + 1) (by omega) (by omega)
                have hls := least_step h hN.1.2 (by omega)
                have hms := most_step h hN.1.2 (by omega)
                have hx : 1 ≤ N[i] ∧ N[i] ≤ 3 := by
                  obtain ⟨k, hk, hk4⟩ := hN.1.2 _ (List.getElem_mem h)
                  have : N[i] ≠ 0 := fun e => h0 (by rw [← e]; exact List.getElem_mem h)
                  omega
                have hx1 : ¬ N[i] < 1 := by omega
                have hx3 : ¬ 3 < N[i] := by omega
                have hi0 : (0 : Int) ≤ i := by omega
                simp -dsimp [h, hx1, hx3, hi0, hls, hms, hw]
                exact LoopP_next (i + 1) (le_of (by simp) (by simp)) h (by omega)
              have e : i = N.length := by omega
              subst e
              simp -dsimp [hlen, kb2, kb3, eb]
              first
                | refine CallG.by (hc2) ?_
                | refine CallGE.by (hc2) ?_
                | refine CallGB.by (hc2) ?_
              rw [hs2' rfl]
              simp -dsimp [kb3, eb]
              first
                | refine CallG.by (hc3) ?_
                | refine CallGE.by (hc3) ?_
                | refine CallGB.by (hc3) ?_
              rw [hs3' rfl]
              simp -dsimp
              first
                | refine CallG.by (awake_spec) ?_
                | refine CallGE.by (awake_spec) ?_
                | refine CallGB.by (awake_spec) ?_
              simp -dsimp
              refine retP_c ?_
              simp -dsimp
end Go.Proofs.Ytmneioafbkknhaa
