import Derived.Test.YtmneioafbkknhaaPB21
/- PB22: the law of Solves, walked. -/
set_option linter.unusedVariables false
set_option linter.unusedSimpArgs false
set_option maxRecDepth 20000
namespace Go.Proofs.Ytmneioafbkknhaa
open Go Go.PS
attribute [-simp] List.map_take
theorem solve_bad' {p : Pz} (h : goodP p = false) : solveF p = .tup [eI 0, eI 2] := by
  rw [solveF, h]; rfl
theorem solves_true (p : Pz) (s : Int) : PCall Try.prog 5 [ePz p, eI s] (pB true) [] := by
  refine pcall_wp _ Try.func5 rfl (by kernel_rfl) rfl ?_
  simp -dsimp
  first
    | refine CallG.by (of_spec p) ?_
    | refine CallGE.by (of_spec p) ?_
    | refine CallGB.by (of_spec p) ?_
  simp -dsimp
  first
    | refine CallG.by (class_spec (trimP p)) ?_
    | refine CallGE.by (class_spec (trimP p)) ?_
    | refine CallGB.by (class_spec (trimP p)) ?_
  cases hv : goodP p with
  | false =>
    have hv' : goodP (trimP p) = false := by rw [← good_trim, hv]
    have e1 : clsT (trimP p) = .tup [eI 0, eI 2] := by rw [clsT, hv']; rfl
    have e2 : solveF (trimP p) = .tup [eI 0, eI 2] := solve_bad' hv'
    have e3 : countF (trimP p) = .tup [eI 0, eI 2] := by rw [countF, hv']; rfl
    have e4 : checkF (trimP p) s = .tup [eB false, eI 2] := by rw [checkF, hv']; rfl
    rw [e1]
    simp -dsimp
    first
      | refine CallG.by (of_spec p) ?_
      | refine CallGE.by (of_spec p) ?_
      | refine CallGB.by (of_spec p) ?_
    simp -dsimp
    first
      | refine CallG.by (psolve_spec (trimP p)) ?_
      | refine CallGE.by (psolve_spec (trimP p)) ?_
      | refine CallGB.by (psolve_spec (trimP p)) ?_
    rw [e2]
    simp -dsimp
    first
      | refine CallG.by (of_spec p) ?_
      | refine CallGE.by (of_spec p) ?_
      | refine CallGB.by (of_spec p) ?_
    simp -dsimp
    first
      | refine CallG.by (count_spec (trimP p)) ?_
      | refine CallGE.by (count_spec (trimP p)) ?_
      | refine CallGB.by (count_spec (trimP p)) ?_
    rw [e3]
    simp -dsimp
    first
      | refine CallG.by (of_spec p) ?_
      | refine CallGE.by (of_spec p) ?_
      | refine CallGB.by (of_spec p) ?_
    simp -dsimp
    first
      | refine CallG.by (check_spec (trimP p) s) ?_
      | refine CallGE.by (check_spec (trimP p) s) ?_
      | refine CallGB.by (check_spec (trimP p) s) ?_
    rw [e4]
    simp -dsimp
    first
      | refine CallG.by (rvalid_spec p) ?_
      | refine CallGE.by (rvalid_spec p) ?_
      | refine CallGB.by (rvalid_spec p) ?_
    rw [hv]
    simp -dsimp
    first
      | refine CallG.by (awake_spec) ?_
      | refine CallGE.by (awake_spec) ?_
      | refine CallGB.by (awake_spec) ?_
    simp -dsimp
    refine retP_c ?_
    simp -dsimp
  | true =>
    have ht := trim_of hv
    have e1 : clsT (trimP p) = .tup [eI (classF p 6), eI 0] := by rw [ht, clsT, hv]; rfl
    have e3 : countF (trimP p) = .tup [eI (allS p).length, eI 0] := by rw [ht, countF, hv]; rfl
    have e4 : checkF (trimP p) s = .tup [eB (isSol p s), eI 0] := by rw [ht, checkF, hv]; rfl
    have e2 : solveF (trimP p) = rsolveF p := by rw [ht, solveF, hv]; rfl
    rw [e1]
    simp -dsimp
    first
      | refine CallG.by (of_spec p) ?_
      | refine CallGE.by (of_spec p) ?_
      | refine CallGB.by (of_spec p) ?_
    simp -dsimp
    first
      | refine CallG.by (psolve_spec (trimP p)) ?_
      | refine CallGE.by (psolve_spec (trimP p)) ?_
      | refine CallGB.by (psolve_spec (trimP p)) ?_
    rw [e2]
    have hr := rsolve_spec p hv
    obtain ⟨a, b, hab⟩ : ∃ a b, rsolveF p = .tup [eI a, eI b] := by
      unfold rsolveF
      cases allS p with
      | nil => exact ⟨_, _, rfl⟩
      | cons x l => exact ⟨_, _, rfl⟩
    rw [hab] at hr ⊢
    simp -dsimp
    first
      | refine CallG.by (of_spec p) ?_
      | refine CallGE.by (of_spec p) ?_
      | refine CallGB.by (of_spec p) ?_
    simp -dsimp
    first
      | refine CallG.by (count_spec (trimP p)) ?_
      | refine CallGE.by (count_spec (trimP p)) ?_
      | refine CallGB.by (count_spec (trimP p)) ?_
    rw [e3]
    simp -dsimp
    first
      | refine CallG.by (of_spec p) ?_
      | refine CallGE.by (of_spec p) ?_
      | refine CallGB.by (of_spec p) ?_
    simp -dsimp
    first
      | refine CallG.by (check_spec (trimP p) s) ?_
      | refine CallGE.by (check_spec (trimP p) s) ?_
      | refine CallGB.by (check_spec (trimP p) s) ?_
    rw [e4]
    simp -dsimp
    first
      | refine CallG.by (rvalid_spec p) ?_
      | refine CallGE.by (rvalid_spec p) ?_
      | refine CallGB.by (rvalid_spec p) ?_
    rw [hv]
    simp -dsimp
    first
      | refine CallG.by (hr) ?_
      | refine CallGE.by (hr) ?_
      | refine CallGB.by (hr) ?_
    simp -dsimp
    first
      | refine CallG.by (rclass_spec p hv) ?_
      | refine CallGE.by (rclass_spec p hv) ?_
      | refine CallGB.by (rclass_spec p hv) ?_
    simp -dsimp
    first
      | refine CallG.by (rsols_spec p hv) ?_
      | refine CallGE.by (rsols_spec p hv) ?_
      | refine CallGB.by (rsols_spec p hv) ?_
    simp -dsimp
    first
      | refine CallG.by (risSol_spec p s hv) ?_
      | refine CallGE.by (risSol_spec p s hv) ?_
      | refine CallGB.by (risSol_spec p s hv) ?_
    simp -dsimp
    first
      | refine CallG.by (awake_spec) ?_
      | refine CallGE.by (awake_spec) ?_
      | refine CallGB.by (awake_spec) ?_
    simp -dsimp
    refine retP_c ?_
    simp -dsimp
theorem equal_spec (xs ys : List Int) : PCall Try.prog 37 [eIs xs, eIs ys] (pB (decide (xs = ys))) [] := by
  refine pcall_sl 0 rfl call37 fun hlen => ?_
  refine pcall_sl 1 rfl call37 fun hlen2 => ?_
  simp only [List.length_map] at hlen hlen2
  refine pcall_wp _ Try.func37 rfl (by kernel_rfl) rfl ?_
  by_cases hl : xs.length = ys.length
  · have hl' : ((xs.length : Int) != (ys.length : Int)) = false := by simp; omega
    simp -dsimp [hl']
    refine wk_loop (fun i : Nat => ⟨[(13, pI i), (12, pI ys.length), (0, .t .ro (eIs xs)), (1, .t .ro (eIs ys))], []⟩)
      (fun i => i ≤ ys.length ∧ (xs = ys ↔ xs.drop i = ys.drop i)) (fun i => ys.length - i) 0 (le_of (by simp [hl]) (by simp)) (by simp) fun i ⟨hi, hJ⟩ => ?_
    simp -dsimp
    refine condX_dec (fun h => ?_) (fun h => ?_)
    rotate_left
    · rw [List.drop_of_length_le (by omega), List.drop_of_length_le (by omega)] at hJ
      have he : xs = ys := by simpa using hJ
      simp -dsimp
      refine retP_c ?_
      simp -dsimp [he]
    have hx : i < xs.length := by omega
    have hw := wr (n := (i : Int) + 1) (by omega) (by omega)
    rw [List.drop_eq_getElem_cons h, List.drop_eq_getElem_cons hx, List.cons.injEq] at hJ
    simp -dsimp [h, hx]
    refine wk_draw 9 [] mixed (by kernel_rfl) ?_
    have h0 : (0 : Int) ≤ i := by omega
    by_cases he : xs[i] = ys[i]
    · have heN : (xs[i] != ys[i]) = false := by simp [he]
      simp -dsimp [heN, hw, h, hx, h0]
      exact LoopP_next (i + 1) (le_of (by simp) (by simp)) ⟨h, by simpa [he] using hJ⟩ (by omega)
    · have hne : xs ≠ ys := fun e => he (hJ.1 e).1
      have heN : (xs[i] != ys[i]) = true := by simp [he]
      simp -dsimp [heN, h, hx, h0]
      refine retP_c ?_
      simp -dsimp [hne]
  · have hl' : ((xs.length : Int) != (ys.length : Int)) = true := by simp; omega
    have hne : xs ≠ ys := fun e => hl (by rw [e])
    simp -dsimp [hl']
    refine retP_c ?_
    simp -dsimp [hne]
theorem goodR_trim (r : Rl) : goodR (trimR r) = goodR r := by
  cases h : goodR r with
  | true => rw [trimR_of h, h]
  | false =>
    cases h' : goodR (trimR r) with
    | false => rfl
    | true => rw [trimR_len h', h] at h'; cases h'
theorem keeps_true (r : Rl) (op : Int) : PCall Try.prog 6 [eRl r, eI op] (pB true) [] := by
  have ho : okOp (trimR r) op = okOp r op := by rw [okOp, okOp, goodR_trim]
  refine pcall_wp _ Try.func6 rfl (by kernel_rfl) rfl ?_
  simp -dsimp
  first
    | refine CallG.by (rel_spec r) ?_
    | refine CallGE.by (rel_spec r) ?_
    | refine CallGB.by (rel_spec r) ?_
  simp -dsimp
  first
    | refine CallG.by (keeps_spec (trimR r) op) ?_
    | refine CallGE.by (keeps_spec (trimR r) op) ?_
    | refine CallGB.by (keeps_spec (trimR r) op) ?_
  rw [keepF, ho]
  have hbF : brokF (trimR r) op = if okOp r op then (match brokenF (trimR r) op.toNat with
    | some x => .tup [eIs x, eI 0]
    | none => .tup [.v (.slice none 0 0), eI 4]) else .tup [.v (.slice none 0 0), eI 2] := by rw [brokF, ho]; rfl
  cases hv : okOp r op with
  | false =>
    rw [hv, if_neg (by simp)] at hbF
    simp -dsimp
    first
      | refine CallG.by (rel_spec r) ?_
      | refine CallGE.by (rel_spec r) ?_
      | refine CallGB.by (rel_spec r) ?_
    simp -dsimp
    first
      | refine CallG.by (pbroken_spec (trimR r) op) ?_
      | refine CallGE.by (pbroken_spec (trimR r) op) ?_
      | refine CallGB.by (pbroken_spec (trimR r) op) ?_
    rw [hbF]
    simp -dsimp
    first
      | refine CallG.by (rrel_spec r) ?_
      | refine CallGE.by (rrel_spec r) ?_
      | refine CallGB.by (rrel_spec r) ?_
    cases hg : goodR r with
    | false =>
      simp -dsimp
      first
        | refine CallG.by (awake_spec) ?_
        | refine CallGE.by (awake_spec) ?_
        | refine CallGB.by (awake_spec) ?_
      simp -dsimp
      refine retP_c ?_
      simp -dsimp
    | true =>
      by_cases h0 : op < 0
      · simp -dsimp [h0]
        first
          | refine CallG.by (awake_spec) ?_
          | refine CallGE.by (awake_spec) ?_
          | refine CallGB.by (awake_spec) ?_
        simp -dsimp
        refine retP_c ?_
        simp -dsimp
      · have h5 : 5 < op := by
          simp [okOp, hg] at hv
          omega
        simp -dsimp [h0, h5]
        first
          | refine CallG.by (awake_spec) ?_
          | refine CallGE.by (awake_spec) ?_
          | refine CallGB.by (awake_spec) ?_
        simp -dsimp
        refine retP_c ?_
        simp -dsimp
  | true =>
    have hg : goodR r = true := by
      simp only [okOp, Bool.and_eq_true] at hv
      exact hv.1.1
    have ht := trimR_of hg
    rw [hv, if_pos rfl, ht] at hbF
    rw [if_pos rfl, ht]
    simp -dsimp
    first
      | refine CallG.by (rel_spec r) ?_
      | refine CallGE.by (rel_spec r) ?_
      | refine CallGB.by (rel_spec r) ?_
    simp -dsimp
    first
      | refine CallG.by (pbroken_spec (trimR r) op) ?_
      | refine CallGE.by (pbroken_spec (trimR r) op) ?_
      | refine CallGB.by (pbroken_spec (trimR r) op) ?_
    rw [ht, hbF]
    have h3 : 0 ≤ op ∧ op ≤ 5 := by
      simp only [okOp, Bool.and_eq_true, decide_eq_true_eq] at hv
      exact ⟨hv.1.2, hv.2⟩
    obtain ⟨k, rfl⟩ : ∃ k : Nat, op = k := ⟨op.toNat, by omega⟩
    have h0 : ¬ (k : Int) < 0 := by omega
    have h5 : ¬ 5 < (k : Int) := by omega
    have hrb := rBroken_spec r k (by omega) (goodR_n hg) (goodR_len hg)
    have hrk := rKeeps_spec r k (by omega) (goodR_n hg) (goodR_len hg)
    rw [rBrF] at hrb
    rw [Int.toNat_natCast]
    cases hb : brokenF r k with
    | some x =>
      rw [hb] at hrb hrk
      simp -dsimp
      first
        | refine CallG.by (rrel_spec r) ?_
        | refine CallGE.by (rrel_spec r) ?_
        | refine CallGB.by (rrel_spec r) ?_
      simp -dsimp [h0, h5, hg]
      first
        | refine CallG.by (hrb) ?_
        | refine CallGE.by (hrb) ?_
        | refine CallGB.by (hrb) ?_
      simp -dsimp
      first
        | refine CallG.by (hrk) ?_
        | refine CallGE.by (hrk) ?_
        | refine CallGB.by (hrk) ?_
      simp -dsimp
      first
        | refine CallG.by (equal_spec x x) ?_
        | refine CallGE.by (equal_spec x x) ?_
        | refine CallGB.by (equal_spec x x) ?_
      simp -dsimp
      first
        | refine CallG.by (awake_spec) ?_
        | refine CallGE.by (awake_spec) ?_
        | refine CallGB.by (awake_spec) ?_
      simp -dsimp
      refine retP_c ?_
      simp -dsimp
    | none =>
      rw [hb] at hrb hrk
      have he := pcall_arg 1 (pcall_arg 0 (equal_spec [] []) rfl nil_any') rfl nil_any'
      simp -dsimp
      first
        | refine CallG.by (rrel_spec r) ?_
        | refine CallGE.by (rrel_spec r) ?_
        | refine CallGB.by (rrel_spec r) ?_
      simp -dsimp [h0, h5, hg]
      first
        | refine CallG.by (hrb) ?_
        | refine CallGE.by (hrb) ?_
        | refine CallGB.by (hrb) ?_
      simp -dsimp
      first
        | refine CallG.by (hrk) ?_
        | refine CallGE.by (hrk) ?_
        | refine CallGB.by (hrk) ?_
      simp -dsimp
      first
        | refine CallG.by (he) ?_
        | refine CallGE.by (he) ?_
        | refine CallGB.by (he) ?_
      simp -dsimp
      first
        | refine CallG.by (awake_spec) ?_
        | refine CallGE.by (awake_spec) ?_
        | refine CallGB.by (awake_spec) ?_
      simp -dsimp
      refine retP_c ?_
      simp -dsimp
end Go.Proofs.Ytmneioafbkknhaa
