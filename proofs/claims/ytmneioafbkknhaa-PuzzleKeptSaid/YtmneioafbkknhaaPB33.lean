import Derived.Test.YtmneioafbkknhaaPB32
/- PB33: the law of Hulled, walked. -/
set_option linter.unusedVariables false
set_option linter.unusedSimpArgs false
set_option maxRecDepth 20000
namespace Go.Proofs.Ytmneioafbkknhaa
open Go Go.PS
attribute [-simp] List.map_take
theorem okOp_true {r : Rl} {op : Int} (hv : okOp r op = true) : goodR r = true ∧ ∃ k : Nat, op = k ∧ k ≤ 5 := by
  simp only [okOp, Bool.and_eq_true, decide_eq_true_eq] at hv
  exact ⟨hv.1.1, op.toNat, by omega, by omega⟩
theorem okOp_of {r : Rl} {k : Nat} (hg : goodR r = true) (hk : k ≤ 5) : okOp r k = true := by
  simp [okOp, hg]
  omega
theorem hulled_true (r : Rl) (op : Int) : PCall Try.prog 14 [eRl r, eI op] (pB true) [] := by
  have ho : okOp (trimR r) op = okOp r op := by rw [okOp, okOp, goodR_trim]
  have hT : hullT (trimR r) op = if okOp r op then .tup [eRl (hullF op.toNat 9 (trimR r)), eI 0] else .tup [.agg [eI 0, .v (.slice none 0 0)], eI 2] := by rw [hullT, ho]
  have hK : keepF (trimR r) op = if okOp r op then .tup [eB (brokenF (trimR r) op.toNat).isNone, eI 0] else .tup [eB false, eI 2] := by rw [keepF, ho]
  refine pcall_wp _ Try.func14 rfl (by kernel_rfl) rfl ?_
  simp -dsimp
  first
    | refine CallG.by (rel_spec r) ?_
    | refine CallGE.by (rel_spec r) ?_
    | refine CallGB.by (rel_spec r) ?_
  simp -dsimp
  first
    | refine CallG.by (hull_spec (trimR r) op) ?_
    | refine CallGE.by (hull_spec (trimR r) op) ?_
    | refine CallGB.by (hull_spec (trimR r) op) ?_
  cases hv : okOp r op with
  | false =>
    rw [hv, if_neg (by simp)] at hT hK
    rw [hT]
    simp -dsimp
    first
      | refine CallG.by (rel_spec r) ?_
      | refine CallGE.by (rel_spec r) ?_
      | refine CallGB.by (rel_spec r) ?_
    simp -dsimp
    first
      | refine CallG.by (keeps_spec (trimR r) op) ?_
      | refine CallGE.by (keeps_spec (trimR r) op) ?_
      | refine CallGB.by (keeps_spec (trimR r) op) ?_
    rw [hK]
    simp -dsimp
    first
      | refine CallG.by (awake_spec) ?_
      | refine CallGE.by (awake_spec) ?_
      | refine CallGB.by (awake_spec) ?_
    simp -dsimp
    refine retP_c ?_
    simp -dsimp
  | true =>
    obtain ⟨hg, k, rfl, hk⟩ := okOp_true hv
    rw [hv, if_pos rfl, trimR_of hg, Int.toNat_natCast] at hT hK
    obtain ⟨x1, x2, x3, x4, x5⟩ := hullF_law hk 9 r hg (by omega)
    have hn0 := goodR_n hg
    have x6 : brokenF r k = none → hullF k 9 r = r := fun h => by rw [hullF, h]
    generalize hullF k 9 r = X at hT x1 x2 x3 x4 x5 x6
    have hX : hullF k 9 X = X := by rw [hullF, x2]
    have hT2 : hullT X k = .tup [eRl X, eI 0] := by
      rw [hullT, okOp_of x1 hk, if_pos rfl, Int.toNat_natCast, hX]
    have hB : brokF X k = .tup [.v (.slice none 0 0), eI 4] := by
      rw [brokF, okOp_of x1 hk, if_pos rfl, Int.toNat_natCast, x2]
    have hkeep : (brokenF r k).isNone = decide (X.rows = r.rows) := by
      cases hb : brokenF r k with
      | none =>
        simp [x6 hb]
      | some l =>
        have := x5 (by simp [hb])
        simp [this]
    rw [hkeep] at hK
    rw [trimR_of hg, hT]
    simp -dsimp
    first
      | refine CallG.by (rel_spec r) ?_
      | refine CallGE.by (rel_spec r) ?_
      | refine CallGB.by (rel_spec r) ?_
    simp -dsimp
    have hr : List.take 14 r.rows = r.rows := congrArg Rl.rows (trimR_of hg)
    rw [hr]
    first
      | refine CallG.by (keeps_spec r k) ?_
      | refine CallGE.by (keeps_spec r k) ?_
      | refine CallGB.by (keeps_spec r k) ?_
    rw [hK]
    simp -dsimp
    first
      | refine CallG.by (hull_spec X k) ?_
      | refine CallGE.by (hull_spec X k) ?_
      | refine CallGB.by (hull_spec X k) ?_
    rw [hT2]
    simp -dsimp
    first
      | refine CallG.by (pbroken_spec X k) ?_
      | refine CallGE.by (pbroken_spec X k) ?_
      | refine CallGB.by (pbroken_spec X k) ?_
    rw [hB]
    simp -dsimp [x3]
    first
      | refine CallG.by (equal_spec X.rows X.rows) ?_
      | refine CallGE.by (equal_spec X.rows X.rows) ?_
      | refine CallGB.by (equal_spec X.rows X.rows) ?_
    simp -dsimp
    first
      | refine CallG.by (equal_spec X.rows r.rows) ?_
      | refine CallGE.by (equal_spec X.rows r.rows) ?_
      | refine CallGB.by (equal_spec X.rows r.rows) ?_
    simp -dsimp
    refine wk_loop (fun i : Nat => ⟨[(96, pI i), (95, pI r.rows.length), (94, .t .ro (eIs r.rows)), (5, .ptr 5 0)], [(5, .blk 48 [.t .ro (eI r.n), .t .ro (eIs X.rows)])]⟩) (fun i => i ≤ r.rows.length) (fun i => r.rows.length - i) 0
      (le_of (by simp) (by simp)) (by simp) fun i hi => ?_
    simp -dsimp
    refine condX_dec (fun h => ?_) (fun h => ?_)
    · have hr2 := goodR_len hg
      have hw := wr (n := (i : Int) + 1) (by omega) (by omega)
      have hin := x4 _ (List.getElem_mem h)
      simp -dsimp [h]
      first
        | refine CallG.by (contains_spec X.rows r.rows[i]) ?_
        | refine CallGE.by (contains_spec X.rows r.rows[i]) ?_
        | refine CallGB.by (contains_spec X.rows r.rows[i]) ?_
      simp -dsimp [hin, hw]
      exact LoopP_next (i + 1) (le_of (by simp) (by simp)) h (by omega)
    simp -dsimp
    first
      | refine CallG.by (awake_spec) ?_
      | refine CallGE.by (awake_spec) ?_
      | refine CallGB.by (awake_spec) ?_
    simp -dsimp
    refine retP_c ?_
    simp -dsimp
end Go.Proofs.Ytmneioafbkknhaa
