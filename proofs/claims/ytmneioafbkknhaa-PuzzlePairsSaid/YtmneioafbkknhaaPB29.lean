import Derived.Test.YtmneioafbkknhaaPB28
/- PB29: Hull of the reference; the law of Hulls, walked. -/
set_option linter.unusedVariables false
set_option linter.unusedSimpArgs false
set_option maxRecDepth 20000
namespace Go.Proofs.Ytmneioafbkknhaa
open Go Go.PS
attribute [-simp] List.map_take
theorem setOf_take (rows : List Int) (s i : Nat) (h : i < rows.length) : setOf (rows.take (i + 1)) s = setOf (rows.take i) s ||| 2 ^ (rows[i]).toNat := by
  rw [List.take_add_one, List.getElem?_eq_getElem h, setOf, List.foldl_append]
  rfl
theorem rhull_spec (r : Rl) (k : Nat) (h1 : k ≤ 5) (hv : goodR r = true) : PCall Try.prog 49 [eRl r, eI k] (.t .ro (eRl (hullF k 9 r))) [] := by
  refine pcall_wpT Try.func49 rfl (by kernel_rfl) ?_
  simp -dsimp
  have hr2 := goodR_len hv
  refine wk_loop (fun q : Nat × Rl × Kind × Kind => ⟨[(2, .ptr 2 0), (4, .ptr 4 0), (1, .t .ro (eI k))], [(2, .blk 46 [.t q.2.2.1 (eI r.n), .t q.2.2.2 (eIs q.2.1.rows)]), (4, .blk 46 [.t .fz (eI 0), .t .fz (.v (.slice none 0 0))])]⟩)
    (fun q => hullF k q.1 q.2.1 = hullF k 9 r ∧ 8 < q.2.1.rows.length + q.1 ∧ goodR q.2.1 = true ∧ q.2.1.n = r.n) (fun q => q.1) (9, r, .ro, .ro) (le_of (by simp) (by simp)) ⟨rfl, by simp only; omega, hv, rfl⟩ fun ⟨f, R, kn, kr⟩ ⟨hJ, hf, hg, hn⟩ => ?_
  dsimp only at hJ hf hg hn
  have hRl := goodR_len hg
  obtain ⟨f, rfl⟩ : ∃ f', f = f' + 1 := ⟨f - 1, by omega⟩
  rw [hullF] at hJ
  have hbr := rBroken_spec R k h1 (goodR_n hg) hRl
  have hR : eRl R = .agg [eI r.n, eIs R.rows] := by rw [← hn]; rfl
  rw [hR, rBrF] at hbr
  simp -dsimp
  first
    | refine CallG.by (hbr) ?_
    | refine CallGE.by (hbr) ?_
    | refine CallGB.by (hbr) ?_
  cases hb : brokenF R k with
  | none =>
    rw [hb] at hJ
    simp only at hJ
    rw [← hJ]
    simp -dsimp
    refine retT_c ?_
    simp -dsimp [hn]
  | some l =>
    rw [hb] at hJ
    simp only at hJ
    obtain ⟨hl, hy, hny⟩ := brokenF_some hg h1 hb
    obtain ⟨a1, a2, a3⟩ := addR_law hg h1 hb
    obtain ⟨g1, g2, g3, g4, g5⟩ := goodR_asc.1 hg
    obtain ⟨y, hye, hyl⟩ := hy
    rw [hye] at a3
    have hyl' : y < 8 := Nat.lt_of_lt_of_le hyl (show 2 ^ R.n.toNat ≤ 2 ^ 3 from Nat.pow_le_pow_right (by decide) (by omega))
    have hy2 : 2 ^ y < 256 := Nat.pow_lt_pow_right (n := 8) (by decide) hyl'
    have hs1 := shl1 y (by omega)
    have hdn := done_spec k r.n l h1 (goodR_n hv) hl
    rw [← hn, hye] at hdn
    rw [hn] at hdn
    have hin : ∀ x ∈ R.rows, InN 3 x := fun x hx => inN_mono (by omega) (g5 x hx)
    have hy0 : (0 : Int) ≤ y := by omega
    simp -dsimp
    first
      | refine CallG.by (hdn) ?_
      | refine CallGE.by (hdn) ?_
      | refine CallGB.by (hdn) ?_
    simp -dsimp [hy0, hs1]
    refine wk_loop (fun i : Nat => ⟨[(28, pI i), (27, pI R.rows.length), (26, .t kr (eIs R.rows)), (7, pI (setOf (R.rows.take i) (2 ^ y))), (2, .ptr 2 0), (4, .ptr 4 0), (1, .t .ro (eI k))], [(2, .blk 46 [.t kn (eI r.n), .t kr (eIs R.rows)]), (4, .blk 46 [.t .fz (eI 0), .t .fz (.v (.slice none 0 0))])]⟩)
      (fun i => i ≤ R.rows.length) (fun i => R.rows.length - i) 0 (le_of (by simp [setOf]) (by simp)) (by omega) fun i hi => ?_
    simp -dsimp
    refine condX_dec (fun h => ?_) (fun h => ?_)
    · have hw := wr (n := (i : Int) + 1) (by omega) (by omega)
      obtain ⟨x, hx, hxl⟩ := hin R.rows[i] (List.getElem_mem h)
      have hx0 : (0 : Int) ≤ x := by omega
      have hs2 := shl1 x (by omega)
      have hst := setOf_take R.rows (2 ^ y) i h
      have hlt := setOf_lt (R.rows.take i) (2 ^ y) hy2 fun z hz => hin z (List.mem_of_mem_take hz)
      have hx2 : 2 ^ x < 256 := Nat.pow_lt_pow_right (n := 8) (by decide) (by omega)
      have hor := orI_nat (setOf (R.rows.take i) (2 ^ y)) (2 ^ x) (by omega) (by omega)
      rw [hx, Int.toNat_natCast] at hst
      rw [← hst] at hor
      obtain ⟨N, hN⟩ : ∃ N, 2 ^ x = N := ⟨_, rfl⟩
      rw [hN] at hs2 hor
      simp -dsimp [h, hx, hx0, hs2, hor, hw]
      exact LoopP_next (i + 1) (le_of (by simp) (by simp)) h (by omega)
    · have e : i = R.rows.length := by omega
      subst e
      rw [List.take_length]
      have hlt := setOf_lt R.rows (2 ^ y) hy2 hin
      simp -dsimp
      refine wk_draw 4 [3] mixed (by kernel_rfl) ?_
      simp -dsimp
      first
        | refine CallG.by (rows_spec (setOf R.rows (2 ^ y)) hlt) ?_
        | refine CallGE.by (rows_spec (setOf R.rows (2 ^ y)) hlt) ?_
        | refine CallGB.by (rows_spec (setOf R.rows (2 ^ y)) hlt) ?_
      rw [Int.toNat_natCast] at a3
      rw [← a3]
      simp -dsimp
      exact LoopP_next (f, addR R k l, kn, .fz) (le_of (by simp) (by simp)) ⟨hJ, by simp only; omega, a1, hn⟩ (by simp only; omega)
theorem same_spec (a b : Rl) : PCall Try.prog 46 [eRl a, eRl b] (pB (decide (a.n = b.n) && decide (a.rows = b.rows))) [] := by
  refine pcall_wp _ Try.func46 rfl (by kernel_rfl) rfl ?_
  by_cases hn : a.n = b.n
  · simp -dsimp [hn]
    first
      | refine CallG.by (equal_spec a.rows b.rows) ?_
      | refine CallGE.by (equal_spec a.rows b.rows) ?_
      | refine CallGB.by (equal_spec a.rows b.rows) ?_
    simp -dsimp
    refine retP_c ?_
    simp -dsimp
    exact fun _ => hn
  · have hn' : (a.n == b.n) = false := by simp [hn]
    simp -dsimp [hn']
    refine retP_c ?_
    simp -dsimp [hn]
theorem agg_nil {x : TL} : ∀ w S v, TRep w S (.agg [x, .v (.slice none 0 0)]) v → TRep w S (.agg [x, eIs []]) v := by
  intro w S v h
  cases h with
  | agg vs hs hr =>
    refine .agg vs hs fun j u hu => ?_
    match j, hu with
    | 0, hu =>
      simp at hu
      subst hu
      exact hr 0 x (by simp)
    | 1, hu =>
      simp at hu
      subst hu
      exact nil_any' _ _ _ (hr 1 _ (by simp))
    | j + 2, hu => simp at hu
theorem hulls_true (r : Rl) (op : Int) : PCall Try.prog 13 [eRl r, eI op] (pB true) [] := by
  have ho : okOp (trimR r) op = okOp r op := by rw [okOp, okOp, goodR_trim]
  have hT : hullT (trimR r) op = if okOp r op then .tup [eRl (hullF op.toNat 9 (trimR r)), eI 0] else .tup [.agg [eI 0, .v (.slice none 0 0)], eI 2] := by rw [hullT, ho]
  refine pcall_wp _ Try.func13 rfl (by kernel_rfl) rfl ?_
  simp -dsimp
  first
    | refine CallG.by (rel_spec r) ?_
    | refine CallGE.by (rel_spec r) ?_
    | refine CallGB.by (rel_spec r) ?_
  simp -dsimp
  first
    | refine CallG.by (hull_spec (trimR r) op) ?_
    | refine CallGE.by (hull_spec (trimR r) op) ?_
    | refine CallGB.by (hull_spec (trimR r) op) ?_
  cases hv : okOp r op with
  | false =>
    rw [hv, if_neg (by simp)] at hT
    rw [hT]
    have hs := pcall_arg 1 (pcall_arg 0 (same_spec ⟨0, []⟩ ⟨0, []⟩) rfl agg_nil) rfl agg_nil
    simp -dsimp
    first
      | refine CallG.by (rrel_spec r) ?_
      | refine CallGE.by (rrel_spec r) ?_
      | refine CallGB.by (rrel_spec r) ?_
    cases hg : goodR r with
    | false =>
      simp -dsimp
      first
        | refine CallG.by (hs) ?_
        | refine CallGE.by (hs) ?_
        | refine CallGB.by (hs) ?_
      simp -dsimp
      first
        | refine CallG.by (awake_spec) ?_
        | refine CallGE.by (awake_spec) ?_
        | refine CallGB.by (awake_spec) ?_
      simp -dsimp
      refine retP_c ?_
      simp -dsimp
    | true =>
      by_cases h0 : op < 0
      · simp -dsimp [h0]
        first
          | refine CallG.by (hs) ?_
          | refine CallGE.by (hs) ?_
          | refine CallGB.by (hs) ?_
        simp -dsimp
        first
          | refine CallG.by (awake_spec) ?_
          | refine CallGE.by (awake_spec) ?_
          | refine CallGB.by (awake_spec) ?_
        simp -dsimp
        refine retP_c ?_
        simp -dsimp
      · have h5 : 5 < op := by
          simp [okOp, hg] at hv
          omega
        simp -dsimp [h0, h5]
        first
          | refine CallG.by (hs) ?_
          | refine CallGE.by (hs) ?_
          | refine CallGB.by (hs) ?_
        simp -dsimp
        first
          | refine CallG.by (awake_spec) ?_
          | refine CallGE.by (awake_spec) ?_
          | refine CallGB.by (awake_spec) ?_
        simp -dsimp
        refine retP_c ?_
        simp -dsimp
  | true =>
    have hg : goodR r = true := by
      simp only [okOp, Bool.and_eq_true] at hv
      exact hv.1.1
    have ht := trimR_of hg
    have h3 : 0 ≤ op ∧ op ≤ 5 := by
      simp only [okOp, Bool.and_eq_true, decide_eq_true_eq] at hv
      exact ⟨hv.1.2, hv.2⟩
    obtain ⟨k, rfl⟩ : ∃ k : Nat, op = k := ⟨op.toNat, by omega⟩
    have h0 : ¬ (k : Int) < 0 := by omega
    have h5 : ¬ 5 < (k : Int) := by omega
    rw [hv, if_pos rfl, ht, Int.toNat_natCast] at hT
    rw [ht, hT]
    simp -dsimp
    first
      | refine CallG.by (rrel_spec r) ?_
      | refine CallGE.by (rrel_spec r) ?_
      | refine CallGB.by (rrel_spec r) ?_
    simp -dsimp [h0, h5, hg]
    refine wk_draw 4 [3] mixed (by kernel_rfl) ?_
    simp -dsimp
    first
      | refine CallG.by (rhull_spec r k (by omega) hg) ?_
      | refine CallGE.by (rhull_spec r k (by omega) hg) ?_
      | refine CallGB.by (rhull_spec r k (by omega) hg) ?_
    simp -dsimp
    first
      | refine CallG.by (same_spec (hullF k 9 r) (hullF k 9 r)) ?_
      | refine CallGE.by (same_spec (hullF k 9 r) (hullF k 9 r)) ?_
      | refine CallGB.by (same_spec (hullF k 9 r) (hullF k 9 r)) ?_
    simp -dsimp
    first
      | refine CallG.by (awake_spec) ?_
      | refine CallGE.by (awake_spec) ?_
      | refine CallGB.by (awake_spec) ?_
    simp -dsimp
    refine retP_c ?_
    simp -dsimp
end Go.Proofs.Ytmneioafbkknhaa
