import Derived.Test.YtmneioafbkknhaaPB27
/- PB28: Hull of the program. -/
set_option linter.unusedVariables false
set_option linter.unusedSimpArgs false
set_option maxRecDepth 20000
namespace Go.Proofs.Ytmneioafbkknhaa
open Go Go.PS
attribute [-simp] List.map_take
def hullT (r : Rl) (op : Int) : TL := if okOp r op then .tup [eRl (hullF op.toNat 9 r), eI 0] else .tup [.agg [eI 0, .v (.slice none 0 0)], eI 2]
def hullTree : OT := .nd (.cons 0 (.nd (.cons 1 (.nd (.cons 2 (.nd (.cons 3 (.nd (.cons 4 (.nd (.cons 5 (.nd (.cons 6 (.nd (.cons 7 (.nd .nil) .nil)) .nil)) (.cons 6 (.nd (.cons 5 (.nd (.cons 7 (.nd .nil) .nil)) .nil)) .nil))) (.cons 6 (.nd (.cons 4 (.nd (.cons 5 (.nd (.cons 7 (.nd .nil) .nil)) .nil)) .nil)) .nil))) (.cons 6 (.nd (.cons 3 (.nd (.cons 4 (.nd (.cons 5 (.nd (.cons 7 (.nd .nil) .nil)) .nil)) .nil)) .nil)) .nil))) (.cons 6 (.nd (.cons 2 (.nd (.cons 3 (.nd (.cons 4 (.nd (.cons 5 (.nd (.cons 7 (.nd .nil) .nil)) .nil)) .nil)) .nil)) .nil)) .nil))) (.cons 2 (.nd (.cons 1 (.nd (.cons 3 (.nd (.cons 4 (.nd (.cons 5 (.nd (.cons 6 (.nd (.cons 7 (.nd .nil) .nil)) .nil)) (.cons 6 (.nd (.cons 5 (.nd (.cons 7 (.nd .nil) .nil)) .nil)) .nil))) (.cons 6 (.nd (.cons 4 (.nd (.cons 5 (.nd (.cons 7 (.nd .nil) .nil)) .nil)) .nil)) .nil))) (.cons 6 (.nd (.cons 3 (.nd (.cons 4 (.nd (.cons 5 (.nd (.cons 7 (.nd .nil) .nil)) .nil)) .nil)) .nil)) .nil))) (.cons 3 (.nd (.cons 1 (.nd (.cons 4 (.nd (.cons 5 (.nd (.cons 6 (.nd (.cons 7 (.nd .nil) .nil)) .nil)) (.cons 6 (.nd (.cons 5 (.nd (.cons 7 (.nd .nil) .nil)) .nil)) .nil))) (.cons 6 (.nd (.cons 4 (.nd (.cons 5 (.nd (.cons 7 (.nd .nil) .nil)) .nil)) .nil)) .nil))) (.cons 4 (.nd (.cons 1 (.nd (.cons 5 (.nd (.cons 6 (.nd (.cons 7 (.nd .nil) .nil)) .nil)) (.cons 6 (.nd (.cons 5 (.nd (.cons 7 (.nd .nil) .nil)) .nil)) .nil))) (.cons 6 (.nd (.cons 1 (.nd (.cons 5 (.nd (.cons 7 (.nd .nil) .nil)) .nil)) .nil)) .nil))) (.cons 6 (.nd (.cons 1 (.nd (.cons 4 (.nd (.cons 5 (.nd (.cons 7 (.nd .nil) .nil)) .nil)) .nil)) (.cons 4 (.nd (.cons 1 (.nd (.cons 5 (.nd (.cons 7 (.nd .nil) .nil)) .nil)) .nil)) .nil))) .nil)))) (.cons 6 (.nd (.cons 1 (.nd (.cons 3 (.nd (.cons 4 (.nd (.cons 5 (.nd (.cons 7 (.nd .nil) .nil)) .nil)) .nil)) .nil)) (.cons 3 (.nd (.cons 1 (.nd (.cons 4 (.nd (.cons 5 (.nd (.cons 7 (.nd .nil) .nil)) .nil)) .nil)) (.cons 4 (.nd (.cons 1 (.nd (.cons 5 (.nd (.cons 7 (.nd .nil) .nil)) .nil)) .nil)) .nil))) .nil))) .nil)))) (.cons 6 (.nd (.cons 1 (.nd (.cons 2 (.nd (.cons 3 (.nd (.cons 4 (.nd (.cons 5 (.nd (.cons 7 (.nd .nil) .nil)) .nil)) .nil)) .nil)) .nil)) (.cons 2 (.nd (.cons 1 (.nd (.cons 3 (.nd (.cons 4 (.nd (.cons 5 (.nd (.cons 7 (.nd .nil) .nil)) .nil)) .nil)) .nil)) (.cons 3 (.nd (.cons 1 (.nd (.cons 4 (.nd (.cons 5 (.nd (.cons 7 (.nd .nil) .nil)) .nil)) .nil)) (.cons 4 (.nd (.cons 1 (.nd (.cons 5 (.nd (.cons 7 (.nd .nil) .nil)) .nil)) .nil)) .nil))) .nil))) .nil))) .nil)))) (.cons 2 (.nd (.cons 0 (.nd (.cons 1 (.nd (.cons 3 (.nd (.cons 4 (.nd (.cons 5 (.nd (.cons 6 (.nd (.cons 7 (.nd .nil) .nil)) .nil)) (.cons 6 (.nd (.cons 5 (.nd (.cons 7 (.nd .nil) .nil)) .nil)) .nil))) (.cons 6 (.nd (.cons 4 (.nd (.cons 5 (.nd (.cons 7 (.nd .nil) .nil)) .nil)) .nil)) .nil))) (.cons 6 (.nd (.cons 3 (.nd (.cons 4 (.nd (.cons 5 (.nd (.cons 7 (.nd .nil) .nil)) .nil)) .nil)) .nil)) .nil))) (.cons 3 (.nd (.cons 1 (.nd (.cons 4 (.nd (.cons 5 (.nd (.cons 6 (.nd (.cons 7 (.nd .nil) .nil)) .nil)) (.cons 6 (.nd (.cons 5 (.nd (.cons 7 (.nd .nil) .nil)) .nil)) .nil))) (.cons 6 (.nd (.cons 4 (.nd (.cons 5 (.nd (.cons 7 (.nd .nil) .nil)) .nil)) .nil)) .nil))) (.cons 4 (.nd (.cons 1 (.nd (.cons 5 (.nd (.cons 6 (.nd (.cons 7 (.nd .nil) .nil)) .nil)) (.cons 6 (.nd (.cons 5 (.nd (.cons 7 (.nd .nil) .nil)) .nil)) .nil))) (.cons 6 (.nd (.cons 1 (.nd (.cons 5 (.nd (.cons 7 (.nd .nil) .nil)) .nil)) .nil)) .nil))) (.cons 6 (.nd (.cons 1 (.nd (.cons 4 (.nd (.cons 5 (.nd (.cons 7 (.nd .nil) .nil)) .nil)) .nil)) (.cons 4 (.nd (.cons 1 (.nd (.cons 5 (.nd (.cons 7 (.nd .nil) .nil)) .nil)) .nil)) .nil))) .nil)))) (.cons 6 (.nd (.cons 1 (.nd (.cons 3 (.nd (.cons 4 (.nd (.cons 5 (.nd (.cons 7 (.nd .nil) .nil)) .nil)) .nil)) .nil)) (.cons 3 (.nd (.cons 1 (.nd (.cons 4 (.nd (.cons 5 (.nd (.cons 7 (.nd .nil) .nil)) .nil)) .nil)) (.cons 4 (.nd (.cons 1 (.nd (.cons 5 (.nd (.cons 7 (.nd .nil) .nil)) .nil)) .nil)) .nil))) .nil))) .nil)))) (.cons 3 (.nd (.cons 0 (.nd (.cons 1 (.nd (.cons 4 (.nd (.cons 5 (.nd (.cons 6 (.nd (.cons 7 (.nd .nil) .nil)) .nil)) (.cons 6 (.nd (.cons 5 (.nd (.cons 7 (.nd .nil) .nil)) .nil)) .nil))) (.cons 6 (.nd (.cons 4 (.nd (.cons 5 (.nd (.cons 7 (.nd .nil) .nil)) .nil)) .nil)) .nil))) (.cons 4 (.nd (.cons 1 (.nd (.cons 5 (.nd (.cons 6 (.nd (.cons 7 (.nd .nil) .nil)) .nil)) (.cons 6 (.nd (.cons 5 (.nd (.cons 7 (.nd .nil) .nil)) .nil)) .nil))) (.cons 6 (.nd (.cons 1 (.nd (.cons 5 (.nd (.cons 7 (.nd .nil) .nil)) .nil)) .nil)) .nil))) (.cons 6 (.nd (.cons 1 (.nd (.cons 4 (.nd (.cons 5 (.nd (.cons 7 (.nd .nil) .nil)) .nil)) .nil)) (.cons 4 (.nd (.cons 1 (.nd (.cons 5 (.nd (.cons 7 (.nd .nil) .nil)) .nil)) .nil)) .nil))) .nil)))) (.cons 4 (.nd (.cons 0 (.nd (.cons 1 (.nd (.cons 5 (.nd (.cons 6 (.nd (.cons 7 (.nd .nil) .nil)) .nil)) (.cons 6 (.nd (.cons 5 (.nd (.cons 7 (.nd .nil) .nil)) .nil)) .nil))) (.cons 6 (.nd (.cons 1 (.nd (.cons 5 (.nd (.cons 7 (.nd .nil) .nil)) .nil)) .nil)) .nil))) (.cons 6 (.nd (.cons 0 (.nd (.cons 1 (.nd (.cons 5 (.nd (.cons 7 (.nd .nil) .nil)) .nil)) .nil)) .nil)) .nil))) (.cons 6 (.nd (.cons 0 (.nd (.cons 1 (.nd (.cons 4 (.nd (.cons 5 (.nd (.cons 7 (.nd .nil) .nil)) .nil)) .nil)) (.cons 4 (.nd (.cons 1 (.nd (.cons 5 (.nd (.cons 7 (.nd .nil) .nil)) .nil)) .nil)) .nil))) (.cons 4 (.nd (.cons 0 (.nd (.cons 1 (.nd (.cons 5 (.nd (.cons 7 (.nd .nil) .nil)) .nil)) .nil)) .nil)) .nil))) .nil)))) (.cons 6 (.nd (.cons 0 (.nd (.cons 1 (.nd (.cons 3 (.nd (.cons 4 (.nd (.cons 5 (.nd (.cons 7 (.nd .nil) .nil)) .nil)) .nil)) .nil)) (.cons 3 (.nd (.cons 1 (.nd (.cons 4 (.nd (.cons 5 (.nd (.cons 7 (.nd .nil) .nil)) .nil)) .nil)) (.cons 4 (.nd (.cons 1 (.nd (.cons 5 (.nd (.cons 7 (.nd .nil) .nil)) .nil)) .nil)) .nil))) .nil))) (.cons 3 (.nd (.cons 0 (.nd (.cons 1 (.nd (.cons 4 (.nd (.cons 5 (.nd (.cons 7 (.nd .nil) .nil)) .nil)) .nil)) (.cons 4 (.nd (.cons 1 (.nd (.cons 5 (.nd (.cons 7 (.nd .nil) .nil)) .nil)) .nil)) .nil))) (.cons 4 (.nd (.cons 0 (.nd (.cons 1 (.nd (.cons 5 (.nd (.cons 7 (.nd .nil) .nil)) .nil)) .nil)) .nil)) .nil))) .nil))) .nil)))) (.cons 6 (.nd (.cons 0 (.nd (.cons 1 (.nd (.cons 2 (.nd (.cons 3 (.nd (.cons 4 (.nd (.cons 5 (.nd (.cons 7 (.nd .nil) .nil)) .nil)) .nil)) .nil)) .nil)) (.cons 2 (.nd (.cons 1 (.nd (.cons 3 (.nd (.cons 4 (.nd (.cons 5 (.nd (.cons 7 (.nd .nil) .nil)) .nil)) .nil)) .nil)) (.cons 3 (.nd (.cons 1 (.nd (.cons 4 (.nd (.cons 5 (.nd (.cons 7 (.nd .nil) .nil)) .nil)) .nil)) (.cons 4 (.nd (.cons 1 (.nd (.cons 5 (.nd (.cons 7 (.nd .nil) .nil)) .nil)) .nil)) .nil))) .nil))) .nil))) (.cons 2 (.nd (.cons 0 (.nd (.cons 1 (.nd (.cons 3 (.nd (.cons 4 (.nd (.cons 5 (.nd (.cons 7 (.nd .nil) .nil)) .nil)) .nil)) .nil)) (.cons 3 (.nd (.cons 1 (.nd (.cons 4 (.nd (.cons 5 (.nd (.cons 7 (.nd .nil) .nil)) .nil)) .nil)) (.cons 4 (.nd (.cons 1 (.nd (.cons 5 (.nd (.cons 7 (.nd .nil) .nil)) .nil)) .nil)) .nil))) .nil))) (.cons 3 (.nd (.cons 0 (.nd (.cons 1 (.nd (.cons 4 (.nd (.cons 5 (.nd (.cons 7 (.nd .nil) .nil)) .nil)) .nil)) (.cons 4 (.nd (.cons 1 (.nd (.cons 5 (.nd (.cons 7 (.nd .nil) .nil)) .nil)) .nil)) .nil))) (.cons 4 (.nd (.cons 0 (.nd (.cons 1 (.nd (.cons 5 (.nd (.cons 7 (.nd .nil) .nil)) .nil)) .nil)) .nil)) .nil))) .nil))) .nil))) .nil)))
set_option maxHeartbeats 2000000 in
theorem hull_spec (r : Rl) (op : Int) : PCall Try.prog 48 [eRl r, eI op] (.t .ro (hullT r op)) [] := by
  refine pcall_wpT Try.func48 rfl (by kernel_rfl) ?_
  simp -dsimp
  first
    | refine CallG.by (prel_spec r) ?_
    | refine CallGE.by (prel_spec r) ?_
    | refine CallGB.by (prel_spec r) ?_
  cases hv : goodR r with
  | false =>
    simp -dsimp
    refine retT_c ?_
    simp -dsimp [hullT, okOp, hv]
  | true =>
    by_cases h0 : op < 0
    · have h1 : ¬ 0 ≤ op := by omega
      simp -dsimp [h0]
      refine retT_c ?_
      simp -dsimp [hullT, okOp, hv, h1]
    by_cases h5 : 5 < op
    · have h1 : ¬ op ≤ 5 := by omega
      simp -dsimp [h0, h5]
      refine retT_c ?_
      simp -dsimp [hullT, okOp, hv, h1]
    obtain ⟨k, rfl⟩ : ∃ k : Nat, op = k := ⟨op.toNat, by omega⟩
    have h1 : k ≤ 5 := by omega
    have h2 : (k : Int) ≤ 5 := by omega
    have hT : hullT r k = .tup [eRl (hullF k 9 r), eI 0] := by
      rw [hullT, okOp, hv, if_pos (by simp [h2])]
      rfl
    have hr1 : r.rows ≠ [] := by
      have := (goodR_asc.1 hv).2.2.1
      rintro e
      rw [e] at this
      simp at this
    have hr2 := goodR_len hv
    simp -dsimp [h0, h5]
    refine wk_treeL hullTree ⟨[(6, .ptr 6 0), (2, .ptr 2 0), (4, .ptr 4 0), (5, pI 0), (1, .t .ro (eI k))], [(6, .blk 48 [.t .ro (eI r.n), .osl 25]), (25, .row 3 1 .ro (r.rows.map cI)), (4, .blk 48 [.t .fz (eI 0), .t .fz (.v (.slice none 0 0))]), (2, .blk 48 [.t .ro (eI r.n), .t .ro (eIs r.rows)])]⟩ mixed (by kernel_rfl) ?_ ?_
    · unfold hullTree
      simp -dsimp
      repeat' first
        | exact le_of (by simp) (by simp)
        | (refine CallG.by (clone_own r.rows hr1 (by omega)) ?_; simp -dsimp)
        | apply And.intro
    simp -dsimp
    refine wk_loop (fun q : Nat × Rl => ⟨[(6, .ptr 6 0), (2, .ptr 2 0), (4, .ptr 4 0), (5, pI 0), (1, .t .ro (eI k))], [(6, .blk 48 [.t .ro (eI r.n), .osl 25]), (25, .row 3 1 .ro (q.2.rows.map cI)), (4, .blk 48 [.t .fz (eI 0), .t .fz (.v (.slice none 0 0))]), (2, .blk 48 [.t .ro (eI r.n), .t .ro (eIs r.rows)])]⟩)
      (fun q => hullF k q.1 q.2 = hullF k 9 r ∧ 8 < q.2.rows.length + q.1 ∧ goodR q.2 = true ∧ q.2.n = r.n) (fun q => q.1) (9, r) (le_of (by simp) (by simp)) ⟨rfl, by simp only; omega, hv, rfl⟩ fun ⟨f, R⟩ ⟨hJ, hf, hg, hn⟩ => ?_
    dsimp only at hJ hf hg hn
    have hRl := goodR_len hg
    obtain ⟨f, rfl⟩ : ∃ f', f = f' + 1 := ⟨f - 1, by omega⟩
    rw [hullF] at hJ
    have hbr := broken_spec R k h1 (goodR_n hg) hRl
    have hR : eRl R = .agg [eI r.n, eIs R.rows] := by rw [← hn]; rfl
    rw [hR] at hbr
    simp -dsimp
    first
      | refine CallG.by (hbr) ?_
      | refine CallGE.by (hbr) ?_
      | refine CallGB.by (hbr) ?_
    cases hb : brokenF R k with
    | none =>
      rw [hb] at hJ
      simp only at hJ
      rw [hT, ← hJ]
      simp -dsimp
      refine retT_c ?_
      simp -dsimp [hn]
    | some l =>
      rw [hb] at hJ
      simp only at hJ
      obtain ⟨hl, hy, hny⟩ := brokenF_some hg h1 hb
      obtain ⟨a1, a2, a3⟩ := addR_law hg h1 hb
      have hb1 : (R.rows.length + 1) * 8 ≤ 140737488355328 := by omega
      simp -dsimp
      refine wk_draw 10 [9] mixed (by kernel_rfl) ?_
      simp -dsimp
      first
        | refine CallG.by (operate_spec k r.n h1) ?_
        | refine CallGE.by (operate_spec k r.n h1) ?_
        | refine CallGB.by (operate_spec k r.n h1) ?_
      simp -dsimp
      first
        | refine CallG.by (opClo_spec k r.n l h1 (goodR_n hv) hl) ?_
        | refine CallGE.by (opClo_spec k r.n l h1 (goodR_n hv) hl) ?_
        | refine CallGB.by (opClo_spec k r.n l h1 (goodR_n hv) hl) ?_
      simp -dsimp [hb1]
      first
        | refine CallG.on (g := [(25, 1000011)]) (sort_spec (R.rows ++ [opF k r.n l]) (by simp)) (by decide) (by simp) (by simp) (by simp [Sg.bk]) ?_
        | refine CallN.on (g := [(25, 1000011)]) (sort_spec (R.rows ++ [opF k r.n l]) (by simp)) (by decide) (by simp) (by simp) (by simp [Sg.bk]) ?_
        | refine CallGB.on (g := [(25, 1000011)]) (sort_spec (R.rows ++ [opF k r.n l]) (by simp)) (by decide) (by simp) (by simp) (by simp [Sg.bk]) ?_
      have hadd : sortI (R.rows ++ [opF k r.n l]) = (addR R k l).rows := by rw [addR, hn]
      rw [hadd]
      simp -dsimp
      exact LoopP_next (f, addR R k l) (le_of (by simp) (by simp)) ⟨hJ, by simp only; omega, a1, hn⟩ (by simp only; omega)
end Go.Proofs.Ytmneioafbkknhaa
