import Derived.Test.YtgcncgocdfioiaaDoorCL5
/- CL6: the law of ChaseRanks. -/
set_option linter.unusedVariables false
set_option linter.unusedSimpArgs false
set_option maxRecDepth 20000
namespace Go.Proofs.YtgcncgocdfioiaaDoor
open Go Go.PS
attribute [-simp] isKeyK List.map_take
def dag72 : List (List Bool × List Nat) := [([false, false, false, false, false, false, false, false, false, false, false, false], [0, 2, 3, 9]), ([true, false, false, false, false, false, false, false, false, false, false, false], [1, 2, 3, 9]), ([true, true, false, false, false, false, false, false, false, false, false, false], [2, 3, 9]), ([true, true, true, false, false, false, false, false, false, false, false, false], [3, 9]), ([true, true, true, true, false, false, false, false, false, false, false, false], [4, 9]), ([true, true, true, true, true, false, false, false, false, false, false, false], [5, 9]), ([true, true, true, true, true, true, false, false, false, false, false, false], [6, 9]), ([true, true, true, true, true, true, true, false, false, false, false, false], [7, 8, 9]), ([true, true, true, true, true, true, true, true, false, false, false, false], [8, 9]), ([true, true, true, true, true, true, true, true, true, false, false, false], [9]), ([true, true, true, true, true, true, true, true, true, true, false, false], [10]), ([true, true, true, true, true, true, true, true, true, true, true, false], [11]), ([true, true, true, true, true, true, true, true, true, true, true, true], []), ([true, true, true, true, true, true, true, true, false, true, false, false], [8, 10]), ([true, true, true, true, true, true, true, true, false, true, true, false], [8]), ([true, true, true, true, true, true, true, false, true, false, false, false], [7, 9]), ([true, true, true, true, true, true, true, false, true, true, false, false], [7]), ([true, true, true, true, true, true, true, false, false, true, false, false], [7, 8]), ([true, true, true, true, true, true, false, false, false, true, false, false], [6]), ([true, true, true, true, true, false, false, false, false, true, false, false], [5]), ([true, true, true, true, false, false, false, false, false, true, false, false], [4]), ([true, true, true, false, false, false, false, false, false, true, false, false], [3]), ([true, true, false, true, false, false, false, false, false, false, false, false], [2, 4, 9]), ([true, true, false, true, true, false, false, false, false, false, false, false], [2, 9]), ([true, true, false, true, true, false, false, false, false, true, false, false], [2]), ([true, true, false, true, false, false, false, false, false, true, false, false], [2, 4]), ([true, true, false, false, false, false, false, false, false, true, false, false], [2, 3]), ([true, false, true, false, false, false, false, false, false, false, false, false], [1, 3, 9]), ([true, false, true, true, false, false, false, false, false, false, false, false], [1, 9]), ([true, false, true, true, false, false, false, false, false, true, false, false], [1]), ([true, false, true, false, false, false, false, false, false, true, false, false], [1, 3]), ([true, false, false, true, false, false, false, false, false, false, false, false], [1, 2, 9]), ([true, false, false, true, false, false, false, false, false, true, false, false], [1, 2]), ([true, false, false, false, false, false, false, false, false, true, false, false], [1, 2, 3]), ([false, false, true, false, false, false, false, false, false, false, false, false], [0, 3, 9]), ([false, false, true, true, false, false, false, false, false, false, false, false], [0, 9]), ([false, false, true, true, false, false, false, false, false, true, false, false], [0]), ([false, false, true, false, false, false, false, false, false, true, false, false], [0, 3]), ([false, false, false, true, false, false, false, false, false, false, false, false], [0, 2, 9]), ([false, false, false, true, false, false, false, false, false, true, false, false], [0, 2]), ([false, false, false, false, false, false, false, false, false, true, false, false], [0, 2, 3])]
def fineB (g : List Int) (k : Int) (p : P3) : Bool := okG g k && okPl g.length k p.1 p.2.1 p.2.2
theorem fine_spec (g : List Int) (k : Int) (p : P3) : PCall Tryd.prog 30 [eIs g, eI k, .agg (cP3 p)] (pB (fineB g k p)) [] := by
  obtain ⟨a, b, c⟩ := p
  refine pcall_wp _ Tryd.func30 rfl (by kernel_rfl) rfl ?_
  have hvs := valid_spec g
  have hip := isPlace_spec g k a b c
  have hF : fineB g k (a, b, c) = ((validG g && ((k == 1) || (k == 2))) && okPl g.length k a b c) := rfl
  generalize okPl g.length k a b c = o at *
  generalize validG g = v at *
  cases v with
  | false =>
    simp -dsimp
    first
      | refine CallG.by (hvs) ?_
      | refine CallGE.by (hvs) ?_
      | refine CallGB.by (hvs) ?_
    simp -dsimp
    refine retP_c ?_
    simp -dsimp [hF]
  | true =>
    cases c1 : (k == 1) with
    | true =>
      rw [c1] at hF
      simp -dsimp
      first
        | refine CallG.by (hvs) ?_
        | refine CallGE.by (hvs) ?_
        | refine CallGB.by (hvs) ?_
      simp -dsimp [c1]
      first
        | refine CallG.by (hip) ?_
        | refine CallGE.by (hip) ?_
        | refine CallGB.by (hip) ?_
      simp -dsimp
      refine retP_c ?_
      simp -dsimp [hF]
    | false =>
      cases c2 : (k == 2) with
      | true =>
        rw [c1, c2] at hF
        simp -dsimp
        first
          | refine CallG.by (hvs) ?_
          | refine CallGE.by (hvs) ?_
          | refine CallGB.by (hvs) ?_
        simp -dsimp [c1, c2]
        first
          | refine CallG.by (hip) ?_
          | refine CallGE.by (hip) ?_
          | refine CallGB.by (hip) ?_
        simp -dsimp
        refine retP_c ?_
        simp -dsimp [hF]
      | false =>
        rw [c1, c2] at hF
        simp -dsimp
        first
          | refine CallG.by (hvs) ?_
          | refine CallGE.by (hvs) ?_
          | refine CallGB.by (hvs) ?_
        simp -dsimp [c1, c2]
        refine retP_c ?_
        simp -dsimp [hF]
theorem rOf_spec (rs : List Int) (hrs : rs.length = 512) (p : Pl) (hp : P8 p) : PCall Tryd.prog 33 [eRk rs, .agg (cPl p)] (pI (rs.getD (ix p) 0)) [] := by
  have h := rof_spec rs hrs p hp
  obtain ⟨a, b, c⟩ := p
  refine pcall_wp _ Tryd.func33 rfl (by kernel_rfl) rfl ?_
  generalize rs.getD (ix (a, b, c)) 0 = x at *
  simp -dsimp
  first
    | refine CallG.by (h) ?_
    | refine CallGE.by (h) ?_
    | refine CallGB.by (h) ?_
  simp -dsimp
  refine retP_c ?_
  simp -dsimp
theorem fine_take (g : List Int) (k : Int) (p : P3) : (okG (g.take 13) k && okPl (g.take 13).length k p.1 p.2.1 p.2.2) = fineB g k p := by
  rw [fineB]
  cases hv : validG g with
  | true => rw [(take_valid g).2 hv]
  | false =>
    have h1 : okG g k = false := by rw [okG, hv]; rfl
    rw [okG_take, h1]
    rfl
set_option maxHeartbeats 1000000 in
theorem ranks_true (g : List Int) (k : Int) (p : P3) : PCall Tryd.prog 7 [eIs g, eI k, .agg (cP3 p)] (pB true) [] := by
  refine pcall_wp _ Tryd.func7 rfl (by kernel_rfl) rfl ?_
  have hf := few_spec g
  have ha := awake_spec
  have hpl := place28_spec p
  obtain ⟨t1, t2⟩ := take_valid g
  have hrk := rankP_spec (g.take 13) k p.1 p.2.1 p.2.2
  have hmv := moveP_spec (g.take 13) k p.1 p.2.1 p.2.2
  have hfi := fine_spec g k p
  have hft := fine_take g k p
  rw [rankF, hft] at hrk
  rw [moveF, hft] at hmv
  obtain ⟨a, b, c⟩ := p
  simp only at hrk hmv
  have hreg : ∃ (x y e : Int) (n e' : Int), (PCall Tryd.prog 29 [eIs (g.take 13), eI k, .agg [eI a, eI b, eI c]] (.t .fz (.tup [.agg [eI x, eI y], eI e])) []) ∧ (PCall Tryd.prog 27 [eIs (g.take 13), eI k, .agg [eI a, eI b, eI c]] (.t .fz (.tup [eI n, eI e'])) []) ∧
      ((fineB g k (a, b, c) = false ∧ x = 0 ∧ y = 0 ∧ e = 2 ∧ n = 0 ∧ e' = 2) ∨ (fineB g k (a, b, c) = true ∧ PCall Tryd.prog 31 [eIs g, eI k, .agg [eI a, eI b, eI c]] (.t .fz (.tup [.agg [eI x, eI y], eI e])) [] ∧ e' = 0 ∧
        ∃ rs, PCall Tryd.prog 32 [eIs g, eI k] (.t .fz (eRk rs)) [] ∧ PCall Tryd.prog 33 [eRk rs, .agg [eI a, eI b, eI c]] (pI n) [])) := by
    cases hfb : fineB g k (a, b, c) with
    | false =>
      rw [hfb, if_neg (by simp)] at hrk hmv
      exact ⟨0, 0, 2, 0, 2, hmv, hrk, .inl ⟨rfl, rfl, rfl, rfl, rfl, rfl⟩⟩
    | true =>
      rw [hfb, if_pos rfl] at hrk hmv
      have hfb' := hfb
      simp only [fineB, Bool.and_eq_true] at hfb'
      obtain ⟨ho, hok⟩ := hfb'
      have hv := ok_valid ho
      rw [t2 hv] at hrk hmv ⊢
      have hg := valid_isg hv
      obtain ⟨ha', hb', hc', hG⟩ := okPl_nat hok
      have hmr := rmove_spec g hg k (a.toNat, b.toNat, c.toNat) hG
      have hr0 := rank0_spec g hg k
      have h8 : g.length ≤ 8 := (valid_at hv).2.1
      have hp8 : P8 (a.toNat, b.toNat, c.toNat) := by
        obtain ⟨q1, q2, q3, _⟩ := id hG
        exact ⟨by simp only at *; omega, by simp only at *; omega, by simp only at *; omega⟩
      have hro := rOf_spec _ (arrF_len (rkA (allPl g.length (k == 2)) (playF (townOf g) (k == 2)))) _ hp8
      rw [arrF_get _ hp8, rkA, if_pos (allPl_mem.2 hG)] at hro
      simp only [cPl, ← ha', ← hb', ← hc'] at hmr hro
      rw [rmoveF] at hmr
      cases hq : moveQ (townOf g) (k == 2) (rksF g k) (a.toNat, b.toNat, c.toNat) with
      | none =>
        rw [hq] at hmv hmr
        exact ⟨0, 0, 4, _, 0, hmv, hrk, .inr ⟨rfl, hmr, rfl, _, hr0, hro⟩⟩
      | some q =>
        rw [hq] at hmv hmr
        exact ⟨_, _, 0, _, 0, hmv, hrk, .inr ⟨rfl, hmr, rfl, _, hr0, hro⟩⟩
  clear hrk hmv hft t1 t2
  obtain ⟨x, y, e, n, e', hmv, hrk, hcase⟩ := hreg
  generalize g.take 13 = h at *
  simp -dsimp
  refine wk_draw 10 [4, 5] mixed (by kernel_rfl) ?_
  simp -dsimp
  first
    | refine CallG.by (hf) ?_
    | refine CallGE.by (hf) ?_
    | refine CallGB.by (hf) ?_
  simp -dsimp
  first
    | refine CallG.by (hpl) ?_
    | refine CallGE.by (hpl) ?_
    | refine CallGB.by (hpl) ?_
  simp -dsimp
  first
    | refine CallG.by (hrk) ?_
    | refine CallGE.by (hrk) ?_
    | refine CallGB.by (hrk) ?_
  simp -dsimp
  refine wk_dag (fun bs => ⟨dagT [(23, .t .ro (eIs g)), (24, .t .ro (eIs h)), (25, .t .ro (eI k)), (26, .agg [.t .ro (eI a), .t .ro (eI b), .t .ro (eI c)]), (27, .t .fz (.agg [eI a, eI b, eI c])), (28, .t .fz (.tup [.agg [eI x, eI y], eI e])), (22, .t .fz (.tup [.agg [eI x, eI y], eI e])), (29, .t .fz (.agg [eI x, eI y])), (30, .t .fz (eI e)), (9, .ptr 9 0), (2000, .undef), (10, .t .fz (eI e))] bs ++ [(7, pI n), (8, pI e'), (5, .ptr 5 0), (0, .t .ro (eIs g)), (1, .t .ro (eI k))],
      (if bs.getD 10 false then [(9, .blk 30 [.t .fz (eI x), .t .fz (eI y)]), (5, .blk 48 [.t .ro (eI a), .t .ro (eI b), .t .ro (eI c)])] else if bs.getD 9 false then [(9, .blk 30 [.t .fz (eI 0), .t .fz (eI 0)]), (5, .blk 48 [.t .ro (eI a), .t .ro (eI b), .t .ro (eI c)])] else [(5, .blk 48 [.t .ro (eI a), .t .ro (eI b), .t .ro (eI c)])])⟩) dag72 mixed (by kernel_rfl) (le_of (by simp) (by simp)) ?_ ?_
  · unfold dag72
    simp -dsimp
    repeat' first
      | exact le_of (by simp) (by simp)
      | apply And.intro
      | (refine CallG.by hf ?_
         simp -dsimp)
      | (refine CallG.by hpl ?_
         simp -dsimp)
      | (refine CallG.by hmv ?_
         simp -dsimp)
  · simp -dsimp
    first
      | refine CallG.by (hfi) ?_
      | refine CallGE.by (hfi) ?_
      | refine CallGB.by (hfi) ?_
    rcases hcase with ⟨hfb, rfl, rfl, rfl, rfl, rfl⟩ | ⟨hfb, hmr, rfl, rs, hr0, hro⟩
    · rw [hfb]
      simp -dsimp
      first
        | refine CallG.by (ha) ?_
        | refine CallGE.by (ha) ?_
        | refine CallGB.by (ha) ?_
      simp -dsimp
      refine retP_c ?_
      simp -dsimp
    · rw [hfb]
      have hee : (e == e) = true := by simp
      have hnn : (n == n) = true := by simp
      simp -dsimp
      first
        | refine CallG.by (hmr) ?_
        | refine CallGE.by (hmr) ?_
        | refine CallGB.by (hmr) ?_
      simp -dsimp
      refine wk_draw 19 [5] mixed (by kernel_rfl) ?_
      simp -dsimp
      first
        | refine CallG.by (hr0) ?_
        | refine CallGE.by (hr0) ?_
        | refine CallGB.by (hr0) ?_
      simp -dsimp
      first
        | refine CallG.by (hro) ?_
        | refine CallGE.by (hro) ?_
        | refine CallGB.by (hro) ?_
      simp -dsimp
      first
        | refine CallG.by (ha) ?_
        | refine CallGE.by (ha) ?_
        | refine CallGB.by (ha) ?_
      simp -dsimp
      refine retP_c ?_
      simp -dsimp
end Go.Proofs.YtgcncgocdfioiaaDoor
