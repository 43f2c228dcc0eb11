import Derived.Test.YtmneioafbkknhaaPB33
/- PB34: the law of Kept, walked. -/
set_option linter.unusedVariables false
set_option linter.unusedSimpArgs false
set_option maxRecDepth 20000
namespace Go.Proofs.Ytmneioafbkknhaa
open Go Go.PS
attribute [-simp] List.map_take
theorem isSol_mem {p : Pz} (h : goodP p = true) (s : Int) : isSol p s = decide (s ∈ allS p) := by
  rw [Bool.eq_iff_iff]
  simp only [isSol, allS, solsF, Bool.and_eq_true, decide_eq_true_eq, List.mem_filter, List.mem_map, List.mem_range]
  constructor
  · rintro ⟨h1, h2, h3⟩
    exact ⟨⟨s.toNat, by omega, by simp; omega⟩, h3⟩
  · rintro ⟨⟨k, hk, rfl⟩, h3⟩
    exact ⟨by simp, by simp only [Int.ofNat_eq_natCast]; omega, h3⟩
/-- What f15 makes of three solutions. -/
def madeF (n : Int) (a b c : Int) (op : Nat) : Int := opF op n ([a, b, c].take (arity op))
theorem made_sol {p : Pz} (h : goodP p = true) {op : Nat} (hop : op ≤ 5) (hk : p.cons.all (keepC p op) = true) {a b c : Int} (ha : isSol p a = true) (hb : isSol p b = true) (hc : isSol p c = true) : isSol p (madeF p.vars a b c op) = true := by
  rw [isSol_mem h, decide_eq_true_eq] at *
  refine sols_closed h hop hk (by have := arity_le hop; simp; omega) fun s hs => ?_
  have := List.mem_of_mem_take hs
  simp at this
  rcases this with rfl | rfl | rfl <;> assumption
theorem pcall_res {P : Program} {f : FuncId} {args : List TL} {k : Kind} {x y : TL} (h : PCall P f args (.t k x) []) (hxy : ∀ w S v, TRep w S x v → TRep w S y v) : PCall P f args (.t k y) [] :=
  ⟨h.1, fun w S vals a b c => (h.2 w S vals a b c).mono fun e w' ⟨v, φ, fp, h1, h2, h3, h4, h5, h6⟩ => ⟨v, φ, fp, h1, h2, h3, h4, h5, .t (hxy _ _ _ h6.t_inv)⟩⟩
theorem project_spec' (p : Pz) (vs : List Int) : ∃ (R : Rl) (e : Int), PCall Try.prog 44 [ePz p, eIs vs] (.t .ro (.tup [eRl R, eI e])) [] ∧
    ((e = 0 ∧ R = projR p vs ∧ goodR (projR p vs) = true ∧ ∀ op ≤ 5, p.cons.all (keepC p op) = true → brokenF (projR p vs) op = none) ∨ e = 4 ∨ e = 2) := by
  have h := project_spec p vs
  have hw : ∀ e, ∀ w S v, TRep w S (.tup [.agg [eI 0, .v (.slice none 0 0)], eI e]) v → TRep w S (.tup [eRl ⟨0, []⟩, eI e]) v := fun e => tup2_w agg_nil
  cases hv : okV p vs with
  | false =>
    rw [okV_bad hv] at h
    exact ⟨⟨0, []⟩, 2, pcall_res h (hw 2), .inr (.inr rfl)⟩
  | true =>
    have hF : projT p vs = if (allS p).isEmpty then .tup [.agg [eI 0, .v (.slice none 0 0)], eI 4] else .tup [eRl ⟨vs.length, Lib.compact (sortI (projL p vs))⟩, eI 0] := by rw [projT, hv, if_pos rfl]
    cases hA : (allS p).isEmpty with
    | true =>
      rw [hA, if_pos rfl] at hF
      rw [hF] at h
      exact ⟨⟨0, []⟩, 4, pcall_res h (hw 4), .inr (.inl rfl)⟩
    | false =>
      rw [hA, if_neg (by simp)] at hF
      rw [hF] at h
      have hne : allS p ≠ [] := by
        intro e
        rw [e] at hA
        cases hA
      exact ⟨_, 0, h, .inl ⟨rfl, rfl, projR_good hv hne, fun op hop hk => proj_keeps hv hop hk⟩⟩
set_option maxHeartbeats 2000000 in
theorem kept_true (p : Pz) (vs : List Int) (a b c : Int) : PCall Try.prog 15 [ePz p, eIs vs, eI a, eI b, eI c] (pB true) [] := by
  refine pcall_wp _ Try.func15 rfl (by kernel_rfl) rfl ?_
  simp -dsimp
  first
    | refine CallG.by (of_spec p) ?_
    | refine CallGE.by (of_spec p) ?_
    | refine CallGB.by (of_spec p) ?_
  simp -dsimp
  first
    | refine CallG.by (class_spec (trimP p)) ?_
    | refine CallGE.by (class_spec (trimP p)) ?_
    | refine CallGB.by (class_spec (trimP p)) ?_
  have hgt := good_trim p
  cases hv : goodP p with
  | false =>
    rw [clsT, ← hgt, hv, if_neg (by simp)]
    simp -dsimp
    first
      | refine CallG.by (awake_spec) ?_
      | refine CallGE.by (awake_spec) ?_
      | refine CallGB.by (awake_spec) ?_
    simp -dsimp
    refine retP_c ?_
    simp -dsimp
  | true =>
    have hT := trim_of hv
    have hC : clsT p = .tup [eI (classF p 6), eI 0] := by rw [clsT, hv, if_pos rfl]
    rw [hT, hC]
    simp -dsimp
    first
      | refine CallG.by (of_spec p) ?_
      | refine CallGE.by (of_spec p) ?_
      | refine CallGB.by (of_spec p) ?_
    rw [hT]
    simp -dsimp
    first
      | refine CallG.by (list_spec vs) ?_
      | refine CallGE.by (list_spec vs) ?_
      | refine CallGB.by (list_spec vs) ?_
    simp -dsimp
    obtain ⟨R, e, h1, h2⟩ := project_spec' p (vs.take 14)
    first
      | refine CallG.by (h1) ?_
      | refine CallGE.by (h1) ?_
      | refine CallGB.by (h1) ?_
    simp -dsimp
    refine wk_loop (fun i : Nat => ⟨[(47, pI i), (11, pI (classF p 6)), (14, .t .ro (eI e)), (13, .ptr 13 0), (5, .ptr 5 0), (2, .t .ro (eI a)), (3, .t .ro (eI b)), (4, .t .ro (eI c))], [(13, .blk 48 [.t .ro (eI R.n), .t .ro (eIs R.rows)]), (5, .blk 25 [.t .ro (eI p.vars), .t .ro (eRls p.rels), .t .ro (eCns p.cons)])]⟩) (fun i => i ≤ 6) (fun i => 6 - i) 0
      (le_of (by simp) (by simp)) (by simp) fun i hi => ?_
    simp -dsimp
    refine condX_dec (fun h => ?_) (fun h => ?_)
    rotate_left
    · have h3 : e = 0 ∨ e = 4 ∨ e = 2 := by rcases h2 with ⟨h, _⟩ | h | h <;> simp [h]
      rcases h3 with rfl | rfl | rfl
      · simp -dsimp
        first
          | refine CallG.by (awake_spec) ?_
          | refine CallGE.by (awake_spec) ?_
          | refine CallGB.by (awake_spec) ?_
        simp -dsimp
        refine retP_c ?_
        simp -dsimp
      · simp -dsimp
        first
          | refine CallG.by (awake_spec) ?_
          | refine CallGE.by (awake_spec) ?_
          | refine CallGB.by (awake_spec) ?_
        simp -dsimp
        refine retP_c ?_
        simp -dsimp
      · simp -dsimp
        first
          | refine CallG.by (awake_spec) ?_
          | refine CallGE.by (awake_spec) ?_
          | refine CallGB.by (awake_spec) ?_
        simp -dsimp
        refine retP_c ?_
        simp -dsimp
    have hw := wr (n := (i : Int) + 1) (by omega) (by omega)
    have hcb := class_bit p i (by omega)
    have hi0 : (0 : Int) ≤ i := by omega
    cases hk : p.cons.all (keepC p i) with
    | false =>
      rw [hk, if_neg (by simp)] at hcb
      simp -dsimp [h, hcb, hw, hi0]
      exact LoopP_next (i + 1) (le_of (by simp) (by simp)) (by omega) (by omega)
    | true =>
      rw [hk, if_pos rfl] at hcb
      simp -dsimp [h, hcb, hw, hi0]
      obtain ⟨xs, hxs⟩ : ∃ xs, xs = [a, b, c] := ⟨_, rfl⟩
      have hxl : xs.length = 3 := by rw [hxs]; rfl
      refine condX_of (fun he => ?_) (fun he => ?_)
      · have he' : e = 0 := by simpa using he
        have hR : R = projR p (vs.take 14) ∧ goodR (projR p (vs.take 14)) = true ∧ ∀ op ≤ 5, p.cons.all (keepC p op) = true → brokenF (projR p (vs.take 14)) op = none := by
          rcases h2 with ⟨_, h⟩ | h | h
          · exact h
          · omega
          · omega
        have hK : keepF R i = .tup [eB true, eI 0] := by
          rw [keepF, hR.1, okOp_of hR.2.1 (by omega), if_pos rfl, Int.toNat_natCast, hR.2.2 i (by omega) hk]
          rfl
        simp -dsimp
        first
          | refine CallG.by (keeps_spec R i) ?_
          | refine CallGE.by (keeps_spec R i) ?_
          | refine CallGB.by (keeps_spec R i) ?_
        rw [hK]
        simp -dsimp
        refine wk_loop (fun q : Nat × Bool => ⟨[(74, pI q.1), (73, pI 3), (72, .osl 72), (18, pB q.2), (15, pI i), (47, pI i), (11, pI (classF p 6)), (14, .t .ro (eI e)), (13, .ptr 13 0), (5, .ptr 5 0), (2, .t .ro (eI a)), (3, .t .ro (eI b)), (4, .t .ro (eI c))], [(72, .row 3 1 .fz (xs.map cI)), (13, .blk 48 [.t .ro (eI R.n), .t .ro (eIs R.rows)]), (5, .blk 25 [.t .ro (eI p.vars), .t .ro (eRls p.rels), .t .ro (eCns p.cons)])]⟩) (fun q => q.1 ≤ 3 ∧ q.2 = (xs.take q.1).all (isSol p)) (fun q => 3 - q.1) (0, true)
          (le_of (by simp) (by simp [hxs])) (by simp) fun ⟨j, g⟩ ⟨hj, hg⟩ => ?_
        dsimp only at hj hg
        simp -dsimp
        refine condX_dec (fun h3 => ?_) (fun h3 => ?_)
        · have hw3 := wr (n := (j : Int) + 1) (by omega) (by omega)
          have hjx : j < xs.length := by omega
          have hnx : (xs.take (j + 1)).all (isSol p) = (g && isSol p xs[j]) := by
            rw [List.take_add_one, List.getElem?_eq_getElem hjx, List.all_append, ← hg]
            simp
          have hch : checkF p xs[j] = .tup [eB (isSol p xs[j]), eI 0] := by rw [checkF, hv, if_pos rfl]
          simp -dsimp [hjx]
          first
            | refine CallG.by (of_spec p) ?_
            | refine CallGE.by (of_spec p) ?_
            | refine CallGB.by (of_spec p) ?_
          rw [hT]
          simp -dsimp
          first
            | refine CallG.by (check_spec p xs[j]) ?_
            | refine CallGE.by (check_spec p xs[j]) ?_
            | refine CallGB.by (check_spec p xs[j]) ?_
          rw [hch]
          cases g with
          | true =>
            simp -dsimp [hw3]
            exact LoopP_next (j + 1, isSol p xs[j]) (le_of (by simp) (by simp)) ⟨by simp only; omega, by simp only; rw [hnx]; rfl⟩ (by simp only; omega)
          | false =>
            simp -dsimp [hw3]
            exact LoopP_next (j + 1, false) (le_of (by simp) (by simp)) ⟨by simp only; omega, by simp only; rw [hnx]; rfl⟩ (by simp only; omega)
        have hj3 : j = 3 := by omega
        subst hj3
        cases g with
        | false =>
          simp -dsimp [hw]
          exact LoopP_next (i + 1) (le_of (by simp) (by simp)) (by omega) (by omega)
        | true =>
          have hall : isSol p a = true ∧ isSol p b = true ∧ isSol p c = true := by
            rw [hxs] at hg
            simpa using hg.symm
          have hms := made_sol hv (op := i) (by omega) hk hall.1 hall.2.1 hall.2.2
          have hch : checkF p (madeF p.vars a b c i) = .tup [eB true, eI 0] := by rw [checkF, hv, if_pos rfl, hms]
          have g0 : 0 ≤ p.vars := by
            simp only [goodP, Bool.and_eq_true, decide_eq_true_eq] at hv
            omega
          have h6 : i = 0 ∨ i = 1 ∨ i = 2 ∨ i = 3 ∨ i = 4 ∨ i = 5 := by omega
          rcases h6 with rfl | rfl | rfl | rfl | rfl | rfl
          · have hcs := check_spec p 0
            rw [show checkF p 0 = _ from hch] at hcs
            have hwk : IntKind.i64.wrap 1 = 1 := wr (by omega) (by omega)
            simp -dsimp [g0]
            first
              | refine CallG.by (of_spec p) ?_
              | refine CallGE.by (of_spec p) ?_
              | refine CallGB.by (of_spec p) ?_
            rw [hT]
            simp -dsimp
            first
              | refine CallG.by (hcs) ?_
              | refine CallGE.by (hcs) ?_
              | refine CallGB.by (hcs) ?_
            simp -dsimp [hwk]
            exact LoopP_next 1 (le_of (by simp [hwk]) (by simp)) (by omega) (by omega)
          · have hcs := check_spec p (IntKind.i64.wrap (shlI 1 p.vars.toNat - 1))
            rw [show checkF p (IntKind.i64.wrap (shlI 1 p.vars.toNat - 1)) = _ from hch] at hcs
            have hwk : IntKind.i64.wrap 2 = 2 := wr (by omega) (by omega)
            simp -dsimp [g0]
            first
              | refine CallG.by (of_spec p) ?_
              | refine CallGE.by (of_spec p) ?_
              | refine CallGB.by (of_spec p) ?_
            rw [hT]
            simp -dsimp
            first
              | refine CallG.by (hcs) ?_
              | refine CallGE.by (hcs) ?_
              | refine CallGB.by (hcs) ?_
            simp -dsimp [hwk]
            exact LoopP_next 2 (le_of (by simp [hwk]) (by simp)) (by omega) (by omega)
          · have hcs := check_spec p (andI a b)
            rw [show checkF p (andI a b) = _ from hch] at hcs
            have hwk : IntKind.i64.wrap 3 = 3 := wr (by omega) (by omega)
            simp -dsimp [g0]
            first
              | refine CallG.by (of_spec p) ?_
              | refine CallGE.by (of_spec p) ?_
              | refine CallGB.by (of_spec p) ?_
            rw [hT]
            simp -dsimp
            first
              | refine CallG.by (hcs) ?_
              | refine CallGE.by (hcs) ?_
              | refine CallGB.by (hcs) ?_
            simp -dsimp [hwk]
            exact LoopP_next 3 (le_of (by simp [hwk]) (by simp)) (by omega) (by omega)
          · have hcs := check_spec p (orI a b)
            rw [show checkF p (orI a b) = _ from hch] at hcs
            have hwk : IntKind.i64.wrap 4 = 4 := wr (by omega) (by omega)
            simp -dsimp [g0]
            first
              | refine CallG.by (of_spec p) ?_
              | refine CallGE.by (of_spec p) ?_
              | refine CallGB.by (of_spec p) ?_
            rw [hT]
            simp -dsimp
            first
              | refine CallG.by (hcs) ?_
              | refine CallGE.by (hcs) ?_
              | refine CallGB.by (hcs) ?_
            simp -dsimp [hwk]
            exact LoopP_next 4 (le_of (by simp [hwk]) (by simp)) (by omega) (by omega)
          · have hcs := check_spec p (orI (orI (andI a b) (andI a c)) (andI b c))
            rw [show checkF p (orI (orI (andI a b) (andI a c)) (andI b c)) = _ from hch] at hcs
            have hwk : IntKind.i64.wrap 5 = 5 := wr (by omega) (by omega)
            simp -dsimp [g0]
            first
              | refine CallG.by (of_spec p) ?_
              | refine CallGE.by (of_spec p) ?_
              | refine CallGB.by (of_spec p) ?_
            rw [hT]
            simp -dsimp
            first
              | refine CallG.by (hcs) ?_
              | refine CallGE.by (hcs) ?_
              | refine CallGB.by (hcs) ?_
            simp -dsimp [hwk]
            exact LoopP_next 5 (le_of (by simp [hwk]) (by simp)) (by omega) (by omega)
          · have hcs := check_spec p (xorI (xorI a b) c)
            rw [show checkF p (xorI (xorI a b) c) = _ from hch] at hcs
            have hwk : IntKind.i64.wrap 6 = 6 := wr (by omega) (by omega)
            simp -dsimp [g0]
            first
              | refine CallG.by (of_spec p) ?_
              | refine CallGE.by (of_spec p) ?_
              | refine CallGB.by (of_spec p) ?_
            rw [hT]
            simp -dsimp
            first
              | refine CallG.by (hcs) ?_
              | refine CallGE.by (hcs) ?_
              | refine CallGB.by (hcs) ?_
            simp -dsimp [hwk]
            exact LoopP_next 6 (le_of (by simp [hwk]) (by simp)) (by omega) (by omega)
      · simp -dsimp
        refine wk_loop (fun q : Nat × Bool => ⟨[(74, pI q.1), (73, pI 3), (72, .osl 72), (18, pB q.2), (15, pI i), (47, pI i), (11, pI (classF p 6)), (14, .t .ro (eI e)), (13, .ptr 13 0), (5, .ptr 5 0), (2, .t .ro (eI a)), (3, .t .ro (eI b)), (4, .t .ro (eI c))], [(72, .row 3 1 .fz (xs.map cI)), (13, .blk 48 [.t .ro (eI R.n), .t .ro (eIs R.rows)]), (5, .blk 25 [.t .ro (eI p.vars), .t .ro (eRls p.rels), .t .ro (eCns p.cons)])]⟩) (fun q => q.1 ≤ 3 ∧ q.2 = (xs.take q.1).all (isSol p)) (fun q => 3 - q.1) (0, true)
          (le_of (by simp) (by simp [hxs])) (by simp) fun ⟨j, g⟩ ⟨hj, hg⟩ => ?_
        dsimp only at hj hg
        simp -dsimp
        refine condX_dec (fun h3 => ?_) (fun h3 => ?_)
        · have hw3 := wr (n := (j : Int) + 1) (by omega) (by omega)
          have hjx : j < xs.length := by omega
          have hnx : (xs.take (j + 1)).all (isSol p) = (g && isSol p xs[j]) := by
            rw [List.take_add_one, List.getElem?_eq_getElem hjx, List.all_append, ← hg]
            simp
          have hch : checkF p xs[j] = .tup [eB (isSol p xs[j]), eI 0] := by rw [checkF, hv, if_pos rfl]
          simp -dsimp [hjx]
          first
            | refine CallG.by (of_spec p) ?_
            | refine CallGE.by (of_spec p) ?_
            | refine CallGB.by (of_spec p) ?_
          rw [hT]
          simp -dsimp
          first
            | refine CallG.by (check_spec p xs[j]) ?_
            | refine CallGE.by (check_spec p xs[j]) ?_
            | refine CallGB.by (check_spec p xs[j]) ?_
          rw [hch]
          cases g with
          | true =>
            simp -dsimp [hw3]
            exact LoopP_next (j + 1, isSol p xs[j]) (le_of (by simp) (by simp)) ⟨by simp only; omega, by simp only; rw [hnx]; rfl⟩ (by simp only; omega)
          | false =>
            simp -dsimp [hw3]
            exact LoopP_next (j + 1, false) (le_of (by simp) (by simp)) ⟨by simp only; omega, by simp only; rw [hnx]; rfl⟩ (by simp only; omega)
        have hj3 : j = 3 := by omega
        subst hj3
        cases g with
        | false =>
          simp -dsimp [hw]
          exact LoopP_next (i + 1) (le_of (by simp) (by simp)) (by omega) (by omega)
        | true =>
          have hall : isSol p a = true ∧ isSol p b = true ∧ isSol p c = true := by
            rw [hxs] at hg
            simpa using hg.symm
          have hms := made_sol hv (op := i) (by omega) hk hall.1 hall.2.1 hall.2.2
          have hch : checkF p (madeF p.vars a b c i) = .tup [eB true, eI 0] := by rw [checkF, hv, if_pos rfl, hms]
          have g0 : 0 ≤ p.vars := by
            simp only [goodP, Bool.and_eq_true, decide_eq_true_eq] at hv
            omega
          have h6 : i = 0 ∨ i = 1 ∨ i = 2 ∨ i = 3 ∨ i = 4 ∨ i = 5 := by omega
          rcases h6 with rfl | rfl | rfl | rfl | rfl | rfl
          · have hcs := check_spec p 0
            rw [show checkF p 0 = _ from hch] at hcs
            have hwk : IntKind.i64.wrap 1 = 1 := wr (by omega) (by omega)
            simp -dsimp [g0]
            first
              | refine CallG.by (of_spec p) ?_
              | refine CallGE.by (of_spec p) ?_
              | refine CallGB.by (of_spec p) ?_
            rw [hT]
            simp -dsimp
            first
              | refine CallG.by (hcs) ?_
              | refine CallGE.by (hcs) ?_
              | refine CallGB.by (hcs) ?_
            simp -dsimp [hwk]
            exact LoopP_next 1 (le_of (by simp [hwk]) (by simp)) (by omega) (by omega)
          · have hcs := check_spec p (IntKind.i64.wrap (shlI 1 p.vars.toNat - 1))
            rw [show checkF p (IntKind.i64.wrap (shlI 1 p.vars.toNat - 1)) = _ from hch] at hcs
            have hwk : IntKind.i64.wrap 2 = 2 := wr (by omega) (by omega)
            simp -dsimp [g0]
            first
              | refine CallG.by (of_spec p) ?_
              | refine CallGE.by (of_spec p) ?_
              | refine CallGB.by (of_spec p) ?_
            rw [hT]
            simp -dsimp
            first
              | refine CallG.by (hcs) ?_
              | refine CallGE.by (hcs) ?_
              | refine CallGB.by (hcs) ?_
            simp -dsimp [hwk]
            exact LoopP_next 2 (le_of (by simp [hwk]) (by simp)) (by omega) (by omega)
          · have hcs := check_spec p (andI a b)
            rw [show checkF p (andI a b) = _ from hch] at hcs
            have hwk : IntKind.i64.wrap 3 = 3 := wr (by omega) (by omega)
            simp -dsimp [g0]
            first
              | refine CallG.by (of_spec p) ?_
              | refine CallGE.by (of_spec p) ?_
              | refine CallGB.by (of_spec p) ?_
            rw [hT]
            simp -dsimp
            first
              | refine CallG.by (hcs) ?_
              | refine CallGE.by (hcs) ?_
              | refine CallGB.by (hcs) ?_
            simp -dsimp [hwk]
            exact LoopP_next 3 (le_of (by simp [hwk]) (by simp)) (by omega) (by omega)
          · have hcs := check_spec p (orI a b)
            rw [show checkF p (orI a b) = _ from hch] at hcs
            have hwk : IntKind.i64.wrap 4 = 4 := wr (by omega) (by omega)
            simp -dsimp [g0]
            first
              | refine CallG.by (of_spec p) ?_
              | refine CallGE.by (of_spec p) ?_
              | refine CallGB.by (of_spec p) ?_
            rw [hT]
            simp -dsimp
            first
              | refine CallG.by (hcs) ?_
              | refine CallGE.by (hcs) ?_
              | refine CallGB.by (hcs) ?_
            simp -dsimp [hwk]
            exact LoopP_next 4 (le_of (by simp [hwk]) (by simp)) (by omega) (by omega)
          · have hcs := check_spec p (orI (orI (andI a b) (andI a c)) (andI b c))
            rw [show checkF p (orI (orI (andI a b) (andI a c)) (andI b c)) = _ from hch] at hcs
            have hwk : IntKind.i64.wrap 5 = 5 := wr (by omega) (by omega)
            simp -dsimp [g0]
            first
              | refine CallG.by (of_spec p) ?_
              | refine CallGE.by (of_spec p) ?_
              | refine CallGB.by (of_spec p) ?_
            rw [hT]
            simp -dsimp
            first
              | refine CallG.by (hcs) ?_
              | refine CallGE.by (hcs) ?_
              | refine CallGB.by (hcs) ?_
            simp -dsimp [hwk]
            exact LoopP_next 5 (le_of (by simp [hwk]) (by simp)) (by omega) (by omega)
          · have hcs := check_spec p (xorI (xorI a b) c)
            rw [show checkF p (xorI (xorI a b) c) = _ from hch] at hcs
            have hwk : IntKind.i64.wrap 6 = 6 := wr (by omega) (by omega)
            simp -dsimp [g0]
            first
              | refine CallG.by (of_spec p) ?_
              | refine CallGE.by (of_spec p) ?_
              | refine CallGB.by (of_spec p) ?_
            rw [hT]
            simp -dsimp
            first
              | refine CallG.by (hcs) ?_
              | refine CallGE.by (hcs) ?_
              | refine CallGB.by (hcs) ?_
            simp -dsimp [hwk]
            exact LoopP_next 6 (le_of (by simp [hwk]) (by simp)) (by omega) (by omega)
end Go.Proofs.Ytmneioafbkknhaa
