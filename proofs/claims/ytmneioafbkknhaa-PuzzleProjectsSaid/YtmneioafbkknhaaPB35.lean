import Derived.Test.YtmneioafbkknhaaPB34
/- PB35: Project of the reference; the law of Projects, walked. -/
set_option linter.unusedVariables false
set_option linter.unusedSimpArgs false
set_option maxRecDepth 20000
namespace Go.Proofs.Ytmneioafbkknhaa
open Go Go.PS
attribute [-simp] List.map_take
def rprojT (p : Pz) (vs : List Int) : TL := if (allS p).isEmpty then .tup [.agg [eI 0, .v (.slice none 0 0)], eI 4] else .tup [eRl ⟨vs.length, bitsL (setOf (projL p vs) 0) 8⟩, eI 0]
theorem setOf_zero {rows : List Int} (h : ∀ x ∈ rows, 0 ≤ x) : setOf rows 0 = 0 ↔ rows = [] := by
  constructor
  · intro e
    cases rows with
    | nil => rfl
    | cons x l =>
      have := setOf_bit (x :: l) 0 x.toNat h
      rw [e] at this
      have hx := h x (by simp)
      have e2 : ((x.toNat : Nat) : Int) = x := by omega
      rw [e2] at this
      simp at this
  · rintro rfl
    rfl
theorem rproject_spec (p : Pz) (vs : List Int) (hv : okV p vs = true) : PCall Try.prog 47 [ePz p, eIs vs] (.t .ro (rprojT p vs)) [] := by
  obtain ⟨hg, v1, v2, v3⟩ := okV_mem hv
  have hin := projL_in hv
  have hin3 : ∀ x ∈ projL p vs, InN 3 x := fun x hx => inN_mono v2 (hin x hx)
  have h0 : ∀ x ∈ projL p vs, 0 ≤ x := fun x hx => by obtain ⟨k, e, _⟩ := hin x hx; omega
  have hpl := projL_len p vs
  have hlen : (allS p).length ≤ 256 := allS_len (by
    simp only [goodP, Bool.and_eq_true, decide_eq_true_eq] at hg
    exact hg.1.1.1.1.2)
  refine pcall_wpT Try.func47 rfl (by kernel_rfl) ?_
  simp -dsimp
  first
    | refine CallG.by (rsols_spec p hg) ?_
    | refine CallGE.by (rsols_spec p hg) ?_
    | refine CallGB.by (rsols_spec p hg) ?_
  simp -dsimp
  refine wk_loop (fun i : Nat => ⟨[(12, pI i), (11, pI (allS p).length), (10, .t .fz (eIs (allS p))), (6, pI (setOf ((projL p vs).take i) 0)), (1, .t .ro (eIs vs)), (4, .ptr 4 0)], [(4, .blk 46 [.t .fz (eI 0), .t .fz (.v (.slice none 0 0))])]⟩) (fun i => i ≤ (allS p).length) (fun i => (allS p).length - i) 0
    (le_of (by simp [setOf]) (by simp)) (by simp) fun i hi => ?_
  simp -dsimp
  refine condX_dec (fun h => ?_) (fun h => ?_)
  · have hw := wr (n := (i : Int) + 1) (by omega) (by omega)
    have hip : i < (projL p vs).length := by omega
    have hst := setOf_take (projL p vs) 0 i hip
    have hgi : (projL p vs)[i] = rowF (allS p)[i] vs 0 0 := by simp [projL]
    obtain ⟨x, hx, hxl⟩ := hin3 _ (List.getElem_mem hip)
    have hlt := setOf_lt ((projL p vs).take i) 0 (by decide) fun z hz => hin3 z (List.mem_of_mem_take hz)
    have hx2 : 2 ^ x < 256 := Nat.pow_lt_pow_right (n := 8) (by decide) (by omega)
    have hor := orI_nat (setOf ((projL p vs).take i) 0) (2 ^ x) (by omega) (by omega)
    rw [hx, Int.toNat_natCast] at hst
    rw [← hst] at hor
    rw [hgi] at hx
    have hx0 : (0 : Int) ≤ x := by omega
    have hs2 := shl1 x (by omega)
    obtain ⟨N, hN⟩ : ∃ N, 2 ^ x = N := ⟨_, rfl⟩
    rw [hN] at hs2 hor
    simp -dsimp [h]
    first
      | refine CallG.by (rrow_spec ⟨0, vs⟩ (allS p)[i] (fun v hm => (v3 v hm).1)) ?_
      | refine CallGE.by (rrow_spec ⟨0, vs⟩ (allS p)[i] (fun v hm => (v3 v hm).1)) ?_
      | refine CallGB.by (rrow_spec ⟨0, vs⟩ (allS p)[i] (fun v hm => (v3 v hm).1)) ?_
    rw [hx]
    simp -dsimp [hx0, hs2, hor, hw]
    exact LoopP_next (i + 1) (le_of (by simp) (by simp)) h (by omega)
  have hie : i = (projL p vs).length := by omega
  subst hie
  rw [List.take_length]
  have hF : rprojT p vs = if (allS p).isEmpty then .tup [.agg [eI 0, .v (.slice none 0 0)], eI 4] else .tup [eRl ⟨vs.length, bitsL (setOf (projL p vs) 0) 8⟩, eI 0] := rfl
  have hlt := setOf_lt (projL p vs) 0 (by decide) hin3
  cases hA : (allS p).isEmpty with
  | true =>
    rw [hA, if_pos rfl] at hF
    have : projL p vs = [] := by
      rw [List.isEmpty_iff] at hA
      simp [projL, hA]
    have h00 : setOf (projL p vs) 0 = 0 := (setOf_zero h0).2 this
    rw [h00]
    simp -dsimp
    refine retT_c ?_
    simp -dsimp [hF]
  | false =>
    rw [hA, if_neg (by simp)] at hF
    have hne : setOf (projL p vs) 0 ≠ 0 := by
      intro e
      have := (setOf_zero h0).1 e
      rw [this] at hpl
      rw [List.isEmpty_eq_false_iff, ← List.length_pos_iff] at hA
      simp at hpl
      omega
    have hne' : (((setOf (projL p vs) 0 : Nat) : Int) == 0) = false := by
      simp
      exact hne
    simp -dsimp [hne']
    first
      | refine CallG.by (rows_spec (setOf (projL p vs) 0) hlt) ?_
      | refine CallGE.by (rows_spec (setOf (projL p vs) 0) hlt) ?_
      | refine CallGB.by (rows_spec (setOf (projL p vs) 0) hlt) ?_
    simp -dsimp
    refine retT_c ?_
    simp -dsimp [hF]
theorem okV_trim (p : Pz) (vs : List Int) : okV (trimP p) (vs.take 14) = okV p vs := by
  rw [okV, okV, ← good_trim]
  cases hg : goodP p with
  | false => rfl
  | true =>
    rw [trim_of hg]
    by_cases h : vs.length ≤ 14
    · rw [List.take_of_length_le h]
    · have h1 : ¬ vs.length ≤ 3 := by omega
      have h2 : ¬ (vs.take 14).length ≤ 3 := by simp; omega
      simp only [h1, h2, decide_false, Bool.and_false, Bool.false_and]
def projRE (p : Pz) (vs : List Int) : Rl × Int := if okV p vs then (if (allS p).isEmpty then (⟨0, []⟩, 4) else (projR p vs, 0)) else (⟨0, []⟩, 2)
theorem nil_w (e : Int) : ∀ w S v, TRep w S (.tup [.agg [eI 0, .v (.slice none 0 0)], eI e]) v → TRep w S (.tup [eRl ⟨0, []⟩, eI e]) v := tup2_w agg_nil
theorem project_specE (p : Pz) (vs : List Int) : PCall Try.prog 44 [ePz p, eIs vs] (.t .ro (.tup [eRl (projRE p vs).1, eI (projRE p vs).2])) [] := by
  have h := project_spec p vs
  cases hv : okV p vs with
  | false =>
    rw [okV_bad hv] at h
    rw [projRE, hv, if_neg (by simp)]
    exact pcall_res h (nil_w 2)
  | true =>
    have hF : projT p vs = if (allS p).isEmpty then .tup [.agg [eI 0, .v (.slice none 0 0)], eI 4] else .tup [eRl ⟨vs.length, Lib.compact (sortI (projL p vs))⟩, eI 0] := by rw [projT, hv, if_pos rfl]
    rw [projRE, hv, if_pos rfl]
    cases hA : (allS p).isEmpty with
    | true =>
      rw [hA, if_pos rfl] at hF
      rw [hF] at h
      exact pcall_res h (nil_w 4)
    | false =>
      rw [hA, if_neg (by simp)] at hF
      rw [hF] at h
      exact h
theorem rproject_specE (p : Pz) (vs : List Int) (hv : okV p vs = true) : PCall Try.prog 47 [ePz p, eIs vs] (.t .ro (.tup [eRl (projRE p vs).1, eI (projRE p vs).2])) [] := by
  have h := rproject_spec p vs hv
  have hF : rprojT p vs = if (allS p).isEmpty then .tup [.agg [eI 0, .v (.slice none 0 0)], eI 4] else .tup [eRl ⟨vs.length, bitsL (setOf (projL p vs) 0) 8⟩, eI 0] := rfl
  obtain ⟨hg, v1, v2, v3⟩ := okV_mem hv
  rw [projRE, hv, if_pos rfl]
  cases hA : (allS p).isEmpty with
  | true =>
    rw [hA, if_pos rfl] at hF
    rw [hF] at h
    exact pcall_res h (nil_w 4)
  | false =>
    rw [hA, if_neg (by simp), ← uniq_law fun x hx => inN_mono v2 (projL_in hv x hx)] at hF
    rw [hF] at h
    exact h
theorem projects_true (p : Pz) (vs : List Int) : PCall Try.prog 12 [ePz p, eIs vs] (pB true) [] := by
  refine pcall_sl 1 rfl call12 fun hlen => ?_
  simp only [List.length_map] at hlen
  refine pcall_wp _ Try.func12 rfl (by kernel_rfl) rfl ?_
  have ho := okV_trim p vs
  simp -dsimp
  first
    | refine CallG.by (of_spec p) ?_
    | refine CallGE.by (of_spec p) ?_
    | refine CallGB.by (of_spec p) ?_
  simp -dsimp
  first
    | refine CallG.by (list_spec vs) ?_
    | refine CallGE.by (list_spec vs) ?_
    | refine CallGB.by (list_spec vs) ?_
  simp -dsimp
  have hps := project_specE (trimP p) (vs.take 14)
  obtain ⟨R, e, hRE⟩ : ∃ R e, projRE (trimP p) (vs.take 14) = (R, e) := ⟨_, _, rfl⟩
  rw [hRE] at hps
  first
    | refine CallG.by (hps) ?_
    | refine CallGE.by (hps) ?_
    | refine CallGB.by (hps) ?_
  simp -dsimp
  first
    | refine CallG.by (rvalid_spec p) ?_
    | refine CallGE.by (rvalid_spec p) ?_
    | refine CallGB.by (rvalid_spec p) ?_
  cases hg : goodP p with
  | false =>
    simp -dsimp
    refine wk_loop (fun q : Nat × Bool => ⟨[(34, pI q.1), (33, pI vs.length), (32, .t .ro (eIs vs)), (7, pB q.2), (6, .t .ro (eI e)), (5, .ptr 5 0), (2, .ptr 2 0), (1, .t .ro (eIs vs))], [(5, .blk 48 [.t .ro (eI R.n), .t .ro (eIs R.rows)]), (2, .blk 25 [.t .ro (eI p.vars), .t .ro (eRls p.rels), .t .ro (eCns p.cons)])]⟩) (fun q => q.1 ≤ vs.length ∧ q.2 = (goodP p && decide (1 ≤ vs.length) && decide (vs.length ≤ 3) && (vs.take q.1).all (goodV p))) (fun q => vs.length - q.1) (0, false)
      (le_of (by simp) (by simp)) ⟨by simp, by simp [hg, hg]⟩ fun ⟨i, b⟩ ⟨hi, hb⟩ => ?_
    dsimp only at hi hb
    simp -dsimp
    refine condX_dec (fun h => ?_) (fun h => ?_)
    · have hw := wr (n := (i : Int) + 1) (by omega) (by omega)
      have hnx : (goodP p && decide (1 ≤ vs.length) && decide (vs.length ≤ 3) && (vs.take (i + 1)).all (goodV p)) = (b && goodV p vs[i]) := by
        rw [List.take_add_one, List.getElem?_eq_getElem h, List.all_append, ← Bool.and_assoc, ← hb]
        simp
      cases b with
      | false =>
        simp -dsimp [h, hw]
        exact LoopP_next (i + 1, false) (le_of (by simp) (by simp)) ⟨h, by simp only; rw [hnx]; rfl⟩ (by simp only; omega)
      | true =>
        by_cases c0 : 0 ≤ vs[i]
        · by_cases c1 : vs[i] < p.vars
          · simp -dsimp [h, hw, c0, c1]
            exact LoopP_next (i + 1, true) (le_of (by simp) (by simp)) ⟨h, by simp only; rw [hnx]; simp [goodV, c0, c1]⟩ (by simp only; omega)
          · simp -dsimp [h, hw, c0, c1]
            exact LoopP_next (i + 1, false) (le_of (by simp) (by simp)) ⟨h, by simp only; rw [hnx]; simp [goodV, c0, c1]⟩ (by simp only; omega)
        · simp -dsimp [h, hw, c0]
          exact LoopP_next (i + 1, false) (le_of (by simp) (by simp)) ⟨h, by simp only; rw [hnx]; simp [goodV, c0]⟩ (by simp only; omega)
    have hie : i = vs.length := by omega
    subst hie
    rw [List.take_length, ← okV] at hb
    subst hb
    cases hok : okV p vs with
    | false =>
      rw [projRE, ho, hok, if_neg (by simp)] at hRE
      cases hRE
      have hs := pcall_arg 1 (same_spec ⟨0, []⟩ ⟨0, []⟩) rfl agg_nil
      simp -dsimp
      first
        | refine CallG.by (hs) ?_
        | refine CallGE.by (hs) ?_
        | refine CallGB.by (hs) ?_
      simp -dsimp
      first
        | refine CallG.by (awake_spec) ?_
        | refine CallGE.by (awake_spec) ?_
        | refine CallGB.by (awake_spec) ?_
      simp -dsimp
      refine retP_c ?_
      simp -dsimp
    | true =>
      have hgt := (okV_mem hok).1
      have hvl : vs.take 14 = vs := List.take_of_length_le (by have := (okV_mem hok).2.2.1; omega)
      rw [trim_of hgt, hvl] at hRE
      have hrp := rproject_specE p vs hok
      rw [hRE] at hrp
      simp -dsimp
      first
        | refine CallG.by (hrp) ?_
        | refine CallGE.by (hrp) ?_
        | refine CallGB.by (hrp) ?_
      simp -dsimp
      first
        | refine CallG.by (same_spec R R) ?_
        | refine CallGE.by (same_spec R R) ?_
        | refine CallGB.by (same_spec R R) ?_
      simp -dsimp
      first
        | refine CallG.by (awake_spec) ?_
        | refine CallGE.by (awake_spec) ?_
        | refine CallGB.by (awake_spec) ?_
      simp -dsimp
      refine retP_c ?_
      simp -dsimp
  | true =>
    by_cases l1 : 1 ≤ vs.length
    · have l1' : 1 ≤ (vs.length : Int) := by omega
      by_cases l3 : vs.length ≤ 3
      · have l3' : (vs.length : Int) ≤ 3 := by omega
        simp -dsimp [l1', l3']
        refine wk_loop (fun q : Nat × Bool => ⟨[(34, pI q.1), (33, pI vs.length), (32, .t .ro (eIs vs)), (7, pB q.2), (6, .t .ro (eI e)), (5, .ptr 5 0), (2, .ptr 2 0), (1, .t .ro (eIs vs))], [(5, .blk 48 [.t .ro (eI R.n), .t .ro (eIs R.rows)]), (2, .blk 25 [.t .ro (eI p.vars), .t .ro (eRls p.rels), .t .ro (eCns p.cons)])]⟩) (fun q => q.1 ≤ vs.length ∧ q.2 = (goodP p && decide (1 ≤ vs.length) && decide (vs.length ≤ 3) && (vs.take q.1).all (goodV p))) (fun q => vs.length - q.1) (0, true)
          (le_of (by simp) (by simp)) ⟨by simp, by simp [hg, l1, l3]⟩ fun ⟨i, b⟩ ⟨hi, hb⟩ => ?_
        dsimp only at hi hb
        simp -dsimp
        refine condX_dec (fun h => ?_) (fun h => ?_)
        · have hw := wr (n := (i : Int) + 1) (by omega) (by omega)
          have hnx : (goodP p && decide (1 ≤ vs.length) && decide (vs.length ≤ 3) && (vs.take (i + 1)).all (goodV p)) = (b && goodV p vs[i]) := by
            rw [List.take_add_one, List.getElem?_eq_getElem h, List.all_append, ← Bool.and_assoc, ← hb]
            simp
          cases b with
          | false =>
            simp -dsimp [h, hw]
            exact LoopP_next (i + 1, false) (le_of (by simp) (by simp)) ⟨h, by simp only; rw [hnx]; rfl⟩ (by simp only; omega)
          | true =>
            by_cases c0 : 0 ≤ vs[i]
            · by_cases c1 : vs[i] < p.vars
              · simp -dsimp [h, hw, c0, c1]
                exact LoopP_next (i + 1, true) (le_of (by simp) (by simp)) ⟨h, by simp only; rw [hnx]; simp [goodV, c0, c1]⟩ (by simp only; omega)
              · simp -dsimp [h, hw, c0, c1]
                exact LoopP_next (i + 1, false) (le_of (by simp) (by simp)) ⟨h, by simp only; rw [hnx]; simp [goodV, c0, c1]⟩ (by simp only; omega)
            · simp -dsimp [h, hw, c0]
              exact LoopP_next (i + 1, false) (le_of (by simp) (by simp)) ⟨h, by simp only; rw [hnx]; simp [goodV, c0]⟩ (by simp only; omega)
        have hie : i = vs.length := by omega
        subst hie
        rw [List.take_length, ← okV] at hb
        subst hb
        cases hok : okV p vs with
        | false =>
          rw [projRE, ho, hok, if_neg (by simp)] at hRE
          cases hRE
          have hs := pcall_arg 1 (same_spec ⟨0, []⟩ ⟨0, []⟩) rfl agg_nil
          simp -dsimp
          first
            | refine CallG.by (hs) ?_
            | refine CallGE.by (hs) ?_
            | refine CallGB.by (hs) ?_
          simp -dsimp
          first
            | refine CallG.by (awake_spec) ?_
            | refine CallGE.by (awake_spec) ?_
            | refine CallGB.by (awake_spec) ?_
          simp -dsimp
          refine retP_c ?_
          simp -dsimp
        | true =>
          have hgt := (okV_mem hok).1
          have hvl : vs.take 14 = vs := List.take_of_length_le (by have := (okV_mem hok).2.2.1; omega)
          rw [trim_of hgt, hvl] at hRE
          have hrp := rproject_specE p vs hok
          rw [hRE] at hrp
          simp -dsimp
          first
            | refine CallG.by (hrp) ?_
            | refine CallGE.by (hrp) ?_
            | refine CallGB.by (hrp) ?_
          simp -dsimp
          first
            | refine CallG.by (same_spec R R) ?_
            | refine CallGE.by (same_spec R R) ?_
            | refine CallGB.by (same_spec R R) ?_
          simp -dsimp
          first
            | refine CallG.by (awake_spec) ?_
            | refine CallGE.by (awake_spec) ?_
            | refine CallGB.by (awake_spec) ?_
          simp -dsimp
          refine retP_c ?_
          simp -dsimp
      · have l3' : ¬ (vs.length : Int) ≤ 3 := by omega
        simp -dsimp [l1', l3']
        refine wk_loop (fun q : Nat × Bool => ⟨[(34, pI q.1), (33, pI vs.length), (32, .t .ro (eIs vs)), (7, pB q.2), (6, .t .ro (eI e)), (5, .ptr 5 0), (2, .ptr 2 0), (1, .t .ro (eIs vs))], [(5, .blk 48 [.t .ro (eI R.n), .t .ro (eIs R.rows)]), (2, .blk 25 [.t .ro (eI p.vars), .t .ro (eRls p.rels), .t .ro (eCns p.cons)])]⟩) (fun q => q.1 ≤ vs.length ∧ q.2 = (goodP p && decide (1 ≤ vs.length) && decide (vs.length ≤ 3) && (vs.take q.1).all (goodV p))) (fun q => vs.length - q.1) (0, false)
          (le_of (by simp) (by simp)) ⟨by simp, by simp [hg, l3]⟩ fun ⟨i, b⟩ ⟨hi, hb⟩ => ?_
        dsimp only at hi hb
        simp -dsimp
        refine condX_dec (fun h => ?_) (fun h => ?_)
        · have hw := wr (n := (i : Int) + 1) (by omega) (by omega)
          have hnx : (goodP p && decide (1 ≤ vs.length) && decide (vs.length ≤ 3) && (vs.take (i + 1)).all (goodV p)) = (b && goodV p vs[i]) := by
            rw [List.take_add_one, List.getElem?_eq_getElem h, List.all_append, ← Bool.and_assoc, ← hb]
            simp
          cases b with
          | false =>
            simp -dsimp [h, hw]
            exact LoopP_next (i + 1, false) (le_of (by simp) (by simp)) ⟨h, by simp only; rw [hnx]; rfl⟩ (by simp only; omega)
          | true =>
            by_cases c0 : 0 ≤ vs[i]
            · by_cases c1 : vs[i] < p.vars
              · simp -dsimp [h, hw, c0, c1]
                exact LoopP_next (i + 1, true) (le_of (by simp) (by simp)) ⟨h, by simp only; rw [hnx]; simp [goodV, c0, c1]⟩ (by simp only; omega)
              · simp -dsimp [h, hw, c0, c1]
                exact LoopP_next (i + 1, false) (le_of (by simp) (by simp)) ⟨h, by simp only; rw [hnx]; simp [goodV, c0, c1]⟩ (by simp only; omega)
            · simp -dsimp [h, hw, c0]
              exact LoopP_next (i + 1, false) (le_of (by simp) (by simp)) ⟨h, by simp only; rw [hnx]; simp [goodV, c0]⟩ (by simp only; omega)
        have hie : i = vs.length := by omega
        subst hie
        rw [List.take_length, ← okV] at hb
        subst hb
        cases hok : okV p vs with
        | false =>
          rw [projRE, ho, hok, if_neg (by simp)] at hRE
          cases hRE
          have hs := pcall_arg 1 (same_spec ⟨0, []⟩ ⟨0, []⟩) rfl agg_nil
          simp -dsimp
          first
            | refine CallG.by (hs) ?_
            | refine CallGE.by (hs) ?_
            | refine CallGB.by (hs) ?_
          simp -dsimp
          first
            | refine CallG.by (awake_spec) ?_
            | refine CallGE.by (awake_spec) ?_
            | refine CallGB.by (awake_spec) ?_
          simp -dsimp
          refine retP_c ?_
          simp -dsimp
        | true =>
          have hgt := (okV_mem hok).1
          have hvl : vs.take 14 = vs := List.take_of_length_le (by have := (okV_mem hok).2.2.1; omega)
          rw [trim_of hgt, hvl] at hRE
          have hrp := rproject_specE p vs hok
          rw [hRE] at hrp
          simp -dsimp
          first
            | refine CallG.by (hrp) ?_
            | refine CallGE.by (hrp) ?_
            | refine CallGB.by (hrp) ?_
          simp -dsimp
          first
            | refine CallG.by (same_spec R R) ?_
            | refine CallGE.by (same_spec R R) ?_
            | refine CallGB.by (same_spec R R) ?_
          simp -dsimp
          first
            | refine CallG.by (awake_spec) ?_
            | refine CallGE.by (awake_spec) ?_
            | refine CallGB.by (awake_spec) ?_
          simp -dsimp
          refine retP_c ?_
          simp -dsimp
    · have l1' : ¬ 1 ≤ (vs.length : Int) := by omega
      simp -dsimp [l1']
      refine wk_loop (fun q : Nat × Bool => ⟨[(34, pI q.1), (33, pI vs.length), (32, .t .ro (eIs vs)), (7, pB q.2), (6, .t .ro (eI e)), (5, .ptr 5 0), (2, .ptr 2 0), (1, .t .ro (eIs vs))], [(5, .blk 48 [.t .ro (eI R.n), .t .ro (eIs R.rows)]), (2, .blk 25 [.t .ro (eI p.vars), .t .ro (eRls p.rels), .t .ro (eCns p.cons)])]⟩) (fun q => q.1 ≤ vs.length ∧ q.2 = (goodP p && decide (1 ≤ vs.length) && decide (vs.length ≤ 3) && (vs.take q.1).all (goodV p))) (fun q => vs.length - q.1) (0, false)
        (le_of (by simp) (by simp)) ⟨by simp, by simp [hg, l1]⟩ fun ⟨i, b⟩ ⟨hi, hb⟩ => ?_
      dsimp only at hi hb
      simp -dsimp
      refine condX_dec (fun h => ?_) (fun h => ?_)
      · have hw := wr (n := (i : Int) + 1) (by omega) (by omega)
        have hnx : (goodP p && decide (1 ≤ vs.length) && decide (vs.length ≤ 3) && (vs.take (i + 1)).all (goodV p)) = (b && goodV p vs[i]) := by
          rw [List.take_add_one, List.getElem?_eq_getElem h, List.all_append, ← Bool.and_assoc, ← hb]
          simp
        cases b with
        | false =>
          simp -dsimp [h, hw]
          exact LoopP_next (i + 1, false) (le_of (by simp) (by simp)) ⟨h, by simp only; rw [hnx]; rfl⟩ (by simp only; omega)
        | true =>
          by_cases c0 : 0 ≤ vs[i]
          · by_cases c1 : vs[i] < p.vars
            · simp -dsimp [h, hw, c0, c1]
              exact LoopP_next (i + 1, true) (le_of (by simp) (by simp)) ⟨h, by simp only; rw [hnx]; simp [goodV, c0, c1]⟩ (by simp only; omega)
            · simp -dsimp [h, hw, c0, c1]
              exact LoopP_next (i + 1, false) (le_of (by simp) (by simp)) ⟨h, by simp only; rw [hnx]; simp [goodV, c0, c1]⟩ (by simp only; omega)
          · simp -dsimp [h, hw, c0]
            exact LoopP_next (i + 1, false) (le_of (by simp) (by simp)) ⟨h, by simp only; rw [hnx]; simp [goodV, c0]⟩ (by simp only; omega)
      have hie : i = vs.length := by omega
      subst hie
      rw [List.take_length, ← okV] at hb
      subst hb
      cases hok : okV p vs with
      | false =>
        rw [projRE, ho, hok, if_neg (by simp)] at hRE
        cases hRE
        have hs := pcall_arg 1 (same_spec ⟨0, []⟩ ⟨0, []⟩) rfl agg_nil
        simp -dsimp
        first
          | refine CallG.by (hs) ?_
          | refine CallGE.by (hs) ?_
          | refine CallGB.by (hs) ?_
        simp -dsimp
        first
          | refine CallG.by (awake_spec) ?_
          | refine CallGE.by (awake_spec) ?_
          | refine CallGB.by (awake_spec) ?_
        simp -dsimp
        refine retP_c ?_
        simp -dsimp
      | true =>
        have hgt := (okV_mem hok).1
        have hvl : vs.take 14 = vs := List.take_of_length_le (by have := (okV_mem hok).2.2.1; omega)
        rw [trim_of hgt, hvl] at hRE
        have hrp := rproject_specE p vs hok
        rw [hRE] at hrp
        simp -dsimp
        first
          | refine CallG.by (hrp) ?_
          | refine CallGE.by (hrp) ?_
          | refine CallGB.by (hrp) ?_
        simp -dsimp
        first
          | refine CallG.by (same_spec R R) ?_
          | refine CallGE.by (same_spec R R) ?_
          | refine CallGB.by (same_spec R R) ?_
        simp -dsimp
        first
          | refine CallG.by (awake_spec) ?_
          | refine CallGE.by (awake_spec) ?_
          | refine CallGB.by (awake_spec) ?_
        simp -dsimp
        refine retP_c ?_
        simp -dsimp
end Go.Proofs.Ytmneioafbkknhaa
