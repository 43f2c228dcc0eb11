import Derived.Test.YtmneioafbkknhaaPB6
/- PB7: validity of a puzzle, as the reference has it. -/
set_option linter.unusedVariables false
set_option linter.unusedSimpArgs false
set_option maxRecDepth 20000
namespace Go.Proofs.Ytmneioafbkknhaa
open Go Go.PS
theorem rvalid_spec (p : Pz) : PCall Try.prog 20 [ePz p] (pB (goodP p)) [] := by
  refine pcall_agg 0 1 rfl rfl call20 fun hlr => ?_
  refine pcall_agg 0 2 rfl rfl call20 fun hlc => ?_
  simp only [List.length_map] at hlr hlc
  refine pcall_wp _ Try.func20 rfl (by kernel_rfl) rfl ?_
  simp -dsimp
  refine condX_ndec (fun h1 => ?_) (fun h1 => ?_)
  rotate_left
  · have e : goodP p = false := by simp [goodP, Int.not_le.2 h1]
    simp -dsimp [h1]
    refine retP_c ?_
    simp -dsimp [e]
  have h1' : 1 ≤ p.vars := by omega
  simp -dsimp [h1]
  refine condX_ndec (fun h2 => ?_) (fun h2 => ?_)
  rotate_left
  · have e : goodP p = false := by simp [goodP, Int.not_le.2 h2]
    simp -dsimp [h2]
    refine retP_c ?_
    simp -dsimp [e]
  have h2' : p.vars ≤ 8 := by omega
  simp -dsimp [h2]
  refine condX_ndec (fun h3 => ?_) (fun h3 => ?_)
  rotate_left
  · have e : goodP p = false := by
      have : ¬ p.rels.length ≤ 5 := by omega
      simp [goodP, this]
    simp -dsimp [h3]
    refine retP_c ?_
    simp -dsimp [e]
  have h3' : p.rels.length ≤ 5 := by omega
  simp -dsimp [h3]
  refine condX_dec (fun h4 => ?_) (fun h4 => ?_)
  · have e : goodP p = false := by
      have : ¬ p.cons.length ≤ 12 := by omega
      simp [goodP, this]
    simp -dsimp [h4]
    refine retP_c ?_
    simp -dsimp [e]
  have h4' : p.cons.length ≤ 12 := by omega
  simp -dsimp [h4]
  have hG : goodP p = (p.rels.all goodR && p.cons.all (goodC p)) := by
    simp only [goodP, h1', h2', h3', h4', decide_true, Bool.true_and]
  refine wk_loop (fun i : Nat => ⟨[(32, pI i), (31, pI p.rels.length), (30, .t .ro (eRls p.rels)), (1, .ptr 1 0)],
     [(1, .blk 25 [PV.t Kind.ro (eI p.vars), PV.t Kind.ro (eRls p.rels), PV.t Kind.ro (eCns p.cons)])]⟩) (fun i => i ≤ p.rels.length ∧ p.rels.all goodR = (p.rels.drop i).all goodR) (fun i => p.rels.length - i) 0
    (le_of (by simp) (by simp)) (by simp) fun i ⟨hi, hx⟩ => ?_
  simp -dsimp
  refine condX_dec (fun h => ?_) (fun h => ?_)
  · have hw := wr (n := (i : Int) + 1) (by omega) (by omega)
    rw [List.drop_eq_getElem_cons h, List.all_cons] at hx
    simp -dsimp [h]
    first
      | refine CallG.by (rrel_spec p.rels[i]) ?_
      | refine CallGE.by (rrel_spec p.rels[i]) ?_
      | refine CallGB.by (rrel_spec p.rels[i]) ?_
    simp -dsimp [h]
    refine condX_of (fun hc => ?_) (fun hc => ?_)
    · simp only [Bool.not_eq_true'] at hc
      simp -dsimp [hc]
      rw [hc, Bool.false_and] at hx
      rw [hx, Bool.false_and] at hG
      refine retP_c ?_
      simp -dsimp [hG]
    · simp only [Bool.not_eq_false'] at hc
      simp -dsimp [hc, hw]
      refine LoopP_next (i + 1) (le_of (by simp) (by simp)) ⟨h, ?_⟩ (by omega)
      rw [hx, hc, Bool.true_and]
  have hi' : i = p.rels.length := by omega
  subst hi'
  have hr : p.rels.all goodR = true := by simpa using hx
  rw [hr, Bool.true_and] at hG
  clear h hx hi
  simp -dsimp
  refine wk_loop (fun i : Nat => ⟨[(43, pI i), (42, pI p.cons.length), (41, .t .ro (eCns p.cons)), (1, .ptr 1 0)],
     [(1, .blk 25 [PV.t Kind.ro (eI p.vars), PV.t Kind.ro (eRls p.rels), PV.t Kind.ro (eCns p.cons)])]⟩) (fun i => i ≤ p.cons.length ∧ p.cons.all (goodC p) = (p.cons.drop i).all (goodC p)) (fun i => p.cons.length - i) 0
    (le_of (by simp) (by simp)) (by simp) fun i ⟨hi, hx⟩ => ?_
  simp -dsimp
  refine condX_dec (fun h => ?_) (fun h => ?_)
  rotate_left
  · have hi' : i = p.cons.length := by omega
    subst hi'
    have hc : p.cons.all (goodC p) = true := by simpa using hx
    rw [hc] at hG
    simp -dsimp
    refine retP_c ?_
    simp -dsimp [hG]
  have hw := wr (n := (i : Int) + 1) (by omega) (by omega)
  rw [List.drop_eq_getElem_cons h, List.all_cons] at hx
  generalize hc : p.cons[i] = c at hx
  have fin : goodC p c = false → goodP p = false := fun e => by rw [hG, hx, e, Bool.false_and]
  simp -dsimp [h, hc]
  refine wk_draw 22 [8] mixed (by kernel_rfl) ?_
  simp -dsimp
  refine condX_ndec (fun c1 => ?_) (fun c1 => ?_)
  rotate_left
  · have e := fin (by simp [goodC, Int.not_le.2 c1])
    simp -dsimp [c1]
    refine retP_c ?_
    simp -dsimp [e]
  have c1' : 0 ≤ c.rel := by omega
  simp -dsimp [c1]
  refine condX_ndec (fun c2 => ?_) (fun c2 => ?_)
  rotate_left
  · have e := fin (by simp [goodC, Int.not_lt.2 c2])
    simp -dsimp [c2]
    refine retP_c ?_
    simp -dsimp [e]
  have c2' : c.rel < p.rels.length := by omega
  have c2'' : c.rel.toNat < p.rels.length := by omega
  have hrel : relOf p c = p.rels[c.rel.toNat] := by simp [relOf, c2'']
  simp -dsimp [c1', c2', c2, c2'']
  refine condX_of (fun c3 => ?_) (fun c3 => ?_)
  · have c3' : ¬ (c.vars.length : Int) = p.rels[c.rel.toNat].n := by simpa using c3
    have e := fin (by simp [goodC, hrel, c3'])
    simp -dsimp [c3]
    refine retP_c ?_
    simp -dsimp [e]
  have c3' : (c.vars.length : Int) = p.rels[c.rel.toNat].n := by simpa using c3
  have hgc : goodC p c = c.vars.all (goodV p) := by
    simp only [goodC, c1', c2', hrel, c3', decide_true, Bool.true_and]
  simp -dsimp [c3]
  have hlv : c.vars.length ≤ 3 := by
    have := List.all_eq_true.1 hr _ (List.getElem_mem c2'')
    simp only [goodR, Bool.and_eq_true, decide_eq_true_eq] at this
    omega
  refine wk_loop (fun j : Nat => ⟨[(74, pI j), (73, pI c.vars.length), (72, .t .ro (eIs c.vars)), (43, pI i), (42, pI p.cons.length), (41, .t .ro (eCns p.cons)), (1, .ptr 1 0)],
     [(1, .blk 25 [PV.t Kind.ro (eI p.vars), PV.t Kind.ro (eRls p.rels), PV.t Kind.ro (eCns p.cons)])]⟩) (fun j => j ≤ c.vars.length ∧ c.vars.all (goodV p) = (c.vars.drop j).all (goodV p)) (fun j => c.vars.length - j) 0
    (le_of (by simp) (by simp)) (by simp) fun j ⟨hj, hy⟩ => ?_
  simp -dsimp
  refine condX_dec (fun h' => ?_) (fun h' => ?_)
  · have hw' := wr (n := (j : Int) + 1) (by omega) (by omega)
    rw [List.drop_eq_getElem_cons h', List.all_cons] at hy
    have fin2 : goodV p c.vars[j] = false → goodP p = false := fun e => fin (by rw [hgc, hy, e, Bool.false_and])
    simp only [goodV] at fin2
    simp -dsimp [h']
    refine condX_ndec (fun d1 => ?_) (fun d1 => ?_)
    rotate_left
    · have e := fin2 (by simp [Int.not_le.2 d1])
      simp -dsimp [d1]
      refine retP_c ?_
      simp -dsimp [e]
    simp -dsimp [d1]
    refine condX_dec (fun d2 => ?_) (fun d2 => ?_)
    · have e := fin2 (by simp [Int.not_lt.2 d2])
      simp -dsimp [d2]
      refine retP_c ?_
      simp -dsimp [e]
    simp -dsimp [d2, hw']
    refine LoopP_next (j + 1) (le_of (by simp) (by simp)) ⟨h', ?_⟩ (by omega)
    rw [hy, goodV, decide_eq_true (Int.not_lt.1 d1), decide_eq_true (Int.not_le.1 d2), Bool.true_and, Bool.true_and]
  · have hj' : j = c.vars.length := by omega
    subst hj'
    have hy' : c.vars.all (goodV p) = true := by simpa using hy
    simp -dsimp [hw]
    refine LoopP_next (i + 1) (le_of (by simp) (by simp)) ⟨h, ?_⟩ (by omega)
    rw [hx, hgc, hy', Bool.true_and]
end Go.Proofs.Ytmneioafbkknhaa
