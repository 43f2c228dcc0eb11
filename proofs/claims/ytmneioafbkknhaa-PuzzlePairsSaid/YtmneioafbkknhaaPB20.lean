import Derived.Test.YtmneioafbkknhaaPB19
/- PB20: Keeps, Broken, Class, on both sides. -/
set_option linter.unusedVariables false
set_option linter.unusedSimpArgs false
set_option maxRecDepth 20000
namespace Go.Proofs.Ytmneioafbkknhaa
open Go Go.PS
attribute [-simp] List.map_take
def rBrF (r : Rl) (op : Nat) : TL := match brokenF r op with
  | some x => .tup [eIs x, eI 0]
  | none => .tup [.v (.slice none 0 0), eI 4]
theorem rBroken_spec (r : Rl) (op : Nat) (hop : op ≤ 5) (hn : 0 ≤ r.n) (hrl : r.rows.length ≤ 8) : PCall Try.prog 35 [eRl r, eI op] (.t .ro (rBrF r op)) [] := by
  refine pcall_wpT Try.func35 rfl (by kernel_rfl) ?_
  simp -dsimp
  have hb := rbroken_spec r op hop hn hrl (arity op) [] (by simp)
  have hb' : PCall Try.prog 68 [eRl r, eI op, .v (.slice none 0 0)] (.t .ro (rbT r op (arity op) [])) [] := pcall_arg 2 hb rfl nil_any'
  have hR : rbT r op (arity op) [] = match brokenF r op with
    | some x => .tup [eIs x, eB true]
    | none => .tup [eIs (if arity op = 0 then [] else []), eB false] := rfl
  have hF : rBrF r op = match brokenF r op with
    | some x => .tup [eIs x, eI 0]
    | none => .tup [.v (.slice none 0 0), eI 4] := rfl
  rw [hR] at hb'
  generalize rBrF r op = y at hF
  generalize brokenF r op = o at hb' hF
  first
    | refine CallG.by (hb') ?_
    | refine CallGE.by (hb') ?_
    | refine CallGB.by (hb') ?_
  cases o with
  | some x =>
    simp -dsimp
    refine retT_c ?_
    simp -dsimp [hF]
  | none =>
    simp -dsimp
    refine retT_c ?_
    simp -dsimp [hF]
theorem rKeeps_spec (r : Rl) (op : Nat) (hop : op ≤ 5) (hn : 0 ≤ r.n) (hrl : r.rows.length ≤ 8) : PCall Try.prog 36 [eRl r, eI op] (pB (brokenF r op).isNone) [] := by
  refine pcall_wp _ Try.func36 rfl (by kernel_rfl) rfl ?_
  simp -dsimp
  first
    | refine CallG.by (rBroken_spec r op hop hn hrl) ?_
    | refine CallGE.by (rBroken_spec r op hop hn hrl) ?_
    | refine CallGB.by (rBroken_spec r op hop hn hrl) ?_
  unfold rBrF
  cases brokenF r op with
  | some x =>
    simp -dsimp
    refine retP_c ?_
    simp -dsimp
  | none =>
    simp -dsimp
    refine retP_c ?_
    simp -dsimp
theorem goodR_n {r : Rl} (h : goodR r = true) : 0 ≤ r.n := by
  simp only [goodR, Bool.and_eq_true, decide_eq_true_eq] at h
  omega
def okOp (r : Rl) (op : Int) : Bool := goodR r && decide (0 ≤ op) && decide (op ≤ 5)
def keepF (r : Rl) (op : Int) : TL := if okOp r op then .tup [eB (brokenF r op.toNat).isNone, eI 0] else .tup [eB false, eI 2]
def brokF (r : Rl) (op : Int) : TL := if okOp r op then (match brokenF r op.toNat with
  | some x => .tup [eIs x, eI 0]
  | none => .tup [.v (.slice none 0 0), eI 4]) else .tup [.v (.slice none 0 0), eI 2]
theorem keeps_spec (r : Rl) (op : Int) : PCall Try.prog 31 [eRl r, eI op] (.t .fz (keepF r op)) [] := by
  refine pcall_wp _ Try.func31 rfl (by kernel_rfl) rfl ?_
  simp -dsimp
  first
    | refine CallG.by (prel_spec r) ?_
    | refine CallGE.by (prel_spec r) ?_
    | refine CallGB.by (prel_spec r) ?_
  cases hv : goodR r with
  | false =>
    simp -dsimp
    refine retP_c ?_
    simp -dsimp [keepF, okOp, hv]
  | true =>
    by_cases h0 : op < 0
    · have h1 : ¬ 0 ≤ op := by omega
      simp -dsimp [h0]
      refine retP_c ?_
      simp -dsimp [keepF, okOp, hv, h1]
    · by_cases h5 : 5 < op
      · have h1 : ¬ op ≤ 5 := by omega
        simp -dsimp [h0, h5]
        refine retP_c ?_
        simp -dsimp [keepF, okOp, hv, h1]
      · obtain ⟨k, rfl⟩ : ∃ k : Nat, op = k := ⟨op.toNat, by omega⟩
        have h1 : k ≤ 5 := by omega
        have h2 : (k : Int) ≤ 5 := by omega
        simp -dsimp [h0, h5]
        first
          | refine CallG.by (broken_spec r k h1 (goodR_n hv) (goodR_len hv)) ?_
          | refine CallGE.by (broken_spec r k h1 (goodR_n hv) (goodR_len hv)) ?_
          | refine CallGB.by (broken_spec r k h1 (goodR_n hv) (goodR_len hv)) ?_
        cases hb : brokenF r k with
        | some x =>
          simp -dsimp
          refine retP_c ?_
          simp -dsimp [keepF, okOp, hv, h2, hb]
        | none =>
          simp -dsimp
          refine retP_c ?_
          simp -dsimp [keepF, okOp, hv, h2, hb]
theorem pbroken_spec (r : Rl) (op : Int) : PCall Try.prog 33 [eRl r, eI op] (.t .fz (brokF r op)) [] := by
  refine pcall_wp _ Try.func33 rfl (by kernel_rfl) rfl ?_
  simp -dsimp
  first
    | refine CallG.by (prel_spec r) ?_
    | refine CallGE.by (prel_spec r) ?_
    | refine CallGB.by (prel_spec r) ?_
  cases hv : goodR r with
  | false =>
    simp -dsimp
    refine retP_c ?_
    simp -dsimp [brokF, okOp, hv]
  | true =>
    by_cases h0 : op < 0
    · have h1 : ¬ 0 ≤ op := by omega
      simp -dsimp [h0]
      refine retP_c ?_
      simp -dsimp [brokF, okOp, hv, h1]
    · by_cases h5 : 5 < op
      · have h1 : ¬ op ≤ 5 := by omega
        simp -dsimp [h0, h5]
        refine retP_c ?_
        simp -dsimp [brokF, okOp, hv, h1]
      · obtain ⟨k, rfl⟩ : ∃ k : Nat, op = k := ⟨op.toNat, by omega⟩
        have h1 : k ≤ 5 := by omega
        have h2 : (k : Int) ≤ 5 := by omega
        simp -dsimp [h0, h5]
        first
          | refine CallG.by (broken_spec r k h1 (goodR_n hv) (goodR_len hv)) ?_
          | refine CallGE.by (broken_spec r k h1 (goodR_n hv) (goodR_len hv)) ?_
          | refine CallGB.by (broken_spec r k h1 (goodR_n hv) (goodR_len hv)) ?_
        cases hb : brokenF r k with
        | some x =>
          simp -dsimp
          refine retP_c ?_
          simp -dsimp [brokF, okOp, hv, h2, hb]
        | none =>
          simp -dsimp
          refine retP_c ?_
          simp -dsimp [brokF, okOp, hv, h2, hb]
/-- Does an operation keep the Rel of a Cons? -/
def keepC (p : Pz) (op : Nat) (c : Cn) : Bool := (brokenF (relOf p c) op).isNone
def classS (p : Pz) (out : Int) (op : Nat) : Int := if p.cons.all (keepC p op) then orI out (shlI 1 op) else out
def classF (p : Pz) (k : Nat) : Int := (List.range k).foldl (classS p) 0
theorem classF_succ (p : Pz) (k : Nat) : classF p (k + 1) = classS p (classF p k) k := by simp [classF, List.range_succ, List.foldl_append]
theorem relOf_good {p : Pz} (hr : p.rels.all goodR = true) {c : Cn} (hc : okC p c) : goodR (relOf p c) = true := by
  have h1 := List.all_eq_true.1 hr _ (List.getElem_mem hc.2.1)
  have hlt : c.rel.toNat < p.rels.length := hc.2.1
  have h2 : relOf p c = p.rels[c.rel.toNat] := by simp [relOf, hlt]
  rw [h2]
  exact h1
theorem class1_spec (p : Pz) (op : Nat) (hop : op ≤ 5) (hr : p.rels.all goodR = true) (c : Cn) (hc : okC p c) : PCall Try.prog 64 [eCn c, .rp [eI p.vars, eRls p.rels, eCns p.cons] 0, .rp [eI op] 0] (pB (!keepC p op c)) [] := by
  have hg := relOf_good hr hc
  have h1 := hc.1
  have h2 : c.rel < p.rels.length := by have := hc.2.1; omega
  have hlt : c.rel.toNat < p.rels.length := hc.2.1
  have hR : relOf p c = p.rels[c.rel.toNat] := by simp [relOf, hlt]
  have hb := broken_spec (relOf p c) op hop (goodR_n hg) (goodR_len hg)
  unfold keepC
  generalize brokenF (relOf p c) op = o at hb
  rw [hR] at hb
  refine pcall_wp _ Try.func64 rfl (by kernel_rfl) rfl ?_
  simp -dsimp
  refine wk_draw 12 [7] mixed (by kernel_rfl) ?_
  simp -dsimp [h1, h2]
  first
    | refine CallG.by (hb) ?_
    | refine CallGE.by (hb) ?_
    | refine CallGB.by (hb) ?_
  cases o with
  | some x =>
    simp -dsimp
    refine retP_c ?_
    simp -dsimp
  | none =>
    simp -dsimp
    refine retP_c ?_
    simp -dsimp
def clsT (p : Pz) : TL := if goodP p then .tup [eI (classF p 6), eI 0] else .tup [eI 0, eI 2]
theorem class_spec (p : Pz) : PCall Try.prog 24 [ePz p] (.t .fz (clsT p)) [] := by
  refine pcall_wp _ Try.func24 rfl (by kernel_rfl) rfl ?_
  simp -dsimp
  first
    | refine CallG.by (pvalid_spec p) ?_
    | refine CallGE.by (pvalid_spec p) ?_
    | refine CallGB.by (pvalid_spec p) ?_
  simp -dsimp
  refine condX_of (fun hv => ?_) (fun hv => ?_)
  · simp only [Bool.not_eq_true'] at hv
    simp -dsimp
    refine retP_c ?_
    simp -dsimp [clsT, hv]
  simp only [Bool.not_eq_false'] at hv
  have hg := hv
  simp only [goodP, Bool.and_eq_true, decide_eq_true_eq] at hg
  obtain ⟨⟨⟨⟨⟨g1, g2⟩, g3⟩, g4⟩, g5⟩, g6⟩ := hg
  have hok := okC_of g6
  simp -dsimp
  refine wk_loop (fun k : Nat => ⟨[(9, pI k), (4, pI (classF p k)), (1, .ptr 1 0)], [(1, .blk 32 [.t .ro (eI p.vars), .t .ro (eRls p.rels), .t .ro (eCns p.cons)])]⟩)
    (fun k => k ≤ 6) (fun k => 6 - k) 0 (le_of (by simp [classF]) (by simp)) (by omega) fun k hk => ?_
  simp -dsimp
  refine condX_dec (fun h => ?_) (fun h => ?_)
  rotate_left
  · have e : k = 6 := by omega
    subst e
    simp -dsimp
    refine retP_c ?_
    simp -dsimp [clsT, hv]
  have hw := wr (n := (k : Int) + 1) (by omega) (by omega)
  simp -dsimp
  first
    | refine CallG.by (anyCn_spec p.cons 64 [.rp [eI p.vars, eRls p.rels, eCns p.cons] 0, .rp [eI k] 0] (fun c => !keepC p k c) (fun c hc => class1_spec p k (by omega) g5 c (hok c hc))) ?_
    | refine CallGE.by (anyCn_spec p.cons 64 [.rp [eI p.vars, eRls p.rels, eCns p.cons] 0, .rp [eI k] 0] (fun c => !keepC p k c) (fun c hc => class1_spec p k (by omega) g5 c (hok c hc))) ?_
    | refine CallGB.by (anyCn_spec p.cons 64 [.rp [eI p.vars, eRls p.rels, eCns p.cons] 0, .rp [eI k] 0] (fun c => !keepC p k c) (fun c hc => class1_spec p k (by omega) g5 c (hok c hc))) ?_
  have hcs := classF_succ p k
  have ha : (p.cons.any fun c => !keepC p k c) = !p.cons.all (keepC p k) := by rw [List.not_all_eq_any_not]
  rw [classS] at hcs
  rw [ha]
  cases hk2 : p.cons.all (keepC p k) with
  | true =>
    rw [hk2, if_pos rfl] at hcs
    simp -dsimp [hw]
    exact LoopP_next (k + 1) (le_of (by simp [hcs]) (by simp)) (by omega) (by omega)
  | false =>
    rw [hk2, if_neg (by simp)] at hcs
    simp -dsimp [hw]
    exact LoopP_next (k + 1) (le_of (by simp [hcs]) (by simp)) (by omega) (by omega)
theorem rclass_spec (p : Pz) (hv : goodP p = true) : PCall Try.prog 28 [ePz p] (pI (classF p 6)) [] := by
  have hg := hv
  simp only [goodP, Bool.and_eq_true, decide_eq_true_eq] at hg
  obtain ⟨⟨⟨⟨⟨g1, g2⟩, g3⟩, g4⟩, g5⟩, g6⟩ := hg
  have hok := okC_of g6
  refine pcall_wp _ Try.func28 rfl (by kernel_rfl) rfl ?_
  simp -dsimp
  refine wk_loop (fun k : Nat => ⟨[(8, pI k), (3, pI (classF p k)), (1, .ptr 1 0)], [(1, .blk 25 [.t .ro (eI p.vars), .t .ro (eRls p.rels), .t .ro (eCns p.cons)])]⟩)
    (fun k => k ≤ 6) (fun k => 6 - k) 0 (le_of (by simp [classF]) (by simp)) (by omega) fun k hk => ?_
  simp -dsimp
  refine condX_dec (fun h => ?_) (fun h => ?_)
  rotate_left
  · have e : k = 6 := by omega
    subst e
    simp -dsimp
    refine retP_c ?_
    simp -dsimp
  have hw := wr (n := (k : Int) + 1) (by omega) (by omega)
  simp -dsimp
  refine wk_loop (fun q : Nat × Bool => ⟨[(14, pI q.1), (13, pI p.cons.length), (12, .t .ro (eCns p.cons)), (5, pB q.2), (4, pI k), (8, pI k), (3, pI (classF p k)), (1, .ptr 1 0)], [(1, .blk 25 [.t .ro (eI p.vars), .t .ro (eRls p.rels), .t .ro (eCns p.cons)])]⟩)
    (fun q => q.1 ≤ p.cons.length ∧ p.cons.all (keepC p k) = (q.2 && (p.cons.drop q.1).all (keepC p k))) (fun q => p.cons.length - q.1) (0, true) (le_of (by simp) (by simp)) (by simp) fun ⟨i, b⟩ ⟨hi, hb⟩ => ?_
  dsimp only at hi hb
  simp -dsimp
  refine condX_dec (fun h1 => ?_) (fun h1 => ?_)
  rotate_left
  · have e : i = p.cons.length := by omega
    subst e
    rw [List.drop_length, List.all_nil, Bool.and_true] at hb
    have hcs := classF_succ p k
    rw [classS, hb] at hcs
    cases b with
    | true =>
      rw [if_pos rfl] at hcs
      simp -dsimp [hw]
      exact LoopP_next (k + 1) (le_of (by simp [hcs]) (by simp)) (by omega) (by omega)
    | false =>
      rw [if_neg (by simp)] at hcs
      simp -dsimp [hw]
      exact LoopP_next (k + 1) (le_of (by simp [hcs]) (by simp)) (by omega) (by omega)
  have hw1 := wr (n := (i : Int) + 1) (by omega) (by omega)
  rw [List.drop_eq_getElem_cons h1, List.all_cons] at hb
  cases b with
  | false =>
    simp -dsimp [h1, hw1]
    exact LoopP_next (i + 1, false) (le_of (by simp) (by simp)) ⟨h1, by rw [hb]; rfl⟩ (by simp only; omega)
  | true =>
    have hc := hok p.cons[i] (List.getElem_mem h1)
    have hlt : p.cons[i].rel.toNat < p.rels.length := hc.2.1
    have hc0 : 0 ≤ p.cons[i].rel := hc.1
    have hc2 : p.cons[i].rel < p.rels.length := by omega
    have hR : relOf p p.cons[i] = p.rels[p.cons[i].rel.toNat] := by simp [relOf, hlt]
    have hg := relOf_good g5 hc
    have hbk := rKeeps_spec (relOf p p.cons[i]) k (by omega) (goodR_n hg) (goodR_len hg)
    change PCall _ _ _ (pB (keepC p k p.cons[i])) _ at hbk
    rw [hR] at hbk
    simp -dsimp [h1, hc0, hc2]
    first
      | refine CallG.by (hbk) ?_
      | refine CallGE.by (hbk) ?_
      | refine CallGB.by (hbk) ?_
    simp -dsimp [hw1]
    exact LoopP_next (i + 1, keepC p k p.cons[i]) (le_of (by simp) (by simp)) ⟨h1, by rw [hb]; rfl⟩ (by simp only; omega)
end Go.Proofs.Ytmneioafbkknhaa
