import Derived.Test.YtmneioafbkknhaaPB37
/- PB38: rows, with the closure of Narrow; Narrow of the program. -/
set_option linter.unusedVariables false
set_option linter.unusedSimpArgs false
set_option maxRecDepth 20000
namespace Go.Proofs.Ytmneioafbkknhaa
open Go Go.PS
attribute [-simp] List.map_take
@[simp] def nM0 (D : List Int) (l : List (Int × Int)) : List (Nat × Res) :=
  [(1000000, .blk 37 [.osl 1000001]), (1000001, .row 3 1 .ro (D.map cI)), (1000002, .blk 100 [.omp 1000003]), (1000003, .tab .ro (mI l))]
theorem vals_good {c : Cn} {r : Int} {x : List (Int × Int)} {n : Nat} (hr : InN 3 r) (hc : c.vars.length ≤ 3) (hv : ∀ v ∈ c.vars, 0 ≤ v ∧ v < n) (h : valsF r c.vars 0 [] = some x) : goodX n x := by
  have := valsF_law r c.vars c.vars 0 [] rfl (by omega) ⟨by simp, fun j hj => by omega, fun v y h => by simp at h⟩
  rw [h] at this
  refine ⟨this.nd, fun p hp => ?_⟩
  obtain ⟨i, hi, rfl⟩ := List.getElem_of_mem hp
  have hlk := lookup_of this.nd (i := i) (q := x[i]) (by simp)
  obtain ⟨j, hj, h1, h3⟩ := this.from_ _ _ hlk
  rw [getD_mem hj] at h1
  have := hv _ (List.getElem_mem hj)
  rw [h1] at this
  refine ⟨this.1, this.2, ?_⟩
  rw [h3, rbI_eq hr (by omega)]
  cases bt r j <;> simp
theorem prows_spec (p : Pz) (c : Cn) (D : List Int) (l : List (Int × Int)) (h0 : 0 ≤ c.rel) (h1 : c.rel.toNat < p.rels.length) (hR : ∀ r ∈ (relOf p c).rows, InN 3 r) (hlr : (relOf p c).rows.length ≤ 8) (hc : c.vars.length ≤ 3) (hv : ∀ v ∈ c.vars, 0 ≤ v ∧ v < D.length) :
    ECallP Try.prog 69 [.agg [pI p.vars, .t .ro (eRls p.rels), .t .ro (eCns p.cons)], .agg [pI c.rel, .t .ro (eIs c.vars)], .clo 77 [.ptr 1000000 0, .ptr 1000002 0]] (nM0 D l) fun r M' => r = .tup [] ∧ ∃ l', M' = nM0 D l' ∧ ∀ v, getL l' v = ((relOf p c).rows.foldl (leftS D c) (getL l)) v := by
  refine ecallP_wp Try.func69 rfl (by kernel_rfl) ?_
  have hrel : relOf p c = p.rels[c.rel.toNat] := by simp [relOf, h1]
  rw [hrel] at hR hlr ⊢
  have h1' : c.rel < (p.rels.length : Int) := by omega
  simp -dsimp [h0, h1, h1']
  generalize p.rels[c.rel.toNat] = rr at *
  refine wk_loop (fun q : Nat × List (Int × Int) => ⟨[(18, pI q.1), (17, pI rr.rows.length), (16, .t .ro (eIs rr.rows)), (2, .clo 77 [.ptr 1000000 0, .ptr 1000002 0]), (4, .ptr 4 0)], (4, .blk 39 [pI c.rel, .t .ro (eIs c.vars)]) :: nM0 D q.2⟩)
    (fun q => q.1 ≤ rr.rows.length ∧ ∀ v, getL q.2 v = ((rr.rows.take q.1).foldl (leftS D c) (getL l)) v) (fun q => rr.rows.length - q.1) (0, l) (le_of (by simp) (by simp)) ⟨by simp, by simp⟩ fun ⟨i, l1⟩ ⟨hi, hJ⟩ => ?_
  dsimp only at hi hJ
  simp -dsimp
  refine condX_dec (fun h => ?_) (fun h => ?_)
  rotate_left
  · have e : i = rr.rows.length := by omega
    subst e
    rw [List.take_length] at hJ
    simp -dsimp
    refine retEP_c (.tup []) (nM0 D l1) ⟨rfl, l1, rfl, hJ⟩ (by simp) (by simp)
  have hw := wr (n := (i : Int) + 1) (by omega) (by omega)
  have hri := hR _ (List.getElem_mem h)
  have hnx : ∀ g, (rr.rows.take (i + 1)).foldl (leftS D c) g = leftS D c ((rr.rows.take i).foldl (leftS D c) g) rr.rows[i] := by
    intro g
    rw [List.take_add_one, List.getElem?_eq_getElem h, List.foldl_append]
    rfl
  simp -dsimp [h]
  cases hval : valsF rr.rows[i] c.vars 0 [] with
  | none =>
    first
      | refine CallG.by (values_spec c rr.rows[i] none hval) ?_
      | refine CallGE.by (values_spec c rr.rows[i] none hval) ?_
      | refine CallGB.by (values_spec c rr.rows[i] none hval) ?_
    simp -dsimp [hw, valsM, valsR]
    refine LoopP_next (i + 1, l1) (le_of (by simp) (by simp)) ⟨h, fun v => ?_⟩ (by simp only; omega)
    dsimp only
    rw [hnx, leftS, hval]
    exact hJ v
  | some x =>
    have hgx := vals_good hri hc hv hval
    first
      | refine CallG.by (values_spec c rr.rows[i] (some x) hval) ?_
      | refine CallGE.by (values_spec c rr.rows[i] (some x) hval) ?_
      | refine CallGB.by (values_spec c rr.rows[i] (some x) hval) ?_
    simp -dsimp [valsM, valsR]
    first
      | refine CallG.onP (g := [(1000000, 1000000), (1000001, 1000001), (1000002, 1000002), (1000003, 1000003), (25, 1000010)]) (narrow1_spec D l1 x hgx) (by decide) (by simp) (by simp) (by simp [Sg.bk]) fun r M' hP => ?_
      | refine CallN.onP (g := [(1000000, 1000000), (1000001, 1000001), (1000002, 1000002), (1000003, 1000003), (25, 1000010)]) (narrow1_spec D l1 x hgx) (by decide) (by simp) (by simp) (by simp [Sg.bk]) fun r M' hP => ?_
    obtain ⟨rfl, l', rfl, hl'⟩ := hP
    simp -dsimp [hw]
    refine LoopP_next (i + 1, l') (le_of (by simp) (by simp)) ⟨h, fun v => ?_⟩ (by simp only; omega)
    dsimp only
    rw [hnx, leftS, hval]
    simp only
    rw [hl' v]
    split
    · rw [addX, leftS.addX']
      cases x.lookup v with
      | none => exact hJ v
      | some y => simp only [hJ v]
    · exact hJ v
def narT (D : List Int) : TL := if (0 : Int) ∈ D then .tup [.v (.slice none 0 0), eI 4] else .tup [eIs D, eI 0]
theorem sub_trans {E D D' : List Int} (h : subD E D) (h' : subD D D') : subD E D' := fun v a ha => h' v a (h v a ha)
/-- What a round of Narrow keeps. -/
structure NarI (p : Pz) (D : List Int) : Prop where
  dom : domP p D
  sup : ∀ E, domP p E → closedP p E → subD E D
theorem narI_start (p : Pz) (n : Nat) (hn : p.vars = n) : NarI p (List.replicate n 3) := by
  have h1 : domP p (List.replicate n 3) := ⟨by simp [hn], fun x hx => by rw [List.eq_of_mem_replicate hx]; exact ⟨3, rfl, by decide⟩⟩
  refine ⟨h1, fun E hE _ v a ha => ?_⟩
  by_cases hv : v.toNat < n
  · have h2 : (List.replicate n (3 : Int)).getD v.toNat 0 = 3 := by
      rw [getD_mem (by simpa using hv)]
      simp
    rw [dv, h2]
    cases a <;> decide
  · have : E.length = n := by rw [hE.1, hn]; rfl
    rw [dv, List.getD_eq_getElem?_getD, List.getElem?_eq_none (by omega)] at ha
    simp [bt] at ha
/-- A variable's domain is cut to what some row leaves. -/
theorem narI_cut {p : Pz} {D D' : List Int} {c : Cn} (hD : NarI p D) (hD' : NarI p D') (hc : c ∈ p.cons) {i : Nat} (hi : i < c.vars.length) (hv0 : 0 ≤ vAt c i) (hvl : (vAt c i).toNat < D'.length) {L : Int} (hL2 : InN 2 L) (hL : ∀ a : Bool, bt L a.toNat = supF (relOf p c).rows c D i a) :
    InN 2 (andI (D'[(vAt c i).toNat]) L) ∧ NarI p (D'.set (vAt c i).toNat (andI (D'[(vAt c i).toNat]) L)) ∧ (andI (D'[(vAt c i).toNat]) L ≠ D'[(vAt c i).toNat] → sizeD (D'.set (vAt c i).toNat (andI (D'[(vAt c i).toNat]) L)) < sizeD D') ∧
      (andI (D'[(vAt c i).toNat]) L = D'[(vAt c i).toNat] → ∀ a, dv D' (vAt c i) a = true → bt L a.toNat = true) := by
  have hx2 : InN 2 D'[(vAt c i).toNat] := hD'.dom.2 _ (List.getElem_mem hvl)
  have hy2 := inN_and (by omega) hx2 hL2
  have hbit : ∀ a : Bool, bt (andI (D'[(vAt c i).toNat]) L) a.toNat = (bt D'[(vAt c i).toNat] a.toNat && bt L a.toNat) := fun a => bt_and (by omega) hx2 hL2 _
  have hdv : ∀ a, dv D' (vAt c i) a = bt D'[(vAt c i).toNat] a.toNat := fun a => by rw [dv, getD_mem hvl]
  refine ⟨hy2, ⟨⟨by rw [List.length_set]; exact hD'.dom.1, fun x hx => ?_⟩, fun E hE hEc v a ha => ?_⟩, fun hne => sizeD_set hvl hD'.dom.2 hy2 (fun a ha => by rw [hbit, Bool.and_eq_true] at ha; exact ha.1) hne, fun he a ha => ?_⟩
  · rcases List.mem_or_eq_of_mem_set hx with h | h
    · exact hD'.dom.2 x h
    · rw [h]
      exact hy2
  · have h1 := hD'.sup E hE hEc v a ha
    by_cases hv : 0 ≤ v
    · rw [dv_set hv0 hvl _ _ hv]
      by_cases e : v = vAt c i
      · subst e
        rw [if_pos rfl, hbit, ← hdv, h1, hL]
        exact supF_mono (hD.sup E hE hEc) (hEc c hc i hi a ha)
      · rw [if_neg e]
        exact h1
    · have h2 : ∀ F, dv F v a = dv F 0 a := fun F => by rw [dv, dv, show v.toNat = (0 : Int).toNat by omega]
      rw [h2] at h1 ⊢
      rw [dv_set hv0 hvl _ _ (by omega)]
      by_cases e : 0 = vAt c i
      · rw [if_pos e, hbit, ← hdv, ← e, h1, hL]
        rw [h2] at ha
        rw [e] at ha
        exact supF_mono (hD.sup E hE hEc) (hEc c hc i hi a ha)
      · rw [if_neg e]
        exact h1
  · have := hbit a
    rw [he, ← hdv, ha] at this
    simpa using this.symm
theorem pnarrow_spec (p : Pz) (hg : goodP p = true) (N : List Int) (hN : NarrowLaw p N) : PCall Try.prog 41 [ePz p] (.t .ro (narT N)) [] := by
  have hv := hg
  simp only [goodP, Bool.and_eq_true, decide_eq_true_eq] at hv
  obtain ⟨⟨⟨⟨⟨g1, g2⟩, g3⟩, g4⟩, g5⟩, g6⟩ := hv
  have hok := okC_of g6
  obtain ⟨n, hn⟩ : ∃ n : Nat, p.vars = n := ⟨p.vars.toNat, by omega⟩
  refine pcall_wpT Try.func41 rfl (by kernel_rfl) ?_
  simp -dsimp
  first
    | refine CallG.by (pvalid_spec p) ?_
    | refine CallGE.by (pvalid_spec p) ?_
    | refine CallGB.by (pvalid_spec p) ?_
  simp -dsimp [hg]
  have hrf := repeat_fz 3 n (by omega) (by omega)
  rw [← hn] at hrf
  first
    | refine CallG.by (hrf) ?_
    | refine CallGE.by (hrf) ?_
    | refine CallGB.by (hrf) ?_
  simp -dsimp
  refine wk_loop (fun q : List Int × Bool × Kind => ⟨[(5, pB q.2.1), (4, .ptr 4 0), (1, .ptr 1 0)], [(4, .blk 37 [.osl 18]), (18, .row 3 1 q.2.2 (q.1.map cI)), (1, .blk 32 [.t .ro (eI p.vars), .t .ro (eRls p.rels), .t .ro (eCns p.cons)])]⟩)
    (fun q => NarI p q.1 ∧ (q.2.1 = false → closedP p q.1)) (fun q => 2 * sizeD q.1 + q.2.1.toNat) (List.replicate n 3, true, .fz) (le_of (by simp) (by simp)) ⟨narI_start p n hn, by simp⟩ fun ⟨D0, again, k0⟩ ⟨hD0, hcl⟩ => ?_
  dsimp only at hD0 hcl
  cases again with
  | false =>
    have hDN : D0 = N := narrow_unique ⟨hD0.dom, hcl rfl, hD0.sup⟩ hN
    subst hDN
    simp -dsimp
    first
      | refine CallG.by (contains_spec D0 0) ?_
      | refine CallGE.by (contains_spec D0 0) ?_
      | refine CallGB.by (contains_spec D0 0) ?_
    by_cases h0 : (0 : Int) ∈ D0
    · simp -dsimp [h0]
      refine retT_c ?_
      simp -dsimp [narT, h0]
    · simp -dsimp [h0]
      refine retT_c ?_
      simp -dsimp [narT, h0]
  | true =>
    simp -dsimp
    refine wk_loop (fun q : Nat × List Int × Bool × Kind => ⟨[(23, pI q.1), (22, pI p.cons.length), (21, .t .ro (eCns p.cons)), (5, pB q.2.2.1), (4, .ptr 4 0), (1, .ptr 1 0)], [(4, .blk 37 [.osl 18]), (18, .row 3 1 q.2.2.2 (q.2.1.map cI)), (1, .blk 32 [.t .ro (eI p.vars), .t .ro (eRls p.rels), .t .ro (eCns p.cons)])]⟩)
      (fun q => q.1 ≤ p.cons.length ∧ NarI p q.2.1 ∧ sizeD q.2.1 ≤ sizeD D0 ∧ (q.2.2.1 = true → sizeD q.2.1 < sizeD D0) ∧ (q.2.2.1 = false → ∀ c ∈ p.cons.take q.1, closedC (relOf p c).rows c q.2.1)) (fun q => p.cons.length - q.1) (0, D0, false, k0)
      (le_of (by simp) (by simp)) ⟨by simp, hD0, Nat.le_refl _, by simp, by simp⟩ fun ⟨ci, D, again, k⟩ ⟨hi, hD, hsz, hlt, hclo⟩ => ?_
    dsimp only at hi hD hsz hlt hclo
    simp -dsimp
    refine condX_dec (fun h => ?_) (fun h => ?_)
    rotate_left
    · have e : ci = p.cons.length := by omega
      subst e
      rw [List.take_length] at hclo
      simp -dsimp
      refine LoopP_next (D, again, k) (le_of (by simp) (by simp)) ⟨hD, hclo⟩ ?_
      simp only
      cases again with
      | true =>
        have := hlt rfl
        simp only [Bool.toNat_true]
        omega
      | false =>
        simp only [Bool.toNat_true, Bool.toNat_false]
        omega
    have hcm : p.cons[ci] ∈ p.cons := List.getElem_mem h
    obtain ⟨c, hc⟩ : ∃ c, c = p.cons[ci] := ⟨_, rfl⟩
    rw [← hc] at hcm
    have hgc := List.all_eq_true.1 g6 c hcm
    have hlen3 := goodC_len g5 hgc
    have hrg := relOf_good g5 (hok c hcm)
    have hR : ∀ r ∈ (relOf p c).rows, InN 3 r := fun r hr => inN_mono (by have := (goodR_asc.1 hrg).2.1; omega) ((goodR_asc.1 hrg).2.2.2.2 r hr)
    have hl8 := goodR_len hrg
    simp only [goodC, Bool.and_eq_true, decide_eq_true_eq, List.all_eq_true, goodV] at hgc
    obtain ⟨⟨⟨c1, c2⟩, c3⟩, c4⟩ := hgc
    have hDl : D.length = p.vars.toNat := hD.dom.1
    have hvr : ∀ v ∈ c.vars, 0 ≤ v ∧ v < D.length := fun v hm => by have := c4 v hm; omega
    have hpr := prows_spec p c D [] c1 (by omega) hR hl8 hlen3 hvr
    have hw := wr (n := (ci : Int) + 1) (by omega) (by omega)
    simp -dsimp [h, ← hc]
    refine CallN.onP (g := [(4, 1000000), (18, 1000001), (8, 1000002), (27, 1000003)]) hpr (by decide) (by simp) (by simp) (by simp [Sg.bk]) fun r M' hP => ?_
    obtain ⟨rfl, l', rfl, hl'⟩ := hP
    have hL : ∀ i, i < c.vars.length → InN 2 (getL l' (vAt c i)) ∧ ∀ a : Bool, bt (getL l' (vAt c i)) a.toNat = supF (relOf p c).rows c D i a := fun i hi => by
      rw [hl']
      exact ⟨(left_sup hD.dom.2 hlen3 hR hi false).1, fun a => (left_sup hD.dom.2 hlen3 hR hi a).2⟩
    simp -dsimp
    refine wk_loop (fun q : Nat × List Int × Bool => ⟨[(35, pI q.1), (34, pI c.vars.length), (33, .t .ro (eIs c.vars)), (8, .ptr 8 0), (23, pI ci), (22, pI p.cons.length), (21, .t .ro (eCns p.cons)), (5, pB q.2.2), (4, .ptr 4 0), (1, .ptr 1 0)], [(8, .blk 100 [.omp 27]), (27, .tab .ro (mI l')), (4, .blk 37 [.osl 18]), (18, .row 3 1 .ro (q.2.1.map cI)), (1, .blk 32 [.t .ro (eI p.vars), .t .ro (eRls p.rels), .t .ro (eCns p.cons)])]⟩)
      (fun q => q.1 ≤ c.vars.length ∧ NarI p q.2.1 ∧ sizeD q.2.1 ≤ sizeD D0 ∧ (q.2.2 = true → sizeD q.2.1 < sizeD D0) ∧ (q.2.2 = false → again = false ∧ q.2.1 = D ∧ ∀ i, i < q.1 → ∀ a, dv D (vAt c i) a = true → supF (relOf p c).rows c D i a = true)) (fun q => c.vars.length - q.1) (0, D, again)
      (le_of (by simp) (by simp)) ⟨by simp, hD, hsz, hlt, fun ha => ⟨ha, rfl, by simp⟩⟩ fun ⟨j, D', ag⟩ ⟨hj, hD', hsz', hlt', hst⟩ => ?_
    dsimp only at hj hD' hsz' hlt' hst
    simp -dsimp
    refine condX_dec (fun hjl => ?_) (fun hjl => ?_)
    rotate_left
    · have e : j = c.vars.length := by omega
      subst e
      simp -dsimp [hw]
      refine LoopP_next (ci + 1, D', ag, .ro) (le_of (by simp) (by simp)) ⟨h, hD', hsz', hlt', fun ha => ?_⟩ (by simp only; omega)
      obtain ⟨h1, h2, h3⟩ := hst ha
      intro d hd
      dsimp only at hd ⊢
      subst h2
      rw [List.take_add_one, List.getElem?_eq_getElem h, ← hc] at hd
      rcases List.mem_append.1 hd with hd | hd
      · exact hclo h1 d hd
      · simp at hd
        subst hd
        exact h3
    obtain ⟨v, hvd⟩ : ∃ v, v = c.vars[j] := ⟨_, rfl⟩
    have hvA : vAt c j = v := by rw [hvd]; exact getD_mem hjl
    have hvm : v ∈ c.vars := by rw [hvd]; exact List.getElem_mem hjl
    have hDl' : D'.length = p.vars.toNat := hD'.dom.1
    have w0 : 0 ≤ v := (hvr v hvm).1
    have w1 : v.toNat < D'.length := by have := (hvr v hvm).2; omega
    have w1' : v < (D'.length : Int) := by omega
    have hcut := narI_cut hD hD' hcm hjl (by rw [hvA]; exact w0) (by rw [hvA]; exact w1) (hL j hjl).1 (hL j hjl).2
    simp only [hvA] at hcut
    have hLj := hL j hjl
    rw [hvA] at hLj
    obtain ⟨q1, q2, q3, q4⟩ := hcut
    have hw2 := wr (n := (j : Int) + 1) (by omega) (by omega)
    simp -dsimp [hjl, ← hvd]
    refine wk_draw 7 [] mixed (by kernel_rfl) ?_
    cases hlk : l'.lookup v with
    | none =>
      have hg0 : getL l' v = 0 := by rw [getL, hlk]; rfl
      rw [hg0] at q1 q2 q3 q4 hLj
      simp -dsimp [w0, w1, w1', hlk]
      refine condX_of (fun hne => ?_) (fun heq => ?_)
      · have hne' : andI D'[v.toNat] 0 ≠ D'[v.toNat] := by simpa using hne
        have hs3 := q3 hne'
        simp -dsimp [w0, w1, w1', hw2]
        exact LoopP_next (j + 1, D'.set v.toNat (andI D'[v.toNat] 0), true) (le_of (by simp) (by simp [List.map_set])) ⟨hjl, q2, by simp only; omega, fun _ => by simp only; omega, fun h => by cases h⟩ (by simp only; omega)
      · have heq' : andI D'[v.toNat] 0 = D'[v.toNat] := by simpa using heq
        simp -dsimp [hw2]
        refine LoopP_next (j + 1, D', ag) (le_of (by simp) (by simp)) ⟨hjl, hD', hsz', hlt', fun ha => ?_⟩ (by simp only; omega)
        obtain ⟨s1, s2, s3⟩ := hst ha
        refine ⟨s1, s2, fun i hi a hda => ?_⟩
        rcases Nat.lt_or_ge i j with hij | hij
        · exact s3 i hij a hda
        · have e : i = j := by
            dsimp only at hi
            omega
          subst e
          rw [hvA, ← s2] at hda
          rw [← hLj.2 a]
          exact q4 heq' a hda
    | some y =>
      have hg0 : getL l' v = y := by rw [getL, hlk]; rfl
      rw [hg0] at q1 q2 q3 q4 hLj
      simp -dsimp [w0, w1, w1', hlk]
      refine condX_of (fun hne => ?_) (fun heq => ?_)
      · have hne' : andI D'[v.toNat] y ≠ D'[v.toNat] := by simpa using hne
        have hs3 := q3 hne'
        simp -dsimp [w0, w1, w1', hw2]
        exact LoopP_next (j + 1, D'.set v.toNat (andI D'[v.toNat] y), true) (le_of (by simp) (by simp [List.map_set])) ⟨hjl, q2, by simp only; omega, fun _ => by simp only; omega, fun h => by cases h⟩ (by simp only; omega)
      · have heq' : andI D'[v.toNat] y = D'[v.toNat] := by simpa using heq
        simp -dsimp [hw2]
        refine LoopP_next (j + 1, D', ag) (le_of (by simp) (by simp)) ⟨hjl, hD', hsz', hlt', fun ha => ?_⟩ (by simp only; omega)
        obtain ⟨s1, s2, s3⟩ := hst ha
        refine ⟨s1, s2, fun i hi a hda => ?_⟩
        rcases Nat.lt_or_ge i j with hij | hij
        · exact s3 i hij a hda
        · have e : i = j := by
            dsimp only at hi
            omega
          subst e
          rw [hvA, ← s2] at hda
          rw [← hLj.2 a]
          exact q4 heq' a hda
end Go.Proofs.Ytmneioafbkknhaa
