import Derived.Test.YtmneioafbkknhaaPB38
/- PB39: Narrow of the reference. -/
set_option linter.unusedVariables false
set_option linter.unusedSimpArgs false
set_option maxRecDepth 20000
namespace Go.Proofs.Ytmneioafbkknhaa
open Go Go.PS
attribute [-simp] List.map_take
theorem rbI_fold (r : Int) (j : Nat) : andI (shrI r j) 1 = rbI r j := rfl
theorem agrees_spec (c : Cn) (r : Int) (hr : InN 3 r) (hc : c.vars.length ≤ 3) : PCall Try.prog 106 [eCn c, eI r] (pB (agreesF c r)) [] := by
  refine pcall_wp _ Try.func106 rfl (by kernel_rfl) rfl ?_
  simp -dsimp
  refine wk_loop (fun i : Nat => ⟨[(12, pI i), (11, pI c.vars.length), (10, .t .ro (eIs c.vars)), (2, .ptr 2 0), (1, .t .ro (eI r))], [(2, .blk 87 [.t .ro (eI c.rel), .t .ro (eIs c.vars)])]⟩)
    (fun i => i ≤ c.vars.length ∧ ∀ i' j, i' < i → j < c.vars.length → vAt c i' = vAt c j → bt r i' = bt r j) (fun i => c.vars.length - i) 0 (le_of (by simp) (by simp)) ⟨by omega, fun i' j h => by omega⟩ fun i ⟨hi, hJ⟩ => ?_
  simp -dsimp
  refine condX_dec (fun h => ?_) (fun h => ?_)
  rotate_left
  · have e : i = c.vars.length := by omega
    subst e
    have ha : agreesF c r = true := agreesF_iff.2 fun i j hi hj he => hJ i j hi hj he
    simp -dsimp
    refine retP_c ?_
    simp -dsimp [ha]
  have hw := wr (n := (i : Int) + 1) (by omega) (by omega)
  simp -dsimp [h]
  refine wk_loop (fun j : Nat => ⟨[(20, pI j), (19, pI c.vars.length), (18, .t .ro (eIs c.vars)), (5, pI i), (6, .t .ro (eI c.vars[i])), (12, pI i), (11, pI c.vars.length), (10, .t .ro (eIs c.vars)), (2, .ptr 2 0), (1, .t .ro (eI r))], [(2, .blk 87 [.t .ro (eI c.rel), .t .ro (eIs c.vars)])]⟩)
    (fun j => j ≤ c.vars.length ∧ ∀ k, k < j → vAt c i = vAt c k → bt r i = bt r k) (fun j => c.vars.length - j) 0 (le_of (by simp) (by simp)) ⟨by omega, fun k h => by omega⟩ fun j ⟨hj, hJ2⟩ => ?_
  simp -dsimp
  refine condX_dec (fun hjl => ?_) (fun hjl => ?_)
  rotate_left
  · have e : j = c.vars.length := by omega
    subst e
    simp -dsimp [hw]
    refine LoopP_next (i + 1) (le_of (by simp) (by simp)) ⟨h, fun i' k hi' hk he => ?_⟩ (by omega)
    rcases Nat.lt_or_ge i' i with hlt | hge
    · exact hJ i' k hlt hk he
    · have e : i' = i := by omega
      subst e
      exact hJ2 k hk he
  have hw2 := wr (n := (j : Int) + 1) (by omega) (by omega)
  have hi0 : (0 : Int) ≤ i := by omega
  have hj0 : (0 : Int) ≤ j := by omega
  have hvi : vAt c i = c.vars[i] := getD_mem h
  have hvj : vAt c j = c.vars[j] := getD_mem hjl
  have hrij := rbI_ne hr (j := i) (k := j) (by omega) (by omega)
  simp -dsimp [hjl]
  refine wk_draw 12 [] mixed (by kernel_rfl) ?_
  by_cases he : c.vars[i] = c.vars[j]
  · by_cases hb : bt r i = bt r j
    · have hbn : (rbI r i != rbI r j) = false := by simp [hrij, hb]
      simp only [rbI] at hbn
      simp -dsimp [he, hbn, hi0, hj0, hw2]
      refine LoopP_next (j + 1) (le_of (by simp [he]) (by simp)) ⟨hjl, fun k hk hek => ?_⟩ (by omega)
      rcases Nat.lt_or_ge k j with hlt | hge
      · exact hJ2 k hlt hek
      · have e : k = j := by omega
        subst e
        exact hb
    · have hbn : (rbI r i != rbI r j) = true := by simp [hrij, hb]
      simp only [rbI] at hbn
      have ha : agreesF c r = false := by
        cases h2 : agreesF c r with
        | false => rfl
        | true => exact absurd (agreesF_iff.1 h2 i j h hjl (by rw [hvi, hvj, he])) hb
      simp -dsimp [he, hbn, hi0, hj0]
      refine retP_c ?_
      simp -dsimp [ha]
  · have hbe : (c.vars[i] == c.vars[j]) = false := by simpa using he
    simp -dsimp [hbe, hw2]
    refine LoopP_next (j + 1) (le_of (by simp) (by simp)) ⟨hjl, fun k hk hek => ?_⟩ (by omega)
    rcases Nat.lt_or_ge k j with hlt | hge
    · exact hJ2 k hlt hek
    · have e : k = j := by omega
      subst e
      rw [hvi, hvj] at hek
      exact absurd hek he
def eb (a : Bool) : Int := if a then 1 else 0
theorem eb_eq {r : Int} (hr : InN 3 r) {j : Nat} (hj : j ≤ 62) : andI (shrI r j) 1 = eb (bt r j) := rbI_eq hr hj
theorem eb_beq (a b : Bool) : (eb a == eb b) = (a == b) := by cases a <;> cases b <;> rfl
theorem eb_nat (a : Bool) : (eb a).toNat = a.toNat := by cases a <;> rfl
theorem eb_nn (a : Bool) : 0 ≤ eb a := by cases a <;> decide
theorem dv_bit {D : List Int} (h2 : ∀ x ∈ D, InN 2 x) {v : Int} (hv : v.toNat < D.length) (a : Bool) : (andI (shrI D[v.toNat] (eb a).toNat) 1 == 1) = dv D v a := by
  rw [dv, getD_mem hv, eb_nat]
  obtain ⟨k, e, hk⟩ := h2 _ (List.getElem_mem hv)
  rw [e, and1 k (by omega) _ (by cases a <;> decide)]
  show _ = k.testBit a.toNat
  cases h : k.testBit a.toNat <;> simp
theorem supported_spec (r : Rl) (c : Cn) (D : List Int) (i : Nat) (a : Bool) (hR : ∀ x ∈ r.rows, InN 3 x) (hl8 : r.rows.length ≤ 8) (hc : c.vars.length ≤ 3) (hi : i < c.vars.length) (h2 : ∀ x ∈ D, InN 2 x) (hv : ∀ v ∈ c.vars, 0 ≤ v ∧ v < D.length) :
    PCall Try.prog 78 [eRl r, eCn c, eIs D, eI i, eI (eb a)] (pB (supF r.rows c D i a)) [] := by
  refine pcall_wp _ Try.func78 rfl (by kernel_rfl) rfl ?_
  have hi0 : (0 : Int) ≤ i := by omega
  simp -dsimp
  refine wk_loop (fun q : Nat => ⟨[(19, pI q), (18, pI r.rows.length), (17, .t .ro (eIs r.rows)), (6, .ptr 6 0), (2, .t .ro (eIs D)), (3, .t .ro (eI i)), (4, .t .ro (eI (eb a)))], [(6, .blk 87 [.t .ro (eI c.rel), .t .ro (eIs c.vars)])]⟩)
    (fun q => q ≤ r.rows.length ∧ supF (r.rows.take q) c D i a = false) (fun q => r.rows.length - q) 0 (le_of (by simp) (by simp)) ⟨by omega, rfl⟩ fun q ⟨hq, hJ⟩ => ?_
  simp -dsimp
  refine condX_dec (fun h => ?_) (fun h => ?_)
  rotate_left
  · have e : q = r.rows.length := by omega
    subst e
    rw [List.take_length] at hJ
    simp -dsimp
    refine retP_c ?_
    simp -dsimp [hJ]
  have hw := wr (n := (q : Int) + 1) (by omega) (by omega)
  obtain ⟨x, hx⟩ : ∃ x, x = r.rows[q] := ⟨_, rfl⟩
  have hxm : x ∈ r.rows := by rw [hx]; exact List.getElem_mem h
  have hx3 := hR x hxm
  have hbi := eb_eq hx3 (j := i) (by omega)
  have hnx : supF (r.rows.take (q + 1)) c D i a = ((bt x i == a) && agreesF c x && (List.range c.vars.length).all fun j => dv D (vAt c j) (bt x j)) := by
    rw [List.take_add_one, List.getElem?_eq_getElem h, ← hx, supF, List.any_append, ← supF, hJ]
    simp
  have hsome : supF (r.rows.take (q + 1)) c D i a = true → supF r.rows c D i a = true := fun hs => by
    rw [supF_iff] at hs ⊢
    obtain ⟨y, hy, h3⟩ := hs
    exact ⟨y, List.mem_of_mem_take hy, h3⟩
  cases hba : (bt x i == a) with
  | true =>
    simp -dsimp [h, ← hx, hi0, hbi, eb_beq, hba]
    first
      | refine CallG.by (agrees_spec c x hx3 hc) ?_
      | refine CallGE.by (agrees_spec c x hx3 hc) ?_
      | refine CallGB.by (agrees_spec c x hx3 hc) ?_
    simp -dsimp
    refine wk_loop (fun z : Nat × Bool => ⟨[(37, pI z.1), (36, pI c.vars.length), (35, .t .ro (eIs c.vars)), (13, pB z.2), (12, .t .ro (eI x)), (19, pI q), (18, pI r.rows.length), (17, .t .ro (eIs r.rows)), (6, .ptr 6 0), (2, .t .ro (eIs D)), (3, .t .ro (eI i)), (4, .t .ro (eI (eb a)))], [(6, .blk 87 [.t .ro (eI c.rel), .t .ro (eIs c.vars)])]⟩)
      (fun z => z.1 ≤ c.vars.length ∧ z.2 = ((bt x i == a) && agreesF c x && (List.range z.1).all fun j => dv D (vAt c j) (bt x j))) (fun z => c.vars.length - z.1) (0, agreesF c x) (le_of (by simp) (by simp)) ⟨by simp, by simp [hba]⟩ fun ⟨j, b⟩ ⟨hj, hb⟩ => ?_
    dsimp only at hj hb
    simp -dsimp
    refine condX_dec (fun hjl => ?_) (fun hjl => ?_)
    rotate_left
    · have e : j = c.vars.length := by omega
      subst e
      rw [← hnx] at hb
      cases b with
      | true =>
        have hs := hsome hb.symm
        simp -dsimp
        refine retP_c ?_
        simp -dsimp [hs]
      | false =>
        simp -dsimp [hw]
        exact LoopP_next (q + 1) (le_of (by simp) (by simp)) ⟨h, hb.symm⟩ (by omega)
    have hw2 := wr (n := (j : Int) + 1) (by omega) (by omega)
    have hj0 : (0 : Int) ≤ j := by omega
    obtain ⟨v, hvd⟩ : ∃ v, v = c.vars[j] := ⟨_, rfl⟩
    have hvA : vAt c j = v := by rw [hvd]; exact getD_mem hjl
    have hvm : v ∈ c.vars := by rw [hvd]; exact List.getElem_mem hjl
    have w0 : 0 ≤ v := (hv v hvm).1
    have w1' : v < (D.length : Int) := (hv v hvm).2
    have w1 : v.toNat < D.length := by omega
    have hdb := dv_bit h2 w1 (bt x j)
    have hbj := eb_eq hx3 (j := j) (by omega)
    have hnn := eb_nn (bt x j)
    have hnb : ((bt x i == a) && agreesF c x && (List.range (j + 1)).all fun j => dv D (vAt c j) (bt x j)) = (b && dv D v (bt x j)) := by
      rw [List.range_succ, List.all_append, ← Bool.and_assoc, ← hb, ← hvA]
      simp
    simp -dsimp [hjl, ← hvd]
    refine wk_draw 10 [] mixed (by kernel_rfl) ?_
    cases b with
    | false =>
      simp -dsimp [hw2]
      exact LoopP_next (j + 1, false) (le_of (by simp) (by simp)) ⟨hjl, by simp only; rw [hnb]; rfl⟩ (by simp only; omega)
    | true =>
      simp -dsimp [w0, w1, w1', hj0, hbj, hnn, hdb, hw2]
      exact LoopP_next (j + 1, dv D v (bt x j)) (le_of (by simp) (by simp)) ⟨hjl, by simp only; rw [hnb]; rfl⟩ (by simp only; omega)
  | false =>
    simp -dsimp [h, ← hx, hi0, hbi, eb_beq, hba]
    refine wk_loop (fun z : Nat × Bool => ⟨[(37, pI z.1), (36, pI c.vars.length), (35, .t .ro (eIs c.vars)), (13, pB z.2), (12, .t .ro (eI x)), (19, pI q), (18, pI r.rows.length), (17, .t .ro (eIs r.rows)), (6, .ptr 6 0), (2, .t .ro (eIs D)), (3, .t .ro (eI i)), (4, .t .ro (eI (eb a)))], [(6, .blk 87 [.t .ro (eI c.rel), .t .ro (eIs c.vars)])]⟩)
      (fun z => z.1 ≤ c.vars.length ∧ z.2 = ((bt x i == a) && agreesF c x && (List.range z.1).all fun j => dv D (vAt c j) (bt x j))) (fun z => c.vars.length - z.1) (0, false) (le_of (by simp) (by simp)) ⟨by simp, by simp [hba]⟩ fun ⟨j, b⟩ ⟨hj, hb⟩ => ?_
    dsimp only at hj hb
    simp -dsimp
    refine condX_dec (fun hjl => ?_) (fun hjl => ?_)
    rotate_left
    · have e : j = c.vars.length := by omega
      subst e
      rw [← hnx] at hb
      cases b with
      | true =>
        have hs := hsome hb.symm
        simp -dsimp
        refine retP_c ?_
        simp -dsimp [hs]
      | false =>
        simp -dsimp [hw]
        exact LoopP_next (q + 1) (le_of (by simp) (by simp)) ⟨h, hb.symm⟩ (by omega)
    have hw2 := wr (n := (j : Int) + 1) (by omega) (by omega)
    have hj0 : (0 : Int) ≤ j := by omega
    obtain ⟨v, hvd⟩ : ∃ v, v = c.vars[j] := ⟨_, rfl⟩
    have hvA : vAt c j = v := by rw [hvd]; exact getD_mem hjl
    have hvm : v ∈ c.vars := by rw [hvd]; exact List.getElem_mem hjl
    have w0 : 0 ≤ v := (hv v hvm).1
    have w1' : v < (D.length : Int) := (hv v hvm).2
    have w1 : v.toNat < D.length := by omega
    have hdb := dv_bit h2 w1 (bt x j)
    have hbj := eb_eq hx3 (j := j) (by omega)
    have hnn := eb_nn (bt x j)
    have hnb : ((bt x i == a) && agreesF c x && (List.range (j + 1)).all fun j => dv D (vAt c j) (bt x j)) = (b && dv D v (bt x j)) := by
      rw [List.range_succ, List.all_append, ← Bool.and_assoc, ← hb, ← hvA]
      simp
    simp -dsimp [hjl, ← hvd]
    refine wk_draw 10 [] mixed (by kernel_rfl) ?_
    cases b with
    | false =>
      simp -dsimp [hw2]
      exact LoopP_next (j + 1, false) (le_of (by simp) (by simp)) ⟨hjl, by simp only; rw [hnb]; rfl⟩ (by simp only; omega)
    | true =>
      simp -dsimp [w0, w1, w1', hj0, hbj, hnn, hdb, hw2]
      exact LoopP_next (j + 1, dv D v (bt x j)) (le_of (by simp) (by simp)) ⟨hjl, by simp only; rw [hnb]; rfl⟩ (by simp only; omega)
def nanI (a b : Int) : Int := bits .andNot .i64 a b
@[simp] theorem nanI_fold (a b : Int) : bits .andNot .i64 a b = nanI a b := rfl
theorem nan_all : (List.range 4).all (fun x => [false, true].all fun a => nanI x (shlI 1 a.toNat) == ((if a then x % 2 else x - x % 2 : Nat) : Int)) = true := by kernel_rfl
theorem nan_bit {x : Int} (hx : InN 2 x) (a : Bool) : InN 2 (nanI x (shlI 1 a.toNat)) ∧ ∀ b : Bool, bt (nanI x (shlI 1 a.toNat)) b.toNat = (bt x b.toNat && (b != a)) := by
  obtain ⟨k, rfl, hk⟩ := hx
  have h1 := List.all_eq_true.1 nan_all k (List.mem_range.2 hk)
  have h2 := List.all_eq_true.1 h1 a (by cases a <;> simp)
  rw [beq_iff_eq] at h2
  rw [h2]
  have hk4 : k = 0 ∨ k = 1 ∨ k = 2 ∨ k = 3 := by omega
  rcases hk4 with rfl | rfl | rfl | rfl <;> cases a <;> exact ⟨⟨_, rfl, by decide⟩, fun b => by cases b <;> decide⟩
theorem narI_drop {p : Pz} {D : List Int} {c : Cn} (hD : NarI p D) (hc : c ∈ p.cons) {i : Nat} (hi : i < c.vars.length) {v : Int} (hvA : vAt c i = v) (hv0 : 0 ≤ v) (hvl : v.toNat < D.length) {a : Bool} (hda : dv D v a = true)
    (hs : supF (relOf p c).rows c D i a = false) : NarI p (D.set v.toNat (nanI D[v.toNat] (shlI 1 a.toNat))) ∧ sizeD (D.set v.toNat (nanI D[v.toNat] (shlI 1 a.toNat))) < sizeD D := by
  have hx2 : InN 2 D[v.toNat] := hD.dom.2 _ (List.getElem_mem hvl)
  obtain ⟨hy2, hbit⟩ := nan_bit hx2 a
  have hdv : ∀ b, dv D v b = bt D[v.toNat] b.toNat := fun b => by rw [dv, getD_mem hvl]
  generalize nanI D[v.toNat] (shlI 1 a.toNat) = y at *
  have key : ∀ E, domP p E → closedP p E → dv E v a = false := fun E hE hEc => by
    cases h : dv E v a with
    | false => rfl
    | true =>
      have h1 := supF_mono (hD.sup E hE hEc) (hEc c hc i hi a (by rw [hvA]; exact h))
      rw [hs] at h1
      cases h1
  refine ⟨⟨⟨by rw [List.length_set]; exact hD.dom.1, fun x hx => ?_⟩, fun E hE hEc u b hb => ?_⟩, sizeD_set hvl hD.dom.2 hy2 (fun b hb => by rw [hbit, Bool.and_eq_true] at hb; exact hb.1) fun e => ?_⟩
  · rcases List.mem_or_eq_of_mem_set hx with h | h
    · exact hD.dom.2 x h
    · rw [h]
      exact hy2
  · have h1 := hD.sup E hE hEc u b hb
    have hk := key E hE hEc
    have fin : ∀ u : Int, 0 ≤ u → dv D u b = true → dv E u b = true → dv (D.set v.toNat y) u b = true := by
      intro u hu h1 hb
      rw [dv_set hv0 hvl _ _ hu]
      by_cases e : u = v
      · subst e
        rw [if_pos rfl, hbit, ← hdv, h1]
        by_cases eb : b = a
        · subst eb
          rw [hk] at hb
          cases hb
        · simp [eb]
      · rw [if_neg e]
        exact h1
    by_cases hu : 0 ≤ u
    · exact fin u hu h1 hb
    · have h2 : ∀ F, dv F u b = dv F 0 b := fun F => by rw [dv, dv, show u.toNat = (0 : Int).toNat by omega]
      rw [h2] at h1 hb ⊢
      exact fin 0 (by omega) h1 hb
  · have := hbit a
    rw [e, ← hdv, hda] at this
    simp at this
theorem rep_set {α : Type} (x y : α) (i n : Nat) (h : i < n) : (List.replicate i x ++ List.replicate (n - i) y).set i x = List.replicate (i + 1) x ++ List.replicate (n - (i + 1)) y := by
  have e : n - i = (n - (i + 1)) + 1 := by omega
  rw [e, List.set_append_right _ _ (by simp), List.length_replicate, Nat.sub_self, List.replicate_succ, List.set_cons_zero, List.replicate_succ', List.append_assoc]
  rfl
/-- How far a round has come. -/
def doneN (p : Pz) (ci j a : Nat) (c : Cn) (D : List Int) : Prop :=
  (∀ d ∈ p.cons.take ci, closedC (relOf p d).rows d D) ∧ (∀ i, i < j → ∀ b, dv D (vAt c i) b = true → supF (relOf p c).rows c D i b = true) ∧ ∀ b : Bool, b.toNat < a → dv D (vAt c j) b = true → supF (relOf p c).rows c D j b = true
theorem rnarrow_spec (p : Pz) (hg : goodP p = true) (N : List Int) (hN : NarrowLaw p N) : PCall Try.prog 42 [ePz p] (.t .ro (narT N)) [] := by
  have hv := hg
  simp only [goodP, Bool.and_eq_true, decide_eq_true_eq] at hv
  obtain ⟨⟨⟨⟨⟨g1, g2⟩, g3⟩, g4⟩, g5⟩, g6⟩ := hv
  have hok := okC_of g6
  obtain ⟨n, hn⟩ : ∃ n : Nat, p.vars = n := ⟨p.vars.toNat, by omega⟩
  have hst0 := narI_start p n hn
  have hn0 : 0 ≤ p.vars := by omega
  have hn1 : p.vars ≤ 140737488355328 := by omega
  have hn2 : 8 * p.vars ≤ 281474976710656 := by omega
  have hnt : p.vars.toNat = n := by omega
  refine pcall_wpT Try.func42 rfl (by kernel_rfl) ?_
  simp -dsimp [hn0, hn1, hn2, hnt]
  refine wk_loop (fun i : Nat => ⟨[(19, pI i), (18, pI n), (17, .osl 16), (4, .osl 16), (1, .ptr 1 0)], [(16, .row 3 1 .fz ((List.replicate i (3 : Int) ++ List.replicate (n - i) (0 : Int)).map cI)), (1, .blk 25 [.t .ro (eI p.vars), .t .ro (eRls p.rels), .t .ro (eCns p.cons)])]⟩)
    (fun i => i ≤ n) (fun i => n - i) 0 (le_of (by simp) (by simp)) (by omega) fun i hi => ?_
  simp -dsimp
  refine condX_dec (fun h => ?_) (fun h => ?_)
  · have hw := wr (n := (i : Int) + 1) (by omega) (by omega)
    have hin : i + (n - i) = n := by omega
    have hi0 : (0 : Int) ≤ i := by omega
    have hrs : List.replicate i [eI 3] ++ (List.replicate (n - i) [eI 0]).set 0 [eI 3] = List.replicate (i + 1) [eI 3] ++ List.replicate (n - (i + 1)) [eI 0] := by
      rw [← rep_set [eI 3] [eI 0] i n h, List.set_append_right _ _ (by simp)]
      simp
    simp -dsimp [h, hw, hin, hi0]
    exact LoopP_next (i + 1) (le_of (by simp) (by simp [hrs])) h (by omega)
  have hie : i = n := by omega
  subst hie
  simp -dsimp
  refine wk_loop (fun q : List Int × Bool => ⟨[(6, pB q.2), (4, .osl 16), (1, .ptr 1 0)], [(16, .row 3 1 .fz (q.1.map cI)), (1, .blk 25 [.t .ro (eI p.vars), .t .ro (eRls p.rels), .t .ro (eCns p.cons)])]⟩)
    (fun q => NarI p q.1 ∧ (q.2 = false → closedP p q.1)) (fun q => 2 * sizeD q.1 + q.2.toNat) (List.replicate i 3, true) (le_of (by simp) (by simp)) ⟨hst0, by simp⟩ fun ⟨D0, again⟩ ⟨hD0, hcl⟩ => ?_
  dsimp only at hD0 hcl
  cases again with
  | false =>
    have hDN : D0 = N := narrow_unique ⟨hD0.dom, hcl rfl, hD0.sup⟩ hN
    subst hDN
    simp -dsimp
    refine wk_loop (fun i : Nat => ⟨[(80, pI i), (79, pI D0.length), (78, .osl 16), (4, .osl 16)], [(16, .row 3 1 .fz (D0.map cI))]⟩) (fun i => i ≤ D0.length ∧ ∀ x ∈ D0.take i, x ≠ 0) (fun i => D0.length - i) 0 (le_of (by simp) (by simp)) ⟨by omega, by simp⟩ fun k ⟨hk, hJ⟩ => ?_
    simp -dsimp
    refine condX_dec (fun hkl => ?_) (fun hkl => ?_)
    · have hD8 : D0.length = p.vars.toNat := hD0.dom.1
      have hw := wr (n := (k : Int) + 1) (by omega) (by omega)
      by_cases h0 : D0[k] = 0
      · have hm : (0 : Int) ∈ D0 := by rw [← h0]; exact List.getElem_mem hkl
        simp -dsimp [hkl, h0]
        refine retT_c ?_
        simp -dsimp [narT, hm]
      · have hb0 : (D0[k] == 0) = false := by simpa using h0
        simp -dsimp [hkl, hb0, hw]
        refine LoopP_next (k + 1) (le_of (by simp) (by simp)) ⟨hkl, fun x hx => ?_⟩ (by omega)
        rw [List.take_add_one, List.getElem?_eq_getElem hkl] at hx
        rcases List.mem_append.1 hx with hx | hx
        · exact hJ x hx
        · simp at hx
          rw [hx]
          exact h0
    · have e : k = D0.length := by omega
      subst e
      rw [List.take_length] at hJ
      have hm : (0 : Int) ∉ D0 := fun h => hJ 0 h rfl
      simp -dsimp
      refine retT_c ?_
      simp -dsimp [narT, hm]
  | true =>
    simp -dsimp
    refine wk_loop (fun q : Nat × List Int × Bool => ⟨[(30, pI q.1), (29, pI p.cons.length), (28, .t .ro (eCns p.cons)), (6, pB q.2.2), (4, .osl 16), (1, .ptr 1 0)], [(16, .row 3 1 .fz (q.2.1.map cI)), (1, .blk 25 [.t .ro (eI p.vars), .t .ro (eRls p.rels), .t .ro (eCns p.cons)])]⟩)
      (fun q => q.1 ≤ p.cons.length ∧ NarI p q.2.1 ∧ sizeD q.2.1 ≤ sizeD D0 ∧ (q.2.2 = true → sizeD q.2.1 < sizeD D0) ∧ (q.2.2 = false → ∀ c ∈ p.cons.take q.1, closedC (relOf p c).rows c q.2.1)) (fun q => p.cons.length - q.1) (0, D0, false)
      (le_of (by simp) (by simp)) ⟨by simp, hD0, Nat.le_refl _, by simp, by simp⟩ fun ⟨ci, D, again⟩ ⟨hi, hD, hsz, hlt, hclo⟩ => ?_
    dsimp only at hi hD hsz hlt hclo
    simp -dsimp
    refine condX_dec (fun h => ?_) (fun h => ?_)
    rotate_left
    · have e : ci = p.cons.length := by omega
      subst e
      rw [List.take_length] at hclo
      simp -dsimp
      refine LoopP_next (D, again) (le_of (by simp) (by simp)) ⟨hD, hclo⟩ ?_
      simp only
      cases again with
      | true =>
        have := hlt rfl
        simp only [Bool.toNat_true]
        omega
      | false =>
        simp only [Bool.toNat_true, Bool.toNat_false]
        omega
    have hcm : p.cons[ci] ∈ p.cons := List.getElem_mem h
    obtain ⟨c, hc⟩ : ∃ c, c = p.cons[ci] := ⟨_, rfl⟩
    rw [← hc] at hcm
    have hgc := List.all_eq_true.1 g6 c hcm
    have hlen3 := goodC_len g5 hgc
    have hrg := relOf_good g5 (hok c hcm)
    have hR : ∀ r ∈ (relOf p c).rows, InN 3 r := fun r hr => inN_mono (by have := (goodR_asc.1 hrg).2.1; omega) ((goodR_asc.1 hrg).2.2.2.2 r hr)
    have hl8 := goodR_len hrg
    simp only [goodC, Bool.and_eq_true, decide_eq_true_eq, List.all_eq_true, goodV] at hgc
    obtain ⟨⟨⟨c1, c2⟩, c3⟩, c4⟩ := hgc
    have c2' : c.rel.toNat < p.rels.length := by omega
    have hrel : relOf p c = p.rels[c.rel.toNat] := by simp [relOf, c2']
    have hw := wr (n := (ci : Int) + 1) (by omega) (by omega)
    simp -dsimp [h, ← hc]
    refine wk_loop (fun q : Nat × List Int × Bool => ⟨[(37, pI q.1), (36, pI c.vars.length), (35, .t .ro (eIs c.vars)), (8, .ptr 8 0), (30, pI ci), (29, pI p.cons.length), (28, .t .ro (eCns p.cons)), (6, pB q.2.2), (4, .osl 16), (1, .ptr 1 0)], [(8, .blk 87 [.t .ro (eI c.rel), .t .ro (eIs c.vars)]), (16, .row 3 1 .fz (q.2.1.map cI)), (1, .blk 25 [.t .ro (eI p.vars), .t .ro (eRls p.rels), .t .ro (eCns p.cons)])]⟩)
      (fun q => q.1 ≤ c.vars.length ∧ NarI p q.2.1 ∧ sizeD q.2.1 ≤ sizeD D0 ∧ (q.2.2 = true → sizeD q.2.1 < sizeD D0) ∧ (q.2.2 = false → doneN p ci q.1 0 c q.2.1)) (fun q => c.vars.length - q.1) (0, D, again)
      (le_of (by simp) (by simp)) ⟨by simp, hD, hsz, hlt, fun ha => ⟨hclo ha, fun i hi => by simp only at hi; omega, fun b hb => by omega⟩⟩ fun ⟨j, D', ag⟩ ⟨hj, hD', hsz', hlt', hst⟩ => ?_
    dsimp only at hj hD' hsz' hlt' hst
    simp -dsimp
    refine condX_dec (fun hjl => ?_) (fun hjl => ?_)
    rotate_left
    · have e : j = c.vars.length := by omega
      subst e
      simp -dsimp [hw]
      refine LoopP_next (ci + 1, D', ag) (le_of (by simp) (by simp)) ⟨h, hD', hsz', hlt', fun ha => ?_⟩ (by simp only; omega)
      obtain ⟨h1, h2, h3⟩ := hst ha
      intro d hd
      dsimp only at hd ⊢
      rw [List.take_add_one, List.getElem?_eq_getElem h, ← hc] at hd
      rcases List.mem_append.1 hd with hd | hd
      · exact h1 d hd
      · simp at hd
        subst hd
        exact h2
    obtain ⟨v, hvd⟩ : ∃ v, v = c.vars[j] := ⟨_, rfl⟩
    have hvA : vAt c j = v := by rw [hvd]; exact getD_mem hjl
    have hvm : v ∈ c.vars := by rw [hvd]; exact List.getElem_mem hjl
    have hw2 := wr (n := (j : Int) + 1) (by omega) (by omega)
    simp -dsimp [hjl, ← hvd]
    refine wk_loop (fun q : Nat × List Int × Bool => ⟨[(42, pI q.1), (9, pI j), (10, .t .ro (eI v)), (37, pI j), (36, pI c.vars.length), (35, .t .ro (eIs c.vars)), (8, .ptr 8 0), (30, pI ci), (29, pI p.cons.length), (28, .t .ro (eCns p.cons)), (6, pB q.2.2), (4, .osl 16), (1, .ptr 1 0)], [(8, .blk 87 [.t .ro (eI c.rel), .t .ro (eIs c.vars)]), (16, .row 3 1 .fz (q.2.1.map cI)), (1, .blk 25 [.t .ro (eI p.vars), .t .ro (eRls p.rels), .t .ro (eCns p.cons)])]⟩)
      (fun q => q.1 ≤ 2 ∧ NarI p q.2.1 ∧ sizeD q.2.1 ≤ sizeD D0 ∧ (q.2.2 = true → sizeD q.2.1 < sizeD D0) ∧ (q.2.2 = false → doneN p ci j q.1 c q.2.1)) (fun q => 2 - q.1) (0, D', ag)
      (le_of (by simp) (by simp)) ⟨by simp, hD', hsz', hlt', hst⟩ fun ⟨a, E, ag'⟩ ⟨ha2, hE, hszE, hltE, hstE⟩ => ?_
    dsimp only at ha2 hE hszE hltE hstE
    simp -dsimp
    refine condX_dec (fun hal => ?_) (fun hal => ?_)
    rotate_left
    · have e : a = 2 := by omega
      subst e
      simp -dsimp [hw2]
      refine LoopP_next (j + 1, E, ag') (le_of (by simp) (by simp)) ⟨hjl, hE, hszE, hltE, fun hf => ?_⟩ (by simp only; omega)
      obtain ⟨s1, s2, s3⟩ := hstE hf
      refine ⟨s1, fun i hi b hb => ?_, fun b hb => by omega⟩
      dsimp only at hi
      rcases Nat.lt_or_ge i j with hij | hij
      · exact s2 i hij b hb
      · have e : i = j := by omega
        subst e
        exact s3 b (by cases b <;> decide) hb
    have hal' : a < 2 := by omega
    obtain ⟨aB, haB⟩ : ∃ b : Bool, a = b.toNat := by
      rcases (show a = 0 ∨ a = 1 by omega) with h | h
      · exact ⟨false, h⟩
      · exact ⟨true, h⟩
    have hax : (a : Int) = eb aB := by rw [haB]; cases aB <;> rfl
    have hEl : E.length = p.vars.toNat := hE.dom.1
    have hvr : ∀ v ∈ c.vars, 0 ≤ v ∧ v < E.length := fun v hm => by have := c4 v hm; omega
    have w0 : 0 ≤ v := (hvr v hvm).1
    have w1' : v < (E.length : Int) := (hvr v hvm).2
    have w1 : v.toNat < E.length := by omega
    have hdb : (andI (shrI E[v.toNat] a) 1 == 1) = dv E v aB := by
      have := dv_bit hE.dom.2 w1 aB
      rwa [eb_nat, ← haB] at this
    have hsp := supported_spec (relOf p c) c E j aB hR hl8 hlen3 hjl hE.dom.2 hvr
    rw [← hax] at hsp
    have hw3 := wr (n := (a : Int) + 1) (by omega) (by omega)
    have ha0 : (0 : Int) ≤ a := by omega
    have c2i : c.rel < (p.rels.length : Int) := by omega
    have hext : ∀ (h : dv E v aB = true → supF (relOf p c).rows c E j aB = true), ag' = false → doneN p ci j (a + 1) c E := fun hh hf => by
      obtain ⟨s1, s2, s3⟩ := hstE hf
      refine ⟨s1, s2, fun b hb hdv => ?_⟩
      rcases Nat.lt_or_ge b.toNat a with hlt | hge
      · exact s3 b hlt hdv
      · have e : b = aB := by
          cases b <;> cases aB <;> simp_all
        subst e
        rw [hvA] at hdv
        exact hh hdv
    simp -dsimp [hal]
    refine wk_draw 19 [] mixed (by kernel_rfl) ?_
    cases hda : dv E v aB with
    | false =>
      rw [hda] at hdb
      simp -dsimp [w0, w1, w1', ha0, hdb, hw3]
      exact LoopP_next (a + 1, E, ag') (le_of (by simp) (by simp)) ⟨hal', hE, hszE, hltE, hext fun h => by rw [hda] at h; cases h⟩ (by simp only; omega)
    | true =>
      rw [hda] at hdb
      rw [hrel] at hsp
      simp -dsimp [w0, w1, w1', ha0, hdb, c1, c2', c2i]
      first
        | refine CallG.by (hsp) ?_
        | refine CallGE.by (hsp) ?_
        | refine CallGB.by (hsp) ?_
      rw [← hrel]
      cases hs : supF (relOf p c).rows c E j aB with
      | true =>
        simp -dsimp [hw3]
        exact LoopP_next (a + 1, E, ag') (le_of (by simp) (by simp)) ⟨hal', hE, hszE, hltE, hext fun _ => hs⟩ (by simp only; omega)
      | false =>
        obtain ⟨d1, d2⟩ := narI_drop hE hcm hjl hvA w0 w1 hda hs
        rw [← haB] at d1 d2
        simp -dsimp
        refine wk_draw 6 [] mixed (by kernel_rfl) ?_
        simp -dsimp [w0, w1, w1', ha0, hw3]
        exact LoopP_next (a + 1, E.set v.toNat (nanI E[v.toNat] (shlI 1 a)), true) (le_of (by simp) (by simp [List.map_set])) ⟨hal', d1, by simp only; omega, fun _ => by simp only; omega, fun h => by cases h⟩ (by simp only; omega)
end Go.Proofs.Ytmneioafbkknhaa
