import Derived.Test.YtgcncgocdfioiaaDoorCR4
/- CR5: the reference: flees, places; ranks in an array: of, wins. -/
set_option linter.unusedVariables false
set_option linter.unusedSimpArgs false
set_option maxRecDepth 20000
namespace Go.Proofs.YtgcncgocdfioiaaDoor
open Go Go.PS
attribute [-simp] isKeyK List.map_take
def fltTo (p : Nat → Bool) (k : Nat) : List Nat := (List.range k).filter p
theorem fltTo_succ (p : Nat → Bool) (k : Nat) : fltTo p (k + 1) = fltTo p k ++ if p k then [k] else [] := by
  simp only [fltTo, List.range_succ, List.filter_append]
  cases h : p k <;> simp [h]
theorem fltTo_len (p : Nat → Bool) (k : Nat) : (fltTo p k).length ≤ k := Nat.le_trans (List.length_filter_le _ _) (by simp)
theorem rflees_spec (g : List Int) (hg : isgB g = true) (p : Pl) (hc : p.2.2 < g.length) : PCall Tryd.prog 63 [eIs g, .agg (cPl p)] (.t .fz (ePls ((bitsL ((townOf g).getD p.2.2 0)).map fun x => (p.1, p.2.1, x)))) [] := by
  obtain ⟨ht, hl, _⟩ := isg_facts hg
  have h8 := ht.2.1
  obtain ⟨pa, pb, pc⟩ := p
  simp only at hc
  have r1 := reach_spec g hg pc hc
  have t1 := ht.2.2 _ (getD_mem (l := townOf g) (i := pc) (by omega))
  have hB := bits_range ht t1
  rw [hl] at hB
  simp only
  rw [hB]
  have t8 := sub_lt ht t1
  generalize (townOf g).getD pc 0 = tc at *
  have hA : (List.range g.length).filter tc.testBit = fltTo tc.testBit g.length := rfl
  rw [hA]
  clear hA hB
  refine pcall_wp _ Tryd.func63 rfl (by kernel_rfl) rfl ?_
  simp -dsimp
  refine lg_adoptT 5 5 48 3 (by simp; rfl) (by simp) ?_
  refine wk_loop (fun i : Nat => ⟨[(9, pI i), (8, pI g.length), (5, .osl 5), (3, .ptr 3 0), (0, .t .ro (eIs g))], [(5, .row 48 3 .fz ((fltTo tc.testBit i).map fun x => cPl (pa, pb, x))), (3, .blk 48 [.t .ro (eI pa), .t .ro (eI pb), .t .ro (eI pc)])]⟩)
    (fun i => i ≤ g.length) (fun i => g.length - i) 0
    (le_of (by simp) (by simp [fltTo])) (by simp) fun i hi => ?_
  simp -dsimp
  refine condX_dec (fun h => ?_) (fun h => ?_)
  · have hw := wr (n := (i : Int) + 1) (by omega) (by omega)
    have hS := fltTo_succ tc.testBit i
    have hlen := fltTo_len tc.testBit i
    have hbd : ((fltTo tc.testBit i).length + 1) * 24 ≤ 140737488355328 := by omega
    have i0 : (0 : Int) ≤ (i : Int) := by omega
    have e1 := and1 tc (by omega) i (by omega)
    simp -dsimp
    first
      | refine CallG.by (r1) ?_
      | refine CallGE.by (r1) ?_
      | refine CallGB.by (r1) ?_
    cases c1 : tc.testBit i with
    | false =>
      rw [c1] at e1 hS
      rw [if_neg (by simp), List.append_nil] at hS
      simp -dsimp [i0, e1]
      refine LoopP_next (i + 1) (le_of (by simp [hw]) (by simp [hS])) h (by omega)
    | true =>
      rw [c1] at e1 hS
      rw [if_pos rfl] at hS
      simp -dsimp [i0, e1, hbd]
      refine LoopP_next (i + 1) (le_of (by simp [hw]) (by simp [hS])) h (by omega)
  · have hi' : i = g.length := by omega
    subst hi'
    simp -dsimp
    refine retP_c ?_
    simp -dsimp
def rwTo (n : Nat) (two : Bool) (a b c : Nat) : List Pl := ((prsTo n (tmF two) a b).flatMap fun q => (List.range n).map fun x => (q.1, q.2, x)) ++ if tmF two a b then (List.range c).map fun x => (a, b, x) else []
theorem rwTo_succ (n : Nat) (two : Bool) (a b c : Nat) : rwTo n two a b (c + 1) = rwTo n two a b c ++ if tmF two a b then [(a, b, c)] else [] := by
  simp only [rwTo, List.append_assoc]
  congr 1
  cases tmF two a b <;> simp [List.range_succ]
theorem rwTo_row (n : Nat) (two : Bool) (a b : Nat) : rwTo n two a (b + 1) 0 = rwTo n two a b n := by
  simp only [rwTo, prsTo_succ, List.flatMap_append]
  cases h : tmF two a b <;> simp
theorem tmF_le {two : Bool} {a b : Nat} (h : tmF two a b = true) : a ≤ b := by
  simp only [tmF, Bool.and_eq_true, decide_eq_true_eq] at h
  exact h.1
theorem rwTo_zero (n : Nat) (two : Bool) (a : Nat) : rwTo n two a a 0 = rwTo n two a 0 0 := by
  simp only [rwTo, prsTo_diag (f := tmF two) (fun a b => tmF_le) a]
  simp
theorem rwTo_next (n : Nat) (two : Bool) (a : Nat) : rwTo n two (a + 1) 0 0 = rwTo n two a n 0 := by
  have := prsTo_row n (tmF two) a 0 (fun _ h => by omega)
  simp [rwTo, this]
theorem rwTo_all (n : Nat) (two : Bool) : rwTo n two n 0 0 = allPl n two := by
  have := prsTo_all n (tmF two)
  simp [rwTo, this, allPl, teamsL]
theorem rwTo_len (n : Nat) (two : Bool) (a b c : Nat) : (rwTo n two a b c).length ≤ (a * n + b) * n + c := by
  have h1 := prsTo_len n (tmF two) a b
  have h2 : ∀ L : List Pr, (L.map fun _ => n).sum = L.length * n := fun L => by
    induction L with
    | nil => simp
    | cons x L ih => simp only [List.map_cons, List.sum_cons, ih, List.length_cons, Nat.add_mul]; omega
  have h3 := Nat.mul_le_mul_right n h1
  have h4 : (if tmF two a b then (List.range c).map fun x => ((a, b, x) : Pl) else []).length ≤ c := by split <;> simp
  simp only [rwTo, List.length_append, List.length_flatMap, List.length_map, List.length_range, h2]
  omega
theorem rplaces_spec (g : List Int) (h8 : g.length ≤ 8) (k : Int) : PCall Tryd.prog 67 [eIs g, eI k] (.t .fz (ePls (allPl g.length (k == 2)))) [] := by
  refine pcall_wp _ Tryd.func67 rfl (by kernel_rfl) rfl ?_
  simp -dsimp
  refine lg_adoptT 5 5 48 3 (by simp; rfl) (by simp) ?_
  refine wk_loop (fun i : Nat => ⟨[(11, pI i), (10, pI g.length), (5, .osl 5), (0, .t .ro (eIs g)), (1, .t .ro (eI k))], [(5, .row 48 3 .fz ((rwTo g.length (k == 2) i 0 0).map cPl))]⟩)
    (fun i => i ≤ g.length) (fun i => g.length - i) 0
    (le_of (by simp) (by simp [rwTo, prsTo, tmF])) (by simp) fun i hi => ?_
  simp -dsimp
  refine condX_dec (fun h => ?_) (fun h => ?_)
  · have hw := wr (n := (i : Int) + 1) (by omega) (by omega)
    simp -dsimp
    rw [← rwTo_zero]
    refine wk_loop (fun b : Nat => ⟨[(6, pI i), (7, pI b), (11, pI i), (10, pI g.length), (5, .osl 5), (0, .t .ro (eIs g)), (1, .t .ro (eI k))], [(5, .row 48 3 .fz ((rwTo g.length (k == 2) i b 0).map cPl))]⟩)
      (fun b => i ≤ b ∧ b ≤ g.length) (fun b => g.length - b) i
      (le_of (by simp) (by simp)) ⟨by omega, hi⟩ fun b ⟨hb0, hb⟩ => ?_
    simp -dsimp
    refine condX_dec (fun h' => ?_) (fun h' => ?_)
    · have hwb := wr (n := (b : Int) + 1) (by omega) (by omega)
      have hrow := rwTo_row g.length (k == 2) i b
      simp -dsimp
      refine wk_loop (fun c : Nat => ⟨[(23, pI c), (22, pI g.length), (6, pI i), (7, pI b), (11, pI i), (10, pI g.length), (5, .osl 5), (0, .t .ro (eIs g)), (1, .t .ro (eI k))], [(5, .row 48 3 .fz ((rwTo g.length (k == 2) i b c).map cPl))]⟩)
        (fun c => c ≤ g.length) (fun c => g.length - c) 0
        (le_of (by simp) (by simp)) (by omega) fun c hc => ?_
      simp -dsimp
      refine condX_dec (fun h2 => ?_) (fun h2 => ?_)
      · have hwc := wr (n := (c : Int) + 1) (by omega) (by omega)
        have hS := rwTo_succ g.length (k == 2) i b c
        have hlen := rwTo_len g.length (k == 2) i b c
        have m1 : i * g.length ≤ 8 * 8 := Nat.mul_le_mul (by omega) h8
        have m2 : (i * g.length + b) * g.length ≤ 72 * 8 := Nat.mul_le_mul (by omega) h8
        have hbd : ((rwTo g.length (k == 2) i b c).length + 1) * 24 ≤ 140737488355328 := by omega
        have hT : tmF (k == 2) i b = ((k == 2) || ((i : Int) == (b : Int))) := by
          have : (i == b) = ((i : Int) == (b : Int)) := by rw [Bool.eq_iff_iff]; simp; omega
          simp [tmF, hb0, this]
        rw [hT] at hS
        generalize rwTo g.length (k == 2) i b c = R at *
        cases c2 : (k == 2) with
        | true =>
          rw [c2] at hS
          simp -dsimp [c2, hbd]
          refine LoopP_next (c + 1) (le_of (by simp [hwc]) (by rw [c2] at *; simp [hS])) h2 (by omega)
        | false =>
          cases c3 : ((i : Int) == (b : Int)) with
          | true =>
            rw [c2, c3] at hS
            simp -dsimp [c2, c3, hbd]
            refine LoopP_next (c + 1) (le_of (by simp [hwc]) (by rw [c2] at *; simp [hS])) h2 (by omega)
          | false =>
            rw [c2, c3] at hS
            simp -dsimp [c2, c3]
            refine LoopP_next (c + 1) (le_of (by simp [hwc]) (by rw [c2] at *; simp [hS])) h2 (by omega)
      · have hc' : c = g.length := by omega
        subst hc'
        simp -dsimp
        refine LoopP_next (b + 1) (le_of (by simp [hwb]) (by simp [hrow])) ⟨by omega, h'⟩ (by omega)
    · have hb' : b = g.length := by omega
      have hR := rwTo_next g.length (k == 2) i
      subst hb'
      simp -dsimp
      refine LoopP_next (i + 1) (le_of (by simp [hw]) (by simp [hR])) (by omega) (by omega)
  · have hi' : i = g.length := by omega
    have hA := rwTo_all g.length (k == 2)
    subst hi'
    simp -dsimp
    rw [← hA]
    refine retP_c ?_
    simp -dsimp
def z512 : List Value := List.replicate 512 (.int .i64 0)
def zB512 : List Value := List.replicate 512 (.bool false)
@[simp] theorem f_z105 : zT Tryd.prog 105 = some z512 := by kernel_rfl
@[simp] theorem f_z94 : zT Tryd.prog 94 = some zB512 := by kernel_rfl
@[simp] theorem f_ar105 : arT Tryd.prog 105 = some (8, 64) := by kernel_rfl
@[simp] theorem f_ar94 : arT Tryd.prog 94 = some (8, 64) := by kernel_rfl
/-- The place of a place in the array. -/
def ix (p : Pl) : Nat := p.1 * 64 + p.2.1 * 8 + p.2.2
def P8 (p : Pl) : Prop := p.1 < 8 ∧ p.2.1 < 8 ∧ p.2.2 < 8
theorem ix_lt {p : Pl} (h : P8 p) : ix p < 512 := by
  obtain ⟨h1, h2, h3⟩ := h
  simp only [ix]
  omega
theorem ix_inj {p q : Pl} (hp : P8 p) (hq : P8 q) (h : ix p = ix q) : p = q := by
  obtain ⟨h1, h2, h3⟩ := hp
  obtain ⟨g1, g2, g3⟩ := hq
  simp only [ix] at h
  exact Prod.ext (by omega) (Prod.ext (by omega) (by omega))
theorem gA {rs : List Int} {i : Nat} (h : i < rs.length) : (rs.map eI)[i]? = some (eI (rs.getD i 0)) := by simp [List.getD_eq_getElem?_getD, h]
@[simp] def eRk (rs : List Int) : TL := .rp (rs.map eI) 0
theorem rof_spec (rs : List Int) (hrs : rs.length = 512) (p : Pl) (hp : P8 p) : PCall Tryd.prog 53 [eRk rs, .agg (cPl p)] (pI (rs.getD (ix p) 0)) [] := by
  have hg := gA (rs := rs) (i := ix p) (by rw [hrs]; exact ix_lt hp)
  obtain ⟨a, b, c⟩ := p
  obtain ⟨h1, h2, h3⟩ := hp
  simp only at h1 h2 h3
  simp only [ix] at hg ⊢
  refine pcall_wp _ Tryd.func53 rfl (by kernel_rfl) rfl ?_
  have a0 : (a : Int) < 8 := by omega
  have b0 : (b : Int) < 8 := by omega
  have c0 : (c : Int) < 8 := by omega
  generalize rs.getD (a * 64 + b * 8 + c) 0 = x at *
  simp -dsimp
  refine wk_draw 10 [] mixed (by kernel_rfl) ?_
  simp -dsimp [a0, b0, c0, hg]
  refine retP_c ?_
  simp -dsimp
/-- All cats' moves have a rank. -/
def rwinB (t : List Nat) (rs : List Int) (q : Pl) : Bool := cB q || (bitsL (t.getD q.2.2 0)).all fun x => decide (0 ≤ rs.getD (ix (q.1, q.2.1, x)) 0)
theorem all_at {A : List Nat} (f : Nat → Bool) (i : Nat) (h : i < A.length) : (A.drop i).all f = (f (A.getD i 0) && (A.drop (i + 1)).all f) := by
  have e : A.getD i 0 = A[i] := by simp [List.getD_eq_getElem?_getD, h]
  rw [e, List.drop_eq_getElem_cons h, List.all_cons]
theorem rcB_spec (p : Pl) : PCall Tryd.prog 61 [.agg (cPl p)] (pB (cB p)) [] := by
  have h := rcaught_spec (up p)
  have e : decide ((up p).2.2 = (up p).1 ∨ (up p).2.2 = (up p).2.1) = cB p := by
    rw [Bool.eq_iff_iff, cB_iff, decide_eq_true_iff]
    show ((p.2.2 : Int) = p.1 ∨ (p.2.2 : Int) = p.2.1) ↔ _
    omega
  rw [e] at h
  exact h
theorem rwins_spec (g : List Int) (hg : isgB g = true) (rs : List Int) (hrs : rs.length = 512) (q : Pl) (ha : q.1 < g.length) (hb : q.2.1 < g.length) (hc : q.2.2 < g.length) : PCall Tryd.prog 68 [eIs g, eRk rs, .agg (cPl q)] (pB (rwinB (townOf g) rs q)) [] := by
  obtain ⟨ht, hl, _⟩ := isg_facts hg
  have h8 := ht.2.1
  have hF : rwinB (townOf g) rs q = (cB q || (bitsL ((townOf g).getD q.2.2 0)).all fun x => decide (0 ≤ rs.getD (ix (q.1, q.2.1, x)) 0)) := rfl
  have hfl := rflees_spec g hg q hc
  have hcb := rcB_spec q
  have t1 := ht.2.2 _ (getD_mem (l := townOf g) (i := q.2.2) (by omega))
  have hof := fun x (hx : x ∈ bitsL ((townOf g).getD q.2.2 0)) => rof_spec rs hrs (q.1, q.2.1, x) ⟨by simp only; omega, by simp only; omega, by have := node_lt t1 hx; simp only; omega⟩
  have hbl := bits_len ((townOf g).getD q.2.2 0)
  generalize bitsL ((townOf g).getD q.2.2 0) = A at *
  generalize hf : (fun x => rs.getD (ix (q.1, q.2.1, x)) 0) = f at *
  have hF : rwinB (townOf g) rs q = (cB q || A.all fun x => decide (0 ≤ f x)) := by rw [hF, ← hf]
  have hof : ∀ x ∈ A, PCall Tryd.prog 53 [eRk rs, .agg (cPl (q.1, q.2.1, x))] (pI (f x)) [] := fun x hx => by
    rw [← hf]
    exact hof x hx
  obtain ⟨qa, qb, qc⟩ := q
  simp only at hof hfl
  refine pcall_wp _ Tryd.func68 rfl (by kernel_rfl) rfl ?_
  cases c1 : cB (qa, qb, qc) with
  | true =>
    rw [c1] at hcb hF
    simp -dsimp
    first
      | refine CallG.by (hcb) ?_
      | refine CallGE.by (hcb) ?_
      | refine CallGB.by (hcb) ?_
    simp -dsimp
    refine retP_c ?_
    simp -dsimp [hF]
  | false =>
    rw [c1, Bool.false_or] at hF
    rw [c1] at hcb
    simp -dsimp
    first
      | refine CallG.by (hcb) ?_
      | refine CallGE.by (hcb) ?_
      | refine CallGB.by (hcb) ?_
    simp -dsimp
    first
      | refine CallG.by (hfl) ?_
      | refine CallGE.by (hfl) ?_
      | refine CallGB.by (hfl) ?_
    simp -dsimp
    refine wk_loop (fun i : Nat => ⟨[(15, pI i), (14, pI A.length), (13, .t .fz (ePls (A.map fun x => (qa, qb, x)))), (1, .t .ro (eRk rs))], []⟩)
      (fun i => i ≤ A.length ∧ rwinB (townOf g) rs (qa, qb, qc) = (A.drop i).all fun x => decide (0 ≤ f x)) (fun i => A.length - i) 0
      (le_of (by simp) (by simp)) ⟨by omega, by simpa using hF⟩ fun i ⟨hi, hr⟩ => ?_
    simp -dsimp
    refine condX_dec (fun h => ?_) (fun h => ?_)
    · have hw := wr (n := (i : Int) + 1) (by omega) (by omega)
      have hil : (i : Int) < A.length := by omega
      rw [all_at _ i h] at hr
      have hx := getD_mem h
      have hq : A[i]? = some (A.getD i 0) := by simp [List.getD_eq_getElem?_getD, h]
      generalize A.getD i 0 = x at *
      have hofx := hof x hx
      generalize f x = y at *
      simp -dsimp [hil, hq]
      first
        | refine CallG.by (hofx) ?_
        | refine CallGE.by (hofx) ?_
        | refine CallGB.by (hofx) ?_
      by_cases hy : y < 0
      · rw [decide_eq_false (by omega), Bool.false_and] at hr
        simp -dsimp [hy]
        refine retP_c ?_
        simp -dsimp [hr]
      · rw [decide_eq_true (by omega), Bool.true_and] at hr
        simp -dsimp [hy]
        refine LoopP_next (i + 1) (le_of (by simp [hw]) (by simp)) ⟨h, hr⟩ (by omega)
    · have hi' : i = A.length := by omega
      rw [hi', List.drop_length, List.all_nil] at hr
      simp -dsimp
      refine retP_c ?_
      simp -dsimp [hr]
end Go.Proofs.YtgcncgocdfioiaaDoor
