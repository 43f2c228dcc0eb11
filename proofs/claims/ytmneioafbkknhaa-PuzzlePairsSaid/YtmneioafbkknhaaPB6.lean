import Derived.Test.YtmneioafbkknhaaPB5
/- PB6: validity of a puzzle, as the program has it. -/
set_option linter.unusedVariables false
set_option linter.unusedSimpArgs false
set_option maxRecDepth 20000
namespace Go.Proofs.Ytmneioafbkknhaa
open Go Go.PS
theorem minL_lt (xs : List Int) (a : Int) (h : 0 < xs.length) : minL xs < a ↔ ∃ v ∈ xs, v < a := by
  cases xs with
  | nil => simp at h
  | cons x xs =>
    clear h
    simp only [minL]
    induction xs generalizing x with
    | nil => simp
    | cons y ys ih =>
      simp only [List.foldl_cons]
      rw [ih]
      by_cases hyx : y < x
      · simp only [hyx, if_true, List.mem_cons]
        constructor
        · rintro ⟨v, (rfl | hv), h⟩
          · exact ⟨v, .inr (.inl rfl), h⟩
          · exact ⟨v, .inr (.inr hv), h⟩
        · rintro ⟨v, (rfl | rfl | hv), h⟩
          · exact ⟨y, .inl rfl, by omega⟩
          · exact ⟨v, .inl rfl, h⟩
          · exact ⟨v, .inr hv, h⟩
      · simp only [hyx, if_false, List.mem_cons]
        constructor
        · rintro ⟨v, (rfl | hv), h⟩
          · exact ⟨v, .inl rfl, h⟩
          · exact ⟨v, .inr (.inr hv), h⟩
        · rintro ⟨v, (rfl | rfl | hv), h⟩
          · exact ⟨v, .inl rfl, h⟩
          · exact ⟨x, .inl rfl, by omega⟩
          · exact ⟨v, .inr hv, h⟩
theorem maxL_ge (xs : List Int) (a : Int) (h : 0 < xs.length) : a ≤ maxL xs ↔ ∃ v ∈ xs, a ≤ v := by
  cases xs with
  | nil => simp at h
  | cons x xs =>
    clear h
    simp only [maxL]
    induction xs generalizing x with
    | nil => simp
    | cons y ys ih =>
      simp only [List.foldl_cons]
      rw [ih]
      by_cases hyx : x < y
      · simp only [hyx, if_true, List.mem_cons]
        constructor
        · rintro ⟨v, (rfl | hv), h⟩
          · exact ⟨v, .inr (.inl rfl), h⟩
          · exact ⟨v, .inr (.inr hv), h⟩
        · rintro ⟨v, (rfl | rfl | hv), h⟩
          · exact ⟨y, .inl rfl, by omega⟩
          · exact ⟨v, .inl rfl, h⟩
          · exact ⟨v, .inr hv, h⟩
      · simp only [hyx, if_false, List.mem_cons]
        constructor
        · rintro ⟨v, (rfl | hv), h⟩
          · exact ⟨v, .inl rfl, h⟩
          · exact ⟨v, .inr (.inr hv), h⟩
        · rintro ⟨v, (rfl | rfl | hv), h⟩
          · exact ⟨v, .inl rfl, h⟩
          · exact ⟨x, .inl rfl, by omega⟩
          · exact ⟨v, .inr hv, h⟩

def relOf (p : Pz) (c : Cn) : Rl := p.rels.getD c.rel.toNat default
def goodV (p : Pz) (v : Int) : Bool := decide (0 ≤ v) && decide (v < p.vars)
def goodC (p : Pz) (c : Cn) : Bool := decide (0 ≤ c.rel) && decide (c.rel < p.rels.length) && decide ((c.vars.length : Int) = (relOf p c).n) && c.vars.all (goodV p)
def goodP (p : Pz) : Bool := decide (1 ≤ p.vars) && decide (p.vars ≤ 8) && decide (p.rels.length ≤ 5) && decide (p.cons.length ≤ 12) && p.rels.all goodR && p.cons.all (goodC p)

theorem bad1_spec (r : Rl) : PCall Try.prog 95 [eRl r] (pB (!goodR r)) [] := by
  refine pcall_wp _ Try.func95 rfl (by kernel_rfl) rfl ?_
  simp -dsimp
  first
    | refine CallG.by (prel_spec r) ?_
    | refine CallGE.by (prel_spec r) ?_
    | refine CallGB.by (prel_spec r) ?_
  simp -dsimp
  refine retP_c ?_
  simp -dsimp
theorem bad2_spec (p : Pz) (c : Cn) (hr : p.rels.all goodR = true) : PCall Try.prog 96 [eCn c, .rp [eI p.vars, eRls p.rels, eCns p.cons] 0] (pB (!goodC p c)) [] := by
  refine pcall_agg 0 1 rfl rfl call96 fun hlen => ?_
  simp only [List.length_map] at hlen
  refine pcall_wp _ Try.func96 rfl (by kernel_rfl) rfl ?_
  simp -dsimp
  refine wk_draw 36 [8, 27] mixed (by kernel_rfl) ?_
  simp -dsimp
  refine condX_ndec (fun h1 => ?_) (fun h1 => ?_)
  rotate_left
  · have e : goodC p c = false := by simp [goodC, Int.not_le.2 h1]
    simp -dsimp [h1]
    refine retP_c ?_
    simp -dsimp [e]
  have h1' : 0 ≤ c.rel := by omega
  simp -dsimp [h1]
  refine condX_ndec (fun h2 => ?_) (fun h2 => ?_)
  rotate_left
  · have e : goodC p c = false := by simp [goodC, Int.not_lt.2 h2]
    simp -dsimp [h2]
    refine retP_c ?_
    simp -dsimp [e]
  have h2' : c.rel < p.rels.length := by omega
  have h2'' : c.rel.toNat < p.rels.length := by omega
  have hrel : relOf p c = p.rels[c.rel.toNat] := by simp [relOf, h2'']
  have hg := List.all_eq_true.1 hr _ (List.getElem_mem h2'')
  simp -dsimp [h1', h2', h2, h2'']
  refine condX_of (fun h3 => ?_) (fun h3 => ?_)
  rotate_left
  · have h3' : ¬ (c.vars.length : Int) = p.rels[c.rel.toNat].n := by simpa using h3
    have e : goodC p c = false := by simp [goodC, hrel, h3']
    have h3b : ((c.vars.length : Int) != p.rels[c.rel.toNat].n) = true := by simpa using h3'
    simp -dsimp [h3b]
    refine retP_c ?_
    simp -dsimp [e]
  have h3' : (c.vars.length : Int) = p.rels[c.rel.toNat].n := by simpa using h3
  have hn : 0 < c.vars.length := by
    simp only [goodR, Bool.and_eq_true, decide_eq_true_eq] at hg
    omega
  simp -dsimp [h3']
  first
    | refine CallG.by (min_spec c.vars hn) ?_
    | refine CallGE.by (min_spec c.vars hn) ?_
    | refine CallGB.by (min_spec c.vars hn) ?_
  simp -dsimp [h3']
  refine condX_ndec (fun h4 => ?_) (fun h4 => ?_)
  rotate_left
  · obtain ⟨v, hv, hlt⟩ := (minL_lt _ _ hn).1 h4
    have e : goodC p c = false := by
      simp only [goodC, Bool.and_eq_false_iff]
      refine .inr (List.all_eq_false.2 ⟨v, hv, ?_⟩)
      simp [goodV]
      omega
    simp -dsimp [h4]
    refine retP_c ?_
    simp -dsimp [e]
  simp -dsimp [h4]
  first
    | refine CallG.by (max_spec c.vars hn) ?_
    | refine CallGE.by (max_spec c.vars hn) ?_
    | refine CallGB.by (max_spec c.vars hn) ?_
  simp -dsimp [h4]
  refine retP_c ?_
  simp -dsimp
  rw [Bool.eq_iff_iff]
  simp only [decide_eq_true_eq, Bool.not_eq_true', maxL_ge _ _ hn]
  rw [minL_lt _ _ hn] at h4
  constructor
  · rintro ⟨v, hv, hlt⟩
    simp only [goodC, Bool.and_eq_false_iff]
    refine .inr (List.all_eq_false.2 ⟨v, hv, ?_⟩)
    simp [goodV]
    omega
  · intro hgc
    simp only [goodC, h1', h2', hrel, h3', decide_true, Bool.true_and, List.all_eq_false] at hgc
    obtain ⟨v, hv, hb⟩ := hgc
    have : ¬ v < 0 := fun hlt => h4 ⟨v, hv, hlt⟩
    simp [goodV] at hb
    exact ⟨v, hv, hb (by omega)⟩
theorem pvalid_spec (p : Pz) : PCall Try.prog 57 [ePz p] (pB (goodP p)) [] := by
  refine pcall_wp _ Try.func57 rfl (by kernel_rfl) rfl ?_
  simp -dsimp
  refine condX_ndec (fun h1 => ?_) (fun h1 => ?_)
  rotate_left
  · have e : goodP p = false := by simp [goodP, Int.not_le.2 h1]
    simp -dsimp [h1]
    refine retP_c ?_
    simp -dsimp [e]
  have h1' : 1 ≤ p.vars := by omega
  simp -dsimp [h1]
  refine condX_ndec (fun h2 => ?_) (fun h2 => ?_)
  rotate_left
  · have e : goodP p = false := by simp [goodP, Int.not_le.2 h2]
    simp -dsimp [h2]
    refine retP_c ?_
    simp -dsimp [e]
  have h2' : p.vars ≤ 8 := by omega
  simp -dsimp [h2]
  refine condX_ndec (fun h3 => ?_) (fun h3 => ?_)
  rotate_left
  · have e : goodP p = false := by
      have : ¬ p.rels.length ≤ 5 := by omega
      simp [goodP, this]
    simp -dsimp [h3]
    refine retP_c ?_
    simp -dsimp [e]
  have h3' : p.rels.length ≤ 5 := by omega
  simp -dsimp [h3]
  refine condX_ndec (fun h4 => ?_) (fun h4 => ?_)
  rotate_left
  · have e : goodP p = false := by
      have : ¬ p.cons.length ≤ 12 := by omega
      simp [goodP, this]
    simp -dsimp [h4]
    refine retP_c ?_
    simp -dsimp [e]
  have h4' : p.cons.length ≤ 12 := by omega
  simp -dsimp [h4]
  first
    | refine CallG.by (anyRl_spec p.rels 95 [] (fun r => !goodR r) fun r _ => bad1_spec r) ?_
    | refine CallGE.by (anyRl_spec p.rels 95 [] (fun r => !goodR r) fun r _ => bad1_spec r) ?_
    | refine CallGB.by (anyRl_spec p.rels 95 [] (fun r => !goodR r) fun r _ => bad1_spec r) ?_
  simp -dsimp
  refine condX_of (fun h5 => ?_) (fun h5 => ?_)
  · have e : goodP p = false := by
      have : p.rels.all goodR = false := by
        rw [List.any_eq_true] at h5
        obtain ⟨r, hr, hb⟩ := h5
        exact List.all_eq_false.2 ⟨r, hr, by simpa using hb⟩
      simp [goodP, this]
    simp -dsimp [h5]
    refine retP_c ?_
    simp -dsimp [e]
  have hr : p.rels.all goodR = true := by
    rw [List.any_eq_false] at h5
    rw [List.all_eq_true]
    intro r hr
    have := h5 r hr
    simpa using this
  simp -dsimp [h5]
  first
    | refine CallG.by (anyCn_spec p.cons 96 _ (fun c => !goodC p c) fun c _ => bad2_spec p c hr) ?_
    | refine CallGE.by (anyCn_spec p.cons 96 _ (fun c => !goodC p c) fun c _ => bad2_spec p c hr) ?_
    | refine CallGB.by (anyCn_spec p.cons 96 _ (fun c => !goodC p c) fun c _ => bad2_spec p c hr) ?_
  simp -dsimp
  refine retP_c ?_
  simp -dsimp
  have e : goodP p = p.cons.all (goodC p) := by
    simp only [goodP, h1', h2', h3', h4', hr, decide_true, Bool.true_and]
  rw [e]
  generalize p.cons = l
  induction l with
  | nil => rfl
  | cons c l ih => simp only [List.any_cons, List.all_cons, Bool.not_and, ih]
end Go.Proofs.Ytmneioafbkknhaa
