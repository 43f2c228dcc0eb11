import Derived.Test.YtfcbmcmkakceaaaDoorLB7
/- LB8: Answer, Win. -/
set_option linter.unusedVariables false
set_option linter.unusedSimpArgs false
set_option maxRecDepth 20000
namespace Go.Proofs.YtfcbmcmkakceaaaDoor
open Go Go.PS
attribute [-simp] isKeyK List.map_take
/-- Whether numbers are nodes. -/
def ndsB (n : Nat) (l : List Int) : Bool := l.all fun x => decide (0 ≤ x ∧ x < n)
theorem nds_at {n : Nat} {l : List Int} : ndsB n l = true ↔ ∀ i, i < l.length → 0 ≤ l.getD i 0 ∧ l.getD i 0 < n := by
  unfold ndsB
  rw [List.all_eq_true]
  constructor
  · intro h i hi
    have := h l[i] (List.getElem_mem hi)
    simpa [List.getD_eq_getElem?_getD, hi] using this
  · intro h x hx
    obtain ⟨i, hi, rfl⟩ := List.mem_iff_getElem.1 hx
    have := h i hi
    simpa [List.getD_eq_getElem?_getD, hi] using this
theorem nds_back {n : Nat} {l : List Int} (h : ndsB n l = true) : iL (townOf l) = l := by
  apply List.ext_getElem (by simp [town_len])
  intro i h1 h2
  have := nds_at.1 h i h2
  simp only [List.getD_eq_getElem?_getD, List.getElem?_eq_getElem h2, Option.getD_some] at this
  simp [iL, townOf]
  omega
def ansOK (g h : List Int) (k : Int) (a b : List Int) : Bool := (isgB g && isgB h) && (decide (0 ≤ k ∧ k ≤ 3) && (decide (a.length = b.length ∧ a.length ≤ 3) && (ndsB g.length a && ndsB h.length b)))
def ansF (g h : List Int) (k : Int) (a b : List Int) : TL := if ansOK g h k a b = true then .tup [eB (winN k.toNat (townOf g) (townOf h) (townOf a) (townOf b)), eI 0] else .tup [eB false, eI 2]
theorem answer_spec (g h : List Int) (k : Int) (a b : List Int) : PCall Tryd.prog 21 [eIs g, eIs h, eI k, eIs a, eIs b] (.t .fz (ansF g h k a b)) [] := by
  have hbo := both_spec g h
  have hro := rounds_spec k
  have hF0 : ansOK g h k a b = false → ansF g h k a b = .tup [eB false, eI 2] := fun h => by rw [ansF, h]; rfl
  refine pcall_wp _ Tryd.func21 rfl (by kernel_rfl) rfl ?_
  rw [bothF] at hbo
  cases hg : isgB g with
  | false =>
    have hF := hF0 (by rw [ansOK, hg]; rfl)
    rw [hg] at hbo
    cases hh : isgB h
    all_goals
      rw [hh] at hbo
      simp only [if_true, Bool.false_eq_true, if_false, Bool.and_true, Bool.and_false, Bool.true_and, Bool.false_and, Bool.and_self, nilT] at hbo
      simp -dsimp
      first
        | refine CallG.by (hbo) ?_
        | refine CallGE.by (hbo) ?_
        | refine CallGB.by (hbo) ?_
      simp -dsimp
      refine retP_c ?_
      simp -dsimp [hF]
  | true =>
    cases hh : isgB h with
    | false =>
      have hF := hF0 (by rw [ansOK, hg, hh]; rfl)
      rw [hg, hh] at hbo
      simp only [if_true, Bool.false_eq_true, if_false, Bool.and_true, Bool.and_false, Bool.true_and, Bool.false_and, Bool.and_self, nilT] at hbo
      simp -dsimp
      first
        | refine CallG.by (hbo) ?_
        | refine CallGE.by (hbo) ?_
        | refine CallGB.by (hbo) ?_
      simp -dsimp
      refine retP_c ?_
      simp -dsimp [hF]
    | true =>
      rw [hg, hh] at hbo
      simp only [if_true, Bool.and_self] at hbo
      by_cases hk : 0 ≤ k ∧ k ≤ 3
      rotate_left
      · have hF := hF0 (by rw [ansOK, hg, hh, decide_eq_false hk]; rfl)
        rw [decide_eq_false hk] at hro
        simp -dsimp
        first
          | refine CallG.by (hbo) ?_
          | refine CallGE.by (hbo) ?_
          | refine CallGB.by (hbo) ?_
        simp -dsimp
        first
          | refine CallG.by (hro) ?_
          | refine CallGE.by (hro) ?_
          | refine CallGB.by (hro) ?_
        simp -dsimp
        refine retP_c ?_
        simp -dsimp [hF]
      rw [decide_eq_true hk] at hro
      by_cases hl : (a.length : Int) = b.length
      rotate_left
      · have hF := hF0 (by rw [ansOK, hg, hh, decide_eq_true hk, decide_eq_false (show ¬ (a.length = b.length ∧ a.length ≤ 3) by omega)]; rfl)
        have hne : ((a.length : Int) != b.length) = true := by simpa using hl
        simp -dsimp
        first
          | refine CallG.by (hbo) ?_
          | refine CallGE.by (hbo) ?_
          | refine CallGB.by (hbo) ?_
        simp -dsimp
        first
          | refine CallG.by (hro) ?_
          | refine CallGE.by (hro) ?_
          | refine CallGB.by (hro) ?_
        simp -dsimp [hne]
        refine retP_c ?_
        simp -dsimp [hF]
      have hne : ((a.length : Int) != b.length) = false := by simpa using hl
      by_cases h3 : 3 < (a.length : Int)
      · have hF := hF0 (by rw [ansOK, hg, hh, decide_eq_true hk, decide_eq_false (show ¬ (a.length = b.length ∧ a.length ≤ 3) by omega)]; rfl)
        simp -dsimp
        first
          | refine CallG.by (hbo) ?_
          | refine CallGE.by (hbo) ?_
          | refine CallGB.by (hbo) ?_
        simp -dsimp
        first
          | refine CallG.by (hro) ?_
          | refine CallGE.by (hro) ?_
          | refine CallGB.by (hro) ?_
        simp -dsimp [hne, h3]
        refine retP_c ?_
        simp -dsimp [hF]
      have hok : ansOK g h k a b = (ndsB g.length a && ndsB h.length b) := by
        rw [ansOK, hg, hh, decide_eq_true hk, decide_eq_true (show a.length = b.length ∧ a.length ≤ 3 by omega)]
        simp
      have hbad : ∀ i, i < a.length → ¬ ((0 ≤ a.getD i 0 ∧ a.getD i 0 < g.length) ∧ 0 ≤ b.getD i 0 ∧ b.getD i 0 < h.length) → ansF g h k a b = .tup [eB false, eI 2] := fun i hi hn => by
        apply hF0
        rw [hok, Bool.eq_false_iff]
        intro hc
        rw [Bool.and_eq_true] at hc
        exact hn ⟨nds_at.1 hc.1 i hi, nds_at.1 hc.2 i (by omega)⟩
      have hall : (∀ i, i < a.length → (0 ≤ a.getD i 0 ∧ a.getD i 0 < g.length) ∧ 0 ≤ b.getD i 0 ∧ b.getD i 0 < h.length) → ansF g h k a b = .tup [eB (winN k.toNat (townOf g) (townOf h) (townOf a) (townOf b)), eI 0] ∧ PCall Tryd.prog 58 [.agg [eIs g, eIs a], .agg [eIs h, eIs b], eI k] (pB (winN k.toNat (townOf g) (townOf h) (townOf a) (townOf b))) [] := fun hal => by
        have ha : ndsB g.length a = true := nds_at.2 fun i hi => (hal i hi).1
        have hb : ndsB h.length b = true := nds_at.2 fun i hi => (hal i (by omega)).2
        refine ⟨by rw [ansF, hok, ha, hb]; rfl, ?_⟩
        have hw := wins_spec k.toNat (townOf g) (townOf h) (townOf a) (townOf b) (town_tow hg) (town_tow hh) (by rw [town_len, town_len]; omega) (by rw [town_len]; omega) fun i hi => by
          rw [town_len] at hi
          have := hal i hi
          rw [town_get, town_get, town_len, town_len]
          omega
        rw [eSide, eSide, eNs, eNs, eNs, eNs, town_back hg, town_back hh, nds_back ha, nds_back hb, show ((k.toNat : Nat) : Int) = k by omega] at hw
        exact hw
      simp -dsimp
      first
        | refine CallG.by (hbo) ?_
        | refine CallGE.by (hbo) ?_
        | refine CallGB.by (hbo) ?_
      simp -dsimp
      first
        | refine CallG.by (hro) ?_
        | refine CallGE.by (hro) ?_
        | refine CallGB.by (hro) ?_
      simp -dsimp [hne, h3]
      refine wk_loop (fun i : Nat => ⟨[(44, pI i), (43, pI a.length), (12, .t .ro (eIs g)), (13, .t .ro (eIs h)), (2, .t .ro (eI k)), (3, .t .ro (eIs a)), (4, .t .ro (eIs b))], []⟩)
        (fun i => i ≤ a.length ∧ ∀ j, j < i → (0 ≤ a.getD j 0 ∧ a.getD j 0 < g.length) ∧ 0 ≤ b.getD j 0 ∧ b.getD j 0 < h.length) (fun i => a.length - i) 0
        (le_of (by simp) (by simp)) ⟨by omega, fun k h => by omega⟩ fun i ⟨hi, hJ⟩ => ?_
      simp -dsimp
      refine condX_dec (fun hc => ?_) (fun hc => ?_)
      rotate_left
      · have hi' : i = a.length := by omega
        subst hi'
        obtain ⟨hF, hw⟩ := hall hJ
        simp -dsimp
        first
          | refine CallG.by (hw) ?_
          | refine CallGE.by (hw) ?_
          | refine CallGB.by (hw) ?_
        simp -dsimp
        refine retP_c ?_
        simp -dsimp [hF]
      have hwi := wr (n := (i : Int) + 1) (by omega) (by omega)
      have q1 := at_ (l := a) (i := i) hc
      have q2 := at_ (l := b) (i := i) (by omega)
      have i1 : (i : Int) < a.length := by omega
      have i2 : (i : Int) < b.length := by omega
      have i5 : (0 : Int) ≤ i := by omega
      have hbi := hbad i hc
      have hgo : ((0 ≤ a.getD i 0 ∧ a.getD i 0 < g.length) ∧ 0 ≤ b.getD i 0 ∧ b.getD i 0 < h.length) → ∀ j, j < i + 1 → (0 ≤ a.getD j 0 ∧ a.getD j 0 < g.length) ∧ 0 ≤ b.getD j 0 ∧ b.getD j 0 < h.length := fun hx j hj => by
        rcases Nat.lt_or_ge j i with h5 | h5
        · exact hJ j h5
        · rwa [show j = i by omega]
      generalize a.getD i 0 = x at *
      generalize b.getD i 0 = y at *
      obtain ⟨m, hm⟩ : ∃ m, (if y < x then y else x) = m := ⟨_, rfl⟩
      have hm0 : m < 0 ↔ ¬ (0 ≤ x ∧ 0 ≤ y) := by
        rw [← hm]
        split <;> omega
      simp -dsimp
      refine wk_draw 26 [8, 16, 25] mixed (by kernel_rfl) ?_
      by_cases c1 : m < 0
      · have hF := hbi (by omega)
        simp -dsimp [i1, i2, i5, q1, q2, hm, c1]
        refine retP_c ?_
        simp -dsimp [hF]
      by_cases c2 : (g.length : Int) ≤ x
      · have hF := hbi (by omega)
        simp -dsimp [i1, i2, i5, q1, q2, hm, c1, c2]
        refine retP_c ?_
        simp -dsimp [hF]
      by_cases c3 : (h.length : Int) ≤ y
      · have hF := hbi (by omega)
        simp -dsimp [i1, i2, i5, q1, q2, hm, c1, c2, c3]
        refine retP_c ?_
        simp -dsimp [hF]
      simp -dsimp [i1, i2, i5, q1, q2, hm, c1, c2, c3]
      refine LoopP_next (i + 1) (le_of (by simp [hwi]) (by simp)) ⟨hc, hgo (by omega)⟩ (by omega)
/-- An argument that says more. -/
theorem pcall_args {P : Program} {f : Nat} {args args' : List TL} {r : PV} {Mr : List (Nat × Res)} (h : PCall P f args r Mr) (hl : args'.length = args.length)
    (ha : ∀ (w : World) (S : Nat → Prop) (i : Nat) (x : TL) (v : Value), args[i]? = some x → (∀ y, args'[i]? = some y → TRep w S y v) → TRep w S x v) : PCall P f args' r Mr := by
  refine ⟨h.1, fun w S vals hG hS hv hr => h.2 w S vals hG hS (by omega) fun i x hx => ha w S i x _ hx fun y hy => hr i y hy⟩
/-- nil is as good as no nodes. -/
theorem win_spec (g h : List Int) (k : Int) : PCall Tryd.prog 16 [eIs g, eIs h, eI k] (.t .fz (ansF g h k [] [])) [] := by
  have h0 := answer_spec g h k [] []
  have h1 : PCall Tryd.prog 21 [eIs g, eIs h, eI k, .v (.slice none 0 0), .v (.slice none 0 0)] (.t .fz (ansF g h k [] [])) [] := by
    refine pcall_args h0 rfl fun w S i x v hx hy => ?_
    match i, hx with
    | 0, hx => exact hy x hx
    | 1, hx => exact hy x hx
    | 2, hx => exact hy x hx
    | 3, hx =>
      simp only [eIs, List.getElem?_cons_succ, List.getElem?_cons_zero, Option.some.injEq] at hx
      subst hx
      exact nil_any' w S v (hy _ rfl)
    | 4, hx =>
      simp only [eIs, List.getElem?_cons_succ, List.getElem?_cons_zero, Option.some.injEq] at hx
      subst hx
      exact nil_any' w S v (hy _ rfl)
    | i + 5, hx => simp at hx
  clear h0
  have hF : ansF g h k [] [] = ansF g h k [] [] := rfl
  rw [ansF] at h1 ⊢
  refine pcall_wp _ Tryd.func16 rfl (by kernel_rfl) rfl ?_
  split at h1
  · rename_i hc
    rw [if_pos hc]
    simp -dsimp
    first
      | refine CallG.by (h1) ?_
      | refine CallGE.by (h1) ?_
      | refine CallGB.by (h1) ?_
    simp -dsimp
    refine retP_c ?_
    simp -dsimp
  · rename_i hc
    rw [if_neg hc]
    simp -dsimp
    first
      | refine CallG.by (h1) ?_
      | refine CallGE.by (h1) ?_
      | refine CallGB.by (h1) ?_
    simp -dsimp
    refine retP_c ?_
    simp -dsimp
end Go.Proofs.YtfcbmcmkakceaaaDoor
