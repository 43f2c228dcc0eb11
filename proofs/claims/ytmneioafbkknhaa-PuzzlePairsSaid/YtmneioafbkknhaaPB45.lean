import Derived.Test.YtmneioafbkknhaaPB44
/- PB45: rows, with the closure of Pairs; the plain law of Pairs. -/
set_option linter.unusedVariables false
set_option linter.unusedSimpArgs false
set_option maxRecDepth 20000
namespace Go.Proofs.Ytmneioafbkknhaa
open Go Go.PS
attribute [-simp] List.map_take
@[simp] def nP (A : List Int) : List (Nat × Res) := [(1000000, .blk 98 (tabC A))]
/-- Some row gives two variables these values. -/
def rowGives (c : Cn) (r : Int) (i a j b : Nat) : Prop := ∃ x, valsF r c.vars 0 [] = some x ∧ x.lookup (i : Int) = some (a : Int) ∧ x.lookup (j : Int) = some (b : Int)
theorem prows2_spec (p : Pz) (c : Cn) (A : List Int) (n : Nat) (hn : n ≤ 8) (hA : tabP A) (h0 : 0 ≤ c.rel) (h1 : c.rel.toNat < p.rels.length) (hR : ∀ r ∈ (relOf p c).rows, InN 3 r) (hlr : (relOf p c).rows.length ≤ 8) (hc : c.vars.length ≤ 3) (hv : ∀ v ∈ c.vars, 0 ≤ v ∧ v < n) :
    ECallP Try.prog 69 [.agg [pI p.vars, .t .ro (eRls p.rels), .t .ro (eCns p.cons)], .agg [pI c.rel, .t .ro (eIs c.vars)], .clo 70 [.ptr 1000000 0]] (nP A) fun r M' => r = .tup [] ∧ ∃ A', M' = nP A' ∧ tabP A' ∧ ∀ i a j b : Nat, i < 8 → j < 8 → a < 2 → b < 2 → (hasF A' i a j b = true ↔ hasF A i a j b = true ∨ ∃ r ∈ (relOf p c).rows, rowGives c r i a j b) := by
  refine ecallP_wp Try.func69 rfl (by kernel_rfl) ?_
  have hrel : relOf p c = p.rels[c.rel.toNat] := by simp [relOf, h1]
  rw [hrel] at hR hlr ⊢
  have h1' : c.rel < (p.rels.length : Int) := by omega
  simp -dsimp [h0, h1, h1']
  generalize p.rels[c.rel.toNat] = rr at *
  refine wk_loop (fun q : Nat × List Int => ⟨[(18, pI q.1), (17, pI rr.rows.length), (16, .t .ro (eIs rr.rows)), (2, .clo 70 [.ptr 1000000 0]), (4, .ptr 4 0)], (4, .blk 39 [pI c.rel, .t .ro (eIs c.vars)]) :: nP q.2⟩)
    (fun q => q.1 ≤ rr.rows.length ∧ tabP q.2 ∧ ∀ i a j b : Nat, i < 8 → j < 8 → a < 2 → b < 2 → (hasF q.2 i a j b = true ↔ hasF A i a j b = true ∨ ∃ r ∈ rr.rows.take q.1, rowGives c r i a j b)) (fun q => rr.rows.length - q.1) (0, A) (le_of (by simp) (by simp)) ⟨by simp, hA, by simp⟩ fun ⟨i, A1⟩ ⟨hi, hA1, hJ⟩ => ?_
  dsimp only at hi hA1 hJ
  simp -dsimp
  refine condX_dec (fun h => ?_) (fun h => ?_)
  rotate_left
  · have e : i = rr.rows.length := by omega
    subst e
    rw [List.take_length] at hJ
    simp -dsimp
    refine retEP_c (.tup []) (nP A1) ⟨rfl, A1, rfl, hA1, hJ⟩ (by simp) (by simp)
  have hw := wr (n := (i : Int) + 1) (by omega) (by omega)
  have hri := hR _ (List.getElem_mem h)
  have htk : rr.rows.take (i + 1) = rr.rows.take i ++ [rr.rows[i]] := by
    rw [List.take_add_one, List.getElem?_eq_getElem h]
    rfl
  simp -dsimp [h]
  cases hval : valsF rr.rows[i] c.vars 0 [] with
  | none =>
    first
      | refine CallG.by (values_spec c rr.rows[i] none hval) ?_
      | refine CallGE.by (values_spec c rr.rows[i] none hval) ?_
      | refine CallGB.by (values_spec c rr.rows[i] none hval) ?_
    simp -dsimp [hw, valsM, valsR]
    refine LoopP_next (i + 1, A1) (le_of (by simp) (by simp)) ⟨h, hA1, fun i' a j b hi' hj ha hb => ?_⟩ (by simp only; omega)
    dsimp only
    rw [hJ i' a j b hi' hj ha hb, htk]
    constructor
    · rintro (h | ⟨r, hr, hg⟩)
      · exact .inl h
      · exact .inr ⟨r, List.mem_append_left _ hr, hg⟩
    · rintro (h | ⟨r, hr, hg⟩)
      · exact .inl h
      · rcases List.mem_append.1 hr with hr | hr
        · exact .inr ⟨r, hr, hg⟩
        · simp at hr
          subst hr
          obtain ⟨x, hx, _⟩ := hg
          rw [hval] at hx
          cases hx
  | some x =>
    have hgx := vals_good hri hc hv hval
    first
      | refine CallG.by (values_spec c rr.rows[i] (some x) hval) ?_
      | refine CallGE.by (values_spec c rr.rows[i] (some x) hval) ?_
      | refine CallGB.by (values_spec c rr.rows[i] (some x) hval) ?_
    simp -dsimp [valsM, valsR]
    first
      | refine CallG.onP (g := [(1000000, 1000000), (25, 1000010)]) (pairs1_spec A1 x n hn hA1 hgx) (by decide) (by simp) (by simp) (by simp [Sg.bk]) fun r M' hP => ?_
      | refine CallN.onP (g := [(1000000, 1000000), (25, 1000010)]) (pairs1_spec A1 x n hn hA1 hgx) (by decide) (by simp) (by simp) (by simp [Sg.bk]) fun r M' hP => ?_
    obtain ⟨rfl, A2, rfl, hA2, hA2b⟩ := hP
    simp -dsimp [hw]
    refine LoopP_next (i + 1, A2) (le_of (by simp) (by simp)) ⟨h, hA2, fun i' a j b hi' hj ha hb => ?_⟩ (by simp only; omega)
    dsimp only
    rw [hA2b i' a j b hi' hj ha hb, hJ i' a j b hi' hj ha hb, htk]
    constructor
    · rintro ((h | ⟨r, hr, hg⟩) | h)
      · exact .inl h
      · exact .inr ⟨r, List.mem_append_left _ hr, hg⟩
      · exact .inr ⟨_, List.mem_append_right _ (List.mem_singleton.2 rfl), x, hval, h⟩
    · rintro (h | ⟨r, hr, hg⟩)
      · exact .inl (.inl h)
      · rcases List.mem_append.1 hr with hr | hr
        · exact .inl (.inr ⟨r, hr, hg⟩)
        · simp at hr
          subst hr
          obtain ⟨y, hy, hg⟩ := hg
          rw [hval] at hy
          cases hy
          exact .inr hg
/-- Some row of a Cons gives these places these values. -/
def alw (rows : List Int) (c : Cn) (i a j b : Nat) : Prop := ∃ r ∈ rows, agreesF c r = true ∧ (∃ k, k < c.vars.length ∧ vAt c k = i ∧ bt r k = (a == 1)) ∧ ∃ k, k < c.vars.length ∧ vAt c k = j ∧ bt r k = (b == 1)
theorem rowGives_iff {c : Cn} {r : Int} (hr : InN 3 r) (hc : c.vars.length ≤ 3) {i a j b : Nat} (ha : a < 2) (hb : b < 2) : rowGives c r i a j b ↔ agreesF c r = true ∧ (∃ k, k < c.vars.length ∧ vAt c k = i ∧ bt r k = (a == 1)) ∧ ∃ k, k < c.vars.length ∧ vAt c k = j ∧ bt r k = (b == 1) := by
  have hv : ∀ (x : List (Int × Int)), ValI r c.vars c.vars.length x → ∀ (v y : Nat), y < 2 → (x.lookup (v : Int) = some (y : Int) ↔ ∃ k, k < c.vars.length ∧ vAt c k = v ∧ bt r k = (y == 1)) := by
    intro x hx v y hy
    constructor
    · intro h
      obtain ⟨k, hk, h1, h2⟩ := hx.from_ _ _ h
      refine ⟨k, hk, h1, ?_⟩
      rw [rbI_eq hr (by omega)] at h2
      cases hbk : bt r k with
      | true =>
        rw [hbk] at h2
        have : y = 1 := by simp at h2; omega
        rw [this]
        rfl
      | false =>
        rw [hbk] at h2
        have : y = 0 := by simp at h2; omega
        rw [this]
        rfl
    · rintro ⟨k, hk, h1, h2⟩
      have := hx.get k hk
      rw [show c.vars.getD k 0 = vAt c k from rfl, h1, rbI_eq hr (by omega), h2] at this
      rw [this]
      have hy' : y = 0 ∨ y = 1 := by omega
      rcases hy' with rfl | rfl <;> rfl
  constructor
  · rintro ⟨x, hx, h1, h2⟩
    cases hag : agreesF c r with
    | false =>
      rw [vals_none hr hc hag] at hx
      cases hx
    | true =>
      obtain ⟨y, hy, hyv⟩ := vals_some hr hc hag
      rw [hx] at hy
      cases hy
      exact ⟨rfl, (hv x hyv i a ha).1 h1, (hv x hyv j b hb).1 h2⟩
  · rintro ⟨hag, h1, h2⟩
    obtain ⟨y, hy, hyv⟩ := vals_some hr hc hag
    exact ⟨y, hy, (hv y hyv i a ha).2 h1, (hv y hyv j b hb).2 h2⟩
def subQ (n : Nat) (E X : List Int) : Prop := ∀ i a j b : Nat, i < n → j < n → a < 2 → b < 2 → hasF E i a j b = true → hasF X i a j b = true
/-- What a pair must be, besides being supported. -/
def baseQ (p : Pz) (cs : List Cn) (i a j b : Nat) : Prop := (i = j → a = b) ∧ ∀ c ∈ cs, (i : Int) ∈ c.vars → (j : Int) ∈ c.vars → alw (relOf p c).rows c i a j b
def closedQ (p : Pz) (X : List Int) : Prop := ∀ i a j b : Nat, i < p.vars.toNat → j < p.vars.toNat → a < 2 → b < 2 → hasF X i a j b = true → baseQ p p.cons i a j b ∧ supP X p.vars.toNat i a j b = true
def PairLaw (p : Pz) (X : List Int) : Prop := tabP X ∧ closedQ p X ∧ ∀ E, tabP E → closedQ p E → subQ p.vars.toNat E X
theorem supP_iff {X : List Int} {n i a j b : Nat} : supP X n i a j b = true ↔ ∀ k, k < n → ∃ d, d < 2 ∧ hasF X i a k d = true ∧ hasF X j b k d = true := by
  simp only [supP, List.all_eq_true, List.mem_range, Bool.or_eq_true, Bool.and_eq_true]
  constructor
  · intro h k hk
    rcases h k hk with ⟨h1, h2⟩ | ⟨h1, h2⟩
    · exact ⟨0, by omega, h1, h2⟩
    · exact ⟨1, by omega, h1, h2⟩
  · intro h k hk
    obtain ⟨d, hd, h1, h2⟩ := h k hk
    have : d = 0 ∨ d = 1 := by omega
    rcases this with rfl | rfl
    · exact .inl ⟨h1, h2⟩
    · exact .inr ⟨h1, h2⟩
theorem supP_mono {n : Nat} {E X : List Int} (h : subQ n E X) {i a j b : Nat} (hi : i < n) (hj : j < n) (ha : a < 2) (hb : b < 2) (hs : supP E n i a j b = true) : supP X n i a j b = true := by
  rw [supP_iff] at hs ⊢
  intro k hk
  obtain ⟨d, hd, h1, h2⟩ := hs k hk
  exact ⟨d, hd, h i a k d hi hk ha hd h1, h j b k d hj hk hb hd h2⟩
/-- What Pairs keeps on its way. -/
structure ParI (p : Pz) (X : List Int) : Prop where
  tab : tabP X
  sup : ∀ E, tabP E → closedQ p E → subQ p.vars.toNat E X
def sizeT (X : List Int) : Nat := (X.map fun x => ((List.range 4).filter (bt x)).length).sum
theorem filt_sub {f g : Nat → Bool} (h : ∀ i, g i = true → f i = true) : ∀ l : List Nat, (l.filter g).length ≤ (l.filter f).length := fltLe f g h
theorem sizeT_set {X : List Int} {k : Nat} (hk : k < X.length) {y : Int} (h : ∀ t, bt y t = true → bt X[k] t = true) {t : Nat} (ht : t < 4) (h1 : bt X[k] t = true) (h2 : bt y t = false) : sizeT (X.set k y) < sizeT X :=
  sum_set_lt X k y hk (fltLt (bt X[k]) (bt y) h t h1 h2 _ (List.mem_range.2 ht))
end Go.Proofs.Ytmneioafbkknhaa
