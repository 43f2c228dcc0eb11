import Derived.Test.YtmneioafbkknhaaPB45
/- PB47: the plain law of Pairs: pairs decide majorities; a solution's pairs stay. -/
set_option linter.unusedVariables false
set_option linter.unusedSimpArgs false
set_option maxRecDepth 20000
namespace Go.Proofs.Ytmneioafbkknhaa
open Go Go.PS
attribute [-simp] List.map_take
theorem pair_sym {p : Pz} {X : List Int} (h : closedQ p X) {i a j b : Nat} (hi : i < p.vars.toNat) (hj : j < p.vars.toNat) (ha : a < 2) (hb : b < 2) (hh : hasF X i a j b = true) : hasF X j b i a = true := by
  obtain ⟨d, hd, h1, h2⟩ := supP_iff.1 (h i a j b hi hj ha hb hh).2 i hi
  have e := (h i a i d hi hi ha hd h1).1.1 rfl
  subst e
  exact h2
theorem pair_diag {p : Pz} {X : List Int} (h : closedQ p X) {i a j b : Nat} (hi : i < p.vars.toNat) (hj : j < p.vars.toNat) (ha : a < 2) (hb : b < 2) (hh : hasF X i a j b = true) : hasF X j b j b = true := by
  obtain ⟨d, hd, h1, h2⟩ := supP_iff.1 (h i a j b hi hj ha hb hh).2 j hj
  have e := (h j b j d hj hj hb hd h2).1.1 rfl
  subst e
  exact h2
/-- Values that fit in pairs have one of every further variable. -/
theorem pair_ext {p : Pz} {X : List Int} (h : closedQ p X) {f : Nat → Nat} (hf : ∀ v, f v < 2) {k : Nat} (hk : k < p.vars.toNat) (hJ : ∀ i j, i < k → j < k → hasF X i (f i) j (f j) = true) : ∃ d, d < 2 ∧ ∀ i, i < k → hasF X i (f i) k d = true := by
  by_cases h0 : ∀ i, i < k → hasF X i (f i) k 0 = true
  · exact ⟨0, by omega, h0⟩
  · obtain ⟨i, hi⟩ := Classical.not_forall.1 h0
    obtain ⟨hik, hi0⟩ := Classical.not_imp.1 hi
    refine ⟨1, by omega, fun j hj => ?_⟩
    obtain ⟨d, hd, h1, h2⟩ := supP_iff.1 (h i (f i) j (f j) (by omega) (by omega) (hf i) (hf j) (hJ i j hik hj)).2 k hk
    have hd' : d = 0 ∨ d = 1 := by omega
    rcases hd' with rfl | rfl
    · exact absurd h1 hi0
    · exact h2
/-- Some values fit in pairs. -/
theorem pair_all {p : Pz} {X : List Int} (h : closedQ p X) {a0 b0 : Nat} (ha0 : a0 < 2) (hb0 : b0 < 2) (h00 : hasF X 0 a0 0 b0 = true) : ∀ k, k ≤ p.vars.toNat → ∃ f : Nat → Nat, (∀ v, f v < 2) ∧ ∀ i j, i < k → j < k → hasF X i (f i) j (f j) = true := by
  intro k
  induction k with
  | zero => exact fun _ => ⟨fun _ => 0, fun _ => by show 0 < 2; omega, fun i j hi => by omega⟩
  | succ k ih =>
    intro hk
    obtain ⟨f, hf, hJ⟩ := ih (by omega)
    obtain ⟨d, hd, h1, h2⟩ : ∃ d, d < 2 ∧ (∀ i, i < k → hasF X i (f i) k d = true) ∧ hasF X k d k d = true := by
      rcases Nat.eq_zero_or_pos k with e | hpos
      · subst e
        have e := (h 0 a0 0 b0 (by omega) (by omega) ha0 hb0 h00).1.1 rfl
        subst e
        exact ⟨a0, ha0, fun i hi => by omega, h00⟩
      · obtain ⟨d, hd, h1⟩ := pair_ext h hf (by omega : k < p.vars.toNat) hJ
        exact ⟨d, hd, h1, pair_diag h (by omega : 0 < p.vars.toNat) (by omega) (hf 0) hd (h1 0 hpos)⟩
    refine ⟨fun v => if v = k then d else f v, fun v => ?_, fun i j hi hj => ?_⟩
    · dsimp only
      split
      · exact hd
      · exact hf v
    · dsimp only
      by_cases ei : i = k
      · rw [if_pos ei]
        subst ei
        by_cases ej : j = i
        · rw [if_pos ej]
          subst ej
          exact h2
        · rw [if_neg ej]
          exact pair_sym h (by omega) (by omega) (hf j) hd (h1 j (by omega))
      · rw [if_neg ei]
        by_cases ej : j = k
        · rw [if_pos ej]
          subst ej
          exact h1 i (by omega)
        · rw [if_neg ej]
          exact hJ i j (by omega) (by omega)
theorem maj3 (x y z w : Bool) : (x = w → y = w → opB 4 [x, y, z] = w) ∧ (x = w → z = w → opB 4 [x, y, z] = w) ∧ (y = w → z = w → opB 4 [x, y, z] = w) := by
  cases x <;> cases y <;> cases z <;> cases w <;> decide
/-- Rows that majorities keep, with the values of any two places right, have a row with all values right. -/
theorem maj_row {r : Rl} {n : Nat} (hn : (n : Int) = r.n) (hn3 : n ≤ 3) (hn1 : 1 ≤ n) (hb : brokenF r 4 = none) (hin : ∀ x ∈ r.rows, InN n x) (g : Nat → Bool) (h : ∀ k l, k < n → l < n → ∃ x ∈ r.rows, bt x k = g k ∧ bt x l = g l) : ∃ R ∈ r.rows, ∀ j, j < n → bt R j = g j := by
  have h3 : n = 1 ∨ n = 2 ∨ n = 3 := by omega
  rcases h3 with e | e | e
  · obtain ⟨x, hx, h1, _⟩ := h 0 0 (by omega) (by omega)
    refine ⟨x, hx, fun j hj => ?_⟩
    have : j = 0 := by omega
    subst this
    exact h1
  · obtain ⟨x, hx, h1, h2⟩ := h 0 1 (by omega) (by omega)
    refine ⟨x, hx, fun j hj => ?_⟩
    have : j = 0 ∨ j = 1 := by omega
    rcases this with rfl | rfl
    · exact h1
    · exact h2
  · obtain ⟨x, hx, x1, x2⟩ := h 0 1 (by omega) (by omega)
    obtain ⟨y, hy, y1, y2⟩ := h 0 2 (by omega) (by omega)
    obtain ⟨z, hz, z1, z2⟩ := h 1 2 (by omega) (by omega)
    have hm : ∀ u ∈ [x, y, z], u ∈ r.rows := by
      intro u hu
      simp at hu
      rcases hu with rfl | rfl | rfl
      · exact hx
      · exact hy
      · exact hz
    refine ⟨opF 4 r.n [x, y, z], brokenF_none.1 hb _ rfl hm, fun j hj => ?_⟩
    rw [← hn, opF_bit 4 n (by decide) (by omega) _ rfl (fun u hu => hin u (hm u hu)) j hj]
    show opB 4 [bt x j, bt y j, bt z j] = g j
    have hj3 : j = 0 ∨ j = 1 ∨ j = 2 := by omega
    obtain ⟨m1, m2, m3⟩ := maj3 (bt x j) (bt y j) (bt z j) (g j)
    rcases hj3 with rfl | rfl | rfl
    · exact m1 x1 y1
    · exact m2 x2 z1
    · exact m3 y2 z2
/-- Pairs decide majorities. -/
theorem two_law {p : Pz} (hg : goodP p = true) {X : List Int} (hX : PairLaw p X) (hk : p.cons.all (keepC p 4) = true) {a0 b0 : Nat} (ha0 : a0 < 2) (hb0 : b0 < 2) (h00 : hasF X 0 a0 0 b0 = true) : allS p ≠ [] := by
  have hv := vars_le hg
  obtain ⟨f, hf, hJ⟩ := pair_all hX.2.1 ha0 hb0 h00 p.vars.toNat (Nat.le_refl _)
  let g : Nat → Bool := fun v => f v == 1
  have hlt := bitsN_lt g p.vars.toNat
  have hN8 : 2 ^ p.vars.toNat ≤ 2 ^ 8 := Nat.pow_le_pow_right (by decide) (by omega)
  have hmem : ((bitsN g p.vars.toNat : Nat) : Int) ∈ allS p := by
    refine (mem_allS hg _).2 ⟨⟨_, rfl, hlt⟩, fun c hc => ?_⟩
    have hci := consI hg hc
    have hvar : ∀ j, j < c.vars.length → 0 ≤ vAt c j ∧ vAt c j < p.vars := fun j hj => by
      have hvj : vAt c j = c.vars[j] := getD_mem hj
      rw [hvj]
      exact hci.var _ (List.getElem_mem hj)
    have hvm : ∀ j, j < c.vars.length → vAt c j ∈ c.vars := fun j hj => by
      have hvj : vAt c j = c.vars[j] := getD_mem hj
      rw [hvj]
      exact List.getElem_mem hj
    have hvv : ∀ v ∈ c.vars, 0 ≤ v ∧ v ≤ 64 := fun v h => by have := hci.var v h; omega
    have hb : brokenF (relOf p c) 4 = none := by
      have := List.all_eq_true.1 hk c hc
      rw [keepC] at this
      simpa using this
    have h2 : ∀ k l, k < c.vars.length → l < c.vars.length → ∃ x ∈ (relOf p c).rows, bt x k = g (vAt c k).toNat ∧ bt x l = g (vAt c l).toNat := by
      intro k l hkl hll
      have b1 := hvar k hkl
      have b2 := hvar l hll
      have hq := (hX.2.1 (vAt c k).toNat (f (vAt c k).toNat) (vAt c l).toNat (f (vAt c l).toNat) (by omega) (by omega) (hf _) (hf _) (hJ _ _ (by omega) (by omega))).1.2 c hc (by rw [Int.toNat_of_nonneg b1.1]; exact hvm k hkl) (by rw [Int.toNat_of_nonneg b2.1]; exact hvm l hll)
      obtain ⟨r, hr, hag, ⟨k', hk', e1, e2⟩, l', hl', e3, e4⟩ := hq
      rw [Int.toNat_of_nonneg b1.1] at e1
      rw [Int.toNat_of_nonneg b2.1] at e3
      exact ⟨r, hr, by rw [agreesF_iff.1 hag k k' hkl hk' e1.symm, e2], by rw [agreesF_iff.1 hag l l' hll hl' e3.symm, e4]⟩
    obtain ⟨R, hRm, hRb⟩ := maj_row hci.n hci.len hci.pos hb hci.rn (fun j => g (vAt c j).toNat) h2
    have e : rowF ((bitsN g p.vars.toNat : Nat) : Int) c.vars 0 0 = R := by
      refine inN_eq (row_in (by omega) hvv (by have := hci.len; omega)) (hci.rn R hRm) fun j hj => ?_
      rw [row_bit (by omega) hvv (by have := hci.len; omega) hj, hRb j hj, bitsN_bit]
      have : (vAt c j).toNat < p.vars.toNat := by have := hvar j hj; omega
      show (decide ((vAt c j).toNat < _) && g (vAt c j).toNat) = _
      simp [this]
    rw [e]
    exact hRm
  intro he
  rw [he] at hmem
  cases hmem
/-- A solution's pairs, as a table. -/
def soleX (s : Nat) : List Int := (List.range 64).map fun k => ((2 ^ ((s.testBit (k / 8)).toNat + 2 * (s.testBit (k % 8)).toNat) : Nat) : Int)
theorem soleX_has (s : Nat) {i a j b : Nat} (hi : i < 8) (hj : j < 8) (ha : a < 2) (hb : b < 2) : hasF (soleX s) i a j b = true ↔ (s.testBit i).toNat = a ∧ (s.testBit j).toNat = b := by
  have hlt : i * 8 + j < (soleX s).length := by simp [soleX]; omega
  have e1 : (i * 8 + j) / 8 = i := by omega
  have e2 : (i * 8 + j) % 8 = j := by omega
  rw [hasF, getD_mem hlt]
  simp only [soleX, List.getElem_map, List.getElem_range, e1, e2, bt, Int.toNat_natCast, Nat.testBit_two_pow, decide_eq_true_eq]
  have l1 : (s.testBit i).toNat ≤ 1 := Bool.toNat_le _
  have l2 : (s.testBit j).toNat ≤ 1 := Bool.toNat_le _
  omega
theorem soleX_tab (s : Nat) : tabP (soleX s) := by
  refine ⟨by simp [soleX], fun x hx => ?_⟩
  obtain ⟨k, _, rfl⟩ := List.mem_map.1 hx
  have l1 : (s.testBit (k / 8)).toNat ≤ 1 := Bool.toNat_le _
  have l2 : (s.testBit (k % 8)).toNat ≤ 1 := Bool.toNat_le _
  exact ⟨_, rfl, Nat.pow_lt_pow_right (by decide) (by omega)⟩
theorem toNat_eq1 (x : Bool) : x = (x.toNat == 1) := by cases x <;> rfl
theorem soleX_closed {p : Pz} (hg : goodP p = true) {s : Nat} (hs : (s : Int) ∈ allS p) : closedQ p (soleX s) := by
  have hv := vars_le hg
  obtain ⟨⟨k, hk, hk2⟩, hrows⟩ := (mem_allS hg s).1 hs
  have hsk : s = k := by omega
  subst hsk
  have hN : 2 ^ p.vars.toNat ≤ 2 ^ 8 := Nat.pow_le_pow_right (by decide) (by omega)
  intro i a j b hi hj ha hb hh
  obtain ⟨rfl, rfl⟩ := (soleX_has s (by omega) (by omega) ha hb).1 hh
  refine ⟨⟨fun e => by rw [e], fun c hc him hjm => ?_⟩, supP_iff.2 fun k hk => ⟨(s.testBit k).toNat, by have := Bool.toNat_le (s.testBit k); omega, (soleX_has s (by omega) (by omega) ha (by have := Bool.toNat_le (s.testBit k); omega)).2 ⟨rfl, rfl⟩, (soleX_has s (by omega) (by omega) hb (by have := Bool.toNat_le (s.testBit k); omega)).2 ⟨rfl, rfl⟩⟩⟩
  have hci := consI hg hc
  have hvv : ∀ v ∈ c.vars, 0 ≤ v ∧ v ≤ 64 := fun v h => by have := hci.var v h; omega
  have hbb : ∀ j, j < c.vars.length → bt (rowF s c.vars 0 0) j = s.testBit (vAt c j).toNat := fun j hj => row_bit (by omega) hvv (by have := hci.len; omega) hj
  have hat : ∀ v : Nat, (v : Int) ∈ c.vars → ∃ k, k < c.vars.length ∧ vAt c k = v ∧ bt (rowF s c.vars 0 0) k = ((s.testBit v).toNat == 1) := fun v hm => by
    obtain ⟨k, hk, e⟩ := List.getElem_of_mem hm
    have e1 : vAt c k = v := by rw [vAt, getD_mem hk, e]
    exact ⟨k, hk, e1, by rw [hbb k hk, e1, Int.toNat_natCast]; exact toNat_eq1 _⟩
  exact ⟨_, hrows c hc, agreesF_iff.2 fun x y hx hy e => by rw [hbb x hx, hbb y hy, e], hat i him, hat j hjm⟩
theorem soleX_live {p : Pz} (hg : goodP p = true) {X : List Int} (hX : PairLaw p X) {s : Nat} (hs : (s : Int) ∈ allS p) {i j : Nat} (hi : i < p.vars.toNat) (hj : j < p.vars.toNat) : hasF X i (s.testBit i).toNat j (s.testBit j).toNat = true := by
  have hv := vars_le hg
  have l1 : (s.testBit i).toNat ≤ 1 := Bool.toNat_le _
  have l2 : (s.testBit j).toNat ≤ 1 := Bool.toNat_le _
  exact hX.2.2 _ (soleX_tab s) (soleX_closed hg hs) i _ j _ hi hj (by omega) (by omega) ((soleX_has s (by omega) (by omega) (by omega) (by omega)).2 ⟨rfl, rfl⟩)
/-- There are pairs above all others. -/
theorem pair_ex (p : Pz) (hg : goodP p = true) : ∃ X, PairLaw p X := by
  have hv := vars_le hg
  let P : Nat → Nat → Nat → Nat → Prop := fun i a j b => ∃ E, tabP E ∧ closedQ p E ∧ hasF E i a j b = true
  let Q : Nat → Nat → Nat → Bool := fun i j t => @decide (P i (t % 2) j (t / 2)) (Classical.propDecidable _)
  have hQ : ∀ i j t, Q i j t = true ↔ P i (t % 2) j (t / 2) := fun i j t => by simp [Q]
  let X : List Int := (List.range 64).map fun k => ((bitsN (Q (k / 8) (k % 8)) 4 : Nat) : Int)
  have hXl : X.length = 64 := by simp [X]
  have hX : ∀ i a j b, i < 8 → j < 8 → a < 2 → b < 2 → (hasF X i a j b = true ↔ P i a j b) := by
    intro i a j b hi hj ha hb
    have hlt : i * 8 + j < X.length := by omega
    have e1 : (i * 8 + j) / 8 = i := by omega
    have e2 : (i * 8 + j) % 8 = j := by omega
    have e3 : (a + 2 * b) % 2 = a := by omega
    have e4 : (a + 2 * b) / 2 = b := by omega
    have h4 : a + 2 * b < 4 := by omega
    rw [hasF, getD_mem hlt]
    simp only [X, List.getElem_map, List.getElem_range, e1, e2, bt, Int.toNat_natCast, bitsN_bit, h4, decide_true, Bool.true_and, hQ, e3, e4]
  have htab : tabP X := ⟨hXl, fun x hx => by
    obtain ⟨k, _, rfl⟩ := List.mem_map.1 hx
    exact ⟨_, rfl, bitsN_lt _ _⟩⟩
  have hsub : ∀ E, tabP E → closedQ p E → subQ p.vars.toNat E X := fun E hE hc i a j b hi hj ha hb hh => (hX i a j b (by omega) (by omega) ha hb).2 ⟨E, hE, hc, hh⟩
  refine ⟨X, htab, fun i a j b hi hj ha hb hh => ?_, hsub⟩
  obtain ⟨E, hE, hEc, hEh⟩ := (hX i a j b (by omega) (by omega) ha hb).1 hh
  obtain ⟨q1, q2⟩ := hEc i a j b hi hj ha hb hEh
  exact ⟨q1, supP_mono (hsub E hE hEc) hi hj ha hb q2⟩
/-- A row of the result. -/
def rowL (X : List Int) (n i : Nat) : List Int := (X.drop (i * 8)).take n
theorem rowL_len {X : List Int} (hX : X.length = 64) {n i : Nat} (hn : n ≤ 8) (hi : i < 8) : (rowL X n i).length = n := by
  simp only [rowL, List.length_take, List.length_drop]
  omega
theorem rowL_get {X : List Int} (hX : X.length = 64) {n i j : Nat} (hn : n ≤ 8) (hi : i < 8) (hj : j < (rowL X n i).length) : (rowL X n i)[j] = X.getD (i * 8 + j) 0 := by
  have := rowL_len hX hn hi
  rw [getD_mem (by omega)]
  simp only [rowL, List.getElem_take, List.getElem_drop]
theorem cell_eq {X Y : List Int} (hX : tabP X) (hY : tabP Y) {i j : Nat} (hi : i < 8) (hj : j < 8) (h : ∀ a b, a < 2 → b < 2 → hasF X i a j b = hasF Y i a j b) : X.getD (i * 8 + j) 0 = Y.getD (i * 8 + j) 0 := by
  have h1 : i * 8 + j < X.length := by rw [hX.1]; omega
  have h2 : i * 8 + j < Y.length := by rw [hY.1]; omega
  refine inN_eq (n := 4) (by rw [getD_mem h1]; exact hX.2 _ (List.getElem_mem h1)) (by rw [getD_mem h2]; exact hY.2 _ (List.getElem_mem h2)) fun t ht => ?_
  have := h (t % 2) (t / 2) (by omega) (by omega)
  rw [hasF, hasF, show t % 2 + 2 * (t / 2) = t by omega] at this
  exact this
theorem pair_rows {p : Pz} (hg : goodP p = true) {X Y : List Int} (hX : PairLaw p X) (hY : PairLaw p Y) {i : Nat} (hi : i < p.vars.toNat) : rowL X p.vars.toNat i = rowL Y p.vars.toNat i := by
  have hv := vars_le hg
  have l1 := rowL_len hX.1.1 (n := p.vars.toNat) (i := i) (by omega) (by omega)
  have l2 := rowL_len hY.1.1 (n := p.vars.toNat) (i := i) (by omega) (by omega)
  refine List.ext_getElem (by omega) fun j h1 h2 => ?_
  rw [rowL_get hX.1.1 (by omega) (by omega) h1, rowL_get hY.1.1 (by omega) (by omega) h2]
  refine cell_eq hX.1 hY.1 (by omega) (by omega) fun a b ha hb => ?_
  rw [Bool.eq_iff_iff]
  exact ⟨hY.2.2 X hX.1 hX.2.1 i a j b hi (by omega) ha hb, hX.2.2 Y hY.1 hY.2.1 i a j b hi (by omega) ha hb⟩
/-- Is a row without a pair? -/
def badX (X : List Int) (n : Nat) : Bool := (List.range n).any fun i => (rowL X n i).contains 0
theorem badX_eq {p : Pz} (hg : goodP p = true) {X Y : List Int} (hX : PairLaw p X) (hY : PairLaw p Y) : badX X p.vars.toNat = badX Y p.vars.toNat := by
  rw [badX, badX, Bool.eq_iff_iff]
  simp only [List.any_eq_true, List.mem_range]
  constructor
  · rintro ⟨i, hi, h⟩
    exact ⟨i, hi, by rw [← pair_rows hg hX hY hi]; exact h⟩
  · rintro ⟨i, hi, h⟩
    exact ⟨i, hi, by rw [pair_rows hg hX hY hi]; exact h⟩
/-- Where there is a solution, no row is without a pair. -/
theorem bad_none {p : Pz} (hg : goodP p = true) {X : List Int} (hX : PairLaw p X) (hb : badX X p.vars.toNat = true) : allS p = [] := by
  have hv := vars_le hg
  rw [List.eq_nil_iff_forall_not_mem]
  intro s hs
  obtain ⟨k, rfl, hk⟩ := allS_nat hs
  rw [badX, List.any_eq_true] at hb
  obtain ⟨i, hi, hc⟩ := hb
  rw [List.mem_range] at hi
  have hm : (0 : Int) ∈ rowL X p.vars.toNat i := by simpa using hc
  obtain ⟨j, hj, e⟩ := List.getElem_of_mem hm
  have l1 := rowL_len hX.1.1 (n := p.vars.toNat) (i := i) (by omega) (by omega)
  rw [rowL_get hX.1.1 (by omega) (by omega) hj] at e
  have := soleX_live hg hX hs hi (j := j) (by omega)
  rw [hasF, e] at this
  simp [bt] at this
/-- Where no row is without a pair, and majorities keep the Rels, there is a solution. -/
theorem bad_some {p : Pz} (hg : goodP p = true) {X : List Int} (hX : PairLaw p X) (hb : badX X p.vars.toNat = false) (hk : p.cons.all (keepC p 4) = true) : allS p ≠ [] := by
  have hv := vars_le hg
  have h0 : (rowL X p.vars.toNat 0).contains 0 = false := by
    rw [badX, List.any_eq_false] at hb
    simpa using hb 0 (List.mem_range.2 (by omega))
  have l1 := rowL_len hX.1.1 (n := p.vars.toNat) (i := 0) (by omega) (by omega)
  have h0l : 0 < (rowL X p.vars.toNat 0).length := by omega
  have hg0 := rowL_get hX.1.1 (n := p.vars.toNat) (i := 0) (j := 0) (by omega) (by omega) h0l
  have hne : X.getD 0 0 ≠ 0 := fun e => by
    have : (rowL X p.vars.toNat 0)[0] = 0 := by rw [hg0]; exact e
    have hm : (0 : Int) ∈ rowL X p.vars.toNat 0 := by rw [← this]; exact List.getElem_mem h0l
    simp at h0
    exact h0 hm
  have hin : InN 4 (X.getD 0 0) := by
    rw [getD_mem (by rw [hX.1.1]; omega)]
    exact hX.1.2 _ (List.getElem_mem _)
  obtain ⟨a, b, ha, hb', hh⟩ : ∃ a b, a < 2 ∧ b < 2 ∧ bt (X.getD 0 0) (a + 2 * b) = true := by
    apply Classical.byContradiction
    intro hno
    apply hne
    refine inN_eq (n := 4) hin ⟨0, rfl, by decide⟩ fun t ht => ?_
    have : ¬ bt (X.getD 0 0) (t % 2 + 2 * (t / 2)) = true := fun hh => hno ⟨t % 2, t / 2, by omega, by omega, hh⟩
    rw [show t % 2 + 2 * (t / 2) = t by omega] at this
    rw [Bool.not_eq_true] at this
    rw [this]
    simp [bt]
  exact two_law hg hX hk ha hb' (by rw [hasF]; exact hh)
end Go.Proofs.Ytmneioafbkknhaa
