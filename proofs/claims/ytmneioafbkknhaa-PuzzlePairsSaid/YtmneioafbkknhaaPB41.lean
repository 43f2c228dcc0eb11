import Derived.Test.YtmneioafbkknhaaPB40
/- PB41: the plain law of Ends. -/
set_option linter.unusedVariables false
set_option linter.unusedSimpArgs false
set_option maxRecDepth 20000
namespace Go.Proofs.Ytmneioafbkknhaa
open Go Go.PS
attribute [-simp] List.map_take
theorem row_in {s : Nat} (hs : s < 9223372036854775808) {vs : List Int} (hv : ∀ v ∈ vs, 0 ≤ v ∧ v ≤ 64) (hl : vs.length ≤ 62) : InN vs.length (rowF s vs 0 0) := by
  simpa using rowF_in s hs vs 0 0 (by omega) hv ⟨0, rfl, by decide⟩
theorem row_bit {s : Nat} (hs : s < 9223372036854775808) {vs : List Int} (hv : ∀ v ∈ vs, 0 ≤ v ∧ v ≤ 64) (hl : vs.length ≤ 62) {j : Nat} (hj : j < vs.length) : bt (rowF s vs 0 0) j = s.testBit (vs.getD j 0).toNat := by
  simpa using rowF_bit s hs vs 0 0 (by omega) hv ⟨0, rfl, by decide⟩ j (by omega)
/-- What is known of a Cons of a valid Puzzle. -/
structure ConsI (p : Pz) (c : Cn) : Prop where
  len : c.vars.length ≤ 3
  pos : 1 ≤ c.vars.length
  n : (c.vars.length : Int) = (relOf p c).n
  good : goodR (relOf p c) = true
  r3 : ∀ r ∈ (relOf p c).rows, InN 3 r
  rn : ∀ r ∈ (relOf p c).rows, InN c.vars.length r
  var : ∀ v ∈ c.vars, 0 ≤ v ∧ v < p.vars
theorem consI {p : Pz} (hg : goodP p = true) {c : Cn} (hc : c ∈ p.cons) : ConsI p c := by
  simp only [goodP, Bool.and_eq_true, decide_eq_true_eq] at hg
  obtain ⟨⟨⟨⟨⟨g1, g2⟩, g3⟩, g4⟩, g5⟩, g6⟩ := hg
  have hgc := List.all_eq_true.1 g6 c hc
  have hlen3 := goodC_len g5 hgc
  have hrg := relOf_good g5 (okC_of g6 c hc)
  obtain ⟨r1, r2, r3, r4, r5⟩ := goodR_asc.1 hrg
  simp only [goodC, Bool.and_eq_true, decide_eq_true_eq, List.all_eq_true, goodV] at hgc
  obtain ⟨⟨⟨c1, c2⟩, c3⟩, c4⟩ := hgc
  refine ⟨hlen3, by omega, c3, hrg, fun r hr => inN_mono (by omega) (r5 r hr), fun r hr => ?_, c4⟩
  have := r5 r hr
  rwa [← c3, Int.toNat_natCast] at this
theorem vars_le {p : Pz} (hg : goodP p = true) : 1 ≤ p.vars ∧ p.vars ≤ 8 := by
  simp only [goodP, Bool.and_eq_true, decide_eq_true_eq] at hg
  omega
/-- A solution's values are closed domains. -/
def soleD (n s : Nat) : List Int := (List.range n).map fun v => num2 (!s.testBit v) (s.testBit v)
theorem soleD_dv (n s : Nat) {v : Int} (h0 : 0 ≤ v) (hv : v < n) (a : Bool) : dv (soleD n s) v a = (s.testBit v.toNat == a) := by
  have hlt : v.toNat < (soleD n s).length := by simp [soleD]; omega
  rw [dv, getD_mem hlt]
  simp only [soleD, List.getElem_map, List.getElem_range, num2_bit]
  cases a <;> cases s.testBit v.toNat <;> rfl
theorem sole_closed {p : Pz} (hg : goodP p = true) {s : Nat} (hs : (s : Int) ∈ allS p) : domP p (soleD p.vars.toNat s) ∧ closedP p (soleD p.vars.toNat s) := by
  have hv := vars_le hg
  obtain ⟨⟨k, hk, hk2⟩, hrows⟩ := (mem_allS hg s).1 hs
  have hsk : s = k := by omega
  subst hsk
  have hN : 2 ^ p.vars.toNat ≤ 2 ^ 8 := Nat.pow_le_pow_right (by decide) (by omega)
  refine ⟨⟨by simp [soleD], fun x hx => ?_⟩, fun c hc i hi a ha => ?_⟩
  · obtain ⟨v, _, rfl⟩ := List.mem_map.1 hx
    exact num2_in _ _
  · have hci := consI hg hc
    have hvv : ∀ v ∈ c.vars, 0 ≤ v ∧ v ≤ 64 := fun v h => by have := hci.var v h; omega
    have hd : ∀ j, j < c.vars.length → ∀ b, dv (soleD p.vars.toNat s) (vAt c j) b = (s.testBit (vAt c j).toNat == b) := fun j hj b => by
      have hvj : vAt c j = c.vars[j] := getD_mem hj
      have := hci.var _ (List.getElem_mem hj)
      exact soleD_dv _ _ (by rw [hvj]; omega) (by rw [hvj]; omega) b
    have hb : ∀ j, j < c.vars.length → bt (rowF s c.vars 0 0) j = s.testBit (vAt c j).toNat := fun j hj => row_bit (by omega) hvv (by have := hci.len; omega) hj
    rw [supF_iff]
    refine ⟨_, hrows c hc, ?_, agreesF_iff.2 fun x y hx hy e => by rw [hb x hx, hb y hy, e], fun j hj => by rw [hd j hj, hb j hj]; simp⟩
    rw [hb i hi]
    rw [hd i hi] at ha
    simpa using ha
theorem sole_live {p : Pz} (hg : goodP p = true) {N : List Int} (hN : NarrowLaw p N) {s : Nat} (hs : (s : Int) ∈ allS p) {v : Nat} (hv : v < p.vars.toNat) : dv N v (s.testBit v) = true := by
  obtain ⟨h1, h2⟩ := sole_closed hg hs
  refine hN.2.2 _ h1 h2 v _ ?_
  rw [soleD_dv _ _ (by omega) (by omega)]
  simp
theorem sole_zero {p : Pz} (hg : goodP p = true) {N : List Int} (hN : NarrowLaw p N) (h0 : (0 : Int) ∈ N) : allS p = [] := by
  rw [List.eq_nil_iff_forall_not_mem]
  intro s hs
  obtain ⟨k, rfl, hk⟩ := allS_nat hs
  obtain ⟨i, hi, hi0⟩ := List.getElem_of_mem h0
  have := sole_live hg hN hs (v := i) (by rw [← hN.1.1]; exact hi)
  rw [dv, Int.toNat_natCast, getD_mem hi, hi0] at this
  simp [bt] at this
/-- Numbers by their bits. -/
def bitsN (f : Nat → Bool) : Nat → Nat
  | 0 => 0
  | i + 1 => bitsN f i ||| (if f i then 2 ^ i else 0)
theorem bitsN_lt (f : Nat → Bool) : ∀ i, bitsN f i < 2 ^ i
  | 0 => by simp [bitsN]
  | i + 1 => by
    have h := bitsN_lt f i
    have h2 : 2 ^ i < 2 ^ (i + 1) := Nat.pow_lt_pow_right (by decide) (by omega)
    rw [bitsN]
    refine Nat.or_lt_two_pow (by omega) ?_
    split
    · exact h2
    · omega
theorem bitsN_bit (f : Nat → Bool) (j : Nat) : ∀ i, (bitsN f i).testBit j = (decide (j < i) && f j)
  | 0 => by simp [bitsN]
  | i + 1 => by
    rw [bitsN, Nat.testBit_or, bitsN_bit f j i]
    have e : (if f i then 2 ^ i else 0).testBit j = (f i && decide (i = j)) := by
      split
      · rename_i h
        rw [Nat.testBit_two_pow, h]
        simp
      · rename_i h
        simp [h]
    rw [e]
    rcases Nat.lt_trichotomy j i with h | rfl | h
    · have e1 : j < i + 1 := by omega
      have e2 : i ≠ j := by omega
      simp [h, e1, e2]
    · simp
    · have e1 : ¬ j < i + 1 := by omega
      have e2 : i ≠ j := by omega
      have e3 : ¬ j < i := by omega
      simp [e1, e2, e3]
theorem fold_and {r : Rl} {n : Nat} (hn : (n : Int) = r.n) (hn3 : n ≤ 3) (hb : brokenF r 2 = none) (hin : ∀ x ∈ r.rows, InN n x) : ∀ (l : List Int), l ≠ [] → (∀ x ∈ l, x ∈ r.rows) → ∃ R ∈ r.rows, ∀ j, j < n → bt R j = l.all fun x => bt x j
  | [], h, _ => absurd rfl h
  | [x], _, hm => ⟨x, hm x (by simp), fun j hj => by simp⟩
  | x :: y :: l, _, hm => by
    obtain ⟨R, hR, hRb⟩ := fold_and hn hn3 hb hin (y :: l) (by simp) fun z hz => hm z (List.mem_cons_of_mem _ hz)
    have hx := hm x (by simp)
    have hmem : ∀ z ∈ [x, R], z ∈ r.rows := fun z hz => by
      simp at hz
      rcases hz with rfl | rfl
      · exact hx
      · exact hR
    refine ⟨opF 2 r.n [x, R], brokenF_none.1 hb _ rfl hmem, fun j hj => ?_⟩
    rw [← hn, opF_bit 2 n (by decide) (by omega) [x, R] rfl (fun z hz => hin z (hmem z hz)) j hj, List.all_cons, ← hRb j hj]
    rfl
theorem fold_or {r : Rl} {n : Nat} (hn : (n : Int) = r.n) (hn3 : n ≤ 3) (hb : brokenF r 3 = none) (hin : ∀ x ∈ r.rows, InN n x) : ∀ (l : List Int), l ≠ [] → (∀ x ∈ l, x ∈ r.rows) → ∃ R ∈ r.rows, ∀ j, j < n → bt R j = l.any fun x => bt x j
  | [], h, _ => absurd rfl h
  | [x], _, hm => ⟨x, hm x (by simp), fun j hj => by simp⟩
  | x :: y :: l, _, hm => by
    obtain ⟨R, hR, hRb⟩ := fold_or hn hn3 hb hin (y :: l) (by simp) fun z hz => hm z (List.mem_cons_of_mem _ hz)
    have hx := hm x (by simp)
    have hmem : ∀ z ∈ [x, R], z ∈ r.rows := fun z hz => by
      simp at hz
      rcases hz with rfl | rfl
      · exact hx
      · exact hR
    refine ⟨opF 3 r.n [x, R], brokenF_none.1 hb _ rfl hmem, fun j hj => ?_⟩
    rw [← hn, opF_bit 3 n (by decide) (by omega) [x, R] rfl (fun z hz => hin z (hmem z hz)) j hj, List.any_cons, ← hRb j hj]
    rfl
/-- An end of the domains of Narrow, if what combines rows to it keeps the Rels. -/
theorem end_sol {p : Pz} (hg : goodP p = true) {N : List Int} (hN : NarrowLaw p N) (h0 : (0 : Int) ∉ N) (f : Nat → Bool) (hf : ∀ v : Int, 0 ≤ v → v < p.vars → dv N v (f v.toNat) = true)
    (hR : ∀ c ∈ p.cons, ∀ l : List Int, l ≠ [] → (∀ x ∈ l, x ∈ (relOf p c).rows ∧ ∀ j, j < c.vars.length → dv N (vAt c j) (bt x j) = true) → (∀ j, j < c.vars.length → ∃ x ∈ l, bt x j = f (vAt c j).toNat) → ∃ R ∈ (relOf p c).rows, ∀ j, j < c.vars.length → bt R j = f (vAt c j).toNat) :
    ((bitsN f p.vars.toNat : Nat) : Int) ∈ allS p := by
  have hv := vars_le hg
  have hlt := bitsN_lt f p.vars.toNat
  have hN8 : 2 ^ p.vars.toNat ≤ 2 ^ 8 := Nat.pow_le_pow_right (by decide) (by omega)
  refine (mem_allS hg _).2 ⟨⟨_, rfl, hlt⟩, fun c hc => ?_⟩
  have hci := consI hg hc
  have hvar : ∀ j, j < c.vars.length → 0 ≤ vAt c j ∧ vAt c j < p.vars := fun j hj => by
    have hvj : vAt c j = c.vars[j] := getD_mem hj
    rw [hvj]
    exact hci.var _ (List.getElem_mem hj)
  have hvv : ∀ v ∈ c.vars, 0 ≤ v ∧ v ≤ 64 := fun v h => by have := hci.var v h; omega
  -- a row for every place
  have hrow : ∀ i, i < c.vars.length → ∃ r ∈ (relOf p c).rows, bt r i = f (vAt c i).toNat ∧ ∀ j, j < c.vars.length → dv N (vAt c j) (bt r j) = true := fun i hi => by
    have h1 := hN.2.1 c hc i hi _ (hf _ (hvar i hi).1 (hvar i hi).2)
    rw [supF_iff] at h1
    obtain ⟨r, hr, h2, _, h3⟩ := h1
    exact ⟨r, hr, h2, h3⟩
  have hl : ∀ k, k ≤ c.vars.length → ∃ l : List Int, l.length = k ∧ (∀ x ∈ l, x ∈ (relOf p c).rows ∧ ∀ j, j < c.vars.length → dv N (vAt c j) (bt x j) = true) ∧ ∀ j, j < k → ∃ x ∈ l, bt x j = f (vAt c j).toNat := by
    intro k
    induction k with
    | zero => exact fun _ => ⟨[], rfl, by simp, fun j hj => by omega⟩
    | succ k ih =>
      intro hk
      obtain ⟨l, l1, l2, l3⟩ := ih (by omega)
      obtain ⟨r, r1, r2, r3⟩ := hrow k (by omega)
      refine ⟨r :: l, by simp [l1], fun x hx => ?_, fun j hj => ?_⟩
      · rcases List.mem_cons.1 hx with rfl | hx
        · exact ⟨r1, r3⟩
        · exact l2 x hx
      · by_cases e : j = k
        · subst e
          exact ⟨r, by simp, r2⟩
        · obtain ⟨x, hx, hxb⟩ := l3 j (by omega)
          exact ⟨x, by simp [hx], hxb⟩
  obtain ⟨l, l1, l2, l3⟩ := hl c.vars.length (Nat.le_refl _)
  obtain ⟨R, hRm, hRb⟩ := hR c hc l (by rintro rfl; have := hci.pos; simp at l1; omega) l2 l3
  have e : rowF ((bitsN f p.vars.toNat : Nat) : Int) c.vars 0 0 = R := by
    refine inN_eq (row_in (by omega) hvv (by have := hci.len; omega)) (hci.rn R hRm) fun j hj => ?_
    rw [row_bit (by omega) hvv (by have := hci.len; omega) hj, hRb j hj, bitsN_bit]
    have : (vAt c j).toNat < p.vars.toNat := by have := hvar j hj; omega
    show (decide ((vAt c j).toNat < _) && f (vAt c j).toNat) = _
    simp [this]
  rw [e]
  exact hRm
theorem dv_some {p : Pz} {N : List Int} (hN : NarrowLaw p N) (h0 : (0 : Int) ∉ N) {v : Int} (hv0 : 0 ≤ v) (hv : v < p.vars) : dv N v false = true ∨ dv N v true = true := by
  have hlt : v.toNat < N.length := by rw [hN.1.1]; omega
  have hx := hN.1.2 _ (List.getElem_mem hlt)
  have hne : N[v.toNat] ≠ 0 := fun e => h0 (by rw [← e]; exact List.getElem_mem hlt)
  rw [dv, dv, getD_mem hlt]
  generalize N[v.toNat] = x at *
  obtain ⟨k, rfl, hk⟩ := hx
  have : k = 1 ∨ k = 2 ∨ k = 3 := by omega
  rcases this with rfl | rfl | rfl <;> simp [bt] <;> decide
def leastB (N : List Int) (v : Nat) : Bool := !dv N v false
def mostB (N : List Int) (v : Nat) : Bool := dv N v true
theorem dv_toNat {N : List Int} {v : Int} (h : 0 ≤ v) (a : Bool) : dv N (v.toNat : Nat) a = dv N v a := by rw [dv, dv, Int.toNat_natCast]
theorem least_sol {p : Pz} (hg : goodP p = true) {N : List Int} (hN : NarrowLaw p N) (h0 : (0 : Int) ∉ N) (hk : p.cons.all (keepC p 2) = true) : ((bitsN (leastB N) p.vars.toNat : Nat) : Int) ∈ allS p := by
  refine end_sol hg hN h0 _ (fun v hv0 hv => ?_) fun c hc l hl hm hs => ?_
  · have h := dv_some hN h0 hv0 hv
    rw [leastB, dv_toNat hv0]
    cases hd : dv N v false with
    | true => exact hd
    | false =>
      rw [hd] at h
      simpa using h
  · have hci := consI hg hc
    have hb : brokenF (relOf p c) 2 = none := by
      have := List.all_eq_true.1 hk c hc
      rw [keepC] at this
      simpa using this
    obtain ⟨R, hR, hRb⟩ := fold_and hci.n hci.len hb hci.rn l hl fun x hx => (hm x hx).1
    refine ⟨R, hR, fun j hj => ?_⟩
    rw [hRb j hj]
    have hvj : vAt c j = c.vars[j] := getD_mem hj
    have hv0 : 0 ≤ vAt c j := by rw [hvj]; exact (hci.var _ (List.getElem_mem hj)).1
    obtain ⟨x, hx, hxb⟩ := hs j hj
    cases hf : leastB N (vAt c j).toNat with
    | false =>
      rw [List.all_eq_false]
      exact ⟨x, hx, by rw [hxb, hf]; simp⟩
    | true =>
      rw [List.all_eq_true]
      intro y hy
      have h1 := (hm y hy).2 j hj
      rw [leastB, dv_toNat hv0] at hf
      cases hy2 : bt y j with
      | true => rfl
      | false =>
        rw [hy2] at h1
        rw [h1] at hf
        cases hf
theorem most_sol {p : Pz} (hg : goodP p = true) {N : List Int} (hN : NarrowLaw p N) (h0 : (0 : Int) ∉ N) (hk : p.cons.all (keepC p 3) = true) : ((bitsN (mostB N) p.vars.toNat : Nat) : Int) ∈ allS p := by
  refine end_sol hg hN h0 _ (fun v hv0 hv => ?_) fun c hc l hl hm hs => ?_
  · have h := dv_some hN h0 hv0 hv
    rw [mostB, dv_toNat hv0]
    cases hd : dv N v true with
    | true => exact hd
    | false =>
      rw [hd] at h
      simpa using h
  · have hci := consI hg hc
    have hb : brokenF (relOf p c) 3 = none := by
      have := List.all_eq_true.1 hk c hc
      rw [keepC] at this
      simpa using this
    obtain ⟨R, hR, hRb⟩ := fold_or hci.n hci.len hb hci.rn l hl fun x hx => (hm x hx).1
    refine ⟨R, hR, fun j hj => ?_⟩
    rw [hRb j hj]
    have hvj : vAt c j = c.vars[j] := getD_mem hj
    have hv0 : 0 ≤ vAt c j := by rw [hvj]; exact (hci.var _ (List.getElem_mem hj)).1
    obtain ⟨x, hx, hxb⟩ := hs j hj
    cases hf : mostB N (vAt c j).toNat with
    | true =>
      rw [List.any_eq_true]
      exact ⟨x, hx, by rw [hxb, hf]⟩
    | false =>
      rw [List.any_eq_false]
      intro y hy
      have h1 := (hm y hy).2 j hj
      rw [mostB, dv_toNat hv0] at hf
      cases hy2 : bt y j with
      | false => simp
      | true =>
        rw [hy2] at h1
        rw [h1] at hf
        cases hf
end Go.Proofs.Ytmneioafbkknhaa
