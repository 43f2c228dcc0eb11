import Derived.Test.YtmneioafbkknhaaPB31
import Derived.Test.YtmneioafbkknhaaPB16
/- PB32: plain laws of operations: rows of solutions, bit by bit. -/
set_option linter.unusedVariables false
set_option linter.unusedSimpArgs false
set_option maxRecDepth 20000
namespace Go.Proofs.Ytmneioafbkknhaa
open Go Go.PS
attribute [-simp] List.map_take
theorem growF_none {bad : List Int → Bool} {rows : List Int} : ∀ {k : Nat} {l : List Int}, growF bad rows k l = none ↔ ∀ x : List Int, x.length = k → (∀ y ∈ x, y ∈ rows) → bad (l ++ x) = false
  | 0, l => by
    simp only [growF]
    constructor
    · intro h x hx _
      have : x = [] := List.eq_nil_of_length_eq_zero hx
      subst this
      split at h
      · cases h
      · rename_i hb
        simpa using hb
    · intro h
      have := h [] rfl (by simp)
      rw [List.append_nil] at this
      rw [this]
      rfl
  | k + 1, l => by
    simp only [growF, List.findSome?_eq_none_iff]
    constructor
    · intro h x hx hm
      match x, hx with
      | y :: x, hx =>
        have := (growF_none.1 (h y (hm y (by simp)))) x (by simpa using hx) fun z hz => hm z (by simp [hz])
        simpa using this
    · intro h y hy
      refine growF_none.2 fun x hx hm => ?_
      have := h (y :: x) (by simp [hx]) (by
        intro z hz
        rcases List.mem_cons.1 hz with rfl | hz
        · exact hy
        · exact hm z hz)
      simpa using this
theorem brokenF_none {r : Rl} {op : Nat} : brokenF r op = none ↔ ∀ x : List Int, x.length = arity op → (∀ y ∈ x, y ∈ r.rows) → opF op r.n x ∈ r.rows := by
  rw [brokenF, growF_none]
  simp [badF]
/-- An operation, bit by bit. -/
def opB (op : Nat) (l : List Bool) : Bool :=
  match op with
  | 0 => false
  | 1 => true
  | 2 => l.getD 0 false && l.getD 1 false
  | 3 => l.getD 0 false || l.getD 1 false
  | 4 => (l.getD 0 false && l.getD 1 false || l.getD 0 false && l.getD 2 false) || l.getD 1 false && l.getD 2 false
  | _ => ((l.getD 0 false ^^ l.getD 1 false) ^^ l.getD 2 false)
/-- A bit of a number that is not below 0. -/
def bt (x : Int) (i : Nat) : Bool := x.toNat.testBit i
theorem bt_and {n : Nat} (hn : n ≤ 62) {x y : Int} (hx : InN n x) (hy : InN n y) (i : Nat) : bt (andI x y) i = (bt x i && bt y i) := by
  obtain ⟨a, rfl, ha⟩ := hx
  obtain ⟨b, rfl, hb⟩ := hy
  have h1 : 2 ^ n ≤ 2 ^ 62 := Nat.pow_le_pow_right (by decide) hn
  rw [andI_nat a b (by omega) (by omega)]
  simp [bt]
theorem bt_or {n : Nat} (hn : n ≤ 62) {x y : Int} (hx : InN n x) (hy : InN n y) (i : Nat) : bt (orI x y) i = (bt x i || bt y i) := by
  obtain ⟨a, rfl, ha⟩ := hx
  obtain ⟨b, rfl, hb⟩ := hy
  have h1 : 2 ^ n ≤ 2 ^ 62 := Nat.pow_le_pow_right (by decide) hn
  rw [orI_nat a b (by omega) (by omega)]
  simp [bt]
theorem bt_xor {n : Nat} (hn : n ≤ 62) {x y : Int} (hx : InN n x) (hy : InN n y) (i : Nat) : bt (xorI x y) i = (bt x i ^^ bt y i) := by
  obtain ⟨a, rfl, ha⟩ := hx
  obtain ⟨b, rfl, hb⟩ := hy
  have h1 : 2 ^ n ≤ 2 ^ 62 := Nat.pow_le_pow_right (by decide) hn
  rw [xorI_nat a b (by omega) (by omega)]
  simp [bt]
theorem inN_eq {n : Nat} {x y : Int} (hx : InN n x) (hy : InN n y) (h : ∀ i < n, bt x i = bt y i) : x = y := by
  obtain ⟨a, rfl, ha⟩ := hx
  obtain ⟨b, rfl, hb⟩ := hy
  congr 1
  refine Nat.eq_of_testBit_eq fun i => ?_
  rcases Nat.lt_or_ge i n with hi | hi
  · exact h i hi
  · have h1 : 2 ^ n ≤ 2 ^ i := Nat.pow_le_pow_right (by decide) hi
    rw [Nat.testBit_lt_two_pow (by omega), Nat.testBit_lt_two_pow (by omega)]
theorem opF_bit (op n : Nat) (hop : op ≤ 5) (hn : n ≤ 62) (l : List Int) (hl : l.length = arity op) (hm : ∀ x ∈ l, InN n x) (i : Nat) (hi : i < n) : bt (opF op n l) i = opB op (l.map fun x => bt x i) := by
  match op, l, hl, hop with
  | 0, l, _, _ => simp [opF, opB, bt]
  | 1, l, _, _ =>
    have h1 : 2 ^ n ≤ 2 ^ 62 := Nat.pow_le_pow_right (by decide) hn
    have h0 : 0 < 2 ^ n := Nat.pow_pos (by decide)
    have : opF 1 (n : Int) l = ((2 ^ n - 1 : Nat) : Int) := by
      show IntKind.i64.wrap (shlI 1 (n : Int).toNat - 1) = _
      rw [Int.toNat_natCast, shl1 n hn, wr (by omega) (by omega)]
      omega
    rw [this]
    simp [bt, opB, Nat.testBit_two_pow_sub_one, hi]
  | 2, [a, b], _, _ => simp [opF, opB, bt_and hn (hm a (by simp)) (hm b (by simp))]
  | 3, [a, b], _, _ => simp [opF, opB, bt_or hn (hm a (by simp)) (hm b (by simp))]
  | 4, [a, b, c], _, _ =>
    have ha := hm a (by simp)
    have hb := hm b (by simp)
    have hc := hm c (by simp)
    simp [opF, opB, bt_and hn ha hb, bt_and hn ha hc, bt_and hn hb hc, bt_or hn (inN_and hn ha hb) (inN_and hn ha hc), bt_or hn (inN_or hn (inN_and hn ha hb) (inN_and hn ha hc)) (inN_and hn hb hc)]
  | 5, [a, b, c], _, _ =>
    have ha := hm a (by simp)
    have hb := hm b (by simp)
    have hc := hm c (by simp)
    simp [opF, opB, bt_xor hn ha hb, bt_xor hn (inN_xor hn ha hb) hc]
theorem rowF_bit (s : Nat) (hs : s < 9223372036854775808) : ∀ (vs : List Int) (i : Nat) (out : Int), i + vs.length ≤ 62 → (∀ v ∈ vs, 0 ≤ v ∧ v ≤ 64) → InN i out → ∀ j, j < i + vs.length →
    bt (rowF s vs i out) j = if j < i then bt out j else s.testBit (vs.getD (j - i) 0).toNat
  | [], i, out, _, _, h, j, hj => by
    have : j < i := by simpa using hj
    simp [rowF, this]
  | v :: vs, i, out, hi, hv, h, j, hj => by
    simp only [List.length_cons] at hi hj
    obtain ⟨h1, h2⟩ := hv v (by simp)
    have hb2 : InN (i + 1) (shlI (andI (shrI s v.toNat) 1) i) := by
      rw [and1 s hs v.toNat (by omega)]
      split
      · rw [shl1 i (by omega)]
        exact ⟨_, rfl, Nat.pow_lt_pow_right (by decide) (by omega)⟩
      · refine ⟨0, ?_, Nat.pow_pos (by decide)⟩
        simp [shlI]
        exact wr (by omega) (by omega)
    have hst : InN (i + 1) (orI out (shlI (andI (shrI s v.toNat) 1) i)) := inN_or (by omega) (inN_mono (by omega) h) hb2
    have ih := rowF_bit s hs vs (i + 1) _ (by omega) (fun v hv' => hv v (by simp [hv'])) hst j (by omega)
    rw [rowF, ih, bt_or (by omega) (inN_mono (by omega) h) hb2]
    have hbit : bt (shlI (andI (shrI s v.toNat) 1) i) j = (s.testBit v.toNat && decide (j = i)) := by
      rw [and1 s hs v.toNat (by omega)]
      split
      · rename_i ht
        rw [shl1 i (by omega), bt, Int.toNat_natCast, Nat.testBit_two_pow, ht]
        simp [eq_comm]
      · rename_i ht
        have : shlI 0 i = 0 := by
          simp [shlI]
          exact wr (by omega) (by omega)
        rw [this]
        simp [bt, ht]
    obtain ⟨o, rfl, ho⟩ := h
    rcases Nat.lt_trichotomy j i with hlt | rfl | hgt
    · have e1 : j < i + 1 := by omega
      have e2 : j ≠ i := by omega
      simp [hbit, hlt, e1, e2]
    · have e0 : bt (o : Int) j = false := by simp [bt, Nat.testBit_lt_two_pow ho]
      simp [hbit, e0]
    · have e1 : ¬ j < i + 1 := by omega
      have e2 : ¬ j < i := by omega
      have e3 : j - i = (j - (i + 1)) + 1 := by omega
      rw [if_neg e1, if_neg e2, e3]
      rfl
/-- The row of a combination is the combination of the rows. -/
theorem rowF_hom (op N : Nat) (hop : op ≤ 5) (hN : N ≤ 62) (l : List Int) (hl : l.length = arity op) (hm : ∀ x ∈ l, InN N x) (vs : List Int) (hv : ∀ v ∈ vs, 0 ≤ v ∧ v < N) (hlen : vs.length ≤ 62) :
    rowF (opF op N l) vs 0 0 = opF op vs.length (l.map fun s => rowF s vs 0 0) := by
  have h1 : 2 ^ N ≤ 2 ^ 62 := Nat.pow_le_pow_right (by decide) hN
  have hv' : ∀ v ∈ vs, 0 ≤ v ∧ v ≤ 64 := fun v h => by have := hv v h; omega
  have hin0 : InN 0 (0 : Int) := ⟨0, rfl, by decide⟩
  have hrow : ∀ s, InN N s → InN vs.length (rowF s vs 0 0) := fun s hs => by
    obtain ⟨a, rfl, ha⟩ := hs
    have := rowF_in a (by omega) vs 0 0 (by omega) hv' hin0
    simpa using this
  have hrbit : ∀ s, InN N s → ∀ j, j < vs.length → bt (rowF s vs 0 0) j = bt s (vs.getD j 0).toNat := fun s hs j hj => by
    obtain ⟨a, rfl, ha⟩ := hs
    have := rowF_bit a (by omega) vs 0 0 (by omega) hv' hin0 j (by omega)
    simpa [bt] using this
  have hop' := opF_in op N hop hN l hl hm
  have hm2 : ∀ x ∈ l.map fun s => rowF s vs 0 0, InN vs.length x := by
    intro x hx
    obtain ⟨s, hs, rfl⟩ := List.mem_map.1 hx
    exact hrow s (hm s hs)
  refine inN_eq (hrow _ hop') (opF_in op vs.length hop hlen _ (by simp [hl]) hm2) fun j hj => ?_
  have hvj : vs.getD j 0 = vs[j] := by simp [hj]
  have := hv vs[j] (List.getElem_mem hj)
  rw [hrbit _ hop' j hj, opF_bit op N hop hN l hl hm _ (by rw [hvj]; omega), opF_bit op vs.length hop hlen _ (by simp [hl]) hm2 j hj, List.map_map]
  congr 1
  refine List.map_congr_left fun s hs => ?_
  exact (hrbit s (hm s hs) j hj).symm
theorem mem_allS {p : Pz} (h : goodP p = true) (s : Int) : s ∈ allS p ↔ InN p.vars.toNat s ∧ ∀ c ∈ p.cons, rowF s c.vars 0 0 ∈ (relOf p c).rows := by
  simp only [goodP, Bool.and_eq_true, decide_eq_true_eq] at h
  obtain ⟨⟨⟨⟨⟨g1, g2⟩, g3⟩, g4⟩, g5⟩, g6⟩ := h
  rw [allS_full (by omega)]
  simp only [List.mem_filter, List.mem_map, List.mem_range, List.all_eq_true, holds, decide_eq_true_eq]
  constructor
  · rintro ⟨⟨k, hk, rfl⟩, h⟩
    exact ⟨⟨k, rfl, hk⟩, h⟩
  · rintro ⟨⟨k, rfl, hk⟩, h⟩
    exact ⟨⟨k, hk, rfl⟩, h⟩
/-- An operation that keeps all Rels makes solutions of solutions. -/
theorem sols_closed {p : Pz} (h : goodP p = true) {op : Nat} (hop : op ≤ 5) (hk : p.cons.all (keepC p op) = true) {l : List Int} (hl : l.length = arity op) (hm : ∀ s ∈ l, s ∈ allS p) : opF op p.vars l ∈ allS p := by
  have hg := h
  simp only [goodP, Bool.and_eq_true, decide_eq_true_eq] at hg
  obtain ⟨⟨⟨⟨⟨g1, g2⟩, g3⟩, g4⟩, g5⟩, g6⟩ := hg
  have hn : ((p.vars.toNat : Nat) : Int) = p.vars := by omega
  have hin : ∀ s ∈ l, InN p.vars.toNat s := fun s hs => ((mem_allS h s).1 (hm s hs)).1
  rw [mem_allS h, ← hn]
  refine ⟨opF_in op _ hop (by omega) l hl hin, fun c hc => ?_⟩
  rw [List.all_eq_true] at g6 hk
  have hgc := g6 c hc
  have hlen := goodC_len g5 hgc
  simp only [goodC, Bool.and_eq_true, decide_eq_true_eq, List.all_eq_true, goodV] at hgc
  obtain ⟨⟨⟨c1, c2⟩, c3⟩, c4⟩ := hgc
  rw [rowF_hom op p.vars.toNat hop (by omega) l hl hin c.vars (fun v hv => by have := c4 v hv; omega) (by omega), c3]
  have hbn : brokenF (relOf p c) op = none := by
    have := hk c hc
    rw [keepC] at this
    simpa using this
  refine brokenF_none.1 hbn _ (by simp [hl]) fun y hy => ?_
  obtain ⟨s, hs, rfl⟩ := List.mem_map.1 hy
  exact ((mem_allS h s).1 (hm s hs)).2 c hc
theorem classF_nat (p : Pz) : ∀ k, k ≤ 6 → ∃ m : Nat, classF p k = m ∧ m < 2 ^ k ∧ ∀ j, m.testBit j = (decide (j < k) && p.cons.all (keepC p j)) := by
  intro k
  induction k with
  | zero => exact fun _ => ⟨0, rfl, by decide, fun j => by simp⟩
  | succ k ih =>
    intro hk
    obtain ⟨m, h1, h2, h3⟩ := ih (by omega)
    have hp : 2 ^ k ≤ 2 ^ 6 := Nat.pow_le_pow_right (by decide) (by omega)
    rw [classF_succ, classS, h1]
    cases hc : p.cons.all (keepC p k) with
    | true =>
      rw [if_pos rfl, shl1 k (by omega), orI_nat m (2 ^ k) (by omega) (by omega)]
      refine ⟨_, rfl, Nat.or_lt_two_pow (by omega) (by omega), fun j => ?_⟩
      rw [Nat.testBit_or, h3, Nat.testBit_two_pow]
      rcases Nat.lt_trichotomy j k with h | rfl | h
      · have e1 : j < k + 1 := by omega
        have e2 : k ≠ j := by omega
        simp [h, e1, e2]
      · simp [hc]
      · have e1 : ¬ j < k + 1 := by omega
        have e2 : k ≠ j := by omega
        have e3 : ¬ j < k := by omega
        simp [e3, e1, e2]
    | false =>
      rw [if_neg (by simp)]
      refine ⟨m, rfl, by omega, fun j => ?_⟩
      rw [h3]
      rcases Nat.lt_trichotomy j k with h | rfl | h
      · have e1 : j < k + 1 := by omega
        simp [h, e1]
      · simp [hc]
      · have e1 : ¬ j < k + 1 := by omega
        have e3 : ¬ j < k := by omega
        simp [e3, e1]
theorem class_bit (p : Pz) (op : Nat) (hop : op ≤ 5) : andI (shrI (classF p 6) op) 1 = if p.cons.all (keepC p op) then 1 else 0 := by
  obtain ⟨m, h1, h2, h3⟩ := classF_nat p 6 (by omega)
  rw [h1, and1 m (by omega) op (by omega), h3]
  simp [show op < 6 by omega]
theorem lift_rows {α β : Type} (f : α → β) (A : List α) : ∀ (l : List β), (∀ y ∈ l, y ∈ A.map f) → ∃ l' : List α, l = l'.map f ∧ ∀ s ∈ l', s ∈ A
  | [], _ => ⟨[], rfl, by simp⟩
  | y :: l, h => by
    obtain ⟨l', h1, h2⟩ := lift_rows f A l fun z hz => h z (by simp [hz])
    obtain ⟨s, hs, rfl⟩ := List.mem_map.1 (h y (by simp))
    refine ⟨s :: l', by rw [h1]; rfl, fun z hz => ?_⟩
    rcases List.mem_cons.1 hz with rfl | hz
    · exact hs
    · exact h2 z hz
/-- The Rel of a projection. -/
def projR (p : Pz) (vs : List Int) : Rl := ⟨vs.length, Lib.compact (sortI (projL p vs))⟩
theorem okV_mem {p : Pz} {vs : List Int} (h : okV p vs = true) : goodP p = true ∧ 1 ≤ vs.length ∧ vs.length ≤ 3 ∧ ∀ v ∈ vs, 0 ≤ v ∧ v < p.vars := by
  simpa [okV, goodV, and_assoc] using h
theorem projL_in {p : Pz} {vs : List Int} (h : okV p vs = true) : ∀ x ∈ projL p vs, InN vs.length x := by
  obtain ⟨hg, h1, h2, h3⟩ := okV_mem h
  have hv : p.vars ≤ 8 := by
    simp only [goodP, Bool.and_eq_true, decide_eq_true_eq] at hg
    exact hg.1.1.1.1.2
  intro x hx
  obtain ⟨s, hs, rfl⟩ := List.mem_map.1 hx
  obtain ⟨k, rfl, hk⟩ := allS_nat hs
  have hN : 2 ^ p.vars.toNat ≤ 2 ^ 8 := Nat.pow_le_pow_right (by decide) (by omega)
  have := rowF_in k (by omega) vs 0 0 (by omega) (fun v hv' => by have := h3 v hv'; omega) ⟨0, rfl, by decide⟩
  simpa using this
theorem projR_good {p : Pz} {vs : List Int} (h : okV p vs = true) (hne : allS p ≠ []) : goodR (projR p vs) = true := by
  obtain ⟨hg, h1, h2, h3⟩ := okV_mem h
  refine goodR_asc.2 ⟨by simp only [projR]; omega, by simp only [projR]; omega, ?_, compact_asc (sortI_asc _), fun x hx => ?_⟩
  · obtain ⟨s, l, hl⟩ := List.exists_cons_of_ne_nil hne
    have : rowF s vs 0 0 ∈ (projR p vs).rows := by
      rw [projR, mem_compact, mem_sortI, projL, hl]
      simp
    exact List.length_pos_of_mem this
  · rw [projR, mem_compact, mem_sortI] at hx
    have := projL_in h x hx
    simpa [projR] using this
theorem proj_keeps {p : Pz} {vs : List Int} (h : okV p vs = true) {op : Nat} (hop : op ≤ 5) (hk : p.cons.all (keepC p op) = true) : brokenF (projR p vs) op = none := by
  obtain ⟨hg, h1, h2, h3⟩ := okV_mem h
  have hg' := hg
  simp only [goodP, Bool.and_eq_true, decide_eq_true_eq] at hg'
  obtain ⟨⟨⟨⟨⟨g1, g2⟩, g3⟩, g4⟩, g5⟩, g6⟩ := hg'
  rw [brokenF_none]
  intro x hx hm
  have hm' : ∀ y ∈ x, y ∈ (allS p).map fun s => rowF s vs 0 0 := fun y hy => by
    have := hm y hy
    rw [projR, mem_compact, mem_sortI] at this
    exact this
  obtain ⟨l, rfl, hl⟩ := lift_rows _ _ x hm'
  have hla : l.length = arity op := by simpa using hx
  have hn : ((p.vars.toNat : Nat) : Int) = p.vars := by omega
  have hin : ∀ s ∈ l, InN p.vars.toNat s := fun s hs => ((mem_allS hg s).1 (hl s hs)).1
  have hom := rowF_hom op p.vars.toNat hop (by omega) l hla hin vs (fun v hv => by have := h3 v hv; omega) (by omega)
  rw [projR, mem_compact, mem_sortI]
  show opF op vs.length _ ∈ _
  rw [← hom, hn]
  exact List.mem_map.2 ⟨_, sols_closed hg hop hk hla hl, rfl⟩
/-- Hull has the rows, and is not broken. -/
theorem hullF_law {op : Nat} (hop : op ≤ 5) : ∀ (f : Nat) (r : Rl), goodR r = true → 8 < r.rows.length + f → goodR (hullF op f r) = true ∧ brokenF (hullF op f r) op = none ∧ (hullF op f r).n = r.n ∧ (∀ x ∈ r.rows, x ∈ (hullF op f r).rows) ∧ (brokenF r op ≠ none → (hullF op f r).rows ≠ r.rows)
  | 0, r, hg, hf => by
    have := goodR_len hg
    omega
  | f + 1, r, hg, hf => by
    rw [hullF]
    cases hb : brokenF r op with
    | none => exact ⟨hg, hb, rfl, fun x hx => hx, fun h => absurd rfl h⟩
    | some l =>
      simp only
      obtain ⟨a1, a2, a3⟩ := addR_law hg hop hb
      obtain ⟨hl, hy, hny⟩ := brokenF_some hg hop hb
      obtain ⟨i1, i2, i3, i4, i5⟩ := hullF_law hop f (addR r op l) a1 (by omega)
      have hperm : (addR r op l).rows.Perm (r.rows ++ [opF op r.n l]) := List.mergeSort_perm _ _
      have hmem : ∀ x, x ∈ (addR r op l).rows ↔ x ∈ r.rows ∨ x = opF op r.n l := fun x => by
        rw [hperm.mem_iff]
        simp
      refine ⟨i1, i2, i3, fun x hx => i4 x ((hmem x).2 (.inl hx)), fun _ e => ?_⟩
      have := i4 _ ((hmem _).2 (.inr rfl))
      rw [e] at this
      exact hny this
end Go.Proofs.Ytmneioafbkknhaa
