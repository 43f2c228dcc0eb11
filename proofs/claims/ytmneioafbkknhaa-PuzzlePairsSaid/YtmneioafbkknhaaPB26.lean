import Derived.Test.YtmneioafbkknhaaPB25
/- PB26: the plain law of Hull. -/
set_option linter.unusedVariables false
set_option linter.unusedSimpArgs false
set_option maxRecDepth 20000
namespace Go.Proofs.Ytmneioafbkknhaa
open Go Go.PS
theorem orI_nat (a b : Nat) (ha : a < 9223372036854775808) (hb : b < 9223372036854775808) : orI (a : Int) (b : Int) = ((a ||| b : Nat) : Int) := by
  have hx : a ||| b < 2 ^ 63 := Nat.or_lt_two_pow (by omega) (by omega)
  have h1 : (BitVec.ofInt 64 (a : Int)).toNat = a := by
    rw [BitVec.ofInt_natCast, BitVec.toNat_ofNat]; exact Nat.mod_eq_of_lt (by omega)
  have h2 : (BitVec.ofInt 64 (b : Int)).toNat = b := by
    rw [BitVec.ofInt_natCast, BitVec.toNat_ofNat]; exact Nat.mod_eq_of_lt (by omega)
  show IntKind.i64.wrap ((BitVec.ofInt 64 (a : Int) ||| BitVec.ofInt 64 (b : Int)).toNat : Int) = _
  rw [BitVec.toNat_or, h1, h2, IntKind.wrap_i64]
  omega
theorem xorI_nat (a b : Nat) (ha : a < 9223372036854775808) (hb : b < 9223372036854775808) : xorI (a : Int) (b : Int) = ((a ^^^ b : Nat) : Int) := by
  have hx : a ^^^ b < 2 ^ 63 := Nat.xor_lt_two_pow (by omega) (by omega)
  have h1 : (BitVec.ofInt 64 (a : Int)).toNat = a := by
    rw [BitVec.ofInt_natCast, BitVec.toNat_ofNat]; exact Nat.mod_eq_of_lt (by omega)
  have h2 : (BitVec.ofInt 64 (b : Int)).toNat = b := by
    rw [BitVec.ofInt_natCast, BitVec.toNat_ofNat]; exact Nat.mod_eq_of_lt (by omega)
  show IntKind.i64.wrap ((BitVec.ofInt 64 (a : Int) ^^^ BitVec.ofInt 64 (b : Int)).toNat : Int) = _
  rw [BitVec.toNat_xor, h1, h2, IntKind.wrap_i64]
  omega
/-- A number below a power of two. -/
def InN (n : Nat) (x : Int) : Prop := ∃ k : Nat, x = k ∧ k < 2 ^ n
theorem inN_and {n : Nat} (hn : n ≤ 62) {x y : Int} (hx : InN n x) (hy : InN n y) : InN n (andI x y) := by
  obtain ⟨a, rfl, ha⟩ := hx
  obtain ⟨b, rfl, hb⟩ := hy
  have h1 : 2 ^ n ≤ 2 ^ 62 := Nat.pow_le_pow_right (by decide) hn
  exact ⟨_, andI_nat a b (by omega) (by omega), Nat.and_lt_two_pow _ hb⟩
theorem inN_or {n : Nat} (hn : n ≤ 62) {x y : Int} (hx : InN n x) (hy : InN n y) : InN n (orI x y) := by
  obtain ⟨a, rfl, ha⟩ := hx
  obtain ⟨b, rfl, hb⟩ := hy
  have h1 : 2 ^ n ≤ 2 ^ 62 := Nat.pow_le_pow_right (by decide) hn
  exact ⟨_, orI_nat a b (by omega) (by omega), Nat.or_lt_two_pow ha hb⟩
theorem inN_xor {n : Nat} (hn : n ≤ 62) {x y : Int} (hx : InN n x) (hy : InN n y) : InN n (xorI x y) := by
  obtain ⟨a, rfl, ha⟩ := hx
  obtain ⟨b, rfl, hb⟩ := hy
  have h1 : 2 ^ n ≤ 2 ^ 62 := Nat.pow_le_pow_right (by decide) hn
  exact ⟨_, xorI_nat a b (by omega) (by omega), Nat.xor_lt_two_pow ha hb⟩
theorem opF_in (op n : Nat) (hop : op ≤ 5) (hn : n ≤ 62) (l : List Int) (hl : l.length = arity op) (hm : ∀ x ∈ l, InN n x) : InN n (opF op n l) := by
  match op, l, hl, hop with
  | 0, l, _, _ => exact ⟨0, rfl, Nat.pow_pos (by decide)⟩
  | 1, l, _, _ =>
    have h1 : 2 ^ n ≤ 2 ^ 62 := Nat.pow_le_pow_right (by decide) hn
    have h0 : 0 < 2 ^ n := Nat.pow_pos (by decide)
    refine ⟨2 ^ n - 1, ?_, by omega⟩
    show IntKind.i64.wrap (shlI 1 (n : Int).toNat - 1) = _
    rw [Int.toNat_natCast, shl1 n hn, wr (by omega) (by omega)]
    omega
  | 2, [a, b], _, _ => exact inN_and hn (hm a (by simp)) (hm b (by simp))
  | 3, [a, b], _, _ => exact inN_or hn (hm a (by simp)) (hm b (by simp))
  | 4, [a, b, c], _, _ =>
    have ha := hm a (by simp)
    have hb := hm b (by simp)
    have hc := hm c (by simp)
    exact inN_or hn (inN_or hn (inN_and hn ha hb) (inN_and hn ha hc)) (inN_and hn hb hc)
  | 5, [a, b, c], _, _ => exact inN_xor hn (inN_xor hn (hm a (by simp)) (hm b (by simp))) (hm c (by simp))
theorem growF_some {bad : List Int → Bool} {rows : List Int} : ∀ {k : Nat} {l x : List Int}, growF bad rows k l = some x → bad x = true ∧ x.length = l.length + k ∧ ∀ y ∈ x, y ∈ l ∨ y ∈ rows
  | 0, l, x, h => by
    simp only [growF] at h
    split at h
    · rename_i hb
      cases h
      exact ⟨hb, by simp, fun y hy => .inl hy⟩
    · cases h
  | k + 1, l, x, h => by
    simp only [growF] at h
    obtain ⟨y, hy, hg⟩ := List.exists_of_findSome?_eq_some h
    obtain ⟨h1, h2, h3⟩ := growF_some hg
    refine ⟨h1, by simp at h2; omega, fun z hz => ?_⟩
    rcases h3 z hz with h4 | h4
    · rcases List.mem_append.1 h4 with h5 | h5
      · exact .inl h5
      · simp at h5
        subst h5
        exact .inr hy
    · exact .inr h4
/-- Rising rows in bounds. -/
def Asc (l : List Int) : Prop := l.Pairwise (· < ·)
theorem asc_eq : ∀ {l l' : List Int}, Asc l → Asc l' → (∀ x, x ∈ l ↔ x ∈ l') → l = l'
  | [], [], _, _, _ => rfl
  | [], y :: l', _, _, h => by have := (h y).2 (by simp); cases this
  | x :: l, [], _, _, h => by have := (h x).1 (by simp); cases this
  | x :: l, y :: l', h1, h2, h => by
    rw [Asc, List.pairwise_cons] at h1 h2
    have hxy : x = y := by
      have hx := (h x).1 (by simp)
      have hy := (h y).2 (by simp)
      rcases List.mem_cons.1 hx with e | hx
      · exact e
      · rcases List.mem_cons.1 hy with e | hy
        · exact e.symm
        · have := h1.1 y hy
          have := h2.1 x hx
          omega
    subst hxy
    congr 1
    refine asc_eq h1.2 h2.2 fun z => ?_
    have hz := h z
    simp only [List.mem_cons] at hz
    constructor
    · intro hm
      have := h1.1 z hm
      rcases hz.1 (.inr hm) with e | hh
      · omega
      · exact hh
    · intro hm
      have := h2.1 z hm
      rcases hz.2 (.inr hm) with e | hh
      · omega
      · exact hh
theorem asc_bits (set k : Nat) : Asc (bitsL set k) := by
  rw [Asc, bitsL, List.pairwise_map]
  refine List.Pairwise.filter _ ?_
  exact List.Pairwise.imp (fun h => by omega) List.pairwise_lt_range
theorem mem_bits {set k : Nat} {x : Int} : x ∈ bitsL set k ↔ ∃ j : Nat, x = j ∧ j < k ∧ set.testBit j = true := by
  simp only [bitsL, List.mem_map, List.mem_filter, List.mem_range]
  constructor
  · rintro ⟨j, ⟨h1, h2⟩, rfl⟩
    exact ⟨j, rfl, h1, h2⟩
  · rintro ⟨j, rfl, h1, h2⟩
    exact ⟨j, ⟨h1, h2⟩, rfl⟩
theorem goodR_asc {r : Rl} : goodR r = true ↔ 1 ≤ r.n ∧ r.n ≤ 3 ∧ 1 ≤ r.rows.length ∧ Asc r.rows ∧ ∀ x ∈ r.rows, InN r.n.toNat x := by
  simp only [goodR, Bool.and_eq_true, decide_eq_true_eq, List.all_eq_true, List.mem_range]
  constructor
  · rintro ⟨⟨⟨h1, h2⟩, h3⟩, h4⟩
    have hs := shl1 r.n.toNat (by omega)
    refine ⟨h1, h2, h3, ?_, fun x hx => ?_⟩
    · have step : ∀ j, j + 1 < r.rows.length → r.rows.getD j 0 < r.rows.getD (j + 1) 0 := by
        intro j hj
        have := h4 (j + 1) hj
        simp only [goodAt, Bool.and_eq_true, Bool.or_eq_true, decide_eq_true_eq, Nat.add_sub_cancel] at this
        omega
      have far : ∀ d i, i + d + 1 < r.rows.length → r.rows.getD i 0 < r.rows.getD (i + d + 1) 0 := by
        intro d
        induction d with
        | zero => exact fun i hi => step i hi
        | succ d ih =>
          intro i hi
          have e1 := ih i (by omega)
          have e2 := step (i + d + 1) (by omega)
          rw [show i + (d + 1) + 1 = i + d + 1 + 1 by omega]
          omega
      rw [Asc, List.pairwise_iff_getElem]
      intro i j hi hj hij
      have := far (j - i - 1) i (by omega)
      rw [show i + (j - i - 1) + 1 = j by omega] at this
      simpa [hi, hj] using this
    · obtain ⟨i, hi, rfl⟩ := List.getElem_of_mem hx
      have := h4 i hi
      simp only [goodAt, Bool.and_eq_true, Bool.or_eq_true, decide_eq_true_eq] at this
      have e : r.rows.getD i 0 = r.rows[i] := by simp [hi]
      rw [e, hs] at this
      exact ⟨r.rows[i].toNat, by omega, by omega⟩
  · rintro ⟨h1, h2, h3, h4, h5⟩
    have hs := shl1 r.n.toNat (by omega)
    refine ⟨⟨⟨h1, h2⟩, h3⟩, fun i hi => ?_⟩
    have e : r.rows.getD i 0 = r.rows[i] := by simp [hi]
    obtain ⟨k, hk, hlt⟩ := h5 r.rows[i] (List.getElem_mem hi)
    simp only [goodAt, Bool.and_eq_true, Bool.or_eq_true, decide_eq_true_eq, e, hs]
    refine ⟨⟨by omega, by omega⟩, ?_⟩
    rcases Nat.eq_zero_or_pos i with rfl | hp
    · exact .inl rfl
    · right
      have e2 : r.rows.getD (i - 1) 0 = r.rows[i - 1] := by simp [show i - 1 < r.rows.length by omega]
      rw [e2]
      rw [Asc, List.pairwise_iff_getElem] at h4
      exact h4 (i - 1) i (by omega) hi (by omega)
/-- Rows as a set. -/
def setOf (rows : List Int) (s : Nat) : Nat := rows.foldl (fun s x => s ||| 2 ^ x.toNat) s
theorem setOf_bit (rows : List Int) : ∀ (s j : Nat), (∀ x ∈ rows, 0 ≤ x) → (setOf rows s).testBit j = (s.testBit j || decide ((j : Int) ∈ rows)) := by
  induction rows with
  | nil => intro s j _; simp [setOf]
  | cons x rows ih =>
    intro s j h
    have hx := h x (by simp)
    rw [setOf, List.foldl_cons, ← setOf, ih _ _ fun y hy => h y (by simp [hy]), Nat.testBit_or, Nat.testBit_two_pow]
    by_cases e : (j : Int) = x
    · subst e; simp
    · have : x.toNat ≠ j := by omega
      simp [this, e]
theorem setOf_lt (rows : List Int) : ∀ (s : Nat), s < 256 → (∀ x ∈ rows, InN 3 x) → setOf rows s < 256 := by
  induction rows with
  | nil => intro s hs _; exact hs
  | cons x rows ih =>
    intro s hs h
    obtain ⟨k, rfl, hk⟩ := h x (by simp)
    rw [setOf, List.foldl_cons, ← setOf]
    refine ih _ ?_ fun y hy => h y (by simp [hy])
    have : 2 ^ (k : Int).toNat < 2 ^ 8 := Nat.pow_lt_pow_right (by decide) (by simp; omega)
    exact Nat.or_lt_two_pow (n := 8) hs this
theorem inN_mono {n m : Nat} (h : n ≤ m) {x : Int} (hx : InN n x) : InN m x := by
  obtain ⟨k, e, hk⟩ := hx
  exact ⟨k, e, Nat.lt_of_lt_of_le hk (Nat.pow_le_pow_right (by decide) h)⟩
theorem brokenF_some {r : Rl} (hg : goodR r = true) {op : Nat} (hop : op ≤ 5) {l : List Int} (h : brokenF r op = some l) : l.length = arity op ∧ InN r.n.toNat (opF op r.n l) ∧ opF op r.n l ∉ r.rows := by
  obtain ⟨h1, h2, h3⟩ := growF_some h
  obtain ⟨g1, g2, g3, g4, g5⟩ := goodR_asc.1 hg
  have hl : l.length = arity op := by simpa using h2
  refine ⟨hl, ?_, by simpa [badF] using h1⟩
  have := opF_in op r.n.toNat hop (by omega) l hl fun x hx => by
    rcases h3 x hx with h | h
    · cases h
    · exact g5 x h
  rwa [show ((r.n.toNat : Nat) : Int) = r.n by omega] at this
/-- One row more. -/
def addR (r : Rl) (op : Nat) (l : List Int) : Rl := ⟨r.n, sortI (r.rows ++ [opF op r.n l])⟩
theorem addR_law {r : Rl} (hg : goodR r = true) {op : Nat} (hop : op ≤ 5) {l : List Int} (h : brokenF r op = some l) :
    goodR (addR r op l) = true ∧ (addR r op l).rows.length = r.rows.length + 1 ∧ (addR r op l).rows = bitsL (setOf r.rows (2 ^ (opF op r.n l).toNat)) 8 := by
  obtain ⟨hl, hy, hny⟩ := brokenF_some hg hop h
  obtain ⟨g1, g2, g3, g4, g5⟩ := goodR_asc.1 hg
  have hperm : (addR r op l).rows.Perm (r.rows ++ [opF op r.n l]) := List.mergeSort_perm _ _
  have hlen : (addR r op l).rows.length = r.rows.length + 1 := by rw [hperm.length_eq]; simp
  have hmem : ∀ x, x ∈ (addR r op l).rows ↔ x ∈ r.rows ∨ x = opF op r.n l := fun x => by rw [hperm.mem_iff]; simp
  have hnd : (r.rows ++ [opF op r.n l]).Nodup := by
    rw [List.nodup_append]
    refine ⟨?_, by simp, ?_⟩
    · exact List.Pairwise.imp (fun h => by omega) g4
    · intro x hx y hy'
      simp at hy'
      subst hy'
      rintro rfl
      exact hny hx
  have hasc : Asc (addR r op l).rows := by
    have h1 : (addR r op l).rows.Pairwise (fun a b => decide (a ≤ b) = true) := List.pairwise_mergeSort (fun a b c h1 h2 => by simp at h1 h2 ⊢; omega) (fun a b => by simp; omega) _
    have h2 : (addR r op l).rows.Nodup := hperm.nodup_iff.2 hnd
    rw [List.Nodup] at h2
    exact (h1.and h2).imp fun ⟨h1, h2⟩ => by simp at h1; omega
  have hin : ∀ x ∈ (addR r op l).rows, InN r.n.toNat x := fun x hx => by
    rcases (hmem x).1 hx with h | rfl
    · exact g5 x h
    · exact hy
  refine ⟨goodR_asc.2 ⟨g1, g2, by omega, hasc, hin⟩, hlen, ?_⟩
  refine asc_eq hasc (asc_bits _ _) fun x => ?_
  rw [hmem, mem_bits]
  have h0 : ∀ x ∈ r.rows, 0 ≤ x := fun x hx => by obtain ⟨k, e, _⟩ := g5 x hx; omega
  constructor
  · intro hx
    have hxin : InN 3 x := inN_mono (by omega) (hin x ((hmem x).2 hx))
    obtain ⟨k, rfl, hk⟩ := hxin
    refine ⟨k, rfl, by omega, ?_⟩
    rw [setOf_bit _ _ _ h0, Nat.testBit_two_pow]
    rcases hx with h | h
    · simp [h]
    · have : (opF op r.n l).toNat = k := by omega
      simp [this]
  · rintro ⟨j, rfl, hj, hb⟩
    rw [setOf_bit _ _ _ h0, Nat.testBit_two_pow] at hb
    simp only [Bool.or_eq_true, decide_eq_true_eq] at hb
    rcases hb with h | h
    · right
      obtain ⟨k, e, _⟩ := hy
      omega
    · exact .inl h
/-- What Hull comes to. -/
def hullF (op : Nat) : Nat → Rl → Rl
  | 0, r => r
  | k + 1, r => match brokenF r op with
    | none => r
    | some l => hullF op k (addR r op l)
end Go.Proofs.Ytmneioafbkknhaa
