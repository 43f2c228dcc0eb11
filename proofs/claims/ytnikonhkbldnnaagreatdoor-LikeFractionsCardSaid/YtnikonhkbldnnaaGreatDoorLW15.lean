import Derived.Test.YtnikonhkbldnnaaGreatDoorLW14
/- LW15: a fraction matrix is there exactly of towns that are alike. Plain. -/
set_option linter.unusedVariables false
set_option linter.unusedSimpArgs false
namespace Go.Proofs.YtnikonhkbldnnaaGreatDoor
/-- An element, in numbers that are not negative. -/
def frN (q : Int × Int) : Nat × Nat := (q.1.toNat, q.2.toNat)
def okI (q : Int × Int) : Bool := decide (1 ≤ q.2) && (decide (q.2 ≤ 60) && (decide (0 ≤ q.1) && (decide (q.1 ≤ q.2) && (Nat.gcd q.1.toNat q.2.toNat == 1))))
def elM (X : List (List (Int × Int))) (i j : Nat) : Nat × Nat := frN ((X.getD i []).getD j (0, 0))
def validX (n m : Nat) (X : List (List (Int × Int))) : Bool := n == m && (X.length == n && X.all fun r => r.length == m && r.all okI)
def rightX (A B : List Nat) (X : List (List (Int × Int))) : Bool := (List.range A.length).all fun i =>
  frSum ((ndN (2 ^ A.length - 1)).map fun k => elM X i k) == (1, 1) && (frSum ((ndN (2 ^ A.length - 1)).map fun k => elM X k i) == (1, 1) &&
    (List.range B.length).all fun j => frSum ((ndN (A.getD i 0)).map fun k => elM X k j) == frSum ((ndN (B.getD j 0)).map fun k => elM X i k))
def chkX (A B : List Nat) (X : List (List (Int × Int))) : Bool := validX A.length B.length X && rightX A B X
theorem okI_ok {q : Int × Int} (h : okI q = true) : FrOk (frN q) := by
  unfold okI at h
  simp only [Bool.and_eq_true, decide_eq_true_eq, beq_iff_eq] at h
  obtain ⟨h1, h2, h3, h4, h5⟩ := h
  exact ⟨by show 1 ≤ q.2.toNat; omega, by show q.2.toNat ≤ 60; omega, by show q.1.toNat ≤ q.2.toNat; omega, h5⟩
theorem valid_ok {n m : Nat} {X : List (List (Int × Int))} (h : validX n m X = true) {i j : Nat} (hi : i < n) (hj : j < n) : FrOk (elM X i j) := by
  unfold validX at h
  simp only [Bool.and_eq_true, beq_iff_eq, List.all_eq_true] at h
  obtain ⟨h1, h2, h3⟩ := h
  have hi' : i < X.length := by omega
  have h4 := h3 X[i] (List.getElem_mem hi')
  have hj' : j < X[i].length := by omega
  have e : elM X i j = frN X[i][j] := by simp [elM, List.getD_eq_getElem?_getD, hi', hj']
  rw [e]
  exact okI_ok (h4.2 _ (List.getElem_mem hj'))
theorem sum_fil (f : Nat → Nat) (p : Nat → Bool) : ∀ n : Nat, ((((List.range n).filter p).map f).sum : Int) = sgm n fun k => ind (p k) * (f k : Int)
  | 0 => rfl
  | n + 1 => by
    rw [List.range_succ, List.filter_append, List.map_append, List.sum_append, sgm, ← sum_fil f p n]
    cases hp : p n <;> simp [hp, ind]
theorem sum_nd (f : Nat → Nat) {n s : Nat} (hn : n ≤ 12) (hs : s < 2 ^ n) : ((((ndN s).map f).sum : Nat) : Int) = sgm n fun k => ind (s.testBit k) * (f k : Int) := by
  rw [← nd_filter hn hs]
  exact sum_fil f s.testBit n
theorem full_lt (n : Nat) : 2 ^ n - 1 < 2 ^ n := by have := Nat.two_pow_pos n; omega
theorem nd_all {n k : Nat} (hn : n ≤ 12) : k ∈ ndN (2 ^ n - 1) ↔ k < n := by
  rw [nd_mem, Nat.testBit_two_pow_sub_one, decide_eq_true_eq]
  omega
theorem sum_all (f : Nat → Nat) {n : Nat} (hn : n ≤ 12) : ((((ndN (2 ^ n - 1)).map f).sum : Nat) : Int) = sgm n fun k => (f k : Int) := by
  rw [sum_nd f hn (full_lt n)]
  refine sgm_congr fun k hk => ?_
  rw [Nat.testBit_two_pow_sub_one, decide_eq_true hk]
  simp [ind]
/-- What right asks, as sums. -/
theorem right_iff {A B : List Nat} {X : List (List (Int × Int))} {M : Nat} (hA : Tow 6 A) (hB : Tow 6 B) (hl : A.length = B.length) (h0 : 0 < M) (hM : ∀ d, 1 ≤ d → d ≤ 60 → d ∣ M)
    (ok : ∀ i j, i < A.length → j < A.length → FrOk (elM X i j)) :
    rightX A B X = true ↔ (∀ i, i < A.length → sgm A.length (fun k => (frV M (elM X i k) : Int)) = M) ∧ (∀ i, i < A.length → sgm A.length (fun k => (frV M (elM X k i) : Int)) = M) ∧
      ∀ i j, i < A.length → j < A.length → sgm A.length (fun k => ind (nbN A i k) * (frV M (elM X k j) : Int)) = sgm A.length (fun k => ind (nbN B j k) * (frV M (elM X i k) : Int)) := by
  obtain ⟨n, hn⟩ : ∃ n, n = A.length := ⟨_, rfl⟩
  have hn6 : n ≤ 6 := hn ▸ hA.le
  have hb : B.length = n := by omega
  have hin : ∀ {s k : Nat}, s < 2 ^ n → k ∈ ndN s → k < n := fun {s k} hs hk => by
    rw [← nd_filter (by omega) hs] at hk
    exact List.mem_range.1 (List.mem_filter.1 hk).1
  have hsA : ∀ i, A.getD i 0 < 2 ^ n := fun i => hn ▸ hA.get i
  have hsB : ∀ i, B.getD i 0 < 2 ^ n := fun i => hb ▸ hB.get i
  rw [← hn] at ok ⊢
  have e1 : ∀ i, i < n → (frSum ((ndN (2 ^ n - 1)).map fun k => elM X i k) = (1, 1) ↔ sgm n (fun k => (frV M (elM X i k) : Int)) = M) := fun i hi => by
    rw [frSum_one h0 hM (fun q hq => by obtain ⟨k, hk, rfl⟩ := List.mem_map.1 hq; exact ok i k hi (hin (full_lt n) hk)), List.map_map, ← sum_all (fun k => frV M (elM X i k)) (by omega)]
    exact Int.ofNat_inj.symm
  have e2 : ∀ i, i < n → (frSum ((ndN (2 ^ n - 1)).map fun k => elM X k i) = (1, 1) ↔ sgm n (fun k => (frV M (elM X k i) : Int)) = M) := fun i hi => by
    rw [frSum_one h0 hM (fun q hq => by obtain ⟨k, hk, rfl⟩ := List.mem_map.1 hq; exact ok k i (hin (full_lt n) hk) hi), List.map_map, ← sum_all (fun k => frV M (elM X k i)) (by omega)]
    exact Int.ofNat_inj.symm
  have e3 : ∀ i j, i < n → j < n → (frSum ((ndN (A.getD i 0)).map fun k => elM X k j) = frSum ((ndN (B.getD j 0)).map fun k => elM X i k) ↔
      sgm n (fun k => ind (nbN A i k) * (frV M (elM X k j) : Int)) = sgm n (fun k => ind (nbN B j k) * (frV M (elM X i k) : Int))) := fun i j hi hj => by
    rw [frSum_eq h0 hM (fun q hq => by obtain ⟨k, hk, rfl⟩ := List.mem_map.1 hq; exact ok k j (hin (hsA i) hk) hj) (fun q hq => by obtain ⟨k, hk, rfl⟩ := List.mem_map.1 hq; exact ok i k hi (hin (hsB j) hk)),
      List.map_map, List.map_map]
    have a1 := sum_nd (fun k => frV M (elM X k j)) (n := n) (by omega) (hsA i)
    have a2 := sum_nd (fun k => frV M (elM X i k)) (n := n) (by omega) (hsB j)
    unfold nbN
    rw [← a1, ← a2]
    exact Int.ofNat_inj.symm
  unfold rightX
  rw [← hn, hb]
  simp only [List.all_eq_true, List.mem_range, Bool.and_eq_true, beq_iff_eq]
  constructor
  · intro h
    exact ⟨fun i hi => (e1 i hi).1 (h i hi).1, fun i hi => (e2 i hi).1 (h i hi).2.1, fun i j hi hj => (e3 i j hi hj).1 ((h i hi).2.2 j hj)⟩
  · intro h i hi
    exact ⟨(e1 i hi).2 (h.1 i hi), (e2 i hi).2 (h.2.1 i hi), fun j hj => (e3 i j hi hj).2 (h.2.2 i j hi hj)⟩
/-- A fraction matrix makes alike. -/
theorem chk_like {A B : List Nat} {X : List (List (Int × Int))} (hA : Tow 6 A) (hB : Tow 6 B) (h : chkX A B X = true) : likeN A B = true := by
  obtain ⟨M, h0, hM⟩ := com_mul
  obtain ⟨hv, hr⟩ := (Bool.and_eq_true _ _).mp h
  have hl : A.length = B.length := by
    unfold validX at hv
    simp only [Bool.and_eq_true, beq_iff_eq] at hv
    exact hv.1
  obtain ⟨r1, r2, r3⟩ := (right_iff hA hB hl h0 hM fun i j hi hj => valid_ok hv hi hj).1 hr
  refine like_weights (n := A.length) (a := fun i j => (frV M (elM X i j) : Int)) (L := M) hA hB rfl hl.symm ?_
  refine ⟨by omega, fun i j _ _ => Int.natCast_nonneg _, r1, r2, fun i j hi hj => ?_, fun i j hi hj => ?_, fun i j hi hj => ?_⟩
  · rw [r3 i j hi hj]
    refine sgm_congr fun k hk => ?_
    show ind (nbN B j k) * _ = _ * ind (nbN B k j)
    rw [Int.mul_comm, nbN, nbN, hB.sym j k (by omega) (by omega)]
  · show ind (nbN A i j) = ind (nbN A j i)
    rw [nbN, nbN, hA.sym i j (by omega) (by omega)]
  · show ind (nbN B i j) = ind (nbN B j i)
    rw [nbN, nbN, hB.sym i j (by omega) (by omega)]
/-- Nodes of the same colour share alike. -/
def frX (A B : List Nat) : List (List (Int × Int)) := (List.range A.length).map fun i => (List.range B.length).map fun j =>
  if (shN A B).1.getD i 0 = (shN A B).2.getD j 0 then (1, ((shN A B).1.count ((shN A B).1.getD i 0) : Nat)) else (0, 1)
theorem count_sgm (l : List Nat) (n : Nat) (h : l.length = n) (q : Nat) : ((l.count q : Nat) : Int) = sgm n fun k => ind (l.getD k 0 == q) := by
  rw [sgm_count, ← map_getD l n h, List.count_eq_countP, List.countP_map]
  congr 2
  funext k
  rw [map_getD l n h]
  rfl
theorem frac_chk {A B : List Nat} (hA : Tow 6 A) (hB : Tow 6 B) (hk : likeN A B = true) : chkX A B (frX A B) = true := by
  obtain ⟨M, h0, hM⟩ := com_mul
  have hsl := sh_len A B
  have hperm := like_perm hk
  have hl : A.length = B.length := by rw [← hsl.1, ← hsl.2]; exact hperm.length_eq
  obtain ⟨n, hn⟩ : ∃ n, n = A.length := ⟨_, rfl⟩
  have hb : B.length = n := by omega
  have hn6 : n ≤ 6 := hn ▸ hA.le
  have hst := sh_jst hA hB
  obtain ⟨x, hx⟩ : ∃ x, x = (shN A B).1 := ⟨_, rfl⟩
  obtain ⟨y, hy⟩ : ∃ y, y = (shN A B).2 := ⟨_, rfl⟩
  rw [← hx, ← hy] at hst hperm hsl
  have hxl : x.length = n := by omega
  have hyl : y.length = n := by omega
  have hpos : ∀ i, i < n → 1 ≤ x.count (x.getD i 0) := fun i hi => by
    apply List.count_pos_iff.2
    rw [List.getD_eq_getElem?_getD, List.getElem?_eq_getElem (by omega)]
    exact List.getElem_mem _
  have hle : ∀ q, x.count q ≤ 6 := fun q => Nat.le_trans List.count_le_length (by omega)
  have hyx : ∀ j, j < n → ∃ k, k < n ∧ x.getD k 0 = y.getD j 0 := fun j hj => by
    have h1 : y.getD j 0 ∈ y := by
      rw [List.getD_eq_getElem?_getD, List.getElem?_eq_getElem (by omega)]
      exact List.getElem_mem _
    obtain ⟨k, hk, e⟩ := List.mem_iff_getElem.1 (hperm.mem_iff.2 h1)
    exact ⟨k, by omega, by rw [List.getD_eq_getElem?_getD, List.getElem?_eq_getElem hk]; exact e⟩
  have hxy : ∀ i, i < n → ∃ k, k < n ∧ y.getD k 0 = x.getD i 0 := fun i hi => by
    have h1 : x.getD i 0 ∈ x := by
      rw [List.getD_eq_getElem?_getD, List.getElem?_eq_getElem (by omega)]
      exact List.getElem_mem _
    obtain ⟨k, hk, e⟩ := List.mem_iff_getElem.1 (hperm.mem_iff.1 h1)
    exact ⟨k, by omega, by rw [List.getD_eq_getElem?_getD, List.getElem?_eq_getElem hk]; exact e⟩
  have hel : ∀ i j, i < n → j < n → elM (frX A B) i j = if x.getD i 0 = y.getD j 0 then (1, x.count (x.getD i 0)) else (0, 1) := fun i j hi hj => by
    have : (frX A B).getD i [] = (List.range B.length).map fun j => if x.getD i 0 = y.getD j 0 then ((1 : Int), ((x.count (x.getD i 0) : Nat) : Int)) else (0, 1) := by
      unfold frX
      rw [← hx, ← hy, ← hn]
      simp [List.getD_eq_getElem?_getD, hi]
    rw [elM, this, hb]
    have h2 : ((List.range n).map fun j => if x.getD i 0 = y.getD j 0 then ((1 : Int), ((x.count (x.getD i 0) : Nat) : Int)) else (0, 1)).getD j (0, 0) = if x.getD i 0 = y.getD j 0 then ((1 : Int), ((x.count (x.getD i 0) : Nat) : Int)) else (0, 1) := by
      rw [List.getD_eq_getElem?_getD, List.getElem?_map, List.getElem?_range hj]
      rfl
    rw [h2]
    split <;> simp [frN]
  have hv : validX A.length B.length (frX A B) = true := by
    unfold validX
    simp only [Bool.and_eq_true, beq_iff_eq, List.all_eq_true]
    refine ⟨hl, by simp [frX], fun r hr => ?_⟩
    unfold frX at hr
    rw [← hx, ← hy] at hr
    obtain ⟨i, hi, rfl⟩ := List.mem_map.1 hr
    refine ⟨by simp, fun q hq => ?_⟩
    obtain ⟨j, hj, rfl⟩ := List.mem_map.1 hq
    have hi' := List.mem_range.1 hi
    have h1 := hpos i (by omega)
    have h2 := hle (x.getD i 0)
    split
    · obtain ⟨m, hm⟩ : ∃ m, m = x.count (x.getD i 0) := ⟨_, rfl⟩
      rw [← hm] at h1 h2 ⊢
      simp [okI]
      omega
    · decide
  have hw : ∀ q, 1 ≤ x.count q → x.count q * (M / x.count q) = M := fun q h1 => Nat.mul_div_cancel' (hM _ h1 (by have := hle q; omega))
  have hfv : ∀ i j, i < n → j < n → (frV M (elM (frX A B) i j) : Int) = ind (x.getD i 0 == y.getD j 0) * ((M / x.count (x.getD i 0) : Nat) : Int) := fun i j hi hj => by
    rw [hel i j hi hj]
    by_cases h : x.getD i 0 = y.getD j 0
    · rw [if_pos h, beq_iff_eq.2 h]
      simp [frV, ind]
    · rw [if_neg h, beq_false_of_ne h]
      simp [frV, ind]
  have hcy : ∀ q, ((x.count q : Nat) : Int) = sgm n fun k => ind (y.getD k 0 == q) := fun q => by
    rw [hperm.count_eq q]
    exact count_sgm y n hyl q
  have hcx : ∀ q, ((x.count q : Nat) : Int) = sgm n fun k => ind (x.getD k 0 == q) := fun q => count_sgm x n hxl q
  refine (Bool.and_eq_true _ _).mpr ⟨hv, (right_iff hA hB hl h0 hM fun i j hi hj => valid_ok hv hi hj).2 ⟨fun i hi => ?_, fun i hi => ?_, fun i j hi hj => ?_⟩⟩
  · rw [← hn] at hi ⊢
    rw [sgm_congr fun k hk => hfv i k hi hk, sgm_mulr]
    have e : sgm n (fun k => ind (x.getD i 0 == y.getD k 0)) = ((x.count (x.getD i 0) : Nat) : Int) := by
      rw [hcy]
      refine sgm_congr fun k _ => ?_
      rw [Bool.beq_comm]
    rw [e]
    exact_mod_cast hw _ (hpos i hi)
  · rw [← hn] at hi ⊢
    obtain ⟨k0, hk0, e0⟩ := hyx i hi
    have e : sgm n (fun k => (frV M (elM (frX A B) k i) : Int)) = sgm n (fun k => ind (x.getD k 0 == y.getD i 0) * ((M / x.count (y.getD i 0) : Nat) : Int)) := sgm_congr fun k hk => by
      rw [hfv k i hk hi]
      by_cases h : x.getD k 0 = y.getD i 0
      · rw [h]
      · rw [beq_false_of_ne h]; simp [ind]
    rw [e, sgm_mulr, ← hcx]
    exact_mod_cast hw _ (e0 ▸ hpos k0 hk0)
  · rw [← hn] at hi hj ⊢
    obtain ⟨k0, hk0, e0⟩ := hyx j hj
    -- numbers of neighbours of a colour
    have hst' : ∀ u v q, u < n → v < n → x.getD u 0 = y.getD v 0 → sgm n (fun k => ind (nbN A u k) * ind (x.getD k 0 == q)) = sgm n (fun k => ind (nbN B v k) * ind (y.getD k 0 == q)) := fun u v q hu hv' huv => by
      have h1 := nd_count hA hn.symm (fun k => x.getD k 0) q hu
      have h2 := nd_count hB hb (fun k => y.getD k 0) q hv'
      rw [← h1, ← h2, (hst u v (by omega) (by omega) huv).count_eq q]
    obtain ⟨E, hE⟩ : ∃ E : Nat → Nat → Int, E = fun u q => sgm n (fun k => ind (nbN A u k) * ind (x.getD k 0 == q)) := ⟨_, rfl⟩
    have hcl : ∀ u v q, u < n → v < n → x.getD u 0 = x.getD v 0 → E u q = E v q := fun u v q hu hv' huv => by
      obtain ⟨z, hz, ez⟩ := hxy v hv'
      rw [hE]
      show sgm n _ = sgm n _
      rw [hst' u z q hu hz (by rw [huv, ez]), hst' v z q hv' hz ez.symm]
    have hdc : ((x.count (x.getD i 0) : Nat) : Int) * E i (x.getD k0 0) = ((x.count (x.getD k0 0) : Nat) : Int) * E k0 (x.getD i 0) := by
      have a1 : ((x.count (x.getD i 0) : Nat) : Int) * E i (x.getD k0 0) = sgm n fun u => sgm n fun k => ind (x.getD u 0 == x.getD i 0) * (ind (nbN A u k) * ind (x.getD k 0 == x.getD k0 0)) := by
        rw [hcx, ← sgm_mulr]
        refine sgm_congr fun u hu => ?_
        rw [sgm_mul]
        by_cases h : x.getD u 0 = x.getD i 0
        · rw [← hcl u i _ hu hi h, hE]
        · rw [beq_false_of_ne h]; simp [ind]
      have a2 : ((x.count (x.getD k0 0) : Nat) : Int) * E k0 (x.getD i 0) = sgm n fun k => sgm n fun u => ind (x.getD k 0 == x.getD k0 0) * (ind (nbN A k u) * ind (x.getD u 0 == x.getD i 0)) := by
        rw [hcx, ← sgm_mulr]
        refine sgm_congr fun u hu => ?_
        rw [sgm_mul]
        by_cases h : x.getD u 0 = x.getD k0 0
        · rw [← hcl u k0 _ hu hk0 h, hE]
        · rw [beq_false_of_ne h]; simp [ind]
      rw [a1, a2, sgm_swap]
      refine sgm_congr fun k hk => sgm_congr fun u hu => ?_
      rw [nbN, nbN, hA.sym u k (by omega) (by omega), Int.mul_left_comm, Int.mul_comm (ind (x.getD u 0 == _)), Int.mul_left_comm]
    have hL : sgm n (fun k => ind (nbN A i k) * (frV M (elM (frX A B) k j) : Int)) = E i (x.getD k0 0) * ((M / x.count (x.getD k0 0) : Nat) : Int) := by
      rw [hE, ← sgm_mulr]
      refine sgm_congr fun k hk => ?_
      rw [hfv k j hk hj, ← e0, ← Int.mul_assoc]
      by_cases h : x.getD k 0 = x.getD k0 0
      · rw [h]
      · rw [beq_false_of_ne h]; simp [ind]
    have hR : sgm n (fun k => ind (nbN B j k) * (frV M (elM (frX A B) i k) : Int)) = E k0 (x.getD i 0) * ((M / x.count (x.getD i 0) : Nat) : Int) := by
      have : E k0 (x.getD i 0) = sgm n (fun k => ind (nbN B j k) * ind (y.getD k 0 == x.getD i 0)) := by
        rw [hE]
        exact hst' k0 j _ hk0 hj e0
      rw [this, ← sgm_mulr]
      refine sgm_congr fun k hk => ?_
      rw [hfv i k hi hk, ← Int.mul_assoc, Bool.beq_comm]
    rw [hL, hR]
    obtain ⟨m1, hm1⟩ : ∃ m, m = x.count (x.getD i 0) := ⟨_, rfl⟩
    obtain ⟨m2, hm2⟩ : ∃ m, m = x.count (x.getD k0 0) := ⟨_, rfl⟩
    have p1 : 1 ≤ m1 := hm1 ▸ hpos i hi
    have p2 : 1 ≤ m2 := hm2 ▸ hpos k0 hk0
    have w1 : ((m1 * (M / m1) : Nat) : Int) = M := by rw [hm1, hw _ (hpos i hi)]
    have w2 : ((m2 * (M / m2) : Nat) : Int) = M := by rw [hm2, hw _ (hpos k0 hk0)]
    rw [← hm1, ← hm2] at hdc ⊢
    rw [Int.natCast_mul] at w1 w2
    generalize E i (x.getD k0 0) = e1 at hdc ⊢
    generalize E k0 (x.getD i 0) = e2 at hdc ⊢
    generalize ((M / m1 : Nat) : Int) = f1 at w1 ⊢
    generalize ((M / m2 : Nat) : Int) = f2 at w2 ⊢
    have c1 : (m1 : Int) * m2 ≠ 0 := by
      intro hc
      rcases Int.mul_eq_zero.1 hc with h | h <;> omega
    apply Int.eq_of_mul_eq_mul_left c1
    have g1 : (m1 : Int) * m2 * (e1 * f2) = (m1 * e1) * (m2 * f2) := by
      rw [Int.mul_assoc, Int.mul_assoc, Int.mul_left_comm (m2 : Int)]
    have g2 : (m1 : Int) * m2 * (e2 * f1) = (m2 * e2) * (m1 * f1) := by
      rw [Int.mul_comm (m1 : Int), Int.mul_assoc, Int.mul_assoc, Int.mul_left_comm (m1 : Int)]
    rw [g1, g2, w1, w2, hdc]
end Go.Proofs.YtnikonhkbldnnaaGreatDoor
