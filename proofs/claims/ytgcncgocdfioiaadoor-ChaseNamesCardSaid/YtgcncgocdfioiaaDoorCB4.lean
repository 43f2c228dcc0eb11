import Derived.Test.YtgcncgocdfioiaaDoorCB3
/- CB4: reading a graph. -/
set_option linter.unusedVariables false
set_option linter.unusedSimpArgs false
set_option maxRecDepth 20000
namespace Go.Proofs.YtgcncgocdfioiaaDoor
open Go Go.PS
theorem at_ {l : List Int} {i : Nat} (h : i < l.length) : l[i]? = some (l.getD i 0) := by simp [List.getD_eq_getElem?_getD, h]
/-- A row's own bounds. -/
def rowA (g : List Int) (i : Nat) : Bool := !(decide (g.getD i 0 < 0) || (decide (((2 ^ g.length : Nat) : Int) ≤ g.getD i 0) || andI (shrI (g.getD i 0) i) 1 == 1))
def cellB (g : List Int) (i j : Nat) : Bool := andI (shrI (g.getD i 0) j) 1 == andI (shrI (g.getD j 0) i) 1
def rowB (g : List Int) (i : Nat) : Bool := rowA g i && (List.range g.length).all (cellB g i)
def graphB (g : List Int) : Bool := (List.range g.length).all (rowB g)
/-- The town of a graph. -/
def townF (g : List Int) (k : Nat) : List Nat := (List.range k).map fun i => (g.getD i 0).toNat ||| 2 ^ i
def townOf (g : List Int) : List Nat := townF g g.length
theorem townF_succ (g : List Int) (k : Nat) : townF g (k + 1) = townF g k ++ [(g.getD k 0).toNat ||| 2 ^ k] := by simp [townF, List.range_succ]
theorem townF_len (g : List Int) (k : Nat) : (townF g k).length = k := by simp [townF]
/-- Where a way leads, node by node. -/
def sw (t : List Nat) (s i : Nat) : Nat := if s.testBit i then s ||| t.getD i 0 else s
def swF (t : List Nat) (s k : Nat) : Nat := (List.range k).foldl (sw t) s
def seenF (t : List Nat) : Nat → Nat
  | 0 => 1
  | k + 1 => swF t (seenF t k) t.length
theorem swF_succ (t : List Nat) (s k : Nat) : swF t s (k + 1) = sw t (swF t s k) k := by simp [swF, List.range_succ, List.foldl_append]
def connB (t : List Nat) : Bool := seenF t t.length == 2 ^ t.length - 1
def readF (g : List Int) : TL := if 1 ≤ g.length ∧ g.length ≤ 8 ∧ graphB g = true then .tup [eNs (townOf g), eB (connB (townOf g))] else .tup [.v (.slice none 0 0), eB false]
theorem or_lt {n a b : Nat} (ha : a < 2 ^ n) (hb : b < 2 ^ n) : a ||| b < 2 ^ n := Nat.or_lt_two_pow ha hb
theorem rowA_lt {g : List Int} {i : Nat} (h : rowA g i = true) : 0 ≤ g.getD i 0 ∧ g.getD i 0 < (2 ^ g.length : Nat) := by
  simp only [rowA, Bool.not_eq_true', Bool.or_eq_false_iff, decide_eq_false_iff_not] at h
  omega
theorem townF_lt {g : List Int} (k : Nat) (hk : k ≤ g.length) (h : ∀ i, i < k → rowB g i = true) : ∀ x ∈ townF g k, x < 2 ^ g.length := by
  intro x hx
  obtain ⟨i, hi, rfl⟩ := List.mem_map.1 hx
  rw [List.mem_range] at hi
  have h1 := h i hi
  simp only [rowB, Bool.and_eq_true] at h1
  have h2 := rowA_lt h1.1
  have h3 : (g.getD i 0).toNat < 2 ^ g.length := by omega
  exact or_lt h3 (Nat.pow_lt_pow_right (by decide) (by omega))
theorem town_ok {g : List Int} (h1 : 1 ≤ g.length) (h8 : g.length ≤ 8) (h : graphB g = true) : Twn (townOf g) := by
  refine ⟨by simpa [townOf, townF] using h1, by simpa [townOf, townF] using h8, ?_⟩
  have := townF_lt g.length (Nat.le_refl _) (fun i hi => List.all_eq_true.1 h i (List.mem_range.2 hi))
  simpa [townOf, townF] using this
theorem orI_nat (a b : Nat) (ha : a < 9223372036854775808) (hb : b < 9223372036854775808) : orI (a : Int) (b : Int) = ((a ||| b : Nat) : Int) := by
  have hx : a ||| b < 2 ^ 63 := Nat.or_lt_two_pow (by omega) (by omega)
  have h1 : (BitVec.ofInt 64 (a : Int)).toNat = a := by
    rw [BitVec.ofInt_natCast, BitVec.toNat_ofNat]; exact Nat.mod_eq_of_lt (by omega)
  have h2 : (BitVec.ofInt 64 (b : Int)).toNat = b := by
    rw [BitVec.ofInt_natCast, BitVec.toNat_ofNat]; exact Nat.mod_eq_of_lt (by omega)
  show IntKind.i64.wrap ((BitVec.ofInt 64 (a : Int) ||| BitVec.ofInt 64 (b : Int)).toNat : Int) = _
  rw [BitVec.toNat_or, h1, h2, IntKind.wrap_i64]
  omega
theorem sw_lt {t : List Nat} (ht : Twn t) {s : Nat} (hs : s < 2 ^ t.length) {i : Nat} (hi : i < t.length) : sw t s i < 2 ^ t.length := by
  unfold sw
  split
  · exact or_lt hs (ht.2.2 _ (getD_mem hi))
  · exact hs
theorem swF_lt {t : List Nat} (ht : Twn t) {s : Nat} (hs : s < 2 ^ t.length) : ∀ k, k ≤ t.length → swF t s k < 2 ^ t.length
  | 0, _ => hs
  | k + 1, h => by
    rw [swF_succ]
    exact sw_lt ht (swF_lt ht hs k (by omega)) (by omega)
theorem seenF_lt {t : List Nat} (ht : Twn t) : ∀ k, seenF t k < 2 ^ t.length
  | 0 => by
    have := ht.1
    show 1 < 2 ^ t.length
    exact Nat.one_lt_two_pow (by omega)
  | k + 1 => swF_lt ht (seenF_lt ht k) _ (Nat.le_refl _)
theorem read_spec (g : List Int) : PCall Tryd.prog 54 [eIs g] (.t .fz (readF g)) [] := by
  refine pcall_wp _ Tryd.func54 rfl (by kernel_rfl) rfl ?_
  by_cases h1 : (g.length : Int) < 1
  · have hF : readF g = .tup [.v (.slice none 0 0), eB false] := by rw [readF, if_neg (by omega)]
    simp -dsimp [h1]
    refine retP_c ?_
    simp -dsimp [hF]
  by_cases h8 : 8 < (g.length : Int)
  · have hF : readF g = .tup [.v (.slice none 0 0), eB false] := by rw [readF, if_neg (by omega)]
    simp -dsimp [h1, h8]
    refine retP_c ?_
    simp -dsimp [hF]
  have hbad : ∀ i, i < g.length → rowB g i = false → readF g = .tup [.v (.slice none 0 0), eB false] := fun i hi h => by
    rw [readF, if_neg]
    rintro ⟨_, _, h2⟩
    rw [List.all_eq_true.1 h2 i (List.mem_range.2 hi)] at h
    cases h
  have hs := shl1 g.length (by omega)
  have hN : 2 ^ g.length ≤ 2 ^ 8 := Nat.pow_le_pow_right (by decide) (by omega)
  obtain ⟨N, hNe⟩ : ∃ N, N = 2 ^ g.length := ⟨_, rfl⟩
  rw [← hNe] at hs hN
  simp -dsimp [h1, h8]
  refine lg_adoptT 5 5 3 1 (by simp; rfl) (by simp) ?_
  refine wk_loop (fun i : Nat => ⟨[(21, pI i), (20, pI g.length), (19, .t .ro (eIs g)), (4, pI g.length), (5, .osl 5), (0, .t .ro (eIs g))], [(5, .row 3 1 .fz ((iL (townF g i)).map cI))]⟩)
    (fun i => i ≤ g.length ∧ ∀ k, k < i → rowB g k = true) (fun i => g.length - i) 0
    (le_of (by simp) (by simp [townF])) ⟨by omega, fun k h => by omega⟩ fun i ⟨hi, hr⟩ => ?_
  simp -dsimp
  refine condX_dec (fun h => ?_) (fun h => ?_)
  · have hw := wr (n := (i : Int) + 1) (by omega) (by omega)
    have hx := at_ (l := g) (i := i) h
    have hA : rowA g i = !(decide (g.getD i 0 < 0) || (decide ((N : Int) ≤ g.getD i 0) || andI (shrI (g.getD i 0) i) 1 == 1)) := by rw [hNe]; rfl
    have hi0 : (0 : Int) ≤ i := by omega
    have hil : (i : Int) < g.length := by omega
    generalize hgx : g.getD i 0 = x at hx hA
    cases hb : rowA g i with
    | false =>
      have hF := hbad i h (by rw [rowB, hb]; rfl)
      rw [hb] at hA
      by_cases c1 : x < 0
      · simp -dsimp [hi0, hil, hx, c1, hs]
        refine retP_c ?_
        simp -dsimp [hF]
      by_cases c2 : (N : Int) ≤ x
      · simp -dsimp [hi0, hil, hx, c1, c2, hs]
        refine retP_c ?_
        simp -dsimp [hF]
      have c3 : (andI (shrI x i) 1 == 1) = true := by simpa [c1, c2] using hA
      simp -dsimp [hi0, hil, hx, c1, c2, c3, hs]
      refine retP_c ?_
      simp -dsimp [hF]
    | true =>
      rw [hb] at hA
      have c1 : ¬ x < 0 := by
        intro e
        simp [e] at hA
      have c2 : ¬ (N : Int) ≤ x := by
        intro e
        simp [e] at hA
      have c3 : (andI (shrI x i) 1 == 1) = false := by simpa [c1, c2] using hA
      simp -dsimp [hi0, hil, hx, c1, c2, c3, hs]
      refine wk_loop (fun j : Nat => ⟨[(42, pI j), (41, pI g.length), (6, pI i), (7, .t .ro (eI x)), (21, pI i), (20, pI g.length), (19, .t .ro (eIs g)), (4, pI g.length), (5, .osl 5), (0, .t .ro (eIs g))], [(5, .row 3 1 .fz ((iL (townF g i)).map cI))]⟩)
        (fun j => j ≤ g.length ∧ ∀ k, k < j → cellB g i k = true) (fun j => g.length - j) 0
        (le_of (by simp) (by simp)) ⟨by omega, fun k h => by omega⟩ fun j ⟨hj, hrj⟩ => ?_
      simp -dsimp
      refine condX_dec (fun h' => ?_) (fun h' => ?_)
      · have hw' := wr (n := (j : Int) + 1) (by omega) (by omega)
        have hy := at_ (l := g) (i := j) h'
        have hj0 : (0 : Int) ≤ j := by omega
        have hjl : (j : Int) < g.length := by omega
        have hC : cellB g i j = (andI (shrI x j) 1 == andI (shrI (g.getD j 0) i) 1) := by rw [cellB, hgx]
        generalize g.getD j 0 = y at hy hC
        simp -dsimp
        refine wk_draw 11 [] mixed (by kernel_rfl) ?_
        cases hc : cellB g i j with
        | false =>
          have hF := hbad i h (by
            rw [rowB, hb, Bool.true_and, Bool.eq_false_iff]
            intro e
            rw [List.all_eq_true.1 e j (List.mem_range.2 h')] at hc
            cases hc)
          have hne : (andI (shrI x j) 1 != andI (shrI y i) 1) = true := by rw [bne, ← hC, hc]; rfl
          simp -dsimp [hi0, hil, hj0, hjl, hy, hne]
          refine retP_c ?_
          simp -dsimp [hF]
        | true =>
          have hne : (andI (shrI x j) 1 != andI (shrI y i) 1) = false := by rw [bne, ← hC, hc]; rfl
          simp -dsimp [hi0, hil, hj0, hjl, hy, hne]
          refine LoopP_next (j + 1) (le_of (by simp [hw']) (by simp)) ⟨h', fun k hk => ?_⟩ (by omega)
          rcases Nat.lt_or_ge k j with h5 | h5
          · exact hrj k h5
          · rwa [show k = j by omega]
      · have hj' : j = g.length := by omega
        have hrow : rowB g i = true := by
          rw [rowB, hb, Bool.true_and, List.all_eq_true]
          intro k hk
          exact hrj k (by rw [hj']; exact List.mem_range.1 hk)
        have hs2 := shl1 i (by omega)
        have hp : 2 ^ i < 2 ^ 8 := Nat.pow_lt_pow_right (by decide) (by omega)
        obtain ⟨m, hm⟩ : ∃ m : Nat, x = m := ⟨x.toNat, by omega⟩
        subst hm
        have ho := orI_nat m (2 ^ i) (by omega) (by omega)
        have hT : townF g (i + 1) = townF g i ++ [m ||| 2 ^ i] := by rw [townF_succ, hgx]; simp
        have hb2 : (i + 1) * 8 ≤ 140737488355328 := by omega
        generalize 2 ^ i = b at *
        simp -dsimp [hi0, hs2, ho, hb2, townF_len]
        refine LoopP_next (i + 1) (le_of (by simp [hw]) (by simp [hT])) ⟨h, fun k hk => ?_⟩ (by omega)
        rcases Nat.lt_or_ge k i with h5 | h5
        · exact hr k h5
        · rwa [show k = i by omega]
  · have hi' : i = g.length := by omega
    subst hi'
    have hg : graphB g = true := List.all_eq_true.2 fun k hk => hr k (List.mem_range.1 hk)
    have hF : readF g = .tup [eNs (townOf g), eB (connB (townOf g))] := by rw [readF, if_pos ⟨by omega, by omega, hg⟩]
    have ht : Twn (townOf g) := town_ok (by omega) (by omega) hg
    have hl : (townOf g).length = g.length := townF_len g g.length
    have e0 : townF g g.length = townOf g := rfl
    rw [e0]
    generalize townOf g = t at *
    simp -dsimp
    refine wk_loop (fun q : Nat => ⟨[(67, pI q), (66, pI g.length), (9, pI (seenF t q : Nat)), (4, pI g.length), (5, .osl 5)], [(5, .row 3 1 .fz ((iL t).map cI))]⟩)
      (fun q => q ≤ g.length) (fun q => g.length - q) 0
      (le_of (by simp [seenF]) (by simp)) (by simp) fun q hq => ?_
    simp -dsimp
    refine condX_dec (fun h => ?_) (fun h => ?_)
    · have hw := wr (n := (q : Int) + 1) (by omega) (by omega)
      have hsq := seenF_lt ht q
      simp -dsimp
      refine wk_loop (fun i : Nat => ⟨[(70, pI i), (69, pI g.length), (67, pI q), (66, pI g.length), (9, pI (swF t (seenF t q) i : Nat)), (4, pI g.length), (5, .osl 5)], [(5, .row 3 1 .fz ((iL t).map cI))]⟩)
        (fun i => i ≤ g.length) (fun i => g.length - i) 0
        (le_of (by simp [swF]) (by simp)) (by simp) fun i hi => ?_
      simp -dsimp
      refine condX_dec (fun h' => ?_) (fun h' => ?_)
      · have hw' := wr (n := (i : Int) + 1) (by omega) (by omega)
        have hl8 : (swF t (seenF t q) i) < 256 := sub_lt ht (swF_lt ht hsq i (by omega))
        have hb := and1 (swF t (seenF t q) i) (by omega) i (by omega)
        have hS := swF_succ t (seenF t q) i
        rw [sw] at hS
        have hi0 : (0 : Int) ≤ i := by omega
        have hil : (i : Int) < t.length := by omega
        have hx := iL_at (l := t) (i := i) (by omega)
        have hx8 := ht.lt _ (getD_mem (l := t) (i := i) (by omega))
        have ho := orI_nat (swF t (seenF t q) i) (t.getD i 0) (by omega) (by omega)
        generalize t.getD i 0 = x at *
        generalize swF t (seenF t q) i = s at *
        cases hc : s.testBit i with
        | false =>
          simp only [hc, Bool.false_eq_true, if_false] at hb hS
          simp -dsimp [hi0, hb]
          refine LoopP_next (i + 1) (le_of (by simp [hw', hS]) (by simp)) h' (by omega)
        | true =>
          simp only [hc, if_true] at hb hS
          have hin : i < t.length := by omega
          simp -dsimp [hi0, hil, hb, hx, ho]
          simp -dsimp [hin, ho]
          refine LoopP_next (i + 1) (le_of (by simp [hw', hS]) (by simp)) h' (by omega)
      · have hi' : i = g.length := by omega
        subst hi'
        simp -dsimp
        refine LoopP_next (q + 1) (le_of (by simp [hw, seenF, hl]) (by simp)) h (by omega)
    · have hq' : q = g.length := by omega
      subst hq'
      simp -dsimp
      first
        | refine CallG.by (all_spec t ht) ?_
        | refine CallGE.by (all_spec t ht) ?_
        | refine CallGB.by (all_spec t ht) ?_
      have hb : ((seenF t g.length : Int) == ((2 ^ t.length - 1 : Nat) : Int)) = connB t := by
        rw [Bool.eq_iff_iff]
        simp only [connB, hl, beq_iff_eq]
        omega
      simp -dsimp [hb]
      refine retP_c ?_
      simp -dsimp [hF]
end Go.Proofs.YtgcncgocdfioiaaDoor
