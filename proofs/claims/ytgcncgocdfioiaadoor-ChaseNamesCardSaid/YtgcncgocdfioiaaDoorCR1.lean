import Derived.Test.YtgcncgocdfioiaaDoorCL3
/- CR1: the reference: valid graphs; places. -/
set_option linter.unusedVariables false
set_option linter.unusedSimpArgs false
set_option maxRecDepth 20000
namespace Go.Proofs.YtgcncgocdfioiaaDoor
open Go Go.PS
attribute [-simp] isKeyK List.map_take
def isgB (g : List Int) : Bool := decide (1 ≤ g.length ∧ g.length ≤ 8) && graphB g
theorem isg_spec (g : List Int) : PCall Tryd.prog 51 [eIs g, eI 8] (pB (isgB g)) [] := by
  refine pcall_sl 0 rfl call51 fun hlen => ?_
  simp only [List.length_map] at hlen
  refine pcall_wp _ Tryd.func51 rfl (by kernel_rfl) rfl ?_
  have hF : isgB g = (decide (1 ≤ g.length ∧ g.length ≤ 8) && graphB g) := rfl
  by_cases h0 : g.length = 0
  · have hF0 : isgB g = false := by rw [hF, decide_eq_false (by omega)]; rfl
    have e : g = [] := List.eq_nil_of_length_eq_zero h0
    subst e
    simp -dsimp
    refine wk_loop (fun i : Unit => ⟨[(10, pI 0), (9, pI 0), (8, .t .ro (eIs [])), (0, .t .ro (eIs [])), (1, .t .ro (eI 8))], []⟩)
      (fun _ => True) (fun _ => 0) () (le_of (by simp) (by simp)) trivial fun _ _ => ?_
    simp -dsimp
    refine retP_c ?_
    simp -dsimp [hF0]
  by_cases h8 : 8 < g.length
  · have hF0 : isgB g = false := by rw [hF, decide_eq_false (by omega)]; rfl
    have h8' : (8 : Int) < g.length := by omega
    have hx := at_ (l := g) (i := 0) (by omega)
    have hil : (0 : Int) < g.length := by omega
    generalize g.getD 0 0 = x at hx
    simp -dsimp
    refine wk_loop (fun i : Unit => ⟨[(10, pI 0), (9, pI g.length), (8, .t .ro (eIs g)), (0, .t .ro (eIs g)), (1, .t .ro (eI 8))], []⟩)
      (fun _ => True) (fun _ => 0) () (le_of (by simp) (by simp)) trivial fun _ _ => ?_
    have hpos : 0 < g.length := by omega
    simp -dsimp [hpos, hil, hx, h8']
    refine retP_c ?_
    simp -dsimp [hF0]
  have hbad : ∀ i, i < g.length → rowB g i = false → isgB g = false := fun i hi h => by
    rw [hF]
    have : graphB g = false := by
      rw [graphB, List.all_eq_false]
      exact ⟨i, List.mem_range.2 hi, by rw [h]; simp⟩
    rw [this, Bool.and_false]
  have hs := shl1 g.length (by omega)
  have hN : 2 ^ g.length ≤ 2 ^ 8 := Nat.pow_le_pow_right (by decide) (by omega)
  obtain ⟨N, hNe⟩ : ∃ N, N = 2 ^ g.length := ⟨_, rfl⟩
  rw [← hNe] at hs hN
  have h8' : ¬ (8 : Int) < g.length := by omega
  simp -dsimp
  refine wk_loop (fun i : Nat => ⟨[(10, pI i), (9, pI g.length), (8, .t .ro (eIs g)), (0, .t .ro (eIs g)), (1, .t .ro (eI 8))], []⟩)
    (fun i => i ≤ g.length ∧ ∀ k, k < i → rowB g k = true) (fun i => g.length - i) 0
    (le_of (by simp) (by simp)) ⟨by omega, fun k h => by omega⟩ fun i ⟨hi, hr⟩ => ?_
  simp -dsimp
  refine condX_dec (fun h => ?_) (fun h => ?_)
  · have hw := wr (n := (i : Int) + 1) (by omega) (by omega)
    have hx := at_ (l := g) (i := i) h
    have hA : rowA g i = !(decide (g.getD i 0 < 0) || (decide ((N : Int) ≤ g.getD i 0) || andI (shrI (g.getD i 0) i) 1 == 1)) := by rw [hNe]; rfl
    have hi0 : (0 : Int) ≤ i := by omega
    have hil : (i : Int) < g.length := by omega
    generalize hgx : g.getD i 0 = x at hx hA
    cases hb : rowA g i with
    | false =>
      have hF := hbad i h (by rw [rowB, hb]; rfl)
      rw [hb] at hA
      by_cases c1 : x < 0
      · simp -dsimp [hi0, hil, hx, c1, hs, h8']
        refine retP_c ?_
        simp -dsimp [hF]
      by_cases c2 : (N : Int) ≤ x
      · simp -dsimp [hi0, hil, hx, c1, c2, hs, h8']
        refine retP_c ?_
        simp -dsimp [hF]
      have c3 : (andI (shrI x i) 1 == 1) = true := by simpa [c1, c2] using hA
      simp -dsimp [hi0, hil, hx, c1, c2, c3, hs, h8']
      refine retP_c ?_
      simp -dsimp [hF]
    | true =>
      rw [hb] at hA
      have c1 : ¬ x < 0 := by
        intro e
        simp [e] at hA
      have c2 : ¬ (N : Int) ≤ x := by
        intro e
        simp [e] at hA
      have c3 : (andI (shrI x i) 1 == 1) = false := by simpa [c1, c2] using hA
      simp -dsimp [hi0, hil, hx, c1, c2, c3, hs, h8']
      refine wk_loop (fun j : Nat => ⟨[(39, pI j), (38, pI g.length), (5, pI i), (6, .t .ro (eI x)), (10, pI i), (9, pI g.length), (8, .t .ro (eIs g)), (0, .t .ro (eIs g)), (1, .t .ro (eI 8))], []⟩)
        (fun j => j ≤ g.length ∧ ∀ k, k < j → cellB g i k = true) (fun j => g.length - j) 0
        (le_of (by simp) (by simp)) ⟨by omega, fun k h => by omega⟩ fun j ⟨hj, hrj⟩ => ?_
      simp -dsimp
      refine condX_dec (fun h' => ?_) (fun h' => ?_)
      · have hw' := wr (n := (j : Int) + 1) (by omega) (by omega)
        have hy := at_ (l := g) (i := j) h'
        have hj0 : (0 : Int) ≤ j := by omega
        have hjl : (j : Int) < g.length := by omega
        have hC : cellB g i j = (andI (shrI x j) 1 == andI (shrI (g.getD j 0) i) 1) := by rw [cellB, hgx]
        generalize g.getD j 0 = y at hy hC
        simp -dsimp
        refine wk_draw 11 [] mixed (by kernel_rfl) ?_
        cases hc : cellB g i j with
        | false =>
          have hF := hbad i h (by
            rw [rowB, hb, Bool.true_and, Bool.eq_false_iff]
            intro e
            rw [List.all_eq_true.1 e j (List.mem_range.2 h')] at hc
            cases hc)
          have hne : (andI (shrI x j) 1 != andI (shrI y i) 1) = true := by rw [bne, ← hC, hc]; rfl
          simp -dsimp [hi0, hil, hj0, hjl, hy, hne]
          refine retP_c ?_
          simp -dsimp [hF]
        | true =>
          have hne : (andI (shrI x j) 1 != andI (shrI y i) 1) = false := by rw [bne, ← hC, hc]; rfl
          simp -dsimp [hi0, hil, hj0, hjl, hy, hne]
          refine LoopP_next (j + 1) (le_of (by simp [hw']) (by simp)) ⟨h', fun k hk => ?_⟩ (by omega)
          rcases Nat.lt_or_ge k j with h5 | h5
          · exact hrj k h5
          · rwa [show k = j by omega]
      · have hj' : j = g.length := by omega
        have hrow : rowB g i = true := by
          rw [rowB, hb, Bool.true_and, List.all_eq_true]
          intro k hk
          exact hrj k (by rw [hj']; exact List.mem_range.1 hk)
        simp -dsimp
        refine LoopP_next (i + 1) (le_of (by simp [hw]) (by simp)) ⟨h, fun k hk => ?_⟩ (by omega)
        rcases Nat.lt_or_ge k i with h5 | h5
        · exact hr k h5
        · rwa [show k = i by omega]
  · have hi' : i = g.length := by omega
    have hg : graphB g = true := List.all_eq_true.2 fun k hk => hr k (by rw [hi']; exact List.mem_range.1 hk)
    have hF1 : isgB g = true := by rw [hF, hg, decide_eq_true (by omega)]; rfl
    have h1 : (1 : Int) ≤ g.length := by omega
    have h8'' : (g.length : Int) ≤ 8 := by omega
    simp -dsimp [h1, h8'']
    refine retP_c ?_
    simp -dsimp [hF1]
/-- A step of the reference's way is a step of the program's. -/
theorem sw_ref {g : List Int} {s i : Nat} (hi : i < g.length) (hl : (g.getD i 0).toNat < 2 ^ g.length) : sw (townOf g) s i = if s.testBit i then s ||| ((g.getD i 0).toNat &&& (2 ^ g.length - 1)) else s := by
  unfold sw
  split
  · rename_i h
    rw [town_get g i hi]
    apply Nat.eq_of_testBit_eq
    intro x
    simp only [Nat.testBit_or, Nat.testBit_and, Nat.testBit_two_pow, Nat.testBit_two_pow_sub_one]
    by_cases e : i = x
    · subst e
      simp [h]
    · simp only [e, decide_false, Bool.or_false]
      rcases Nat.lt_or_ge x g.length with h6 | h6
      · simp [h6]
      · rw [Nat.testBit_lt_two_pow (x := (g.getD i 0).toNat) (Nat.lt_of_lt_of_le hl (Nat.pow_le_pow_right (by decide) h6))]
        simp
  · rfl
theorem reached_spec (g : List Int) (hg : isgB g = true) : PCall Tryd.prog 52 [eIs g, eI (2 ^ g.length - 1 : Nat), eI 0] (pI (seenF (townOf g) g.length : Nat)) [] := by
  refine pcall_wp _ Tryd.func52 rfl (by kernel_rfl) rfl ?_
  simp only [isgB, Bool.and_eq_true, decide_eq_true_eq] at hg
  obtain ⟨⟨g1, g8⟩, hg⟩ := hg
  have ht : Twn (townOf g) := town_ok g1 g8 hg
  have hl : (townOf g).length = g.length := town_len g
  have hrow : ∀ i, i < g.length → 0 ≤ g.getD i 0 ∧ g.getD i 0 < (2 ^ g.length : Nat) := fun i hi => by
    have := List.all_eq_true.1 hg i (List.mem_range.2 hi)
    simp only [rowB, Bool.and_eq_true] at this
    exact rowA_lt this.1
  have hN : 2 ^ g.length ≤ 2 ^ 8 := Nat.pow_le_pow_right (by decide) g8
  have hp : 0 < 2 ^ g.length := Nat.pow_pos (by decide)
  have hsw := fun s i hi => sw_ref (g := g) (s := s) (i := i) hi (by have := hrow i hi; omega)
  generalize townOf g = t at *
  have hS0 : seenF t 0 = 1 := rfl
  have h01 : shlI 1 0 = 1 := by decide
  have hw1 : IntKind.i64.wrap 1 = 1 := by decide
  obtain ⟨N, hNe⟩ : ∃ N, N = 2 ^ g.length := ⟨_, rfl⟩
  rw [← hNe] at hrow hN hp hsw ⊢
  simp -dsimp [h01]
  refine wk_loop (fun q : Nat => ⟨[(13, pI q), (12, pI g.length), (7, pI (seenF t q : Nat)), (0, .t .ro (eIs g)), (1, .t .ro (eI (N - 1 : Nat)))], []⟩)
    (fun q => q ≤ g.length) (fun q => g.length - q) 0
    (le_of (by simp [hS0, hw1]) (by simp)) (by simp) fun q hq => ?_
  simp -dsimp
  refine condX_dec (fun h => ?_) (fun h => ?_)
  · have hw := wr (n := (q : Int) + 1) (by omega) (by omega)
    have hsq := seenF_lt ht q
    have hsucc : seenF t (q + 1) = swF t (seenF t q) g.length := by rw [seenF, hl]
    simp -dsimp
    refine wk_loop (fun i : Nat => ⟨[(17, pI i), (16, pI g.length), (13, pI q), (12, pI g.length), (7, pI (swF t (seenF t q) i : Nat)), (0, .t .ro (eIs g)), (1, .t .ro (eI (N - 1 : Nat)))], []⟩)
      (fun i => i ≤ g.length) (fun i => g.length - i) 0
      (le_of (by simp [swF]) (by simp)) (by simp) fun i hi => ?_
    simp -dsimp
    refine condX_dec (fun h' => ?_) (fun h' => ?_)
    · have hw' := wr (n := (i : Int) + 1) (by omega) (by omega)
      have hl8 : (swF t (seenF t q) i) < 256 := sub_lt ht (swF_lt ht hsq i (by omega))
      have hb := and1 (swF t (seenF t q) i) (by omega) i (by omega)
      have hS := swF_succ t (seenF t q) i
      rw [hsw _ i h'] at hS
      have hi0 : (0 : Int) ≤ i := by omega
      have hil : (i : Int) < g.length := by omega
      have hx := at_ (l := g) h'
      have hr := hrow i h'
      generalize g.getD i 0 = x at *
      obtain ⟨m, rfl⟩ : ∃ m : Nat, x = m := ⟨x.toNat, by omega⟩
      rw [Int.toNat_natCast] at hS
      have ha := andI_nat m (N - 1) (by omega) (by omega)
      have ha8 : m &&& (N - 1) < 256 := Nat.lt_of_le_of_lt Nat.and_le_left (by omega)
      have ho := orI_nat (swF t (seenF t q) i) (m &&& (N - 1)) (by omega) (by omega)
      generalize m &&& (N - 1) = y at *
      generalize swF t (seenF t q) i = s at *
      cases hc : s.testBit i with
      | false =>
        simp only [hc, Bool.false_eq_true, if_false] at hb hS
        simp -dsimp [hi0, hb]
        refine LoopP_next (i + 1) (le_of (by simp [hw', hS]) (by simp)) h' (by omega)
      | true =>
        simp only [hc, if_true] at hb hS
        simp -dsimp [hi0, hil, hb, hx, ha, ho]
        refine LoopP_next (i + 1) (le_of (by simp [hw', hS]) (by simp)) h' (by omega)
    · have hi' : i = g.length := by omega
      subst hi'
      simp -dsimp
      refine LoopP_next (q + 1) (le_of (by simp [hw, hsucc]) (by simp)) h (by omega)
  · have hq' : q = g.length := by omega
    subst hq'
    simp -dsimp
    refine retP_c ?_
    simp -dsimp
theorem valid_spec (g : List Int) : PCall Tryd.prog 19 [eIs g] (pB (validG g)) [] := by
  refine pcall_sl 0 rfl call19 fun hlen => ?_
  simp only [List.length_map] at hlen
  refine pcall_wp _ Tryd.func19 rfl (by kernel_rfl) rfl ?_
  have h1 := isg_spec g
  have hF : validG g = (isgB g && connB (townOf g)) := by rw [validG, isgB, Bool.and_assoc]
  simp -dsimp
  refine wk_draw 13 [1, 10] mixed (by kernel_rfl) ?_
  cases hg : isgB g with
  | false =>
    rw [hg] at h1 hF
    simp -dsimp
    first
      | refine CallG.by (h1) ?_
      | refine CallGE.by (h1) ?_
      | refine CallGB.by (h1) ?_
    simp -dsimp
    refine retP_c ?_
    simp -dsimp [hF]
  | true =>
    have h2 := reached_spec g hg
    rw [hg] at h1 hF
    simp only [isgB, Bool.and_eq_true, decide_eq_true_eq] at hg
    obtain ⟨⟨g1, g8⟩, hg⟩ := hg
    have hN : 2 ^ g.length ≤ 2 ^ 8 := Nat.pow_le_pow_right (by decide) g8
    have hp : 0 < 2 ^ g.length := Nat.pow_pos (by decide)
    have hs := shl1 g.length (by omega)
    have hC : connB (townOf g) = (((seenF (townOf g) g.length : Nat) : Int) == ((2 ^ g.length - 1 : Nat) : Int)) := by
      rw [Bool.eq_iff_iff]
      simp only [connB, town_len, beq_iff_eq]
      omega
    generalize 2 ^ g.length = N at *
    have hw := wr (n := (N : Int) - 1) (by omega) (by omega)
    have he : (N : Int) - 1 = ((N - 1 : Nat) : Int) := by omega
    rw [he] at hw
    simp -dsimp
    first
      | refine CallG.by (h1) ?_
      | refine CallGE.by (h1) ?_
      | refine CallGB.by (h1) ?_
    simp -dsimp [hs, he, hw]
    first
      | refine CallG.by (h2) ?_
      | refine CallGE.by (h2) ?_
      | refine CallGB.by (h2) ?_
    simp -dsimp [hs, he, hw]
    refine retP_c ?_
    simp -dsimp [hF, hC]
theorem isPlace_spec (g : List Int) (k : Int) (a b c : Int) : PCall Tryd.prog 60 [eIs g, eI k, .agg [eI a, eI b, eI c]] (pB (okPl g.length k a b c)) [] := by
  refine pcall_wp _ Tryd.func60 rfl (by kernel_rfl) rfl ?_
  have hF : okPl g.length k a b c = (decide (0 ≤ a) && (decide (a ≤ b) && (decide (b < g.length) && (decide (0 ≤ c) && (decide (c < g.length) && ((k == 2) || (a == b))))))) := by
    rw [Bool.eq_iff_iff]
    simp only [okPl, Bool.and_eq_true, Bool.or_eq_true, decide_eq_true_eq, beq_iff_eq]
    constructor
    · rintro ⟨h1, h2, h3, h4, h5⟩
      exact ⟨by omega, by omega, by omega, by omega, by omega, h5⟩
    · rintro ⟨h1, h2, h3, h4, h5, h6⟩
      exact ⟨by omega, by omega, by omega, by omega, h6⟩
  by_cases c1 : 0 ≤ a
  rotate_left
  · rw [decide_eq_false c1] at hF
    simp -dsimp [c1]
    refine retP_c ?_
    simp -dsimp [hF]
  by_cases c2 : a ≤ b
  rotate_left
  · rw [decide_eq_false c2, Bool.false_and, Bool.and_false] at hF
    simp -dsimp [c1, c2]
    refine retP_c ?_
    simp -dsimp [hF]
  by_cases c3 : b < (g.length : Int)
  rotate_left
  · rw [decide_eq_false c3, Bool.false_and, Bool.and_false, Bool.and_false] at hF
    simp -dsimp [c1, c2, c3]
    refine retP_c ?_
    simp -dsimp [hF]
  by_cases c4 : 0 ≤ c
  rotate_left
  · rw [decide_eq_false c4, Bool.false_and, Bool.and_false, Bool.and_false, Bool.and_false] at hF
    simp -dsimp [c1, c2, c3, c4]
    refine retP_c ?_
    simp -dsimp [hF]
  by_cases c5 : c < (g.length : Int)
  rotate_left
  · rw [decide_eq_false c5, Bool.false_and, Bool.and_false, Bool.and_false, Bool.and_false, Bool.and_false] at hF
    simp -dsimp [c1, c2, c3, c4, c5]
    refine retP_c ?_
    simp -dsimp [hF]
  rw [decide_eq_true c1, decide_eq_true c2, decide_eq_true c3, decide_eq_true c4, decide_eq_true c5] at hF
  simp only [Bool.true_and] at hF
  cases c6 : (k == 2)
  · rw [c6] at hF
    simp -dsimp [c1, c2, c3, c4, c5, c6]
    refine retP_c ?_
    simp -dsimp [hF]
  · rw [c6] at hF
    simp -dsimp [c1, c2, c3, c4, c5, c6]
    refine retP_c ?_
    simp -dsimp [hF]
theorem rcaught_spec (p : P3) : PCall Tryd.prog 61 [.agg (cP3 p)] (pB (decide (p.2.2 = p.1 ∨ p.2.2 = p.2.1))) [] := by
  obtain ⟨a, b, c⟩ := p
  refine pcall_wp _ Tryd.func61 rfl (by kernel_rfl) rfl ?_
  by_cases c1 : c = a
  · have h1 : (c == a) = true := by simpa using c1
    simp -dsimp [h1]
    refine retP_c ?_
    simp -dsimp [c1]
  · have h1 : (c == a) = false := by simpa using c1
    simp -dsimp [h1]
    refine retP_c ?_
    simp -dsimp [c1]
    rw [Bool.eq_iff_iff]
    simp
end Go.Proofs.YtgcncgocdfioiaaDoor
