import Derived.Test.YtnikonhkbldnnaaDoorLA1
import Derived.Test.YtnikonhkbldnnaaDoorLWA
import Derived.Test.YtnikonhkbldnnaaDoorPSD
import Derived.Test.YtnikonhkbldnnaaDoorPSE
/- LB1: bits of sets; nodes. -/
set_option linter.unusedVariables false
set_option linter.unusedSimpArgs false
set_option maxRecDepth 20000
namespace Go.Proofs.YtnikonhkbldnnaaDoor
open Go Go.PS
attribute [simp] eIs cI getD_map glT
theorem wr {n : Int} (h0 : -9223372036854775808 ≤ n) (h1 : n ≤ 9223372036854775807) : IntKind.i64.wrap n = n := wrap_id h0 h1
/-- A list of natural numbers as integers. -/
def iL (l : List Nat) : List Int := l.map fun (x : Nat) => (x : Int)
@[simp] theorem iL_nil : iL [] = [] := rfl
@[simp] theorem iL_cons (x : Nat) (l : List Nat) : iL (x :: l) = (x : Int) :: iL l := rfl
@[simp] theorem iL_append (a b : List Nat) : iL (a ++ b) = iL a ++ iL b := by simp [iL]
@[simp] theorem iL_length (l : List Nat) : (iL l).length = l.length := by simp [iL]
theorem iL_get (l : List Nat) (i : Nat) (h : i < l.length) : (iL l)[i]'(by simpa using h) = (l[i] : Int) := by simp [iL]
theorem iL_at {l : List Nat} {i : Nat} (h : i < l.length) : (iL l)[i]? = some ((l.getD i 0 : Nat) : Int) := by simp [iL, List.getD_eq_getElem?_getD, h]
theorem getD_mem {l : List Nat} {i : Nat} (h : i < l.length) : l.getD i 0 ∈ l := by
  simp [List.getD_eq_getElem?_getD, h]
@[simp] def eNs (l : List Nat) : TL := eIs (iL l)
def tz (s : Nat) : Nat := (ndN s).headD 64
def anU (a b : Int) : Int := bits .and .u64 a b
def ngU (a : Int) : Int := IntKind.u64.wrap (-a)
def mlU (a : Int) : Int := IntKind.u64.wrap (a * 285870213051353865)
def shU (a : Int) : Int := a.fdiv (2 ^ min 58 IntKind.u64.bits)
def tzI (n : Int) : Int := shU (mlU (anU n (ngU n)))
def tzR (i : Nat) (x : Nat) : Bool := match deBN[i]? with
  | some y => y == x
  | none => false
theorem tz_all1 : (List.range 4096).all (fun x => x == 0 || ndN x == tz x :: ndN (x &&& (x - 1))) = true := by kernel_rfl
theorem tz_all2 : (List.range 4096).all (fun x => x == 0 || (x &&& (x - 1)).blt x) = true := by kernel_rfl
theorem tz_all3 : (List.range 4096).all (fun x => x == 0 || (tzI x == (tzI x).toNat)) = true := by kernel_rfl
theorem tz_all4 : (List.range 4096).all (fun x => x == 0 || tzR (tzI x).toNat (tz x)) = true := by kernel_rfl
theorem tz_gen (f : Nat → Int) (h3 : (List.range 4096).all (fun x => x == 0 || (f x == (f x).toNat)) = true) (h4 : (List.range 4096).all (fun x => x == 0 || tzR (f x).toNat (tz x)) = true) {x : Nat} (h0 : 0 < x) (h : x < 4096) :
    ∃ i : Nat, f x = i ∧ deBN[i]? = some (tz x) := by
  have h3 := List.all_eq_true.1 h3 x (List.mem_range.2 h)
  have h4 := List.all_eq_true.1 h4 x (List.mem_range.2 h)
  have h0' : (x == 0) = false := by simp; omega
  simp only [h0', Bool.false_or, beq_iff_eq] at h3 h4
  refine ⟨(f x).toNat, h3, ?_⟩
  unfold tzR at h4
  split at h4
  · rename_i y hy
    rw [hy]
    simp at h4
    rw [h4]
  · cases h4
theorem tz_idx {x : Nat} (h0 : 0 < x) (h : x < 4096) : ∃ i : Nat, tzI x = i ∧ deBN[i]? = some (tz x) := tz_gen (fun x => tzI x) tz_all3 tz_all4 h0 h
theorem tz_get {x : Nat} (h0 : 0 < x) (h : x < 4096) : (x &&& (x - 1)) < x ∧ ndN x = tz x :: ndN (x &&& (x - 1)) := by
  have h1 := List.all_eq_true.1 tz_all1 x (List.mem_range.2 h)
  have h2 := List.all_eq_true.1 tz_all2 x (List.mem_range.2 h)
  have h0' : (x == 0) = false := by simp; omega
  simp only [h0', Bool.false_or, beq_iff_eq] at h1 h2
  simp [Nat.blt] at h2
  exact ⟨by omega, h1⟩
theorem bits_mem {s i : Nat} (h : s < 4096) : i ∈ ndN s ↔ s.testBit i = true := by
  simp only [ndN, List.mem_filter, List.mem_range]
  refine ⟨fun h => h.2, fun h2 => ⟨?_, h2⟩⟩
  rcases Nat.lt_or_ge i 12 with h3 | h3
  · exact h3
  · rw [Nat.testBit_lt_two_pow (Nat.lt_of_lt_of_le h (Nat.pow_le_pow_right (n := 2) (i := 12) (by decide) h3))] at h2
    cases h2
theorem bits_lt {s i : Nat} (h : i ∈ ndN s) : i < 12 := by
  simp only [ndN, List.mem_filter, List.mem_range] at h
  exact h.1
theorem bits_len (s : Nat) : (ndN s).length ≤ 12 := Nat.le_trans (List.length_filter_le _ _) (by simp)
theorem deB_get (i : Nat) (x : Nat) (h : deBN[i]? = some x) : (deB.map TL.v)[i]? = some (.v (.int .u8 x)) := by
  simp [deB, h]
@[simp] theorem ev_deB (s : StL) : ev s (.global 1) = .t .ro (.rp (deB.map .v) 0) := rfl
theorem deB_lt (i : Nat) (x : Nat) (h : deBN[i]? = some x) : i < 64 := (List.getElem?_eq_some_iff.1 h).1
theorem tz64_spec (x : Nat) (h0 : 0 < x) (h : x < 4096) : PCall Tryd.prog 99 [.v (.int .u64 x)] (pI (tz x)) [] := by
  obtain ⟨i, hi, hd⟩ := tz_idx h0 h
  obtain ⟨an, han⟩ : ∃ f : Int → Int → Int, ∀ a b, bits .and .u64 a b = f a b := ⟨_, fun _ _ => rfl⟩
  obtain ⟨ng, hng⟩ : ∃ f : Int → Int, ∀ a, IntKind.u64.wrap (-a) = f a := ⟨_, fun _ => rfl⟩
  obtain ⟨lit, hlit⟩ : ∃ l : Int, l = 285870213051353865 := ⟨_, rfl⟩
  obtain ⟨ml, hml⟩ : ∃ f : Int → Int, ∀ a, IntKind.u64.wrap (a * lit) = f a := ⟨_, fun _ => rfl⟩
  obtain ⟨sh, hsh⟩ : ∃ f : Int → Int, ∀ a, a.fdiv (2 ^ min 58 IntKind.u64.bits) = f a := ⟨_, fun _ => rfl⟩
  have hi2 : sh (ml (an x (ng x))) = i := by rw [← hi, ← hng, ← han, ← hml, ← hsh, hlit]; rfl
  have h1 : ((x : Int) == 0) = false := by simp; omega
  have hl := deB_lt i _ hd
  have hl2 : (i : Int) < 64 := by omega
  have hb : tz x ≤ 64 := by
    unfold tz
    cases hh : ndN x with
    | nil => simp
    | cons y l =>
      have := bits_lt (s := x) (i := y) (by rw [hh]; simp)
      simp
      omega
  have hw := wr (n := (tz x : Int)) (by omega) (by omega)
  refine pcall_wp _ Tryd.func99 rfl (by kernel_rfl) rfl ?_
  rw [← hlit]
  clear hlit
  simp -dsimp [h1, han, hng, hml, hsh, hi2, deB_get i _ hd, hl2, -List.getElem?_map, -List.map_map]
  refine retP_c ?_
  simp -dsimp [hw]
theorem tz_spec (x : Nat) (h0 : 0 < x) (h : x < 4096) : PCall Tryd.prog 90 [.v (.int .u64 x)] (pI (tz x)) [] := by
  refine pcall_wp _ Tryd.func90 rfl (by kernel_rfl) rfl ?_
  simp -dsimp
  first
    | refine CallG.by (tz64_spec x h0 h) ?_
    | refine CallGE.by (tz64_spec x h0 h) ?_
    | refine CallGB.by (tz64_spec x h0 h) ?_
  simp -dsimp
  refine retP_c ?_
  simp -dsimp
theorem pop1 (x : Nat) (h : x < 4096) (h0 : 0 < x) : andI (x : Int) (IntKind.i64.wrap ((x : Int) - 1)) = ((x &&& (x - 1) : Nat) : Int) := by
  rw [wr (by omega) (by omega), show (x : Int) - 1 = ((x - 1 : Nat) : Int) by omega]
  exact andI_nat x (x - 1) (by omega) (by omega)
theorem nodes_spec (x : Nat) (h : x < 4096) : PCall Tryd.prog 80 [eI x] (.t .fz (eNs (ndN x))) [] := by
  refine pcall_wp _ Tryd.func80 rfl (by kernel_rfl) rfl ?_
  simp -dsimp
  refine lg_adoptT 3 3 3 1 (by simp; rfl) (by simp) ?_
  refine wk_loop (fun p : Kind × Nat × List Nat => ⟨[(0, .t p.1 (eI p.2.1)), (3, .osl 3)], [(3, .row 3 1 .fz ((iL p.2.2).map cI))]⟩) (fun p => p.2.1 ≤ x ∧ p.2.2 ++ ndN p.2.1 = ndN x) (fun p => p.2.1) (.ro, x, [])
    (le_of (by simp) (by simp)) ⟨Nat.le_refl _, rfl⟩ fun ⟨k, s, l⟩ ⟨hs, hl⟩ => ?_
  dsimp only at hs hl
  simp -dsimp
  refine condX_of (fun hc => ?_) (fun hc => ?_)
  · simp at hc
    obtain ⟨h1, h2⟩ := tz_get (x := s) (by omega) (by omega)
    have hb : (l.length + 1) * 8 ≤ 140737488355328 := by
      have := congrArg List.length hl
      have h3 := bits_len x
      rw [List.length_append, h2, List.length_cons] at this
      omega
    have hp := pop1 s (by omega) (by omega)
    have hu : IntKind.u64.wrap (s : Int) = s := by
      rw [IntKind.wrap_u64]
      omega
    simp -dsimp [hu]
    first
      | refine CallG.by (tz_spec s (by omega) (by omega)) ?_
      | refine CallGE.by (tz_spec s (by omega) (by omega)) ?_
      | refine CallGB.by (tz_spec s (by omega) (by omega)) ?_
    simp -dsimp [hb, hp]
    refine LoopP_next (.fz, s &&& (s - 1), l ++ [tz s]) (le_of (by simp) (by simp)) ⟨by simp only; omega, ?_⟩ (by simp only; omega)
    rw [← hl, h2]
    simp
  · simp at hc
    subst hc
    have : ndN 0 = [] := by kernel_rfl
    rw [this, List.append_nil] at hl
    subst hl
    simp -dsimp
    refine retP_c ?_
    simp -dsimp
end Go.Proofs.YtnikonhkbldnnaaDoor
/- LB2: reading a graph, both, rounds, near; copies; a choice more. -/
set_option linter.unusedVariables false
set_option linter.unusedSimpArgs false
set_option maxRecDepth 20000
namespace Go.Proofs.YtnikonhkbldnnaaDoor
open Go Go.PS
theorem at_ {l : List Int} {i : Nat} (h : i < l.length) : l[i]? = some (l.getD i 0) := by simp [List.getD_eq_getElem?_getD, h]
/-- A row's own bounds. -/
def rowA (g : List Int) (i : Nat) : Bool := !(decide (g.getD i 0 < 0) || (decide (((2 ^ g.length : Nat) : Int) ≤ g.getD i 0) || andI (shrI (g.getD i 0) i) 1 == 1))
def cellB (g : List Int) (i j : Nat) : Bool := andI (shrI (g.getD i 0) j) 1 == andI (shrI (g.getD j 0) i) 1
def rowB (g : List Int) (i : Nat) : Bool := rowA g i && (List.range g.length).all (cellB g i)
def graphB (g : List Int) : Bool := (List.range g.length).all (rowB g)
def isgB (g : List Int) : Bool := decide (1 ≤ g.length ∧ g.length ≤ 6) && graphB g
/-- The town of a graph. -/
def townOf (g : List Int) : List Nat := g.map Int.toNat
def readF (g : List Int) : TL := if isgB g = true then .tup [eIs g, eB true] else .tup [.v (.slice none 0 0), eB false]
theorem rowA_lt {g : List Int} {i : Nat} (h : rowA g i = true) : 0 ≤ g.getD i 0 ∧ g.getD i 0 < (2 ^ g.length : Nat) := by
  simp only [rowA, Bool.not_eq_true', Bool.or_eq_false_iff, decide_eq_false_iff_not] at h
  omega
theorem isg_parts {g : List Int} (h : isgB g = true) : 1 ≤ g.length ∧ g.length ≤ 6 ∧ ∀ i, i < g.length → rowA g i = true ∧ ∀ j, j < g.length → cellB g i j = true := by
  simp only [isgB, graphB, rowB, Bool.and_eq_true, decide_eq_true_eq, List.all_eq_true, List.mem_range] at h
  exact ⟨h.1.1, h.1.2, fun i hi => h.2 i hi⟩
theorem town_len (g : List Int) : (townOf g).length = g.length := by simp [townOf]
theorem town_get (g : List Int) (i : Nat) : (townOf g).getD i 0 = (g.getD i 0).toNat := by
  simp only [townOf, List.getD_eq_getElem?_getD, List.getElem?_map]
  cases g[i]? <;> rfl
theorem town_back {g : List Int} (h : isgB g = true) : iL (townOf g) = g := by
  obtain ⟨_, _, h3⟩ := isg_parts h
  apply List.ext_getElem (by simp [town_len])
  intro i h1 h2
  have h4 := (rowA_lt (h3 i h2).1).1
  rw [List.getD_eq_getElem?_getD, List.getElem?_eq_getElem h2] at h4
  simp only [Option.getD_some] at h4
  simp [iL, townOf]
  omega
theorem and1_bit (x i : Nat) (hx : x < 4096) (hi : i < 64) : andI (shrI (x : Int) i) 1 = if x.testBit i then 1 else 0 := and1 x (by omega) i (by omega)
theorem town_tow {g : List Int} (h : isgB g = true) : Tow 6 (townOf g) := by
  obtain ⟨h1, h6, h3⟩ := isg_parts h
  have hlt : ∀ i, i < g.length → (g.getD i 0).toNat < 2 ^ g.length ∧ ((g.getD i 0).toNat : Int) = g.getD i 0 := fun i hi => by
    have := rowA_lt (h3 i hi).1
    omega
  have h64 : 2 ^ g.length ≤ 2 ^ 6 := Nat.pow_le_pow_right (by decide) h6
  have hbit : ∀ i j, i < g.length → j < 64 → andI (shrI (g.getD i 0) j) 1 = if (g.getD i 0).toNat.testBit j then 1 else 0 := fun i j hi hj => by
    have := hlt i hi
    rw [← this.2]
    exact and1_bit _ j (by omega) hj
  refine ⟨by rw [town_len]; exact h1, by rw [town_len]; exact h6, fun x hx => ?_, fun i hi => ?_, fun i j hi hj => ?_⟩
  · obtain ⟨i, hi, rfl⟩ := List.mem_iff_getElem.1 hx
    have hi' : i < g.length := by rw [← town_len]; exact hi
    have e : (townOf g)[i] = (townOf g).getD i 0 := by simp [List.getD_eq_getElem?_getD, hi]
    rw [e, town_get, town_len]
    exact (hlt i hi').1
  · rw [town_len] at hi
    have hA := (h3 i hi).1
    rw [town_get]
    simp only [rowA, Bool.not_eq_true', Bool.or_eq_false_iff] at hA
    have := hA.2.2
    rw [hbit i i hi (by omega)] at this
    cases hb : (g.getD i 0).toNat.testBit i with
    | false => rfl
    | true => rw [hb] at this; simp at this
  · rw [town_len] at hi hj
    have hC := (h3 i hi).2 j hj
    rw [cellB, hbit i j hi (by omega), hbit j i hj (by omega)] at hC
    rw [town_get, town_get]
    cases h1 : (g.getD i 0).toNat.testBit j <;> cases h2 : (g.getD j 0).toNat.testBit i <;> rw [h1, h2] at hC <;> simp at hC <;> rfl
theorem read_spec (g : List Int) : PCall Tryd.prog 32 [eIs g] (.t .ro (readF g)) [] := by
  refine pcall_wpT Tryd.func32 rfl (by kernel_rfl) ?_
  have hF0 : isgB g = false → readF g = .tup [.v (.slice none 0 0), eB false] := fun h => by rw [readF, h]; rfl
  by_cases h1 : (g.length : Int) < 1
  · have hF := hF0 (by rw [isgB, decide_eq_false (by omega)]; rfl)
    simp -dsimp [h1]
    refine retT_c ?_
    simp -dsimp [hF]
  by_cases h8 : 6 < (g.length : Int)
  · have hF := hF0 (by rw [isgB, decide_eq_false (by omega)]; rfl)
    simp -dsimp [h1, h8]
    refine retT_c ?_
    simp -dsimp [hF]
  have hbad : ∀ i, i < g.length → rowB g i = false → readF g = .tup [.v (.slice none 0 0), eB false] := fun i hi h => by
    apply hF0
    rw [isgB]
    have : graphB g = false := by
      rw [graphB, List.all_eq_false]
      exact ⟨i, List.mem_range.2 hi, by rw [h]; simp⟩
    rw [this, Bool.and_false]
  have hs := shl1 g.length (by omega)
  have hN : 2 ^ g.length ≤ 2 ^ 6 := Nat.pow_le_pow_right (by decide) (by omega)
  obtain ⟨N, hNe⟩ : ∃ N, N = 2 ^ g.length := ⟨_, rfl⟩
  rw [← hNe] at hs hN
  simp -dsimp [h1, h8]
  refine wk_loop (fun i : Nat => ⟨[(18, pI i), (17, pI g.length), (16, .t .ro (eIs g)), (4, pI g.length), (0, .t .ro (eIs g))], []⟩)
    (fun i => i ≤ g.length ∧ ∀ k, k < i → rowB g k = true) (fun i => g.length - i) 0
    (le_of (by simp) (by simp)) ⟨by omega, fun k h => by omega⟩ fun i ⟨hi, hr⟩ => ?_
  simp -dsimp
  refine condX_dec (fun h => ?_) (fun h => ?_)
  · have hw := wr (n := (i : Int) + 1) (by omega) (by omega)
    have hx := at_ (l := g) (i := i) h
    have hA : rowA g i = !(decide (g.getD i 0 < 0) || (decide ((N : Int) ≤ g.getD i 0) || andI (shrI (g.getD i 0) i) 1 == 1)) := by rw [hNe]; rfl
    have hi0 : (0 : Int) ≤ i := by omega
    have hil : (i : Int) < g.length := by omega
    generalize hgx : g.getD i 0 = x at hx hA
    cases hb : rowA g i with
    | false =>
      have hF := hbad i h (by rw [rowB, hb]; rfl)
      rw [hb] at hA
      by_cases c1 : x < 0
      · simp -dsimp [hi0, hil, hx, c1, hs]
        refine retT_c ?_
        simp -dsimp [hF]
      by_cases c2 : (N : Int) ≤ x
      · simp -dsimp [hi0, hil, hx, c1, c2, hs]
        refine retT_c ?_
        simp -dsimp [hF]
      have c3 : (andI (shrI x i) 1 == 1) = true := by simpa [c1, c2] using hA
      simp -dsimp [hi0, hil, hx, c1, c2, c3, hs]
      refine retT_c ?_
      simp -dsimp [hF]
    | true =>
      rw [hb] at hA
      have c1 : ¬ x < 0 := by
        intro e
        simp [e] at hA
      have c2 : ¬ (N : Int) ≤ x := by
        intro e
        simp [e] at hA
      have c3 : (andI (shrI x i) 1 == 1) = false := by simpa [c1, c2] using hA
      simp -dsimp [hi0, hil, hx, c1, c2, c3, hs]
      refine wk_loop (fun j : Nat => ⟨[(39, pI j), (38, pI g.length), (5, pI i), (6, .t .ro (eI x)), (18, pI i), (17, pI g.length), (16, .t .ro (eIs g)), (4, pI g.length), (0, .t .ro (eIs g))], []⟩)
        (fun j => j ≤ g.length ∧ ∀ k, k < j → cellB g i k = true) (fun j => g.length - j) 0
        (le_of (by simp) (by simp)) ⟨by omega, fun k h => by omega⟩ fun j ⟨hj, hrj⟩ => ?_
      simp -dsimp
      refine condX_dec (fun h' => ?_) (fun h' => ?_)
      · have hw' := wr (n := (j : Int) + 1) (by omega) (by omega)
        have hy := at_ (l := g) (i := j) h'
        have hj0 : (0 : Int) ≤ j := by omega
        have hjl : (j : Int) < g.length := by omega
        have hC : cellB g i j = (andI (shrI x j) 1 == andI (shrI (g.getD j 0) i) 1) := by rw [cellB, hgx]
        generalize g.getD j 0 = y at hy hC
        simp -dsimp
        refine wk_draw 11 [] mixed (by kernel_rfl) ?_
        cases hc : cellB g i j with
        | false =>
          have hF := hbad i h (by
            rw [rowB, hb, Bool.true_and, Bool.eq_false_iff]
            intro e
            rw [List.all_eq_true.1 e j (List.mem_range.2 h')] at hc
            cases hc)
          have hne : (andI (shrI x j) 1 != andI (shrI y i) 1) = true := by rw [bne, ← hC, hc]; rfl
          simp -dsimp [hi0, hil, hj0, hjl, hy, hne]
          refine retT_c ?_
          simp -dsimp [hF]
        | true =>
          have hne : (andI (shrI x j) 1 != andI (shrI y i) 1) = false := by rw [bne, ← hC, hc]; rfl
          simp -dsimp [hi0, hil, hj0, hjl, hy, hne]
          refine LoopP_next (j + 1) (le_of (by simp [hw']) (by simp)) ⟨h', fun k hk => ?_⟩ (by omega)
          rcases Nat.lt_or_ge k j with h5 | h5
          · exact hrj k h5
          · rwa [show k = j by omega]
      · have hj' : j = g.length := by omega
        have hrow : rowB g i = true := by
          rw [rowB, hb, Bool.true_and, List.all_eq_true]
          intro k hk
          exact hrj k (by rw [hj']; exact List.mem_range.1 hk)
        simp -dsimp
        refine LoopP_next (i + 1) (le_of (by simp [hw]) (by simp)) ⟨h, fun k hk => ?_⟩ (by omega)
        rcases Nat.lt_or_ge k i with h5 | h5
        · exact hr k h5
        · rwa [show k = i by omega]
  · have hi' : i = g.length := by omega
    have hg : graphB g = true := List.all_eq_true.2 fun k hk => hr k (by rw [hi']; exact List.mem_range.1 hk)
    have hF : readF g = .tup [eIs g, eB true] := by rw [readF, if_pos (by rw [isgB, hg, decide_eq_true (by omega)]; rfl)]
    simp -dsimp
    refine retT_c ?_
    simp -dsimp [hF]
end Go.Proofs.YtnikonhkbldnnaaDoor
/- LB3: both, rounds, near; copies; a choice more; formulas as trees; unless. -/
set_option linter.unusedVariables false
set_option linter.unusedSimpArgs false
set_option maxRecDepth 20000
namespace Go.Proofs.YtnikonhkbldnnaaDoor
open Go Go.PS
attribute [-simp] isKeyK List.map_take
def nilT : TL := .v (.slice none 0 0)
def bothF (g h : List Int) : TL := .tup [if isgB g = true then eIs g else nilT, if isgB h = true then eIs h else nilT, eB (isgB g && isgB h)]
theorem both_spec (g h : List Int) : PCall Tryd.prog 47 [eIs g, eIs h] (.t .ro (bothF g h)) [] := by
  have h1 := read_spec g
  have h2 := read_spec h
  have hF : bothF g h = .tup [if isgB g = true then eIs g else nilT, if isgB h = true then eIs h else nilT, eB (isgB g && isgB h)] := rfl
  rw [readF] at h1 h2
  refine pcall_wpT Tryd.func47 rfl (by kernel_rfl) ?_
  generalize isgB g = bg at *
  generalize isgB h = bh at *
  cases bg <;> cases bh
  all_goals
    simp only [if_true, Bool.false_eq_true, if_false, Bool.and_true, Bool.and_false, Bool.true_and, Bool.false_and, Bool.and_self] at h1 h2 hF
    simp -dsimp
    first
      | refine CallG.by (h1) ?_
      | refine CallGE.by (h1) ?_
      | refine CallGB.by (h1) ?_
    simp -dsimp
    first
      | refine CallG.by (h2) ?_
      | refine CallGE.by (h2) ?_
      | refine CallGB.by (h2) ?_
    simp -dsimp
    refine retT_c ?_
    simp -dsimp [hF, nilT]
theorem rounds_spec (k : Int) : PCall Tryd.prog 59 [eI k] (pB (decide (0 ≤ k ∧ k ≤ 3))) [] := by
  refine pcall_wp _ Tryd.func59 rfl (by kernel_rfl) rfl ?_
  by_cases h1 : 0 ≤ k
  · by_cases h2 : k ≤ 3
    · simp -dsimp [h1, h2]
      refine retP_c ?_
      simp -dsimp [h1, h2]
    · simp -dsimp [h1, h2]
      refine retP_c ?_
      simp -dsimp [h1, h2]
  · simp -dsimp [h1]
    refine retP_c ?_
    simp -dsimp [h1]
theorem near_spec (t : List Nat) (x y : Nat) (hx : x < t.length) (hl : t.getD x 0 < 4096) (hy : y < 64) : PCall Tryd.prog 52 [eNs t, eI x, eI y] (pB (nbN t x y)) [] := by
  refine pcall_wp _ Tryd.func52 rfl (by kernel_rfl) rfl ?_
  have q1 := iL_at hx
  have hb := and1_bit (t.getD x 0) y hl hy
  have hF : nbN t x y = (t.getD x 0).testBit y := rfl
  have hx' : (x : Int) < t.length := by omega
  have hy0 : (0 : Int) ≤ y := by omega
  generalize t.getD x 0 = s at *
  cases hc : s.testBit y
  · rw [hc] at hb
    simp -dsimp [hx', q1, hb, hy0]
    refine retP_c ?_
    simp -dsimp [hF, hc]
  · rw [hc] at hb
    simp -dsimp [hx', q1, hb, hy0]
    refine retP_c ?_
    simp -dsimp [hF, hc]
/-- nil is a row of no elements, in hand. -/
theorem pcall_nilrow {P : Program} {f : FuncId} {args : List TL} {k kk : Kind} {ty sz : Nat} (h : PCall P f args (.t k (.v (.slice none 0 0))) []) : PCall P f args (.osl 0) [(0, .row ty sz kk [])] := by
  refine ⟨h.1, fun w S vals hG hS hs hr => ?_⟩
  refine Calls.mono (h.2 w S vals hG hS hs hr) ?_
  rintro e w' ⟨v, φ, fp, h1, h2, h3, h4, h5, h6⟩
  have hv : v = .slice none 0 0 := by
    have := h6.t_inv
    cases this
    rfl
  subst hv
  refine ⟨_, fun n => if n = 0 then .slice none 0 0 else φ n, fp, h1, h2, fun m => ?_, h4, h5, .osl (by simp)⟩
  have h0 := h3 m
  have hd : ∀ g, ¬ fp m g := h0
  by_cases e : m = 0
  · subst e
    simp only [getM, if_true]
    exact ⟨[], .inr ⟨rfl, ⟨none, rfl⟩, hd⟩, by simp, by simp, fun i j e x he => by simp at he⟩
  · have e' : getM [(0, Res.row ty sz kk [])] m = .dead := by simp [getM, Ne.symm e]
    rw [e']
    exact hd
theorem clone59_row (xs : List Int) (hb : xs.length * 8 ≤ 140737488355328) : PCall Tryd.prog 89 [eIs xs] (.osl 0) [(0, .row 3 1 .ro (xs.map cI))] := by
  refine pcall_any 0 rfl call89 (fun h => ?_) ?_
  · simp at h
    subst h
    refine pcall_nilrow (k := .fz) ?_
    refine pcall_wp _ Tryd.func89 rfl (by kernel_rfl) rfl ?_
    simp -dsimp
    refine retP_c ?_
    simp -dsimp
  · refine pcall_wp _ Tryd.func89 rfl (by kernel_rfl) rfl ?_
    simp -dsimp [hb]
    exact retP_own 5 (by simp; rfl) (by simp) (by simp) (by simp) (by simp)
end Go.Proofs.YtnikonhkbldnnaaDoor
/- LB4: a choice more (the region by wk_dagS). -/
set_option linter.unusedVariables false
set_option linter.unusedSimpArgs false
set_option maxRecDepth 20000
namespace Go.Proofs.YtnikonhkbldnnaaDoor
open Go Go.PS
attribute [-simp] isKeyK List.map_take
def d126D : List (List Nat) := [[], [0], [], [2], [2, 3], [], [5], [2, 3, 4, 5, 6], [0, 1, 2, 3, 4, 5, 6, 7], [0, 1, 2, 3, 4, 5, 6, 7, 8]]
def d126T : List Nat := [0, 1, 2, 3, 4, 5, 6, 7, 8, 9]
def d126P : List (List (Option Bool)) := [[some false, some false, none, none, none, none, none, none, some false, some false], [some true, some false, none, none, none, none, none, none, some false, some false], [none, none, some false, some false, some false, none, none, some false, some false, some false], [none, none, some true, some false, some false, none, none, some false, some false, some false], [none, none, some true, some true, some false, none, none, some false, some false, some false], [none, none, none, none, none, some false, some false, some false, some false, some false], [none, none, none, none, none, some true, some false, some false, some false, some false], [none, none, some true, some true, some true, some true, some true, some false, some false, some false], [some true, some true, some true, some true, some true, some true, some true, some true, some false, some false], [some true, some true, some true, some true, some true, some true, some true, some true, some true, some false]]
def eSide (t c : List Nat) : TL := .agg [eNs t, eNs c]
theorem with_spec (t c : List Nat) (v : Nat) (hc : c.length ≤ 100) : PCall Tryd.prog 79 [eSide t c, eI v] (.t .ro (eSide t (c ++ [v]))) [] := by
  have hcl := clone59_row (iL c) (by simp; omega)
  have hb : (c.length + 1) * 8 ≤ 140737488355328 := by omega
  refine pcall_wpT Tryd.func79 rfl (by kernel_rfl) ?_
  unfold eSide
  simp -dsimp
  refine wk_dagS (fun bs => ⟨[(5, cnd (bs.getD 0 false) (.ptr 2 0)), (6, cnd (bs.getD 1 false) (.t .ro (eNs t))), (7, cnd (bs.getD 2 false) (.ptr 2 1)), (8, cnd (bs.getD 3 false) (.t .ro (eNs c))), (9, cnd (bs.getD 4 false && !bs.getD 7 false) (.osl 9)), (10, cnd (bs.getD 5 false) (.t .ro (eI v))), (11, cnd (bs.getD 6 false) (.osl 11)), (12, cnd (bs.getD 7 false) (.osl 9)), (13, cnd (bs.getD 8 false) (.agg [.t .ro (eNs t), .osl 9])), (4, .ptr 4 0), (2, .ptr 2 0), (1, .t .ro (eI v))],
      [(9, cndR (bs.getD 4 false) (.row 3 1 .ro ((iL c).map cI ++ if bs.getD 7 false then [cI v] else []))), (11, cndR (bs.getD 6 false) (.row 3 1 .fz [cI v])),
      (4, .blk 110 (if bs.getD 9 false then [.t .ro (eNs t), .osl 9] else [.t .fz (.v (.slice none 0 0)), .t .fz (.v (.slice none 0 0))])), (2, .blk 110 [.t .ro (eNs t), .t .ro (eNs c)])]⟩) d126D d126T d126P mixed (by kernel_rfl) (le_of (by simp) (by simp)) ?_ ?_
  · unfold d126P
    simp -dsimp [hb, -Bool.forall_bool]
    repeat' first
      | intro _
      | with_reducible apply And.intro
      | (refine le_of (by simp) ?_
         simp; done)
      | (refine CallG.by hcl ?_
         simp -dsimp)
      | (rename_i x
         cases x <;> simp -dsimp)
  · simp -dsimp
    refine retT_c ?_
    simp -dsimp
end Go.Proofs.YtnikonhkbldnnaaDoor
/- LB5: formulas as trees; unless, unlike. -/
set_option linter.unusedVariables false
set_option linter.unusedSimpArgs false
set_option maxRecDepth 20000
namespace Go.Proofs.YtnikonhkbldnnaaDoor
open Go Go.PS
attribute [-simp] isKeyK List.map_take
def sT (l : List UInt8) : TL := .v (.string ⟨l.toArray⟩)
/-- A formula's cells. -/
def foC : Fo → List TL
  | .eq i j => [sT [61], eI i, eI j, nilT]
  | .adj i j => [sT [126], eI i, eI j, nilT]
  | .no f => [sT [33], eI 0, eI 0, .sl .any 4 [foC f]]
  | .an f g => [sT [38], eI 0, eI 0, .sl .any 4 [foC f, foC g]]
  | .ex x f => [sT [69], eI x, eI 0, .sl .any 4 [foC f]]
def foZ : List TL := [.v (.string ByteArray.empty), eI 0, eI 0, nilT]
theorem foC_len (f : Fo) : (∃ (o : ByteArray) (x y : Int), foC f = [.v (.string o), eI x, eI y, .v (.slice none 0 0)]) ∨ ∃ (o : ByteArray) (x y : Int) (ks : List (List TL)), foC f = [.v (.string o), eI x, eI y, .sl .any 4 ks] := by
  cases f
  · exact .inl ⟨_, _, _, rfl⟩
  · exact .inl ⟨_, _, _, rfl⟩
  · exact .inr ⟨_, _, _, _, rfl⟩
  · exact .inr ⟨_, _, _, _, rfl⟩
  · exact .inr ⟨_, _, _, _, rfl⟩
theorem unless_spec (f : Fo) (c : Bool) : PCall Tryd.prog 78 [.agg (foC f), eB (!c)] (.t .ro (.agg (foC (unl c f)))) [] := by
  refine pcall_wpT Tryd.func78 rfl (by kernel_rfl) ?_
  have hno : foC (.no f) = [sT [33], eI 0, eI 0, .sl .any 4 [foC f]] := rfl
  cases c with
  | true =>
    rw [show unl true f = f from rfl]
    rcases foC_len f with ⟨o, x, y, hf⟩ | ⟨o, x, y, ks, hf⟩
    · rw [hf]
      simp -dsimp
      refine retT_c ?_
      simp -dsimp
    · rw [hf]
      simp -dsimp
      refine retT_c ?_
      simp -dsimp
  | false =>
    rw [show unl false f = .no f from rfl, hno]
    rcases foC_len f with ⟨o, x, y, hf⟩ | ⟨o, x, y, ks, hf⟩
    · rw [hf]
      simp -dsimp
      refine retT_c ?_
      simp -dsimp [sT]
    · rw [hf]
      simp -dsimp
      refine retT_c ?_
      simp -dsimp [sT]
end Go.Proofs.YtnikonhkbldnnaaDoor
/- LB6: unlike. -/
set_option linter.unusedVariables false
set_option linter.unusedSimpArgs false
set_option maxRecDepth 20000
namespace Go.Proofs.YtnikonhkbldnnaaDoor
open Go Go.PS
attribute [-simp] isKeyK List.map_take
def unlT (o : Option Fo) : TL := match o with
  | some f => .tup [.agg (foC f), eB true]
  | none => .tup [.agg foZ, eB false]
theorem range_find {α : Type} {n i : Nat} {f : Nat → Option α} {x : α} (hi : i < n) (h : f i = some x) (hb : ∀ k, k < i → f k = none) : (List.range n).findSome? f = some x := by
  have e : List.range n = List.range i ++ (i :: (List.range (n - i - 1)).map (i + 1 + ·)) := by
    have h1 : n = i + (n - i) := by omega
    have h2 : n - i = (n - i - 1) + 1 := by omega
    conv => lhs; rw [h1, List.range_add]
    congr 1
    rw [h2, List.range_succ_eq_map, List.map_cons, List.map_map]
    congr 1
    simp only [Nat.add_sub_cancel]
    refine List.map_congr_left fun a _ => ?_
    show i + (a + 1) = i + 1 + a
    omega
  rw [e, List.findSome?_append]
  have h0 : (List.range i).findSome? f = none := List.findSome?_eq_none_iff.2 fun k hk => hb k (List.mem_range.1 hk)
  rw [h0, List.findSome?_cons, h]
  rfl
theorem range_none {α : Type} {n : Nat} {f : Nat → Option α} (hb : ∀ k, k < n → f k = none) : (List.range n).findSome? f = none := List.findSome?_eq_none_iff.2 fun k hk => hb k (List.mem_range.1 hk)
theorem un_at {t s a b : List Nat} {i j : Nat} {f : Fo} (hj : j < a.length) (hi : i < j) (hJ : ∀ k, k < j → ∀ l, l < k → bdF t s a b l k = none) (hI : ∀ l, l < i → bdF t s a b l j = none) (h : bdF t s a b i j = some f) : unF t s a b = some f :=
  range_find hj (range_find hi h hI) fun k hk => range_none (hJ k hk)
theorem un_end {t s a b : List Nat} (hJ : ∀ k, k < a.length → ∀ l, l < k → bdF t s a b l k = none) : unF t s a b = none := range_none fun k hk => range_none (hJ k hk)
theorem unlike_spec (t s a b : List Nat) (ht : Tow 6 t) (hs : Tow 6 s) (hl : a.length = b.length) (h100 : a.length ≤ 100) (hab : ∀ i, i < a.length → a.getD i 0 < t.length ∧ b.getD i 0 < s.length) :
    PCall Tryd.prog 71 [eSide t a, eSide s b] (.t .ro (unlT (unF t s a b))) [] := by
  refine pcall_wpT Tryd.func71 rfl (by kernel_rfl) ?_
  have h64 : 2 ^ t.length ≤ 2 ^ 6 := Nat.pow_le_pow_right (by decide) ht.le
  have h64' : 2 ^ s.length ≤ 2 ^ 6 := Nat.pow_le_pow_right (by decide) hs.le
  have hlI : (a.length : Int) = b.length := by omega
  unfold eSide
  simp -dsimp
  refine wk_loop (fun j : Nat => ⟨[(13, pI j), (12, pI a.length), (5, pB false), (4, .ptr 4 0), (3, .ptr 3 0), (2, .ptr 2 0)],
      [(4, .blk 27 [.t .fz (.v (.string ByteArray.empty)), .t .fz (eI 0), .t .fz (eI 0), .t .fz (.v (.slice none 0 0))]), (3, .blk 110 [.t .ro (eNs s), .t .ro (eNs b)]), (2, .blk 110 [.t .ro (eNs t), .t .ro (eNs a)])]⟩)
    (fun j => j ≤ a.length ∧ ∀ k, k < j → ∀ l, l < k → bdF t s a b l k = none) (fun j => a.length - j) 0
    (le_of (by simp) (by simp)) ⟨by omega, fun k h => by omega⟩ fun j ⟨hj, hJ⟩ => ?_
  simp -dsimp
  refine condX_dec (fun h => ?_) (fun h => ?_)
  rotate_left
  · have hj' : j = a.length := by omega
    subst hj'
    have hU := un_end hJ
    rw [hU]
    simp -dsimp
    refine retT_c ?_
    simp -dsimp [unlT, foZ, nilT]
  have hw := wr (n := (j : Int) + 1) (by omega) (by omega)
  simp -dsimp
  refine wk_loop (fun i : Nat => ⟨[(17, pI i), (16, pI j), (6, pI j), (13, pI j), (12, pI a.length), (5, pB false), (4, .ptr 4 0), (3, .ptr 3 0), (2, .ptr 2 0)],
      [(4, .blk 27 [.t .fz (.v (.string ByteArray.empty)), .t .fz (eI 0), .t .fz (eI 0), .t .fz (.v (.slice none 0 0))]), (3, .blk 110 [.t .ro (eNs s), .t .ro (eNs b)]), (2, .blk 110 [.t .ro (eNs t), .t .ro (eNs a)])]⟩)
    (fun i => i ≤ j ∧ ∀ l, l < i → bdF t s a b l j = none) (fun i => j - i) 0
    (le_of (by simp) (by simp)) ⟨by omega, fun k h => by omega⟩ fun i ⟨hi, hI⟩ => ?_
  simp -dsimp
  refine condX_dec (fun hij => ?_) (fun hij => ?_)
  rotate_left
  · have hi' : i = j := by omega
    subst hi'
    simp -dsimp
    refine LoopP_next (i + 1) (le_of (by simp [hw]) (by simp)) ⟨h, fun k hk l hlk => ?_⟩ (by omega)
    rcases Nat.lt_or_ge k i with h5 | h5
    · exact hJ k h5 l hlk
    · have : k = i := by omega
      subst this
      exact hI l hlk
  have hw' := wr (n := (i : Int) + 1) (by omega) (by omega)
  have q1 := iL_at (l := a) (i := i) (by omega)
  have q2 := iL_at (l := a) (i := j) (by omega)
  have q3 := iL_at (l := b) (i := i) (by omega)
  have q4 := iL_at (l := b) (i := j) (by omega)
  obtain ⟨b1, b3⟩ := hab i (by omega)
  obtain ⟨b2, b4⟩ := hab j (by omega)
  have i1 : (i : Int) < a.length := by omega
  have i2 : (j : Int) < a.length := by omega
  have i3 : (i : Int) < b.length := by omega
  have i4 : (j : Int) < b.length := by omega
  have i5 : (0 : Int) ≤ i := by omega
  have i6 : (0 : Int) ≤ j := by omega
  have hbd : bdF t s a b i j = if badE a b i j then some (unl (a.getD i 0 == a.getD j 0) (.eq i j)) else if badN t s a b i j then some (unl (nbN t (a.getD i 0) (a.getD j 0)) (.adj i j)) else none := rfl
  have hE : badE a b i j = ((a.getD i 0 == a.getD j 0) != (b.getD i 0 == b.getD j 0)) := rfl
  have hN : badN t s a b i j = (nbN t (a.getD i 0) (a.getD j 0) != nbN s (b.getD i 0) (b.getD j 0)) := rfl
  have hU := fun f => un_at (f := f) h hij hJ hI
  have hn1 := near_spec t (a.getD i 0) (a.getD j 0) b1 (by have := ht.get (a.getD i 0); omega) (by have := ht.le; omega)
  have hn2 := near_spec s (b.getD i 0) (b.getD j 0) b3 (by have := hs.get (b.getD i 0); omega) (by have := hs.le; omega)
  generalize a.getD i 0 = x at *
  generalize a.getD j 0 = y at *
  generalize b.getD i 0 = x' at *
  generalize b.getD j 0 = y' at *
  have c1 : ((x : Int) == (y : Int)) = (x == y) := by rw [Bool.eq_iff_iff]; simp; omega
  have c2 : ((x' : Int) == (y' : Int)) = (x' == y') := by rw [Bool.eq_iff_iff]; simp; omega
  generalize (x == y) = p at *
  generalize (x' == y') = p' at *
  generalize nbN t x y = m at *
  generalize nbN s x' y' = m' at *
  have huE := unless_spec (.eq i j) p
  have huN := unless_spec (.adj i j) m
  rw [show foC (.eq i j) = [sT [61], eI i, eI j, nilT] from rfl, sT, nilT] at huE
  rw [show foC (.adj i j) = [sT [126], eI i, eI j, nilT] from rfl, sT, nilT] at huN
  simp -dsimp
  refine wk_draw 10 [] mixed (by kernel_rfl) ?_
  simp -dsimp [i1, i2, i5, i6, q1, q2, c1]
  refine wk_draw 12 [] mixed (by kernel_rfl) ?_
  simp -dsimp [i1, i2, i5, i6, q1, q2]
  first
    | refine CallG.by (hn1) ?_
    | refine CallGE.by (hn1) ?_
    | refine CallGB.by (hn1) ?_
  simp -dsimp
  refine wk_draw 12 [] mixed (by kernel_rfl) ?_
  have fin : ∀ f, bdF t s a b i j = some f → foC f = foC f := fun _ _ => rfl
  by_cases hp : p' = p
  · subst hp
    rw [show (p' != p') = false by simp] at hE
    rw [hE] at hbd
    simp -dsimp [i3, i4, i5, i6, q3, q4, c2]
    refine wk_draw 14 [13] mixed (by kernel_rfl) ?_
    simp -dsimp [i3, i4, i5, i6, q3, q4]
    first
      | refine CallG.by (hn2) ?_
      | refine CallGE.by (hn2) ?_
      | refine CallGB.by (hn2) ?_
    by_cases hm : m' = m
    · subst hm
      rw [show (m' != m') = false by simp] at hN
      rw [hN] at hbd
      simp -dsimp
      refine LoopP_next (i + 1) (le_of (by simp [hw']) (by simp)) ⟨hij, fun l hlk => ?_⟩ (by omega)
      rcases Nat.lt_or_ge l i with h5 | h5
      · exact hI l h5
      · have : l = i := by omega
        subst this
        exact hbd
    · have hmm : (m != m') = true := by cases m <;> cases m' <;> simp_all
      rw [hmm] at hN
      rw [hN] at hbd
      rw [hU _ hbd]
      rcases foC_len (unl m (.adj i j)) with ⟨o, u, v, hf⟩ | ⟨o, u, v, ks, hf⟩
      · rw [hf] at huN
        simp -dsimp [hmm]
        first
          | refine CallG.by (huN) ?_
          | refine CallGE.by (huN) ?_
          | refine CallGB.by (huN) ?_
        simp -dsimp
        refine retT_c ?_
        simp -dsimp [unlT, hf]
      · rw [hf] at huN
        simp -dsimp [hmm]
        first
          | refine CallG.by (huN) ?_
          | refine CallGE.by (huN) ?_
          | refine CallGB.by (huN) ?_
        simp -dsimp
        refine retT_c ?_
        simp -dsimp [unlT, hf]
  · have hmm : (p != p') = true := by cases p <;> cases p' <;> simp_all
    rw [hmm] at hE
    rw [hE] at hbd
    rw [hU _ hbd]
    rcases foC_len (unl p (.eq i j)) with ⟨o, u, v, hf⟩ | ⟨o, u, v, ks, hf⟩
    · rw [hf] at huE
      simp -dsimp [i3, i4, i5, i6, q3, q4, c2, hmm]
      first
        | refine CallG.by (huE) ?_
        | refine CallGE.by (huE) ?_
        | refine CallGB.by (huE) ?_
      simp -dsimp
      refine retT_c ?_
      simp -dsimp [unlT, hf]
    · rw [hf] at huE
      simp -dsimp [i3, i4, i5, i6, q3, q4, c2, hmm]
      first
        | refine CallG.by (huE) ?_
        | refine CallGE.by (huE) ?_
        | refine CallGB.by (huE) ?_
      simp -dsimp
      refine retT_c ?_
      simp -dsimp [unlT, hf]
end Go.Proofs.YtnikonhkbldnnaaDoor
/- LB7: wins, answers, Answer, Win. -/
set_option linter.unusedVariables false
set_option linter.unusedSimpArgs false
set_option maxRecDepth 20000
namespace Go.Proofs.YtnikonhkbldnnaaDoor
open Go Go.PS
attribute [-simp] isKeyK List.map_take
def Hab (t s a b : List Nat) : Prop := ∀ i, i < a.length → a.getD i 0 < t.length ∧ b.getD i 0 < s.length
def WinsP (k : Nat) : Prop := ∀ t s a b : List Nat, Tow 6 t → Tow 6 s → a.length = b.length → a.length + k ≤ 90 → Hab t s a b → PCall Tryd.prog 60 [eSide t a, eSide s b, eI k] (pB (winN k t s a b)) []
theorem any_succ (p : Nat → Bool) (n : Nat) : (List.range (n + 1)).any p = ((List.range n).any p || p n) := by simp [List.range_succ]
theorem answers_spec (k : Nat) (hw : WinsP k) (t s a b : List Nat) (ht : Tow 6 t) (hs : Tow 6 s) (hl : a.length = b.length) (h90 : a.length + (k + 1) ≤ 90) (hab : Hab t s a b) :
    PCall Tryd.prog 72 [eSide t a, eSide s b, eI (k + 1 : Nat)] (pB (ansN (winN k t s) t.length s.length a b)) [] := by
  refine pcall_wp _ Tryd.func72 rfl (by kernel_rfl) rfl ?_
  have hAt : ∀ v, (List.range s.length).any (fun u => winN k t s (a ++ [v]) (b ++ [u])) = false → v < t.length → ansN (winN k t s) t.length s.length a b = false := fun v h hv => by
    rw [ansN, List.all_eq_false]
    exact ⟨v, List.mem_range.2 hv, by rw [h]; simp⟩
  have ht6 := ht.le
  have hs6 := hs.le
  unfold eSide
  simp -dsimp
  refine wk_loop (fun v : Nat => ⟨[(13, pI v), (12, pI t.length), (6, pB false), (4, .ptr 4 0), (3, .ptr 3 0), (2, .t .ro (eI (k + 1 : Nat)))],
      [(4, .blk 110 [.t .ro (eNs s), .t .ro (eNs b)]), (3, .blk 110 [.t .ro (eNs t), .t .ro (eNs a)])]⟩)
    (fun v => v ≤ t.length ∧ ∀ v', v' < v → (List.range s.length).any (fun u => winN k t s (a ++ [v']) (b ++ [u])) = true) (fun v => t.length - v) 0
    (le_of (by simp) (by simp)) ⟨by omega, fun k h => by omega⟩ fun v ⟨hv, hJ⟩ => ?_
  simp -dsimp
  refine condX_dec (fun h => ?_) (fun h => ?_)
  rotate_left
  · have hv' : v = t.length := by omega
    subst hv'
    have hT : ansN (winN k t s) t.length s.length a b = true := List.all_eq_true.2 fun v hv => hJ v (List.mem_range.1 hv)
    simp -dsimp
    refine retP_c ?_
    simp -dsimp [hT]
  have hwv := wr (n := (v : Int) + 1) (by omega) (by omega)
  have hAv := fun e => hAt v e h
  have hF : (List.range s.length).any (fun u => winN k t s (a ++ [v]) (b ++ [u])) = (List.range s.length).any (fun u => winN k t s (a ++ [v]) (b ++ [u])) := rfl
  simp -dsimp
  refine wk_loop (fun p : Kind × Nat => ⟨[(19, pI p.2), (18, pI s.length), (8, .t p.1 (eB ((List.range p.2).any fun u => winN k t s (a ++ [v]) (b ++ [u])))), (7, pI v), (13, pI v), (12, pI t.length), (6, pB false), (4, .ptr 4 0), (3, .ptr 3 0), (2, .t .ro (eI (k + 1 : Nat)))],
      [(4, .blk 110 [.t .ro (eNs s), .t .ro (eNs b)]), (3, .blk 110 [.t .ro (eNs t), .t .ro (eNs a)])]⟩)
    (fun p => p.2 ≤ s.length) (fun p => s.length - p.2) (.fz, 0)
    (le_of (by simp) (by simp)) (by simp) fun ⟨kd, u⟩ hu => ?_
  dsimp only at hu
  simp -dsimp
  refine condX_dec (fun hus => ?_) (fun hus => ?_)
  · have hwu := wr (n := (u : Int) + 1) (by omega) (by omega)
    have hwk := wr (n := ((k : Int) + 1) - 1) (by omega) (by omega)
    have hek : (k : Int) + 1 - 1 = k := by omega
    rw [hek] at hwk
    have h1 := with_spec t a v (by omega)
    have h2 := with_spec s b u (by omega)
    have h3 := hw t s (a ++ [v]) (b ++ [u]) ht hs (by simp [hl]) (by simp; omega) (snoc_lt hl hab h hus)
    have hA : (List.range (u + 1)).any (fun u => winN k t s (a ++ [v]) (b ++ [u])) = ((List.range u).any (fun u => winN k t s (a ++ [v]) (b ++ [u])) || winN k t s (a ++ [v]) (b ++ [u])) := any_succ _ u
    unfold eSide at h1 h2 h3
    simp only [eNs, eIs, iL_append, iL_cons, iL_nil, List.map_append, List.map_cons, List.map_nil, cI] at h3
    generalize (List.range u).any (fun u => winN k t s (a ++ [v]) (b ++ [u])) = f at *
    generalize winN k t s (a ++ [v]) (b ++ [u]) = w at *
    simp -dsimp
    refine wk_draw 10 [] mixed (by kernel_rfl) ?_
    cases f with
    | true =>
      simp -dsimp
      refine LoopP_next (.fz, u + 1) (le_of (by simp [hwu, hA]) (by simp)) hus (by simp only; omega)
    | false =>
      simp -dsimp [hek, hwk]
      first
        | refine CallG.by (h1) ?_
        | refine CallGE.by (h1) ?_
        | refine CallGB.by (h1) ?_
      simp -dsimp
      first
        | refine CallG.by (h2) ?_
        | refine CallGE.by (h2) ?_
        | refine CallGB.by (h2) ?_
      simp -dsimp [hek, hwk]
      first
        | refine CallG.by (h3) ?_
        | refine CallGE.by (h3) ?_
        | refine CallGB.by (h3) ?_
      simp -dsimp
      refine LoopP_next (.fz, u + 1) (le_of (by simp [hwu, hA]) (by simp)) hus (by simp only; omega)
  · have hu' : u = s.length := by omega
    subst hu'
    cases hf : (List.range s.length).any (fun u => winN k t s (a ++ [v]) (b ++ [u])) with
    | false =>
      have := hAv hf
      simp -dsimp
      refine retP_c ?_
      simp -dsimp [this]
    | true =>
      simp -dsimp
      refine LoopP_next (v + 1) (le_of (by simp [hwv]) (by simp)) ⟨h, fun v' hv' => ?_⟩ (by omega)
      rcases Nat.lt_or_ge v' v with h5 | h5
      · exact hJ v' h5
      · rwa [show v' = v by omega]
theorem wins_spec (k : Nat) : WinsP k := by
  induction k with
  | zero =>
    intro t s a b ht hs hl h90 hab
    have hu := unlike_spec t s a b ht hs hl (by omega) hab
    have hun := un_none (t := t) (s := s) (a := a) (b := b)
    unfold eSide at hu
    refine pcall_wp _ Tryd.func60 rfl (by kernel_rfl) rfl ?_
    unfold eSide
    cases ho : unF t s a b with
    | some f =>
      have hok : okN t s a b = false := by
        rw [Bool.eq_false_iff]
        intro h
        rw [hun.2 h] at ho
        cases ho
      have hF : winN 0 t s a b = false := by
        rw [Bool.eq_false_iff]
        intro h
        rw [winN_ok h] at hok
        cases hok
      rw [ho, unlT] at hu
      rcases foC_len f with ⟨o, x, y, hf⟩ | ⟨o, x, y, ks, hf⟩
      · rw [hf] at hu
        simp -dsimp
        first
          | refine CallG.by (hu) ?_
          | refine CallGE.by (hu) ?_
          | refine CallGB.by (hu) ?_
        simp -dsimp
        refine retP_c ?_
        simp -dsimp [hF]
      · rw [hf] at hu
        simp -dsimp
        first
          | refine CallG.by (hu) ?_
          | refine CallGE.by (hu) ?_
          | refine CallGB.by (hu) ?_
        simp -dsimp
        refine retP_c ?_
        simp -dsimp [hF]
    | none =>
      have hok := hun.1 ho
      rw [ho, unlT, foZ, nilT] at hu
      have hF : winN 0 t s a b = true := hok
      simp -dsimp
      first
        | refine CallG.by (hu) ?_
        | refine CallGE.by (hu) ?_
        | refine CallGB.by (hu) ?_
      simp -dsimp
      refine retP_c ?_
      simp -dsimp [hF]
  | succ k ih =>
    intro t s a b ht hs hl h90 hab
    have hu := unlike_spec t s a b ht hs hl (by omega) hab
    have hun := un_none (t := t) (s := s) (a := a) (b := b)
    unfold eSide at hu
    refine pcall_wp _ Tryd.func60 rfl (by kernel_rfl) rfl ?_
    unfold eSide
    cases ho : unF t s a b with
    | some f =>
      have hok : okN t s a b = false := by
        rw [Bool.eq_false_iff]
        intro h
        rw [hun.2 h] at ho
        cases ho
      have hF : winN (k + 1) t s a b = false := by
        rw [Bool.eq_false_iff]
        intro h
        rw [winN_ok h] at hok
        cases hok
      rw [ho, unlT] at hu
      rcases foC_len f with ⟨o, x, y, hf⟩ | ⟨o, x, y, ks, hf⟩
      · rw [hf] at hu
        simp -dsimp
        first
          | refine CallG.by (hu) ?_
          | refine CallGE.by (hu) ?_
          | refine CallGB.by (hu) ?_
        simp -dsimp
        refine retP_c ?_
        simp -dsimp [hF]
      · rw [hf] at hu
        simp -dsimp
        first
          | refine CallG.by (hu) ?_
          | refine CallGE.by (hu) ?_
          | refine CallGB.by (hu) ?_
        simp -dsimp
        refine retP_c ?_
        simp -dsimp [hF]
    | none =>
      have hok := hun.1 ho
      rw [ho, unlT, foZ, nilT] at hu
      have h1 := answers_spec k ih t s a b ht hs hl (by omega) hab
      have h2 := answers_spec k ih s t b a hs ht hl.symm (by omega) fun i hi => ⟨(hab i (by omega)).2, (hab i (by omega)).1⟩
      unfold eSide at h1 h2
      have hF : winN (k + 1) t s a b = (ansN (winN k t s) t.length s.length a b && ansN (winN k s t) s.length t.length b a) := by rw [winN, hok, Bool.true_and]
      have hk0 : (((k : Int) + 1) == 0) = false := by simp; omega
      generalize ansN (winN k t s) t.length s.length a b = p at *
      generalize ansN (winN k s t) s.length t.length b a = q at *
      simp -dsimp
      first
        | refine CallG.by (hu) ?_
        | refine CallGE.by (hu) ?_
        | refine CallGB.by (hu) ?_
      cases p with
      | false =>
        simp -dsimp [hk0]
        first
          | refine CallG.by (h1) ?_
          | refine CallGE.by (h1) ?_
          | refine CallGB.by (h1) ?_
        simp -dsimp
        refine retP_c ?_
        simp -dsimp [hF]
      | true =>
        simp -dsimp [hk0]
        first
          | refine CallG.by (h1) ?_
          | refine CallGE.by (h1) ?_
          | refine CallGB.by (h1) ?_
        simp -dsimp
        first
          | refine CallG.by (h2) ?_
          | refine CallGE.by (h2) ?_
          | refine CallGB.by (h2) ?_
        simp -dsimp
        refine retP_c ?_
        simp -dsimp [hF]
end Go.Proofs.YtnikonhkbldnnaaDoor
/- LB8: Answer, Win. -/
set_option linter.unusedVariables false
set_option linter.unusedSimpArgs false
set_option maxRecDepth 20000
namespace Go.Proofs.YtnikonhkbldnnaaDoor
open Go Go.PS
attribute [-simp] isKeyK List.map_take
/-- Whether numbers are nodes. -/
def ndsB (n : Nat) (l : List Int) : Bool := l.all fun x => decide (0 ≤ x ∧ x < n)
theorem nds_at {n : Nat} {l : List Int} : ndsB n l = true ↔ ∀ i, i < l.length → 0 ≤ l.getD i 0 ∧ l.getD i 0 < n := by
  unfold ndsB
  rw [List.all_eq_true]
  constructor
  · intro h i hi
    have := h l[i] (List.getElem_mem hi)
    simpa [List.getD_eq_getElem?_getD, hi] using this
  · intro h x hx
    obtain ⟨i, hi, rfl⟩ := List.mem_iff_getElem.1 hx
    have := h i hi
    simpa [List.getD_eq_getElem?_getD, hi] using this
theorem nds_back {n : Nat} {l : List Int} (h : ndsB n l = true) : iL (townOf l) = l := by
  apply List.ext_getElem (by simp [town_len])
  intro i h1 h2
  have := nds_at.1 h i h2
  simp only [List.getD_eq_getElem?_getD, List.getElem?_eq_getElem h2, Option.getD_some] at this
  simp [iL, townOf]
  omega
def ansOK (g h : List Int) (k : Int) (a b : List Int) : Bool := (isgB g && isgB h) && (decide (0 ≤ k ∧ k ≤ 3) && (decide (a.length = b.length ∧ a.length ≤ 3) && (ndsB g.length a && ndsB h.length b)))
def ansF (g h : List Int) (k : Int) (a b : List Int) : TL := if ansOK g h k a b = true then .tup [eB (winN k.toNat (townOf g) (townOf h) (townOf a) (townOf b)), eI 0] else .tup [eB false, eI 2]
theorem answer_spec (g h : List Int) (k : Int) (a b : List Int) : PCall Tryd.prog 46 [eIs g, eIs h, eI k, eIs a, eIs b] (.t .fz (ansF g h k a b)) [] := by
  have hbo := both_spec g h
  have hro := rounds_spec k
  have hF0 : ansOK g h k a b = false → ansF g h k a b = .tup [eB false, eI 2] := fun h => by rw [ansF, h]; rfl
  refine pcall_wp _ Tryd.func46 rfl (by kernel_rfl) rfl ?_
  rw [bothF] at hbo
  cases hg : isgB g with
  | false =>
    have hF := hF0 (by rw [ansOK, hg]; rfl)
    rw [hg] at hbo
    cases hh : isgB h
    all_goals
      rw [hh] at hbo
      simp only [if_true, Bool.false_eq_true, if_false, Bool.and_true, Bool.and_false, Bool.true_and, Bool.false_and, Bool.and_self, nilT] at hbo
      simp -dsimp
      first
        | refine CallG.by (hbo) ?_
        | refine CallGE.by (hbo) ?_
        | refine CallGB.by (hbo) ?_
      simp -dsimp
      refine retP_c ?_
      simp -dsimp [hF]
  | true =>
    cases hh : isgB h with
    | false =>
      have hF := hF0 (by rw [ansOK, hg, hh]; rfl)
      rw [hg, hh] at hbo
      simp only [if_true, Bool.false_eq_true, if_false, Bool.and_true, Bool.and_false, Bool.true_and, Bool.false_and, Bool.and_self, nilT] at hbo
      simp -dsimp
      first
        | refine CallG.by (hbo) ?_
        | refine CallGE.by (hbo) ?_
        | refine CallGB.by (hbo) ?_
      simp -dsimp
      refine retP_c ?_
      simp -dsimp [hF]
    | true =>
      rw [hg, hh] at hbo
      simp only [if_true, Bool.and_self] at hbo
      by_cases hk : 0 ≤ k ∧ k ≤ 3
      rotate_left
      · have hF := hF0 (by rw [ansOK, hg, hh, decide_eq_false hk]; rfl)
        rw [decide_eq_false hk] at hro
        simp -dsimp
        first
          | refine CallG.by (hbo) ?_
          | refine CallGE.by (hbo) ?_
          | refine CallGB.by (hbo) ?_
        simp -dsimp
        first
          | refine CallG.by (hro) ?_
          | refine CallGE.by (hro) ?_
          | refine CallGB.by (hro) ?_
        simp -dsimp
        refine retP_c ?_
        simp -dsimp [hF]
      rw [decide_eq_true hk] at hro
      by_cases hl : (a.length : Int) = b.length
      rotate_left
      · have hF := hF0 (by rw [ansOK, hg, hh, decide_eq_true hk, decide_eq_false (show ¬ (a.length = b.length ∧ a.length ≤ 3) by omega)]; rfl)
        have hne : ((a.length : Int) != b.length) = true := by simpa using hl
        simp -dsimp
        first
          | refine CallG.by (hbo) ?_
          | refine CallGE.by (hbo) ?_
          | refine CallGB.by (hbo) ?_
        simp -dsimp
        first
          | refine CallG.by (hro) ?_
          | refine CallGE.by (hro) ?_
          | refine CallGB.by (hro) ?_
        simp -dsimp [hne]
        refine retP_c ?_
        simp -dsimp [hF]
      have hne : ((a.length : Int) != b.length) = false := by simpa using hl
      by_cases h3 : 3 < (a.length : Int)
      · have hF := hF0 (by rw [ansOK, hg, hh, decide_eq_true hk, decide_eq_false (show ¬ (a.length = b.length ∧ a.length ≤ 3) by omega)]; rfl)
        simp -dsimp
        first
          | refine CallG.by (hbo) ?_
          | refine CallGE.by (hbo) ?_
          | refine CallGB.by (hbo) ?_
        simp -dsimp
        first
          | refine CallG.by (hro) ?_
          | refine CallGE.by (hro) ?_
          | refine CallGB.by (hro) ?_
        simp -dsimp [hne, h3]
        refine retP_c ?_
        simp -dsimp [hF]
      have hok : ansOK g h k a b = (ndsB g.length a && ndsB h.length b) := by
        rw [ansOK, hg, hh, decide_eq_true hk, decide_eq_true (show a.length = b.length ∧ a.length ≤ 3 by omega)]
        simp
      have hbad : ∀ i, i < a.length → ¬ ((0 ≤ a.getD i 0 ∧ a.getD i 0 < g.length) ∧ 0 ≤ b.getD i 0 ∧ b.getD i 0 < h.length) → ansF g h k a b = .tup [eB false, eI 2] := fun i hi hn => by
        apply hF0
        rw [hok, Bool.eq_false_iff]
        intro hc
        rw [Bool.and_eq_true] at hc
        exact hn ⟨nds_at.1 hc.1 i hi, nds_at.1 hc.2 i (by omega)⟩
      have hall : (∀ i, i < a.length → (0 ≤ a.getD i 0 ∧ a.getD i 0 < g.length) ∧ 0 ≤ b.getD i 0 ∧ b.getD i 0 < h.length) → ansF g h k a b = .tup [eB (winN k.toNat (townOf g) (townOf h) (townOf a) (townOf b)), eI 0] ∧ PCall Tryd.prog 60 [.agg [eIs g, eIs a], .agg [eIs h, eIs b], eI k] (pB (winN k.toNat (townOf g) (townOf h) (townOf a) (townOf b))) [] := fun hal => by
        have ha : ndsB g.length a = true := nds_at.2 fun i hi => (hal i hi).1
        have hb : ndsB h.length b = true := nds_at.2 fun i hi => (hal i (by omega)).2
        refine ⟨by rw [ansF, hok, ha, hb]; rfl, ?_⟩
        have hw := wins_spec k.toNat (townOf g) (townOf h) (townOf a) (townOf b) (town_tow hg) (town_tow hh) (by rw [town_len, town_len]; omega) (by rw [town_len]; omega) fun i hi => by
          rw [town_len] at hi
          have := hal i hi
          rw [town_get, town_get, town_len, town_len]
          omega
        rw [eSide, eSide, eNs, eNs, eNs, eNs, town_back hg, town_back hh, nds_back ha, nds_back hb, show ((k.toNat : Nat) : Int) = k by omega] at hw
        exact hw
      simp -dsimp
      first
        | refine CallG.by (hbo) ?_
        | refine CallGE.by (hbo) ?_
        | refine CallGB.by (hbo) ?_
      simp -dsimp
      first
        | refine CallG.by (hro) ?_
        | refine CallGE.by (hro) ?_
        | refine CallGB.by (hro) ?_
      simp -dsimp [hne, h3]
      refine wk_loop (fun i : Nat => ⟨[(44, pI i), (43, pI a.length), (12, .t .ro (eIs g)), (13, .t .ro (eIs h)), (2, .t .ro (eI k)), (3, .t .ro (eIs a)), (4, .t .ro (eIs b))], []⟩)
        (fun i => i ≤ a.length ∧ ∀ j, j < i → (0 ≤ a.getD j 0 ∧ a.getD j 0 < g.length) ∧ 0 ≤ b.getD j 0 ∧ b.getD j 0 < h.length) (fun i => a.length - i) 0
        (le_of (by simp) (by simp)) ⟨by omega, fun k h => by omega⟩ fun i ⟨hi, hJ⟩ => ?_
      simp -dsimp
      refine condX_dec (fun hc => ?_) (fun hc => ?_)
      rotate_left
      · have hi' : i = a.length := by omega
        subst hi'
        obtain ⟨hF, hw⟩ := hall hJ
        simp -dsimp
        first
          | refine CallG.by (hw) ?_
          | refine CallGE.by (hw) ?_
          | refine CallGB.by (hw) ?_
        simp -dsimp
        refine retP_c ?_
        simp -dsimp [hF]
      have hwi := wr (n := (i : Int) + 1) (by omega) (by omega)
      have q1 := at_ (l := a) (i := i) hc
      have q2 := at_ (l := b) (i := i) (by omega)
      have i1 : (i : Int) < a.length := by omega
      have i2 : (i : Int) < b.length := by omega
      have i5 : (0 : Int) ≤ i := by omega
      have hbi := hbad i hc
      have hgo : ((0 ≤ a.getD i 0 ∧ a.getD i 0 < g.length) ∧ 0 ≤ b.getD i 0 ∧ b.getD i 0 < h.length) → ∀ j, j < i + 1 → (0 ≤ a.getD j 0 ∧ a.getD j 0 < g.length) ∧ 0 ≤ b.getD j 0 ∧ b.getD j 0 < h.length := fun hx j hj => by
        rcases Nat.lt_or_ge j i with h5 | h5
        · exact hJ j h5
        · rwa [show j = i by omega]
      generalize a.getD i 0 = x at *
      generalize b.getD i 0 = y at *
      obtain ⟨m, hm⟩ : ∃ m, (if y < x then y else x) = m := ⟨_, rfl⟩
      have hm0 : m < 0 ↔ ¬ (0 ≤ x ∧ 0 ≤ y) := by
        rw [← hm]
        split <;> omega
      simp -dsimp
      refine wk_draw 26 [8, 16, 25] mixed (by kernel_rfl) ?_
      by_cases c1 : m < 0
      · have hF := hbi (by omega)
        simp -dsimp [i1, i2, i5, q1, q2, hm, c1]
        refine retP_c ?_
        simp -dsimp [hF]
      by_cases c2 : (g.length : Int) ≤ x
      · have hF := hbi (by omega)
        simp -dsimp [i1, i2, i5, q1, q2, hm, c1, c2]
        refine retP_c ?_
        simp -dsimp [hF]
      by_cases c3 : (h.length : Int) ≤ y
      · have hF := hbi (by omega)
        simp -dsimp [i1, i2, i5, q1, q2, hm, c1, c2, c3]
        refine retP_c ?_
        simp -dsimp [hF]
      simp -dsimp [i1, i2, i5, q1, q2, hm, c1, c2, c3]
      refine LoopP_next (i + 1) (le_of (by simp [hwi]) (by simp)) ⟨hc, hgo (by omega)⟩ (by omega)
/-- An argument that says more. -/
theorem pcall_args {P : Program} {f : Nat} {args args' : List TL} {r : PV} {Mr : List (Nat × Res)} (h : PCall P f args r Mr) (hl : args'.length = args.length)
    (ha : ∀ (w : World) (S : Nat → Prop) (i : Nat) (x : TL) (v : Value), args[i]? = some x → (∀ y, args'[i]? = some y → TRep w S y v) → TRep w S x v) : PCall P f args' r Mr := by
  refine ⟨h.1, fun w S vals hG hS hv hr => h.2 w S vals hG hS (by omega) fun i x hx => ha w S i x _ hx fun y hy => hr i y hy⟩
/-- nil is as good as no nodes. -/
theorem win_spec (g h : List Int) (k : Int) : PCall Tryd.prog 30 [eIs g, eIs h, eI k] (.t .fz (ansF g h k [] [])) [] := by
  have h0 := answer_spec g h k [] []
  have h1 : PCall Tryd.prog 46 [eIs g, eIs h, eI k, .v (.slice none 0 0), .v (.slice none 0 0)] (.t .fz (ansF g h k [] [])) [] := by
    refine pcall_args h0 rfl fun w S i x v hx hy => ?_
    match i, hx with
    | 0, hx => exact hy x hx
    | 1, hx => exact hy x hx
    | 2, hx => exact hy x hx
    | 3, hx =>
      simp only [eIs, List.getElem?_cons_succ, List.getElem?_cons_zero, Option.some.injEq] at hx
      subst hx
      exact nil_any' w S v (hy _ rfl)
    | 4, hx =>
      simp only [eIs, List.getElem?_cons_succ, List.getElem?_cons_zero, Option.some.injEq] at hx
      subst hx
      exact nil_any' w S v (hy _ rfl)
    | i + 5, hx => simp at hx
  clear h0
  have hF : ansF g h k [] [] = ansF g h k [] [] := rfl
  rw [ansF] at h1 ⊢
  refine pcall_wp _ Tryd.func30 rfl (by kernel_rfl) rfl ?_
  split at h1
  · rename_i hc
    rw [if_pos hc]
    simp -dsimp
    first
      | refine CallG.by (h1) ?_
      | refine CallGE.by (h1) ?_
      | refine CallGB.by (h1) ?_
    simp -dsimp
    refine retP_c ?_
    simp -dsimp
  · rename_i hc
    rw [if_neg hc]
    simp -dsimp
    first
      | refine CallG.by (h1) ?_
      | refine CallGE.by (h1) ?_
      | refine CallGB.by (h1) ?_
    simp -dsimp
    refine retP_c ?_
    simp -dsimp
end Go.Proofs.YtnikonhkbldnnaaDoor
/- LB9: comparing numbers, slices, kinds. -/
set_option linter.unusedVariables false
set_option linter.unusedSimpArgs false
set_option maxRecDepth 20000
namespace Go.Proofs.YtnikonhkbldnnaaDoor
open Go Go.PS
attribute [-simp] isKeyK List.map_take
theorem nan_spec (x : Int) : PCall Tryd.prog 119 [eI x] (pB false) [] := by
  refine pcall_wp _ Tryd.func119 rfl (by kernel_rfl) rfl ?_
  have h : (x != x) = false := by simp
  simp -dsimp [h]
  refine retP_c ?_
  simp -dsimp
def cmpI (a b : Int) : Int := if a < b then -1 else if b < a then 1 else 0
theorem cmp_spec (x y : Int) : PCall Tryd.prog 95 [eI x, eI y] (pI (cmpI x y)) [] := by
  refine pcall_wp _ Tryd.func95 rfl (by kernel_rfl) rfl ?_
  have hn1 := nan_spec x
  have hn2 := nan_spec y
  have hF : cmpI x y = if x < y then -1 else if y < x then 1 else 0 := rfl
  simp -dsimp
  first
    | refine CallG.by (hn1) ?_
    | refine CallGE.by (hn1) ?_
    | refine CallGB.by (hn1) ?_
  simp -dsimp
  first
    | refine CallG.by (hn2) ?_
    | refine CallGE.by (hn2) ?_
    | refine CallGB.by (hn2) ?_
  by_cases h1 : x < y
  · rw [if_pos h1] at hF
    simp -dsimp [h1]
    refine retP_c ?_
    simp -dsimp [hF]
  · rw [if_neg h1] at hF
    by_cases h2 : y < x
    · rw [if_pos h2] at hF
      simp -dsimp [h1, h2]
      refine retP_c ?_
      simp -dsimp [hF]
    · rw [if_neg h2] at hF
      simp -dsimp [h1, h2]
      refine retP_c ?_
      simp -dsimp [hF]
theorem or_spec (x y : Int) : PCall Tryd.prog 94 [eIs [x, y]] (pI (if x = 0 then y else x)) [] := by
  refine pcall_wp _ Tryd.func94 rfl (by kernel_rfl) rfl ?_
  obtain ⟨r, hr⟩ : ∃ r, r = (if x = 0 then y else x) := ⟨_, rfl⟩
  rw [← hr]
  simp -dsimp
  refine wk_loop (fun i : Nat => ⟨[(8, pI i), (7, pI 2), (6, .t .ro (eIs [x, y])), (3, pI 0)], []⟩)
    (fun i => i ≤ 2 ∧ (1 ≤ i → x = 0) ∧ (2 ≤ i → y = 0)) (fun i => 2 - i) 0
    (le_of (by simp) (by simp)) ⟨by omega, by omega, by omega⟩ fun i ⟨hi, h1, h2⟩ => ?_
  have hc : i = 0 ∨ i = 1 ∨ i = 2 := by omega
  rcases hc with rfl | rfl | rfl
  · by_cases hx : x = 0
    · subst hx
      simp -dsimp
      have hw : IntKind.i64.wrap 1 = 1 := by decide
      refine LoopP_next 1 (le_of (by simp [hw]) (by simp)) ⟨by omega, fun _ => rfl, by omega⟩ (by omega)
    · have hne : (x != 0) = true := by simpa using hx
      rw [if_neg hx] at hr
      subst hr
      simp -dsimp [hne]
      refine retP_c ?_
      simp -dsimp
  · have hx := h1 (by omega)
    subst hx
    rw [if_pos rfl] at hr
    subst hr
    by_cases hy : r = 0
    · subst hy
      simp -dsimp
      have hw : IntKind.i64.wrap 2 = 2 := by decide
      refine LoopP_next 2 (le_of (by simp [hw]) (by simp)) ⟨by omega, fun _ => rfl, fun _ => rfl⟩ (by omega)
    · have hne : (r != 0) = true := by simpa using hy
      simp -dsimp [hne]
      refine retP_c ?_
      simp -dsimp
  · have hx := h1 (by omega)
    have hy := h2 (by omega)
    subst hx hy
    rw [if_pos rfl] at hr
    subst hr
    simp -dsimp
    refine retP_c ?_
    simp -dsimp
theorem cmpN_drop {a b : List Nat} {i : Nat} (ha : i < a.length) (hb : i < b.length) : cmpN (a.drop i) (b.drop i) = if cmpI (a.getD i 0 : Nat) (b.getD i 0 : Nat) = 0 then cmpN (a.drop (i + 1)) (b.drop (i + 1)) else cmpI (a.getD i 0 : Nat) (b.getD i 0 : Nat) := by
  rw [List.drop_eq_getElem_cons ha, List.drop_eq_getElem_cons hb, cmpN]
  simp only [List.getD_eq_getElem?_getD, List.getElem?_eq_getElem ha, List.getElem?_eq_getElem hb, Option.getD_some, cmpI]
  generalize a[i] = x
  generalize b[i] = y
  repeat' split
  all_goals first | rfl | omega
theorem scmp_spec (a b : List Nat) : PCall Tryd.prog 96 [eNs a, eNs b] (pI (cmpN a b)) [] := by
  refine pcall_sl 0 rfl call96 fun hla => ?_
  refine pcall_sl 1 rfl call96 fun hlb => ?_
  simp only [List.length_map, iL_length] at hla hlb
  refine pcall_wp _ Tryd.func96 rfl (by kernel_rfl) rfl ?_
  simp -dsimp
  refine wk_loop (fun i : Nat => ⟨[(11, pI i), (10, pI a.length), (9, .t .ro (eNs a)), (0, .t .ro (eNs a)), (1, .t .ro (eNs b))], []⟩)
    (fun i => i ≤ a.length ∧ i ≤ b.length ∧ cmpN a b = cmpN (a.drop i) (b.drop i)) (fun i => a.length - i) 0
    (le_of (by simp) (by simp)) ⟨by omega, by omega, by simp⟩ fun i ⟨hi, hib, hJ⟩ => ?_
  simp -dsimp
  refine condX_dec (fun h => ?_) (fun h => ?_)
  rotate_left
  · have hi' : i = a.length := by omega
    subst hi'
    rw [List.drop_length] at hJ
    by_cases hlt : (a.length : Int) < b.length
    · have hF : cmpN a b = -1 := by
        rw [hJ, List.drop_eq_getElem_cons (show a.length < b.length by omega)]
        rfl
      simp -dsimp [hlt]
      refine retP_c ?_
      simp -dsimp [hF]
    · have hF : cmpN a b = 0 := by
        rw [hJ, List.drop_eq_nil_of_le (show b.length ≤ a.length by omega)]
        rfl
      simp -dsimp [hlt]
      refine retP_c ?_
      simp -dsimp [hF]
  have hw := wr (n := (i : Int) + 1) (by omega) (by omega)
  have q1 := iL_at (l := a) (i := i) h
  by_cases hb : (b.length : Int) ≤ i
  · have hF : cmpN a b = 1 := by
      rw [hJ, List.drop_eq_getElem_cons h, List.drop_eq_nil_of_le (show b.length ≤ i by omega)]
      rfl
    have i1 : (i : Int) < a.length := by omega
    simp -dsimp [i1, q1, hb]
    refine retP_c ?_
    simp -dsimp [hF]
  have hib' : i < b.length := by omega
  have q2 := iL_at (l := b) (i := i) hib'
  have hd := cmpN_drop h hib'
  have hc := cmp_spec (a.getD i 0 : Nat) (b.getD i 0 : Nat)
  have i1 : (i : Int) < a.length := by omega
  have i2 : (i : Int) < b.length := by omega
  have i5 : (0 : Int) ≤ i := by omega
  generalize a.getD i 0 = x at *
  generalize b.getD i 0 = y at *
  generalize cmpI (x : Int) (y : Int) = c at *
  by_cases h0 : c = 0
  · rw [if_pos h0] at hd
    have hne : (c != 0) = false := by simpa using h0
    simp -dsimp [i1, i2, i5, q1, q2, hb]
    first
      | refine CallG.by (hc) ?_
      | refine CallGE.by (hc) ?_
      | refine CallGB.by (hc) ?_
    simp -dsimp [hne]
    refine LoopP_next (i + 1) (le_of (by simp [hw]) (by simp)) ⟨h, hib', by rw [hJ, hd]⟩ (by omega)
  · rw [if_neg h0] at hd
    have hne : (c != 0) = true := by simpa using h0
    have hF : cmpN a b = c := by rw [hJ, hd]
    simp -dsimp [i1, i2, i5, q1, q2, hb]
    first
      | refine CallG.by (hc) ?_
      | refine CallGE.by (hc) ?_
      | refine CallGB.by (hc) ?_
    simp -dsimp [hne]
    refine retP_c ?_
    simp -dsimp [hF]
def hdN (x : List Nat) : Nat := x.headD 0
def tlN (x : List Nat) : List Nat := x.tail
@[simp] theorem hdN_cons (x : Nat) (l : List Nat) : hdN (x :: l) = x := rfl
@[simp] theorem tlN_cons (x : Nat) (l : List Nat) : tlN (x :: l) = l := rfl
@[simp] def eKd (x : List Nat) : List TL := [eI (hdN x), eNs (tlN x)]
theorem compare_spec (x y : List Nat) (hx : x ≠ []) (hy : y ≠ []) : PCall Tryd.prog 84 [.agg (eKd x), .agg (eKd y)] (pI (cmpN x y)) [] := by
  match x, y, hx, hy with
  | x :: a, y :: b, _, _ =>
    have h1 := cmp_spec (x : Nat) (y : Nat)
    have h2 := scmp_spec a b
    have hF : cmpN (x :: a) (y :: b) = if cmpI (x : Nat) (y : Nat) = 0 then cmpN a b else cmpI (x : Nat) (y : Nat) := by
      rw [cmpN]
      unfold cmpI
      repeat' split
      all_goals first | rfl | omega
    have h3 := or_spec (cmpI (x : Nat) (y : Nat)) (cmpN a b)
    refine pcall_wp _ Tryd.func84 rfl (by kernel_rfl) rfl ?_
    rw [← hF] at h3
    generalize cmpN (x :: a) (y :: b) = r at *
    generalize cmpI (x : Int) (y : Int) = c at *
    generalize cmpN a b = d at *
    simp only [eKd, hdN_cons, tlN_cons]
    simp -dsimp
    refine wk_draw 9 [] mixed (by kernel_rfl) ?_
    simp -dsimp
    first
      | refine CallG.by (h1) ?_
      | refine CallGE.by (h1) ?_
      | refine CallGB.by (h1) ?_
    simp -dsimp
    first
      | refine CallG.by (h2) ?_
      | refine CallGE.by (h2) ?_
      | refine CallGB.by (h2) ?_
    simp -dsimp
    first
      | refine CallG.by (h3) ?_
      | refine CallGE.by (h3) ?_
      | refine CallGB.by (h3) ?_
    simp -dsimp
    refine retP_c ?_
    simp -dsimp
theorem closure132 (x y : List Nat) (hx : x ≠ []) (hy : y ≠ []) : PCall Tryd.prog 86 [.agg (eKd x), .agg (eKd y)] (pB (decide (x = y))) [] := by
  have h := compare_spec x y hx hy
  refine pcall_wp _ Tryd.func86 rfl (by kernel_rfl) rfl ?_
  have hd : (cmpN x y == 0) = decide (x = y) := by
    rw [Bool.eq_iff_iff, beq_iff_eq, decide_eq_true_eq]
    exact ⟨cmpN_eq, fun e => by rw [e, cmpN_self]⟩
  generalize cmpN x y = c at *
  simp -dsimp
  first
    | refine CallG.by (h) ?_
    | refine CallGE.by (h) ?_
    | refine CallGB.by (h) ?_
  simp -dsimp [hd]
  refine retP_c ?_
  simp -dsimp
end Go.Proofs.YtnikonhkbldnnaaDoor
