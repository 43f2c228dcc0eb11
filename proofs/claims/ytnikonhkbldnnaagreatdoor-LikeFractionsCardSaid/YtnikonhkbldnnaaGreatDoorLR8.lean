import Derived.Test.YtnikonhkbldnnaaGreatDoorLB26
import Derived.Test.YtnikonhkbldnnaaGreatDoorLW16
import Derived.Test.YtnikonhkbldnnaaGreatDoorLR1
/- LR8: the reference's IsFraction. -/
set_option linter.unusedVariables false
set_option linter.unusedSimpArgs false
set_option maxRecDepth 20000
namespace Go.Proofs.YtnikonhkbldnnaaGreatDoor
open Go Go.PS
attribute [-simp] isKeyK List.map_take
theorem gcdR_spec (a b : Nat) : PCall Tryz.prog 42 [eI a, eI b] (pI (Nat.gcd a b : Nat)) [] := by
  refine pcall_wp _ Tryz.func42 rfl (by kernel_rfl) rfl ?_
  simp -dsimp
  refine wk_loop (fun p : Kind × Kind × Nat × Nat => ⟨[(0, .t p.1 (eI p.2.2.1)), (1, .t p.2.1 (eI p.2.2.2))], []⟩) (fun p => Nat.gcd p.2.2.1 p.2.2.2 = Nat.gcd a b) (fun p => p.2.2.2) (.ro, .ro, a, b)
    (le_of (by simp) (by simp)) rfl fun ⟨k0, k1, x, y⟩ hg => ?_
  dsimp only at hg
  by_cases hy : y = 0
  · have hy' : (y : Int) = 0 := by omega
    simp -dsimp [hy']
    rw [hy, Nat.gcd_zero_right] at hg
    refine retP_c ?_
    simp -dsimp [hg]
  · have hy' : ((y : Int) == 0) = false := by
      rw [beq_eq_false_iff_ne]
      omega
    have hy2 : ¬ (y : Int) = 0 := by omega
    have hy3 : ((y : Int) != 0) = true := by simp [hy]
    have ht : ((x : Int).tmod (y : Int)) = ((x % y : Nat) : Int) := rfl
    obtain ⟨z, hz⟩ : ∃ z, z = x % y := ⟨_, rfl⟩
    rw [← hz] at ht
    simp -dsimp [hy', hy3, hy2]
    refine wk_draw 5 [] mixed (by kernel_rfl) ?_
    simp -dsimp [hy', hy3, hy2, hy, ht]
    refine LoopP_next (k1, .fz, y, z) (le_of (by simp) (by simp)) ?_ ?_
    · simp only
      rw [← hg, hz, Nat.gcd_comm, ← Nat.gcd_rec, Nat.gcd_comm]
    · simp only
      rw [hz]
      exact Nat.mod_lt _ (by omega)
theorem plusR_spec (p q : Nat × Nat) (hp : 0 < p.2) (hq : 0 < q.2) (h1 : p.1 * q.2 + q.1 * p.2 < 2 ^ 62) (h2 : p.2 * q.2 < 2 ^ 62) : PCall Tryz.prog 43 [eFr p, eFr q] (.t .fz (eFr (frAdd p q))) [] := by
  obtain ⟨a, b⟩ := p
  obtain ⟨c, d⟩ := q
  dsimp only at hp hq h1 h2
  obtain ⟨n, hn⟩ : ∃ n, n = a * d + c * b := ⟨_, rfl⟩
  obtain ⟨m, hm⟩ : ∃ m, m = b * d := ⟨_, rfl⟩
  have hm0 : 0 < m := hm ▸ Nat.mul_pos hp hq
  have hg := gcdR_spec n m
  have hgp : 0 < Nat.gcd n m := Nat.gcd_pos_of_pos_right _ hm0
  have e : frAdd (a, b) (c, d) = (n / Nat.gcd n m, m / Nat.gcd n m) := by rw [frAdd, ← hn, ← hm]
  rw [← hn] at h1
  rw [← hm] at h2
  have e1 : (a : Int) * d = ((a * d : Nat) : Int) := (Int.natCast_mul _ _).symm
  have e2 : (c : Int) * b = ((c * b : Nat) : Int) := (Int.natCast_mul _ _).symm
  have e3 : (b : Int) * d = ((b * d : Nat) : Int) := (Int.natCast_mul _ _).symm
  rw [e]
  have w1 := wr (n := (a : Int) * d) (by rw [e1]; omega) (by rw [e1]; omega)
  have w2 := wr (n := (c : Int) * b) (by rw [e2]; omega) (by rw [e2]; omega)
  have w3 := wr (n := (b : Int) * d) (by rw [e3]; omega) (by rw [e3]; omega)
  have e4 : (a : Int) * d + (c : Int) * b = (n : Int) := by rw [e1, e2, hn, Int.natCast_add]
  have e5 : (b : Int) * d = (m : Int) := by rw [e3, hm]
  have w4 := wr (n := (n : Int)) (by omega) (by omega)
  have w5 := wr (n := (m : Int)) (by omega) (by omega)
  generalize Nat.gcd n m = g at *
  have d1 : (n : Int).tdiv (g : Int) = ((n / g : Nat) : Int) := rfl
  have d2 : (m : Int).tdiv (g : Int) = ((m / g : Nat) : Int) := rfl
  have l1 : n / g ≤ n := Nat.div_le_self _ _
  have l2 : m / g ≤ m := Nat.div_le_self _ _
  generalize n / g = n' at *
  generalize m / g = m' at *
  have w6 := wr (n := (n' : Int)) (by omega) (by omega)
  have w7 := wr (n := (m' : Int)) (by omega) (by omega)
  have hg0 : ¬ (g : Int) = 0 := by omega
  have hg1 : ¬ g = 0 := by omega
  refine pcall_wp _ Tryz.func43 rfl (by kernel_rfl) rfl ?_
  unfold eFr
  simp -dsimp
  refine wk_draw 17 [] mixed (by kernel_rfl) ?_
  simp -dsimp [w1, w2, w3, e4, e5, w4, w5]
  first
    | refine CallG.by (hg) ?_
    | refine CallGE.by (hg) ?_
    | refine CallGB.by (hg) ?_
  simp -dsimp
  refine wk_draw 6 [] mixed (by kernel_rfl) ?_
  simp -dsimp [hg0, hg1, d1, d2, w6, w7]
  refine retP_c ?_
  simp -dsimp
/-- A row as it has to be. -/
def rowV (n : Nat) (r : List (Int × Int)) : Bool := r.length == n && r.all okI
theorem validX_rows {n : Nat} {X : List (List (Int × Int))} (h : X.length = n) : validX n n X = X.all (rowV n) := by
  unfold validX rowV
  simp [h]
theorem all_at {α : Type} {p : α → Bool} {l : List α} {i : Nat} (h : i < l.length) (hf : p l[i] = false) : l.all p = false := by
  rw [Bool.eq_false_iff]
  intro ha
  rw [List.all_eq_true.1 ha _ (List.getElem_mem h)] at hf
  cases hf
theorem take_all {α : Type} {p : α → Bool} {l : List α} {i : Nat} (h : i < l.length) (ht : (l.take i).all p = true) (hp : p l[i] = true) : (l.take (i + 1)).all p = true := by
  rw [List.take_succ_eq_append_getElem h, List.all_append, ht, List.all_cons, hp]
  rfl
theorem okI_parts (n d : Int) : (okI (n, d) = false ↔ d < 1 ∨ 60 < d ∨ n < 0 ∨ d < n ∨ Nat.gcd n.toNat d.toNat ≠ 1) := by
  unfold okI
  simp only
  generalize Nat.gcd n.toNat d.toNat = g
  rw [← Bool.not_eq_true, Bool.and_eq_true, Bool.and_eq_true, Bool.and_eq_true, Bool.and_eq_true, decide_eq_true_iff, decide_eq_true_iff, decide_eq_true_iff, decide_eq_true_iff, beq_iff_eq]
  omega
theorem isFr_spec (a b : List Nat) (X : List (List (Int × Int))) (ha : Tow 6 a) (hb : Tow 6 b) : PCall Tryz.prog 14 [eNs a, eNs b, eFss X] (pB (chkX a b X)) [] := by
  refine pcall_sl 2 rfl call14 fun hXl => ?_
  simp only [List.length_map] at hXl
  have ha6 := ha.le
  have hb6 := hb.le
  have e0 : chkX a b X = (validX a.length b.length X && rightX a b X) := rfl
  refine pcall_wp _ Tryz.func14 rfl (by kernel_rfl) rfl ?_
  by_cases hab : b.length = a.length
  case neg =>
    have h1 : ((b.length : Int) != (a.length : Int)) = true := by
      rw [bne_iff_ne]
      omega
    have e1 : chkX a b X = false := by
      rw [e0, validX, beq_eq_false_iff_ne.2 (fun h => hab h.symm)]
      rfl
    simp -dsimp [h1]
    refine retP_c ?_
    simp -dsimp [e1]
  by_cases hXa : X.length = a.length
  case neg =>
    have h1 : ((X.length : Int) != (a.length : Int)) = true := by
      rw [bne_iff_ne]
      omega
    have e1 : chkX a b X = false := by
      rw [e0, validX, beq_eq_false_iff_ne.2 hXa, Bool.false_and, Bool.and_false]
      rfl
    have h2 : ((b.length : Int) != (a.length : Int)) = false := by simp [hab]
    simp -dsimp [h1, h2]
    refine retP_c ?_
    simp -dsimp [e1]
  have h1 : ((b.length : Int) != (a.length : Int)) = false := by simp [hab]
  have h2 : ((X.length : Int) != (a.length : Int)) = false := by simp [hXa]
  have e0' : chkX a b X = (X.all (rowV a.length) && rightX a b X) := by rw [e0, hab, validX_rows hXa]
  simp -dsimp [h1, h2]
  refine wk_loop (fun i : Nat => ⟨[(34, pI i), (33, pI X.length), (32, .t .ro (eFss X)), (7, pI a.length), (0, .t .ro (eNs a)), (1, .t .ro (eNs b)), (2, .t .ro (eFss X))], []⟩)
    (fun i => i ≤ X.length ∧ (X.take i).all (rowV a.length) = true) (fun i => X.length - i) 0
    (le_of (by simp) (by simp)) ⟨Nat.zero_le _, rfl⟩ fun i ⟨hi, hrow⟩ => ?_
  simp -dsimp
  refine condX_dec (fun hlt => ?_) (fun hge => ?_)
  · have hlt' : i < X.length := by omega
    have hw := wr (n := (i : Int) + 1) (by omega) (by omega)
    have hq := gX hlt'
    have hgd : X.getD i [] = X[i] := by simp [List.getD_eq_getElem?_getD, hlt']
    rw [hgd] at hq
    obtain ⟨r, hr⟩ : ∃ r, X[i] = r := ⟨_, rfl⟩
    have hno : rowV a.length X[i] = false → chkX a b X = false := fun h => by rw [e0', all_at hlt' h, Bool.false_and]
    have hyes := fun h => take_all (p := rowV a.length) hlt' hrow h
    rw [hr] at hno hyes hq
    have hi0 : (i : Int) < X.length := by omega
    by_cases hrl : r.length = a.length
    · have c1 : ((r.length : Int) != (a.length : Int)) = false := by simp [hrl]
      have hv : rowV a.length r = r.all okI := by rw [rowV, hrl]; simp
      rw [hv] at hno hyes
      simp -dsimp [hlt, hi0, hlt', hr, c1]
      refine wk_loop (fun j : Nat => ⟨[(44, pI j), (43, pI r.length), (42, .t .ro (.sl .any 2 (r.map cFr))), (34, pI i), (33, pI X.length), (32, .t .ro (eFss X)), (7, pI a.length), (0, .t .ro (eNs a)), (1, .t .ro (eNs b)), (2, .t .ro (eFss X))], []⟩)
        (fun j => j ≤ r.length ∧ (r.take j).all okI = true) (fun j => r.length - j) 0
        (le_of (by simp) (by simp)) ⟨Nat.zero_le _, rfl⟩ fun j ⟨hj, hcell⟩ => ?_
      simp -dsimp
      refine condX_dec (fun hjl => ?_) (fun hjg => ?_)
      · have hjl' : j < r.length := by omega
        have hj0 : (j : Int) < r.length := by omega
        have hw2 := wr (n := (j : Int) + 1) (by omega) (by omega)
        have hq2 := gF hjl'
        have hgd2 : r.getD j (0, 0) = r[j] := by simp [List.getD_eq_getElem?_getD, hjl']
        obtain ⟨q, hq0⟩ : ∃ q, r[j] = q := ⟨_, rfl⟩
        have hno2 : okI r[j] = false → chkX a b X = false := fun h => hno (all_at hjl' h)
        have hyes2 := fun h => take_all (p := okI) hjl' hcell h
        rw [hq0] at hno2 hyes2
        obtain ⟨n, d⟩ := q
        have hp := okI_parts n d
        by_cases g1 : d < 1
        · have := hno2 (hp.2 (.inl g1))
          simp -dsimp [hj0, hjl', hq0, g1]
          refine retP_c ?_
          simp -dsimp [this]
        by_cases g2 : 60 < d
        · have := hno2 (hp.2 (.inr (.inl g2)))
          simp -dsimp [hj0, hjl', hq0, g1, g2]
          refine retP_c ?_
          simp -dsimp [this]
        by_cases g3 : n < 0
        · have := hno2 (hp.2 (.inr (.inr (.inl g3))))
          simp -dsimp [hj0, hjl', hq0, g1, g2, g3]
          refine retP_c ?_
          simp -dsimp [this]
        by_cases g4 : d < n
        · have := hno2 (hp.2 (.inr (.inr (.inr (.inl g4)))))
          simp -dsimp [hj0, hjl', hq0, g1, g2, g3, g4]
          refine retP_c ?_
          simp -dsimp [this]
        obtain ⟨n, rfl⟩ : ∃ m : Nat, n = m := ⟨n.toNat, by omega⟩
        obtain ⟨d, rfl⟩ : ∃ m : Nat, d = m := ⟨d.toNat, by omega⟩
        rw [Int.toNat_natCast, Int.toNat_natCast] at hp
        have hgc := gcdR_spec n d
        have g1' : ¬ d < 1 := by omega
        have g2' : ¬ 60 < d := by omega
        have g4' : ¬ d < n := by omega
        by_cases g5 : Nat.gcd n d = 1
        · rw [g5] at hgc
          have hok : okI ((n : Int), (d : Int)) = true := by
            rw [← Bool.not_eq_false, hp]
            omega
          have hy2 := hyes2 hok
          simp -dsimp [hj0, hjl', hq0, g1, g2, g3, g4, g1', g2', g4']
          first
            | refine CallG.by (hgc) ?_
            | refine CallGE.by (hgc) ?_
            | refine CallGB.by (hgc) ?_
          simp -dsimp [hw2]
          refine LoopP_next (j + 1) (le_of (by simp) (by simp)) ⟨hjl', hy2⟩ (by omega)
        · have := hno2 (hp.2 (.inr (.inr (.inr (.inr g5)))))
          have g6 : ((Nat.gcd n d : Nat) : Int) ≠ 1 := by omega
          generalize Nat.gcd n d = k at *
          have g7 : ((k : Int) != 1) = true := by
            rw [bne_iff_ne]
            exact g6
          simp -dsimp [hj0, hjl', hq0, g1, g2, g3, g4, g1', g2', g4']
          first
            | refine CallG.by (hgc) ?_
            | refine CallGE.by (hgc) ?_
            | refine CallGB.by (hgc) ?_
          simp -dsimp [g7]
          refine retP_c ?_
          simp -dsimp [this]
      · have : j = r.length := by omega
        rw [this, List.take_length] at hcell
        have hy := hyes hcell
        simp -dsimp [hw]
        refine LoopP_next (i + 1) (le_of (by simp) (by simp)) ⟨hlt', hy⟩ (by omega)
    · have c1 : ((r.length : Int) != (a.length : Int)) = true := by
        rw [bne_iff_ne]
        omega
      have := hno (by rw [rowV, beq_eq_false_iff_ne.2 hrl]; rfl)
      simp -dsimp [hlt, hi0, hlt', hr, c1]
      refine retP_c ?_
      simp -dsimp [this]
  · have : i = X.length := by omega
    rw [this, List.take_length] at hrow
    have hval : validX a.length a.length X = true := by rw [validX_rows hXa, hrow]
    have e2 : chkX a b X = (List.range a.length).all (rowOk a b X) := by rw [e0', hrow, Bool.true_and, right_rows]
    have hn6 := ha6
    have hbl : b.length = a.length := hab
    have done : ∀ {i : Nat}, i < a.length → rowOk a b X i = false → chkX a b X = false := fun hi h => by rw [e2]; exact all_stop hi h
    have hin : ∀ {s k : Nat}, s < 2 ^ a.length → k ∈ ndN s → k < a.length := fun {s k} hs hk => by
      rw [← nd_filter (by omega) hs] at hk
      exact List.mem_range.1 (List.mem_filter.1 hk).1
    have h64 : 2 ^ a.length ≤ 2 ^ 6 := Nat.pow_le_pow_right (by decide) hn6
    simp -dsimp
    refine wk_loop (fun i : Nat => ⟨[(80, pI i), (79, pI a.length), (12, .ptr 12 0), (7, pI a.length), (0, .t .ro (eNs a)), (1, .t .ro (eNs b)), (2, .t .ro (eFss X))], [(12, .blk 75 [pI 1, pI 1])]⟩)
      (fun i => i ≤ a.length ∧ (List.range i).all (rowOk a b X) = true) (fun i => a.length - i) 0
      (le_of (by simp) (by simp)) ⟨Nat.zero_le _, rfl⟩ fun i ⟨hi, hrows⟩ => ?_
    simp -dsimp
    refine condX_dec (fun hil => ?_) (fun hig => ?_)
    · have hil' : i < a.length := by omega
      have hwi := wr (n := (i : Int) + 1) (by omega) (by omega)
      have hrw : rowOk a b X i = (sumAll (fun k => elM X i k) a.length == (1, 1) && (sumAll (fun k => elM X k i) a.length == (1, 1) && (List.range b.length).all (cellOk a b X i))) := by
        rw [sumAll_end (by omega), sumAll_end (by omega)]
        rfl
      have hC1 := gX (X := X) (i := i) (by omega)
      have sa : a.getD i 0 < 2 ^ a.length := ha.get i
      have qa := iL_at (l := a) (i := i) hil'
      have qa' : ∀ hh : i < (iL a).length, (iL a)[i]'hh = ((a.getD i 0 : Nat) : Int) := fun hh => by
        rw [List.getElem?_eq_getElem hh] at qa
        exact Option.some.inj qa
      simp -dsimp
      refine wk_loop (fun q : Nat × (Nat × Nat) × (Nat × Nat) => ⟨[(86, pI q.1), (85, pI a.length), (14, .ptr 14 0), (15, .ptr 15 0), (13, pI i), (80, pI i), (79, pI a.length), (12, .ptr 12 0), (7, pI a.length), (0, .t .ro (eNs a)), (1, .t .ro (eNs b)), (2, .t .ro (eFss X))],
          [(14, .blk 75 [pI q.2.1.1, pI q.2.1.2]), (15, .blk 75 [pI q.2.2.1, pI q.2.2.2]), (12, .blk 75 [pI 1, pI 1])]⟩)
        (fun q => q.1 ≤ a.length ∧ q.2.1 = sumAll (fun k => elM X i k) q.1 ∧ q.2.2 = sumAll (fun k => elM X k i) q.1 ∧ (List.range q.1).all (cellOk a b X i) = true) (fun q => a.length - q.1) (0, (0, 1), (0, 1))
        (le_of (by simp) (by simp)) ⟨Nat.zero_le _, rfl, rfl, rfl⟩ fun ⟨j, p, q⟩ ⟨hj, hp, hq, hcells⟩ => ?_
      dsimp only at hj hp hq hcells
      simp -dsimp
      refine condX_dec (fun hjl => ?_) (fun hjg => ?_)
      · have hjl' : j < a.length := by omega
        have hwj := wr (n := (j : Int) + 1) (by omega) (by omega)
        have hC2 := gX (X := X) (i := j) (by omega)
        have hR1 := gE hval hil' hjl'
        have hR2 := gE hval hjl' hil'
        have sb : b.getD j 0 < 2 ^ a.length := hbl ▸ hb.get j
        have qb := iL_at (l := b) (i := j) (by omega)
        have qb' : ∀ hh : j < (iL b).length, (iL b)[j]'hh = ((b.getD j 0 : Nat) : Int) := fun hh => by
          rw [List.getElem?_eq_getElem hh] at qb
          exact Option.some.inj qb
        have B1 : FrB j p := hp ▸ sumAll_B _ j fun k hk => valid_ok hval hil' (by omega)
        have B2 : FrB j q := hq ▸ sumAll_B _ j fun k hk => valid_ok hval (by omega) hil'
        have o1 := valid_ok hval hil' hjl'
        have o2 := valid_ok hval hjl' hil'
        have pl1 := plus_ok B1 (by omega) o1
        have pl2 := plus_ok B2 (by omega) o2
        have P1 := plusR_spec p (elM X i j) B1.pos o1.pos pl1.1 pl1.2
        have P2 := plusR_spec q (elM X j i) B2.pos o2.pos pl2.1 pl2.2
        have N1 : frAdd p (elM X i j) = sumAll (fun k => elM X i k) (j + 1) := by rw [sumAll_next, ← hp]
        have N2 : frAdd q (elM X j i) = sumAll (fun k => elM X k i) (j + 1) := by rw [sumAll_next, ← hq]
        have hce : cellOk a b X i j = (sumTo (a.getD i 0) (fun k => elM X k j) a.length == sumTo (b.getD j 0) (fun k => elM X i k) a.length) := by
          rw [sumTo_end (by omega) sa, sumTo_end (by omega) sb]
          rfl
        generalize frAdd p (elM X i j) = p' at *
        generalize frAdd q (elM X j i) = q' at *
        have i1 : (i : Int) < X.length := by omega
        have i2 : (j : Int) < X.length := by omega
        have i3 : i < X.length := by omega
        have i4 : j < X.length := by omega
        have l1 := (List.getElem?_eq_some_iff.1 hR1).1
        have l2 := (List.getElem?_eq_some_iff.1 hR2).1
        simp only [List.length_map] at l1 l2
        have l1' : (j : Int) < (X.getD i []).length := by omega
        have l2' : (i : Int) < (X.getD j []).length := by omega
        unfold eFr at P1 P2
        have d1 : X.getD i [] = X[i] := by simp [List.getD_eq_getElem?_getD, i3]
        have d2 : X.getD j [] = X[j] := by simp [List.getD_eq_getElem?_getD, i4]
        rw [d1] at hC1 hR1 l1 l1'
        rw [d2] at hC2 hR2 l2 l2'
        obtain ⟨Ri, hRi⟩ : ∃ r, X[i] = r := ⟨_, rfl⟩
        obtain ⟨Rj, hRj⟩ : ∃ r, X[j] = r := ⟨_, rfl⟩
        rw [hRi] at hC1 hR1 l1 l1'
        rw [hRj] at hC2 hR2 l2 l2'
        have m1 : Ri[j].1 = ((elM X i j).1 : Int) ∧ Ri[j].2 = ((elM X i j).2 : Int) := by
          rw [List.getElem?_map, List.getElem?_eq_getElem l1] at hR1
          simpa using hR1
        have m2 : Rj[i].1 = ((elM X j i).1 : Int) ∧ Rj[i].2 = ((elM X j i).2 : Int) := by
          rw [List.getElem?_map, List.getElem?_eq_getElem l2] at hR2
          simpa using hR2
        simp -dsimp
        refine wk_draw 17 [] mixed (by kernel_rfl) ?_
        simp -dsimp [i1, i2, i3, i4, hRi, hRj, m1.1, m1.2, m2.1, m2.2, l1, l2, l1', l2']
        first
          | refine CallG.by (P1) ?_
          | refine CallGE.by (P1) ?_
          | refine CallGB.by (P1) ?_
        simp -dsimp [i1, i2, i3, i4, hRi, hRj, m1.1, m1.2, m2.1, m2.2, l1, l2, l1', l2']
        first
          | refine CallG.by (P2) ?_
          | refine CallGE.by (P2) ?_
          | refine CallGB.by (P2) ?_
        simp -dsimp
        have BU : ∀ k, k ≤ a.length → FrB k (sumTo (a.getD i 0) (fun k => elM X k j) k) := fun k hk => sumTo_B _ _ k fun k' hk' => valid_ok hval (by omega) hjl'
        have BV : ∀ k, k ≤ a.length → FrB k (sumTo (b.getD j 0) (fun k => elM X i k) k) := fun k hk => sumTo_B _ _ k fun k' hk' => valid_ok hval hil' (by omega)
        have SU := fun k => sumTo_next (a.getD i 0) (fun k => elM X k j) k
        have SV := fun k => sumTo_next (b.getD j 0) (fun k => elM X i k) k
        have sx64 : a.getD i 0 < 64 := by omega
        have sy64 : b.getD j 0 < 64 := by omega
        have hU0 : sumTo (a.getD i 0) (fun k => elM X k j) 0 = (0, 1) := rfl
        have hV0 : sumTo (b.getD j 0) (fun k => elM X i k) 0 = (0, 1) := rfl
        generalize a.getD i 0 = x at *
        generalize b.getD j 0 = y at *
        obtain ⟨U, hU⟩ : ∃ U, U = sumTo x (fun k => elM X k j) := ⟨_, rfl⟩
        obtain ⟨V, hV⟩ : ∃ V, V = sumTo y (fun k => elM X i k) := ⟨_, rfl⟩
        rw [← hU] at hce BU SU hU0
        rw [← hV] at hce BV SV hV0
        clear hU hV
        have ij1 : (i : Int) < a.length := by omega
        have ij2 : (j : Int) < b.length := by omega
        have ij3 : j < b.length := by omega
        refine wk_loop (fun q : Nat × (Nat × Nat) × (Nat × Nat) => ⟨[(110, pI q.1), (109, pI a.length), (17, .ptr 17 0), (18, .ptr 18 0), (16, pI j), (86, pI j), (85, pI a.length), (14, .ptr 14 0), (15, .ptr 15 0), (13, pI i), (80, pI i), (79, pI a.length), (12, .ptr 12 0), (7, pI a.length), (0, .t .ro (eNs a)), (1, .t .ro (eNs b)), (2, .t .ro (eFss X))],
            [(17, .blk 75 [pI q.2.1.1, pI q.2.1.2]), (18, .blk 75 [pI q.2.2.1, pI q.2.2.2]), (14, .blk 75 [pI p'.1, pI p'.2]), (15, .blk 75 [pI q'.1, pI q'.2]), (12, .blk 75 [pI 1, pI 1])]⟩)
          (fun q => q.1 ≤ a.length ∧ q.2.1 = U q.1 ∧ q.2.2 = V q.1) (fun q => a.length - q.1) (0, (0, 1), (0, 1))
          (le_of (by simp) (by simp)) ⟨Nat.zero_le _, hU0.symm, hV0.symm⟩ fun ⟨k, u, v⟩ ⟨hk, hu, hv⟩ => ?_
        dsimp only at hk hu hv
        simp -dsimp
        refine condX_dec (fun hkl => ?_) (fun hkg => ?_)
        · have hkl' : k < a.length := by omega
          have hwk := wr (n := (k : Int) + 1) (by omega) (by omega)
          have b1 := and1_bit x k (by omega) (by omega)
          have b2 := and1_bit y k (by omega) (by omega)
          have Bu := BU k hk
          have Bv := BV k hk
          rw [← hu] at Bu
          rw [← hv] at Bv
          have o3 := valid_ok hval hkl' hjl'
          have o4 := valid_ok hval hil' hkl'
          have pl3 := plus_ok Bu (by omega) o3
          have pl4 := plus_ok Bv (by omega) o4
          have P3 := plusR_spec u (elM X k j) Bu.pos o3.pos pl3.1 pl3.2
          have P4 := plusR_spec v (elM X i k) Bv.pos o4.pos pl4.1 pl4.2
          have hU1 := SU k
          have hV1 := SV k
          rw [← hu] at hU1
          rw [← hv] at hV1
          generalize frAdd u (elM X k j) = u' at *
          generalize frAdd v (elM X i k) = v' at *
          have i5 : (k : Int) < X.length := by omega
          have i6 : k < X.length := by omega
          have hC3 := gX (X := X) (i := k) i6
          have hR3 := gE hval hkl' hjl'
          have hR4 := gE hval hil' hkl'
          have l3 := (List.getElem?_eq_some_iff.1 hR3).1
          have l4 := (List.getElem?_eq_some_iff.1 hR4).1
          simp only [List.length_map] at l3 l4
          have d3 : X.getD k [] = X[k] := by simp [List.getD_eq_getElem?_getD, i6]
          rw [d3] at hC3 hR3 l3
          rw [d1, hRi] at hR4 l4
          obtain ⟨Rk, hRk⟩ : ∃ r, X[k] = r := ⟨_, rfl⟩
          rw [hRk] at hC3 hR3 l3
          have l3' : (j : Int) < Rk.length := by omega
          have l4' : (k : Int) < Ri.length := by omega
          have m3 : Rk[j].1 = ((elM X k j).1 : Int) ∧ Rk[j].2 = ((elM X k j).2 : Int) := by
            rw [List.getElem?_map, List.getElem?_eq_getElem l3] at hR3
            simpa using hR3
          have m4 : Ri[k].1 = ((elM X i k).1 : Int) ∧ Ri[k].2 = ((elM X i k).2 : Int) := by
            rw [List.getElem?_map, List.getElem?_eq_getElem l4] at hR4
            simpa using hR4
          unfold eFr at P3 P4
          cases t1 : x.testBit k
          · rw [t1] at hU1 b1
            simp only [Bool.false_eq_true, if_false] at hU1 b1
            simp -dsimp [ij1, hil', qa', b1]
            cases t2 : y.testBit k
            · rw [t2] at hV1 b2
              simp only [Bool.false_eq_true, if_false] at hV1 b2
              simp -dsimp [ij2, ij3, qb', b2, hwk]
              refine LoopP_next (k + 1, u, v) (le_of (by simp) (by simp)) ⟨hkl', hU1.symm, hV1.symm⟩ (by simp only; omega)
            · rw [t2] at hV1 b2
              simp only [if_true] at hV1 b2
              simp -dsimp [ij2, ij3, qb', b2]
              refine wk_draw 8 [] mixed (by kernel_rfl) ?_
              simp -dsimp [i1, i3, i5, i6, hRi, hRk, m4.1, m4.2, l4, l4']
              first
                | refine CallG.by (P4) ?_
                | refine CallGE.by (P4) ?_
                | refine CallGB.by (P4) ?_
              simp -dsimp [hwk]
              refine LoopP_next (k + 1, u, v') (le_of (by simp) (by simp)) ⟨hkl', hU1.symm, hV1.symm⟩ (by simp only; omega)
          · rw [t1] at hU1 b1
            simp only [if_true] at hU1 b1
            simp -dsimp [ij1, hil', qa', b1]
            refine wk_draw 8 [] mixed (by kernel_rfl) ?_
            simp -dsimp [i1, i3, i5, i6, hRi, hRk, m3.1, m3.2, l3, l3']
            first
              | refine CallG.by (P3) ?_
              | refine CallGE.by (P3) ?_
              | refine CallGB.by (P3) ?_
            cases t2 : y.testBit k
            · rw [t2] at hV1 b2
              simp only [Bool.false_eq_true, if_false] at hV1 b2
              simp -dsimp [ij2, ij3, qb', b2, hwk]
              refine LoopP_next (k + 1, u', v) (le_of (by simp) (by simp)) ⟨hkl', hU1.symm, hV1.symm⟩ (by simp only; omega)
            · rw [t2] at hV1 b2
              simp only [if_true] at hV1 b2
              simp -dsimp [ij2, ij3, qb', b2]
              refine wk_draw 8 [] mixed (by kernel_rfl) ?_
              simp -dsimp [i1, i3, i5, i6, hRi, hRk, m4.1, m4.2, l4, l4']
              first
                | refine CallG.by (P4) ?_
                | refine CallGE.by (P4) ?_
                | refine CallGB.by (P4) ?_
              simp -dsimp [hwk]
              refine LoopP_next (k + 1, u', v') (le_of (by simp) (by simp)) ⟨hkl', hU1.symm, hV1.symm⟩ (by simp only; omega)
        · have hke : k = a.length := by omega
          rw [hke] at hu hv
          rw [← hu, ← hv, fr_eq] at hce
          simp -dsimp
          refine condX_of (fun hd => ?_) (fun hd => ?_)
          · rw [← Bool.not_and, Bool.not_eq_true'] at hd
            have e := done hil' (by rw [hrw, all_stop (n := b.length) (i := j) (by omega) (by rw [hce, hd]), Bool.and_false, Bool.and_false])
            simp -dsimp
            refine retP_c ?_
            simp -dsimp [e]
          · rw [← Bool.not_and, Bool.not_eq_false'] at hd
            simp -dsimp [hwj]
            refine LoopP_next (j + 1, p', q') (le_of (by simp) (by simp)) ⟨hjl', N1, N2, all_next hcells (by rw [hce, hd])⟩ (by simp only; omega)
      · have hje : j = a.length := by omega
        rw [hje] at hp hq hcells
        rw [← hp, ← hq, hbl, hcells, Bool.and_true, fr_eq p, fr_eq q] at hrw
        replace hrw : rowOk a b X i = ((((p.1 : Int) == 1) && ((p.2 : Int) == 1)) && (((q.1 : Int) == 1) && ((q.2 : Int) == 1))) := hrw
        by_cases hc : (((p.1 : Int) == 1) && ((p.2 : Int) == 1)) = true
        · have hp1 : p = (1, 1) := by
            simp only [Bool.and_eq_true, beq_iff_eq] at hc
            exact Prod.ext (by show p.1 = 1; omega) (by show p.2 = 1; omega)
          subst hp1
          by_cases hd : (((q.1 : Int) == 1) && ((q.2 : Int) == 1)) = true
          · have hq1 : q = (1, 1) := by
              simp only [Bool.and_eq_true, beq_iff_eq] at hd
              exact Prod.ext (by show q.1 = 1; omega) (by show q.2 = 1; omega)
            subst hq1
            simp -dsimp [hwi]
            refine LoopP_next (i + 1) (le_of (by simp) (by simp)) ⟨hil', all_next hrows (by rw [hrw]; rfl)⟩ (by omega)
          · rw [Bool.not_eq_true] at hd
            have e := done hil' (by rw [hrw, hd, Bool.and_false])
            have hn : (!((q.1 : Int) == 1) || !((q.2 : Int) == 1)) = true := by rw [← Bool.not_and, hd]; rfl
            simp -dsimp [hn]
            refine retP_c ?_
            simp -dsimp [e]
        · rw [Bool.not_eq_true] at hc
          have e := done hil' (by rw [hrw, hc, Bool.false_and])
          have hn : (!((p.1 : Int) == 1) || !((p.2 : Int) == 1)) = true := by rw [← Bool.not_and, hc]; rfl
          simp -dsimp [hn]
          refine retP_c ?_
          simp -dsimp [e]
    · have : i = a.length := by omega
      rw [this] at hrows
      rw [hrows] at e2
      simp -dsimp
      refine retP_c ?_
      simp -dsimp [e2]
end Go.Proofs.YtnikonhkbldnnaaGreatDoor
