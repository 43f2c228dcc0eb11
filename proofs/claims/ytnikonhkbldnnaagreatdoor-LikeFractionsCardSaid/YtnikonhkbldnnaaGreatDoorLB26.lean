import Derived.Test.YtnikonhkbldnnaaGreatDoorLB25
/- LB26: right, CheckFraction. -/
set_option linter.unusedVariables false
set_option linter.unusedSimpArgs false
set_option maxRecDepth 20000
namespace Go.Proofs.YtnikonhkbldnnaaGreatDoor
open Go Go.PS
attribute [-simp] isKeyK List.map_take
def cellOk (A B : List Nat) (X : List (List (Int × Int))) (i j : Nat) : Bool := frSum ((ndN (A.getD i 0)).map fun k => elM X k j) == frSum ((ndN (B.getD j 0)).map fun k => elM X i k)
def rowOk (A B : List Nat) (X : List (List (Int × Int))) (i : Nat) : Bool :=
  frSum ((ndN (2 ^ A.length - 1)).map fun k => elM X i k) == (1, 1) && (frSum ((ndN (2 ^ A.length - 1)).map fun k => elM X k i) == (1, 1) && (List.range B.length).all (cellOk A B X i))
theorem right_rows (A B : List Nat) (X : List (List (Int × Int))) : rightX A B X = (List.range A.length).all (rowOk A B X) := rfl
theorem all_stop {P : Nat → Bool} {n i : Nat} (h : i < n) (hf : P i = false) : (List.range n).all P = false := by
  rw [Bool.eq_false_iff]
  intro hc
  rw [List.all_eq_true.1 hc i (List.mem_range.2 h)] at hf
  cases hf
theorem all_next {P : Nat → Bool} {i : Nat} (h : (List.range i).all P = true) (hf : P i = true) : (List.range (i + 1)).all P = true := by
  rw [List.range_succ, List.all_append, h]
  simp [hf]
theorem fr_eq (p q : Nat × Nat) : (p == q) = (((p.1 : Int) == (q.1 : Int)) && ((p.2 : Int) == (q.2 : Int))) := by
  rw [Bool.eq_iff_iff, Bool.and_eq_true, beq_iff_eq, beq_iff_eq, beq_iff_eq, Prod.ext_iff]
  omega
theorem right_spec (a b : List Nat) (X : List (List (Int × Int))) (ha : Tow 6 a) (hb : Tow 6 b) (h : validX a.length b.length X = true) :
    PCall Tryz.prog 39 [.agg [eNs a, eNs b, eFss X]] (pB (rightX a b X)) [] := by
  rw [right_rows]
  obtain ⟨hl, hXl, _⟩ := valid_parts h
  have hn6 := ha.le
  obtain ⟨F, hF⟩ : ∃ F, F = 2 ^ a.length - 1 := ⟨_, rfl⟩
  have hp2 := Nat.two_pow_pos a.length
  have h64 : 2 ^ a.length ≤ 2 ^ 6 := Nat.pow_le_pow_right (by decide) hn6
  have hF1 : F + 1 = 2 ^ a.length := by omega
  obtain ⟨G, hG⟩ : ∃ G : Int, G = (F : Int) + 1 := ⟨_, rfl⟩
  have hsh : shlI 1 a.length = G := by
    rw [shl1 _ (by omega), ← hF1, hG]
    rfl
  have hG1 : G - 1 = (F : Int) := by omega
  have hw := wr (n := (F : Int)) (by omega) (by omega)
  have hin : ∀ {s k : Nat}, s < 2 ^ a.length → k ∈ ndN s → k < a.length := fun {s k} hs hk => by
    rw [← nd_filter (by omega) hs] at hk
    exact List.mem_range.1 (List.mem_filter.1 hk).1
  refine pcall_wp _ Tryz.func39 rfl (by kernel_rfl) rfl ?_
  simp -dsimp [hsh, hG1, hw]
  refine wk_loop (fun i : Nat => ⟨[(15, pI i), (14, pI a.length), (3, pI F), (1, .ptr 1 0)], [(1, .blk 77 [.t .ro (eNs a), .t .ro (eNs b), .t .ro (eFss X)])]⟩)
    (fun i => i ≤ a.length ∧ (List.range i).all (rowOk a b X) = true) (fun i => a.length - i) 0
    (le_of (by simp) (by simp)) ⟨Nat.zero_le _, rfl⟩ fun i ⟨hi, hrow⟩ => ?_
  simp -dsimp
  refine condX_dec (fun hlt => ?_) (fun hge => ?_)
  · have hlt' : i < a.length := by omega
    have hs1 := sum_spec F a.length hn6 (by omega) 76 [.rp [eNs a, eNs b, eFss X] 0, .rp [eI i] 0] (fun k => elM X i k) (fun k hk => valid_ok h hlt' (by have := hin (s := F) (by omega) hk; omega)) (fun k hk => el1_spec a b X h i k hlt' (by have := hin (s := F) (by omega) hk; omega))
    have hs2 := sum_spec F a.length hn6 (by omega) 78 [.rp [eNs a, eNs b, eFss X] 0, .rp [eI i] 0] (fun k => elM X k i) (fun k hk => valid_ok h (hin (s := F) (by omega) hk) (by omega)) (fun k hk => el2_spec a b X h i k (by omega) (hin (s := F) (by omega) hk))
    have hrw : rowOk a b X i = (frSum ((ndN F).map fun k => elM X i k) == (1, 1) && (frSum ((ndN F).map fun k => elM X k i) == (1, 1) && (List.range b.length).all (cellOk a b X i))) := by rw [hF]; rfl
    have hw1 := wr (n := (i : Int) + 1) (by omega) (by omega)
    generalize frSum ((ndN F).map fun k => elM X i k) = p at *
    generalize frSum ((ndN F).map fun k => elM X k i) = q at *
    rw [fr_eq p, fr_eq q] at hrw
    replace hrw : rowOk a b X i = ((((p.1 : Int) == 1) && ((p.2 : Int) == 1)) && ((((q.1 : Int) == 1) && ((q.2 : Int) == 1)) && (List.range b.length).all (cellOk a b X i))) := hrw
    unfold eFr at hs1 hs2
    simp -dsimp [hlt]
    refine wk_draw 10 [] mixed (by kernel_rfl) ?_
    simp -dsimp
    first
      | refine CallG.by (hs1) ?_
      | refine CallGE.by (hs1) ?_
      | refine CallGB.by (hs1) ?_
    simp -dsimp
    have done : rowOk a b X i = false → (List.range a.length).all (rowOk a b X) = false := fun e => all_stop hlt' e
    refine condX_of (fun hc => ?_) (fun hc => ?_)
    · have hp : p = (1, 1) := by
        simp only [Bool.and_eq_true, beq_iff_eq] at hc
        exact Prod.ext (by show p.1 = 1; omega) (by show p.2 = 1; omega)
      subst hp
      simp -dsimp
      first
        | refine CallG.by (hs2) ?_
        | refine CallGE.by (hs2) ?_
        | refine CallGB.by (hs2) ?_
      simp -dsimp
      refine condX_of (fun hd => ?_) (fun hd => ?_)
      · rw [← Bool.not_and, Bool.not_eq_true'] at hd
        have e := done (by rw [hrw, hd, Bool.false_and, Bool.and_false])
        simp -dsimp
        refine retP_c ?_
        simp -dsimp [e]
      · rw [← Bool.not_and, Bool.not_eq_false'] at hd
        have hq : q = (1, 1) := by
          simp only [Bool.and_eq_true, beq_iff_eq] at hd
          exact Prod.ext (by show q.1 = 1; omega) (by show q.2 = 1; omega)
        subst hq
        replace hrw : rowOk a b X i = (List.range b.length).all (cellOk a b X i) := by rw [hrw]; rfl
        have hbl : b.length = a.length := by omega
        simp -dsimp
        refine wk_loop (fun j : Nat => ⟨[(34, pI j), (33, pI b.length), (5, .clo 76 [.ptr 1 0, .ptr 4 0]), (4, .ptr 4 0), (15, pI i), (14, pI a.length), (3, pI F), (1, .ptr 1 0)],
            [(4, .blk 3 [pI i]), (1, .blk 77 [.t .ro (eNs a), .t .ro (eNs b), .t .ro (eFss X)])]⟩)
          (fun j => j ≤ b.length ∧ (List.range j).all (cellOk a b X i) = true) (fun j => b.length - j) 0
          (le_of (by simp) (by simp)) ⟨Nat.zero_le _, rfl⟩ fun j ⟨hj, hcell⟩ => ?_
        simp -dsimp
        refine condX_dec (fun hjl => ?_) (fun hjg => ?_)
        · have hjl' : j < b.length := by omega
          have sa : a.getD i 0 < 2 ^ a.length := ha.get i
          have sb : b.getD j 0 < 2 ^ a.length := hbl ▸ hb.get j
          have hs3 := sum_spec (a.getD i 0) a.length hn6 sa 79 [.rp [eNs a, eNs b, eFss X] 0, .rp [eI j] 0] (fun k => elM X k j) (fun k hk => valid_ok h (hin sa hk) (by omega)) (fun k hk => el3_spec a b X h j k hjl' (hin sa hk))
          have hs4 := sum_spec (b.getD j 0) a.length hn6 sb 76 [.rp [eNs a, eNs b, eFss X] 0, .rp [eI i] 0] (fun k => elM X i k) (fun k hk => valid_ok h hlt' (by have := hin sb hk; omega)) (fun k hk => el1_spec a b X h i k hlt' (by have := hin sb hk; omega))
          have hce : cellOk a b X i j = (frSum ((ndN (a.getD i 0)).map fun k => elM X k j) == frSum ((ndN (b.getD j 0)).map fun k => elM X i k)) := rfl
          have hw2 := wr (n := (j : Int) + 1) (by omega) (by omega)
          generalize frSum ((ndN (a.getD i 0)).map fun k => elM X k j) = u at *
          generalize frSum ((ndN (b.getD j 0)).map fun k => elM X i k) = v at *
          rw [fr_eq u v] at hce
          have qa := iL_at (l := a) (i := i) hlt'
          have qa' : ∀ hh : i < (iL a).length, (iL a)[i]'hh = ((a.getD i 0 : Nat) : Int) := fun hh => by
            rw [List.getElem?_eq_getElem hh] at qa
            exact Option.some.inj qa
          have qb := iL_at (l := b) (i := j) hjl'
          have qb' : ∀ hh : j < (iL b).length, (iL b)[j]'hh = ((b.getD j 0 : Nat) : Int) := fun hh => by
            rw [List.getElem?_eq_getElem hh] at qb
            exact Option.some.inj qb
          generalize a.getD i 0 = x at *
          generalize b.getD j 0 = y at *
          unfold eFr at hs3 hs4
          simp -dsimp [hjl]
          refine wk_draw 13 [] mixed (by kernel_rfl) ?_
          simp -dsimp [hlt, hlt', hjl, hjl', qa, qa', qb, qb']
          first
            | refine CallG.by (hs3) ?_
            | refine CallGE.by (hs3) ?_
            | refine CallGB.by (hs3) ?_
          simp -dsimp [hlt, hlt', hjl, hjl', qa, qa', qb, qb']
          first
            | refine CallG.by (hs4) ?_
            | refine CallGE.by (hs4) ?_
            | refine CallGB.by (hs4) ?_
          simp -dsimp
          refine condX_of (fun hd => ?_) (fun hd => ?_)
          · rw [← Bool.not_and, Bool.not_eq_true'] at hd
            have e := done (by rw [hrw]; exact all_stop hjl' (by rw [hce, hd]))
            simp -dsimp
            refine retP_c ?_
            simp -dsimp [e]
          · rw [← Bool.not_and, Bool.not_eq_false'] at hd
            simp -dsimp [hw2]
            exact LoopP_next (j + 1) (le_of (by simp) (by simp)) ⟨hjl', all_next hcell (by rw [hce, hd])⟩ (by omega)
        · have : j = b.length := by omega
          rw [this] at hcell
          simp -dsimp [hw1]
          exact LoopP_next (i + 1) (le_of (by simp) (by simp)) ⟨hlt', all_next hrow (by rw [hrw]; exact hcell)⟩ (by omega)
    · have hn : (!((p.1 : Int) == 1) || !((p.2 : Int) == 1)) = true := by rw [← Bool.not_and, hc]; rfl
      have e := done (by rw [hrw, hc, Bool.false_and])
      simp -dsimp [hn]
      refine retP_c ?_
      simp -dsimp [e]
  · have : i = a.length := by omega
    rw [this] at hrow
    simp -dsimp
    refine retP_c ?_
    simp -dsimp [hrow]
end Go.Proofs.YtnikonhkbldnnaaGreatDoor
