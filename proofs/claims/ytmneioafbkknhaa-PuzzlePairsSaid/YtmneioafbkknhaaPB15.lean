import Derived.Test.YtmneioafbkknhaaPB14
import Derived.Test.YtmneioafbkknhaaPSC
/- PB15: the law of Blamed, walked. -/
set_option linter.unusedVariables false
set_option linter.unusedSimpArgs false
set_option maxRecDepth 20000
namespace Go.Proofs.Ytmneioafbkknhaa
open Go Go.PS
attribute [-simp] List.map_take
/-- The Cons of a set, but one. -/
def subL (b : Nat) (k : Int) : List Cn → Nat → List Cn
  | [], _ => []
  | c :: cs, i => if bitI b i && decide ((i : Int) ≠ k) then c :: subL b k cs (i + 1) else subL b k cs (i + 1)
theorem subL_append (b : Nat) (k : Int) (l2 : List Cn) : ∀ (l1 : List Cn) (i : Nat), subL b k (l1 ++ l2) i = subL b k l1 i ++ subL b k l2 (i + l1.length)
  | [], i => rfl
  | c :: l1, i => by
    have e : i + (l1.length + 1) = i + 1 + l1.length := by omega
    simp only [List.cons_append, subL, List.length_cons, subL_append b k l2 l1 (i + 1), e]
    split <;> rfl
theorem subL_take (b : Nat) (k : Int) (l : List Cn) (i : Nat) (h : i < l.length) : subL b k (l.take (i + 1)) 0 = subL b k (l.take i) 0 ++ if bitI b i && decide ((i : Int) ≠ k) then [l[i]] else [] := by
  rw [List.take_add_one, subL_append, List.getElem?_eq_getElem h]
  congr 1
  simp only [Option.toList, subL, Nat.zero_add, List.length_take]
  rw [Nat.min_eq_left (by omega)]
theorem subL_len (b : Nat) (k : Int) : ∀ (l : List Cn) (i : Nat), (subL b k l i).length ≤ l.length
  | [], _ => Nat.le_refl _
  | c :: l, i => by
    have := subL_len b k l (i + 1)
    rw [subL]
    split <;> simp <;> omega
def subP (p : Pz) (b : Nat) (k : Int) : Pz := ⟨p.vars, p.rels, subL b k p.cons 0⟩
theorem bitI_nat (b k : Nat) (hb : b < 4096) (hk : k ≤ 64) : bitI (b : Int) k = b.testBit k := by
  rw [bitI, and1 b (by omega) k hk]
  cases b.testBit k <;> rfl
theorem solve_bad {p : Pz} (h : goodP p = false) : solveF p = .tup [eI 0, eI 2] := by
  rw [solveF, h]; rfl
theorem blamed_spec (p : Pz) (hL : goodP p = goodP (trimP p))
    (hN : goodP p = true → blameO p = none → ∃ s, solveF p = .tup [eI s, eI 0])
    (hS : goodP p = true → ∀ b, blameO p = some b → solveF p = .tup [eI 0, eI 4] ∧ 1 ≤ b ∧ b < 2 ^ p.cons.length ∧ (∃ s, solveF (subP p b (-1)) = .tup [eI s, eI 4]) ∧
      ∀ k : Nat, k < p.cons.length → bitI b k = true → ∃ s, solveF (subP p b k) = .tup [eI s, eI 0]) : PCall Try.prog 4 [ePz p] (pB true) [] := by
  refine pcall_wp _ Try.func4 rfl (by kernel_rfl) rfl ?_
  simp -dsimp
  first
    | refine CallG.by (of_spec p) ?_
    | refine CallGE.by (of_spec p) ?_
    | refine CallGB.by (of_spec p) ?_
  simp -dsimp
  first
    | refine CallG.by (pblame_spec (trimP p)) ?_
    | refine CallGE.by (pblame_spec (trimP p)) ?_
    | refine CallGB.by (pblame_spec (trimP p)) ?_
  cases hv : goodP p with
  | false =>
    have hv' : goodP (trimP p) = false := by rw [← hL, hv]
    have hF : blameF (trimP p) = .tup [eI 0, eI 2] := by
      rw [blameF, hv']
      rfl
    rw [hF]
    simp -dsimp
    first
      | refine CallG.by (of_spec p) ?_
      | refine CallGE.by (of_spec p) ?_
      | refine CallGB.by (of_spec p) ?_
    simp -dsimp
    first
      | refine CallG.by (psolve_spec (trimP p)) ?_
      | refine CallGE.by (psolve_spec (trimP p)) ?_
      | refine CallGB.by (psolve_spec (trimP p)) ?_
    rw [solve_bad hv']
    simp -dsimp
    first
      | refine CallG.by (awake_spec) ?_
      | refine CallGE.by (awake_spec) ?_
      | refine CallGB.by (awake_spec) ?_
    simp -dsimp
    refine retP_c ?_
    simp -dsimp
  | true =>
    have ht := trim_of hv
    rw [ht]
    have hF : blameF p = blameR (blameO p) := by rw [blameF, hv]; rfl
    rw [hF]
    cases hb : blameO p with
    | none =>
      obtain ⟨s, hs⟩ := hN hv hb
      simp only [blameR]
      simp -dsimp
      first
        | refine CallG.by (of_spec p) ?_
        | refine CallGE.by (of_spec p) ?_
        | refine CallGB.by (of_spec p) ?_
      simp -dsimp
      first
        | refine CallG.by (psolve_spec (trimP p)) ?_
        | refine CallGE.by (psolve_spec (trimP p)) ?_
        | refine CallGB.by (psolve_spec (trimP p)) ?_
      rw [ht, hs]
      simp -dsimp
      first
        | refine CallG.by (awake_spec) ?_
        | refine CallGE.by (awake_spec) ?_
        | refine CallGB.by (awake_spec) ?_
      simp -dsimp
      refine retP_c ?_
      simp -dsimp
    | some b =>
      obtain ⟨hs, h1, h2, h3, h4⟩ := hS hv b hb
      simp only [blameR]
      simp -dsimp
      first
        | refine CallG.by (of_spec p) ?_
        | refine CallGE.by (of_spec p) ?_
        | refine CallGB.by (of_spec p) ?_
      simp -dsimp
      first
        | refine CallG.by (psolve_spec (trimP p)) ?_
        | refine CallGE.by (psolve_spec (trimP p)) ?_
        | refine CallGB.by (psolve_spec (trimP p)) ?_
      rw [ht, hs]
      simp -dsimp
      have g4 : p.cons.length ≤ 12 := by
        simp only [goodP, Bool.and_eq_true, decide_eq_true_eq] at hv
        exact hv.1.1.2
      have hsh := shl1 p.cons.length (by omega)
      have hNb : 2 ^ p.cons.length ≤ 2 ^ 12 := Nat.pow_le_pow_right (by decide) (by omega)
      generalize 2 ^ p.cons.length = N at hsh hNb h2
      have e1 : ¬ (b : Int) < 1 := by omega
      have e2 : ¬ (N : Int) ≤ b := by omega
      refine condX_of (fun h => ?_) (fun h => ?_)
      rotate_left
      · simp at h
        omega
      simp -dsimp [e1, hsh, e2]
      refine wk_loop (fun κ : Nat => ⟨[(7, pI ((κ : Int) - 1)), (3, pI b), (1, .ptr 1 0)], [(1, .blk 25 [.t .ro (eI p.vars), .t .ro (eRls p.rels), .t .ro (eCns p.cons)])]⟩)
        (fun κ => κ ≤ p.cons.length + 1) (fun κ => p.cons.length + 1 - κ) 0 (le_of (by simp) (by simp)) (by omega) fun κ hκ => ?_
      have hw := wr (n := (κ : Int)) (by omega) (by omega)
      simp -dsimp
      refine condX_dec (fun c => ?_) (fun c => ?_)
      rotate_left
      · simp -dsimp
        first
          | refine CallG.by (awake_spec) ?_
          | refine CallGE.by (awake_spec) ?_
          | refine CallGB.by (awake_spec) ?_
        simp -dsimp
        refine retP_c ?_
        simp -dsimp
      simp -dsimp
      refine condX_dec (fun c1 => ?_) (fun c1 => ?_)
      · obtain ⟨k, rfl⟩ : ∃ k, κ = k + 1 := ⟨κ - 1, by omega⟩
        have hkm : k < p.cons.length := by omega
        have hand := and1 b (by omega) k (by omega)
        have hbit := bitI_nat b k (by omega) (by omega)
        have c1' : (1 : Int) ≤ (k : Int) + 1 := by omega
        have hwk := wr (n := (k : Int)) (by omega) (by omega)
        have hwk1 := wr (n := (k : Int) + 1) (by omega) (by omega)
        simp -dsimp [c1', hand, hwk, hwk1]
        have hc2 : (k : Int) + 2 - 1 = (k : Int) + 1 := by omega
        cases htb : b.testBit k with
        | false =>
          simp -dsimp [hwk1]
          refine LoopP_next (k + 2) (le_of (by simp [hc2]) (by simp)) (by omega) (by omega)
        | true =>
          simp -dsimp
          first
            | refine CallG.by (of_spec p) ?_
            | refine CallGE.by (of_spec p) ?_
            | refine CallGB.by (of_spec p) ?_
          rw [ht]
          simp -dsimp
          first
            | refine CallG.by (of_spec p) ?_
            | refine CallGE.by (of_spec p) ?_
            | refine CallGB.by (of_spec p) ?_
          rw [ht]
          simp -dsimp
          refine lg_adoptM 8 2 120 39 2 rfl rfl (by simp) (by simp) ?_
          refine wk_loop (fun q : Nat × Kind => ⟨[(81, pI q.1), (80, pI p.cons.length), (79, .t .ro (eCns p.cons)), (7, pI (k : Int)), (3, pI b), (1, .ptr 1 0), (8, .ptr 8 0)], [(8, .blk 32 [.t .ro (eI p.vars), .t .ro (eRls p.rels), .osl 120]), (120, .row 39 2 q.2 ((subL b (k : Int) (p.cons.take q.1) 0).map cCn)), (1, .blk 25 [.t .ro (eI p.vars), .t .ro (eRls p.rels), .t .ro (eCns p.cons)])]⟩)
            (fun q => q.1 ≤ p.cons.length) (fun q => p.cons.length - q.1) (0, .fz) (le_of (by simp) (by simp [subL])) (by simp) fun ⟨i, kd⟩ hi => ?_
          dsimp only at hi
          simp -dsimp
          refine condX_dec (fun d1 => ?_) (fun d1 => ?_)
          · have hwi := wr (n := (i : Int) + 1) (by omega) (by omega)
            have hai := and1 b (by omega) i (by omega)
            have hbi := bitI_nat b i (by omega) (by omega)
            have hst := subL_take b (k : Int) p.cons i d1
            have hlen := subL_len b (k : Int) (p.cons.take i) 0
            have hbd : ((subL b (k : Int) (p.cons.take i) 0).length + 1) * 32 ≤ 140737488355328 := by
              rw [List.length_take] at hlen
              omega
            rw [hbi] at hst
            simp -dsimp [d1, hai]
            cases htb : b.testBit i with
            | false =>
              rw [htb] at hst
              simp -dsimp [hwi]
              refine LoopP_next (i + 1, kd) (le_of (by simp) (by simp [hst])) d1 (by simp only; omega)
            | true =>
              rw [htb] at hst
              simp -dsimp
              refine condX_of (fun d2 => ?_) (fun d2 => ?_)
              · have d2' : (i : Int) ≠ (k : Int) := by simpa using d2
                simp -dsimp [d2, hbd, hwi]
                refine LoopP_next (i + 1, .ro) (le_of (by simp) (by cases kd <;> simp [hst, d2'])) d1 (by simp only; omega)
              · have d2' : ¬ (i : Int) ≠ (k : Int) := by simpa using d2
                simp -dsimp [d2, hwi]
                refine LoopP_next (i + 1, kd) (le_of (by simp) (by simp [hst, d2'])) d1 (by simp only; omega)
          have ei : i = p.cons.length := by omega
          subst ei
          rw [List.take_length]
          simp -dsimp
          obtain ⟨s', hs'⟩ := h4 k hkm (by rw [hbit, htb])
          have hq := psolve_spec (subP p b k)
          rw [hs'] at hq
          first
            | refine CallG.by (hq) ?_
            | refine CallGE.by (hq) ?_
            | refine CallGB.by (hq) ?_
          simp -dsimp [hwk1]
          refine LoopP_next (k + 2) (le_of (by simp [hc2]) (by simp)) (by omega) (by omega)
      · have e0 : κ = 0 := by omega
        subst e0
        simp -dsimp [c1]
        first
          | refine CallG.by (of_spec p) ?_
          | refine CallGE.by (of_spec p) ?_
          | refine CallGB.by (of_spec p) ?_
        rw [ht]
        simp -dsimp
        first
          | refine CallG.by (of_spec p) ?_
          | refine CallGE.by (of_spec p) ?_
          | refine CallGB.by (of_spec p) ?_
        rw [ht]
        simp -dsimp
        refine lg_adoptM 8 2 120 39 2 rfl rfl (by simp) (by simp) ?_
        refine wk_loop (fun q : Nat × Kind => ⟨[(81, pI q.1), (80, pI p.cons.length), (79, .t .ro (eCns p.cons)), (7, pI (-1)), (3, pI b), (1, .ptr 1 0), (8, .ptr 8 0)], [(8, .blk 32 [.t .ro (eI p.vars), .t .ro (eRls p.rels), .osl 120]), (120, .row 39 2 q.2 ((subL b (-1) (p.cons.take q.1) 0).map cCn)), (1, .blk 25 [.t .ro (eI p.vars), .t .ro (eRls p.rels), .t .ro (eCns p.cons)])]⟩)
          (fun q => q.1 ≤ p.cons.length) (fun q => p.cons.length - q.1) (0, .fz) (le_of (by simp) (by simp [subL])) (by simp) fun ⟨i, kd⟩ hi => ?_
        dsimp only at hi
        simp -dsimp
        refine condX_dec (fun d1 => ?_) (fun d1 => ?_)
        · have hwi := wr (n := (i : Int) + 1) (by omega) (by omega)
          have hai := and1 b (by omega) i (by omega)
          have hbi := bitI_nat b i (by omega) (by omega)
          have hst := subL_take b (-1) p.cons i d1
          have hlen := subL_len b (-1) (p.cons.take i) 0
          have hbd : ((subL b (-1) (p.cons.take i) 0).length + 1) * 32 ≤ 140737488355328 := by
            rw [List.length_take] at hlen
            omega
          rw [hbi] at hst
          simp -dsimp [d1, hai]
          cases htb : b.testBit i with
          | false =>
            rw [htb] at hst
            simp -dsimp [hwi]
            refine LoopP_next (i + 1, kd) (le_of (by simp) (by simp [hst])) d1 (by simp only; omega)
          | true =>
            rw [htb] at hst
            simp -dsimp
            refine condX_of (fun d2 => ?_) (fun d2 => ?_)
            · have d2' : (i : Int) ≠ -1 := by omega
              simp -dsimp [d2, hbd, hwi]
              refine LoopP_next (i + 1, .ro) (le_of (by simp) (by cases kd <;> simp [hst, d2'])) d1 (by simp only; omega)
            · simp at d2
        have ei : i = p.cons.length := by omega
        subst ei
        rw [List.take_length]
        simp -dsimp
        obtain ⟨s', hs'⟩ := h3
        have hq := psolve_spec (subP p b (-1))
        rw [hs'] at hq
        first
          | refine CallG.by (hq) ?_
          | refine CallGE.by (hq) ?_
          | refine CallGB.by (hq) ?_
        simp -dsimp
        refine LoopP_next 1 (le_of (by simp [wr (n := 0) (by omega) (by omega)]) (by simp)) (by omega) (by omega)
end Go.Proofs.Ytmneioafbkknhaa
