import Derived.Test.YtmneioafbkknhaaPB11
/- PB12: Blame of the reference. -/
set_option linter.unusedVariables false
set_option linter.unusedSimpArgs false
set_option maxRecDepth 20000
namespace Go.Proofs.Ytmneioafbkknhaa
open Go Go.PS
theorem pop_le (n : Nat) : pop n ≤ 12 := by
  unfold pop
  exact Nat.le_trans (List.length_filter_le _ _) (by simp)
def rstep (p : Pz) (q : Nat × Nat) (set : Nat) : Nat × Nat := if decide (q.2 ≤ pop set) || !dead p set then q else (set, pop set)
def rfold (p : Pz) (n : Nat) : Nat × Nat := (List.range n).foldl (rstep p) (0, 99)
theorem rfold_succ (p : Pz) (n : Nat) : rfold p (n + 1) = rstep p (rfold p n) n := by
  simp [rfold, List.range_succ, List.foldl_append]
def rblameF (p : Pz) : TL := if (rfold p (2 ^ p.cons.length)).2 = 99 then .tup [eI 0, eI 4] else .tup [eI (rfold p (2 ^ p.cons.length)).1, eI 0]
theorem dead_any (p : Pz) (set : Nat) : (!dead p set) = (List.range (2 ^ p.vars.toNat)).any (fun s => solvF p set s p.cons 0) := by
  simp only [dead, solsF]
  rw [Bool.eq_iff_iff]
  simp [List.isEmpty_iff, List.filter_eq_nil_iff]
theorem rblame_spec (p : Pz) (hv : goodP p = true) : PCall Try.prog 22 [ePz p] (.t .fz (rblameF p)) [] := by
  have hg := hv
  simp only [goodP, Bool.and_eq_true, decide_eq_true_eq] at hg
  obtain ⟨⟨⟨⟨⟨g1, g2⟩, g3⟩, g4⟩, g5⟩, g6⟩ := hg
  have hok := okC_of g6
  have hs := shl1 p.cons.length (by omega)
  have hN : 2 ^ p.cons.length ≤ 2 ^ 12 := Nat.pow_le_pow_right (by decide) (by omega)
  have hN0 : 0 < 2 ^ p.cons.length := Nat.pow_pos (by decide)
  have hs' := shl1 p.vars.toNat (by omega)
  have hN' : 2 ^ p.vars.toNat ≤ 2 ^ 8 := Nat.pow_le_pow_right (by decide) (by omega)
  have hF : rblameF p = if (rfold p (2 ^ p.cons.length)).2 = 99 then .tup [eI 0, eI 4] else .tup [eI (rfold p (2 ^ p.cons.length)).1, eI 0] := rfl
  have hd : ∀ set, (!dead p set) = (List.range (2 ^ p.vars.toNat)).any (fun s => solvF p set s p.cons 0) := dead_any p
  generalize 2 ^ p.cons.length = N at hs hN hN0 hF
  generalize 2 ^ p.vars.toNat = N' at hs' hN' hd
  have hm : IntKind.i64.wrap (maskI p.cons.length + 1) = N := by
    rw [maskI, hs, wr (n := (N : Int) - 1) (by omega) (by omega), wr (by omega) (by omega)]
    omega
  refine pcall_wp _ Try.func22 rfl (by kernel_rfl) rfl ?_
  simp -dsimp
  first
    | refine CallG.by (all_spec p) ?_
    | refine CallGE.by (all_spec p) ?_
    | refine CallGB.by (all_spec p) ?_
  simp -dsimp [hm]
  refine wk_loop (fun i : Nat => ⟨[(14, pI i), (13, pI N), (4, pI (rfold p i).1), (5, pI (rfold p i).2), (1, .ptr 1 0)], [(1, .blk 25 [.t .ro (eI p.vars), .t .ro (eRls p.rels), .t .ro (eCns p.cons)])]⟩)
    (fun i => i ≤ N ∧ (rfold p i).1 ≤ 4096 ∧ (rfold p i).2 ≤ 99) (fun i => N - i) 0
    (le_of (by simp [rfold]) (by simp)) ⟨by omega, by simp [rfold], by simp [rfold]⟩ fun i ⟨hi, hb1, hb2⟩ => ?_
  simp -dsimp
  refine condX_dec (fun h => ?_) (fun h => ?_)
  rotate_left
  · have e : i = N := by omega
    subst e
    simp -dsimp
    refine condX_of (fun c => ?_) (fun c => ?_)
    · have c' : (rfold p i).2 = 99 := by
        simp at c
        omega
      rw [if_pos c'] at hF
      simp -dsimp [c]
      refine retP_c ?_
      simp -dsimp [hF]
    · have c' : ¬ (rfold p i).2 = 99 := by
        simp at c
        omega
      rw [if_neg c'] at hF
      simp -dsimp [c]
      refine retP_c ?_
      simp -dsimp [hF]
  have hw := wr (n := (i : Int) + 1) (by omega) (by omega)
  simp -dsimp
  refine wk_loop (fun q : Nat × Nat => ⟨[(7, pI q.1), (8, pI q.2), (6, pI i), (14, pI i), (13, pI N), (4, pI (rfold p i).1), (5, pI (rfold p i).2), (1, .ptr 1 0)], [(1, .blk 25 [.t .ro (eI p.vars), .t .ro (eRls p.rels), .t .ro (eCns p.cons)])]⟩)
    (fun q => q.2 < 4096 ∧ q.1 + pop q.2 = pop i) (fun q => q.2) (0, i)
    (le_of (by simp) (by simp)) ⟨by simp only; omega, by simp only; omega⟩ fun ⟨n, x⟩ ⟨hx, hn⟩ => ?_
  dsimp only at hx hn
  simp -dsimp
  refine condX_dec (fun c => ?_) (fun c => ?_)
  · have hpi := pop_le i
    obtain ⟨y, hy, hxy, hpy⟩ := pop_stepE x hx (by omega)
    have hwx := wr (n := (x : Int) - 1) (by omega) (by omega)
    have hwn := wr (n := (n : Int) + 1) (by omega) (by omega)
    simp -dsimp [hwx, hxy, hwn]
    exact LoopP_next (n + 1, y) (le_of (by simp) (by simp)) ⟨by simp only; omega, by simp only; omega⟩ hy
  have hx0 : x = 0 := by omega
  subst hx0
  have hn' : n = pop i := by
    have : pop 0 = 0 := by decide
    omega
  subst hn'
  have g0 : 0 ≤ p.vars := by omega
  simp -dsimp [g0, hs']
  refine wk_loop (fun q : Nat × Bool => ⟨[(32, pI q.1), (31, pI N'), (9, pB q.2), (7, pI (pop i)), (6, pI i), (14, pI i), (13, pI N), (4, pI (rfold p i).1), (5, pI (rfold p i).2), (1, .ptr 1 0)], [(1, .blk 25 [.t .ro (eI p.vars), .t .ro (eRls p.rels), .t .ro (eCns p.cons)])]⟩)
    (fun q => q.1 ≤ N' ∧ q.2 = (decide ((rfold p i).2 ≤ pop i) || (List.range q.1).any (fun s => solvF p i s p.cons 0))) (fun q => N' - q.1) (0, decide ((rfold p i).2 ≤ pop i))
    (le_of (by simp) (by simp)) ⟨by simp only; omega, by simp⟩ fun ⟨s, b⟩ ⟨hsN, hb⟩ => ?_
  dsimp only at hsN hb
  simp -dsimp
  refine condX_dec (fun c1 => ?_) (fun c1 => ?_)
  rotate_left
  · have e : s = N' := by omega
    subst e
    rw [← hd i] at hb
    have hst : rfold p (i + 1) = if b then rfold p i else (i, pop i) := by rw [rfold_succ, rstep, ← hb]
    simp -dsimp
    refine condX_of (fun c2 => ?_) (fun c2 => ?_)
    · simp only [Bool.not_eq_true'] at c2
      rw [c2] at hst
      have hpi := pop_le i
      simp -dsimp [hw]
      refine LoopP_next (i + 1) (le_of (by simp [hst]) (by simp)) ⟨h, ?_⟩ (by omega)
      rw [hst]
      simp
      omega
    · simp only [Bool.not_eq_false'] at c2
      rw [c2] at hst
      simp -dsimp [hw]
      refine LoopP_next (i + 1) (le_of (by simp [hst]) (by simp)) ⟨h, ?_⟩ (by omega)
      rw [hst]
      exact ⟨hb1, hb2⟩
  have hws := wr (n := (s : Int) + 1) (by omega) (by omega)
  have hnext : (decide ((rfold p i).2 ≤ pop i) || (List.range (s + 1)).any (fun s => solvF p i s p.cons 0)) = (b || solvF p i s p.cons 0) := by
    rw [hb, List.range_succ, List.any_append, Bool.or_assoc]
    simp
  simp -dsimp
  refine condX_of (fun c2 => ?_) (fun c2 => ?_)
  · simp only [Bool.not_eq_true'] at c2
    subst c2
    simp -dsimp
    first
      | refine CallG.by (rsolves_spec p i s hok g0) ?_
      | refine CallGE.by (rsolves_spec p i s hok g0) ?_
      | refine CallGB.by (rsolves_spec p i s hok g0) ?_
    simp -dsimp [hws, hs', c1]
    refine LoopP_next (s + 1, _) (le_of (by simp; rfl) (by simp)) ⟨c1, ?_⟩ (by simp only; omega)
    dsimp only
    rw [hnext]
    simp
  · simp only [Bool.not_eq_false'] at c2
    subst c2
    simp -dsimp [hws]
    refine LoopP_next (s + 1, _) (le_of (by simp; rfl) (by simp)) ⟨c1, ?_⟩ (by simp only; omega)
    dsimp only
    rw [hnext]
    simp
end Go.Proofs.Ytmneioafbkknhaa
