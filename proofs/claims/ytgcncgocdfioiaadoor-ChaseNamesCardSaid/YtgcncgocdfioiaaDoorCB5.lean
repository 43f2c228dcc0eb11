import Derived.Test.YtgcncgocdfioiaaDoorCB4
import Derived.Test.YtgcncgocdfioiaaDoorCS2
/- CB5: teams and steps. -/
set_option linter.unusedVariables false
set_option linter.unusedSimpArgs false
set_option maxRecDepth 20000
namespace Go.Proofs.YtgcncgocdfioiaaDoor
open Go Go.PS
/-- Pairs in order. -/
def prs (n : Nat) (f : Nat → Nat → Bool) : List Pr := (List.range n).flatMap fun a => ((List.range n).filter (f a)).map fun b => (a, b)
def prsTo (n : Nat) (f : Nat → Nat → Bool) (a b : Nat) : List Pr := ((List.range a).flatMap fun a => ((List.range n).filter (f a)).map fun b => (a, b)) ++ ((List.range b).filter (f a)).map fun b => (a, b)
theorem prsTo_succ (n : Nat) (f : Nat → Nat → Bool) (a b : Nat) : prsTo n f a (b + 1) = prsTo n f a b ++ if f a b then [(a, b)] else [] := by
  simp only [prsTo, List.range_succ, List.filter_append, List.map_append, List.append_assoc]
  congr 2
  cases h : f a b <;> simp [h]
theorem prsTo_row (n : Nat) (f : Nat → Nat → Bool) (a : Nat) (b : Nat) (hb : ∀ i, i < b → f (a + 1) i = false) : prsTo n f (a + 1) b = prsTo n f a n := by
  have : (List.range b).filter (f (a + 1)) = [] := by
    rw [List.filter_eq_nil_iff]
    intro i hi
    rw [hb i (List.mem_range.1 hi)]
    simp
  simp [prsTo, this, List.range_succ]
theorem prsTo_zero (n : Nat) (f : Nat → Nat → Bool) : prsTo n f 0 0 = [] := rfl
theorem prsTo_all (n : Nat) (f : Nat → Nat → Bool) : prsTo n f n 0 = prs n f := by simp [prsTo, prs]
theorem prs_mem {n : Nat} {f : Nat → Nat → Bool} {p : Pr} : p ∈ prs n f ↔ p.1 < n ∧ p.2 < n ∧ f p.1 p.2 = true := by
  obtain ⟨a, b⟩ := p
  simp only [prs, List.mem_flatMap, List.mem_map, List.mem_filter, List.mem_range, Prod.mk.injEq]
  constructor
  · rintro ⟨a', h1, b', ⟨h2, h3⟩, rfl, rfl⟩
    exact ⟨h1, h2, h3⟩
  · rintro ⟨h1, h2, h3⟩
    exact ⟨a, h1, b, ⟨h2, h3⟩, rfl, rfl⟩
theorem prsTo_len (n : Nat) (f : Nat → Nat → Bool) (a b : Nat) : (prsTo n f a b).length ≤ a * n + b := by
  simp only [prsTo, List.length_append, List.length_map, List.length_flatMap]
  have h1 : ((List.range b).filter (f a)).length ≤ b := Nat.le_trans (List.length_filter_le _ _) (by simp)
  have h2 : ∀ k, ((List.range k).map fun a => ((List.range n).filter (f a)).length).sum ≤ k * n := fun k => by
    induction k with
    | zero => simp
    | succ k ih =>
      rw [List.range_succ, List.map_append, List.sum_append]
      have : ((List.range n).filter (f k)).length ≤ n := Nat.le_trans (List.length_filter_le _ _) (by simp)
      simp only [List.map_cons, List.map_nil, List.sum_cons, List.sum_nil]
      rw [Nat.add_mul]
      omega
  have := h2 a
  omega
@[simp] def ePrs (l : List Pr) : TL := .sl .any 2 (l.map cPr)
/-- The game, in memory. -/
@[simp] def eC (t : List Nat) (k : Int) (R : TL) : TL := .rp [eNs t, eI k, R] 0
def tmF (two : Bool) (a b : Nat) : Bool := decide (a ≤ b) && (two || a == b)
def teamsL (n : Nat) (two : Bool) : List Pr := prs n (tmF two)
theorem teams_spec (t : List Nat) (ht : Twn t) (k : Int) (R : TL) : PCall Tryd.prog 58 [eC t k R] (.t .fz (ePrs (teamsL t.length (k == 2)))) [] := by
  have h8 := ht.2.1
  refine pcall_wp _ Tryd.func58 rfl (by kernel_rfl) rfl ?_
  simp -dsimp
  refine lg_adoptT 3 3 30 2 (by simp; rfl) (by simp) ?_
  refine wk_loop (fun i : Nat => ⟨[(11, pI i), (10, pI t.length), (3, .osl 3), (0, .t .ro (eC t k R))], [(3, .row 30 2 .fz ((prsTo t.length (tmF (k == 2)) i 0).map cPr))]⟩)
    (fun i => i ≤ t.length) (fun i => t.length - i) 0
    (le_of (by simp) (by simp [prsTo])) (by simp) fun i hi => ?_
  simp -dsimp
  refine condX_dec (fun h => ?_) (fun h => ?_)
  · have hw := wr (n := (i : Int) + 1) (by omega) (by omega)
    simp -dsimp
    have h0 : prsTo t.length (tmF (k == 2)) i 0 = prsTo t.length (tmF (k == 2)) i i := by
      have : (List.range i).filter (tmF (k == 2) i) = [] := by
        rw [List.filter_eq_nil_iff]
        intro b hb
        have := List.mem_range.1 hb
        simp [tmF]
        omega
      simp [prsTo, this]
    rw [h0]
    refine wk_loop (fun b : Nat => ⟨[(4, pI i), (5, pI b), (11, pI i), (10, pI t.length), (3, .osl 3), (0, .t .ro (eC t k R))], [(3, .row 30 2 .fz ((prsTo t.length (tmF (k == 2)) i b).map cPr))]⟩)
      (fun b => i ≤ b ∧ b ≤ t.length) (fun b => t.length - b) i
      (le_of (by simp) (by simp)) ⟨by omega, hi⟩ fun b ⟨hb0, hb⟩ => ?_
    simp -dsimp
    refine condX_dec (fun h' => ?_) (fun h' => ?_)
    · have hwb := wr (n := (b : Int) + 1) (by omega) (by omega)
      have hS := prsTo_succ t.length (tmF (k == 2)) i b
      have hlen := prsTo_len t.length (tmF (k == 2)) i b
      have hm : i * t.length ≤ 8 * 8 := Nat.mul_le_mul (by omega) h8
      have hbd : ((prsTo t.length (tmF (k == 2)) i b).length + 1) * 16 ≤ 140737488355328 := by omega
      have hT : tmF (k == 2) i b = ((k == 2) || ((i : Int) == (b : Int))) := by
        have : (i == b) = ((i : Int) == (b : Int)) := by rw [Bool.eq_iff_iff]; simp; omega
        simp [tmF, hb0, this]
      cases c2 : (k == 2)
      · cases c3 : ((i : Int) == (b : Int))
        · rw [c2, c3] at hT
          rw [c2, hT] at hS
          simp -dsimp [c2, c3]
          refine LoopP_next (b + 1) (le_of (by simp [hwb]) (by simp [c2, hS])) ⟨by omega, by omega⟩ (by omega)
        · rw [c2, c3] at hT
          rw [c2, hT] at hS
          rw [c2] at hbd
          simp -dsimp [c2, c3, hbd]
          refine LoopP_next (b + 1) (le_of (by simp [hwb]) (by simp [c2, hS])) ⟨by omega, by omega⟩ (by omega)
      · rw [c2] at hT
        rw [c2, hT] at hS
        rw [c2] at hbd
        simp -dsimp [c2, hbd]
        refine LoopP_next (b + 1) (le_of (by simp [hwb]) (by simp [c2, hS])) ⟨by omega, by omega⟩ (by omega)
    · have hb' : b = t.length := by omega
      have hR := prsTo_row t.length (tmF (k == 2)) i 0 (fun _ h => by omega)
      subst hb'
      simp -dsimp
      refine LoopP_next (i + 1) (le_of (by simp [hw]) (by simp [hR])) (by omega) (by omega)
  · have hi' : i = t.length := by omega
    have hA := prsTo_all t.length (tmF (k == 2))
    subst hi'
    simp -dsimp
    rw [teamsL, ← hA]
    refine retP_c ?_
    simp -dsimp
end Go.Proofs.YtgcncgocdfioiaaDoor
