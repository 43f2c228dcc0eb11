import Derived.Test.YtmneioafbkknhaaPB4
/- PB5: searches with a function; least and most. -/
set_option linter.unusedVariables false
set_option linter.unusedSimpArgs false
set_option maxRecDepth 20000
namespace Go.Proofs.Ytmneioafbkknhaa
open Go Go.PS
def idxP {α : Type} (g : α → Bool) : List α → Nat → Int
  | [], _ => -1
  | x :: xs, i => if g x then i else idxP g xs (i + 1)
theorem idxP_drop {α : Type} (g : α → Bool) (xs : List α) (k : Nat) (h : k < xs.length) : idxP g (xs.drop k) k = if g xs[k] then (k : Int) else idxP g (xs.drop (k + 1)) (k + 1) := by
  rw [List.drop_eq_getElem_cons h]
  simp [idxP]
theorem idxP_any {α : Type} (g : α → Bool) (xs : List α) (k : Nat) : decide (0 ≤ idxP g xs k) = xs.any g := by
  induction xs generalizing k with
  | nil => simp [idxP]
  | cons x xs ih =>
    simp only [idxP]
    by_cases h : g x = true
    · simp [h]
    · simp [h, ih]

theorem idxRl_spec (l : List Rl) (f : Nat) (caps : List TL) (g : Rl → Bool) (hf : ∀ r ∈ l, PCall Try.prog f (eRl r :: caps) (pB (g r)) []) : PCall Try.prog 121 [eRls l, .clo f caps] (pI (idxP g l 0)) [] := by
  refine pcall_sl 0 rfl call121 fun hlen => ?_
  simp only [List.length_map] at hlen
  refine pcall_wp _ Try.func121 rfl (by kernel_rfl) rfl ?_
  simp -dsimp
  refine wk_loop (fun i : Nat => ⟨[(8, pI i), (7, pI l.length), (0, .t .ro (eRls l)), (1, .t .ro (.clo f caps))], []⟩) (fun i => i ≤ l.length ∧ idxP g l 0 = idxP g (l.drop i) i) (fun i => l.length - i) 0
    (le_of (by simp) (by simp)) (by simp) fun i ⟨hi, hidx⟩ => ?_
  simp -dsimp
  refine condX_dec (fun h => ?_) (fun h => ?_)
  · have hs := idxP_drop g l i h
    have hw := wr (n := (i : Int) + 1) (by omega) (by omega)
    simp -dsimp [h]
    first
      | refine CallG.by (hf _ (List.getElem_mem h)) ?_
      | refine CallGE.by (hf _ (List.getElem_mem h)) ?_
      | refine CallGB.by (hf _ (List.getElem_mem h)) ?_
    simp -dsimp [h]
    refine condX_of (fun hc => ?_) (fun hc => ?_)
    · simp -dsimp
      refine retP_c ?_
      simp -dsimp
      rw [hidx, hs, if_pos hc]
    · simp -dsimp [hw]
      refine LoopP_next (i + 1) (le_of (by simp) (by simp)) ⟨h, ?_⟩ (by omega)
      rw [hidx, hs, if_neg (by simp [hc])]
  · have : i = l.length := by omega
    simp -dsimp
    refine retP_c ?_
    simp -dsimp [hidx, this, idxP]

theorem anyRl_spec (l : List Rl) (f : Nat) (caps : List TL) (g : Rl → Bool) (hf : ∀ r ∈ l, PCall Try.prog f (eRl r :: caps) (pB (g r)) []) : PCall Try.prog 94 [eRls l, .clo f caps] (pB (l.any g)) [] := by
  refine pcall_wp _ Try.func94 rfl (by kernel_rfl) rfl ?_
  simp -dsimp
  first
    | refine CallG.by (idxRl_spec l f caps g hf) ?_
    | refine CallGE.by (idxRl_spec l f caps g hf) ?_
    | refine CallGB.by (idxRl_spec l f caps g hf) ?_
  simp -dsimp [idxP_any]
  refine retP_c ?_
  simp -dsimp

theorem idxCn_spec (l : List Cn) (f : Nat) (caps : List TL) (g : Cn → Bool) (hf : ∀ r ∈ l, PCall Try.prog f (eCn r :: caps) (pB (g r)) []) : PCall Try.prog 100 [eCns l, .clo f caps] (pI (idxP g l 0)) [] := by
  refine pcall_sl 0 rfl call100 fun hlen => ?_
  simp only [List.length_map] at hlen
  refine pcall_wp _ Try.func100 rfl (by kernel_rfl) rfl ?_
  simp -dsimp
  refine wk_loop (fun i : Nat => ⟨[(8, pI i), (7, pI l.length), (0, .t .ro (eCns l)), (1, .t .ro (.clo f caps))], []⟩) (fun i => i ≤ l.length ∧ idxP g l 0 = idxP g (l.drop i) i) (fun i => l.length - i) 0
    (le_of (by simp) (by simp)) (by simp) fun i ⟨hi, hidx⟩ => ?_
  simp -dsimp
  refine condX_dec (fun h => ?_) (fun h => ?_)
  · have hs := idxP_drop g l i h
    have hw := wr (n := (i : Int) + 1) (by omega) (by omega)
    simp -dsimp [h]
    first
      | refine CallG.by (hf _ (List.getElem_mem h)) ?_
      | refine CallGE.by (hf _ (List.getElem_mem h)) ?_
      | refine CallGB.by (hf _ (List.getElem_mem h)) ?_
    simp -dsimp [h]
    refine condX_of (fun hc => ?_) (fun hc => ?_)
    · simp -dsimp
      refine retP_c ?_
      simp -dsimp
      rw [hidx, hs, if_pos hc]
    · simp -dsimp [hw]
      refine LoopP_next (i + 1) (le_of (by simp) (by simp)) ⟨h, ?_⟩ (by omega)
      rw [hidx, hs, if_neg (by simp [hc])]
  · have : i = l.length := by omega
    simp -dsimp
    refine retP_c ?_
    simp -dsimp [hidx, this, idxP]

theorem anyCn_spec (l : List Cn) (f : Nat) (caps : List TL) (g : Cn → Bool) (hf : ∀ r ∈ l, PCall Try.prog f (eCn r :: caps) (pB (g r)) []) : PCall Try.prog 63 [eCns l, .clo f caps] (pB (l.any g)) [] := by
  refine pcall_wp _ Try.func63 rfl (by kernel_rfl) rfl ?_
  simp -dsimp
  first
    | refine CallG.by (idxCn_spec l f caps g hf) ?_
    | refine CallGE.by (idxCn_spec l f caps g hf) ?_
    | refine CallGB.by (idxCn_spec l f caps g hf) ?_
  simp -dsimp [idxP_any]
  refine retP_c ?_
  simp -dsimp

def minL : List Int → Int
  | [] => 0
  | x :: xs => xs.foldl (fun m y => if y < m then y else m) x
theorem min_spec (xs : List Int) (hx : 0 < xs.length) : PCall Try.prog 79 [eIs xs] (pI (minL xs)) [] := by
  refine pcall_sl 0 rfl call79 fun hlen => ?_
  simp only [List.length_map] at hlen
  refine pcall_wp _ Try.func79 rfl (by kernel_rfl) rfl ?_
  have hx' : ¬ (xs.length : Int) < 1 := by omega
  simp -dsimp [hx, hx']
  refine wk_loop (fun p : Nat × Int × Kind => ⟨[(4, pI p.1), (3, .t p.2.2 (eI p.2.1)), (0, .t .ro (eIs xs))], []⟩)
    (fun p => 1 ≤ p.1 ∧ p.1 ≤ xs.length ∧ minL xs = (xs.drop p.1).foldl (fun m y => if y < m then y else m) p.2.1) (fun p => xs.length - p.1) (1, xs[0], .ro)
    (le_of (by simp) (by simp)) ⟨Nat.le_refl _, hx, ?_⟩ fun ⟨i, m, k⟩ ⟨hi1, hi, hJ⟩ => ?_
  · cases xs with
    | nil => simp at hx
    | cons x xs => simp [minL]
  dsimp only at hi hi1 hJ
  simp -dsimp
  refine condX_dec (fun h => ?_) (fun h => ?_)
  · have hw := wr (n := (i : Int) + 1) (by omega) (by omega)
    rw [List.drop_eq_getElem_cons h, List.foldl_cons] at hJ
    simp -dsimp [h, hw]
    exact LoopP_next (i + 1, _, .fz) (le_of (by simp; rfl) (by simp)) ⟨by simp, h, hJ⟩ (by simp only; omega)
  · have : i = xs.length := by omega
    subst this
    simp at hJ
    simp -dsimp
    refine retP_c ?_
    simp -dsimp [hJ]

def maxL : List Int → Int
  | [] => 0
  | x :: xs => xs.foldl (fun m y => if m < y then y else m) x
theorem max_spec (xs : List Int) (hx : 0 < xs.length) : PCall Try.prog 80 [eIs xs] (pI (maxL xs)) [] := by
  refine pcall_sl 0 rfl call80 fun hlen => ?_
  simp only [List.length_map] at hlen
  refine pcall_wp _ Try.func80 rfl (by kernel_rfl) rfl ?_
  have hx' : ¬ (xs.length : Int) < 1 := by omega
  simp -dsimp [hx, hx']
  refine wk_loop (fun p : Nat × Int × Kind => ⟨[(4, pI p.1), (3, .t p.2.2 (eI p.2.1)), (0, .t .ro (eIs xs))], []⟩)
    (fun p => 1 ≤ p.1 ∧ p.1 ≤ xs.length ∧ maxL xs = (xs.drop p.1).foldl (fun m y => if m < y then y else m) p.2.1) (fun p => xs.length - p.1) (1, xs[0], .ro)
    (le_of (by simp) (by simp)) ⟨Nat.le_refl _, hx, ?_⟩ fun ⟨i, m, k⟩ ⟨hi1, hi, hJ⟩ => ?_
  · cases xs with
    | nil => simp at hx
    | cons x xs => simp [maxL]
  dsimp only at hi hi1 hJ
  simp -dsimp
  refine condX_dec (fun h => ?_) (fun h => ?_)
  · have hw := wr (n := (i : Int) + 1) (by omega) (by omega)
    rw [List.drop_eq_getElem_cons h, List.foldl_cons] at hJ
    simp -dsimp [h, hw]
    exact LoopP_next (i + 1, _, .fz) (le_of (by simp; rfl) (by simp)) ⟨by simp, h, hJ⟩ (by simp only; omega)
  · have : i = xs.length := by omega
    subst this
    simp at hJ
    simp -dsimp
    refine retP_c ?_
    simp -dsimp [hJ]
end Go.Proofs.Ytmneioafbkknhaa
