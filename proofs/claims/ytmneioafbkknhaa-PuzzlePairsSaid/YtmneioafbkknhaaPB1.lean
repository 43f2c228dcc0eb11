import Derived.Test.YtmneioafbkknhaaPA1
import Derived.Test.YtmneioafbkknhaaPSC
/- PB1: leaves about lists of numbers. -/
set_option linter.unusedVariables false
set_option linter.unusedSimpArgs false
set_option maxRecDepth 20000
namespace Go.Proofs.Ytmneioafbkknhaa
open Go Go.PS
attribute [simp] eIs cI getD_map

structure Rl where
  n : Int
  rows : List Int
structure Cn where
  rel : Int
  vars : List Int
structure Pz where
  vars : Int
  rels : List Rl
  cons : List Cn
instance : Inhabited Rl := ⟨⟨0, []⟩⟩
instance : Inhabited Cn := ⟨⟨0, []⟩⟩
@[simp] def cRl (r : Rl) : List TL := [eI r.n, eIs r.rows]
@[simp] def cCn (c : Cn) : List TL := [eI c.rel, eIs c.vars]
@[simp] def eRl (r : Rl) : TL := .agg (cRl r)
@[simp] def eCn (c : Cn) : TL := .agg (cCn c)
@[simp] def eRls (l : List Rl) : TL := .sl .any 2 (l.map cRl)
@[simp] def eCns (l : List Cn) : TL := .sl .any 2 (l.map cCn)
@[simp] def ePz (p : Pz) : TL := .agg [eI p.vars, eRls p.rels, eCns p.cons]

theorem wr {n : Int} (h0 : -9223372036854775808 ≤ n) (h1 : n ≤ 9223372036854775807) : IntKind.i64.wrap n = n := wrap_id h0 h1

def idx (v : Int) : List Int → Nat → Int
  | [], _ => -1
  | x :: xs, i => if v = x then i else idx v xs (i + 1)
theorem idx_drop (v : Int) (xs : List Int) (k : Nat) (h : k < xs.length) : idx v (xs.drop k) k = if v = xs[k] then (k : Int) else idx v (xs.drop (k + 1)) (k + 1) := by
  rw [List.drop_eq_getElem_cons h]
  simp [idx]
theorem idx_mem (v : Int) (xs : List Int) (k : Nat) : (0 ≤ idx v xs k) = (v ∈ xs) := by
  induction xs generalizing k with
  | nil => simp [idx]
  | cons x xs ih =>
    simp only [idx]
    by_cases h : v = x
    · simp [h]
    · simp [h, ih]

theorem index_spec (xs : List Int) (v : Int) : PCall Try.prog 88 [eIs xs, eI v] (pI (idx v xs 0)) [] := by
  refine pcall_sl 0 rfl call88 fun hlen => ?_
  simp only [List.length_map] at hlen
  refine pcall_wp 19 Try.func88 rfl (by kernel_rfl) rfl ?_
  simp -dsimp
  refine wk_loop (fun i : Nat => ⟨[(8, pI i), (7, pI xs.length), (0, .t .ro (eIs xs)), (1, .t .ro (eI v))], []⟩) (fun i => i ≤ xs.length ∧ idx v xs 0 = idx v (xs.drop i) i) (fun i => xs.length - i) 0
    (le_of (by simp) (by simp)) (by simp) fun i ⟨hi, hidx⟩ => ?_
  simp -dsimp
  refine condX_dec (fun h => ?_) (fun h => ?_)
  · have hs := idx_drop v xs i h
    have hw := wr (n := (i : Int) + 1) (by omega) (by omega)
    simp -dsimp [h]
    refine condX_of (fun hc => ?_) (fun hc => ?_)
    · simp at hc
      simp -dsimp
      refine retP_c ?_
      simp -dsimp
      rw [hidx, hs, if_pos hc]
    · simp [hw]
      refine LoopP_next (i + 1) (le_of (by simp) (by simp)) ⟨h, ?_⟩ (by omega)
      simp at hc
      rw [hidx, hs, if_neg hc]
  · have : i = xs.length := by omega
    simp -dsimp
    refine retP_c ?_
    simp -dsimp [hidx, this, idx]

theorem contains_spec (xs : List Int) (v : Int) : PCall Try.prog 50 [eIs xs, eI v] (pB (decide (v ∈ xs))) [] := by
  refine pcall_wp _ Try.func50 rfl (by kernel_rfl) rfl ?_
  simp -dsimp
  refine CallG.by (index_spec xs v) ?_
  simp -dsimp [idx_mem]
  refine retP_c ?_
  simp -dsimp
theorem has_spec (r : Rl) (v : Int) : PCall Try.prog 103 [eRl r, eI v] (pB (decide (v ∈ r.rows))) [] := by
  refine pcall_wp _ Try.func103 rfl (by kernel_rfl) rfl ?_
  simp -dsimp
  refine CallG.by (contains_spec r.rows v) ?_
  simp -dsimp
  refine retP_c ?_
  simp -dsimp
theorem rhas_spec (r : Rl) (v : Int) : PCall Try.prog 99 [eRl r, eI v] (pB (decide (v ∈ r.rows))) [] := by
  refine pcall_agg 0 1 rfl rfl call99 fun hlen => ?_
  simp only [List.length_map] at hlen
  refine pcall_wp _ Try.func99 rfl (by kernel_rfl) rfl ?_
  simp -dsimp
  refine wk_loop (fun i : Nat => ⟨[(10, pI i), (9, pI r.rows.length), (8, .t .ro (eIs r.rows)), (1, .t .ro (eI v))], []⟩) (fun i => i ≤ r.rows.length ∧ (v ∈ r.rows ↔ v ∈ r.rows.drop i)) (fun i => r.rows.length - i) 0
    (le_of (by simp) (by simp)) (by simp) fun i ⟨hi, hidx⟩ => ?_
  simp -dsimp
  refine condX_dec (fun h => ?_) (fun h => ?_)
  · have hw := wr (n := (i : Int) + 1) (by omega) (by omega)
    rw [List.drop_eq_getElem_cons h, List.mem_cons] at hidx
    simp -dsimp [h]
    refine condX_of (fun hc => ?_) (fun hc => ?_)
    · simp at hc
      simp -dsimp
      refine retP_c ?_
      simp -dsimp [hidx, hc]
    · simp at hc
      simp -dsimp [hw]
      refine LoopP_next (i + 1) (le_of (by simp) (by simp)) ⟨h, ?_⟩ (by omega)
      rw [hidx]
      constructor
      · rintro (e | e)
        · exact absurd e.symm hc
        · exact e
      · exact .inr
  · have : i = r.rows.length := by omega
    subst this
    simp at hidx
    simp -dsimp
    refine retP_c ?_
    simp -dsimp [hidx]
def rowF (s : Int) : List Int → Nat → Int → Int
  | [], _, out => out
  | v :: vs, i, out => rowF s vs (i + 1) (orI out (shlI (andI (shrI s v.toNat) 1) i))
theorem prow_spec (xs : List Int) (v : Int) (hx : ∀ x ∈ xs, 0 ≤ x) : PCall Try.prog 81 [eIs xs, eI v] (pI (rowF v xs 0 0)) [] := by
  refine pcall_sl 0 rfl call81 fun hlen => ?_
  simp only [List.length_map] at hlen
  refine pcall_wp _ Try.func81 rfl (by kernel_rfl) rfl ?_
  simp -dsimp
  refine wk_loop (fun p : Nat × Int => ⟨[(10, pI p.1), (9, pI xs.length), (8, .t .ro (eIs xs)), (5, pI p.2), (1, .t .ro (eI v))], []⟩) (fun p => p.1 ≤ xs.length ∧ rowF v xs 0 0 = rowF v (xs.drop p.1) p.1 p.2) (fun p => xs.length - p.1) (0, 0)
    (le_of (by simp) (by simp)) (by simp) fun ⟨i, out⟩ ⟨hi, hidx⟩ => ?_
  dsimp only at hi hidx
  simp -dsimp
  refine condX_dec (fun h => ?_) (fun h => ?_)
  · have hw := wr (n := (i : Int) + 1) (by omega) (by omega)
    have h0 := hx _ (List.getElem_mem h)
    rw [List.drop_eq_getElem_cons h] at hidx
    simp -dsimp [h, hw, h0]
    exact LoopP_next (i + 1, _) (le_of (by simp; rfl) (by simp)) ⟨h, hidx⟩ (by simp only; omega)
  · have : i = xs.length := by omega
    subst this
    simp -dsimp
    refine retP_c ?_
    simp -dsimp [hidx, rowF]
theorem rrow_spec (c : Cn) (v : Int) (hx : ∀ x ∈ c.vars, 0 ≤ x) : PCall Try.prog 84 [eCn c, eI v] (pI (rowF v c.vars 0 0)) [] := by
  refine pcall_agg 0 1 rfl rfl call84 fun hlen => ?_
  simp only [List.length_map] at hlen
  refine pcall_wp _ Try.func84 rfl (by kernel_rfl) rfl ?_
  simp -dsimp
  refine wk_loop (fun p : Nat × Int => ⟨[(11, pI p.1), (10, pI c.vars.length), (9, .t .ro (eIs c.vars)), (5, pI p.2), (1, .t .ro (eI v))], []⟩) (fun p => p.1 ≤ c.vars.length ∧ rowF v c.vars 0 0 = rowF v (c.vars.drop p.1) p.1 p.2) (fun p => c.vars.length - p.1) (0, 0)
    (le_of (by simp) (by simp)) (by simp) fun ⟨i, out⟩ ⟨hi, hidx⟩ => ?_
  dsimp only at hi hidx
  simp -dsimp
  refine condX_dec (fun h => ?_) (fun h => ?_)
  · have hw := wr (n := (i : Int) + 1) (by omega) (by omega)
    have h0 := hx _ (List.getElem_mem h)
    rw [List.drop_eq_getElem_cons h] at hidx
    simp -dsimp [h, hw, h0]
    exact LoopP_next (i + 1, _) (le_of (by simp; rfl) (by simp)) ⟨h, hidx⟩ (by simp only; omega)
  · have : i = c.vars.length := by omega
    subst this
    simp -dsimp
    refine retP_c ?_
    simp -dsimp [hidx, rowF]
end Go.Proofs.Ytmneioafbkknhaa
