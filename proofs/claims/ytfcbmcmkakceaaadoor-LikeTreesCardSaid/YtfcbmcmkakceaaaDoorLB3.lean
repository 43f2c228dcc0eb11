import Derived.Test.YtfcbmcmkakceaaaDoorLB2
/- LB3: both, rounds, near; copies; a choice more; formulas as trees; unless. -/
set_option linter.unusedVariables false
set_option linter.unusedSimpArgs false
set_option maxRecDepth 20000
namespace Go.Proofs.YtfcbmcmkakceaaaDoor
open Go Go.PS
attribute [-simp] isKeyK List.map_take
def nilT : TL := .v (.slice none 0 0)
def bothF (g h : List Int) : TL := .tup [if isgB g = true then eIs g else nilT, if isgB h = true then eIs h else nilT, eB (isgB g && isgB h)]
theorem both_spec (g h : List Int) : PCall Tryd.prog 56 [eIs g, eIs h] (.t .ro (bothF g h)) [] := by
  have h1 := read_spec g
  have h2 := read_spec h
  have hF : bothF g h = .tup [if isgB g = true then eIs g else nilT, if isgB h = true then eIs h else nilT, eB (isgB g && isgB h)] := rfl
  rw [readF] at h1 h2
  refine pcall_wpT Tryd.func56 rfl (by kernel_rfl) ?_
  generalize isgB g = bg at *
  generalize isgB h = bh at *
  cases bg <;> cases bh
  all_goals
    simp only [if_true, Bool.false_eq_true, if_false, Bool.and_true, Bool.and_false, Bool.true_and, Bool.false_and, Bool.and_self] at h1 h2 hF
    simp -dsimp
    first
      | refine CallG.by (h1) ?_
      | refine CallGE.by (h1) ?_
      | refine CallGB.by (h1) ?_
    simp -dsimp
    first
      | refine CallG.by (h2) ?_
      | refine CallGE.by (h2) ?_
      | refine CallGB.by (h2) ?_
    simp -dsimp
    refine retT_c ?_
    simp -dsimp [hF, nilT]
theorem rounds_spec (k : Int) : PCall Tryd.prog 57 [eI k] (pB (decide (0 ≤ k ∧ k ≤ 3))) [] := by
  refine pcall_wp _ Tryd.func57 rfl (by kernel_rfl) rfl ?_
  by_cases h1 : 0 ≤ k
  · by_cases h2 : k ≤ 3
    · simp -dsimp [h1, h2]
      refine retP_c ?_
      simp -dsimp [h1, h2]
    · simp -dsimp [h1, h2]
      refine retP_c ?_
      simp -dsimp [h1, h2]
  · simp -dsimp [h1]
    refine retP_c ?_
    simp -dsimp [h1]
theorem near_spec (t : List Nat) (x y : Nat) (hx : x < t.length) (hl : t.getD x 0 < 4096) (hy : y < 64) : PCall Tryd.prog 71 [eNs t, eI x, eI y] (pB (nbN t x y)) [] := by
  refine pcall_wp _ Tryd.func71 rfl (by kernel_rfl) rfl ?_
  have q1 := iL_at hx
  have hb := and1_bit (t.getD x 0) y hl hy
  have hF : nbN t x y = (t.getD x 0).testBit y := rfl
  have hx' : (x : Int) < t.length := by omega
  have hy0 : (0 : Int) ≤ y := by omega
  generalize t.getD x 0 = s at *
  cases hc : s.testBit y
  · rw [hc] at hb
    simp -dsimp [hx', q1, hb, hy0]
    refine retP_c ?_
    simp -dsimp [hF, hc]
  · rw [hc] at hb
    simp -dsimp [hx', q1, hb, hy0]
    refine retP_c ?_
    simp -dsimp [hF, hc]
theorem clone59_spec (xs : List Int) (hb : xs.length * 8 ≤ 140737488355328) : PCall Tryd.prog 59 [eIs xs] (.t .ro (eIs xs)) [] := by
  refine pcall_any 0 rfl call59 (fun h => ?_) ?_
  · simp at h
    subst h
    refine pcall_weak (k := .fz) (x := .v (.slice none 0 0)) ?_ nil_any
    refine pcall_wp _ Tryd.func59 rfl (by kernel_rfl) rfl ?_
    simp -dsimp
    refine retP_c ?_
    simp -dsimp
  · refine pcall_wp _ Tryd.func59 rfl (by kernel_rfl) rfl ?_
    simp -dsimp [hb]
    refine retP_c ?_
    simp -dsimp
theorem clone32_spec (xs : List Int) (hb : xs.length * 8 ≤ 140737488355328) : PCall Tryd.prog 32 [eIs xs] (.t .ro (eIs xs)) [] := by
  refine pcall_any 0 rfl call32 (fun h => ?_) ?_
  · simp at h
    subst h
    refine pcall_weak (k := .fz) (x := .v (.slice none 0 0)) ?_ nil_any
    refine pcall_wp _ Tryd.func32 rfl (by kernel_rfl) rfl ?_
    simp -dsimp
    refine retP_c ?_
    simp -dsimp
  · refine pcall_wp _ Tryd.func32 rfl (by kernel_rfl) rfl ?_
    simp -dsimp [hb]
    refine retP_c ?_
    simp -dsimp
/-- nil is a row of no elements, in hand. -/
theorem pcall_nilrow {P : Program} {f : FuncId} {args : List TL} {k kk : Kind} {ty sz : Nat} (h : PCall P f args (.t k (.v (.slice none 0 0))) []) : PCall P f args (.osl 0) [(0, .row ty sz kk [])] := by
  refine ⟨h.1, fun w S vals hG hS hs hr => ?_⟩
  refine Calls.mono (h.2 w S vals hG hS hs hr) ?_
  rintro e w' ⟨v, φ, fp, h1, h2, h3, h4, h5, h6⟩
  have hv : v = .slice none 0 0 := by
    have := h6.t_inv
    cases this
    rfl
  subst hv
  refine ⟨_, fun n => if n = 0 then .slice none 0 0 else φ n, fp, h1, h2, fun m => ?_, h4, h5, .osl (by simp)⟩
  have h0 := h3 m
  have hd : ∀ g, ¬ fp m g := h0
  by_cases e : m = 0
  · subst e
    simp only [getM, if_true]
    exact ⟨[], .inr ⟨rfl, ⟨none, rfl⟩, hd⟩, by simp, by simp, fun i j e x he => by simp at he⟩
  · have e' : getM [(0, Res.row ty sz kk [])] m = .dead := by simp [getM, Ne.symm e]
    rw [e']
    exact hd
theorem clone59_row (xs : List Int) (hb : xs.length * 8 ≤ 140737488355328) : PCall Tryd.prog 59 [eIs xs] (.osl 0) [(0, .row 3 1 .ro (xs.map cI))] := by
  refine pcall_any 0 rfl call59 (fun h => ?_) ?_
  · simp at h
    subst h
    refine pcall_nilrow (k := .fz) ?_
    refine pcall_wp _ Tryd.func59 rfl (by kernel_rfl) rfl ?_
    simp -dsimp
    refine retP_c ?_
    simp -dsimp
  · refine pcall_wp _ Tryd.func59 rfl (by kernel_rfl) rfl ?_
    simp -dsimp [hb]
    exact retP_own 5 (by simp; rfl) (by simp) (by simp) (by simp) (by simp)
end Go.Proofs.YtfcbmcmkakceaaaDoor
