import Derived.Test.YtmneioafbkknhaaPB10
/- PB11: Blame of the program. -/
set_option linter.unusedVariables false
set_option linter.unusedSimpArgs false
set_option maxRecDepth 20000
namespace Go.Proofs.Ytmneioafbkknhaa
open Go Go.PS
/-- Has some Cons no solution? -/
def dead (p : Pz) (set : Nat) : Bool := (solsF p set (2 ^ p.vars.toNat)).isEmpty
def hit (p : Pz) (size set : Nat) : Bool := pop set == size && dead p set
def findF (f : Nat → Bool) (n : Nat) : Option Nat := (List.range n).find? f
theorem findF_some {f : Nat → Bool} {n i : Nat} (hi : i < n) (h : f i = true) (hb : ∀ j < i, f j = false) : findF f n = some i := by
  unfold findF
  rw [List.find?_range_eq_some]
  exact ⟨h, List.mem_range.2 hi, fun j hj => by simp [hb j hj]⟩
theorem findF_none {f : Nat → Bool} {n : Nat} (hb : ∀ j < n, f j = false) : findF f n = none := by
  unfold findF
  rw [List.find?_eq_none]
  intro j hj
  simp [hb j (List.mem_range.1 hj)]
def blameS (p : Pz) : List Nat → Option Nat
  | [] => none
  | k :: ks => match findF (hit p k) (2 ^ p.cons.length) with
    | some s => some s
    | none => blameS p ks
def blameO (p : Pz) : Option Nat := blameS p (List.range' 1 p.cons.length)
def blameR (o : Option Nat) : TL := match o with
  | some s => .tup [eI s, eI 0]
  | none => .tup [eI 0, eI 4]
def blameF (p : Pz) : TL := if goodP p then blameR (blameO p) else .tup [eI 0, eI 2]
theorem okC_of {p : Pz} (h : p.cons.all (goodC p) = true) : ∀ c ∈ p.cons, okC p c := by
  intro c hc
  have := List.all_eq_true.1 h c hc
  simp only [goodC, Bool.and_eq_true, decide_eq_true_eq, List.all_eq_true, goodV] at this
  obtain ⟨⟨⟨h1, h2⟩, h3⟩, h4⟩ := this
  exact ⟨h1, by omega, fun v hv => (h4 v hv).1⟩
theorem wrU {n : Int} (h0 : 0 ≤ n) (h1 : n ≤ 9223372036854775807) : IntKind.u64.wrap n = n := by
  show n % 18446744073709551616 = n
  omega
theorem pblame_spec (p : Pz) : PCall Try.prog 18 [ePz p] (.t .fz (blameF p)) [] := by
  refine pcall_wp _ Try.func18 rfl (by kernel_rfl) rfl ?_
  simp -dsimp
  first
    | refine CallG.by (pvalid_spec p) ?_
    | refine CallGE.by (pvalid_spec p) ?_
    | refine CallGB.by (pvalid_spec p) ?_
  simp -dsimp
  refine condX_of (fun hv => ?_) (fun hv => ?_)
  · simp only [Bool.not_eq_true'] at hv
    simp -dsimp
    refine retP_c ?_
    simp -dsimp [blameF, hv]
  simp only [Bool.not_eq_false'] at hv
  have hg := hv
  simp only [goodP, Bool.and_eq_true, decide_eq_true_eq] at hg
  obtain ⟨⟨⟨⟨⟨g1, g2⟩, g3⟩, g4⟩, g5⟩, g6⟩ := hg
  simp -dsimp
  have hok := okC_of g6
  have hF : blameF p = blameR (blameO p) := by simp only [blameF, hv, if_true]
  have hs := shl1 p.cons.length (by omega)
  have hN : 2 ^ p.cons.length ≤ 2 ^ 12 := Nat.pow_le_pow_right (by decide) (by omega)
  unfold blameO at hF
  have hS : ∀ k ks, blameS p (k :: ks) = match findF (hit p k) (2 ^ p.cons.length) with | some s => some s | none => blameS p ks := fun _ _ => rfl
  generalize 2 ^ p.cons.length = N at hs hN hS
  refine wk_loop (fun k : Nat => ⟨[(4, pI k), (1, .ptr 1 0)], [(1, .blk 32 [.t .ro (eI p.vars), .t .ro (eRls p.rels), .t .ro (eCns p.cons)])]⟩)
    (fun k => 1 ≤ k ∧ k ≤ p.cons.length + 1 ∧ blameF p = blameR (blameS p (List.range' k (p.cons.length + 1 - k)))) (fun k => p.cons.length + 1 - k) 1
    (le_of (by simp) (by simp)) ⟨by omega, by omega, by simpa using hF⟩ fun k ⟨hk1, hk, hx⟩ => ?_
  simp -dsimp
  refine condX_dec (fun h => ?_) (fun h => ?_)
  rotate_left
  · have e : p.cons.length + 1 - k = 0 := by omega
    rw [e] at hx
    simp only [List.range'_zero, blameS, blameR] at hx
    simp -dsimp
    refine retP_c ?_
    simp -dsimp [hx]
  obtain ⟨r, hr⟩ : ∃ r, p.cons.length + 1 - k = r + 1 := ⟨p.cons.length - k, by omega⟩
  rw [hr, List.range'_succ, hS] at hx
  have hwk := wr (n := (k : Int) + 1) (by omega) (by omega)
  simp -dsimp [hs]
  refine wk_loop (fun i : Nat => ⟨[(20, pI i), (19, pI N), (4, pI k), (1, .ptr 1 0)], [(1, .blk 32 [.t .ro (eI p.vars), .t .ro (eRls p.rels), .t .ro (eCns p.cons)])]⟩)
    (fun i => i ≤ N ∧ ∀ j < i, hit p k j = false) (fun i => N - i) 0
    (le_of (by simp) (by simp)) ⟨by omega, fun j hj => by omega⟩ fun i ⟨hi, hJ⟩ => ?_
  simp -dsimp
  refine condX_dec (fun h' => ?_) (fun h' => ?_)
  rotate_left
  · have e : i = N := by omega
    subst e
    rw [findF_none hJ] at hx
    simp -dsimp [hwk]
    refine LoopP_next (k + 1) (le_of (by simp) (by simp)) ⟨by omega, by omega, ?_⟩ (by omega)
    have e : p.cons.length + 1 - (k + 1) = r := by omega
    rw [e]
    exact hx
  have hw := wr (n := (i : Int) + 1) (by omega) (by omega)
  have hu := wrU (n := (i : Int)) (by omega) (by omega)
  simp -dsimp [hu]
  first
    | refine CallG.by (ones_spec i (by omega)) ?_
    | refine CallGE.by (ones_spec i (by omega)) ?_
    | refine CallGB.by (ones_spec i (by omega)) ?_
  simp -dsimp
  have next : hit p k i = false → ∀ j < i + 1, hit p k j = false := fun e j hj => by
    rcases Nat.lt_succ_iff_lt_or_eq.1 hj with h | rfl
    · exact hJ j h
    · exact e
  refine condX_of (fun c1 => ?_) (fun c1 => ?_)
  rotate_left
  · have e : hit p k i = false := by
      have : (pop i == k) = false := by
        simp at c1 ⊢
        omega
      simp [hit, this]
    simp -dsimp [c1, hw]
    exact LoopP_next (i + 1) (le_of (by simp) (by simp)) ⟨h', next e⟩ (by omega)
  have c1' : (pop i == k) = true := by
    simp at c1 ⊢
    omega
  simp -dsimp [c1]
  first
    | refine CallG.by (psols_spec p i hok (by omega) g2) ?_
    | refine CallGE.by (psols_spec p i hok (by omega) g2) ?_
    | refine CallGB.by (psols_spec p i hok (by omega) g2) ?_
  simp -dsimp
  refine condX_of (fun c2 => ?_) (fun c2 => ?_)
  · have e : hit p k i = true := by
      simp at c2
      simp [hit, c1', dead, c2]
    rw [findF_some h' e hJ] at hx
    simp only [blameR] at hx
    simp -dsimp [c2]
    refine retP_c ?_
    simp -dsimp [hx]
  · have e : hit p k i = false := by
      simp at c2
      simp [hit, c1', dead, c2]
    simp -dsimp [c2, hw]
    exact LoopP_next (i + 1) (le_of (by simp) (by simp)) ⟨h', next e⟩ (by omega)
end Go.Proofs.Ytmneioafbkknhaa
