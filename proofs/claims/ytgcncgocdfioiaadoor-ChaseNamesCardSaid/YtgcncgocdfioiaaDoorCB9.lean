import Derived.Test.YtgcncgocdfioiaaDoorCB8
/- CB9: start, place; play. -/
set_option linter.unusedVariables false
set_option linter.unusedSimpArgs false
set_option maxRecDepth 20000
namespace Go.Proofs.YtgcncgocdfioiaaDoor
open Go Go.PS
attribute [-simp] isKeyK
/-- The first best choice. -/
def stF (W : Pr → Int) : List Pr → Pr × Int → Pr × Int
  | [], q => q
  | p :: l, q => stF W l (if 0 ≤ W p ∧ (q.2 < 0 ∨ W p < q.2) then (p, W p) else q)
def startF (n : Nat) (two : Bool) (L : List (Pl × Nat)) : Pr × Int := stF (fun p => worstF n L p.1 p.2) (teamsL n two) ((0, 0), -1)
theorem stF_at (W : Pr → Int) (l : List Pr) (i : Nat) (q : Pr × Int) (h : i < l.length) : stF W (l.drop i) q = stF W (l.drop (i + 1)) (if 0 ≤ W (l.getD i (0, 0)) ∧ (q.2 < 0 ∨ W (l.getD i (0, 0)) < q.2) then (l.getD i (0, 0), W (l.getD i (0, 0))) else q) := by
  rw [drop_gP h]
  rfl
theorem start_spec (t : List Nat) (ht : Twn t) (k : Int) (L : List (Pl × Nat)) : PCall Tryd.prog 50 [eC t k (.mp (esOf L))] (.t .fz (.tup [.agg (cPr (startF t.length (k == 2) L).1), eI (startF t.length (k == 2) L).2])) [] := by
  refine pcall_wp _ Tryd.func50 rfl (by kernel_rfl) rfl ?_
  have hT := teams_spec t ht k (.mp (esOf L))
  have hF : startF t.length (k == 2) L = stF (fun p => worstF t.length L p.1 p.2) (teamsL t.length (k == 2)) ((0, 0), -1) := rfl
  have hlen : (teamsL t.length (k == 2)).length ≤ 64 := by
    have h1 := prsTo_len t.length (tmF (k == 2)) t.length 0
    have h2 : t.length * t.length ≤ 8 * 8 := Nat.mul_le_mul ht.2.1 ht.2.1
    rw [prsTo_all] at h1
    rw [teamsL]
    omega
  generalize teamsL t.length (k == 2) = T at *
  simp -dsimp
  first
    | refine CallG.by (hT) ?_
    | refine CallGE.by (hT) ?_
    | refine CallGB.by (hT) ?_
  simp -dsimp
  refine wk_loop (fun p : Kind × Nat × Pr × Int => ⟨[(10, pI p.2.1), (9, pI T.length), (8, .t .fz (ePrs T)), (3, pI p.2.2.2), (2, .ptr 2 0), (0, .t .ro (eC t k (.mp (esOf L))))], [(2, .blk 30 [PV.t .fz (eI p.2.2.1.1), PV.t .fz (eI p.2.2.1.2)])]⟩)
    (fun p => p.2.1 ≤ T.length ∧ startF t.length (k == 2) L = stF (fun p => worstF t.length L p.1 p.2) (T.drop p.2.1) p.2.2) (fun p => T.length - p.2.1) (.fz, 0, (0, 0), -1)
    (le_of (by simp) (by simp)) ⟨by simp, hF⟩ fun ⟨kd, i, best, r⟩ ⟨hi, hw⟩ => ?_
  dsimp only at hi hw
  simp -dsimp
  refine condX_dec (fun h => ?_) (fun h => ?_)
  · have hw' := wr (n := (i : Int) + 1) (by omega) (by omega)
    have hil : (i : Int) < T.length := by omega
    have hg := stF_at (fun p => worstF t.length L p.1 p.2) T i (best, r) h
    have hq := gP (l := T) h
    generalize T.getD i (0, 0) = q at hg hq
    have hws := worst_spec t ht k L q.1 q.2
    generalize worstF t.length L q.1 q.2 = w at hg hws
    simp only at hg
    simp -dsimp [hil, hq]
    first
      | refine CallG.by (hws) ?_
      | refine CallGE.by (hws) ?_
      | refine CallGB.by (hws) ?_
    by_cases c1 : 0 ≤ w
    · by_cases c2 : r < 0
      · rw [if_pos ⟨c1, .inl c2⟩] at hg
        simp -dsimp [c1, c2]
        refine LoopP_next (.fz, i + 1, q, w) (le_of (by simp [hw']) (by simp)) ⟨h, hw.trans hg⟩ (by simp only; omega)
      · by_cases c3 : w < r
        · rw [if_pos ⟨c1, .inr c3⟩] at hg
          simp -dsimp [c1, c2, c3]
          refine LoopP_next (.fz, i + 1, q, w) (le_of (by simp [hw']) (by simp)) ⟨h, hw.trans hg⟩ (by simp only; omega)
        · rw [if_neg (by rintro ⟨_, h | h⟩ <;> contradiction)] at hg
          simp -dsimp [c1, c2, c3]
          refine LoopP_next (.fz, i + 1, best, r) (le_of (by simp [hw']) (by simp)) ⟨h, hw.trans hg⟩ (by simp only; omega)
    · rw [if_neg (fun h => c1 h.1)] at hg
      simp -dsimp [c1]
      refine LoopP_next (.fz, i + 1, best, r) (le_of (by simp [hw']) (by simp)) ⟨h, hw.trans hg⟩ (by simp only; omega)
  · have hi' : i = T.length := by omega
    rw [hi', List.drop_length, stF] at hw
    rw [hw]
    simp -dsimp
    refine retP_c ?_
    simp -dsimp
/-- A place of the game. -/
def okPl (n : Nat) (k : Int) (a b c : Int) : Bool := decide (0 ≤ a ∧ a < n) && (decide (0 ≤ b ∧ b < n) && (decide (0 ≤ c ∧ c < n) && (decide (a ≤ b) && ((k == 2) || (a == b)))))
theorem place_spec (t : List Nat) (ht : Twn t) (k : Int) (R : TL) (a b c : Int) : PCall Tryd.prog 64 [eC t k R, .agg [eI a, eI b, eI c]] (pB (okPl t.length k a b c)) [] := by
  refine pcall_wp _ Tryd.func64 rfl (by kernel_rfl) rfl ?_
  have na := node_spec t a
  have nb := node_spec t b
  have nc := node_spec t c
  have hF : okPl t.length k a b c = (decide (0 ≤ a ∧ a < t.length) && (decide (0 ≤ b ∧ b < t.length) && (decide (0 ≤ c ∧ c < t.length) && (decide (a ≤ b) && ((k == 2) || (a == b)))))) := rfl
  generalize decide (0 ≤ a ∧ a < (t.length : Int)) = xa at *
  generalize decide (0 ≤ b ∧ b < (t.length : Int)) = xb at *
  generalize decide (0 ≤ c ∧ c < (t.length : Int)) = xc at *
  simp -dsimp
  refine wk_draw 43 [6, 14, 23] mixed (by kernel_rfl) ?_
  simp -dsimp
  first
    | refine CallG.by (na) ?_
    | refine CallGE.by (na) ?_
    | refine CallGB.by (na) ?_
  cases xa
  · simp -dsimp
    refine retP_c ?_
    simp -dsimp [hF]
  simp -dsimp
  first
    | refine CallG.by (nb) ?_
    | refine CallGE.by (nb) ?_
    | refine CallGB.by (nb) ?_
  cases xb
  · simp -dsimp
    refine retP_c ?_
    simp -dsimp [hF]
  simp -dsimp
  first
    | refine CallG.by (nc) ?_
    | refine CallGE.by (nc) ?_
    | refine CallGB.by (nc) ?_
  cases xc
  · simp -dsimp
    refine retP_c ?_
    simp -dsimp [hF]
  cases c1 : decide (a ≤ b)
  · have c1' : ¬ a ≤ b := by simpa using c1
    rw [c1] at hF
    simp -dsimp [c1']
    refine retP_c ?_
    simp -dsimp [hF]
  have c1' : a ≤ b := by simpa using c1
  rw [c1] at hF
  cases c2 : (k == 2)
  · rw [c2] at hF
    simp -dsimp [c1', c2]
    refine retP_c ?_
    simp -dsimp [hF]
  · rw [c2] at hF
    simp -dsimp [c1', c2]
    refine retP_c ?_
    simp -dsimp [hF]
end Go.Proofs.YtgcncgocdfioiaaDoor
