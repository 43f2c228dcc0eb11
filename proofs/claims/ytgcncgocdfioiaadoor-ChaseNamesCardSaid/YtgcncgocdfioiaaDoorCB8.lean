import Derived.Test.YtgcncgocdfioiaaDoorCB7
/- CB8: ranks looked up: after, rank, worst. -/
set_option linter.unusedVariables false
set_option linter.unusedSimpArgs false
set_option maxRecDepth 20000
namespace Go.Proofs.YtgcncgocdfioiaaDoor
open Go Go.PS
attribute [-simp] isKeyK
abbrev Pl := Nat × Nat × Nat
@[simp] def cPl (p : Pl) : List TL := [eI (p.1 : Int), eI (p.2.1 : Int), eI (p.2.2 : Int)]
@[simp] def ePl (p : Pl) : TL := .agg (cPl p)
def kP (p : Pl) : Value := .agg [Value.int .i64 (p.1 : Int), Value.int .i64 (p.2.1 : Int), Value.int .i64 (p.2.2 : Int)].toArray
/-- Ranks in memory. -/
def esOf (L : List (Pl × Nat)) : List (Value × TL) := L.map fun q => (kP q.1, eI (q.2 : Int))
theorem same_kP (p q : Pl) : sameK (.wide 3) (kP p) (kP q) = some (decide (p = q)) := by
  obtain ⟨a, b, c⟩ := p
  obtain ⟨x, y, z⟩ := q
  simp [kP, sameK, intsL]
  rw [Bool.eq_iff_iff]
  simp
  omega
theorem tget_esOf (p : Pl) : ∀ L : List (Pl × Nat), tget (.wide 3) (kP p) (esOf L) = some ((L.lookup p).map fun (r : Nat) => eI (r : Int))
  | [] => rfl
  | q :: L => by
    have ih := tget_esOf p L
    simp only [esOf, List.map_cons] at ih ⊢
    simp only [tget, same_kP]
    rw [List.lookup_cons]
    by_cases h : p = q.1
    · simp [h]
    · have hb : (p == q.1) = false := by simpa using h
      simp only [hb, h, decide_false]
      exact ih
theorem key_kP (p : Pl) : isKeyK (.wide 3) (kP p) = true := by simp [kP, isKeyK, intsL]
/-- The key that the code makes. -/
theorem kP_fold (a b c : Nat) : Value.agg [Value.int .i64 (a : Int), Value.int .i64 (b : Int), Value.int .i64 (c : Int)].toArray = kP (a, b, c) := rfl
def aftGo (L : List (Pl × Nat)) (a b : Nat) : List Nat → Nat → Option Nat
  | [], w => some w
  | x :: xs, w => match L.lookup (a, b, x) with
    | none => none
    | some r => aftGo L a b xs (max w r)
def caughtB (a b c : Nat) : Bool := decide (c = a) || decide (c = b)
def afterF (t : List Nat) (L : List (Pl × Nat)) (a b c : Nat) : Option Nat := if caughtB a b c then some 0 else aftGo L a b (bitsL (t.getD c 0)) 0
def aftT : Option Nat → TL
  | some w => .tup [eI (w : Int), eB true]
  | none => .tup [eI 0, eB false]
theorem aftGo_at (L : List (Pl × Nat)) (a b : Nat) (A : List Nat) (i w : Nat) (h : i < A.length) : aftGo L a b (A.drop i) w = match L.lookup (a, b, A.getD i 0) with
    | none => none
    | some r => aftGo L a b (A.drop (i + 1)) (max w r) := by
  rw [List.drop_eq_getElem_cons h]
  have : A.getD i 0 = A[i] := by simp [List.getD_eq_getElem?_getD, h]
  rw [this]
  rfl
theorem after_spec (t : List Nat) (ht : Twn t) (k : Int) (L : List (Pl × Nat)) (a b c : Nat) (hc : c < t.length) : PCall Tryd.prog 66 [eC t k (.mp (esOf L)), .agg [eI a, eI b], eI c] (.t .fz (aftT (afterF t L a b c))) [] := by
  refine pcall_wp _ Tryd.func66 rfl (by kernel_rfl) rfl ?_
  have hF : afterF t L a b c = if caughtB a b c then some 0 else aftGo L a b (bitsL (t.getD c 0)) 0 := rfl
  have hcc := caught_spec (a, b, c)
  have t1 := ht.lt _ (getD_mem hc)
  have q1 := iL_at hc
  have hc' : (c : Int) < t.length := by omega
  generalize t.getD c 0 = tc at *
  have hn := nodes_spec tc t1
  have la := bits_len tc
  generalize bitsL tc = A at *
  simp -dsimp
  first
    | refine CallG.by (hcc) ?_
    | refine CallGE.by (hcc) ?_
    | refine CallGB.by (hcc) ?_
  simp -dsimp
  refine condX_of (fun h => ?_) (fun h => ?_)
  · have hcb : caughtB a b c = true := h
    rw [hcb, if_pos rfl] at hF
    simp -dsimp
    refine retP_c ?_
    simp -dsimp [hF, aftT]
  · have hcb : caughtB a b c = false := h
    rw [hcb, if_neg (by simp)] at hF
    simp -dsimp [hc', q1]
    first
      | refine CallG.by (hn) ?_
      | refine CallGE.by (hn) ?_
      | refine CallGB.by (hn) ?_
    simp -dsimp
    refine wk_loop (fun p : Nat × Nat => ⟨[(8, pI p.2), (29, pI p.1), (28, pI A.length), (27, .t .fz (eNs A)), (4, .ptr 4 0), (0, .t .ro (eC t k (.mp (esOf L))))], [(4, .blk 30 [PV.t .ro (eI a), PV.t .ro (eI b)])]⟩)
      (fun p => p.1 ≤ A.length ∧ afterF t L a b c = aftGo L a b (A.drop p.1) p.2) (fun p => A.length - p.1) (0, 0)
      (le_of (by simp) (by simp)) ⟨by simp, by simpa using hF⟩ fun ⟨i, w⟩ ⟨hi, hw⟩ => ?_
    dsimp only at hi hw
    simp -dsimp
    refine condX_dec (fun h' => ?_) (fun h' => ?_)
    · have hw' := wr (n := (i : Int) + 1) (by omega) (by omega)
      have hil : (i : Int) < A.length := by omega
      have qi := iL_at h'
      have hg := aftGo_at L a b A i w h'
      generalize A.getD i 0 = x at qi hg
      have hk := tget_esOf (a, b, x) L
      have hkey := key_kP (a, b, x)
      simp -dsimp [hil, qi]
      refine wk_draw 15 [] mixed (by kernel_rfl) ?_
      cases hlk : L.lookup (a, b, x) with
      | none =>
        rw [hlk] at hk hg
        simp -dsimp [kP_fold, hk, hkey]
        refine retP_c ?_
        simp -dsimp [hw, hg, aftT]
      | some r =>
        rw [hlk] at hk hg
        have hm : (if w < r then (r : Int) else w) = ((max w r : Nat) : Int) := by split <;> omega
        simp -dsimp [kP_fold, hk, hkey]
        refine LoopP_next (i + 1, max w r) (le_of (by simp [hw', hm]) (by simp)) ⟨h', hw.trans hg⟩ (by simp only; omega)
    · have hi' : i = A.length := by omega
      subst hi'
      rw [List.drop_length, aftGo] at hw
      simp -dsimp
      refine retP_c ?_
      simp -dsimp [hw, aftT]
/-- The rank; -1: none. -/
def rkI (L : List (Pl × Nat)) (p : Pl) : Int := match L.lookup p with
  | some r => (r : Int)
  | none => -1
theorem rank_spec (t : List Nat) (k : Int) (L : List (Pl × Nat)) (p : Pl) : PCall Tryd.prog 59 [eC t k (.mp (esOf L)), ePl p] (pI (rkI L p)) [] := by
  obtain ⟨a, b, c⟩ := p
  refine pcall_wp _ Tryd.func59 rfl (by kernel_rfl) rfl ?_
  have hk := tget_esOf (a, b, c) L
  have hkey := key_kP (a, b, c)
  simp -dsimp
  refine wk_draw 10 [] mixed (by kernel_rfl) ?_
  cases hlk : L.lookup (a, b, c) with
  | none =>
    rw [hlk] at hk
    simp -dsimp [kP_fold, hk, hkey]
    refine retP_c ?_
    simp -dsimp [rkI, hlk]
  | some r =>
    rw [hlk] at hk
    simp -dsimp [kP_fold, hk, hkey]
    refine retP_c ?_
    simp -dsimp [rkI, hlk]
theorem rkI_cases (L : List (Pl × Nat)) (p : Pl) : rkI L p = -1 ∨ ∃ r : Nat, rkI L p = r := by
  unfold rkI
  cases L.lookup p with
  | none => exact .inl rfl
  | some r => exact .inr ⟨r, rfl⟩
/-- The worst rank for a pair, up to some node; -1: the cat escapes. -/
def wsGo (f : Nat → Int) : List Nat → Int → Int
  | [], w => w
  | c :: cs, w => if f c < 0 then -1 else wsGo f cs (if w < f c then f c else w)
def worstF (n : Nat) (L : List (Pl × Nat)) (a b : Nat) : Int := wsGo (fun c => rkI L (a, b, c)) (List.range n) 0
theorem wsGo_at (f : Nat → Int) (n i : Nat) (w : Int) (h : i < n) : wsGo f ((List.range n).drop i) w = if f i < 0 then -1 else wsGo f ((List.range n).drop (i + 1)) (if w < f i then f i else w) := by
  rw [List.drop_eq_getElem_cons (by simpa using h)]
  simp [wsGo]
theorem worst_spec (t : List Nat) (ht : Twn t) (k : Int) (L : List (Pl × Nat)) (a b : Nat) : PCall Tryd.prog 84 [eC t k (.mp (esOf L)), .agg [eI a, eI b]] (pI (worstF t.length L a b)) [] := by
  have h8 := ht.2.1
  refine pcall_wp _ Tryd.func84 rfl (by kernel_rfl) rfl ?_
  simp -dsimp
  refine wk_loop (fun p : Nat × Int => ⟨[(5, pI p.2), (13, pI p.1), (12, pI t.length), (3, .ptr 3 0), (0, .t .ro (eC t k (.mp (esOf L))))], [(3, .blk 30 [PV.t .ro (eI a), PV.t .ro (eI b)])]⟩)
    (fun p => p.1 ≤ t.length ∧ worstF t.length L a b = wsGo (fun c => rkI L (a, b, c)) ((List.range t.length).drop p.1) p.2) (fun p => t.length - p.1) (0, 0)
    (le_of (by simp) (by simp)) ⟨by simp, rfl⟩ fun ⟨i, w⟩ ⟨hi, hw⟩ => ?_
  dsimp only at hi hw
  simp -dsimp
  refine condX_dec (fun h => ?_) (fun h => ?_)
  · have hw' := wr (n := (i : Int) + 1) (by omega) (by omega)
    have hg := wsGo_at (fun c => rkI L (a, b, c)) t.length i w h
    have hr := rank_spec t k L (a, b, i)
    generalize rkI L (a, b, i) = r at hg hr
    simp -dsimp
    first
      | refine CallG.by (hr) ?_
      | refine CallGE.by (hr) ?_
      | refine CallGB.by (hr) ?_
    simp -dsimp
    by_cases hn : r < 0
    · rw [if_pos hn] at hg
      simp -dsimp [hn]
      refine retP_c ?_
      simp -dsimp [hw, hg]
    · rw [if_neg hn] at hg
      simp -dsimp [hn]
      refine LoopP_next (i + 1, _) (le_of (by simp [hw']; rfl) (by simp)) ⟨h, hw.trans hg⟩ (by simp only; omega)
  · have hi' : i = t.length := by omega
    rw [hi', List.drop_eq_nil_of_le (by simp), wsGo] at hw
    simp -dsimp
    refine retP_c ?_
    simp -dsimp [hw]
end Go.Proofs.YtgcncgocdfioiaaDoor
