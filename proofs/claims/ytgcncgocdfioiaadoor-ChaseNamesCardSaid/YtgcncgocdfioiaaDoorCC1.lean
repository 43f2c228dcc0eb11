import Derived.Test.YtgcncgocdfioiaaDoorCB9
/- CC1: play: all ranks, the least ones first. -/
set_option linter.unusedVariables false
set_option linter.unusedSimpArgs false
set_option maxRecDepth 20000
namespace Go.Proofs.YtgcncgocdfioiaaDoor
open Go Go.PS
attribute [-simp] isKeyK
theorem idxP2_spec (l : List Pr) (f : Nat) (caps : List TL) (g : Pr → Bool) (hf : ∀ r ∈ l, PCall Tryd.prog f (.agg (cPr r) :: caps) (pB (g r)) []) : PCall Tryd.prog 102 [ePrs l, .clo f caps] (pI (idxP g l 0)) [] := by
  refine pcall_sl 0 rfl (callable_of Tryd.func102 rfl (by kernel_rfl)) fun hlen => ?_
  simp only [List.length_map] at hlen
  refine pcall_wp _ Tryd.func102 rfl (by kernel_rfl) rfl ?_
  have hnt : Tryd.f102.ntmps = 19 := rfl
  simp -dsimp
  refine wk_loop (fun i : Nat => ⟨[(8, pI i), (7, pI l.length), (0, .t .ro (ePrs l)), (1, .t .ro (.clo f caps))], []⟩) (fun i => i ≤ l.length ∧ idxP g l 0 = idxP g (l.drop i) i) (fun i => l.length - i) 0
    (le_of (by simp) (by simp)) (by simp) fun i ⟨hi, hidx⟩ => ?_
  simp -dsimp
  refine condX_dec (fun h => ?_) (fun h => ?_)
  · have hs := idxP_drop g l i h
    have hw := wr (n := (i : Int) + 1) (by omega) (by omega)
    have hc := hf _ (List.getElem_mem h)
    simp -dsimp [h]
    first
      | refine CallG.by (hc) ?_
      | refine CallGE.by (hc) ?_
      | refine CallGB.by (hc) ?_
    simp -dsimp [h]
    refine condX_of (fun hc => ?_) (fun hc => ?_)
    · simp -dsimp
      refine retP_c ?_
      simp -dsimp
      rw [hidx, hs, if_pos hc]
    · simp -dsimp [hw]
      refine LoopP_next (i + 1) (le_of (by simp) (by simp)) ⟨h, ?_⟩ (by omega)
      rw [hidx, hs, if_neg (by simp [hc])]
  · have : i = l.length := by omega
    simp -dsimp
    refine retP_c ?_
    simp -dsimp [hidx, this, idxP]
theorem anyP2_spec (l : List Pr) (f : Nat) (caps : List TL) (g : Pr → Bool) (hf : ∀ r ∈ l, PCall Tryd.prog f (.agg (cPr r) :: caps) (pB (g r)) []) : PCall Tryd.prog 97 [ePrs l, .clo f caps] (pB (l.any g)) [] := by
  refine pcall_wp _ Tryd.func97 rfl (by kernel_rfl) rfl ?_
  simp -dsimp
  first
    | refine CallG.by (idxP2_spec l f caps g hf) ?_
    | refine CallGE.by (idxP2_spec l f caps g hf) ?_
    | refine CallGB.by (idxP2_spec l f caps g hf) ?_
  simp -dsimp [idxP_any]
  refine retP_c ?_
  simp -dsimp
theorem play1_spec (t : List Nat) (ht : Twn t) (k : Int) (L : List (Pl × Nat)) (q : Pr) (p : Pl) (hc : p.2.2 < t.length) : PCall Tryd.prog 98 [.agg (cPr q), .rp [eC t k (.mp (esOf L))] 0, .rp (cPl p) 0] (pB (afterF t L q.1 q.2 p.2.2).isSome) [] := by
  obtain ⟨a, b, c⟩ := p
  obtain ⟨x, y⟩ := q
  refine pcall_wp _ Tryd.func98 rfl (by kernel_rfl) rfl ?_
  have hA := after_spec t ht k L x y c hc
  have hT : aftT (afterF t L x y c) = .tup [eI ((afterF t L x y c).getD 0 : Nat), eB (afterF t L x y c).isSome] := by
    cases afterF t L x y c <;> rfl
  rw [hT] at hA
  generalize (afterF t L x y c).isSome = ok at *
  generalize (afterF t L x y c).getD 0 = w at *
  simp -dsimp
  first
    | refine CallG.by (hA) ?_
    | refine CallGE.by (hA) ?_
    | refine CallGB.by (hA) ?_
  simp -dsimp
  refine retP_c ?_
  simp -dsimp
/-- Every node is in its own reach. -/
def Slf (t : List Nat) : Prop := ∀ i, i < t.length → (t.getD i 0).testBit i = true
def winB (t : List Nat) (two : Bool) (L : List (Pl × Nat)) (p : Pl) : Bool := (movesL t two p.1 p.2.1).any fun q => (afterF t L q.1 q.2 p.2.2).isSome
/-- Places of a game. -/
def GPl (n : Nat) (two : Bool) (p : Pl) : Prop := p.1 ≤ p.2.1 ∧ p.2.1 < n ∧ p.2.2 < n ∧ (two = true ∨ p.1 = p.2.1)
theorem raw_ne {t : List Nat} (ht : Twn t) (hs : Slf t) {two : Bool} {p : Pl} (hp : GPl t.length two p) : rawOf two (bitsL (t.getD p.1 0)) (bitsL (t.getD p.2.1 0)) ≠ [] := by
  obtain ⟨h1, h2, h3, h4⟩ := hp
  have ha : p.1 < t.length := by omega
  have hm : p.1 ∈ bitsL (t.getD p.1 0) := (bits_mem (ht.lt _ (getD_mem ha))).2 (hs _ ha)
  have hm2 : p.2.1 ∈ bitsL (t.getD p.2.1 0) := (bits_mem (ht.lt _ (getD_mem h2))).2 (hs _ h2)
  have : (min p.1 p.2.1, max p.1 p.2.1) ∈ rawOf two (bitsL (t.getD p.1 0)) (bitsL (t.getD p.2.1 0)) := by
    simp only [rawOf, List.mem_flatMap, List.mem_map, List.mem_filter, Bool.or_eq_true, beq_iff_eq]
    exact ⟨_, hm, _, ⟨hm2, h4⟩, rfl⟩
  intro e
  rw [e] at this
  cases this
theorem win_spec (t : List Nat) (ht : Twn t) (k : Int) (L : List (Pl × Nat)) (p : Pl) (hc : p.2.2 < t.length) :
    PCall Tryd.prog 97 [ePrs (movesL t (k == 2) p.1 p.2.1), .clo 98 [.rp [eC t k (.mp (esOf L))] 0, .rp (cPl p) 0]] (pB (winB t (k == 2) L p)) [] :=
  anyP2_spec _ 98 _ (fun q => (afterF t L q.1 q.2 p.2.2).isSome) fun q _ => play1_spec t ht k L q p hc
end Go.Proofs.YtgcncgocdfioiaaDoor
