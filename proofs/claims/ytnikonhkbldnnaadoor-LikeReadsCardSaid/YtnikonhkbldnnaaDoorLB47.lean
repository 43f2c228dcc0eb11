import Derived.Test.YtnikonhkbldnnaaDoorLB46
/- LB47: the law's same, of a formula and itself. -/
set_option linter.unusedVariables false
set_option linter.unusedSimpArgs false
set_option maxRecDepth 20000
namespace Go.Proofs.YtnikonhkbldnnaaDoor
open Go Go.PS
attribute [-simp] isKeyK List.map_take
theorem eqlF_spec (l : List FT) (f : Nat) (hf : ∀ r ∈ l, PCall Tryd.prog f [.agg (ftC r), .agg (ftC r)] (pB true) []) :
    PCall Tryd.prog 40 [.sl .any 4 (l.map ftC), .sl .any 4 (l.map ftC), .clo f []] (pB true) [] := by
  refine pcall_sl 0 rfl call40 fun hlen => ?_
  simp only [List.length_map] at hlen
  refine pcall_wp _ Tryd.func40 rfl (by kernel_rfl) rfl ?_
  simp -dsimp
  refine wk_loop (fun i : Nat => ⟨[(17, pI i), (16, pI l.length), (15, .t .ro (.sl .any 4 (l.map ftC))), (1, .t .ro (.sl .any 4 (l.map ftC))), (2, .t .ro (.clo f []))], []⟩) (fun i => i ≤ l.length) (fun i => l.length - i) 0
    (le_of (by simp) (by simp)) (by simp) fun i hi => ?_
  simp -dsimp
  refine condX_dec (fun h => ?_) (fun h => ?_)
  · have hw := wr (n := (i : Int) + 1) (by omega) (by omega)
    have hil : (i : Int) < l.length := by omega
    have hc := hf _ (List.getElem_mem h)
    obtain ⟨o', a', b', ks', hk'⟩ := ft_split l[i]
    rw [hk'] at hc
    rw [ftC_mk] at hc
    simp -dsimp [hil, h, hk', ftC_mk]
    first
      | refine CallG.by (hc) ?_
      | refine CallGE.by (hc) ?_
      | refine CallGB.by (hc) ?_
    simp -dsimp [hw]
    refine LoopP_next (i + 1) (le_of (by simp) (by simp)) h (by omega)
  · simp -dsimp
    refine retP_c ?_
    simp -dsimp
theorem same_self : ∀ (N : Nat) (z : FT), nodesF z ≤ N → PCall Tryd.prog 21 [.agg (ftC z), .agg (ftC z)] (pB true) []
  | 0, z, hN => by have := nodesF_pos z; omega
  | N + 1, .mk o a b ks, hN => by
    rw [nodesF] at hN
    have he := eqlF_spec ks 21 fun r hr => same_self N r (by have := nodes_mem hr; omega)
    rw [ftC_mk]
    refine pcall_wp _ Tryd.func21 rfl (by kernel_rfl) rfl ?_
    simp -dsimp
    first
      | refine CallG.by (he) ?_
      | refine CallGE.by (he) ?_
      | refine CallGB.by (he) ?_
    simp -dsimp
    refine retP_c ?_
    simp -dsimp
theorem same_z (z : FT) : PCall Tryd.prog 21 [.agg (ftC z), .agg (ftC z)] (pB true) [] := same_self _ z (Nat.le_refl _)
end Go.Proofs.YtnikonhkbldnnaaDoor
