import Derived.Test.YtgcncgocdfioiaaDoorCB2
/- CB3: the core of a town. -/
set_option linter.unusedVariables false
set_option linter.unusedSimpArgs false
set_option maxRecDepth 20000
namespace Go.Proofs.YtgcncgocdfioiaaDoor
open Go Go.PS
theorem two_bit (v i : Nat) : Nat.testBit (2 ^ v) i = decide (v = i) := Nat.testBit_two_pow
theorem dif_all : (List.range 256).all (fun s => (List.range 8).all fun v => !s.testBit v || (dif s (2 ^ v)).blt s) = true := by kernel_rfl
theorem dif_lt' {s v : Nat} (hs : s < 256) (h : s.testBit v = true) : dif s (2 ^ v) < s := by
  have hv : v < 8 := bits_lt ((bits_mem hs).2 h)
  have := List.all_eq_true.1 (List.all_eq_true.1 dif_all s (List.mem_range.2 hs)) v (List.mem_range.2 hv)
  rw [h] at this
  simp [Nat.blt] at this
  omega
/-- What is left when corners are taken away, the least one first. -/
def coreS (t : List Nat) (s : Nat) : Nat := match (bitsL s).find? (fun v => corF t v s) with
  | none => s
  | some v => if dif s (2 ^ v) < s then coreS t (dif s (2 ^ v)) else s
termination_by s
theorem core1_spec (t : List Nat) (ht : Twn t) (v set : Nat) (hv : v < t.length) (hs : set < 2 ^ t.length) : PCall Tryd.prog 93 [eI v, .rp [eNs t] 0, .rp [eI set] 0] (pB (corF t v set)) [] := by
  refine pcall_wp _ Tryd.func93 rfl (by kernel_rfl) rfl ?_
  simp -dsimp
  first
    | refine CallG.by (corner_spec t ht v set hv hs) ?_
    | refine CallGE.by (corner_spec t ht v set hv hs) ?_
    | refine CallGB.by (corner_spec t ht v set hv hs) ?_
  simp -dsimp
  refine retP_c ?_
  simp -dsimp
theorem iL_idx (g : Nat → Bool) (l : List Nat) (k : Nat) : idxP (fun z : Int => g z.toNat) (iL l) k = idxP g l k := by
  induction l generalizing k with
  | nil => rfl
  | cons x l ih => simp [idxP, ih]
theorem dif_sub {t : List Nat} {s : Nat} (ht : Twn t) (hs : s < 2 ^ t.length) (b : Nat) : dif s b < 2 ^ t.length := Nat.lt_of_le_of_lt Nat.and_le_left hs
theorem core_spec (t : List Nat) (ht : Twn t) : PCall Tryd.prog 74 [eNs t] (pI (coreS t (2 ^ t.length - 1) : Nat)) [] := by
  refine pcall_wp _ Tryd.func74 rfl (by kernel_rfl) rfl ?_
  have hp : 0 < 2 ^ t.length := Nat.pow_pos (by decide)
  simp -dsimp
  first
    | refine CallG.by (all_spec t ht) ?_
    | refine CallGE.by (all_spec t ht) ?_
    | refine CallGB.by (all_spec t ht) ?_
  simp -dsimp
  refine wk_loop (fun s : Nat => ⟨[(1, .ptr 1 0), (3, .ptr 3 0)], [(3, .blk 3 [pI s]), (1, .blk 81 [.t .ro (eNs t)])]⟩) (fun s => s < 2 ^ t.length ∧ coreS t s = coreS t (2 ^ t.length - 1)) (fun s => s) (2 ^ t.length - 1)
    (le_of (by simp) (by simp)) ⟨by omega, rfl⟩ fun s ⟨hs, hc⟩ => ?_
  have hn := idxF_spec (iL (bitsL s)) 93 [.rp [eNs t] 0, .rp [eI s] 0] (fun z => corF t z.toNat s) (fun r hr => by
    obtain ⟨u, hu, rfl⟩ := List.mem_map.1 hr
    exact core1_spec t ht u s (node_lt hs hu) hs)
  rw [iL_idx (fun v => corF t v s)] at hn
  have h8 := sub_lt ht hs
  simp -dsimp
  first
    | refine CallG.by (nodes_spec s h8) ?_
    | refine CallGE.by (nodes_spec s h8) ?_
    | refine CallGB.by (nodes_spec s h8) ?_
  simp -dsimp
  first
    | refine CallG.by (hn) ?_
    | refine CallGE.by (hn) ?_
    | refine CallGB.by (hn) ?_
  rw [coreS] at hc
  rcases idxP_find (fun v => corF t v s) (bitsL s) 0 with ⟨h1, h2⟩ | ⟨i, hi, h1, h2⟩
  · rw [h1] at hc
    rw [h2]
    simp -dsimp
    refine retP_c ?_
    simp -dsimp [hc]
  · rw [h2] at hc
    have hm := List.getElem_mem hi
    have hv := node_lt hs hm
    have hbit := (bits_mem h8).1 hm
    have hlt := dif_lt' h8 hbit
    have hx := iL_at hi
    simp only [hlt, if_true] at hc
    have hg : (bitsL s).getD i 0 = (bitsL s)[i] := by simp [List.getD_eq_getElem?_getD, hi]
    rw [hg] at hx
    generalize (bitsL s)[i] = v at *
    have hs2 := shl1 v (by have := ht.2.1; omega)
    have hp2 : 2 ^ v < 256 := Nat.lt_of_lt_of_le (Nat.pow_lt_pow_right (by decide) (show v < 8 by have := ht.2.1; omega)) (by decide)
    have ha := andnI_nat s (2 ^ v) h8 hp2
    have hn0 : ¬ ((i : Int) < 0) := by omega
    generalize 2 ^ v = bv at hs2 hp2 ha hlt hc
    rw [h1]
    simp only [Nat.zero_add] at *
    simp -dsimp [hn0]
    refine wk_draw 7 [] mixed (by kernel_rfl) ?_
    simp -dsimp
    first
      | refine CallG.by (nodes_spec s h8) ?_
      | refine CallGE.by (nodes_spec s h8) ?_
      | refine CallGB.by (nodes_spec s h8) ?_
    have hi' : (i : Int) < (bitsL s).length := by omega
    simp -dsimp [hi', hx, hs2, ha]
    refine LoopP_next (dif s bv) (le_of (by simp) (by simp)) ⟨dif_sub ht hs _, hc⟩ hlt
end Go.Proofs.YtgcncgocdfioiaaDoor
