import Derived.Test.YtpcmmjmoiplhjaaGreatDoorFB1
/- FB2: what a disk does. -/
set_option linter.unusedVariables false
set_option linter.unusedSimpArgs false
set_option maxRecDepth 20000
namespace Go.Proofs.YtpcmmjmoiplhjaaGreatDoor
open Go Go.PS
attribute [-simp] isKeyK List.map_take
/-- A disk and its files. -/
def dM (l0 : List UInt8) (s0 : Int) (l1 : List UInt8) (s1 size : Int) (off : Bool) (fuse : Int) : List (Nat × Res) := [(1000000, dk (.osl 501) s0 (.osl 502) s1 size off fuse), (501, .row 5 1 .ro (bys l0)), (502, .row 5 1 .ro (bys l1))]
theorem noneD_spec (l0 l1 : List UInt8) (s0 s1 size fuse : Int) (off : Bool) (hs : (size == 0) = false) : ECall Tryz.prog 33 [.ptr 1000000 0] (dM l0 s0 l1 s1 size off fuse) (pB false) (dM l0 s0 l1 s1 size off fuse) := by
  unfold dM dk
  refine ecall_wp Tryz.func33 rfl (by kernel_rfl) ?_
  simp -dsimp [hs]
  refine retE_c (by simp -dsimp) (by simp)
theorem reach_spec (l0 l1 : List UInt8) (s0 s1 size fuse : Int) (off : Bool) (f : Int) (hs : (size == 0) = false) (hf : f = 0 ∨ f = 1) : ECall Tryz.prog 32 [.ptr 1000000 0, pI f] (dM l0 s0 l1 s1 size off fuse) (pI 0) (dM l0 s0 l1 s1 size off fuse) := by
  have hn := noneD_spec l0 l1 s0 s1 size fuse off hs
  unfold dM dk at *
  refine ecall_wp Tryz.func32 rfl (by kernel_rfl) ?_
  rcases hf with rfl | rfl
  all_goals
    simp -dsimp
    first
      | refine CallG.on (g := [(1000000, 1000000), (501, 501), (502, 502)]) (hn) (by decide) (by simp) (by simp) (by simp [Sg.bk]) ?_
      | refine CallN.on (g := [(1000000, 1000000), (501, 501), (502, 502)]) (hn) (by decide) (by simp) (by simp) (by simp [Sg.bk]) ?_
      | refine CallGB.on (g := [(1000000, 1000000), (501, 501), (502, 502)]) (hn) (by decide) (by simp) (by simp) (by simp [Sg.bk]) ?_
    simp -dsimp
    refine retE_c (by simp -dsimp) (by simp)
/-- What is spent. -/
def spO (off : Bool) (fuse : Int) : Bool := off || (fuse == 0)
def spF (off : Bool) (fuse : Int) : Int := if spO off fuse then fuse else if fuse - 1 < -1 then -1 else fuse - 1
def spE (off : Bool) (fuse : Int) : Int := if spO off fuse then 9 else 0
theorem spend_spec (l0 l1 : List UInt8) (s0 s1 size fuse : Int) (off : Bool) (h1 : -1 ≤ fuse) (h2 : fuse ≤ 4611686018427387904) : ECall Tryz.prog 47 [.ptr 1000000 0] (dM l0 s0 l1 s1 size off fuse) (pI (spE off fuse)) (dM l0 s0 l1 s1 size (spO off fuse) (spF off fuse)) := by
  have w1 := wr (n := fuse - 1) (by omega) (by omega)
  unfold dM dk spE spF spO at *
  refine ecall_wp Tryz.func47 rfl (by kernel_rfl) ?_
  cases off
  · by_cases h : fuse = 0
    · subst h
      simp -dsimp
      refine retE_c (by simp -dsimp) (by simp)
    · have h' : (fuse == 0) = false := by rw [beq_eq_false_iff_ne]; exact h
      simp -dsimp [h', h, w1]
      refine retE_c (by simp -dsimp [h', h]) (by simp [h', h])
  · simp -dsimp
    refine retE_c (by simp -dsimp) (by simp)
theorem room_spec (l0 l1 : List UInt8) (s0 s1 size fuse : Int) (off : Bool) (h0 : l0.length ≤ 1000000) (h1 : l1.length ≤ 1000000) (h2 : 0 ≤ size) (h3 : size ≤ 1000000) : ECall Tryz.prog 46 [.ptr 1000000 0] (dM l0 s0 l1 s1 size off fuse) (pI (size - l0.length - l1.length)) (dM l0 s0 l1 s1 size off fuse) := by
  have w1 := wr (n := size - l0.length) (by omega) (by omega)
  have w2 := wr (n := size - l0.length - l1.length) (by omega) (by omega)
  unfold dM dk at *
  refine ecall_wp Tryz.func46 rfl (by kernel_rfl) ?_
  simp -dsimp
  refine wk_draw 19 [18] mixed (by kernel_rfl) ?_
  simp -dsimp [w1, w2]
  refine retE_c (by simp -dsimp) (by simp)
theorem cut0_spec (l0 l1 : List UInt8) (s0 s1 size fuse : Int) (off : Bool) (n : Nat) (hn : n ≤ l0.length) : ECall Tryz.prog 34 [.ptr 1000000 0, pI n] (dM l0 s0 l1 s1 size off fuse) (.tup []) (dM (l0.take n) n l1 s1 size off fuse) := by
  have ht : (bys l0).take n = bys (l0.take n) := by simp [bys, List.map_take]
  have hn' : (n : Int) ≤ ((bys l0).length : Int) := by simp; omega
  unfold dM dk at *
  refine ecall_wp Tryz.func34 rfl (by kernel_rfl) ?_
  simp -dsimp [hn, hn', ht]
  refine retE_c (by simp -dsimp [ht]) (by simp [ht])
theorem Cut0_spec (l0 l1 : List UInt8) (s0 s1 size fuse : Int) (off : Bool) (n : Nat) (hn : n ≤ l0.length) (hs : (size == 0) = false) (hl : l0.length ≤ 1000000) (h1 : -1 ≤ fuse) (h2 : fuse ≤ 4611686018427387904) : ECall Tryz.prog 15 [.ptr 1000000 0, pI 0, pI n] (dM l0 s0 l1 s1 size off fuse) (pI (spE off fuse))
    (if spO off fuse then dM l0 s0 l1 s1 size true (spF off fuse) else (dM (l0.take n) n l1 s1 size false (spF off fuse))) := by
  have hr := reach_spec l0 l1 s0 s1 size fuse off 0 hs (by simp)
  have hp := spend_spec l0 l1 s0 s1 size fuse off h1 h2
  have hc := cut0_spec l0 l1 s0 s1 size (spF off fuse) (spO off fuse) n hn
  have n0 : ¬ (n : Int) < 0 := by omega
  have n1 : ¬ (l0.length : Int) < (n : Int) := by omega
  unfold spE at *
  generalize spF off fuse = F at *
  generalize spO off fuse = O at *
  unfold dM dk at *
  refine ecall_wp Tryz.func15 rfl (by kernel_rfl) ?_
  cases O
  all_goals
    simp only [Bool.false_eq_true, if_true, if_false] at hp hc ⊢
    simp -dsimp
    first
      | refine CallG.on (g := [(1000000, 1000000), (501, 501), (502, 502)]) (hr) (by decide) (by simp) (by simp) (by simp [Sg.bk]) ?_
      | refine CallN.on (g := [(1000000, 1000000), (501, 501), (502, 502)]) (hr) (by decide) (by simp) (by simp) (by simp [Sg.bk]) ?_
      | refine CallGB.on (g := [(1000000, 1000000), (501, 501), (502, 502)]) (hr) (by decide) (by simp) (by simp) (by simp [Sg.bk]) ?_
    simp -dsimp [n0, n1, hn]
    first
      | refine CallG.on (g := [(1000000, 1000000), (501, 501), (502, 502)]) (hp) (by decide) (by simp) (by simp) (by simp [Sg.bk]) ?_
      | refine CallN.on (g := [(1000000, 1000000), (501, 501), (502, 502)]) (hp) (by decide) (by simp) (by simp) (by simp [Sg.bk]) ?_
      | refine CallGB.on (g := [(1000000, 1000000), (501, 501), (502, 502)]) (hp) (by decide) (by simp) (by simp) (by simp [Sg.bk]) ?_
    simp -dsimp
  · first
      | refine CallG.on (g := [(1000000, 1000000), (501, 501), (502, 502)]) (hc) (by decide) (by simp) (by simp) (by simp [Sg.bk]) ?_
      | refine CallN.on (g := [(1000000, 1000000), (501, 501), (502, 502)]) (hc) (by decide) (by simp) (by simp) (by simp [Sg.bk]) ?_
      | refine CallGB.on (g := [(1000000, 1000000), (501, 501), (502, 502)]) (hc) (by decide) (by simp) (by simp) (by simp [Sg.bk]) ?_
    simp -dsimp
    refine retE_c (by simp -dsimp) (by simp)
  · refine retE_c (by simp -dsimp) (by simp)
theorem Clear0_spec (l0 l1 : List UInt8) (s0 s1 size fuse : Int) (off : Bool) (hs : (size == 0) = false) (hl : l0.length ≤ 1000000) (h1 : -1 ≤ fuse) (h2 : fuse ≤ 4611686018427387904) : ECall Tryz.prog 16 [.ptr 1000000 0, pI 0] (dM l0 s0 l1 s1 size off fuse) (pI (spE off fuse))
    (if spO off fuse then dM l0 s0 l1 s1 size true (spF off fuse) else (dM [] 0 l1 s1 size false (spF off fuse))) := by
  have hr := reach_spec l0 l1 s0 s1 size fuse off 0 hs (by simp)
  have hc := Cut0_spec l0 l1 s0 s1 size fuse off 0 (by omega) hs hl h1 h2
  rw [List.take_zero] at hc
  generalize spE off fuse = E at *
  generalize spF off fuse = F at *
  generalize spO off fuse = O at *
  unfold dM dk at *
  refine ecall_wp Tryz.func16 rfl (by kernel_rfl) ?_
  cases O
  all_goals
    simp only [Bool.false_eq_true, if_true, if_false] at hc ⊢
    simp -dsimp
    first
      | refine CallG.on (g := [(1000000, 1000000), (501, 501), (502, 502)]) (hr) (by decide) (by simp) (by simp) (by simp [Sg.bk]) ?_
      | refine CallN.on (g := [(1000000, 1000000), (501, 501), (502, 502)]) (hr) (by decide) (by simp) (by simp) (by simp [Sg.bk]) ?_
      | refine CallGB.on (g := [(1000000, 1000000), (501, 501), (502, 502)]) (hr) (by decide) (by simp) (by simp) (by simp [Sg.bk]) ?_
    simp -dsimp
    first
      | refine CallG.on (g := [(1000000, 1000000), (501, 501), (502, 502)]) (hc) (by decide) (by simp) (by simp) (by simp [Sg.bk]) ?_
      | refine CallN.on (g := [(1000000, 1000000), (501, 501), (502, 502)]) (hc) (by decide) (by simp) (by simp) (by simp [Sg.bk]) ?_
      | refine CallGB.on (g := [(1000000, 1000000), (501, 501), (502, 502)]) (hc) (by decide) (by simp) (by simp) (by simp [Sg.bk]) ?_
    simp -dsimp
    refine retE_c (by simp -dsimp) (by simp)
theorem Sync0_spec (l0 l1 : List UInt8) (s0 s1 size fuse : Int) (off : Bool) (hs : (size == 0) = false) (h1 : -1 ≤ fuse) (h2 : fuse ≤ 4611686018427387904) : ECall Tryz.prog 14 [.ptr 1000000 0, pI 0] (dM l0 s0 l1 s1 size off fuse) (pI (spE off fuse))
    (if spO off fuse then dM l0 s0 l1 s1 size true (spF off fuse) else (dM l0 l0.length l1 s1 size false (spF off fuse))) := by
  have hr := reach_spec l0 l1 s0 s1 size fuse off 0 hs (by simp)
  have hp := spend_spec l0 l1 s0 s1 size fuse off h1 h2
  unfold spE at *
  generalize spF off fuse = F at *
  generalize spO off fuse = O at *
  unfold dM dk at *
  refine ecall_wp Tryz.func14 rfl (by kernel_rfl) ?_
  cases O
  all_goals
    simp only [Bool.false_eq_true, if_true, if_false] at hp ⊢
    simp -dsimp
    first
      | refine CallG.on (g := [(1000000, 1000000), (501, 501), (502, 502)]) (hr) (by decide) (by simp) (by simp) (by simp [Sg.bk]) ?_
      | refine CallN.on (g := [(1000000, 1000000), (501, 501), (502, 502)]) (hr) (by decide) (by simp) (by simp) (by simp [Sg.bk]) ?_
      | refine CallGB.on (g := [(1000000, 1000000), (501, 501), (502, 502)]) (hr) (by decide) (by simp) (by simp) (by simp [Sg.bk]) ?_
    simp -dsimp
    first
      | refine CallG.on (g := [(1000000, 1000000), (501, 501), (502, 502)]) (hp) (by decide) (by simp) (by simp) (by simp [Sg.bk]) ?_
      | refine CallN.on (g := [(1000000, 1000000), (501, 501), (502, 502)]) (hp) (by decide) (by simp) (by simp) (by simp [Sg.bk]) ?_
      | refine CallGB.on (g := [(1000000, 1000000), (501, 501), (502, 502)]) (hp) (by decide) (by simp) (by simp) (by simp [Sg.bk]) ?_
    simp -dsimp
  · refine wk_draw 12 [] mixed (by kernel_rfl) ?_
    simp -dsimp
    refine retE_c (by simp -dsimp) (by simp)
  · refine retE_c (by simp -dsimp) (by simp)
theorem cut1_spec (l0 l1 : List UInt8) (s0 s1 size fuse : Int) (off : Bool) (n : Nat) (hn : n ≤ l1.length) : ECall Tryz.prog 34 [.ptr 1000000 2, pI n] (dM l0 s0 l1 s1 size off fuse) (.tup []) (dM l0 s0 (l1.take n) n size off fuse) := by
  have ht : (bys l1).take n = bys (l1.take n) := by simp [bys, List.map_take]
  have hn' : (n : Int) ≤ ((bys l1).length : Int) := by simp; omega
  unfold dM dk at *
  refine ecall_wp Tryz.func34 rfl (by kernel_rfl) ?_
  simp -dsimp [hn, hn', ht]
  refine retE_c (by simp -dsimp [ht]) (by simp [ht])
theorem Cut1_spec (l0 l1 : List UInt8) (s0 s1 size fuse : Int) (off : Bool) (n : Nat) (hn : n ≤ l1.length) (hs : (size == 0) = false) (hl : l1.length ≤ 1000000) (h1 : -1 ≤ fuse) (h2 : fuse ≤ 4611686018427387904) : ECall Tryz.prog 15 [.ptr 1000000 0, pI 1, pI n] (dM l0 s0 l1 s1 size off fuse) (pI (spE off fuse))
    (if spO off fuse then dM l0 s0 l1 s1 size true (spF off fuse) else (dM l0 s0 (l1.take n) n size false (spF off fuse))) := by
  have hr := reach_spec l0 l1 s0 s1 size fuse off 1 hs (by simp)
  have hp := spend_spec l0 l1 s0 s1 size fuse off h1 h2
  have hc := cut1_spec l0 l1 s0 s1 size (spF off fuse) (spO off fuse) n hn
  have n0 : ¬ (n : Int) < 0 := by omega
  have n1 : ¬ (l1.length : Int) < (n : Int) := by omega
  unfold spE at *
  generalize spF off fuse = F at *
  generalize spO off fuse = O at *
  unfold dM dk at *
  refine ecall_wp Tryz.func15 rfl (by kernel_rfl) ?_
  cases O
  all_goals
    simp only [Bool.false_eq_true, if_true, if_false] at hp hc ⊢
    simp -dsimp
    first
      | refine CallG.on (g := [(1000000, 1000000), (501, 501), (502, 502)]) (hr) (by decide) (by simp) (by simp) (by simp [Sg.bk]) ?_
      | refine CallN.on (g := [(1000000, 1000000), (501, 501), (502, 502)]) (hr) (by decide) (by simp) (by simp) (by simp [Sg.bk]) ?_
      | refine CallGB.on (g := [(1000000, 1000000), (501, 501), (502, 502)]) (hr) (by decide) (by simp) (by simp) (by simp [Sg.bk]) ?_
    simp -dsimp [n0, n1, hn]
    first
      | refine CallG.on (g := [(1000000, 1000000), (501, 501), (502, 502)]) (hp) (by decide) (by simp) (by simp) (by simp [Sg.bk]) ?_
      | refine CallN.on (g := [(1000000, 1000000), (501, 501), (502, 502)]) (hp) (by decide) (by simp) (by simp) (by simp [Sg.bk]) ?_
      | refine CallGB.on (g := [(1000000, 1000000), (501, 501), (502, 502)]) (hp) (by decide) (by simp) (by simp) (by simp [Sg.bk]) ?_
    simp -dsimp
  · first
      | refine CallG.on (g := [(1000000, 1000000), (501, 501), (502, 502)]) (hc) (by decide) (by simp) (by simp) (by simp [Sg.bk]) ?_
      | refine CallN.on (g := [(1000000, 1000000), (501, 501), (502, 502)]) (hc) (by decide) (by simp) (by simp) (by simp [Sg.bk]) ?_
      | refine CallGB.on (g := [(1000000, 1000000), (501, 501), (502, 502)]) (hc) (by decide) (by simp) (by simp) (by simp [Sg.bk]) ?_
    simp -dsimp
    refine retE_c (by simp -dsimp) (by simp)
  · refine retE_c (by simp -dsimp) (by simp)
theorem Clear1_spec (l0 l1 : List UInt8) (s0 s1 size fuse : Int) (off : Bool) (hs : (size == 0) = false) (hl : l1.length ≤ 1000000) (h1 : -1 ≤ fuse) (h2 : fuse ≤ 4611686018427387904) : ECall Tryz.prog 16 [.ptr 1000000 0, pI 1] (dM l0 s0 l1 s1 size off fuse) (pI (spE off fuse))
    (if spO off fuse then dM l0 s0 l1 s1 size true (spF off fuse) else (dM l0 s0 [] 0 size false (spF off fuse))) := by
  have hr := reach_spec l0 l1 s0 s1 size fuse off 1 hs (by simp)
  have hc := Cut1_spec l0 l1 s0 s1 size fuse off 0 (by omega) hs hl h1 h2
  rw [List.take_zero] at hc
  generalize spE off fuse = E at *
  generalize spF off fuse = F at *
  generalize spO off fuse = O at *
  unfold dM dk at *
  refine ecall_wp Tryz.func16 rfl (by kernel_rfl) ?_
  cases O
  all_goals
    simp only [Bool.false_eq_true, if_true, if_false] at hc ⊢
    simp -dsimp
    first
      | refine CallG.on (g := [(1000000, 1000000), (501, 501), (502, 502)]) (hr) (by decide) (by simp) (by simp) (by simp [Sg.bk]) ?_
      | refine CallN.on (g := [(1000000, 1000000), (501, 501), (502, 502)]) (hr) (by decide) (by simp) (by simp) (by simp [Sg.bk]) ?_
      | refine CallGB.on (g := [(1000000, 1000000), (501, 501), (502, 502)]) (hr) (by decide) (by simp) (by simp) (by simp [Sg.bk]) ?_
    simp -dsimp
    first
      | refine CallG.on (g := [(1000000, 1000000), (501, 501), (502, 502)]) (hc) (by decide) (by simp) (by simp) (by simp [Sg.bk]) ?_
      | refine CallN.on (g := [(1000000, 1000000), (501, 501), (502, 502)]) (hc) (by decide) (by simp) (by simp) (by simp [Sg.bk]) ?_
      | refine CallGB.on (g := [(1000000, 1000000), (501, 501), (502, 502)]) (hc) (by decide) (by simp) (by simp) (by simp [Sg.bk]) ?_
    simp -dsimp
    refine retE_c (by simp -dsimp) (by simp)
end Go.Proofs.YtpcmmjmoiplhjaaGreatDoor
