import Derived.Test.YtnikonhkbldnnaaDoorLR9
import Derived.Test.YtnikonhkbldnnaaDoorLB47
import Derived.Test.YtnikonhkbldnnaaDoorLW18
/- LR12: the reference's parsed. -/
set_option linter.unusedVariables false
set_option linter.unusedSimpArgs false
set_option maxRecDepth 20000
namespace Go.Proofs.YtnikonhkbldnnaaDoor
open Go Go.PS
attribute [-simp] isKeyK List.map_take
/-- The counter. -/
def nM (n : Nat) : List (Nat × Res) := [(1000000, .blk 3 [pI n])]
abbrev sP (s : List UInt8) : PV := .t .fz (sV s)
/-- Some four cells. -/
def g4 (o : ByteArray) (a b : Int) (ks : List FT) : PV := .agg (ftP4 o a b ks)
def rY (d n : Nat) (s : List UInt8) (f : Fo) (r : List UInt8) (m : Nat) : Prop := ∃ o a b ks, ftOf f = .mk o a b ks ∧ ECall Tryd.prog 39 [sP s, pI d, .ptr 1000000 0] (nM n) (.tup [g4 o a b ks, sP r, pB true]) (nM m)
def rN (d n : Nat) (s : List UInt8) (m : Nat) : Prop := ∃ r o a b ks, ECall Tryd.prog 39 [sP s, pI d, .ptr 1000000 0] (nM n) (.tup [g4 o a b ks, sP r, pB false]) (nM m)
theorem g4_nil {l : List PV} {o : ByteArray} {x y : Int} {w : World} {φ : Nat → Value} {St : Kind → Nat → Prop} {v : Value} (hSt : ∀ k g, St k g → St .ro g) (h : PVRep w φ St (.tup (.agg [.t .fz (.v (.string o)), pI x, pI y, .t .fz nilT] :: l)) v) : PVRep w φ St (.tup (g4 o x y [] :: l)) v := by
  cases h with
  | tup vs hs hrep =>
    refine .tup vs hs fun j u hu => ?_
    cases j with
    | zero =>
      simp at hu
      subst hu
      exact ftP_nil hSt (hrep 0 _ rfl)
    | succ j => exact hrep (j + 1) u (by simpa using hu)
/-- Too deep, too many, or nothing there. -/
theorem psd_no (s : List UInt8) (d n : Nat) (hd : d < 100) (hn : n < 10000) (h : s = [] ∨ d < 1 ∨ 2000 < n + 1) : rN d n s (n + 1) := by
  refine ⟨s, ByteArray.empty, 0, 0, [], ecall_weak (fun w φ St v hSt h => g4_nil hSt h) ?_⟩
  have w1 := wr (n := (n : Int) + 1) (by omega) (by omega)
  unfold nM nilT
  refine ecall_wp Tryd.func39 rfl (by kernel_rfl) ?_
  by_cases h1 : s = []
  · subst h1
    simp -dsimp [w1]
    refine retE_c (by simp -dsimp) (by simp)
  · have e1 : (s == []) = false := by simpa using h1
    by_cases h2 : d < 1
    · have h2' : (d : Int) < 1 := by omega
      simp -dsimp [w1, e1, h1, h2']
      refine retE_c (by simp -dsimp) (by simp)
    · have h2' : ¬ (d : Int) < 1 := by omega
      have h3 : (2000 : Int) < n + 1 := by
        rcases h with h | h | h
        · exact absurd h h1
        · omega
        · omega
      simp -dsimp [w1, e1, h1, h2', h3]
      refine retE_c (by simp -dsimp) (by simp)
theorem bx1 (c : UInt8) (r : List UInt8) : (ByteArray.mk (c :: r).toArray).extract 1 (r.length + 1) = ⟨r.toArray⟩ := bex c r
theorem bx3 (c x y : UInt8) (r : List UInt8) : (ByteArray.mk (c :: x :: y :: r).toArray).extract 3 (r.length + 1 + 1 + 1) = ⟨r.toArray⟩ := by
  apply ByteArray.ext
  simp
theorem bx12 (c x y : UInt8) (r : List UInt8) : (ByteArray.mk (c :: x :: y :: r).toArray).extract 1 2 = ⟨#[x]⟩ := by
  apply ByteArray.ext
  simp
theorem bsz' (c : UInt8) (r : List UInt8) : (ByteArray.mk (c :: r).toArray).size = r.length + 1 := by simp [ByteArray.size]
theorem byte_ne {c k : UInt8} (h : c ≠ k) : ((c.toNat : Int) == (k.toNat : Int)) = false := by
  rw [beq_eq_false_iff_ne]
  intro e
  exact h (UInt8.toNat_inj.1 (by omega))
theorem byte_nb {c k : UInt8} (h : c ≠ k) : ((c.toNat : Int) != (k.toNat : Int)) = true := by
  rw [bne, byte_ne h]
  rfl
theorem psd33 (d n m : Nat) (hd : d < 99) (hn : n + 1 ≤ 2000) (r r2 : List UInt8) (hr : r.length < 100000) (t : Bool) (o : ByteArray) (a b : Int) (ks : List FT)
    (h1 : ECall Tryd.prog 39 [sP r, pI d, .ptr 1000000 0] (nM (n + 1)) (.tup [g4 o a b ks, sP r2, pB t]) (nM m)) : ECall Tryd.prog 39 [sP (33 :: r), pI (d + 1 : Nat), .ptr 1000000 0] (nM n) (.tup [g4 oNo 0 0 [.mk o a b ks], sP r2, pB t]) (nM m) := by
  have w1 := wr (n := (n : Int) + 1) (by omega) (by omega)
  have w2 := wr (n := (d : Int)) (by omega) (by omega)
  have hd1 : ¬ ((d : Int) + 1 < 1) := by omega
  have hn1 : ¬ ((2000 : Int) < (n : Int) + 1) := by omega
  have q1 : (1 : Int) ≤ (r.length : Int) + 1 := by omega
  have p1 : ((r.length : Int) + 1).toNat = r.length + 1 := by omega
  have x1 := bx1 33 r
  have s1 := bsz' 33 r
  have hc := ftC_mk o a b ks
  unfold nM g4 ftP4 at *
  refine ecall_wpZ [53] Tryd.func39 rfl (by kernel_rfl) ?_
  simp -dsimp [w1, hd1, hn1, s1, x1, q1, p1, w2]
  first
    | refine CallG.on (g := [(1000000, 1000000)]) (h1) (by decide) (by simp) (by simp) (by simp [Sg.bk]) ?_
    | refine CallN.on (g := [(1000000, 1000000)]) (h1) (by decide) (by simp) (by simp) (by simp [Sg.bk]) ?_
    | refine CallGB.on (g := [(1000000, 1000000)]) (h1) (by decide) (by simp) (by simp) (by simp [Sg.bk]) ?_
  simp -dsimp
  refine retE_c (by simp -dsimp [hc]) (by simp [hc])
theorem psd40a (d n m : Nat) (hd : d < 99) (hn : n + 1 ≤ 2000) (r r1 : List UInt8) (hr : r.length < 100000) (o : ByteArray) (a b : Int) (ks : List FT)
    (h1 : ECall Tryd.prog 39 [sP r, pI d, .ptr 1000000 0] (nM (n + 1)) (.tup [g4 o a b ks, sP r1, pB false]) (nM m)) : ECall Tryd.prog 39 [sP (40 :: r), pI (d + 1 : Nat), .ptr 1000000 0] (nM n) (.tup [g4 ByteArray.empty 0 0 [], sP (40 :: r), pB false]) (nM m) := by
  have w1 := wr (n := (n : Int) + 1) (by omega) (by omega)
  have w2 := wr (n := (d : Int)) (by omega) (by omega)
  have hd1 : ¬ ((d : Int) + 1 < 1) := by omega
  have hn1 : ¬ ((2000 : Int) < (n : Int) + 1) := by omega
  have q1 : (1 : Int) ≤ (r.length : Int) + 1 := by omega
  have p1 : ((r.length : Int) + 1).toNat = r.length + 1 := by omega
  have x1 := bx1 40 r
  have s1 := bsz' 40 r
  refine ecall_weak (fun w φ St v hSt h => g4_nil hSt h) ?_
  unfold nM g4 ftP4 nilT at *
  refine ecall_wp Tryd.func39 rfl (by kernel_rfl) ?_
  simp -dsimp [w1, hd1, hn1, s1, x1, q1, p1, w2]
  first
    | refine CallG.on (g := [(1000000, 1000000)]) (h1) (by decide) (by simp) (by simp) (by simp [Sg.bk]) ?_
    | refine CallN.on (g := [(1000000, 1000000)]) (h1) (by decide) (by simp) (by simp) (by simp [Sg.bk]) ?_
    | refine CallGB.on (g := [(1000000, 1000000)]) (h1) (by decide) (by simp) (by simp) (by simp [Sg.bk]) ?_
  simp -dsimp
  refine retE_c (by simp -dsimp) (by simp)
theorem psd40b (d n m : Nat) (hd : d < 99) (hn : n + 1 ≤ 2000) (r : List UInt8) (hr : r.length < 100000) (o : ByteArray) (a b : Int) (ks : List FT)
    (h1 : ECall Tryd.prog 39 [sP r, pI d, .ptr 1000000 0] (nM (n + 1)) (.tup [g4 o a b ks, sP [], pB true]) (nM m)) : ECall Tryd.prog 39 [sP (40 :: r), pI (d + 1 : Nat), .ptr 1000000 0] (nM n) (.tup [g4 ByteArray.empty 0 0 [], sP (40 :: r), pB false]) (nM m) := by
  have w1 := wr (n := (n : Int) + 1) (by omega) (by omega)
  have w2 := wr (n := (d : Int)) (by omega) (by omega)
  have hd1 : ¬ ((d : Int) + 1 < 1) := by omega
  have hn1 : ¬ ((2000 : Int) < (n : Int) + 1) := by omega
  have q1 : (1 : Int) ≤ (r.length : Int) + 1 := by omega
  have p1 : ((r.length : Int) + 1).toNat = r.length + 1 := by omega
  have x1 := bx1 40 r
  have s1 := bsz' 40 r
  refine ecall_weak (fun w φ St v hSt h => g4_nil hSt h) ?_
  unfold nM g4 ftP4 nilT at *
  refine ecall_wp Tryd.func39 rfl (by kernel_rfl) ?_
  simp -dsimp [w1, hd1, hn1, s1, x1, q1, p1, w2]
  first
    | refine CallG.on (g := [(1000000, 1000000)]) (h1) (by decide) (by simp) (by simp) (by simp [Sg.bk]) ?_
    | refine CallN.on (g := [(1000000, 1000000)]) (h1) (by decide) (by simp) (by simp) (by simp [Sg.bk]) ?_
    | refine CallGB.on (g := [(1000000, 1000000)]) (h1) (by decide) (by simp) (by simp) (by simp [Sg.bk]) ?_
  simp -dsimp
  refine retE_c (by simp -dsimp) (by simp)
theorem psd40c (d n m : Nat) (hd : d < 99) (hn : n + 1 ≤ 2000) (r r1 : List UInt8) (c : UInt8) (hc : c ≠ 38) (hr : r.length < 100000) (o : ByteArray) (a b : Int) (ks : List FT)
    (h1 : ECall Tryd.prog 39 [sP r, pI d, .ptr 1000000 0] (nM (n + 1)) (.tup [g4 o a b ks, sP (c :: r1), pB true]) (nM m)) : ECall Tryd.prog 39 [sP (40 :: r), pI (d + 1 : Nat), .ptr 1000000 0] (nM n) (.tup [g4 ByteArray.empty 0 0 [], sP (40 :: r), pB false]) (nM m) := by
  have w1 := wr (n := (n : Int) + 1) (by omega) (by omega)
  have w2 := wr (n := (d : Int)) (by omega) (by omega)
  have hd1 : ¬ ((d : Int) + 1 < 1) := by omega
  have hn1 : ¬ ((2000 : Int) < (n : Int) + 1) := by omega
  have q1 : (1 : Int) ≤ (r.length : Int) + 1 := by omega
  have p1 : ((r.length : Int) + 1).toNat = r.length + 1 := by omega
  have x1 := bx1 40 r
  have s1 := bsz' 40 r
  refine ecall_weak (fun w φ St v hSt h => g4_nil hSt h) ?_
  have hc1 : ((c.toNat : Int) != 38) = true := byte_nb hc
  unfold nM g4 ftP4 nilT at *
  refine ecall_wp Tryd.func39 rfl (by kernel_rfl) ?_
  simp -dsimp [w1, hd1, hn1, s1, x1, q1, p1, w2]
  first
    | refine CallG.on (g := [(1000000, 1000000)]) (h1) (by decide) (by simp) (by simp) (by simp [Sg.bk]) ?_
    | refine CallN.on (g := [(1000000, 1000000)]) (h1) (by decide) (by simp) (by simp) (by simp [Sg.bk]) ?_
    | refine CallGB.on (g := [(1000000, 1000000)]) (h1) (by decide) (by simp) (by simp) (by simp [Sg.bk]) ?_
  simp -dsimp [hc1]
  refine retE_c (by simp -dsimp) (by simp)
theorem psd40d (d n m : Nat) (hd : d < 99) (hn : n + 1 ≤ 2000) (m1 : Nat) (r r1 r2 : List UInt8) (hr : r.length < 100000) (hr1 : r1.length < 100000) (o : ByteArray) (a b : Int) (ks : List FT) (o2 : ByteArray) (a2 b2 : Int) (ks2 : List FT)
    (h1 : ECall Tryd.prog 39 [sP r, pI d, .ptr 1000000 0] (nM (n + 1)) (.tup [g4 o a b ks, sP (38 :: r1), pB true]) (nM m1)) (h2 : ECall Tryd.prog 39 [sP r1, pI d, .ptr 1000000 0] (nM m1) (.tup [g4 o2 a2 b2 ks2, sP r2, pB false]) (nM m)) : ECall Tryd.prog 39 [sP (40 :: r), pI (d + 1 : Nat), .ptr 1000000 0] (nM n) (.tup [g4 ByteArray.empty 0 0 [], sP (40 :: r), pB false]) (nM m) := by
  have w1 := wr (n := (n : Int) + 1) (by omega) (by omega)
  have w2 := wr (n := (d : Int)) (by omega) (by omega)
  have hd1 : ¬ ((d : Int) + 1 < 1) := by omega
  have hn1 : ¬ ((2000 : Int) < (n : Int) + 1) := by omega
  have q1 : (1 : Int) ≤ (r.length : Int) + 1 := by omega
  have p1 : ((r.length : Int) + 1).toNat = r.length + 1 := by omega
  have x1 := bx1 40 r
  have s1 := bsz' 40 r
  have q2 : (1 : Int) ≤ (r1.length : Int) + 1 := by omega
  have p2 : ((r1.length : Int) + 1).toNat = r1.length + 1 := by omega
  have x2 := bx1 38 r1
  have s2 := bsz' 38 r1
  refine ecall_weak (fun w φ St v hSt h => g4_nil hSt h) ?_
  unfold nM g4 ftP4 nilT at *
  refine ecall_wp Tryd.func39 rfl (by kernel_rfl) ?_
  simp -dsimp [w1, hd1, hn1, s1, x1, q1, p1, w2]
  first
    | refine CallG.on (g := [(1000000, 1000000)]) (h1) (by decide) (by simp) (by simp) (by simp [Sg.bk]) ?_
    | refine CallN.on (g := [(1000000, 1000000)]) (h1) (by decide) (by simp) (by simp) (by simp [Sg.bk]) ?_
    | refine CallGB.on (g := [(1000000, 1000000)]) (h1) (by decide) (by simp) (by simp) (by simp [Sg.bk]) ?_
  simp -dsimp [s2, x2, q2, p2, w2]
  first
    | refine CallG.on (g := [(1000000, 1000000)]) (h2) (by decide) (by simp) (by simp) (by simp [Sg.bk]) ?_
    | refine CallN.on (g := [(1000000, 1000000)]) (h2) (by decide) (by simp) (by simp) (by simp [Sg.bk]) ?_
    | refine CallGB.on (g := [(1000000, 1000000)]) (h2) (by decide) (by simp) (by simp) (by simp [Sg.bk]) ?_
  simp -dsimp
  refine retE_c (by simp -dsimp) (by simp)
theorem psd40e (d n m : Nat) (hd : d < 99) (hn : n + 1 ≤ 2000) (m1 : Nat) (r r1 r2 : List UInt8) (hr : r.length < 100000) (hr1 : r1.length < 100000) (o : ByteArray) (a b : Int) (ks : List FT) (o2 : ByteArray) (a2 b2 : Int) (ks2 : List FT)
    (h1 : ECall Tryd.prog 39 [sP r, pI d, .ptr 1000000 0] (nM (n + 1)) (.tup [g4 o a b ks, sP (38 :: r1), pB true]) (nM m1)) (h2 : ECall Tryd.prog 39 [sP r1, pI d, .ptr 1000000 0] (nM m1) (.tup [g4 o2 a2 b2 ks2, sP [], pB true]) (nM m)) : ECall Tryd.prog 39 [sP (40 :: r), pI (d + 1 : Nat), .ptr 1000000 0] (nM n) (.tup [g4 ByteArray.empty 0 0 [], sP (40 :: r), pB false]) (nM m) := by
  have w1 := wr (n := (n : Int) + 1) (by omega) (by omega)
  have w2 := wr (n := (d : Int)) (by omega) (by omega)
  have hd1 : ¬ ((d : Int) + 1 < 1) := by omega
  have hn1 : ¬ ((2000 : Int) < (n : Int) + 1) := by omega
  have q1 : (1 : Int) ≤ (r.length : Int) + 1 := by omega
  have p1 : ((r.length : Int) + 1).toNat = r.length + 1 := by omega
  have x1 := bx1 40 r
  have s1 := bsz' 40 r
  have q2 : (1 : Int) ≤ (r1.length : Int) + 1 := by omega
  have p2 : ((r1.length : Int) + 1).toNat = r1.length + 1 := by omega
  have x2 := bx1 38 r1
  have s2 := bsz' 38 r1
  refine ecall_weak (fun w φ St v hSt h => g4_nil hSt h) ?_
  unfold nM g4 ftP4 nilT at *
  refine ecall_wp Tryd.func39 rfl (by kernel_rfl) ?_
  simp -dsimp [w1, hd1, hn1, s1, x1, q1, p1, w2]
  first
    | refine CallG.on (g := [(1000000, 1000000)]) (h1) (by decide) (by simp) (by simp) (by simp [Sg.bk]) ?_
    | refine CallN.on (g := [(1000000, 1000000)]) (h1) (by decide) (by simp) (by simp) (by simp [Sg.bk]) ?_
    | refine CallGB.on (g := [(1000000, 1000000)]) (h1) (by decide) (by simp) (by simp) (by simp [Sg.bk]) ?_
  simp -dsimp [s2, x2, q2, p2, w2]
  first
    | refine CallG.on (g := [(1000000, 1000000)]) (h2) (by decide) (by simp) (by simp) (by simp [Sg.bk]) ?_
    | refine CallN.on (g := [(1000000, 1000000)]) (h2) (by decide) (by simp) (by simp) (by simp [Sg.bk]) ?_
    | refine CallGB.on (g := [(1000000, 1000000)]) (h2) (by decide) (by simp) (by simp) (by simp [Sg.bk]) ?_
  simp -dsimp
  refine retE_c (by simp -dsimp) (by simp)
theorem psd40f (d n m : Nat) (hd : d < 99) (hn : n + 1 ≤ 2000) (m1 : Nat) (r r1 r2 : List UInt8) (c : UInt8) (hc : c ≠ 41) (hr : r.length < 100000) (hr1 : r1.length < 100000) (o : ByteArray) (a b : Int) (ks : List FT) (o2 : ByteArray) (a2 b2 : Int) (ks2 : List FT)
    (h1 : ECall Tryd.prog 39 [sP r, pI d, .ptr 1000000 0] (nM (n + 1)) (.tup [g4 o a b ks, sP (38 :: r1), pB true]) (nM m1)) (h2 : ECall Tryd.prog 39 [sP r1, pI d, .ptr 1000000 0] (nM m1) (.tup [g4 o2 a2 b2 ks2, sP (c :: r2), pB true]) (nM m)) : ECall Tryd.prog 39 [sP (40 :: r), pI (d + 1 : Nat), .ptr 1000000 0] (nM n) (.tup [g4 ByteArray.empty 0 0 [], sP (40 :: r), pB false]) (nM m) := by
  have w1 := wr (n := (n : Int) + 1) (by omega) (by omega)
  have w2 := wr (n := (d : Int)) (by omega) (by omega)
  have hd1 : ¬ ((d : Int) + 1 < 1) := by omega
  have hn1 : ¬ ((2000 : Int) < (n : Int) + 1) := by omega
  have q1 : (1 : Int) ≤ (r.length : Int) + 1 := by omega
  have p1 : ((r.length : Int) + 1).toNat = r.length + 1 := by omega
  have x1 := bx1 40 r
  have s1 := bsz' 40 r
  have q2 : (1 : Int) ≤ (r1.length : Int) + 1 := by omega
  have p2 : ((r1.length : Int) + 1).toNat = r1.length + 1 := by omega
  have x2 := bx1 38 r1
  have s2 := bsz' 38 r1
  refine ecall_weak (fun w φ St v hSt h => g4_nil hSt h) ?_
  have hc1 : ((c.toNat : Int) != 41) = true := byte_nb hc
  unfold nM g4 ftP4 nilT at *
  refine ecall_wp Tryd.func39 rfl (by kernel_rfl) ?_
  simp -dsimp [w1, hd1, hn1, s1, x1, q1, p1, w2]
  first
    | refine CallG.on (g := [(1000000, 1000000)]) (h1) (by decide) (by simp) (by simp) (by simp [Sg.bk]) ?_
    | refine CallN.on (g := [(1000000, 1000000)]) (h1) (by decide) (by simp) (by simp) (by simp [Sg.bk]) ?_
    | refine CallGB.on (g := [(1000000, 1000000)]) (h1) (by decide) (by simp) (by simp) (by simp [Sg.bk]) ?_
  simp -dsimp [s2, x2, q2, p2, w2]
  first
    | refine CallG.on (g := [(1000000, 1000000)]) (h2) (by decide) (by simp) (by simp) (by simp [Sg.bk]) ?_
    | refine CallN.on (g := [(1000000, 1000000)]) (h2) (by decide) (by simp) (by simp) (by simp [Sg.bk]) ?_
    | refine CallGB.on (g := [(1000000, 1000000)]) (h2) (by decide) (by simp) (by simp) (by simp [Sg.bk]) ?_
  simp -dsimp [hc1]
  refine retE_c (by simp -dsimp) (by simp)
def ps14D : List (List Nat) := [[], [], [0, 1], [0, 1, 2], [], [4], [0, 1, 2, 3], [0, 1, 2, 3, 4, 5, 6], [0, 1, 2, 3, 4, 5, 6, 7]]
def ps14T : List Nat := [0, 1, 2, 3, 4, 5, 6, 7, 8]
def ps14P : List (List (Option Bool)) := [[some false, none, some false, some false, none, none, some false, some false, some false], [none, some false, some false, some false, none, none, some false, some false, some false], [some true, some true, some false, some false, none, none, some false, some false, some false], [some true, some true, some true, some false, none, none, some false, some false, some false], [none, none, none, none, some false, some false, none, some false, some false], [none, none, none, none, some true, some false, none, some false, some false], [some true, some true, some true, some true, none, none, some false, some false, some false], [some true, some true, some true, some true, some true, some true, some true, some false, some false], [some true, some true, some true, some true, some true, some true, some true, some true, some false]]
set_option maxHeartbeats 1000000 in
theorem psd40g (d n m : Nat) (hd : d < 99) (hn : n + 1 ≤ 2000) (m1 : Nat) (r r1 r2 : List UInt8) (hr : r.length < 100000) (hr1 : r1.length < 100000) (hr2 : r2.length < 100000) (o : ByteArray) (a b : Int) (ks : List FT) (o2 : ByteArray) (a2 b2 : Int) (ks2 : List FT)
    (h1 : ECall Tryd.prog 39 [sP r, pI d, .ptr 1000000 0] (nM (n + 1)) (.tup [g4 o a b ks, sP (38 :: r1), pB true]) (nM m1)) (h2 : ECall Tryd.prog 39 [sP r1, pI d, .ptr 1000000 0] (nM m1) (.tup [g4 o2 a2 b2 ks2, sP (41 :: r2), pB true]) (nM m)) : ECall Tryd.prog 39 [sP (40 :: r), pI (d + 1 : Nat), .ptr 1000000 0] (nM n) (.tup [g4 oAn 0 0 [.mk o a b ks, .mk o2 a2 b2 ks2], sP r2, pB true]) (nM m) := by
  have w1 := wr (n := (n : Int) + 1) (by omega) (by omega)
  have w2 := wr (n := (d : Int)) (by omega) (by omega)
  have hd1 : ¬ ((d : Int) + 1 < 1) := by omega
  have hn1 : ¬ ((2000 : Int) < (n : Int) + 1) := by omega
  have q1 : (1 : Int) ≤ (r.length : Int) + 1 := by omega
  have p1 : ((r.length : Int) + 1).toNat = r.length + 1 := by omega
  have x1 := bx1 40 r
  have s1 := bsz' 40 r
  have q2 : (1 : Int) ≤ (r1.length : Int) + 1 := by omega
  have p2 : ((r1.length : Int) + 1).toNat = r1.length + 1 := by omega
  have x2 := bx1 38 r1
  have s2 := bsz' 38 r1
  have q3 : (1 : Int) ≤ (r2.length : Int) + 1 := by omega
  have p3 : ((r2.length : Int) + 1).toNat = r2.length + 1 := by omega
  have x3 := bx1 41 r2
  have s3 := bsz' 41 r2
  have hc := ftC_mk o a b ks
  have hc2 := ftC_mk o2 a2 b2 ks2
  unfold nM g4 ftP4 at *
  refine ecall_wpZ [109] Tryd.func39 rfl (by kernel_rfl) ?_
  simp -dsimp [w1, hd1, hn1, s1, x1, q1, p1, w2]
  first
    | refine CallG.on (g := [(1000000, 1000000)]) (h1) (by decide) (by simp) (by simp) (by simp [Sg.bk]) ?_
    | refine CallN.on (g := [(1000000, 1000000)]) (h1) (by decide) (by simp) (by simp) (by simp [Sg.bk]) ?_
    | refine CallGB.on (g := [(1000000, 1000000)]) (h1) (by decide) (by simp) (by simp) (by simp [Sg.bk]) ?_
  simp -dsimp [s2, x2, q2, p2, w2]
  first
    | refine CallG.on (g := [(1000000, 1000000)]) (h2) (by decide) (by simp) (by simp) (by simp [Sg.bk]) ?_
    | refine CallN.on (g := [(1000000, 1000000)]) (h2) (by decide) (by simp) (by simp) (by simp [Sg.bk]) ?_
    | refine CallGB.on (g := [(1000000, 1000000)]) (h2) (by decide) (by simp) (by simp) (by simp [Sg.bk]) ?_
  simp -dsimp
  refine wk_dagS (fun bs => ⟨[(107, cnd (bs.getD 0 false) (.agg [.t .fz (.v (.string o)), pI a, pI b, .t .ro (.sl .any 4 (ks.map ftC))])), (108, cnd (bs.getD 1 false) (.agg [.t .fz (.v (.string o2)), pI a2, pI b2, .t .ro (.sl .any 4 (ks2.map ftC))])), (109, cnd (bs.getD 2 false) (.osl 109)), (110, cnd (bs.getD 3 false) (.agg [.t .fz (.v (.string oAn)), pI 0, pI 0, .osl 109])), (111, cnd (bs.getD 4 false) (sP (41 :: r2))), (112, cnd (bs.getD 5 false) (sP r2)), (7, if bs.getD 7 false then sP r2 else .t .fz (.v (.string ⟨#[]⟩))), (8, if bs.getD 8 false then pB true else pB false), (6, .ptr 6 0), (12, .ptr 12 0), (13, sP (41 :: r2)), (15, .ptr 15 0)],
      [(109, cndR (bs.getD 2 false) (.row 24 4 .ro [[.v (.string o), eI a, eI b, .sl .any 4 (ks.map ftC)], [.v (.string o2), eI a2, eI b2, .sl .any 4 (ks2.map ftC)]])), (6, .blk 24 (if bs.getD 6 false then [.t .fz (.v (.string oAn)), pI 0, pI 0, .osl 109] else [.t .fz (.v (.string ByteArray.empty)), pI 0, pI 0, .t .fz (.v (.slice none 0 0))])), (12, .blk 24 [.t .fz (.v (.string o)), pI a, pI b, .t .ro (.sl .any 4 (ks.map ftC))]), (15, .blk 24 [.t .fz (.v (.string o2)), pI a2, pI b2, .t .ro (.sl .any 4 (ks2.map ftC))]), (1000000, .blk 3 [pI m])]⟩) ps14D ps14T ps14P mixed (by kernel_rfl) (le_of (by simp) (by simp)) ?_ ?_
  · unfold ps14P
    simp -dsimp [s3, x3, q3, p3, -Bool.forall_bool]
    repeat' first
      | intro _
      | with_reducible apply And.intro
      | (refine le_of (by simp) ?_
         simp; done)
      | (rename_i x
         cases x <;> simp -dsimp)
  · simp -dsimp
    refine retE_c (by simp -dsimp [hc, hc2]) (by simp [hc, hc2])
theorem psds1 (d n : Nat) (hd : d < 99) (hn : n + 1 ≤ 2000) (c : UInt8) (h33 : c ≠ 33) (h40 : c ≠ 40) : ECall Tryd.prog 39 [sP [c], pI (d + 1 : Nat), .ptr 1000000 0] (nM n) (.tup [g4 ByteArray.empty 0 0 [], sP [c], pB false]) (nM (n + 1)) := by
  have w1 := wr (n := (n : Int) + 1) (by omega) (by omega)
  have w2 := wr (n := (d : Int)) (by omega) (by omega)
  have hd1 : ¬ ((d : Int) + 1 < 1) := by omega
  have hn1 : ¬ ((2000 : Int) < (n : Int) + 1) := by omega
  have n33 : ((c.toNat : Int) == 33) = false := byte_ne h33
  have n40 : ((c.toNat : Int) == 40) = false := byte_ne h40
  refine ecall_weak (fun w φ St v hSt h => g4_nil hSt h) ?_
  have s1 := bsz [c]
  simp only [List.length_cons, List.length_nil, Nat.zero_add] at s1
  unfold nM nilT at *
  refine ecall_wp Tryd.func39 rfl (by kernel_rfl) ?_
  simp -dsimp [w1, hd1, hn1, s1, n33, n40]
  refine retE_c (by simp -dsimp) (by simp)
theorem psds2 (d n : Nat) (hd : d < 99) (hn : n + 1 ≤ 2000) (c : UInt8) (x : UInt8) (h33 : c ≠ 33) (h40 : c ≠ 40) : ECall Tryd.prog 39 [sP [c, x], pI (d + 1 : Nat), .ptr 1000000 0] (nM n) (.tup [g4 ByteArray.empty 0 0 [], sP [c, x], pB false]) (nM (n + 1)) := by
  have w1 := wr (n := (n : Int) + 1) (by omega) (by omega)
  have w2 := wr (n := (d : Int)) (by omega) (by omega)
  have hd1 : ¬ ((d : Int) + 1 < 1) := by omega
  have hn1 : ¬ ((2000 : Int) < (n : Int) + 1) := by omega
  have n33 : ((c.toNat : Int) == 33) = false := byte_ne h33
  have n40 : ((c.toNat : Int) == 40) = false := byte_ne h40
  refine ecall_weak (fun w φ St v hSt h => g4_nil hSt h) ?_
  have s1 := bsz [c, x]
  simp only [List.length_cons, List.length_nil, Nat.zero_add] at s1
  unfold nM nilT at *
  refine ecall_wp Tryd.func39 rfl (by kernel_rfl) ?_
  simp -dsimp [w1, hd1, hn1, s1, n33, n40]
  refine retE_c (by simp -dsimp) (by simp)
def ps19D : List (List Nat) := [[], [0], [0, 1], [0, 1, 2], [], [4], [0, 1, 2, 3, 4, 5], [], [], [0, 1, 2, 3, 4, 5, 6], [0, 1, 2, 3, 4, 5, 6, 7, 9], [0, 1, 2, 3, 4, 5, 6, 7, 8, 9, 10]]
def ps19T : List Nat := [0, 1, 2, 3, 4, 5, 6, 7, 8, 9, 10, 11]
def ps19P : List (List (Option Bool)) := [[some false, some false, some false, some false, none, none, some false, none, none, some false, some false, some false], [some true, some false, some false, some false, none, none, some false, none, none, some false, some false, some false], [some true, some true, some false, some false, none, none, some false, none, none, some false, some false, some false], [some true, some true, some true, some false, none, none, some false, none, none, some false, some false, some false], [none, none, none, none, some false, some false, some false, none, none, some false, some false, some false], [none, none, none, none, some true, some false, some false, none, none, some false, some false, some false], [some true, some true, some true, some true, some true, some true, some false, none, none, some false, some false, some false], [none, none, none, none, none, none, none, some false, none, none, some false, some false], [none, none, none, none, none, none, none, none, some false, none, none, some false], [some true, some true, some true, some true, some true, some true, some true, none, none, some false, some false, some false], [some true, some true, some true, some true, some true, some true, some true, some true, none, some true, some false, some false], [some true, some true, some true, some true, some true, some true, some true, some true, some true, some true, some true, some false]]
theorem u8_small (x : Nat) (h : x < 4) : IntKind.u8.wrap (x : Int) = x := by
  rcases lt4 h with rfl | rfl | rfl | rfl <;> rfl
set_option maxHeartbeats 1000000 in
theorem psd69 (d n m : Nat) (hd : d < 99) (hn : n + 1 ≤ 2000) (v : Nat) (hv : v < 4) (r r2 : List UInt8) (hr : r.length < 100000) (t : Bool) (o : ByteArray) (a b : Int) (ks : List FT)
    (h1 : ECall Tryd.prog 39 [sP r, pI d, .ptr 1000000 0] (nM (n + 1)) (.tup [g4 o a b ks, sP r2, pB t]) (nM m)) : ECall Tryd.prog 39 [sP (69 :: ltr v :: 32 :: r), pI (d + 1 : Nat), .ptr 1000000 0] (nM n) (.tup [g4 oEx v 0 [.mk o a b ks], sP r2, pB t]) (nM m) := by
  have w1 := wr (n := (n : Int) + 1) (by omega) (by omega)
  have w2 := wr (n := (d : Int)) (by omega) (by omega)
  have hd1 : ¬ ((d : Int) + 1 < 1) := by omega
  have hn1 : ¬ ((2000 : Int) < (n : Int) + 1) := by omega
  have q1 : (3 : Int) ≤ (r.length : Int) + 1 + 1 + 1 := by omega
  have p1 : ((r.length : Int) + 1 + 1 + 1).toNat = r.length + 1 + 1 + 1 := by omega
  have g3 : ¬ ((r.length : Int) + 1 + 1 + 1 < 3) := by omega
  have x1 := bx3 69 (ltr v) 32 r
  have s1 : (ByteArray.mk (69 :: (ltr v) :: 32 :: r).toArray).size = r.length + 1 + 1 + 1 := by simp [ByteArray.size]
  have l1 : (97 : Int) ≤ ((ltr v).toNat : Int) := by rw [ltr_toNat hv]; omega
  have u1 : ((ltr v).toNat : Int) ≤ 100 := by rw [ltr_toNat hv]; omega
  have v1 : IntKind.u8.wrap (((ltr v).toNat : Int) - 97) = v := by
    rw [ltr_toNat hv, show (((97 + v : Nat) : Int) - 97) = (v : Int) by omega]
    exact u8_small v hv
  have i1 := wr (n := (v : Int)) (by omega) (by omega)
  have hc := ftC_mk o a b ks
  unfold nM g4 ftP4 at *
  refine ecall_wpZ [153] Tryd.func39 rfl (by kernel_rfl) ?_
  simp -dsimp [w1, hd1, hn1, s1, x1, q1, p1, w2, g3, l1, u1]
  first
    | refine CallG.on (g := [(1000000, 1000000)]) (h1) (by decide) (by simp) (by simp) (by simp [Sg.bk]) ?_
    | refine CallN.on (g := [(1000000, 1000000)]) (h1) (by decide) (by simp) (by simp) (by simp [Sg.bk]) ?_
    | refine CallGB.on (g := [(1000000, 1000000)]) (h1) (by decide) (by simp) (by simp) (by simp [Sg.bk]) ?_
  simp -dsimp
  refine wk_dagS (fun bs => ⟨[(148, cnd (bs.getD 0 false) (sP (69 :: ltr v :: 32 :: r))), (149, cnd (bs.getD 1 false) (.t .fz (.v (.int .u8 ((ltr v).toNat : Int))))), (150, cnd (bs.getD 2 false) (.t .fz (.v (.int .u8 (v : Int))))), (151, cnd (bs.getD 3 false) (pI v)), (152, cnd (bs.getD 4 false) (.agg [.t .fz (.v (.string o)), pI a, pI b, .t .ro (.sl .any 4 (ks.map ftC))])), (153, cnd (bs.getD 5 false) (.osl 153)), (154, cnd (bs.getD 6 false) (.agg [.t .fz (.v (.string oEx)), pI v, pI 0, .osl 153])), (155, cnd (bs.getD 7 false) (sP r2)), (156, cnd (bs.getD 8 false) (pB t)),
      (7, if bs.getD 10 false then sP r2 else .t .fz (.v (.string ⟨#[]⟩))), (8, if bs.getD 11 false then pB t else pB false), (0, sP (69 :: ltr v :: 32 :: r)), (6, .ptr 6 0), (16, .ptr 16 0), (17, sP r2), (18, pB t)],
      [(153, cndR (bs.getD 5 false) (.row 24 4 .ro [[.v (.string o), eI a, eI b, .sl .any 4 (ks.map ftC)]])), (6, .blk 24 (if bs.getD 9 false then [.t .fz (.v (.string oEx)), pI v, pI 0, .osl 153] else [.t .fz (.v (.string ByteArray.empty)), pI 0, pI 0, .t .fz (.v (.slice none 0 0))])), (16, .blk 24 [.t .fz (.v (.string o)), pI a, pI b, .t .ro (.sl .any 4 (ks.map ftC))]), (1000000, .blk 3 [pI m])]⟩) ps19D ps19T ps19P mixed (by kernel_rfl) (le_of (by simp) (by simp)) ?_ ?_
  · unfold ps19P
    simp -dsimp [v1, i1, -Bool.forall_bool]
    repeat' first
      | intro _
      | with_reducible apply And.intro
      | (refine le_of (by simp) ?_
         simp; done)
      | (rename_i x
         cases x <;> simp -dsimp)
  · simp -dsimp
    refine retE_c (by simp -dsimp [hc]) (by simp [hc])
def ps21D : List (List Nat) := [[], [0], [], [2], [2, 3], [2, 3, 4], [], [6], [6, 7], [6, 7, 8], [0, 1, 2, 3, 4, 5, 6, 7, 8, 9], [], [11], [0, 1, 2, 3, 4, 5, 6, 7, 8, 9, 10], [0, 1, 2, 3, 4, 5, 6, 7, 8, 9, 10, 11, 12, 13], [0, 1, 2, 3, 4, 5, 6, 7, 8, 9, 10, 11, 12, 13, 14]]
def ps21T : List Nat := [0, 1, 2, 3, 4, 5, 6, 7, 8, 9, 10, 11, 12, 13, 14, 15]
def ps21P : List (List (Option Bool)) := [[some false, some false, none, none, none, none, none, none, none, none, some false, none, none, some false, some false, some false], [some true, some false, none, none, none, none, none, none, none, none, some false, none, none, some false, some false, some false], [none, none, some false, some false, some false, some false, none, none, none, none, some false, none, none, some false, some false, some false], [none, none, some true, some false, some false, some false, none, none, none, none, some false, none, none, some false, some false, some false], [none, none, some true, some true, some false, some false, none, none, none, none, some false, none, none, some false, some false, some false], [none, none, some true, some true, some true, some false, none, none, none, none, some false, none, none, some false, some false, some false], [none, none, none, none, none, none, some false, some false, some false, some false, some false, none, none, some false, some false, some false], [none, none, none, none, none, none, some true, some false, some false, some false, some false, none, none, some false, some false, some false], [none, none, none, none, none, none, some true, some true, some false, some false, some false, none, none, some false, some false, some false], [none, none, none, none, none, none, some true, some true, some true, some false, some false, none, none, some false, some false, some false], [some true, some true, some true, some true, some true, some true, some true, some true, some true, some true, some false, none, none, some false, some false, some false], [none, none, none, none, none, none, none, none, none, none, none, some false, some false, none, some false, some false], [none, none, none, none, none, none, none, none, none, none, none, some true, some false, none, some false, some false], [some true, some true, some true, some true, some true, some true, some true, some true, some true, some true, some true, none, none, some false, some false, some false], [some true, some true, some true, some true, some true, some true, some true, some true, some true, some true, some true, some true, some true, some true, some false, some false], [some true, some true, some true, some true, some true, some true, some true, some true, some true, some true, some true, some true, some true, some true, some true, some false]]
set_option maxHeartbeats 1000000 in
theorem psd61 (d n : Nat) (hd : d < 99) (hn : n + 1 ≤ 2000) (i j : Nat) (hi : i < 4) (hj : j < 4) (r : List UInt8) (hr : r.length < 100000) : ECall Tryd.prog 39 [sP (ltr i :: 61 :: ltr j :: r), pI (d + 1 : Nat), .ptr 1000000 0] (nM n) (.tup [g4 oEq i j [], sP r, pB true]) (nM (n + 1)) := by
  have w1 := wr (n := (n : Int) + 1) (by omega) (by omega)
  have w2 := wr (n := (d : Int)) (by omega) (by omega)
  have hd1 : ¬ ((d : Int) + 1 < 1) := by omega
  have hn1 : ¬ ((2000 : Int) < (n : Int) + 1) := by omega
  have q1 : (3 : Int) ≤ (r.length : Int) + 1 + 1 + 1 := by omega
  have p1 : ((r.length : Int) + 1 + 1 + 1).toNat = r.length + 1 + 1 + 1 := by omega
  have g3 : ¬ ((r.length : Int) + 1 + 1 + 1 < 3) := by omega
  have x1 := bx3 (ltr i) 61 (ltr j) r
  have s1 : (ByteArray.mk ((ltr i) :: 61 :: (ltr j) :: r).toArray).size = r.length + 1 + 1 + 1 := by simp [ByteArray.size]
  have x2 := bx12 (ltr i) 61 (ltr j) r
  have l1 : (97 : Int) ≤ ((ltr i).toNat : Int) := by rw [ltr_toNat hi]; omega
  have u1 : ((ltr i).toNat : Int) ≤ 100 := by rw [ltr_toNat hi]; omega
  have v1 : IntKind.u8.wrap (((ltr i).toNat : Int) - 97) = i := by
    rw [ltr_toNat hi, show (((97 + i : Nat) : Int) - 97) = (i : Int) by omega]
    exact u8_small i hi
  have i1 := wr (n := (i : Int)) (by omega) (by omega)
  have l2 : (97 : Int) ≤ ((ltr j).toNat : Int) := by rw [ltr_toNat hj]; omega
  have u2 : ((ltr j).toNat : Int) ≤ 100 := by rw [ltr_toNat hj]; omega
  have v2 : IntKind.u8.wrap (((ltr j).toNat : Int) - 97) = j := by
    rw [ltr_toNat hj, show (((97 + j : Nat) : Int) - 97) = (j : Int) by omega]
    exact u8_small j hj
  have i2 := wr (n := (j : Int)) (by omega) (by omega)
  have n33 : (((ltr i).toNat : Int) == 33) = false := byte_ne (ltr_ne hi 33 (by decide))
  have n40 : (((ltr i).toNat : Int) == 40) = false := byte_ne (ltr_ne hi 40 (by decide))
  have n69 : (((ltr i).toNat : Int) == 69) = false := byte_ne (ltr_ne hi 69 (by decide))
  have q2 : (2 : Int) ≤ (r.length : Int) + 1 + 1 + 1 := by omega
  refine ecall_weak (fun w φ St v hSt h => g4_nil hSt h) ?_
  unfold nM nilT at *
  refine ecall_wp Tryd.func39 rfl (by kernel_rfl) ?_
  simp -dsimp [w1, hd1, hn1, s1, g3, n33, n40, n69, l1, u1, l2, u2]
  refine wk_dagS (fun bs => ⟨[(186, cnd (bs.getD 0 false) (sP (ltr i :: 61 :: ltr j :: r))), (187, cnd (bs.getD 1 false) (.t .fz (.v (.string oEq)))), (188, cnd (bs.getD 2 false) (sP (ltr i :: 61 :: ltr j :: r))), (189, cnd (bs.getD 3 false) (.t .fz (.v (.int .u8 ((ltr i).toNat : Int))))), (190, cnd (bs.getD 4 false) (.t .fz (.v (.int .u8 (i : Int))))), (191, cnd (bs.getD 5 false) (pI i)), (192, cnd (bs.getD 6 false) (sP (ltr i :: 61 :: ltr j :: r))), (193, cnd (bs.getD 7 false) (.t .fz (.v (.int .u8 ((ltr j).toNat : Int))))), (194, cnd (bs.getD 8 false) (.t .fz (.v (.int .u8 (j : Int))))), (195, cnd (bs.getD 9 false) (pI j)), (196, cnd (bs.getD 10 false) (.agg [.t .fz (.v (.string oEq)), pI i, pI j, .t .fz (.v (.slice none 0 0))])), (197, cnd (bs.getD 11 false) (sP (ltr i :: 61 :: ltr j :: r))), (198, cnd (bs.getD 12 false) (sP r)),
      (7, if bs.getD 14 false then sP r else .t .fz (.v (.string ⟨#[]⟩))), (8, if bs.getD 15 false then pB true else pB false), (0, sP (ltr i :: 61 :: ltr j :: r)), (6, .ptr 6 0)],
      [(6, .blk 24 (if bs.getD 13 false then [.t .fz (.v (.string oEq)), pI i, pI j, .t .fz (.v (.slice none 0 0))] else [.t .fz (.v (.string ByteArray.empty)), pI 0, pI 0, .t .fz (.v (.slice none 0 0))])), (1000000, .blk 3 [pI (n + 1 : Nat)])]⟩) ps21D ps21T ps21P mixed (by kernel_rfl) (le_of (by simp) (by simp)) ?_ ?_
  · unfold ps21P
    simp -dsimp [s1, x1, x2, q1, p1, q2, v1, i1, v2, i2, -Bool.forall_bool]
    repeat' first
      | intro _
      | with_reducible apply And.intro
      | (refine le_of (by simp) ?_
         simp; done)
      | (rename_i x
         cases x <;> simp -dsimp)
  · simp -dsimp
    refine retE_c (by simp -dsimp) (by simp)
set_option maxHeartbeats 1000000 in
theorem psd126 (d n : Nat) (hd : d < 99) (hn : n + 1 ≤ 2000) (i j : Nat) (hi : i < 4) (hj : j < 4) (r : List UInt8) (hr : r.length < 100000) : ECall Tryd.prog 39 [sP (ltr i :: 126 :: ltr j :: r), pI (d + 1 : Nat), .ptr 1000000 0] (nM n) (.tup [g4 oAd i j [], sP r, pB true]) (nM (n + 1)) := by
  have w1 := wr (n := (n : Int) + 1) (by omega) (by omega)
  have w2 := wr (n := (d : Int)) (by omega) (by omega)
  have hd1 : ¬ ((d : Int) + 1 < 1) := by omega
  have hn1 : ¬ ((2000 : Int) < (n : Int) + 1) := by omega
  have q1 : (3 : Int) ≤ (r.length : Int) + 1 + 1 + 1 := by omega
  have p1 : ((r.length : Int) + 1 + 1 + 1).toNat = r.length + 1 + 1 + 1 := by omega
  have g3 : ¬ ((r.length : Int) + 1 + 1 + 1 < 3) := by omega
  have x1 := bx3 (ltr i) 126 (ltr j) r
  have s1 : (ByteArray.mk ((ltr i) :: 126 :: (ltr j) :: r).toArray).size = r.length + 1 + 1 + 1 := by simp [ByteArray.size]
  have x2 := bx12 (ltr i) 126 (ltr j) r
  have l1 : (97 : Int) ≤ ((ltr i).toNat : Int) := by rw [ltr_toNat hi]; omega
  have u1 : ((ltr i).toNat : Int) ≤ 100 := by rw [ltr_toNat hi]; omega
  have v1 : IntKind.u8.wrap (((ltr i).toNat : Int) - 97) = i := by
    rw [ltr_toNat hi, show (((97 + i : Nat) : Int) - 97) = (i : Int) by omega]
    exact u8_small i hi
  have i1 := wr (n := (i : Int)) (by omega) (by omega)
  have l2 : (97 : Int) ≤ ((ltr j).toNat : Int) := by rw [ltr_toNat hj]; omega
  have u2 : ((ltr j).toNat : Int) ≤ 100 := by rw [ltr_toNat hj]; omega
  have v2 : IntKind.u8.wrap (((ltr j).toNat : Int) - 97) = j := by
    rw [ltr_toNat hj, show (((97 + j : Nat) : Int) - 97) = (j : Int) by omega]
    exact u8_small j hj
  have i2 := wr (n := (j : Int)) (by omega) (by omega)
  have n33 : (((ltr i).toNat : Int) == 33) = false := byte_ne (ltr_ne hi 33 (by decide))
  have n40 : (((ltr i).toNat : Int) == 40) = false := byte_ne (ltr_ne hi 40 (by decide))
  have n69 : (((ltr i).toNat : Int) == 69) = false := byte_ne (ltr_ne hi 69 (by decide))
  have q2 : (2 : Int) ≤ (r.length : Int) + 1 + 1 + 1 := by omega
  refine ecall_weak (fun w φ St v hSt h => g4_nil hSt h) ?_
  unfold nM nilT at *
  refine ecall_wp Tryd.func39 rfl (by kernel_rfl) ?_
  simp -dsimp [w1, hd1, hn1, s1, g3, n33, n40, n69, l1, u1, l2, u2]
  refine wk_dagS (fun bs => ⟨[(186, cnd (bs.getD 0 false) (sP (ltr i :: 126 :: ltr j :: r))), (187, cnd (bs.getD 1 false) (.t .fz (.v (.string oAd)))), (188, cnd (bs.getD 2 false) (sP (ltr i :: 126 :: ltr j :: r))), (189, cnd (bs.getD 3 false) (.t .fz (.v (.int .u8 ((ltr i).toNat : Int))))), (190, cnd (bs.getD 4 false) (.t .fz (.v (.int .u8 (i : Int))))), (191, cnd (bs.getD 5 false) (pI i)), (192, cnd (bs.getD 6 false) (sP (ltr i :: 126 :: ltr j :: r))), (193, cnd (bs.getD 7 false) (.t .fz (.v (.int .u8 ((ltr j).toNat : Int))))), (194, cnd (bs.getD 8 false) (.t .fz (.v (.int .u8 (j : Int))))), (195, cnd (bs.getD 9 false) (pI j)), (196, cnd (bs.getD 10 false) (.agg [.t .fz (.v (.string oAd)), pI i, pI j, .t .fz (.v (.slice none 0 0))])), (197, cnd (bs.getD 11 false) (sP (ltr i :: 126 :: ltr j :: r))), (198, cnd (bs.getD 12 false) (sP r)),
      (7, if bs.getD 14 false then sP r else .t .fz (.v (.string ⟨#[]⟩))), (8, if bs.getD 15 false then pB true else pB false), (0, sP (ltr i :: 126 :: ltr j :: r)), (6, .ptr 6 0)],
      [(6, .blk 24 (if bs.getD 13 false then [.t .fz (.v (.string oAd)), pI i, pI j, .t .fz (.v (.slice none 0 0))] else [.t .fz (.v (.string ByteArray.empty)), pI 0, pI 0, .t .fz (.v (.slice none 0 0))])), (1000000, .blk 3 [pI (n + 1 : Nat)])]⟩) ps21D ps21T ps21P mixed (by kernel_rfl) (le_of (by simp) (by simp)) ?_ ?_
  · unfold ps21P
    simp -dsimp [s1, x1, x2, q1, p1, q2, v1, i1, v2, i2, -Bool.forall_bool]
    repeat' first
      | intro _
      | with_reducible apply And.intro
      | (refine le_of (by simp) ?_
         simp; done)
      | (rename_i x
         cases x <;> simp -dsimp)
  · simp -dsimp
    refine retE_c (by simp -dsimp) (by simp)
end Go.Proofs.YtnikonhkbldnnaaDoor
