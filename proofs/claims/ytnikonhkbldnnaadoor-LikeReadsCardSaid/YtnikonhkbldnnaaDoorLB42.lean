import Derived.Test.YtnikonhkbldnnaaDoorLB41
/- LB42: formula of the parser. -/
set_option linter.unusedVariables false
set_option linter.unusedSimpArgs false
set_option maxRecDepth 20000
namespace Go.Proofs.YtnikonhkbldnnaaDoor
open Go Go.PS
attribute [-simp] isKeyK List.map_take
def ftP : FT → PV
  | .mk o a b ks => .agg [.t .fz (.v (.string o)), pI a, pI b, .t .ro (.sl .any 4 (ks.map ftC))]
theorem ftP_nil {o : ByteArray} {x y : Int} {w : World} {φ : Nat → Value} {St : Kind → Nat → Prop} {v : Value} (hSt : ∀ k g, St k g → St .ro g) (h : PVRep w φ St (.agg [.t .fz (.v (.string o)), pI x, pI y, .t .fz nilT]) v) : PVRep w φ St (ftP (.mk o x y [])) v := by
  cases h with
  | agg vs hs hrep =>
    refine .agg vs hs fun j u hu => ?_
    rcases j with _ | _ | _ | _ | j
    · exact hrep 0 u (by simpa using hu)
    · exact hrep 1 u (by simpa using hu)
    · exact hrep 2 u (by simpa using hu)
    · simp at hu
      subst hu
      exact .t (nil4 ((hrep 3 _ rfl).t_inv.mono (fun _ _ => rfl) fun g hg => hSt _ _ hg))
    · simp at hu
theorem fo0 (s : List UInt8) : XPan Tryd.prog 54 [.ptr 1000000 0, pI 0] (pM s) wrC (pM s) := by
  unfold pM
  refine xpan_of Tryd.func54 rfl (by kernel_rfl) (wpkS_sound [2] _ _ _ ?_)
  simp -dsimp
  refine cw_raise0 undW (by simp) rfl rfl rfl rfl rfl rfl rfl rfl rfl (by decide) (by decide) (endx_c fun q hq => ?_)
  simp at hq
  subst hq
  left
  rfl
theorem foNoY (d : Nat) (hd : d < 100) (r r2 : List UInt8) (hr : r.length < 100000) (o : ByteArray) (a b : Int) (ks : List FT)
    (hrec : ECall Tryd.prog 54 [.ptr 1000000 0, pI d] (pM r) (ftP (.mk o a b ks)) (pM r2)) :
    ECall Tryd.prog 54 [.ptr 1000000 0, pI (d + 1 : Nat)] (pM (33 :: r)) (ftP (.mk oNo 0 0 [.mk o a b ks])) (pM r2) := by
  have ht := takeY 33 r (by omega)
  have w1 := wr (n := (d : Int)) (by omega) (by omega)
  have hz : ((d : Int) + 1 == 0) = false := by rw [beq_eq_false_iff_ne]; omega
  have hc := ftC_mk o a b ks
  unfold pM at *
  simp only [ftP] at hrec ⊢
  refine ecall_wpZ [20] Tryd.func54 rfl (by kernel_rfl) ?_
  simp -dsimp [hz]
  first
    | refine CallG.on (g := [(1000000, 1000000)]) (ht) (by decide) (by simp) (by simp) (by simp [Sg.bk]) ?_
    | refine CallN.on (g := [(1000000, 1000000)]) (ht) (by decide) (by simp) (by simp) (by simp [Sg.bk]) ?_
    | refine CallGB.on (g := [(1000000, 1000000)]) (ht) (by decide) (by simp) (by simp) (by simp [Sg.bk]) ?_
  simp -dsimp [w1]
  first
    | refine CallG.on (g := [(1000000, 1000000)]) (hrec) (by decide) (by simp) (by simp) (by simp [Sg.bk]) ?_
    | refine CallN.on (g := [(1000000, 1000000)]) (hrec) (by decide) (by simp) (by simp) (by simp [Sg.bk]) ?_
    | refine CallGB.on (g := [(1000000, 1000000)]) (hrec) (by decide) (by simp) (by simp) (by simp [Sg.bk]) ?_
  simp -dsimp
  refine retE_c (by simp -dsimp [hc]) (by simp [hc])
theorem foNoN (d : Nat) (hd : d < 100) (r r2 : List UInt8) (hr : r.length < 100000)
    (hrec : XPan Tryd.prog 54 [.ptr 1000000 0, pI d] (pM r) wrC (pM r2)) :
    XPan Tryd.prog 54 [.ptr 1000000 0, pI (d + 1 : Nat)] (pM (33 :: r)) wrC (pM r2) := by
  have ht := takeY 33 r (by omega)
  have w1 := wr (n := (d : Int)) (by omega) (by omega)
  have hz : ((d : Int) + 1 == 0) = false := by rw [beq_eq_false_iff_ne]; omega
  unfold pM at *
  refine xpan_of Tryd.func54 rfl (by kernel_rfl) (wpkS_sound [4] _ _ _ ?_)
  simp -dsimp [hz]
  first
    | refine CallG.on (g := [(1000000, 1000000)]) (ht) (by decide) (by simp) (by simp) (by simp [Sg.bk]) ?_
    | refine CallN.on (g := [(1000000, 1000000)]) (ht) (by decide) (by simp) (by simp) (by simp [Sg.bk]) ?_
    | refine CallGB.on (g := [(1000000, 1000000)]) (ht) (by decide) (by simp) (by simp) (by simp [Sg.bk]) ?_
  simp -dsimp
  refine cw_panicsG (l1 := [_, _, _]) (o := _) (l2 := [_, _, _]) rfl ?_
  simp -dsimp [w1]
  refine panK_c (g := [(1000000, 1000000)]) (hrec) rfl rfl rfl (by decide) rfl (by decide) (by simp) (by simp) (by simp [Sg.bk]) (endx_c fun q hq => ?_)
  simp at hq
  subst hq
  left
  rfl
theorem foAnY (d : Nat) (hd : d < 100) (r r1 r2 : List UInt8) (hr : r.length + 1 < 100000) (hr1 : r1.length < 100000) (hr2 : r2.length < 100000) (o : ByteArray) (a b : Int) (ks : List FT) (o2 : ByteArray) (a2 b2 : Int) (ks2 : List FT)
    (h1 : ECall Tryd.prog 54 [.ptr 1000000 0, pI d] (pM r) (ftP (.mk o a b ks)) (pM (38 :: r1))) (h2 : ECall Tryd.prog 54 [.ptr 1000000 0, pI d] (pM r1) (ftP (.mk o2 a2 b2 ks2)) (pM (41 :: r2))) :
    ECall Tryd.prog 54 [.ptr 1000000 0, pI (d + 1 : Nat)] (pM (40 :: r)) (ftP (.mk oAn 0 0 [.mk o a b ks, .mk o2 a2 b2 ks2])) (pM r2) := by
  have w1 := wr (n := (d : Int)) (by omega) (by omega)
  have hz : ((d : Int) + 1 == 0) = false := by rw [beq_eq_false_iff_ne]; omega
  have n1 := takeN 33 (40 :: r) (by simp; omega) (pTk_ne (by decide) r)
  have t1 := takeY 40 r (by omega)
  have m1 := mustY 38 r1 (by omega)
  have m2 := mustY 41 r2 (by omega)
  have hc := ftC_mk o a b ks
  have hc2 := ftC_mk o2 a2 b2 ks2
  unfold pM at *
  simp only [ftP] at h1 h2 ⊢
  refine ecall_wpZ [39] Tryd.func54 rfl (by kernel_rfl) ?_
  simp -dsimp [hz]
  first
    | refine CallG.on (g := [(1000000, 1000000)]) (n1) (by decide) (by simp) (by simp) (by simp [Sg.bk]) ?_
    | refine CallN.on (g := [(1000000, 1000000)]) (n1) (by decide) (by simp) (by simp) (by simp [Sg.bk]) ?_
    | refine CallGB.on (g := [(1000000, 1000000)]) (n1) (by decide) (by simp) (by simp) (by simp [Sg.bk]) ?_
  simp -dsimp
  first
    | refine CallG.on (g := [(1000000, 1000000)]) (t1) (by decide) (by simp) (by simp) (by simp [Sg.bk]) ?_
    | refine CallN.on (g := [(1000000, 1000000)]) (t1) (by decide) (by simp) (by simp) (by simp [Sg.bk]) ?_
    | refine CallGB.on (g := [(1000000, 1000000)]) (t1) (by decide) (by simp) (by simp) (by simp [Sg.bk]) ?_
  simp -dsimp [w1]
  first
    | refine CallG.on (g := [(1000000, 1000000)]) (h1) (by decide) (by simp) (by simp) (by simp [Sg.bk]) ?_
    | refine CallN.on (g := [(1000000, 1000000)]) (h1) (by decide) (by simp) (by simp) (by simp [Sg.bk]) ?_
    | refine CallGB.on (g := [(1000000, 1000000)]) (h1) (by decide) (by simp) (by simp) (by simp [Sg.bk]) ?_
  simp -dsimp
  first
    | refine CallG.on (g := [(1000000, 1000000)]) (m1) (by decide) (by simp) (by simp) (by simp [Sg.bk]) ?_
    | refine CallN.on (g := [(1000000, 1000000)]) (m1) (by decide) (by simp) (by simp) (by simp [Sg.bk]) ?_
    | refine CallGB.on (g := [(1000000, 1000000)]) (m1) (by decide) (by simp) (by simp) (by simp [Sg.bk]) ?_
  simp -dsimp [w1]
  first
    | refine CallG.on (g := [(1000000, 1000000)]) (h2) (by decide) (by simp) (by simp) (by simp [Sg.bk]) ?_
    | refine CallN.on (g := [(1000000, 1000000)]) (h2) (by decide) (by simp) (by simp) (by simp [Sg.bk]) ?_
    | refine CallGB.on (g := [(1000000, 1000000)]) (h2) (by decide) (by simp) (by simp) (by simp [Sg.bk]) ?_
  simp -dsimp
  first
    | refine CallG.on (g := [(1000000, 1000000)]) (m2) (by decide) (by simp) (by simp) (by simp [Sg.bk]) ?_
    | refine CallN.on (g := [(1000000, 1000000)]) (m2) (by decide) (by simp) (by simp) (by simp [Sg.bk]) ?_
    | refine CallGB.on (g := [(1000000, 1000000)]) (m2) (by decide) (by simp) (by simp) (by simp [Sg.bk]) ?_
  simp -dsimp
  refine retE_c (by simp -dsimp [hc, hc2]) (by simp [hc, hc2])
theorem foAnN1 (d : Nat) (hd : d < 100) (r x : List UInt8) (hr : r.length + 1 < 100000)
    (h1 : XPan Tryd.prog 54 [.ptr 1000000 0, pI d] (pM r) wrC (pM x)) :
    XPan Tryd.prog 54 [.ptr 1000000 0, pI (d + 1 : Nat)] (pM (40 :: r)) wrC (pM x) := by
  have w1 := wr (n := (d : Int)) (by omega) (by omega)
  have hz : ((d : Int) + 1 == 0) = false := by rw [beq_eq_false_iff_ne]; omega
  have n1 := takeN 33 (40 :: r) (by simp; omega) (pTk_ne (by decide) r)
  have t1 := takeY 40 r (by omega)
  unfold pM at *
  refine xpan_of Tryd.func54 rfl (by kernel_rfl) (wpkS_sound [6] _ _ _ ?_)
  simp -dsimp [hz]
  first
    | refine CallG.on (g := [(1000000, 1000000)]) (n1) (by decide) (by simp) (by simp) (by simp [Sg.bk]) ?_
    | refine CallN.on (g := [(1000000, 1000000)]) (n1) (by decide) (by simp) (by simp) (by simp [Sg.bk]) ?_
    | refine CallGB.on (g := [(1000000, 1000000)]) (n1) (by decide) (by simp) (by simp) (by simp [Sg.bk]) ?_
  simp -dsimp
  first
    | refine CallG.on (g := [(1000000, 1000000)]) (t1) (by decide) (by simp) (by simp) (by simp [Sg.bk]) ?_
    | refine CallN.on (g := [(1000000, 1000000)]) (t1) (by decide) (by simp) (by simp) (by simp [Sg.bk]) ?_
    | refine CallGB.on (g := [(1000000, 1000000)]) (t1) (by decide) (by simp) (by simp) (by simp [Sg.bk]) ?_
  simp -dsimp
  refine cw_panicsG (l1 := [_, _, _]) (o := _) (l2 := [_, _]) rfl ?_
  simp -dsimp [w1]
  refine panK_c (g := [(1000000, 1000000)]) (h1) rfl rfl rfl (by decide) rfl (by decide) (by simp) (by simp) (by simp [Sg.bk]) (endx_c fun q hq => ?_)
  simp at hq
  subst hq
  left
  rfl
theorem foAnN2 (d : Nat) (hd : d < 100) (r r1 : List UInt8) (hr : r.length + 1 < 100000) (hr1 : r1.length < 100000) (hn : pTk 38 r1 = none) (o : ByteArray) (a b : Int) (ks : List FT)
    (h1 : ECall Tryd.prog 54 [.ptr 1000000 0, pI d] (pM r) (ftP (.mk o a b ks)) (pM r1)) :
    XPan Tryd.prog 54 [.ptr 1000000 0, pI (d + 1 : Nat)] (pM (40 :: r)) wrC (pM r1) := by
  have w1 := wr (n := (d : Int)) (by omega) (by omega)
  have hz : ((d : Int) + 1 == 0) = false := by rw [beq_eq_false_iff_ne]; omega
  have n1 := takeN 33 (40 :: r) (by simp; omega) (pTk_ne (by decide) r)
  have t1 := takeY 40 r (by omega)
  have m1 := mustN 38 r1 (by omega) hn
  unfold pM at *
  simp only [ftP] at h1
  refine xpan_of Tryd.func54 rfl (by kernel_rfl) (wpkS_sound [7] _ _ _ ?_)
  simp -dsimp [hz]
  first
    | refine CallG.on (g := [(1000000, 1000000)]) (n1) (by decide) (by simp) (by simp) (by simp [Sg.bk]) ?_
    | refine CallN.on (g := [(1000000, 1000000)]) (n1) (by decide) (by simp) (by simp) (by simp [Sg.bk]) ?_
    | refine CallGB.on (g := [(1000000, 1000000)]) (n1) (by decide) (by simp) (by simp) (by simp [Sg.bk]) ?_
  simp -dsimp
  first
    | refine CallG.on (g := [(1000000, 1000000)]) (t1) (by decide) (by simp) (by simp) (by simp [Sg.bk]) ?_
    | refine CallN.on (g := [(1000000, 1000000)]) (t1) (by decide) (by simp) (by simp) (by simp [Sg.bk]) ?_
    | refine CallGB.on (g := [(1000000, 1000000)]) (t1) (by decide) (by simp) (by simp) (by simp [Sg.bk]) ?_
  simp -dsimp [w1]
  first
    | refine CallG.on (g := [(1000000, 1000000)]) (h1) (by decide) (by simp) (by simp) (by simp [Sg.bk]) ?_
    | refine CallN.on (g := [(1000000, 1000000)]) (h1) (by decide) (by simp) (by simp) (by simp [Sg.bk]) ?_
    | refine CallGB.on (g := [(1000000, 1000000)]) (h1) (by decide) (by simp) (by simp) (by simp [Sg.bk]) ?_
  simp -dsimp
  refine cw_panicsG (l1 := [_]) (o := _) (l2 := []) rfl ?_
  simp -dsimp
  refine panK_c (g := [(1000000, 1000000)]) (m1) rfl rfl rfl (by decide) rfl (by decide) (by simp) (by simp) (by simp [Sg.bk]) (endx_c fun q hq => ?_)
  simp at hq
  subst hq
  left
  rfl
theorem foAnN3 (d : Nat) (hd : d < 100) (r r1 x : List UInt8) (hr : r.length + 1 < 100000) (hr1 : r1.length < 100000) (o : ByteArray) (a b : Int) (ks : List FT)
    (h1 : ECall Tryd.prog 54 [.ptr 1000000 0, pI d] (pM r) (ftP (.mk o a b ks)) (pM (38 :: r1))) (h2 : XPan Tryd.prog 54 [.ptr 1000000 0, pI d] (pM r1) wrC (pM x)) :
    XPan Tryd.prog 54 [.ptr 1000000 0, pI (d + 1 : Nat)] (pM (40 :: r)) wrC (pM x) := by
  have w1 := wr (n := (d : Int)) (by omega) (by omega)
  have hz : ((d : Int) + 1 == 0) = false := by rw [beq_eq_false_iff_ne]; omega
  have n1 := takeN 33 (40 :: r) (by simp; omega) (pTk_ne (by decide) r)
  have t1 := takeY 40 r (by omega)
  have m1 := mustY 38 r1 (by omega)
  unfold pM at *
  simp only [ftP] at h1
  refine xpan_of Tryd.func54 rfl (by kernel_rfl) (wpkS_sound [8] _ _ _ ?_)
  simp -dsimp [hz]
  first
    | refine CallG.on (g := [(1000000, 1000000)]) (n1) (by decide) (by simp) (by simp) (by simp [Sg.bk]) ?_
    | refine CallN.on (g := [(1000000, 1000000)]) (n1) (by decide) (by simp) (by simp) (by simp [Sg.bk]) ?_
    | refine CallGB.on (g := [(1000000, 1000000)]) (n1) (by decide) (by simp) (by simp) (by simp [Sg.bk]) ?_
  simp -dsimp
  first
    | refine CallG.on (g := [(1000000, 1000000)]) (t1) (by decide) (by simp) (by simp) (by simp [Sg.bk]) ?_
    | refine CallN.on (g := [(1000000, 1000000)]) (t1) (by decide) (by simp) (by simp) (by simp [Sg.bk]) ?_
    | refine CallGB.on (g := [(1000000, 1000000)]) (t1) (by decide) (by simp) (by simp) (by simp [Sg.bk]) ?_
  simp -dsimp [w1]
  first
    | refine CallG.on (g := [(1000000, 1000000)]) (h1) (by decide) (by simp) (by simp) (by simp [Sg.bk]) ?_
    | refine CallN.on (g := [(1000000, 1000000)]) (h1) (by decide) (by simp) (by simp) (by simp [Sg.bk]) ?_
    | refine CallGB.on (g := [(1000000, 1000000)]) (h1) (by decide) (by simp) (by simp) (by simp [Sg.bk]) ?_
  simp -dsimp
  first
    | refine CallG.on (g := [(1000000, 1000000)]) (m1) (by decide) (by simp) (by simp) (by simp [Sg.bk]) ?_
    | refine CallN.on (g := [(1000000, 1000000)]) (m1) (by decide) (by simp) (by simp) (by simp [Sg.bk]) ?_
    | refine CallGB.on (g := [(1000000, 1000000)]) (m1) (by decide) (by simp) (by simp) (by simp [Sg.bk]) ?_
  simp -dsimp
  refine cw_panicsG (l1 := [_, _, _]) (o := _) (l2 := [_, _]) rfl ?_
  simp -dsimp [w1]
  refine panK_c (g := [(1000000, 1000000)]) (h2) rfl rfl rfl (by decide) rfl (by decide) (by simp) (by simp) (by simp [Sg.bk]) (endx_c fun q hq => ?_)
  simp at hq
  subst hq
  left
  rfl
theorem foAnN4 (d : Nat) (hd : d < 100) (r r1 r2 : List UInt8) (hr : r.length + 1 < 100000) (hr1 : r1.length < 100000) (hr2 : r2.length < 100000) (hn : pTk 41 r2 = none) (o : ByteArray) (a b : Int) (ks : List FT) (o2 : ByteArray) (a2 b2 : Int) (ks2 : List FT)
    (h1 : ECall Tryd.prog 54 [.ptr 1000000 0, pI d] (pM r) (ftP (.mk o a b ks)) (pM (38 :: r1))) (h2 : ECall Tryd.prog 54 [.ptr 1000000 0, pI d] (pM r1) (ftP (.mk o2 a2 b2 ks2)) (pM r2)) :
    XPan Tryd.prog 54 [.ptr 1000000 0, pI (d + 1 : Nat)] (pM (40 :: r)) wrC (pM r2) := by
  have w1 := wr (n := (d : Int)) (by omega) (by omega)
  have hz : ((d : Int) + 1 == 0) = false := by rw [beq_eq_false_iff_ne]; omega
  have n1 := takeN 33 (40 :: r) (by simp; omega) (pTk_ne (by decide) r)
  have t1 := takeY 40 r (by omega)
  have m1 := mustY 38 r1 (by omega)
  have m2 := mustN 41 r2 (by omega) hn
  unfold pM at *
  simp only [ftP] at h1 h2
  refine xpan_of Tryd.func54 rfl (by kernel_rfl) (wpkS_sound [9] _ _ _ ?_)
  simp -dsimp [hz]
  first
    | refine CallG.on (g := [(1000000, 1000000)]) (n1) (by decide) (by simp) (by simp) (by simp [Sg.bk]) ?_
    | refine CallN.on (g := [(1000000, 1000000)]) (n1) (by decide) (by simp) (by simp) (by simp [Sg.bk]) ?_
    | refine CallGB.on (g := [(1000000, 1000000)]) (n1) (by decide) (by simp) (by simp) (by simp [Sg.bk]) ?_
  simp -dsimp
  first
    | refine CallG.on (g := [(1000000, 1000000)]) (t1) (by decide) (by simp) (by simp) (by simp [Sg.bk]) ?_
    | refine CallN.on (g := [(1000000, 1000000)]) (t1) (by decide) (by simp) (by simp) (by simp [Sg.bk]) ?_
    | refine CallGB.on (g := [(1000000, 1000000)]) (t1) (by decide) (by simp) (by simp) (by simp [Sg.bk]) ?_
  simp -dsimp [w1]
  first
    | refine CallG.on (g := [(1000000, 1000000)]) (h1) (by decide) (by simp) (by simp) (by simp [Sg.bk]) ?_
    | refine CallN.on (g := [(1000000, 1000000)]) (h1) (by decide) (by simp) (by simp) (by simp [Sg.bk]) ?_
    | refine CallGB.on (g := [(1000000, 1000000)]) (h1) (by decide) (by simp) (by simp) (by simp [Sg.bk]) ?_
  simp -dsimp
  first
    | refine CallG.on (g := [(1000000, 1000000)]) (m1) (by decide) (by simp) (by simp) (by simp [Sg.bk]) ?_
    | refine CallN.on (g := [(1000000, 1000000)]) (m1) (by decide) (by simp) (by simp) (by simp [Sg.bk]) ?_
    | refine CallGB.on (g := [(1000000, 1000000)]) (m1) (by decide) (by simp) (by simp) (by simp [Sg.bk]) ?_
  simp -dsimp [w1]
  first
    | refine CallG.on (g := [(1000000, 1000000)]) (h2) (by decide) (by simp) (by simp) (by simp [Sg.bk]) ?_
    | refine CallN.on (g := [(1000000, 1000000)]) (h2) (by decide) (by simp) (by simp) (by simp [Sg.bk]) ?_
    | refine CallGB.on (g := [(1000000, 1000000)]) (h2) (by decide) (by simp) (by simp) (by simp [Sg.bk]) ?_
  simp -dsimp
  refine cw_panicsG (l1 := [_]) (o := _) (l2 := []) rfl ?_
  simp -dsimp
  refine panK_c (g := [(1000000, 1000000)]) (m2) rfl rfl rfl (by decide) rfl (by decide) (by simp) (by simp) (by simp [Sg.bk]) (endx_c fun q hq => ?_)
  simp at hq
  subst hq
  left
  rfl
theorem foExY (d : Nat) (hd : d < 100) (x : Nat) (hx : x < 4) (r r2 : List UInt8) (hr : r.length + 3 < 100000) (o : ByteArray) (a b : Int) (ks : List FT)
    (h1 : ECall Tryd.prog 54 [.ptr 1000000 0, pI d] (pM r) (ftP (.mk o a b ks)) (pM r2)) :
    ECall Tryd.prog 54 [.ptr 1000000 0, pI (d + 1 : Nat)] (pM (69 :: ltr x :: 32 :: r)) (ftP (.mk oEx x 0 [.mk o a b ks])) (pM r2) := by
  have w1 := wr (n := (d : Int)) (by omega) (by omega)
  have hz : ((d : Int) + 1 == 0) = false := by rw [beq_eq_false_iff_ne]; omega
  have n1 := takeN 33 (69 :: ltr x :: 32 :: r) (by simp; omega) (pTk_ne (by decide) _)
  have n2 := takeN 40 (69 :: ltr x :: 32 :: r) (by simp; omega) (pTk_ne (by decide) _)
  have t1 := takeY 69 (ltr x :: 32 :: r) (by simp; omega)
  have v1 := variY x hx (32 :: r) (by simp; omega)
  have m1 := mustY 32 r (by omega)
  have hc := ftC_mk o a b ks
  unfold pM at *
  simp only [ftP] at h1 ⊢
  refine ecall_wpZ [53] Tryd.func54 rfl (by kernel_rfl) ?_
  simp -dsimp [hz]
  first
    | refine CallG.on (g := [(1000000, 1000000)]) (n1) (by decide) (by simp) (by simp) (by simp [Sg.bk]) ?_
    | refine CallN.on (g := [(1000000, 1000000)]) (n1) (by decide) (by simp) (by simp) (by simp [Sg.bk]) ?_
    | refine CallGB.on (g := [(1000000, 1000000)]) (n1) (by decide) (by simp) (by simp) (by simp [Sg.bk]) ?_
  simp -dsimp
  first
    | refine CallG.on (g := [(1000000, 1000000)]) (n2) (by decide) (by simp) (by simp) (by simp [Sg.bk]) ?_
    | refine CallN.on (g := [(1000000, 1000000)]) (n2) (by decide) (by simp) (by simp) (by simp [Sg.bk]) ?_
    | refine CallGB.on (g := [(1000000, 1000000)]) (n2) (by decide) (by simp) (by simp) (by simp [Sg.bk]) ?_
  simp -dsimp
  first
    | refine CallG.on (g := [(1000000, 1000000)]) (t1) (by decide) (by simp) (by simp) (by simp [Sg.bk]) ?_
    | refine CallN.on (g := [(1000000, 1000000)]) (t1) (by decide) (by simp) (by simp) (by simp [Sg.bk]) ?_
    | refine CallGB.on (g := [(1000000, 1000000)]) (t1) (by decide) (by simp) (by simp) (by simp [Sg.bk]) ?_
  simp -dsimp
  first
    | refine CallG.on (g := [(1000000, 1000000)]) (v1) (by decide) (by simp) (by simp) (by simp [Sg.bk]) ?_
    | refine CallN.on (g := [(1000000, 1000000)]) (v1) (by decide) (by simp) (by simp) (by simp [Sg.bk]) ?_
    | refine CallGB.on (g := [(1000000, 1000000)]) (v1) (by decide) (by simp) (by simp) (by simp [Sg.bk]) ?_
  simp -dsimp
  first
    | refine CallG.on (g := [(1000000, 1000000)]) (m1) (by decide) (by simp) (by simp) (by simp [Sg.bk]) ?_
    | refine CallN.on (g := [(1000000, 1000000)]) (m1) (by decide) (by simp) (by simp) (by simp [Sg.bk]) ?_
    | refine CallGB.on (g := [(1000000, 1000000)]) (m1) (by decide) (by simp) (by simp) (by simp [Sg.bk]) ?_
  simp -dsimp [w1]
  first
    | refine CallG.on (g := [(1000000, 1000000)]) (h1) (by decide) (by simp) (by simp) (by simp [Sg.bk]) ?_
    | refine CallN.on (g := [(1000000, 1000000)]) (h1) (by decide) (by simp) (by simp) (by simp [Sg.bk]) ?_
    | refine CallGB.on (g := [(1000000, 1000000)]) (h1) (by decide) (by simp) (by simp) (by simp [Sg.bk]) ?_
  simp -dsimp
  refine retE_c (by simp -dsimp [hc]) (by simp [hc])
theorem foExN1 (d : Nat) (hd : d < 100) (r : List UInt8) (hr : r.length + 1 < 100000)
    (hn : pVar r = none) :
    XPan Tryd.prog 54 [.ptr 1000000 0, pI (d + 1 : Nat)] (pM (69 :: r)) wrC (pM r) := by
  have w1 := wr (n := (d : Int)) (by omega) (by omega)
  have hz : ((d : Int) + 1 == 0) = false := by rw [beq_eq_false_iff_ne]; omega
  have n1 := takeN 33 (69 :: r) (by simp; omega) (pTk_ne (by decide) r)
  have n2 := takeN 40 (69 :: r) (by simp; omega) (pTk_ne (by decide) r)
  have t1 := takeY 69 r (by omega)
  have v1 := variN r (by omega) hn
  unfold pM at *
  refine xpan_of Tryd.func54 rfl (by kernel_rfl) (wpkS_sound [12] _ _ _ ?_)
  simp -dsimp [hz]
  first
    | refine CallG.on (g := [(1000000, 1000000)]) (n1) (by decide) (by simp) (by simp) (by simp [Sg.bk]) ?_
    | refine CallN.on (g := [(1000000, 1000000)]) (n1) (by decide) (by simp) (by simp) (by simp [Sg.bk]) ?_
    | refine CallGB.on (g := [(1000000, 1000000)]) (n1) (by decide) (by simp) (by simp) (by simp [Sg.bk]) ?_
  simp -dsimp
  first
    | refine CallG.on (g := [(1000000, 1000000)]) (n2) (by decide) (by simp) (by simp) (by simp [Sg.bk]) ?_
    | refine CallN.on (g := [(1000000, 1000000)]) (n2) (by decide) (by simp) (by simp) (by simp [Sg.bk]) ?_
    | refine CallGB.on (g := [(1000000, 1000000)]) (n2) (by decide) (by simp) (by simp) (by simp [Sg.bk]) ?_
  simp -dsimp
  first
    | refine CallG.on (g := [(1000000, 1000000)]) (t1) (by decide) (by simp) (by simp) (by simp [Sg.bk]) ?_
    | refine CallN.on (g := [(1000000, 1000000)]) (t1) (by decide) (by simp) (by simp) (by simp [Sg.bk]) ?_
    | refine CallGB.on (g := [(1000000, 1000000)]) (t1) (by decide) (by simp) (by simp) (by simp [Sg.bk]) ?_
  simp -dsimp
  refine cw_panicsG (l1 := [_]) (o := _) (l2 := [_]) rfl ?_
  simp -dsimp
  refine panK_c (g := [(1000000, 1000000)]) (v1) rfl rfl rfl (by decide) rfl (by decide) (by simp) (by simp) (by simp [Sg.bk]) (endx_c fun q hq => ?_)
  simp at hq
  subst hq
  left
  rfl
theorem foExN2 (d : Nat) (hd : d < 100) (x : Nat) (hx : x < 4) (r : List UInt8) (hr : r.length + 2 < 100000)
    (hn : pTk 32 r = none) :
    XPan Tryd.prog 54 [.ptr 1000000 0, pI (d + 1 : Nat)] (pM (69 :: ltr x :: r)) wrC (pM r) := by
  have w1 := wr (n := (d : Int)) (by omega) (by omega)
  have hz : ((d : Int) + 1 == 0) = false := by rw [beq_eq_false_iff_ne]; omega
  have n1 := takeN 33 (69 :: ltr x :: r) (by simp; omega) (pTk_ne (by decide) _)
  have n2 := takeN 40 (69 :: ltr x :: r) (by simp; omega) (pTk_ne (by decide) _)
  have t1 := takeY 69 (ltr x :: r) (by simp; omega)
  have v1 := variY x hx r (by omega)
  have m1 := mustN 32 r (by omega) hn
  unfold pM at *
  refine xpan_of Tryd.func54 rfl (by kernel_rfl) (wpkS_sound [13] _ _ _ ?_)
  simp -dsimp [hz]
  first
    | refine CallG.on (g := [(1000000, 1000000)]) (n1) (by decide) (by simp) (by simp) (by simp [Sg.bk]) ?_
    | refine CallN.on (g := [(1000000, 1000000)]) (n1) (by decide) (by simp) (by simp) (by simp [Sg.bk]) ?_
    | refine CallGB.on (g := [(1000000, 1000000)]) (n1) (by decide) (by simp) (by simp) (by simp [Sg.bk]) ?_
  simp -dsimp
  first
    | refine CallG.on (g := [(1000000, 1000000)]) (n2) (by decide) (by simp) (by simp) (by simp [Sg.bk]) ?_
    | refine CallN.on (g := [(1000000, 1000000)]) (n2) (by decide) (by simp) (by simp) (by simp [Sg.bk]) ?_
    | refine CallGB.on (g := [(1000000, 1000000)]) (n2) (by decide) (by simp) (by simp) (by simp [Sg.bk]) ?_
  simp -dsimp
  first
    | refine CallG.on (g := [(1000000, 1000000)]) (t1) (by decide) (by simp) (by simp) (by simp [Sg.bk]) ?_
    | refine CallN.on (g := [(1000000, 1000000)]) (t1) (by decide) (by simp) (by simp) (by simp [Sg.bk]) ?_
    | refine CallGB.on (g := [(1000000, 1000000)]) (t1) (by decide) (by simp) (by simp) (by simp [Sg.bk]) ?_
  simp -dsimp
  first
    | refine CallG.on (g := [(1000000, 1000000)]) (v1) (by decide) (by simp) (by simp) (by simp [Sg.bk]) ?_
    | refine CallN.on (g := [(1000000, 1000000)]) (v1) (by decide) (by simp) (by simp) (by simp [Sg.bk]) ?_
    | refine CallGB.on (g := [(1000000, 1000000)]) (v1) (by decide) (by simp) (by simp) (by simp [Sg.bk]) ?_
  simp -dsimp
  refine cw_panicsG (l1 := [_]) (o := _) (l2 := []) rfl ?_
  simp -dsimp
  refine panK_c (g := [(1000000, 1000000)]) (m1) rfl rfl rfl (by decide) rfl (by decide) (by simp) (by simp) (by simp [Sg.bk]) (endx_c fun q hq => ?_)
  simp at hq
  subst hq
  left
  rfl
theorem foExN3 (d : Nat) (hd : d < 100) (x : Nat) (hx : x < 4) (r y : List UInt8) (hr : r.length + 3 < 100000)
    (h1 : XPan Tryd.prog 54 [.ptr 1000000 0, pI d] (pM r) wrC (pM y)) :
    XPan Tryd.prog 54 [.ptr 1000000 0, pI (d + 1 : Nat)] (pM (69 :: ltr x :: 32 :: r)) wrC (pM y) := by
  have w1 := wr (n := (d : Int)) (by omega) (by omega)
  have hz : ((d : Int) + 1 == 0) = false := by rw [beq_eq_false_iff_ne]; omega
  have n1 := takeN 33 (69 :: ltr x :: 32 :: r) (by simp; omega) (pTk_ne (by decide) _)
  have n2 := takeN 40 (69 :: ltr x :: 32 :: r) (by simp; omega) (pTk_ne (by decide) _)
  have t1 := takeY 69 (ltr x :: 32 :: r) (by simp; omega)
  have v1 := variY x hx (32 :: r) (by simp; omega)
  have m1 := mustY 32 r (by omega)
  unfold pM at *
  refine xpan_of Tryd.func54 rfl (by kernel_rfl) (wpkS_sound [14] _ _ _ ?_)
  simp -dsimp [hz]
  first
    | refine CallG.on (g := [(1000000, 1000000)]) (n1) (by decide) (by simp) (by simp) (by simp [Sg.bk]) ?_
    | refine CallN.on (g := [(1000000, 1000000)]) (n1) (by decide) (by simp) (by simp) (by simp [Sg.bk]) ?_
    | refine CallGB.on (g := [(1000000, 1000000)]) (n1) (by decide) (by simp) (by simp) (by simp [Sg.bk]) ?_
  simp -dsimp
  first
    | refine CallG.on (g := [(1000000, 1000000)]) (n2) (by decide) (by simp) (by simp) (by simp [Sg.bk]) ?_
    | refine CallN.on (g := [(1000000, 1000000)]) (n2) (by decide) (by simp) (by simp) (by simp [Sg.bk]) ?_
    | refine CallGB.on (g := [(1000000, 1000000)]) (n2) (by decide) (by simp) (by simp) (by simp [Sg.bk]) ?_
  simp -dsimp
  first
    | refine CallG.on (g := [(1000000, 1000000)]) (t1) (by decide) (by simp) (by simp) (by simp [Sg.bk]) ?_
    | refine CallN.on (g := [(1000000, 1000000)]) (t1) (by decide) (by simp) (by simp) (by simp [Sg.bk]) ?_
    | refine CallGB.on (g := [(1000000, 1000000)]) (t1) (by decide) (by simp) (by simp) (by simp [Sg.bk]) ?_
  simp -dsimp
  first
    | refine CallG.on (g := [(1000000, 1000000)]) (v1) (by decide) (by simp) (by simp) (by simp [Sg.bk]) ?_
    | refine CallN.on (g := [(1000000, 1000000)]) (v1) (by decide) (by simp) (by simp) (by simp [Sg.bk]) ?_
    | refine CallGB.on (g := [(1000000, 1000000)]) (v1) (by decide) (by simp) (by simp) (by simp [Sg.bk]) ?_
  simp -dsimp
  first
    | refine CallG.on (g := [(1000000, 1000000)]) (m1) (by decide) (by simp) (by simp) (by simp [Sg.bk]) ?_
    | refine CallN.on (g := [(1000000, 1000000)]) (m1) (by decide) (by simp) (by simp) (by simp [Sg.bk]) ?_
    | refine CallGB.on (g := [(1000000, 1000000)]) (m1) (by decide) (by simp) (by simp) (by simp [Sg.bk]) ?_
  simp -dsimp
  refine cw_panicsG (l1 := [_, _, _, _]) (o := _) (l2 := [_, _, _]) rfl ?_
  simp -dsimp [w1]
  refine panK_c (g := [(1000000, 1000000)]) (h1) rfl rfl rfl (by decide) rfl (by decide) (by simp) (by simp) (by simp [Sg.bk]) (endx_c fun q hq => ?_)
  simp at hq
  subst hq
  left
  rfl
theorem foEqY (d : Nat) (hd : d < 100) (x y : Nat) (hx : x < 4) (hy : y < 4) (r : List UInt8) (hr : r.length + 3 < 100000)
    (h3 : pTk 33 (ltr x :: 61 :: ltr y :: r) = none) (h4 : pTk 40 (ltr x :: 61 :: ltr y :: r) = none) (h5 : pTk 69 (ltr x :: 61 :: ltr y :: r) = none) :
    ECall Tryd.prog 54 [.ptr 1000000 0, pI (d + 1 : Nat)] (pM (ltr x :: 61 :: ltr y :: r)) (ftP (.mk oEq x y [])) (pM r) := by
  have w1 := wr (n := (d : Int)) (by omega) (by omega)
  have hz : ((d : Int) + 1 == 0) = false := by rw [beq_eq_false_iff_ne]; omega
  have n1 := takeN 33 (ltr x :: 61 :: ltr y :: r) (by simp; omega) h3
  have n2 := takeN 40 (ltr x :: 61 :: ltr y :: r) (by simp; omega) h4
  have n3 := takeN 69 (ltr x :: 61 :: ltr y :: r) (by simp; omega) h5
  have v1 := variY x hx (61 :: ltr y :: r) (by simp; omega)
  have v2 := variY y hy r (by omega)
  have m1 := takeY 61 (ltr y :: r) (by simp; omega)
  refine ecall_weak (r := .agg [.t .fz (.v (.string oEq)), pI x, pI y, .t .fz nilT]) (fun w φ St v hSt h => ?_) ?_
  · exact ftP_nil hSt h
  unfold pM nilT at *
  refine ecall_wpZ [] Tryd.func54 rfl (by kernel_rfl) ?_
  simp -dsimp [hz]
  first
    | refine CallG.on (g := [(1000000, 1000000)]) (n1) (by decide) (by simp) (by simp) (by simp [Sg.bk]) ?_
    | refine CallN.on (g := [(1000000, 1000000)]) (n1) (by decide) (by simp) (by simp) (by simp [Sg.bk]) ?_
    | refine CallGB.on (g := [(1000000, 1000000)]) (n1) (by decide) (by simp) (by simp) (by simp [Sg.bk]) ?_
  simp -dsimp
  first
    | refine CallG.on (g := [(1000000, 1000000)]) (n2) (by decide) (by simp) (by simp) (by simp [Sg.bk]) ?_
    | refine CallN.on (g := [(1000000, 1000000)]) (n2) (by decide) (by simp) (by simp) (by simp [Sg.bk]) ?_
    | refine CallGB.on (g := [(1000000, 1000000)]) (n2) (by decide) (by simp) (by simp) (by simp [Sg.bk]) ?_
  simp -dsimp
  first
    | refine CallG.on (g := [(1000000, 1000000)]) (n3) (by decide) (by simp) (by simp) (by simp [Sg.bk]) ?_
    | refine CallN.on (g := [(1000000, 1000000)]) (n3) (by decide) (by simp) (by simp) (by simp [Sg.bk]) ?_
    | refine CallGB.on (g := [(1000000, 1000000)]) (n3) (by decide) (by simp) (by simp) (by simp [Sg.bk]) ?_
  simp -dsimp
  first
    | refine CallG.on (g := [(1000000, 1000000)]) (v1) (by decide) (by simp) (by simp) (by simp [Sg.bk]) ?_
    | refine CallN.on (g := [(1000000, 1000000)]) (v1) (by decide) (by simp) (by simp) (by simp [Sg.bk]) ?_
    | refine CallGB.on (g := [(1000000, 1000000)]) (v1) (by decide) (by simp) (by simp) (by simp [Sg.bk]) ?_
  simp -dsimp
  first
    | refine CallG.on (g := [(1000000, 1000000)]) (m1) (by decide) (by simp) (by simp) (by simp [Sg.bk]) ?_
    | refine CallN.on (g := [(1000000, 1000000)]) (m1) (by decide) (by simp) (by simp) (by simp [Sg.bk]) ?_
    | refine CallGB.on (g := [(1000000, 1000000)]) (m1) (by decide) (by simp) (by simp) (by simp [Sg.bk]) ?_
  simp -dsimp
  first
    | refine CallG.on (g := [(1000000, 1000000)]) (v2) (by decide) (by simp) (by simp) (by simp [Sg.bk]) ?_
    | refine CallN.on (g := [(1000000, 1000000)]) (v2) (by decide) (by simp) (by simp) (by simp [Sg.bk]) ?_
    | refine CallGB.on (g := [(1000000, 1000000)]) (v2) (by decide) (by simp) (by simp) (by simp [Sg.bk]) ?_
  simp -dsimp
  refine retE_c (by simp -dsimp) (by simp)
theorem foAdY (d : Nat) (hd : d < 100) (x y : Nat) (hx : x < 4) (hy : y < 4) (r : List UInt8) (hr : r.length + 3 < 100000)
    (h3 : pTk 33 (ltr x :: 126 :: ltr y :: r) = none) (h4 : pTk 40 (ltr x :: 126 :: ltr y :: r) = none) (h5 : pTk 69 (ltr x :: 126 :: ltr y :: r) = none) :
    ECall Tryd.prog 54 [.ptr 1000000 0, pI (d + 1 : Nat)] (pM (ltr x :: 126 :: ltr y :: r)) (ftP (.mk oAd x y [])) (pM r) := by
  have w1 := wr (n := (d : Int)) (by omega) (by omega)
  have hz : ((d : Int) + 1 == 0) = false := by rw [beq_eq_false_iff_ne]; omega
  have n1 := takeN 33 (ltr x :: 126 :: ltr y :: r) (by simp; omega) h3
  have n2 := takeN 40 (ltr x :: 126 :: ltr y :: r) (by simp; omega) h4
  have n3 := takeN 69 (ltr x :: 126 :: ltr y :: r) (by simp; omega) h5
  have v1 := variY x hx (126 :: ltr y :: r) (by simp; omega)
  have v2 := variY y hy r (by omega)
  have m1 := takeN 61 (126 :: ltr y :: r) (by simp; omega) (pTk_ne (by decide) _)
  have m2 := mustY 126 (ltr y :: r) (by simp; omega)
  refine ecall_weak (r := .agg [.t .fz (.v (.string oAd)), pI x, pI y, .t .fz nilT]) (fun w φ St v hSt h => ?_) ?_
  · exact ftP_nil hSt h
  unfold pM nilT at *
  refine ecall_wpZ [] Tryd.func54 rfl (by kernel_rfl) ?_
  simp -dsimp [hz]
  first
    | refine CallG.on (g := [(1000000, 1000000)]) (n1) (by decide) (by simp) (by simp) (by simp [Sg.bk]) ?_
    | refine CallN.on (g := [(1000000, 1000000)]) (n1) (by decide) (by simp) (by simp) (by simp [Sg.bk]) ?_
    | refine CallGB.on (g := [(1000000, 1000000)]) (n1) (by decide) (by simp) (by simp) (by simp [Sg.bk]) ?_
  simp -dsimp
  first
    | refine CallG.on (g := [(1000000, 1000000)]) (n2) (by decide) (by simp) (by simp) (by simp [Sg.bk]) ?_
    | refine CallN.on (g := [(1000000, 1000000)]) (n2) (by decide) (by simp) (by simp) (by simp [Sg.bk]) ?_
    | refine CallGB.on (g := [(1000000, 1000000)]) (n2) (by decide) (by simp) (by simp) (by simp [Sg.bk]) ?_
  simp -dsimp
  first
    | refine CallG.on (g := [(1000000, 1000000)]) (n3) (by decide) (by simp) (by simp) (by simp [Sg.bk]) ?_
    | refine CallN.on (g := [(1000000, 1000000)]) (n3) (by decide) (by simp) (by simp) (by simp [Sg.bk]) ?_
    | refine CallGB.on (g := [(1000000, 1000000)]) (n3) (by decide) (by simp) (by simp) (by simp [Sg.bk]) ?_
  simp -dsimp
  first
    | refine CallG.on (g := [(1000000, 1000000)]) (v1) (by decide) (by simp) (by simp) (by simp [Sg.bk]) ?_
    | refine CallN.on (g := [(1000000, 1000000)]) (v1) (by decide) (by simp) (by simp) (by simp [Sg.bk]) ?_
    | refine CallGB.on (g := [(1000000, 1000000)]) (v1) (by decide) (by simp) (by simp) (by simp [Sg.bk]) ?_
  simp -dsimp
  first
    | refine CallG.on (g := [(1000000, 1000000)]) (m1) (by decide) (by simp) (by simp) (by simp [Sg.bk]) ?_
    | refine CallN.on (g := [(1000000, 1000000)]) (m1) (by decide) (by simp) (by simp) (by simp [Sg.bk]) ?_
    | refine CallGB.on (g := [(1000000, 1000000)]) (m1) (by decide) (by simp) (by simp) (by simp [Sg.bk]) ?_
  simp -dsimp
  first
    | refine CallG.on (g := [(1000000, 1000000)]) (m2) (by decide) (by simp) (by simp) (by simp [Sg.bk]) ?_
    | refine CallN.on (g := [(1000000, 1000000)]) (m2) (by decide) (by simp) (by simp) (by simp [Sg.bk]) ?_
    | refine CallGB.on (g := [(1000000, 1000000)]) (m2) (by decide) (by simp) (by simp) (by simp [Sg.bk]) ?_
  simp -dsimp
  first
    | refine CallG.on (g := [(1000000, 1000000)]) (v2) (by decide) (by simp) (by simp) (by simp [Sg.bk]) ?_
    | refine CallN.on (g := [(1000000, 1000000)]) (v2) (by decide) (by simp) (by simp) (by simp [Sg.bk]) ?_
    | refine CallGB.on (g := [(1000000, 1000000)]) (v2) (by decide) (by simp) (by simp) (by simp [Sg.bk]) ?_
  simp -dsimp
  refine retE_c (by simp -dsimp) (by simp)
theorem foAtN1 (d : Nat) (hd : d < 100) (s : List UInt8) (hs : s.length < 100000)
    (h3 : pTk 33 s = none) (h4 : pTk 40 s = none) (h5 : pTk 69 s = none) (hn : pVar s = none) :
    XPan Tryd.prog 54 [.ptr 1000000 0, pI (d + 1 : Nat)] (pM s) wrC (pM s) := by
  have w1 := wr (n := (d : Int)) (by omega) (by omega)
  have hz : ((d : Int) + 1 == 0) = false := by rw [beq_eq_false_iff_ne]; omega
  have n1 := takeN 33 s (by omega) h3
  have n2 := takeN 40 s (by omega) h4
  have n3 := takeN 69 s (by omega) h5
  have v1 := variN s (by omega) hn
  unfold pM at *
  refine xpan_of Tryd.func54 rfl (by kernel_rfl) (wpkS_sound [15] _ _ _ ?_)
  simp -dsimp [hz]
  first
    | refine CallG.on (g := [(1000000, 1000000)]) (n1) (by decide) (by simp) (by simp) (by simp [Sg.bk]) ?_
    | refine CallN.on (g := [(1000000, 1000000)]) (n1) (by decide) (by simp) (by simp) (by simp [Sg.bk]) ?_
    | refine CallGB.on (g := [(1000000, 1000000)]) (n1) (by decide) (by simp) (by simp) (by simp [Sg.bk]) ?_
  simp -dsimp
  first
    | refine CallG.on (g := [(1000000, 1000000)]) (n2) (by decide) (by simp) (by simp) (by simp [Sg.bk]) ?_
    | refine CallN.on (g := [(1000000, 1000000)]) (n2) (by decide) (by simp) (by simp) (by simp [Sg.bk]) ?_
    | refine CallGB.on (g := [(1000000, 1000000)]) (n2) (by decide) (by simp) (by simp) (by simp [Sg.bk]) ?_
  simp -dsimp
  first
    | refine CallG.on (g := [(1000000, 1000000)]) (n3) (by decide) (by simp) (by simp) (by simp [Sg.bk]) ?_
    | refine CallN.on (g := [(1000000, 1000000)]) (n3) (by decide) (by simp) (by simp) (by simp [Sg.bk]) ?_
    | refine CallGB.on (g := [(1000000, 1000000)]) (n3) (by decide) (by simp) (by simp) (by simp [Sg.bk]) ?_
  simp -dsimp
  refine cw_panicsG (l1 := [_]) (o := _) (l2 := [_, _, _]) rfl ?_
  simp -dsimp
  refine panK_c (g := [(1000000, 1000000)]) (v1) rfl rfl rfl (by decide) rfl (by decide) (by simp) (by simp) (by simp [Sg.bk]) (endx_c fun q hq => ?_)
  simp at hq
  subst hq
  left
  rfl
theorem foAtN2 (d : Nat) (hd : d < 100) (x : Nat) (hx : x < 4) (r : List UInt8) (hr : r.length + 1 < 100000)
    (h3 : pTk 33 (ltr x :: r) = none) (h4 : pTk 40 (ltr x :: r) = none) (h5 : pTk 69 (ltr x :: r) = none) (hn : pTk 61 r = none) (hn2 : pTk 126 r = none) :
    XPan Tryd.prog 54 [.ptr 1000000 0, pI (d + 1 : Nat)] (pM (ltr x :: r)) wrC (pM r) := by
  have w1 := wr (n := (d : Int)) (by omega) (by omega)
  have hz : ((d : Int) + 1 == 0) = false := by rw [beq_eq_false_iff_ne]; omega
  have n1 := takeN 33 (ltr x :: r) (by simp; omega) h3
  have n2 := takeN 40 (ltr x :: r) (by simp; omega) h4
  have n3 := takeN 69 (ltr x :: r) (by simp; omega) h5
  have v1 := variY x hx r (by omega)
  have m1 := takeN 61 r (by omega) hn
  have m2 := mustN 126 r (by omega) hn2
  unfold pM at *
  refine xpan_of Tryd.func54 rfl (by kernel_rfl) (wpkS_sound [17] _ _ _ ?_)
  simp -dsimp [hz]
  first
    | refine CallG.on (g := [(1000000, 1000000)]) (n1) (by decide) (by simp) (by simp) (by simp [Sg.bk]) ?_
    | refine CallN.on (g := [(1000000, 1000000)]) (n1) (by decide) (by simp) (by simp) (by simp [Sg.bk]) ?_
    | refine CallGB.on (g := [(1000000, 1000000)]) (n1) (by decide) (by simp) (by simp) (by simp [Sg.bk]) ?_
  simp -dsimp
  first
    | refine CallG.on (g := [(1000000, 1000000)]) (n2) (by decide) (by simp) (by simp) (by simp [Sg.bk]) ?_
    | refine CallN.on (g := [(1000000, 1000000)]) (n2) (by decide) (by simp) (by simp) (by simp [Sg.bk]) ?_
    | refine CallGB.on (g := [(1000000, 1000000)]) (n2) (by decide) (by simp) (by simp) (by simp [Sg.bk]) ?_
  simp -dsimp
  first
    | refine CallG.on (g := [(1000000, 1000000)]) (n3) (by decide) (by simp) (by simp) (by simp [Sg.bk]) ?_
    | refine CallN.on (g := [(1000000, 1000000)]) (n3) (by decide) (by simp) (by simp) (by simp [Sg.bk]) ?_
    | refine CallGB.on (g := [(1000000, 1000000)]) (n3) (by decide) (by simp) (by simp) (by simp [Sg.bk]) ?_
  simp -dsimp
  first
    | refine CallG.on (g := [(1000000, 1000000)]) (v1) (by decide) (by simp) (by simp) (by simp [Sg.bk]) ?_
    | refine CallN.on (g := [(1000000, 1000000)]) (v1) (by decide) (by simp) (by simp) (by simp [Sg.bk]) ?_
    | refine CallGB.on (g := [(1000000, 1000000)]) (v1) (by decide) (by simp) (by simp) (by simp [Sg.bk]) ?_
  simp -dsimp
  first
    | refine CallG.on (g := [(1000000, 1000000)]) (m1) (by decide) (by simp) (by simp) (by simp [Sg.bk]) ?_
    | refine CallN.on (g := [(1000000, 1000000)]) (m1) (by decide) (by simp) (by simp) (by simp [Sg.bk]) ?_
    | refine CallGB.on (g := [(1000000, 1000000)]) (m1) (by decide) (by simp) (by simp) (by simp [Sg.bk]) ?_
  simp -dsimp
  refine cw_panicsG (l1 := [_]) (o := _) (l2 := []) rfl ?_
  simp -dsimp
  refine panK_c (g := [(1000000, 1000000)]) (m2) rfl rfl rfl (by decide) rfl (by decide) (by simp) (by simp) (by simp [Sg.bk]) (endx_c fun q hq => ?_)
  simp at hq
  subst hq
  left
  rfl
theorem foAtN3 (d : Nat) (hd : d < 100) (x : Nat) (hx : x < 4) (r : List UInt8) (hr : r.length + 2 < 100000)
    (h3 : pTk 33 (ltr x :: 61 :: r) = none) (h4 : pTk 40 (ltr x :: 61 :: r) = none) (h5 : pTk 69 (ltr x :: 61 :: r) = none) (hn : pVar r = none) :
    XPan Tryd.prog 54 [.ptr 1000000 0, pI (d + 1 : Nat)] (pM (ltr x :: 61 :: r)) wrC (pM r) := by
  have w1 := wr (n := (d : Int)) (by omega) (by omega)
  have hz : ((d : Int) + 1 == 0) = false := by rw [beq_eq_false_iff_ne]; omega
  have n1 := takeN 33 (ltr x :: 61 :: r) (by simp; omega) h3
  have n2 := takeN 40 (ltr x :: 61 :: r) (by simp; omega) h4
  have n3 := takeN 69 (ltr x :: 61 :: r) (by simp; omega) h5
  have v1 := variY x hx (61 :: r) (by simp; omega)
  have m1 := takeY 61 r (by omega)
  have v2 := variN r (by omega) hn
  unfold pM at *
  refine xpan_of Tryd.func54 rfl (by kernel_rfl) (wpkS_sound [19] _ _ _ ?_)
  simp -dsimp [hz]
  first
    | refine CallG.on (g := [(1000000, 1000000)]) (n1) (by decide) (by simp) (by simp) (by simp [Sg.bk]) ?_
    | refine CallN.on (g := [(1000000, 1000000)]) (n1) (by decide) (by simp) (by simp) (by simp [Sg.bk]) ?_
    | refine CallGB.on (g := [(1000000, 1000000)]) (n1) (by decide) (by simp) (by simp) (by simp [Sg.bk]) ?_
  simp -dsimp
  first
    | refine CallG.on (g := [(1000000, 1000000)]) (n2) (by decide) (by simp) (by simp) (by simp [Sg.bk]) ?_
    | refine CallN.on (g := [(1000000, 1000000)]) (n2) (by decide) (by simp) (by simp) (by simp [Sg.bk]) ?_
    | refine CallGB.on (g := [(1000000, 1000000)]) (n2) (by decide) (by simp) (by simp) (by simp [Sg.bk]) ?_
  simp -dsimp
  first
    | refine CallG.on (g := [(1000000, 1000000)]) (n3) (by decide) (by simp) (by simp) (by simp [Sg.bk]) ?_
    | refine CallN.on (g := [(1000000, 1000000)]) (n3) (by decide) (by simp) (by simp) (by simp [Sg.bk]) ?_
    | refine CallGB.on (g := [(1000000, 1000000)]) (n3) (by decide) (by simp) (by simp) (by simp [Sg.bk]) ?_
  simp -dsimp
  first
    | refine CallG.on (g := [(1000000, 1000000)]) (v1) (by decide) (by simp) (by simp) (by simp [Sg.bk]) ?_
    | refine CallN.on (g := [(1000000, 1000000)]) (v1) (by decide) (by simp) (by simp) (by simp [Sg.bk]) ?_
    | refine CallGB.on (g := [(1000000, 1000000)]) (v1) (by decide) (by simp) (by simp) (by simp [Sg.bk]) ?_
  simp -dsimp
  first
    | refine CallG.on (g := [(1000000, 1000000)]) (m1) (by decide) (by simp) (by simp) (by simp [Sg.bk]) ?_
    | refine CallN.on (g := [(1000000, 1000000)]) (m1) (by decide) (by simp) (by simp) (by simp [Sg.bk]) ?_
    | refine CallGB.on (g := [(1000000, 1000000)]) (m1) (by decide) (by simp) (by simp) (by simp [Sg.bk]) ?_
  simp -dsimp
  refine cw_panicsG (l1 := [_]) (o := _) (l2 := [_, _]) rfl ?_
  simp -dsimp
  refine panK_c (g := [(1000000, 1000000)]) (v2) rfl rfl rfl (by decide) rfl (by decide) (by simp) (by simp) (by simp [Sg.bk]) (endx_c fun q hq => ?_)
  simp at hq
  subst hq
  left
  rfl
theorem foAtN4 (d : Nat) (hd : d < 100) (x : Nat) (hx : x < 4) (r : List UInt8) (hr : r.length + 2 < 100000)
    (h3 : pTk 33 (ltr x :: 126 :: r) = none) (h4 : pTk 40 (ltr x :: 126 :: r) = none) (h5 : pTk 69 (ltr x :: 126 :: r) = none) (hn : pVar r = none) :
    XPan Tryd.prog 54 [.ptr 1000000 0, pI (d + 1 : Nat)] (pM (ltr x :: 126 :: r)) wrC (pM r) := by
  have w1 := wr (n := (d : Int)) (by omega) (by omega)
  have hz : ((d : Int) + 1 == 0) = false := by rw [beq_eq_false_iff_ne]; omega
  have n1 := takeN 33 (ltr x :: 126 :: r) (by simp; omega) h3
  have n2 := takeN 40 (ltr x :: 126 :: r) (by simp; omega) h4
  have n3 := takeN 69 (ltr x :: 126 :: r) (by simp; omega) h5
  have v1 := variY x hx (126 :: r) (by simp; omega)
  have m1 := takeN 61 (126 :: r) (by simp; omega) (pTk_ne (by decide) _)
  have m2 := mustY 126 r (by omega)
  have v2 := variN r (by omega) hn
  unfold pM at *
  refine xpan_of Tryd.func54 rfl (by kernel_rfl) (wpkS_sound [19] _ _ _ ?_)
  simp -dsimp [hz]
  first
    | refine CallG.on (g := [(1000000, 1000000)]) (n1) (by decide) (by simp) (by simp) (by simp [Sg.bk]) ?_
    | refine CallN.on (g := [(1000000, 1000000)]) (n1) (by decide) (by simp) (by simp) (by simp [Sg.bk]) ?_
    | refine CallGB.on (g := [(1000000, 1000000)]) (n1) (by decide) (by simp) (by simp) (by simp [Sg.bk]) ?_
  simp -dsimp
  first
    | refine CallG.on (g := [(1000000, 1000000)]) (n2) (by decide) (by simp) (by simp) (by simp [Sg.bk]) ?_
    | refine CallN.on (g := [(1000000, 1000000)]) (n2) (by decide) (by simp) (by simp) (by simp [Sg.bk]) ?_
    | refine CallGB.on (g := [(1000000, 1000000)]) (n2) (by decide) (by simp) (by simp) (by simp [Sg.bk]) ?_
  simp -dsimp
  first
    | refine CallG.on (g := [(1000000, 1000000)]) (n3) (by decide) (by simp) (by simp) (by simp [Sg.bk]) ?_
    | refine CallN.on (g := [(1000000, 1000000)]) (n3) (by decide) (by simp) (by simp) (by simp [Sg.bk]) ?_
    | refine CallGB.on (g := [(1000000, 1000000)]) (n3) (by decide) (by simp) (by simp) (by simp [Sg.bk]) ?_
  simp -dsimp
  first
    | refine CallG.on (g := [(1000000, 1000000)]) (v1) (by decide) (by simp) (by simp) (by simp [Sg.bk]) ?_
    | refine CallN.on (g := [(1000000, 1000000)]) (v1) (by decide) (by simp) (by simp) (by simp [Sg.bk]) ?_
    | refine CallGB.on (g := [(1000000, 1000000)]) (v1) (by decide) (by simp) (by simp) (by simp [Sg.bk]) ?_
  simp -dsimp
  first
    | refine CallG.on (g := [(1000000, 1000000)]) (m1) (by decide) (by simp) (by simp) (by simp [Sg.bk]) ?_
    | refine CallN.on (g := [(1000000, 1000000)]) (m1) (by decide) (by simp) (by simp) (by simp [Sg.bk]) ?_
    | refine CallGB.on (g := [(1000000, 1000000)]) (m1) (by decide) (by simp) (by simp) (by simp [Sg.bk]) ?_
  simp -dsimp
  first
    | refine CallG.on (g := [(1000000, 1000000)]) (m2) (by decide) (by simp) (by simp) (by simp [Sg.bk]) ?_
    | refine CallN.on (g := [(1000000, 1000000)]) (m2) (by decide) (by simp) (by simp) (by simp [Sg.bk]) ?_
    | refine CallGB.on (g := [(1000000, 1000000)]) (m2) (by decide) (by simp) (by simp) (by simp [Sg.bk]) ?_
  simp -dsimp
  refine cw_panicsG (l1 := [_]) (o := _) (l2 := [_, _]) rfl ?_
  simp -dsimp
  refine panK_c (g := [(1000000, 1000000)]) (v2) rfl rfl rfl (by decide) rfl (by decide) (by simp) (by simp) (by simp [Sg.bk]) (endx_c fun q hq => ?_)
  simp at hq
  subst hq
  left
  rfl
end Go.Proofs.YtnikonhkbldnnaaDoor
