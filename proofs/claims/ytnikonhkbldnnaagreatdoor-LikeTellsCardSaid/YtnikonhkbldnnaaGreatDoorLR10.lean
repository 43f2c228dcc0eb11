import Derived.Test.YtnikonhkbldnnaaGreatDoorLB30
import Derived.Test.YtnikonhkbldnnaaGreatDoorLR9
/- LR10: the reference: truths, Holds. -/
set_option linter.unusedVariables false
set_option linter.unusedSimpArgs false
set_option maxRecDepth 20000
namespace Go.Proofs.YtnikonhkbldnnaaGreatDoor
open Go Go.PS
attribute [-simp] isKeyK List.map_take
/-- The powers of a number. -/
def pw5 (q : Nat → Nat) : List PV := [pI (q 0), pI (q 1), pI (q 2), pI (q 3), pI (q 4)]
theorem pw5_at (q : Nat → Nat) {x : Nat} (h : x < 5) : (pw5 q)[x]? = some (pI (q x)) := by
  match x, h with
  | 0, _ => rfl
  | 1, _ => rfl
  | 2, _ => rfl
  | 3, _ => rfl
  | 4, _ => rfl
@[simp] theorem pw5_men (m : Nat) (q : Nat → Nat) : PV.menL m (pw5 q) = false := rfl
@[simp] theorem pw5_len (q : Nat → Nat) : (pw5 q).length = 5 := rfl
@[simp] theorem pw5_kill (m : Nat) (q : Nat → Nat) : (pw5 q).map (fun x => if PV.men m x = true then PV.undef else x) = pw5 q := rfl
theorem tru_row (t : List Nat) (f : FT) (h : PCall Tryz.prog 53 [eNs t, .agg (ftC f)] (.osl 0) [(0, .row 4 1 .fz ((tabF t f).map cB))]) : PCall Tryz.prog 53 [eNs t, .agg (ftC f)] (.t .fz (eBs (tabF t f))) [] :=
  pcall_fzrow h fun e he x hx => by
    obtain ⟨b, _, rfl⟩ := List.mem_map.1 he
    simp [cB] at hx
    exact ⟨_, hx⟩
set_option maxHeartbeats 2000000 in
theorem truths_spec : ∀ (N : Nat) (t : List Nat), Tow 6 t → 1 ≤ t.length → ∀ f : FT, nodesF f ≤ N → shapedF f = true → PCall Tryz.prog 53 [eNs t, .agg (ftC f)] (.osl 0) [(0, .row 4 1 .fz ((tabF t f).map cB))]
  | 0, t, _, _, f, hN, _ => by have := nodesF_pos f; omega
  | N + 1, t, ht, hp, .mk o a b ks, hN, hsh => by
    have h6 := ht.le
    obtain ⟨⟨x, y, rfl, rfl, hx, hy⟩, hkn, hks, hk2⟩ := shaped_parts hsh
    rw [nodesF] at hN
    obtain ⟨q, hq⟩ : ∃ q : Nat → Nat, ∀ i, q i = t.length ^ i := ⟨_, fun _ => rfl⟩
    have q0 : q 0 = 1 := by rw [hq, Nat.pow_zero]
    have q1 : q 1 = t.length := by rw [hq, Nat.pow_one]
    have qs : ∀ i, q i * t.length = q (i + 1) := fun i => by rw [hq, hq, Nat.pow_succ]
    have ql : ∀ i, i ≤ 4 → q i ≤ 1296 := fun i hi => by
      rw [hq]
      exact Nat.le_trans (Nat.pow_le_pow_left h6 i) (Nat.le_trans (Nat.pow_le_pow_right (by decide) hi) (by decide))
    have qp : ∀ i, 0 < q i := fun i => by rw [hq]; exact Nat.pow_pos hp
    have hT : tabF t (.mk o x y ks) = tbU (q 4) (trF t (.mk o x y ks)) (q 4) := by rw [tbU_end, tabF, hq]
    have hK := fun (k : FT) => tabF_len t k
    have hKa := fun (k : FT) (c : Nat) => tabF_at t k (c := c)
    rw [← hq] at hK
    rw [hT, ftC_mk]
    have hsetlt := fun c v => setD_lt (n := t.length) (c := c) (x := x) (v := v) (by omega)
    rw [← hq, ← hq] at hsetlt
    have q4 := ql 4 (by omega)
    have px5 := pw5_at q (x := x) (by omega)
    have py5 := pw5_at q (x := y) (by omega)
    have p4 := pw5_at q (x := 4) (by omega)
    have xi : (x : Int) < 5 := by omega
    have yi : (y : Int) < 5 := by omega
    have zn : ¬ (t.length : Int) = 0 := by omega
    have zn' : ¬ t.length = 0 := by omega
    have r2 : (t.length : Int) * (t.length : Int) = ((q 2 : Nat) : Int) := by rw [← qs 1, q1, Int.natCast_mul]
    have r3 : ((q 2 : Nat) : Int) * (t.length : Int) = ((q 3 : Nat) : Int) := by rw [← qs 2, Int.natCast_mul]
    have r4 : ((q 3 : Nat) : Int) * (t.length : Int) = ((q 4 : Nat) : Int) := by rw [← qs 3, Int.natCast_mul]
    have w2 := wr (n := ((q 2 : Nat) : Int)) (by omega) (by have := ql 2 (by omega); omega)
    have w3 := wr (n := ((q 3 : Nat) : Int)) (by omega) (by have := ql 3 (by omega); omega)
    have w4 := wr (n := ((q 4 : Nat) : Int)) (by omega) (by omega)
    refine pcall_wp _ Tryz.func53 rfl (by kernel_rfl) rfl ?_
    simp -dsimp [r2, w2, r3, w3, r4, w4]
    refine lg_adoptT 7 7 94 1 (by simp; rfl) (by simp) ?_
    refine wk_loop (fun i : Nat => ⟨[(37, pI i), (36, pI ks.length), (35, .t .ro (.sl .any 4 (ks.map ftC))), (7, .osl 7), (5, pI t.length), (0, .t .ro (eNs t)), (3, .ptr 3 0), (6, .ptr 6 0)], [(7, .row 94 1 .fz ((ks.take i).map fun k => [eBs (tabF t k)])), (3, .blk 44 [.t .ro (.v (.string o)), .t .ro (eI x), .t .ro (eI y), .t .ro (.sl .any 4 (ks.map ftC))]), (6, .blk 123 (pw5 q))]⟩) (fun i => i ≤ ks.length) (fun i => ks.length - i) 0
      (le_of (by simp) (by simp [pw5, q0, q1])) (Nat.zero_le _) fun i hi => ?_
    simp -dsimp
    refine condX_dec (fun hlt => ?_) (fun hge2 => ?_)
    · have hlt' : i < ks.length := by omega
      have hw := wr (n := (i : Int) + 1) (by omega) (by omega)
      have hm := nodes_mem (List.getElem_mem hlt')
      have ih := tru_row t _ (truths_spec N t ht hp ks[i] (by omega) (hks _ (List.getElem_mem hlt')))
      have hsn : (ks.take (i + 1)).map (fun k => [eBs (tabF t k)]) = (ks.take i).map (fun k => [eBs (tabF t k)]) ++ [[eBs (tabF t ks[i])]] := by rw [take_snoc hlt', List.map_append]; rfl
      obtain ⟨o', a', b', ks', hk'⟩ := ft_split ks[i]
      rw [hk'] at ih hsn
      rw [ftC_mk] at ih
      generalize tabF t (.mk o' a' b' ks') = Z at *
      have hi0 : (i : Int) < ks.length := by omega
      have hln : ((ks.take i).map (fun k => [eBs (tabF t k)])).length ≤ 2 := by simp; omega
      simp only [eBs] at hsn hln
      generalize (ks.take i).map (fun k => [TL.sl SF.any 1 ((tabF t k).map cB)]) = Y at *
      have hbb : (Y.length + 1) * 24 ≤ 140737488355328 := by omega
      simp -dsimp [hlt, hi0, hlt', hk', ftC_mk]
      first
        | refine CallG.by (ih) ?_
        | refine CallGE.by (ih) ?_
        | refine CallGB.by (ih) ?_
      simp -dsimp [hw, hbb]
      refine LoopP_next (i + 1) (le_of (by simp) (by simp [hsn])) hlt' (by omega)
    · have hike : i = ks.length := by omega
      subst hike
      rw [List.take_length]
      have b1 : (0 : Int) ≤ (q 4 : Int) := by omega
      have b2 : (q 4 : Int) ≤ 140737488355328 := by omega
      have b3 : (q 4 : Int) ≤ 281474976710656 := by omega
      have one : ∀ {m : Nat}, kidsI o = (m : Int) → ks.length = m := fun h => by omega
      rcases op_cases o with rfl | rfl | rfl | rfl | rfl | h
      · obtain rfl : ks = [] := List.eq_nil_of_length_eq_zero (one kidsI_eq)
        have hg : ∀ c, trF t (.mk oEq x y []) c = (dg t.length c x == dg t.length c y) := fun c => by rw [trF]; simp
        generalize trF t (.mk oEq x y []) = g at *
        have hz : (tbU (q 4) g 0).map cB = List.replicate (q 4) [eB false] := by rw [tbU_zero, List.map_replicate]; rfl
        simp -dsimp [b1, b2, b3, p4]
        refine wk_loop (fun c : Nat => ⟨[(53, pI c), (52, pI (q 4)), (10, .osl 50), (7, .osl 7), (5, pI t.length), (0, .t .ro (eNs t)), (3, .ptr 3 0), (6, .ptr 6 0)], [(50, .row 4 1 .fz ((tbU (q 4) g c).map cB)), (7, .row 94 1 .fz []), (3, .blk 44 [.t .ro (.v (.string oEq)), .t .ro (eI x), .t .ro (eI y), .t .ro (.sl .any 4 [])]), (6, .blk 123 (pw5 q))]⟩) (fun c => c ≤ q 4) (fun c => q 4 - c) 0
          (le_of (by simp) (by simp [hz])) (Nat.zero_le _) fun c hc => ?_
        have hlen := tbU_len (q 4) g c
        have hset := tbU_set (q 4) g c
        rw [hg] at hset
        simp -dsimp [hlen]
        refine condX_dec (fun hlt => ?_) (fun hge3 => ?_)
        · have hc4 : c < q 4 := by omega
          have hw := wr (n := (c : Int) + 1) (by omega) (by omega)
          have hcl : c < (tbU (q 4) g c).length := by omega
          have lx := ql x (by omega)
          have ly := ql y (by omega)
          have px := qp x
          have py := qp y
          have g1 := dg_lt (n := t.length) (c := c) (x := x) (by omega)
          have g2 := dg_lt (n := t.length) (c := c) (x := y) (by omega)
          have dx1 : (c : Int).tdiv ((q x : Nat) : Int) = ((c / q x : Nat) : Int) := rfl
          have dy1 : (c : Int).tdiv ((q y : Nat) : Int) = ((c / q y : Nat) : Int) := rfl
          have dx2 : ((c / q x : Nat) : Int).tmod (t.length : Int) = ((dg t.length c x : Nat) : Int) := by rw [dg, ← hq]; rfl
          have dy2 : ((c / q y : Nat) : Int).tmod (t.length : Int) = ((dg t.length c y : Nat) : Int) := by rw [dg, ← hq]; rfl
          have ll1 : c / q x ≤ c := Nat.div_le_self _ _
          have ll2 : c / q y ≤ c := Nat.div_le_self _ _
          have zx : ¬ ((q x : Nat) : Int) = 0 := by omega
          have zy : ¬ ((q y : Nat) : Int) = 0 := by omega
          have zx' : ¬ q x = 0 := by omega
          have zy' : ¬ q y = 0 := by omega
          generalize dg t.length c x = u at *
          generalize dg t.length c y = v at *
          have hb : ((u : Int) == (v : Int)) = (u == v) := by rw [Bool.eq_iff_iff]; simp; omega
          generalize c / q x = cx at *
          generalize c / q y = cy at *
          have wx := wr (n := ((cx : Nat) : Int)) (by omega) (by omega)
          have wy := wr (n := ((cy : Nat) : Int)) (by omega) (by omega)
          generalize tbU (q 4) g c = R at *
          have hsm : ∀ z : Bool, (R.map cB).set c [eB z] = (R.set c z).map cB := fun z => by rw [List.map_set]; rfl
          simp -dsimp
          refine wk_draw 17 [] mixed (by kernel_rfl) ?_
          simp -dsimp [xi, yi, px5, py5, dx1, dy1, wx, wy, zx, zy, zx', zy', zn, zn', dx2, dy2]
          simp -dsimp [hc4, hcl, hlen, hb, hsm, hset, hw]
          refine LoopP_next (c + 1) (le_of (by simp) (by simp [hsm, hset])) (by omega) (by omega)
        · have : c = q 4 := by omega
          subst this
          simp -dsimp
          exact retP_own 50 (by simp; rfl) (by simp) (by simp) (by simp) (by simp)
      · obtain rfl : ks = [] := List.eq_nil_of_length_eq_zero (one kidsI_ad)
        have hg : ∀ c, trF t (.mk oAd x y []) c = nbN t (dg t.length c x) (dg t.length c y) := fun c => by rw [trF]; simp [oNo_ne]
        generalize trF t (.mk oAd x y []) = g at *
        have hz : (tbU (q 4) g 0).map cB = List.replicate (q 4) [eB false] := by rw [tbU_zero, List.map_replicate]; rfl
        simp -dsimp [b1, b2, b3, p4]
        refine wk_loop (fun c : Nat => ⟨[(53, pI c), (52, pI (q 4)), (10, .osl 50), (7, .osl 7), (5, pI t.length), (0, .t .ro (eNs t)), (3, .ptr 3 0), (6, .ptr 6 0)], [(50, .row 4 1 .fz ((tbU (q 4) g c).map cB)), (7, .row 94 1 .fz []), (3, .blk 44 [.t .ro (.v (.string oAd)), .t .ro (eI x), .t .ro (eI y), .t .ro (.sl .any 4 [])]), (6, .blk 123 (pw5 q))]⟩) (fun c => c ≤ q 4) (fun c => q 4 - c) 0
          (le_of (by simp) (by simp [hz])) (Nat.zero_le _) fun c hc => ?_
        have hlen := tbU_len (q 4) g c
        have hset := tbU_set (q 4) g c
        rw [hg] at hset
        simp -dsimp [hlen]
        refine condX_dec (fun hlt => ?_) (fun hge3 => ?_)
        · have hc4 : c < q 4 := by omega
          have hw := wr (n := (c : Int) + 1) (by omega) (by omega)
          have hcl : c < (tbU (q 4) g c).length := by omega
          have lx := ql x (by omega)
          have ly := ql y (by omega)
          have px := qp x
          have py := qp y
          have g1 := dg_lt (n := t.length) (c := c) (x := x) (by omega)
          have g2 := dg_lt (n := t.length) (c := c) (x := y) (by omega)
          have dx1 : (c : Int).tdiv ((q x : Nat) : Int) = ((c / q x : Nat) : Int) := rfl
          have dy1 : (c : Int).tdiv ((q y : Nat) : Int) = ((c / q y : Nat) : Int) := rfl
          have dx2 : ((c / q x : Nat) : Int).tmod (t.length : Int) = ((dg t.length c x : Nat) : Int) := by rw [dg, ← hq]; rfl
          have dy2 : ((c / q y : Nat) : Int).tmod (t.length : Int) = ((dg t.length c y : Nat) : Int) := by rw [dg, ← hq]; rfl
          have ll1 : c / q x ≤ c := Nat.div_le_self _ _
          have ll2 : c / q y ≤ c := Nat.div_le_self _ _
          have zx : ¬ ((q x : Nat) : Int) = 0 := by omega
          have zy : ¬ ((q y : Nat) : Int) = 0 := by omega
          have zx' : ¬ q x = 0 := by omega
          have zy' : ¬ q y = 0 := by omega
          generalize dg t.length c x = u at *
          generalize dg t.length c y = v at *
          have hb := and1_bit (t.getD u 0) v (by have := ht.get u; have : 2 ^ t.length ≤ 2 ^ 6 := Nat.pow_le_pow_right (by decide) h6; omega) (by omega)
          have qu := iL_at (l := t) (i := u) g1
          have qu' : ∀ hh : u < (iL t).length, (iL t)[u]'hh = ((t.getD u 0 : Nat) : Int) := fun hh => by
            rw [List.getElem?_eq_getElem hh] at qu
            exact Option.some.inj qu
          have hnb : nbN t u v = (t.getD u 0).testBit v := rfl
          rw [hnb] at hset
          generalize t.getD u 0 = s at *
          generalize s.testBit v = z at *
          generalize c / q x = cx at *
          generalize c / q y = cy at *
          have wx := wr (n := ((cx : Nat) : Int)) (by omega) (by omega)
          have wy := wr (n := ((cy : Nat) : Int)) (by omega) (by omega)
          generalize tbU (q 4) g c = R at *
          have hsm : ∀ z : Bool, (R.map cB).set c [eB z] = (R.set c z).map cB := fun z => by rw [List.map_set]; rfl
          simp -dsimp
          refine wk_draw 17 [] mixed (by kernel_rfl) ?_
          simp -dsimp [xi, yi, px5, py5, dx1, dy1, wx, wy, zx, zy, zx', zy', zn, zn', dx2, dy2]
          have ui : (u : Int) < t.length := by omega
          cases z
          · simp only [Bool.false_eq_true, if_false] at hb
            have hset' : (R.map cB).set c (cB false) = (tbU (q 4) g (c + 1)).map cB := by rw [← hset, List.map_set]
            simp -dsimp [hc4, hcl, hlen, ui, g1, qu', hb, hsm, hset, hw]
            refine LoopP_next (c + 1) (le_of (by simp) (by simp [hsm, hset, hset'])) (by omega) (by omega)
          · simp only [if_true] at hb
            have hset' : (R.map cB).set c (cB true) = (tbU (q 4) g (c + 1)).map cB := by rw [← hset, List.map_set]
            simp -dsimp [hc4, hcl, hlen, ui, g1, qu', hb, hsm, hset, hw]
            refine LoopP_next (c + 1) (le_of (by simp) (by simp [hsm, hset, hset'])) (by omega) (by omega)
        · have : c = q 4 := by omega
          subst this
          simp -dsimp
          exact retP_own 50 (by simp; rfl) (by simp) (by simp) (by simp) (by simp)
      · obtain ⟨k, rfl⟩ : ∃ k, ks = [k] := List.length_eq_one_iff.1 (one kidsI_no)
        have hg : ∀ c, trF t (.mk oNo x y [k]) c = !trF t k c := fun c => by rw [trF]; simp [oNo_ne, trL]
        generalize trF t (.mk oNo x y [k]) = g at *
        have hz : (tbU (q 4) g 0).map cB = List.replicate (q 4) [eB false] := by rw [tbU_zero, List.map_replicate]; rfl
        simp -dsimp [b1, b2, b3, p4]
        refine wk_loop (fun c : Nat => ⟨[(53, pI c), (52, pI (q 4)), (10, .osl 50), (7, .osl 7), (5, pI t.length), (0, .t .ro (eNs t)), (3, .ptr 3 0), (6, .ptr 6 0)], [(50, .row 4 1 .fz ((tbU (q 4) g c).map cB)), (7, .row 94 1 .fz [[eBs (tabF t k)]]), (3, .blk 44 [.t .ro (.v (.string oNo)), .t .ro (eI x), .t .ro (eI y), .t .ro (.sl .any 4 ([k].map ftC))]), (6, .blk 123 (pw5 q))]⟩) (fun c => c ≤ q 4) (fun c => q 4 - c) 0
          (le_of (by simp) (by simp [hz])) (Nat.zero_le _) fun c hc => ?_
        have hlen := tbU_len (q 4) g c
        have hset := tbU_set (q 4) g c
        rw [hg] at hset
        simp -dsimp [hlen]
        refine condX_dec (fun hlt => ?_) (fun hge3 => ?_)
        · have hc4 : c < q 4 := by omega
          have hw := wr (n := (c : Int) + 1) (by omega) (by omega)
          have hcl : c < (tbU (q 4) g c).length := by omega
          have lx := ql x (by omega)
          have ly := ql y (by omega)
          have px := qp x
          have py := qp y
          have g1 := dg_lt (n := t.length) (c := c) (x := x) (by omega)
          have g2 := dg_lt (n := t.length) (c := c) (x := y) (by omega)
          have dx1 : (c : Int).tdiv ((q x : Nat) : Int) = ((c / q x : Nat) : Int) := rfl
          have dy1 : (c : Int).tdiv ((q y : Nat) : Int) = ((c / q y : Nat) : Int) := rfl
          have dx2 : ((c / q x : Nat) : Int).tmod (t.length : Int) = ((dg t.length c x : Nat) : Int) := by rw [dg, ← hq]; rfl
          have dy2 : ((c / q y : Nat) : Int).tmod (t.length : Int) = ((dg t.length c y : Nat) : Int) := by rw [dg, ← hq]; rfl
          have ll1 : c / q x ≤ c := Nat.div_le_self _ _
          have ll2 : c / q y ≤ c := Nat.div_le_self _ _
          have zx : ¬ ((q x : Nat) : Int) = 0 := by omega
          have zy : ¬ ((q y : Nat) : Int) = 0 := by omega
          have zx' : ¬ q x = 0 := by omega
          have zy' : ¬ q y = 0 := by omega
          have hKl1 : c < (tabF t k).length := by rw [hK]; exact hc4
          have hKc1 := hKa k c (hq 4 ▸ hc4)
          have hKc1 : (tabF t k)[c] = trF t k c := by rw [← hKc1]; simp [List.getD_eq_getElem?_getD, hKl1]
          generalize tabF t k = Z at *
          generalize trF t k c = z at *
          generalize c / q x = cx at *
          generalize c / q y = cy at *
          have wx := wr (n := ((cx : Nat) : Int)) (by omega) (by omega)
          have wy := wr (n := ((cy : Nat) : Int)) (by omega) (by omega)
          generalize tbU (q 4) g c = R at *
          have hsm : ∀ z : Bool, (R.map cB).set c [eB z] = (R.set c z).map cB := fun z => by rw [List.map_set]; rfl
          simp -dsimp
          refine wk_draw 17 [] mixed (by kernel_rfl) ?_
          simp -dsimp [xi, yi, px5, py5, dx1, dy1, wx, wy, zx, zy, zx', zy', zn, zn', dx2, dy2]
          simp -dsimp [hc4, hcl, hlen, hKl1, hKc1, hsm, hset, hw]
          refine LoopP_next (c + 1) (le_of (by simp) (by simp [hsm, hset])) (by omega) (by omega)
        · have : c = q 4 := by omega
          subst this
          simp -dsimp
          exact retP_own 50 (by simp; rfl) (by simp) (by simp) (by simp) (by simp)
      · obtain ⟨k, rfl⟩ : ∃ k, ks = [k] := List.length_eq_one_iff.1 (one kidsI_ex)
        have hg : ∀ c, trF t (.mk oEx x y [k]) c = (List.range t.length).any fun v => trF t k (setD t.length c x v) := fun c => by rw [trF]; simp [oNo_ne, trL]
        generalize trF t (.mk oEx x y [k]) = g at *
        have hz : (tbU (q 4) g 0).map cB = List.replicate (q 4) [eB false] := by rw [tbU_zero, List.map_replicate]; rfl
        simp -dsimp [b1, b2, b3, p4]
        refine wk_loop (fun c : Nat => ⟨[(53, pI c), (52, pI (q 4)), (10, .osl 50), (7, .osl 7), (5, pI t.length), (0, .t .ro (eNs t)), (3, .ptr 3 0), (6, .ptr 6 0)], [(50, .row 4 1 .fz ((tbU (q 4) g c).map cB)), (7, .row 94 1 .fz [[eBs (tabF t k)]]), (3, .blk 44 [.t .ro (.v (.string oEx)), .t .ro (eI x), .t .ro (eI y), .t .ro (.sl .any 4 ([k].map ftC))]), (6, .blk 123 (pw5 q))]⟩) (fun c => c ≤ q 4) (fun c => q 4 - c) 0
          (le_of (by simp) (by simp [hz])) (Nat.zero_le _) fun c hc => ?_
        have hlen := tbU_len (q 4) g c
        have hset := tbU_set (q 4) g c
        rw [hg] at hset
        simp -dsimp [hlen]
        refine condX_dec (fun hlt => ?_) (fun hge3 => ?_)
        · have hc4 : c < q 4 := by omega
          have hw := wr (n := (c : Int) + 1) (by omega) (by omega)
          have hcl : c < (tbU (q 4) g c).length := by omega
          have lx := ql x (by omega)
          have ly := ql y (by omega)
          have px := qp x
          have py := qp y
          have g1 := dg_lt (n := t.length) (c := c) (x := x) (by omega)
          have g2 := dg_lt (n := t.length) (c := c) (x := y) (by omega)
          have dx1 : (c : Int).tdiv ((q x : Nat) : Int) = ((c / q x : Nat) : Int) := rfl
          have dy1 : (c : Int).tdiv ((q y : Nat) : Int) = ((c / q y : Nat) : Int) := rfl
          have dx2 : ((c / q x : Nat) : Int).tmod (t.length : Int) = ((dg t.length c x : Nat) : Int) := by rw [dg, ← hq]; rfl
          have dy2 : ((c / q y : Nat) : Int).tmod (t.length : Int) = ((dg t.length c y : Nat) : Int) := by rw [dg, ← hq]; rfl
          have ll1 : c / q x ≤ c := Nat.div_le_self _ _
          have ll2 : c / q y ≤ c := Nat.div_le_self _ _
          have zx : ¬ ((q x : Nat) : Int) = 0 := by omega
          have zy : ¬ ((q y : Nat) : Int) = 0 := by omega
          have zx' : ¬ q x = 0 := by omega
          have zy' : ¬ q y = 0 := by omega
          have hs2 := fun v hv => hsetlt c v hc4 hx hv
          have hDd : ∀ v, setD t.length c x v = c - dg t.length c x * q x + v * q x := fun v => by rw [setD, hq]
          obtain ⟨D, hD⟩ : ∃ D, D = setD t.length c x := ⟨_, rfl⟩
          rw [← hD] at hset hDd
          have hs3 : ∀ v, v < t.length → D v < q 4 := fun v hv => by rw [hD]; exact (hs2 v hv).2
          have hle : dg t.length c x * q x ≤ c := (hs2 0 (by omega)).1
          clear hs2 hD
          generalize dg t.length c y = dy at *
          generalize dg t.length c x = d at *
          generalize c / q x = cx at *
          generalize c / q y = cy at *
          have wx := wr (n := ((cx : Nat) : Int)) (by omega) (by omega)
          have wy := wr (n := ((cy : Nat) : Int)) (by omega) (by omega)
          generalize hR : tbU (q 4) g c = R at *
          have hsm : ∀ z : Bool, (R.map cB).set c [eB z] = (R.set c z).map cB := fun z => by rw [List.map_set]; rfl
          simp -dsimp
          refine wk_draw 17 [] mixed (by kernel_rfl) ?_
          simp -dsimp [xi, yi, px5, py5, dx1, dy1, wx, wy, zx, zy, zx', zy', zn, zn', dx2, dy2]
          have hR0 : (R.map cB) = (R.set c false).map cB := by rw [← hR, tbU_same]
          refine wk_loop (fun v : Nat => ⟨[(75, pI v), (74, pI t.length), (12, pI d), (11, pI c), (53, pI c), (52, pI (q 4)), (10, .osl 50), (7, .osl 7), (5, pI t.length), (0, .t .ro (eNs t)), (3, .ptr 3 0), (6, .ptr 6 0)], [(50, .row 4 1 .fz ((R.set c ((List.range v).any fun v => trF t k (D v))).map cB)), (7, .row 94 1 .fz [[eBs (tabF t k)]]), (3, .blk 44 [.t .ro (.v (.string oEx)), .t .ro (eI x), .t .ro (eI y), .t .ro (.sl .any 4 ([k].map ftC))]), (6, .blk 123 (pw5 q))]⟩) (fun v => v ≤ t.length) (fun v => t.length - v) 0
            (le_of (by simp) (by simp [← hR0])) (Nat.zero_le _) fun v hv => ?_
          simp -dsimp
          refine condX_dec (fun hvl => ?_) (fun hvg => ?_)
          · have hwv := wr (n := (v : Int) + 1) (by omega) (by omega)
            have hv' : v < t.length := by omega
            have hlt4 := hs3 v hv'
            have hstep := hDd v
            have hKl : D v < (tabF t k).length := by rw [hK]; exact hlt4
            have hKc := hKa k (D v) (hq 4 ▸ hlt4)
            have hKc : (tabF t k)[D v] = trF t k (D v) := by rw [← hKc]; simp [List.getD_eq_getElem?_getD, hKl]
            have hany : ((List.range (v + 1)).any fun v => trF t k (D v)) = (((List.range v).any fun v => trF t k (D v)) || trF t k (D v)) := any_succ _ v
            have vP : v * q x ≤ 6 * 1296 := Nat.mul_le_mul (by omega) lx
            have m3 : ((v : Int) - (d : Int)) * ((q x : Nat) : Int) = ((v * q x : Nat) : Int) - ((d * q x : Nat) : Int) := by rw [Int.sub_mul, Int.natCast_mul, Int.natCast_mul]
            generalize v * q x = E at *
            generalize d * q x = e at *
            have mw1 := wr (n := (v : Int) - (d : Int)) (by omega) (by omega)
            have mw3 := wr (n := (E : Int) - (e : Int)) (by omega) (by omega)
            have m4 : (c : Int) + ((E : Int) - (e : Int)) = ((D v : Nat) : Int) := by omega
            have mw4 := wr (n := ((D v : Nat) : Int)) (by omega) (by omega)
            have hgc : (R.set c ((List.range v).any fun v => trF t k (D v)))[c]'(by simpa using hcl) = ((List.range v).any fun v => trF t k (D v)) := by simp
            generalize tabF t k = Z at *
            generalize hA : ((List.range v).any fun v => trF t k (D v)) = A at *
            generalize trF t k (D v) = z at *
            generalize D v = dv at *
            have hss : ∀ u : Bool, ((R.set c A).map cB).set c [eB u] = (R.set c u).map cB := fun u => by rw [← hsm, ← hsm, List.set_set]
            simp -dsimp
            refine wk_draw 23 [] mixed (by kernel_rfl) ?_
            cases A
            · simp -dsimp [hc4, hcl, hlen, hgc, xi, px5, mw1, m3, mw3, m4, mw4, hKl, hKc, hss, hwv]
              refine LoopP_next (v + 1) (le_of (by simp) (by simp [hany, hss, cB])) (by omega) (by omega)
            · simp -dsimp [hc4, hcl, hlen, hgc, hss, hwv]
              refine LoopP_next (v + 1) (le_of (by simp) (by simp [hany, hss, cB])) (by omega) (by omega)
          · have hve : v = t.length := by omega
            subst hve
            have hset' : (R.map cB).set c (cB ((List.range t.length).any fun v => trF t k (D v))) = (tbU (q 4) g (c + 1)).map cB := by rw [← hset, List.map_set]
            simp -dsimp [hw]
            refine LoopP_next (c + 1) (le_of (by simp) (by simp [hset'])) (by omega) (by omega)
        · have : c = q 4 := by omega
          subst this
          simp -dsimp
          exact retP_own 50 (by simp; rfl) (by simp) (by simp) (by simp) (by simp)
      · obtain ⟨k, l, rfl⟩ : ∃ k l, ks = [k, l] := by
          have h := one kidsI_an
          match ks, h with
          | [k, l], _ => exact ⟨k, l, rfl⟩
        have hg : ∀ c, trF t (.mk oAn x y [k, l]) c = (trF t k c && trF t l c) := fun c => by rw [trF]; simp [oNo_ne, trL]
        generalize trF t (.mk oAn x y [k, l]) = g at *
        have hz : (tbU (q 4) g 0).map cB = List.replicate (q 4) [eB false] := by rw [tbU_zero, List.map_replicate]; rfl
        simp -dsimp [b1, b2, b3, p4]
        refine wk_loop (fun c : Nat => ⟨[(53, pI c), (52, pI (q 4)), (10, .osl 50), (7, .osl 7), (5, pI t.length), (0, .t .ro (eNs t)), (3, .ptr 3 0), (6, .ptr 6 0)], [(50, .row 4 1 .fz ((tbU (q 4) g c).map cB)), (7, .row 94 1 .fz [[eBs (tabF t k)], [eBs (tabF t l)]]), (3, .blk 44 [.t .ro (.v (.string oAn)), .t .ro (eI x), .t .ro (eI y), .t .ro (.sl .any 4 ([k, l].map ftC))]), (6, .blk 123 (pw5 q))]⟩) (fun c => c ≤ q 4) (fun c => q 4 - c) 0
          (le_of (by simp) (by simp [hz])) (Nat.zero_le _) fun c hc => ?_
        have hlen := tbU_len (q 4) g c
        have hset := tbU_set (q 4) g c
        rw [hg] at hset
        simp -dsimp [hlen]
        refine condX_dec (fun hlt => ?_) (fun hge3 => ?_)
        · have hc4 : c < q 4 := by omega
          have hw := wr (n := (c : Int) + 1) (by omega) (by omega)
          have hcl : c < (tbU (q 4) g c).length := by omega
          have lx := ql x (by omega)
          have ly := ql y (by omega)
          have px := qp x
          have py := qp y
          have g1 := dg_lt (n := t.length) (c := c) (x := x) (by omega)
          have g2 := dg_lt (n := t.length) (c := c) (x := y) (by omega)
          have dx1 : (c : Int).tdiv ((q x : Nat) : Int) = ((c / q x : Nat) : Int) := rfl
          have dy1 : (c : Int).tdiv ((q y : Nat) : Int) = ((c / q y : Nat) : Int) := rfl
          have dx2 : ((c / q x : Nat) : Int).tmod (t.length : Int) = ((dg t.length c x : Nat) : Int) := by rw [dg, ← hq]; rfl
          have dy2 : ((c / q y : Nat) : Int).tmod (t.length : Int) = ((dg t.length c y : Nat) : Int) := by rw [dg, ← hq]; rfl
          have ll1 : c / q x ≤ c := Nat.div_le_self _ _
          have ll2 : c / q y ≤ c := Nat.div_le_self _ _
          have zx : ¬ ((q x : Nat) : Int) = 0 := by omega
          have zy : ¬ ((q y : Nat) : Int) = 0 := by omega
          have zx' : ¬ q x = 0 := by omega
          have zy' : ¬ q y = 0 := by omega
          have hKl1 : c < (tabF t k).length := by rw [hK]; exact hc4
          have hKc1 := hKa k c (hq 4 ▸ hc4)
          have hKc1 : (tabF t k)[c] = trF t k c := by rw [← hKc1]; simp [List.getD_eq_getElem?_getD, hKl1]
          generalize tabF t k = Z at *
          generalize trF t k c = z at *
          have hKl2 : c < (tabF t l).length := by rw [hK]; exact hc4
          have hKc2 := hKa l c (hq 4 ▸ hc4)
          have hKc2 : (tabF t l)[c] = trF t l c := by rw [← hKc2]; simp [List.getD_eq_getElem?_getD, hKl2]
          generalize tabF t l = Z2 at *
          generalize trF t l c = z2 at *
          generalize c / q x = cx at *
          generalize c / q y = cy at *
          have wx := wr (n := ((cx : Nat) : Int)) (by omega) (by omega)
          have wy := wr (n := ((cy : Nat) : Int)) (by omega) (by omega)
          generalize tbU (q 4) g c = R at *
          have hsm : ∀ z : Bool, (R.map cB).set c [eB z] = (R.set c z).map cB := fun z => by rw [List.map_set]; rfl
          simp -dsimp
          refine wk_draw 17 [] mixed (by kernel_rfl) ?_
          simp -dsimp [xi, yi, px5, py5, dx1, dy1, wx, wy, zx, zy, zx', zy', zn, zn', dx2, dy2]
          cases z
          · rw [Bool.false_and] at hset
            have hset' : (R.map cB).set c (cB false) = (tbU (q 4) g (c + 1)).map cB := by rw [← hset, List.map_set]
            simp -dsimp [hc4, hcl, hlen, hKl1, hKc1, hsm, hset, hw]
            refine LoopP_next (c + 1) (le_of (by simp) (by simp [hsm, hset, hset'])) (by omega) (by omega)
          · rw [Bool.true_and] at hset
            have hset' : (R.map cB).set c (cB z2) = (tbU (q 4) g (c + 1)).map cB := by rw [← hset, List.map_set]
            simp -dsimp [hc4, hcl, hlen, hKl1, hKc1, hKl2, hKc2, hsm, hset, hw]
            refine LoopP_next (c + 1) (le_of (by simp) (by simp [hsm, hset, hset'])) (by omega) (by omega)
        · have : c = q 4 := by omega
          subst this
          simp -dsimp
          exact retP_own 50 (by simp; rfl) (by simp) (by simp) (by simp) (by simp)
      · rw [kidsI_none h] at hkn
        omega
theorem HoldsR_spec (g : List Int) (f : FT) (hg : isgB g = true) (hf : shapedF f = true) : PCall Tryz.prog 23 [eIs g, .agg (ftC f)] (pB (trF (townOf g) f 0)) [] := by
  have hl : 1 ≤ (townOf g).length := by have := isg_parts hg; rw [town_len]; omega
  have htb := tru_row (townOf g) f (truths_spec _ (townOf g) (town_tow hg) hl f (Nat.le_refl _) hf)
  rw [eNs, town_back hg] at htb
  have hp4 : 0 < (townOf g).length ^ 4 := Nat.pow_pos hl
  have hln := tabF_len (townOf g) f
  have hat : (tabF (townOf g) f).getD 0 false = trF (townOf g) f 0 := tabF_at _ _ hp4
  obtain ⟨o, a, b, ks, hk⟩ := ft_split f
  rw [hk, ftC_mk, ← hk] at htb
  rw [hk, ftC_mk, ← hk]
  generalize trF (townOf g) f 0 = z at *
  generalize tabF (townOf g) f = Z at *
  have hz0 : 0 < Z.length := by rw [hln]; exact hp4
  have hzi : (0 : Int) < Z.length := by omega
  have hat : Z[0] = z := by rw [← hat]; simp [List.getD_eq_getElem?_getD, hz0]
  refine pcall_wp _ Tryz.func23 rfl (by kernel_rfl) rfl ?_
  simp -dsimp
  first
    | refine CallG.by (htb) ?_
    | refine CallGE.by (htb) ?_
    | refine CallGB.by (htb) ?_
  simp -dsimp [hz0, hzi, hat]
  refine retP_c ?_
  simp -dsimp
end Go.Proofs.YtnikonhkbldnnaaGreatDoor
