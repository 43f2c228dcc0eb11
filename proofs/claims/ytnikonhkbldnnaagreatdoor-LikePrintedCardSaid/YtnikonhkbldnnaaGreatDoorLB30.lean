import Derived.Test.YtnikonhkbldnnaaGreatDoorLB29
/- LB30: the table of a formula, Holds. -/
set_option linter.unusedVariables false
set_option linter.unusedSimpArgs false
set_option maxRecDepth 20000
namespace Go.Proofs.YtnikonhkbldnnaaGreatDoor
open Go Go.PS
attribute [-simp] isKeyK List.map_take
def cB (b : Bool) : List TL := [eB b]
@[simp] theorem cB_set (b : Bool) (x : TL) : (cB b).set 0 x = [x] := rfl
@[simp] theorem cB_len (b : Bool) : (cB b).length = 1 := rfl
@[simp] theorem cB_get (b : Bool) : (cB b)[0]? = some (eB b) := rfl
@[simp] def eBs (l : List Bool) : TL := .sl .any 1 (l.map cB)
theorem div_pow (c n i : Nat) : c / n ^ i / n = c / n ^ (i + 1) := by rw [Nat.div_div_eq_div_mul, Nat.pow_succ]
theorem digit_spec (t : List Nat) (hp : 1 ≤ t.length) (h6 : t.length ≤ 6) (c x : Nat) (hc : c < 2000) (hx : x < 4) (k0 k1 : Kind) : PCall Tryz.prog 98 [eNs t, eI c, eI x] (pI (dg t.length c x : Nat)) [] := by
  refine pcall_wp _ Tryz.func98 rfl (by kernel_rfl) rfl ?_
  have hF : dg t.length c x = c / t.length ^ x % t.length := rfl
  rw [hF]
  obtain ⟨q, hq⟩ : ∃ q : Nat → Nat, ∀ i, q i = c / t.length ^ i := ⟨_, fun _ => rfl⟩
  have q0 : q 0 = c := by rw [hq, Nat.pow_zero, Nat.div_one]
  have qs : ∀ i, q i / t.length = q (i + 1) := fun i => by rw [hq, hq, div_pow]
  have ql : ∀ i, q i ≤ c := fun i => by rw [hq]; exact Nat.div_le_self _ _
  rw [← hq]
  clear hF hq
  have hn0 : ¬ (t.length : Int) = 0 := by omega
  have hn1 : ¬ t.length = 0 := by omega
  simp -dsimp
  refine wk_loop (fun p : Kind × Nat => ⟨[(8, pI p.2), (7, .t .ro (eI x)), (0, .t .ro (eNs t)), (1, .t p.1 (eI (q p.2)))], []⟩) (fun p => p.2 ≤ x) (fun p => x - p.2) (.ro, 0)
    (le_of (by simp [q0]) (by simp)) (Nat.zero_le _) fun ⟨kk, i⟩ hi => ?_
  dsimp only at hi
  simp -dsimp
  refine condX_dec (fun hlt => ?_) (fun hge => ?_)
  · have hw := wr (n := (i : Int) + 1) (by omega) (by omega)
    have hqs := qs i
    have hd : (q i : Int).tdiv (t.length : Int) = ((q i / t.length : Nat) : Int) := rfl
    have l1 := ql (i + 1)
    rw [hqs] at hd
    generalize q i = a at *
    have hw2 := wr (n := ((q (i + 1) : Nat) : Int)) (by omega) (by omega)
    simp -dsimp [hn0, hn1, hd, hw, hw2]
    refine LoopP_next (.fz, i + 1) (le_of (by simp) (by simp)) (by simp only; omega) (by simp only; omega)
  · have : i = x := by omega
    subst this
    have hd : (q i : Int).tmod (t.length : Int) = ((q i % t.length : Nat) : Int) := rfl
    generalize q i % t.length = r at *
    simp -dsimp [hn0, hn1, hd]
    refine retP_c ?_
    simp -dsimp
/-- A table that is filled up to c. -/
def tbU (N : Nat) (g : Nat → Bool) (c : Nat) : List Bool := (List.range N).map fun i => decide (i < c) && g i
theorem tbU_len (N : Nat) (g : Nat → Bool) (c : Nat) : (tbU N g c).length = N := by simp [tbU]
theorem tbU_zero (N : Nat) (g : Nat → Bool) : tbU N g 0 = List.replicate N false := by
  unfold tbU
  apply List.ext_getElem (by simp)
  intro i h1 h2
  simp
theorem tbU_end (N : Nat) (g : Nat → Bool) : tbU N g N = (List.range N).map g := by
  unfold tbU
  refine List.map_congr_left fun i hi => ?_
  rw [decide_eq_true (List.mem_range.1 hi), Bool.true_and]
theorem tbU_get (N : Nat) (g : Nat → Bool) (c i : Nat) : (tbU N g c)[i]? = if i < N then some (decide (i < c) && g i) else none := by
  unfold tbU
  rw [List.getElem?_map]
  split
  · rename_i h
    rw [List.getElem?_range h]
    rfl
  · rename_i h
    rw [List.getElem?_eq_none (by simp; omega)]
    rfl
theorem tbU_set (N : Nat) (g : Nat → Bool) (c : Nat) : (tbU N g c).set c (g c) = tbU N g (c + 1) := by
  apply List.ext_getElem?
  intro i
  rw [List.getElem?_set, tbU_get, tbU_get, tbU_len]
  by_cases h : c = i
  · subst h
    rw [if_pos rfl]
    by_cases h2 : c < N
    · rw [if_pos h2, if_pos h2, decide_eq_true (by omega), Bool.true_and]
    · rw [if_neg h2, if_neg h2]
  · rw [if_neg h]
    have : decide (i < c) = decide (i < c + 1) := by
      rw [decide_eq_decide]
      omega
    rw [this]
theorem tbU_same (N : Nat) (g : Nat → Bool) (c : Nat) : (tbU N g c).set c false = tbU N g c := by
  apply List.ext_getElem?
  intro i
  rw [List.getElem?_set, tbU_get, tbU_len]
  by_cases h : c = i
  · subst h
    rw [if_pos rfl, decide_eq_false (by omega), Bool.false_and]
  · rw [if_neg h]
theorem tabF_len (t : List Nat) (f : FT) : (tabF t f).length = t.length ^ 4 := by simp [tabF]
theorem tabF_at (t : List Nat) (f : FT) {c : Nat} (h : c < t.length ^ 4) : (tabF t f).getD c false = trF t f c := by
  simp [tabF, List.getD_eq_getElem?_getD, h]
theorem tab_row (t : List Nat) (f : FT) (h : PCall Tryz.prog 66 [eNs t, .agg (ftC f)] (.osl 0) [(0, .row 4 1 .fz ((tabF t f).map cB))]) : PCall Tryz.prog 66 [eNs t, .agg (ftC f)] (.t .fz (eBs (tabF t f))) [] :=
  pcall_fzrow h fun e he x hx => by
    obtain ⟨b, _, rfl⟩ := List.mem_map.1 he
    simp [cB] at hx
    exact ⟨_, hx⟩
theorem table_spec : ∀ (N : Nat) (t : List Nat), Tow 6 t → 1 ≤ t.length → ∀ f : FT, nodesF f ≤ N → shapedF f = true → PCall Tryz.prog 66 [eNs t, .agg (ftC f)] (.osl 0) [(0, .row 4 1 .fz ((tabF t f).map cB))]
  | 0, t, _, _, f, hN, _ => by have := nodesF_pos f; omega
  | N + 1, t, ht, hp, .mk o a b ks, hN, hsh => by
    have h6 := ht.le
    obtain ⟨⟨x, y, rfl, rfl, hx, hy⟩, hkn, hks, hk2⟩ := shaped_parts hsh
    rw [nodesF] at hN
    obtain ⟨q, hq⟩ : ∃ q : Nat → Nat, ∀ i, q i = t.length ^ i := ⟨_, fun _ => rfl⟩
    have q0 : q 0 = 1 := by rw [hq, Nat.pow_zero]
    have qs : ∀ i, q i * t.length = q (i + 1) := fun i => by rw [hq, hq, Nat.pow_succ]
    have ql : ∀ i, i ≤ 4 → q i ≤ 1296 := fun i hi => by
      rw [hq]
      exact Nat.le_trans (Nat.pow_le_pow_left h6 i) (Nat.le_trans (Nat.pow_le_pow_right (by decide) hi) (by decide))
    have hdig := fun c x hc hx => digit_spec t hp h6 c x hc hx .ro .ro
    have hT : tabF t (.mk o x y ks) = tbU (q 4) (trF t (.mk o x y ks)) (q 4) := by rw [tbU_end, tabF, hq]
    have hK := fun (k : FT) => tabF_len t k
    have hKa := fun (k : FT) (c : Nat) => tabF_at t k (c := c)
    rw [← hq] at hK
    rw [hT, ftC_mk]
    have hsetlt := fun c v => setD_lt (n := t.length) (c := c) (x := x) (v := v) (by omega)
    rw [← hq, ← hq] at hsetlt
    have q4 := ql 4 (by omega)
    refine pcall_wp _ Tryz.func66 rfl (by kernel_rfl) rfl ?_
    simp -dsimp
    refine wk_loop (fun i : Nat => ⟨[(14, pI i), (5, pI (q i)), (0, .t .ro (eNs t)), (3, .ptr 3 0)], [(3, .blk 37 [.t .ro (.v (.string o)), .t .ro (eI x), .t .ro (eI y), .t .ro (.sl .any 4 (ks.map ftC))])]⟩) (fun i => i ≤ 4) (fun i => 4 - i) 0
      (le_of (by simp [q0]) (by simp)) (Nat.zero_le _) fun i hi => ?_
    simp -dsimp
    refine condX_dec (fun hlt => ?_) (fun hge => ?_)
    · have hw := wr (n := (i : Int) + 1) (by omega) (by omega)
      have hqs := qs i
      have l1 := ql (i + 1) (by omega)
      have hm : (q i : Int) * (t.length : Int) = ((q (i + 1) : Nat) : Int) := by rw [← hqs, Int.natCast_mul]
      have hw2 := wr (n := ((q (i + 1) : Nat) : Int)) (by omega) (by omega)
      simp -dsimp [hm, hw, hw2]
      refine LoopP_next (i + 1) (le_of (by simp) (by simp)) (by omega) (by omega)
    · have hi4 : i = 4 := by omega
      subst hi4
      simp -dsimp
      refine lg_adoptT 6 6 107 1 (by simp; rfl) (by simp) ?_
      refine wk_loop (fun i : Nat => ⟨[(24, pI i), (23, pI ks.length), (22, .t .ro (.sl .any 4 (ks.map ftC))), (6, .osl 6), (5, pI (q 4)), (0, .t .ro (eNs t)), (3, .ptr 3 0)], [(6, .row 107 1 .fz ((ks.take i).map fun k => [eBs (tabF t k)])), (3, .blk 37 [.t .ro (.v (.string o)), .t .ro (eI x), .t .ro (eI y), .t .ro (.sl .any 4 (ks.map ftC))])]⟩) (fun i => i ≤ ks.length) (fun i => ks.length - i) 0
        (le_of (by simp) (by simp)) (Nat.zero_le _) fun i hi => ?_
      simp -dsimp
      refine condX_dec (fun hlt => ?_) (fun hge2 => ?_)
      · have hlt' : i < ks.length := by omega
        have hw := wr (n := (i : Int) + 1) (by omega) (by omega)
        have hm := nodes_mem (List.getElem_mem hlt')
        have ih := tab_row t _ (table_spec N t ht hp ks[i] (by omega) (hks _ (List.getElem_mem hlt')))
        have hsn : (ks.take (i + 1)).map (fun k => [eBs (tabF t k)]) = (ks.take i).map (fun k => [eBs (tabF t k)]) ++ [[eBs (tabF t ks[i])]] := by rw [take_snoc hlt', List.map_append]; rfl
        obtain ⟨o', a', b', ks', hk'⟩ := ft_split ks[i]
        rw [hk'] at ih hsn
        rw [ftC_mk] at ih
        generalize tabF t (.mk o' a' b' ks') = Z at *
        have hi0 : (i : Int) < ks.length := by omega
        have hln : ((ks.take i).map (fun k => [eBs (tabF t k)])).length ≤ 2 := by simp; omega
        simp only [eBs] at hsn hln
        generalize (ks.take i).map (fun k => [TL.sl SF.any 1 ((tabF t k).map cB)]) = Y at *
        have hbb : (Y.length + 1) * 24 ≤ 140737488355328 := by omega
        simp -dsimp [hlt, hi0, hlt', hk', ftC_mk]
        first
          | refine CallG.by (ih) ?_
          | refine CallGE.by (ih) ?_
          | refine CallGB.by (ih) ?_
        simp -dsimp [hw, hbb]
        refine LoopP_next (i + 1) (le_of (by simp) (by simp [hsn])) hlt' (by omega)
      · have hike : i = ks.length := by omega
        subst hike
        rw [List.take_length]
        have b1 : (0 : Int) ≤ (q 4 : Int) := by omega
        have b2 : (q 4 : Int) ≤ 140737488355328 := by omega
        have b3 : (q 4 : Int) ≤ 281474976710656 := by omega
        have b4 : q 4 ≤ 140737488355328 := by omega
        have b5 : q 4 ≤ 281474976710656 := by omega
        have one : ∀ {m : Nat}, kidsI o = (m : Int) → ks.length = m := fun h => by omega
        rcases op_cases o with rfl | rfl | rfl | rfl | rfl | h
        · obtain rfl : ks = [] := List.eq_nil_of_length_eq_zero (one kidsI_eq)
          have hg : ∀ c, trF t (.mk oEq x y []) c = (dg t.length c x == dg t.length c y) := fun c => by rw [trF]; simp
          generalize trF t (.mk oEq x y []) = g at *
          have hz : (tbU (q 4) g 0).map cB = List.replicate (q 4) [eB false] := by rw [tbU_zero, List.map_replicate]; rfl
          simp -dsimp [b1, b2, b3]
          refine wk_loop (fun c : Nat => ⟨[(39, pI c), (38, pI (q 4)), (9, .osl 36), (6, .osl 6), (0, .t .ro (eNs t)), (3, .ptr 3 0)], [(36, .row 4 1 .fz ((tbU (q 4) g c).map cB)), (6, .row 107 1 .fz []), (3, .blk 37 [.t .ro (.v (.string oEq)), .t .ro (eI x), .t .ro (eI y), .t .ro (.sl .any 4 [])])]⟩) (fun c => c ≤ q 4) (fun c => q 4 - c) 0
            (le_of (by simp) (by simp [hz])) (Nat.zero_le _) fun c hc => ?_
          have hlen := tbU_len (q 4) g c
          have hset := tbU_set (q 4) g c
          rw [hg] at hset
          simp -dsimp [hlen]
          refine condX_dec (fun hlt => ?_) (fun hge3 => ?_)
          · have hc4 : c < q 4 := by omega
            have hw := wr (n := (c : Int) + 1) (by omega) (by omega)
            have hcl : c < (tbU (q 4) g c).length := by omega
            generalize tbU (q 4) g c = R at *
            have hsm : ∀ z : Bool, (R.map cB).set c [eB z] = (R.set c z).map cB := fun z => by rw [List.map_set]; rfl
            have d1 := hdig c x (by omega) hx
            have d2 := hdig c y (by omega) hy
            have g1 := dg_lt (n := t.length) (c := c) (x := x) (by omega)
            have g2 := dg_lt (n := t.length) (c := c) (x := y) (by omega)
            generalize dg t.length c x = u at *
            generalize dg t.length c y = v at *
            have hb : ((u : Int) == (v : Int)) = (u == v) := by rw [Bool.eq_iff_iff]; simp; omega
            simp -dsimp
            refine wk_draw 13 [11] mixed (by kernel_rfl) ?_
            simp -dsimp
            first
              | refine CallG.by (d1) ?_
              | refine CallGE.by (d1) ?_
              | refine CallGB.by (d1) ?_
            simp -dsimp
            first
              | refine CallG.by (d2) ?_
              | refine CallGE.by (d2) ?_
              | refine CallGB.by (d2) ?_
            simp -dsimp [hc4, hcl, hlen, hb, hsm, hset, hw]
            refine LoopP_next (c + 1) (le_of (by simp) (by simp [hsm, hset])) (by omega) (by omega)
          · have : c = q 4 := by omega
            subst this
            simp -dsimp
            exact retP_own 36 (by simp; rfl) (by simp) (by simp) (by simp) (by simp)
        · obtain rfl : ks = [] := List.eq_nil_of_length_eq_zero (one kidsI_ad)
          have hg : ∀ c, trF t (.mk oAd x y []) c = nbN t (dg t.length c x) (dg t.length c y) := fun c => by rw [trF]; simp [oNo_ne]
          generalize trF t (.mk oAd x y []) = g at *
          have hz : (tbU (q 4) g 0).map cB = List.replicate (q 4) [eB false] := by rw [tbU_zero, List.map_replicate]; rfl
          simp -dsimp [b1, b2, b3]
          refine wk_loop (fun c : Nat => ⟨[(39, pI c), (38, pI (q 4)), (9, .osl 36), (6, .osl 6), (0, .t .ro (eNs t)), (3, .ptr 3 0)], [(36, .row 4 1 .fz ((tbU (q 4) g c).map cB)), (6, .row 107 1 .fz []), (3, .blk 37 [.t .ro (.v (.string oAd)), .t .ro (eI x), .t .ro (eI y), .t .ro (.sl .any 4 [])])]⟩) (fun c => c ≤ q 4) (fun c => q 4 - c) 0
            (le_of (by simp) (by simp [hz])) (Nat.zero_le _) fun c hc => ?_
          have hlen := tbU_len (q 4) g c
          have hset := tbU_set (q 4) g c
          rw [hg] at hset
          simp -dsimp [hlen]
          refine condX_dec (fun hlt => ?_) (fun hge3 => ?_)
          · have hc4 : c < q 4 := by omega
            have hw := wr (n := (c : Int) + 1) (by omega) (by omega)
            have hcl : c < (tbU (q 4) g c).length := by omega
            generalize tbU (q 4) g c = R at *
            have hsm : ∀ z : Bool, (R.map cB).set c [eB z] = (R.set c z).map cB := fun z => by rw [List.map_set]; rfl
            have d1 := hdig c x (by omega) hx
            have d2 := hdig c y (by omega) hy
            have g1 := dg_lt (n := t.length) (c := c) (x := x) (by omega)
            have g2 := dg_lt (n := t.length) (c := c) (x := y) (by omega)
            generalize dg t.length c x = u at *
            generalize dg t.length c y = v at *
            have hn := near_spec t u v g1 (by have := ht.get u; have : 2 ^ t.length ≤ 2 ^ 6 := Nat.pow_le_pow_right (by decide) h6; omega) (by omega)
            generalize nbN t u v = z at *
            simp -dsimp
            refine wk_draw 14 [12, 13] mixed (by kernel_rfl) ?_
            simp -dsimp
            first
              | refine CallG.by (d1) ?_
              | refine CallGE.by (d1) ?_
              | refine CallGB.by (d1) ?_
            simp -dsimp
            first
              | refine CallG.by (d2) ?_
              | refine CallGE.by (d2) ?_
              | refine CallGB.by (d2) ?_
            simp -dsimp
            first
              | refine CallG.by (hn) ?_
              | refine CallGE.by (hn) ?_
              | refine CallGB.by (hn) ?_
            simp -dsimp [hc4, hcl, hlen, hsm, hset, hw]
            refine LoopP_next (c + 1) (le_of (by simp) (by simp [hsm, hset])) (by omega) (by omega)
          · have : c = q 4 := by omega
            subst this
            simp -dsimp
            exact retP_own 36 (by simp; rfl) (by simp) (by simp) (by simp) (by simp)
        · obtain ⟨k, rfl⟩ : ∃ k, ks = [k] := List.length_eq_one_iff.1 (one kidsI_no)
          have hg : ∀ c, trF t (.mk oNo x y [k]) c = !trF t k c := fun c => by rw [trF]; simp [oNo_ne, trL]
          generalize trF t (.mk oNo x y [k]) = g at *
          have hz : (tbU (q 4) g 0).map cB = List.replicate (q 4) [eB false] := by rw [tbU_zero, List.map_replicate]; rfl
          simp -dsimp [b1, b2, b3]
          refine wk_loop (fun c : Nat => ⟨[(39, pI c), (38, pI (q 4)), (9, .osl 36), (6, .osl 6), (0, .t .ro (eNs t)), (3, .ptr 3 0)], [(36, .row 4 1 .fz ((tbU (q 4) g c).map cB)), (6, .row 107 1 .fz [[eBs (tabF t k)]]), (3, .blk 37 [.t .ro (.v (.string oNo)), .t .ro (eI x), .t .ro (eI y), .t .ro (.sl .any 4 ([k].map ftC))])]⟩) (fun c => c ≤ q 4) (fun c => q 4 - c) 0
            (le_of (by simp) (by simp [hz])) (Nat.zero_le _) fun c hc => ?_
          have hlen := tbU_len (q 4) g c
          have hset := tbU_set (q 4) g c
          rw [hg] at hset
          simp -dsimp [hlen]
          refine condX_dec (fun hlt => ?_) (fun hge3 => ?_)
          · have hc4 : c < q 4 := by omega
            have hw := wr (n := (c : Int) + 1) (by omega) (by omega)
            have hcl : c < (tbU (q 4) g c).length := by omega
            have hKl : c < (tabF t k).length := by rw [hK]; exact hc4
            have hKc := hKa k c (hq 4 ▸ hc4)
            have hKc : (tabF t k)[c] = trF t k c := by rw [← hKc]; simp [List.getD_eq_getElem?_getD, hKl]
            generalize tabF t k = Z at *
            generalize trF t k c = z at *
            generalize tbU (q 4) g c = R at *
            have hsm : ∀ z : Bool, (R.map cB).set c [eB z] = (R.set c z).map cB := fun z => by rw [List.map_set]; rfl
            simp -dsimp [hc4, hcl, hlen, hKl, hKc, hsm, hset, hw]
            refine LoopP_next (c + 1) (le_of (by simp) (by simp [hsm, hset])) (by omega) (by omega)
          · have : c = q 4 := by omega
            subst this
            simp -dsimp
            exact retP_own 36 (by simp; rfl) (by simp) (by simp) (by simp) (by simp)
        · obtain ⟨k, rfl⟩ : ∃ k, ks = [k] := List.length_eq_one_iff.1 (one kidsI_ex)
          have hg : ∀ c, trF t (.mk oEx x y [k]) c = (List.range t.length).any fun v => trF t k (setD t.length c x v) := fun c => by rw [trF]; simp [oNo_ne, trL]
          generalize trF t (.mk oEx x y [k]) = g at *
          have hz : (tbU (q 4) g 0).map cB = List.replicate (q 4) [eB false] := by rw [tbU_zero, List.map_replicate]; rfl
          simp -dsimp [b1, b2, b3]
          refine wk_loop (fun c : Nat => ⟨[(39, pI c), (38, pI (q 4)), (9, .osl 36), (6, .osl 6), (0, .t .ro (eNs t)), (3, .ptr 3 0)], [(36, .row 4 1 .fz ((tbU (q 4) g c).map cB)), (6, .row 107 1 .fz [[eBs (tabF t k)]]), (3, .blk 37 [.t .ro (.v (.string oEx)), .t .ro (eI x), .t .ro (eI y), .t .ro (.sl .any 4 ([k].map ftC))])]⟩) (fun c => c ≤ q 4) (fun c => q 4 - c) 0
            (le_of (by simp) (by simp [hz])) (Nat.zero_le _) fun c hc => ?_
          have hlen := tbU_len (q 4) g c
          have hset := tbU_set (q 4) g c
          rw [hg] at hset
          simp -dsimp [hlen]
          refine condX_dec (fun hlt => ?_) (fun hge3 => ?_)
          · have hc4 : c < q 4 := by omega
            have hw := wr (n := (c : Int) + 1) (by omega) (by omega)
            have hcl : c < (tbU (q 4) g c).length := by omega
            generalize hR : tbU (q 4) g c = R at *
            have hsm : ∀ z : Bool, (R.map cB).set c [eB z] = (R.set c z).map cB := fun z => by rw [List.map_set]; rfl
            simp -dsimp
            refine wk_loop (fun i : Nat => ⟨[(112, pI i), (111, .t .ro (eI x)), (11, pI (q i)), (10, pI c), (39, pI c), (38, pI (q 4)), (9, .osl 36), (6, .osl 6), (0, .t .ro (eNs t)), (3, .ptr 3 0)], [(36, .row 4 1 .fz (R.map cB)), (6, .row 107 1 .fz [[eBs (tabF t k)]]), (3, .blk 37 [.t .ro (.v (.string oEx)), .t .ro (eI x), .t .ro (eI y), .t .ro (.sl .any 4 ([k].map ftC))])]⟩) (fun i => i ≤ x) (fun i => x - i) 0
              (le_of (by simp [q0]) (by simp)) (Nat.zero_le _) fun i hi => ?_
            simp -dsimp
            refine condX_dec (fun hix => ?_) (fun hix => ?_)
            · have hwi := wr (n := (i : Int) + 1) (by omega) (by omega)
              have hqs := qs i
              have l1 := ql (i + 1) (by omega)
              have hm : (q i : Int) * (t.length : Int) = ((q (i + 1) : Nat) : Int) := by rw [← hqs, Int.natCast_mul]
              have hw2 := wr (n := ((q (i + 1) : Nat) : Int)) (by omega) (by omega)
              simp -dsimp [hm, hwi, hw2]
              refine LoopP_next (i + 1) (le_of (by simp) (by simp)) (by omega) (by omega)
            · have hix' : x = i := by omega
              subst hix'
              have d1 := hdig c x (by omega) hx
              have hs2 := fun v hv => hsetlt c v hc4 hx hv
              have hDd : ∀ v, setD t.length c x v = c - dg t.length c x * q x + v * q x := fun v => by rw [setD, hq]
              have g1 := dg_lt (n := t.length) (c := c) (x := x) (by omega)
              obtain ⟨D, hD⟩ : ∃ D, D = setD t.length c x := ⟨_, rfl⟩
              rw [← hD] at hset hDd
              have hs3 : ∀ v, v < t.length → D v < q 4 := fun v hv => by rw [hD]; exact (hs2 v hv).2
              have hle : dg t.length c x * q x ≤ c := (hs2 0 (by omega)).1
              clear hs2 hD
              generalize dg t.length c x = d at *
              have lx := ql x (by omega)
              generalize q x = P at *
              obtain ⟨e, he⟩ : ∃ e, e = d * P := ⟨_, rfl⟩
              rw [← he] at hle
              have m1 : (d : Int) * (P : Int) = (e : Int) := by rw [he, Int.natCast_mul]
              obtain ⟨F, hFd⟩ : ∃ F, F = c - e := ⟨_, rfl⟩
              have m2 : (c : Int) - (e : Int) = (F : Int) := by omega
              have mw1 := wr (n := (e : Int)) (by omega) (by omega)
              have mw2 := wr (n := (F : Int)) (by omega) (by omega)
              have hDv : ∀ v, D v = F + v * P := fun v => by rw [hDd, ← he, ← hFd]
              simp -dsimp
              first
                | refine CallG.by (d1) ?_
                | refine CallGE.by (d1) ?_
                | refine CallGB.by (d1) ?_
              simp -dsimp [m1, mw1, m2, mw2]
              have hR0 : (R.map cB) = (R.set c false).map cB := by rw [← hR, tbU_same]
              refine wk_loop (fun v : Nat => ⟨[(130, pI v), (129, pI t.length), (12, pI F), (11, pI P), (10, pI c), (39, pI c), (38, pI (q 4)), (9, .osl 36), (6, .osl 6), (0, .t .ro (eNs t)), (3, .ptr 3 0)], [(36, .row 4 1 .fz ((R.set c ((List.range v).any fun v => trF t k (D v))).map cB)), (6, .row 107 1 .fz [[eBs (tabF t k)]]), (3, .blk 37 [.t .ro (.v (.string oEx)), .t .ro (eI x), .t .ro (eI y), .t .ro (.sl .any 4 ([k].map ftC))])]⟩) (fun v => v ≤ t.length) (fun v => t.length - v) 0
                (le_of (by simp) (by simp [← hR0])) (Nat.zero_le _) fun v hv => ?_
              simp -dsimp
              refine condX_dec (fun hvl => ?_) (fun hvg => ?_)
              · have hwv := wr (n := (v : Int) + 1) (by omega) (by omega)
                have hv' : v < t.length := by omega
                have hlt4 := hs3 v hv'
                have hstep := hDv v
                have hKl : D v < (tabF t k).length := by rw [hK]; exact hlt4
                have hKc := hKa k (D v) (hq 4 ▸ hlt4)
                have hKc : (tabF t k)[D v] = trF t k (D v) := by rw [← hKc]; simp [List.getD_eq_getElem?_getD, hKl]
                have hany : ((List.range (v + 1)).any fun v => trF t k (D v)) = (((List.range v).any fun v => trF t k (D v)) || trF t k (D v)) := any_succ _ v
                have vP : v * P ≤ 6 * 1296 := Nat.mul_le_mul (by omega) lx
                obtain ⟨E, hE⟩ : ∃ E, E = v * P := ⟨_, rfl⟩
                have m3 : (v : Int) * (P : Int) = (E : Int) := by rw [hE, Int.natCast_mul]
                rw [← hE] at vP hstep
                have mw3 := wr (n := (E : Int)) (by omega) (by omega)
                have m4 : (F : Int) + (E : Int) = ((D v : Nat) : Int) := by omega
                have mw4 := wr (n := ((D v : Nat) : Int)) (by omega) (by omega)
                have hcs : c < (R.set c ((List.range v).any fun v => trF t k (D v))).length := by rw [List.length_set]; exact hcl
                have hgc : (R.set c ((List.range v).any fun v => trF t k (D v)))[c] = ((List.range v).any fun v => trF t k (D v)) := by simp
                generalize tabF t k = Z at *
                generalize hA : ((List.range v).any fun v => trF t k (D v)) = A at *
                generalize trF t k (D v) = z at *
                generalize D v = dv at *
                have hss : ∀ u : Bool, ((R.set c A).map cB).set c [eB u] = (R.set c u).map cB := fun u => by rw [← hsm, ← hsm, List.set_set]
                cases A
                · simp -dsimp [hc4, hcl, hlen, hgc, m3, mw3, m4, mw4, hKl, hKc, hss, hwv]
                  refine LoopP_next (v + 1) (le_of (by simp) (by simp [hany, hss, cB])) (by omega) (by omega)
                · simp -dsimp [hc4, hcl, hlen, hgc, hss, hwv]
                  refine LoopP_next (v + 1) (le_of (by simp) (by simp [hany, hss, cB])) (by omega) (by omega)
              · have hve : v = t.length := by omega
                subst hve
                have hset' : (R.map cB).set c (cB ((List.range t.length).any fun v => trF t k (D v))) = (tbU (q 4) g (c + 1)).map cB := by rw [← hset, List.map_set]
                simp -dsimp [hw]
                refine LoopP_next (c + 1) (le_of (by simp) (by simp [hset'])) (by omega) (by omega)
          · have : c = q 4 := by omega
            subst this
            simp -dsimp
            exact retP_own 36 (by simp; rfl) (by simp) (by simp) (by simp) (by simp)
        · obtain ⟨k, l, rfl⟩ : ∃ k l, ks = [k, l] := by
            have h := one kidsI_an
            match ks, h with
            | [k, l], _ => exact ⟨k, l, rfl⟩
          have hg : ∀ c, trF t (.mk oAn x y [k, l]) c = (trF t k c && trF t l c) := fun c => by rw [trF]; simp [oNo_ne, trL]
          generalize trF t (.mk oAn x y [k, l]) = g at *
          have hz : (tbU (q 4) g 0).map cB = List.replicate (q 4) [eB false] := by rw [tbU_zero, List.map_replicate]; rfl
          simp -dsimp [b1, b2, b3]
          refine wk_loop (fun c : Nat => ⟨[(39, pI c), (38, pI (q 4)), (9, .osl 36), (6, .osl 6), (0, .t .ro (eNs t)), (3, .ptr 3 0)], [(36, .row 4 1 .fz ((tbU (q 4) g c).map cB)), (6, .row 107 1 .fz [[eBs (tabF t k)], [eBs (tabF t l)]]), (3, .blk 37 [.t .ro (.v (.string oAn)), .t .ro (eI x), .t .ro (eI y), .t .ro (.sl .any 4 ([k, l].map ftC))])]⟩) (fun c => c ≤ q 4) (fun c => q 4 - c) 0
            (le_of (by simp) (by simp [hz])) (Nat.zero_le _) fun c hc => ?_
          have hlen := tbU_len (q 4) g c
          have hset := tbU_set (q 4) g c
          rw [hg] at hset
          simp -dsimp [hlen]
          refine condX_dec (fun hlt => ?_) (fun hge3 => ?_)
          · have hc4 : c < q 4 := by omega
            have hw := wr (n := (c : Int) + 1) (by omega) (by omega)
            have hcl : c < (tbU (q 4) g c).length := by omega
            have hKl1 : c < (tabF t k).length := by rw [hK]; exact hc4
            have hKc1 := hKa k c (hq 4 ▸ hc4)
            have hKc1 : (tabF t k)[c] = trF t k c := by rw [← hKc1]; simp [List.getD_eq_getElem?_getD, hKl1]
            generalize tabF t k = Z at *
            generalize trF t k c = z at *
            have hKl2 : c < (tabF t l).length := by rw [hK]; exact hc4
            have hKc2 := hKa l c (hq 4 ▸ hc4)
            have hKc2 : (tabF t l)[c] = trF t l c := by rw [← hKc2]; simp [List.getD_eq_getElem?_getD, hKl2]
            generalize tabF t l = Z2 at *
            generalize trF t l c = z2 at *
            generalize tbU (q 4) g c = R at *
            have hsm : ∀ z : Bool, (R.map cB).set c [eB z] = (R.set c z).map cB := fun z => by rw [List.map_set]; rfl
            cases z
            · rw [Bool.false_and] at hset
              have hset' : (R.map cB).set c (cB false) = (tbU (q 4) g (c + 1)).map cB := by rw [← hset, List.map_set]
              simp -dsimp [hc4, hcl, hlen, hKl1, hKc1, hsm, hset, hw]
              refine LoopP_next (c + 1) (le_of (by simp) (by simp [hsm, hset, hset'])) (by omega) (by omega)
            · rw [Bool.true_and] at hset
              have hset' : (R.map cB).set c (cB z2) = (tbU (q 4) g (c + 1)).map cB := by rw [← hset, List.map_set]
              simp -dsimp [hc4, hcl, hlen, hKl1, hKc1, hKl2, hKc2, hsm, hset, hw]
              refine LoopP_next (c + 1) (le_of (by simp) (by simp [hsm, hset, hset'])) (by omega) (by omega)
          · have : c = q 4 := by omega
            subst this
            simp -dsimp
            exact retP_own 36 (by simp; rfl) (by simp) (by simp) (by simp) (by simp)
        · rw [kidsI_none h] at hkn
          omega
def hldF (g : List Int) (f : FT) : TL := if isgB g && (formOk f && closF f 0) then .tup [eB (trF (townOf g) f 0), eI 0] else .tup [eB false, eI 2]
theorem form_shaped {f : FT} (h : formOk f = true) : shapedF f = true ∧ nodesF f ≤ 2000 := by
  unfold formOk at h
  simp only [Bool.and_eq_true, decide_eq_true_eq] at h
  exact ⟨h.2, h.1.1⟩
theorem Holds_spec (g : List Int) (f : FT) : PCall Tryz.prog 32 [eIs g, .agg (ftC f)] (.t .fz (hldF g f)) [] := by
  have hF : hldF g f = if isgB g && (formOk f && closF f 0) then .tup [eB (trF (townOf g) f 0), eI 0] else .tup [eB false, eI 2] := rfl
  have hr := read_spec g
  have hva := valid_form f
  have hcl : formOk f = true → PCall Tryz.prog 65 [.agg (ftC f), eI (0 : Nat)] (pB (closF f 0)) [] := fun h => closed_spec _ f (Nat.le_refl _) (form_shaped h).1 0 (by decide)
  have htb : isgB g = true → formOk f = true → PCall Tryz.prog 66 [eIs g, .agg (ftC f)] (.t .fz (eBs (tabF (townOf g) f))) [] := fun hg h => by
    have := tab_row (townOf g) f (table_spec _ (townOf g) (town_tow hg) (by have := isg_parts hg; rw [town_len]; omega) f (Nat.le_refl _) (form_shaped h).1)
    rw [eNs, town_back hg] at this
    exact this
  have hp4 : isgB g = true → 0 < (townOf g).length ^ 4 := fun hg => Nat.pow_pos (by have := isg_parts hg; rw [town_len]; omega)
  have hln := tabF_len (townOf g) f
  have hat : isgB g = true → (tabF (townOf g) f).getD 0 false = trF (townOf g) f 0 := fun hg => tabF_at _ _ (hp4 hg)
  rw [readF] at hr
  obtain ⟨o, a, b, ks, hk⟩ := ft_split f
  rw [hk, ftC_mk, ← hk] at hva hcl htb
  rw [hk, ftC_mk, ← hk]
  generalize trF (townOf g) f 0 = z at *
  generalize tabF (townOf g) f = Z at *
  refine pcall_wp _ Tryz.func32 rfl (by kernel_rfl) rfl ?_
  cases hg : isgB g
  · rw [hg] at hF hr
    simp only [Bool.false_eq_true, if_false, Bool.false_and] at hr hF
    simp -dsimp
    first
      | refine CallG.by (hr) ?_
      | refine CallGE.by (hr) ?_
      | refine CallGB.by (hr) ?_
    simp -dsimp
    refine retP_c ?_
    simp -dsimp [hF]
  · rw [hg] at hF hr
    simp only [if_true, Bool.true_and] at hr hF
    cases hv : formOk f
    · rw [hv] at hF hva
      simp only [Bool.false_and, if_false, Bool.false_eq_true] at hF
      simp -dsimp
      first
        | refine CallG.by (hr) ?_
        | refine CallGE.by (hr) ?_
        | refine CallGB.by (hr) ?_
      simp -dsimp
      first
        | refine CallG.by (hva) ?_
        | refine CallGE.by (hva) ?_
        | refine CallGB.by (hva) ?_
      simp -dsimp
      refine retP_c ?_
      simp -dsimp [hF]
    · rw [hv] at hF hva
      have hcl := hcl hv
      have htb := htb hg hv
      have hat := hat hg
      have hz0 : 0 < Z.length := by rw [hln]; exact hp4 hg
      have hzi : (0 : Int) < Z.length := by omega
      have hat : Z[0] = z := by rw [← hat]; simp [List.getD_eq_getElem?_getD, hz0]
      simp only [Bool.true_and] at hF
      cases hc : closF f 0
      · rw [hc] at hF hcl
        simp only [if_false, Bool.false_eq_true] at hF
        simp -dsimp
        first
          | refine CallG.by (hr) ?_
          | refine CallGE.by (hr) ?_
          | refine CallGB.by (hr) ?_
        simp -dsimp
        first
          | refine CallG.by (hva) ?_
          | refine CallGE.by (hva) ?_
          | refine CallGB.by (hva) ?_
        simp -dsimp
        first
          | refine CallG.by (hcl) ?_
          | refine CallGE.by (hcl) ?_
          | refine CallGB.by (hcl) ?_
        simp -dsimp
        refine retP_c ?_
        simp -dsimp [hF]
      · rw [hc] at hF hcl
        simp only [if_true] at hF
        simp -dsimp
        first
          | refine CallG.by (hr) ?_
          | refine CallGE.by (hr) ?_
          | refine CallGB.by (hr) ?_
        simp -dsimp
        first
          | refine CallG.by (hva) ?_
          | refine CallGE.by (hva) ?_
          | refine CallGB.by (hva) ?_
        simp -dsimp
        first
          | refine CallG.by (hcl) ?_
          | refine CallGE.by (hcl) ?_
          | refine CallGB.by (hcl) ?_
        simp -dsimp
        first
          | refine CallG.by (htb) ?_
          | refine CallGE.by (htb) ?_
          | refine CallGB.by (htb) ?_
        simp -dsimp [hz0, hzi, hat]
        refine retP_c ?_
        simp -dsimp [hF]
end Go.Proofs.YtnikonhkbldnnaaGreatDoor
