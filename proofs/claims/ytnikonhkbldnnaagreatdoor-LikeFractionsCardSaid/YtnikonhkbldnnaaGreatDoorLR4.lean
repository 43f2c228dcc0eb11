import Derived.Test.YtnikonhkbldnnaaGreatDoorLR3
import Derived.Test.YtnikonhkbldnnaaGreatDoorPSH
/- LR4: the reference's colours of the next round. -/
set_option linter.unusedVariables false
set_option linter.unusedSimpArgs false
set_option maxRecDepth 20000
namespace Go.Proofs.YtnikonhkbldnnaaGreatDoor
open Go Go.PS
attribute [-simp] isKeyK List.map_take
@[simp] def eR (x : List Nat) : List TL := [eNs x]
def d65aD : List (List Nat) := [[], [], [], [1, 2], [1, 2, 3], [1, 2, 3, 4], [], [6], [1, 2, 3, 4, 5, 6, 7], [1, 2, 3, 4, 5, 6, 7, 8], [0, 1, 2, 3, 4, 5, 6, 7, 8, 9], [0, 1, 2, 3, 4, 5, 6, 7, 8, 9, 10]]
def d65aT : List Nat := [0, 1, 2, 3, 4, 5, 6, 7, 8, 9, 10, 11]
def d65aP : List (List (Option Bool)) := [[some false, none, none, none, none, none, none, none, none, none, some false, some false], [none, some false, none, some false, some false, some false, none, none, some false, some false, some false, some false], [none, none, some false, some false, some false, some false, none, none, some false, some false, some false, some false], [none, some true, some true, some false, some false, some false, none, none, some false, some false, some false, some false], [none, some true, some true, some true, some false, some false, none, none, some false, some false, some false, some false], [none, some true, some true, some true, some true, some false, none, none, some false, some false, some false, some false], [none, none, none, none, none, none, some false, some false, some false, some false, some false, some false], [none, none, none, none, none, none, some true, some false, some false, some false, some false, some false], [none, some true, some true, some true, some true, some true, some true, some true, some false, some false, some false, some false], [none, some true, some true, some true, some true, some true, some true, some true, some true, some false, some false, some false], [some true, some true, some true, some true, some true, some true, some true, some true, some true, some true, some false, some false], [some true, some true, some true, some true, some true, some true, some true, some true, some true, some true, some true, some false]]
def d65bD : List (List Nat) := [[], [], [], [0, 1, 2], [], [4], [], [], [6, 7], [4, 5, 6, 7, 8], [0, 1, 2, 3, 4, 5, 6, 7, 8, 9], [0, 1, 2, 3, 4, 5, 6, 7, 8, 9, 10]]
def d65bT : List Nat := [0, 1, 2, 3, 4, 5, 6, 7, 8, 9, 10, 11]
def d65bP : List (List (Option Bool)) := [[some false, none, none, some false, none, none, none, none, none, none, some false, some false], [none, some false, none, some false, none, none, none, none, none, none, some false, some false], [none, none, some false, some false, none, none, none, none, none, none, some false, some false], [some true, some true, some true, some false, none, none, none, none, none, none, some false, some false], [none, none, none, none, some false, some false, none, none, none, some false, some false, some false], [none, none, none, none, some true, some false, none, none, none, some false, some false, some false], [none, none, none, none, none, none, some false, none, some false, some false, some false, some false], [none, none, none, none, none, none, none, some false, some false, some false, some false, some false], [none, none, none, none, none, none, some true, some true, some false, some false, some false, some false], [none, none, none, none, some true, some true, some true, some true, some true, some false, some false, some false], [some true, some true, some true, some true, some true, some true, some true, some true, some true, some true, some false, some false], [some true, some true, some true, some true, some true, some true, some true, some true, some true, some true, some true, some false]]

theorem nbits_succ (s n : Nat) : (List.range (n + 1)).filter s.testBit = (List.range n).filter s.testBit ++ if s.testBit n then [n] else [] := by
  rw [List.range_succ, List.filter_append]
  congr 1
  cases h : s.testBit n <;> simp [h]
theorem cmp_beq (x y : List Nat) : (cmpN x y != 0) = decide (x ≠ y) := by
  rw [Bool.eq_iff_iff, bne_iff_ne, decide_eq_true_eq]
  exact ⟨fun h e => h (by rw [e, cmpN_self]), fun h e => h (cmpN_eq e)⟩
theorem insK_where {S : List (List Nat)} {p : List Nat} {k : Nat} (hS : Ris S) (hk : k ≤ S.length) (h1 : ∀ j, j < k → cmpN (gK S j) p < 0) (h2 : k < S.length → ¬ cmpN (gK S k) p < 0) :
    ((k < S.length ∧ gK S k = p) → insK S p = S) ∧ (¬ (k < S.length ∧ gK S k = p) → insK S p = S.take k ++ p :: S.drop k) := by
  have hg : ∀ i (h : i < S.length), gK S i = S[i] := fun i h => by simp [gK, List.getD_eq_getElem?_getD, h]
  have hcnt : S.countP (fun q => decide (cmpN q p < 0)) = k := by
    have hle : S.countP (fun q => decide (cmpN q p < 0)) ≤ S.length := List.countP_le_length
    rcases Nat.lt_trichotomy (S.countP (fun q => decide (cmpN q p < 0))) k with h | h | h
    · exfalso
      have hl : S.countP (fun q => decide (cmpN q p < 0)) < S.length := by omega
      have := (ris_count (p := p) hS _ hl).2 (by rw [← hg _ hl]; exact h1 _ h)
      omega
    · exact h
    · exfalso
      have hl : k < S.length := by omega
      have := (ris_count (p := p) hS _ hl).1 h
      rw [← hg _ hl] at this
      exact h2 hl this
  refine ⟨fun ⟨hl, he⟩ => ?_, fun hn => ?_⟩
  · have : S.contains p = true := by
      rw [List.contains_iff_mem, ← he, hg _ hl]
      exact List.getElem_mem hl
    unfold insK
    simp only [this, if_true]
  · have : S.contains p = false := by
      rw [Bool.eq_false_iff]
      intro hc
      rw [List.contains_iff_mem] at hc
      obtain ⟨i, hi, he⟩ := List.mem_iff_getElem.1 hc
      rcases Nat.lt_trichotomy i k with h | h | h
      · have := h1 i h
        rw [hg _ hi, he, cmpN_self] at this
        omega
      · subst h
        exact hn ⟨hi, by rw [hg _ hi]; exact he⟩
      · have a1 := ris_lt hS h hi
        rw [hg i hi, he] at a1
        exact h2 (by omega) a1
    unfold insK
    simp only [this, Bool.false_eq_true, if_false, hcnt]
theorem kinds_snoc (L : List (List Nat)) (p : List Nat) : kindsL (L ++ [p]) = insK (kindsL L) p := by simp [kindsL, List.foldl_append]
theorem insK_len (S : List (List Nat)) (p : List Nat) : (insK S p).length ≤ S.length + 1 := by
  unfold insK
  simp only
  split
  · omega
  · simp
    omega
theorem kinds_len : ∀ (L : List (List Nat)), (kindsL L).length ≤ L.length := by
  intro L
  have : ∀ (n : Nat), n ≤ L.length → (kindsL (L.take n)).length ≤ n := by
    intro n
    induction n with
    | zero => intro _; simp [kindsL]
    | succ n ih =>
      intro h
      rw [List.take_add_one, show L[n]? = some (L[n]'(by omega)) from List.getElem?_eq_getElem (by omega)]
      show (kindsL (L.take n ++ [L[n]])).length ≤ n + 1
      rw [kinds_snoc]
      have := insK_len (kindsL (L.take n)) L[n]
      have := ih (by omega)
      omega
  have := this L.length (Nat.le_refl _)
  rwa [List.take_length] at this
set_option maxHeartbeats 4000000 in
theorem rrefined_spec (t c : List Nat) (hc : c.length = t.length) (ht : t.length ≤ 12) (hs : ∀ x ∈ t, x < 2 ^ t.length) :
    PCall Tryz.prog 81 [eNs t, eNs c] (.t .fz (eNs (refN t c))) [] := by
  refine pcall_wp _ Tryz.func81 rfl (by kernel_rfl) rfl ?_
  have h12 : 2 ^ t.length ≤ 2 ^ 12 := Nat.pow_le_pow_right (by decide) ht
  simp -dsimp
  refine lg_adoptT 5 5 22 1 (by simp; rfl) (by simp) ?_
  refine wk_loop (fun v : Nat => ⟨[(20, pI v), (19, pI t.length), (18, .t .ro (eNs t)), (5, .osl 5), (6, .t .fz (.v (.slice none 0 0))), (0, .t .ro (eNs t)), (1, .t .ro (eNs c))], [(5, .row 22 1 .fz (((List.range v).map (kdN t c)).map eR))]⟩)
    (fun v => v ≤ t.length) (fun v => t.length - v) 0
    (le_of (by simp) (by simp)) (by simp) fun v hv => ?_
  simp -dsimp
  refine condX_dec (fun hx => ?_) (fun hx => ?_)
  · have hw := wr (n := (v : Int) + 1) (by omega) (by omega)
    have q1 := iL_at (l := t) (i := v) hx
    have q2 := iL_at (l := c) (i := v) (by omega)
    have hm := hs _ (getD_mem hx)
    have hkd := kdN_eq t c v
    have hkt := kds_take t c hx
    have hnd : (List.range t.length).filter (t.getD v 0).testBit = ndN (t.getD v 0) := nd_filter ht hm
    generalize t.getD v 0 = s at q1 hkd hnd hm
    generalize c.getD v 0 = own at q2 hkd
    have i1 : (v : Int) < t.length := by omega
    have i2 : (v : Int) < c.length := by omega
    have i5 : (0 : Int) ≤ v := by omega
    simp -dsimp [i1, i2, i5, q1, q2]
    refine lg_adoptT 9 9 3 1 (by simp; rfl) (by simp) ?_
    refine wk_loop (fun u : Nat => ⟨[(27, pI u), (26, pI t.length), (9, .osl 9), (7, pI v), (8, .t .ro (eI s)), (20, pI v), (19, pI t.length), (18, .t .ro (eNs t)), (5, .osl 5), (6, .t .fz (.v (.slice none 0 0))), (0, .t .ro (eNs t)), (1, .t .ro (eNs c))],
        [(9, .row 3 1 .fz ((iL (((List.range u).filter s.testBit).map (colAt c))).map cI)), (5, .row 22 1 .fz (((List.range v).map (kdN t c)).map eR))]⟩)
      (fun u => u ≤ t.length) (fun u => t.length - u) 0
      (le_of (by simp) (by simp)) (by simp) fun u hu => ?_
    simp -dsimp
    refine condX_dec (fun hy => ?_) (fun hy => ?_)
    · have hwu := wr (n := (u : Int) + 1) (by omega) (by omega)
      have hb := and1_bit s u (by omega) (by omega)
      have hsu := nbits_succ s u
      have r2 := iL_at (l := c) (i := u) (by omega)
      have hlen : (((List.range u).filter s.testBit)).length ≤ u := Nat.le_trans (List.length_filter_le _ _) (by simp)
      have hca : colAt c u = c.getD u 0 := rfl
      generalize (List.range u).filter s.testBit = F at *
      generalize c.getD u 0 = q at *
      have j2 : (u : Int) < c.length := by omega
      have j6 : (0 : Int) ≤ u := by omega
      have hbb : (F.length + 1) * 8 ≤ 140737488355328 := by omega
      cases hc2 : s.testBit u
      · rw [hc2] at hb hsu
        simp -dsimp [hb]
        refine LoopP_next (u + 1) (le_of (by simp [hwu]) (by simp [hsu])) (by omega) (by omega)
      · rw [hc2] at hb hsu
        simp -dsimp [hb, j2, j6, r2, hbb]
        refine LoopP_next (u + 1) (le_of (by simp [hwu]) (by simp [hsu, hca])) (by omega) (by omega)
    · have hu' : u = t.length := by omega
      subst hu'
      rw [hnd]
      have hnl := bits_len s
      obtain ⟨L, hL⟩ : ∃ L, L = (ndN s).map (colAt c) := ⟨_, rfl⟩
      have hLl : L.length ≤ 12 := by rw [hL]; simpa using hnl
      rw [← hL] at hkd ⊢
      have hso := sorted_spec L (by omega)
      have hsl : (srtN L).length ≤ 12 := by rw [srt_len]; exact hLl
      generalize srtN L = SL at hso hkd hsl
      have hb1 : (SL.length + 1) * 8 ≤ 140737488355328 := by omega
      have hb1' : (1 + SL.length) * 8 ≤ 140737488355328 := by omega
      have hb2 : (v + 1) * 24 ≤ 140737488355328 := by omega
      simp -dsimp
      refine dg_frz [9] ?_
      simp -dsimp
      refine wk_dagZ [[], [], [], [], [], [], [], [], [48]] (fun bs => ⟨[(43, cnd (bs.getD 0 false && !bs.getD 10 false) (.osl 5)), (44, cnd (bs.getD 1 false) (.t .ro (eNs c))), (45, cnd (bs.getD 2 false) (pI v)), (46, cnd (bs.getD 3 false) (.t .ro (.rp (cI own) 0))), (47, cnd (bs.getD 4 false) (.t .ro (eI own))), (48, cnd (bs.getD 5 false && !bs.getD 8 false) (.osl 48)), (49, cnd (bs.getD 6 false) (.t .fz (eNs L))), (50, cnd (bs.getD 7 false) (.t .fz (eNs SL))), (51, cnd (bs.getD 8 false) (.t .fz (eNs (own :: SL)))), (52, cnd (bs.getD 9 false) (.osl 52)), (53, cnd (bs.getD 10 false) (.osl 5)), (5, if bs.getD 11 false then .osl 5 else cnd (!bs.getD 10 false) (.osl 5)), (9, .t .fz (eNs L)), (7, pI v), (20, pI v), (19, pI t.length), (18, .t .ro (eNs t)), (6, .t .fz (.v (.slice none 0 0))), (0, .t .ro (eNs t)), (1, .t .ro (eNs c))],
          [(5, .row 22 1 .fz (if bs.getD 10 false then ((List.range v).map (kdN t c)).map eR ++ [eR (own :: SL)] else ((List.range v).map (kdN t c)).map eR)), (48, cndR (bs.getD 5 false && !bs.getD 8 false) (.row 3 1 .fz [cI own])), (52, cndR (bs.getD 9 false) (.row 22 1 .fz [eR (own :: SL)]))]⟩) d65aD d65aT d65aP mixed (by kernel_rfl) (le_of (by simp) (by simp)) ?_ ?_
      · unfold d65aP
        repeat' first
          | exact dagZG_end
          | refine dagZG_step ?_ ?_
        all_goals
          simp -dsimp [i2, i5, q2, hb1, hb1', hb2, -Bool.forall_bool, -Res.men, -Res.kill]
        repeat' first
          | intro _
          | with_reducible apply And.intro
          | (refine le_of (by simp) ?_
             simp; done)
          | (refine CallG.by hso ?_
             simp -dsimp [-Res.men, -Res.kill])
      · simp -dsimp
        refine LoopP_next (v + 1) (le_of (by simp [hw]) (by simp [hkt, hkd])) (by omega) (by omega)
  · have hv' : v = t.length := by omega
    subst hv'
    have hF : refN t c = (kdsN t c).map (rkL (kindsL (kdsN t c))) := rfl
    have hKl : (kdsN t c).length = t.length := by simp [kdsN]
    rw [show List.map (eR ∘ kdN t c) (List.range t.length) = (kdsN t c).map eR by simp [kdsN]]
    generalize kdsN t c = K at hF hKl
    have hwk0 : True := trivial
    simp -dsimp
    refine lg_adoptT 6 6 22 1 (by simp; rfl) (by simp) ?_
    refine lg_frz [5, 6] ?_
    simp -dsimp
    have hKt : ∀ i (hi : i < K.length), kindsL (K.take (i + 1)) = insK (kindsL (K.take i)) K[i] := fun i hi => by
      rw [List.take_add_one, show K[i]? = some K[i] from List.getElem?_eq_getElem hi]
      exact kinds_snoc _ _
    have hKSl : ∀ i, i ≤ K.length → (kindsL (K.take i)).length ≤ 12 := fun i hi => by
      have := kinds_len (K.take i)
      simp at this
      omega
    refine wk_loopS [22] (fun i : Nat => ⟨[(57, pI i), (56, pI K.length), (55, .t .fz (.sl .any 1 (K.map eR))), (5, .t .fz (.sl .any 1 (K.map eR))), (6, .t .fz (.sl .any 1 ((kindsL (K.take i)).map eR)))], []⟩)
      (fun i => i ≤ K.length) (fun i => K.length - i) 0
      (le_of (by simp [kindsL]) (by simp)) (by simp) fun i hi => ?_
    simp -dsimp
    refine condX_dec (fun hy => ?_) (fun hy => ?_)
    · have hw := wr (n := (i : Int) + 1) (by omega) (by omega)
      have hksn := hKt i hy
      have hSl := hKSl i hi
      have hS := kinds_ris (K.take i)
      generalize kindsL (K.take i) = S at hksn hSl hS
      have hKi : ∀ hh : i < K.length, K[i]'hh = K[i] := fun _ => rfl
      obtain ⟨p, hp⟩ : ∃ p, p = K[i] := ⟨_, rfl⟩
      have hpK : (List.map eR K)[i]? = some (eR p) := by simp [hp, hy]
      rw [← hp] at hksn
      have i1 : (i : Int) < K.length := by omega
      have i5 : (0 : Int) ≤ i := by omega
      simp -dsimp [i1, i5, hy]
      rw [← hp]
      refine wk_loop (fun k : Nat => ⟨[(13, pI k), (12, .t .fz (eNs p)), (57, pI i), (56, pI K.length), (55, .t .fz (.sl .any 1 (K.map eR))), (5, .t .fz (.sl .any 1 (K.map eR))), (6, .t .fz (.sl .any 1 (S.map eR)))], []⟩)
        (fun k => k ≤ S.length ∧ ∀ j, j < k → cmpN (gK S j) p < 0) (fun k => S.length - k) 0
        (le_of (by simp) (by simp)) ⟨by omega, fun j hj => by omega⟩ fun k ⟨hk, hJ⟩ => ?_
      have hwk := wr (n := (k : Int) + 1) (by omega) (by omega)
      have i6 : (0 : Int) ≤ k := by omega
      by_cases hkl : k < S.length
      · have hgk : gK S k = S[k] := by simp [gK, List.getD_eq_getElem?_getD, hkl]
        have hcm := rcmp_spec S[k] p
        have hkI : (k : Int) < S.length := by omega
        have hne : ((k : Int) == (S.length : Int)) = false := by
          rw [beq_eq_false_iff_ne]
          omega
        by_cases hlt : cmpN S[k] p < 0
        · simp -dsimp [hkI, hkl]
          first
            | refine CallG.by (hcm) ?_
            | refine CallGE.by (hcm) ?_
            | refine CallGB.by (hcm) ?_
          simp -dsimp [hlt]
          refine LoopP_next (k + 1) (le_of (by simp [hwk]) (by simp)) ⟨by omega, fun j hj => ?_⟩ (by omega)
          rcases Nat.lt_or_ge j k with h5 | h5
          · exact hJ j h5
          · rw [show j = k by omega, hgk]
            exact hlt
        · obtain ⟨w1, w2⟩ := insK_where (p := p) hS hk hJ (fun _ => by rw [hgk]; exact hlt)
          by_cases he : S[k] = p
          · have hins := w1 ⟨hkl, by rw [hgk]; exact he⟩
            have hz : cmpN S[k] p = 0 := by rw [he, cmpN_self]
            rw [hz] at hcm
            simp -dsimp [hkI, hkl]
            first
              | refine CallG.by (hcm) ?_
              | refine CallGE.by (hcm) ?_
              | refine CallGB.by (hcm) ?_
            simp -dsimp [hne, hkl]
            first
              | refine CallG.by (hcm) ?_
              | refine CallGE.by (hcm) ?_
              | refine CallGB.by (hcm) ?_
            simp -dsimp
            refine stop_go ?_
            simp -dsimp
            refine LoopP_next (i + 1) (le_of (by simp [hw, hksn, hins]) (by simp)) (by omega) (by omega)
          · have hins := w2 fun ⟨_, h⟩ => he (by rw [← hgk]; exact h)
            have hz : (cmpN S[k] p != 0) = true := by
              rw [bne_iff_ne]
              exact fun h => he (cmpN_eq h)
            obtain ⟨A, hA⟩ : ∃ A, A = S.take k := ⟨_, rfl⟩
            obtain ⟨B, hB⟩ : ∃ B, B = S.drop k := ⟨_, rfl⟩
            have k1 : List.take k (List.map eR S) = List.map eR A := by rw [hA, List.map_take]
            have k2 : List.drop k (List.map eR S) = List.map eR B := by rw [hB, List.map_drop]
            have k3 : List.take (S.length - k) (List.map eR B) = List.map eR B := List.take_of_length_le (by rw [hB]; simp)
            have lA : A.length ≤ 12 := by rw [hA]; simp; omega
            have lB : B.length ≤ 12 := by rw [hB]; simp; omega
            have hb1 : (B.length + 1) * 24 ≤ 140737488355328 := by omega
            have hb1' : (1 + B.length) * 24 ≤ 140737488355328 := by omega
            have hb2 : (A.length + (B.length + 1)) * 24 ≤ 140737488355328 := by omega
            have hb3 : (A.length + 1 + (B.length + 1)) * 24 ≤ 140737488355328 := by omega
            have j2 : (k : Int) ≤ S.length := by omega
            rw [← hA, ← hB] at hins
            clear hA hB
            simp -dsimp [hkI, hkl]
            first
              | refine CallG.by (hcm) ?_
              | refine CallGE.by (hcm) ?_
              | refine CallGB.by (hcm) ?_
            simp -dsimp [hlt, hne, hkl]
            first
              | refine CallG.by (hcm) ?_
              | refine CallGE.by (hcm) ?_
              | refine CallGB.by (hcm) ?_
            simp -dsimp [hz]
            refine wk_dagZ [] (fun bs => ⟨[(89, cnd (bs.getD 0 false) (.t .fz (.sl .any 1 (S.map eR)))), (90, cnd (bs.getD 1 false) (pI k)), (91, cnd (bs.getD 2 false) (pI k)), (92, cnd (bs.getD 3 false) (.t .fz (.sl .tight 1 (A.map eR)))), (93, cnd (bs.getD 4 false) (.t .fz (eNs p))), (94, cnd (bs.getD 5 false && !bs.getD 9 false) (.osl 94)), (95, cnd (bs.getD 6 false) (.t .fz (.sl .any 1 (S.map eR)))), (96, cnd (bs.getD 7 false) (pI k)), (97, cnd (bs.getD 8 false) (.t .fz (.sl .any 1 (B.map eR)))), (98, cnd (bs.getD 9 false) (.osl 94)), (99, cnd (bs.getD 10 false) (.osl 99)), (6, if bs.getD 11 false then .osl 99 else .t .fz (.sl .any 1 (S.map eR))), (13, pI k), (12, .t .fz (eNs p)), (57, pI i), (56, pI K.length), (55, .t .fz (.sl .any 1 (K.map eR))), (5, .t .fz (.sl .any 1 (K.map eR)))],
              [(94, cndR (bs.getD 5 false) (.row 22 1 .fz (if bs.getD 9 false then [eR p] ++ B.map eR else [eR p]))), (99, cndR (bs.getD 10 false) (.row 22 1 .fz (A.map eR ++ ([eR p] ++ B.map eR))))]⟩) d65bD d65bT d65bP mixed (by kernel_rfl) (le_of (by simp) (by simp)) ?_ ?_
            · unfold d65bP
              cases A
              all_goals
                try simp only [List.length_cons] at hb2 hb3
                repeat' first
                  | exact dagZG_end
                  | refine dagZG_step ?_ ?_
                all_goals
                  simp -dsimp [k1, k2, k3, i6, hb1, hb1', hb2, hb3, hk, -Bool.forall_bool, -Res.men, -Res.kill]
                repeat' first
                  | intro _
                  | with_reducible apply And.intro
                  | (refine le_of (by simp) ?_
                     simp; done)
            · simp -dsimp
              refine stop_frz [99] ?_
              simp -dsimp
              refine stop_go ?_
              simp -dsimp
              refine LoopP_next (i + 1) (le_of (by simp [hw, hksn, hins]) (by simp)) (by omega) (by omega)
      · have hkI : ¬ (k : Int) < S.length := by omega
        have hne : ((k : Int) == (S.length : Int)) = true := by
          rw [beq_iff_eq]
          omega
        obtain ⟨w1, w2⟩ := insK_where (p := p) hS hk hJ (fun h => by omega)
        have hins := w2 fun ⟨h, _⟩ => hkl h
        obtain ⟨A, hA⟩ : ∃ A, A = S.take k := ⟨_, rfl⟩
        obtain ⟨B, hB⟩ : ∃ B, B = S.drop k := ⟨_, rfl⟩
        have k1 : List.take k (List.map eR S) = List.map eR A := by rw [hA, List.map_take]
        have k2 : List.drop k (List.map eR S) = List.map eR B := by rw [hB, List.map_drop]
        have k3 : List.take (S.length - k) (List.map eR B) = List.map eR B := List.take_of_length_le (by rw [hB]; simp)
        have lA : A.length ≤ 12 := by rw [hA]; simp; omega
        have lB : B.length ≤ 12 := by rw [hB]; simp; omega
        have hb1 : (B.length + 1) * 24 ≤ 140737488355328 := by omega
        have hb1' : (1 + B.length) * 24 ≤ 140737488355328 := by omega
        have hb2 : (A.length + (B.length + 1)) * 24 ≤ 140737488355328 := by omega
        have hb3 : (A.length + 1 + (B.length + 1)) * 24 ≤ 140737488355328 := by omega
        have j2 : (k : Int) ≤ S.length := by omega
        rw [← hA, ← hB] at hins
        clear hA hB
        simp -dsimp [hkI, hkl, hne]
        refine wk_dagZ [] (fun bs => ⟨[(89, cnd (bs.getD 0 false) (.t .fz (.sl .any 1 (S.map eR)))), (90, cnd (bs.getD 1 false) (pI k)), (91, cnd (bs.getD 2 false) (pI k)), (92, cnd (bs.getD 3 false) (.t .fz (.sl .tight 1 (A.map eR)))), (93, cnd (bs.getD 4 false) (.t .fz (eNs p))), (94, cnd (bs.getD 5 false && !bs.getD 9 false) (.osl 94)), (95, cnd (bs.getD 6 false) (.t .fz (.sl .any 1 (S.map eR)))), (96, cnd (bs.getD 7 false) (pI k)), (97, cnd (bs.getD 8 false) (.t .fz (.sl .any 1 (B.map eR)))), (98, cnd (bs.getD 9 false) (.osl 94)), (99, cnd (bs.getD 10 false) (.osl 99)), (6, if bs.getD 11 false then .osl 99 else .t .fz (.sl .any 1 (S.map eR))), (13, pI k), (12, .t .fz (eNs p)), (57, pI i), (56, pI K.length), (55, .t .fz (.sl .any 1 (K.map eR))), (5, .t .fz (.sl .any 1 (K.map eR)))],
          [(94, cndR (bs.getD 5 false) (.row 22 1 .fz (if bs.getD 9 false then [eR p] ++ B.map eR else [eR p]))), (99, cndR (bs.getD 10 false) (.row 22 1 .fz (A.map eR ++ ([eR p] ++ B.map eR))))]⟩) d65bD d65bT d65bP mixed (by kernel_rfl) (le_of (by simp) (by simp)) ?_ ?_
        · unfold d65bP
          cases A
          all_goals
            try simp only [List.length_cons] at hb2 hb3
            repeat' first
              | exact dagZG_end
              | refine dagZG_step ?_ ?_
            all_goals
              simp -dsimp [k1, k2, k3, i6, hb1, hb1', hb2, hb3, hk, -Bool.forall_bool, -Res.men, -Res.kill]
            repeat' first
              | intro _
              | with_reducible apply And.intro
              | (refine le_of (by simp) ?_
                 simp; done)
        · simp -dsimp
          refine stop_frz [99] ?_
          simp -dsimp
          refine stop_go ?_
          simp -dsimp
          refine LoopP_next (i + 1) (le_of (by simp [hw, hksn, hins]) (by simp)) (by omega) (by omega)
    · have hi' : i = K.length := by omega
      subst hi'
      rw [List.take_length]
      have hS := kinds_ris K
      have hSm := kinds_mem K
      have hSl2 := kinds_len K
      generalize kindsL K = S at hF hS hSm hSl2
      have hbb : ∀ i, i < K.length → (min i K.length + 1) * 8 ≤ 140737488355328 := fun i hi => by omega
      have hwi : ∀ i, i < K.length → IntKind.i64.wrap ((i : Int) + 1) = (i : Int) + 1 := fun i hi => wr (by omega) (by omega)
      simp -dsimp
      refine lg_adoptT 14 14 3 1 (by simp; rfl) (by simp) ?_
      refine wk_loop (fun i : Nat => ⟨[(103, pI i), (102, pI K.length), (101, .t .fz (.sl .any 1 (K.map eR))), (6, .t .fz (.sl .any 1 (S.map eR))), (14, .osl 14)], [(14, .row 3 1 .fz ((iL ((K.take i).map (rkL S))).map cI))]⟩)
        (fun i => i ≤ K.length) (fun i => K.length - i) 0
        (le_of (by simp) (by simp)) (by omega) fun i hi => ?_
      simp -dsimp
      refine condX_dec (fun hy => ?_) (fun hy => ?_)
      rotate_left
      · have hi' : i = K.length := by omega
        subst hi'
        rw [List.take_length, ← hF]
        simp -dsimp
        refine retP_c ?_
        simp -dsimp
      have hta : (K.take (i + 1)).map (rkL S) = (K.take i).map (rkL S) ++ [rkL S K[i]] := by
        rw [List.take_add_one, List.map_append]
        simp [hy]
      have h1 := hbb i hy
      have h2 := hwi i hy
      have hpS : K[i] ∈ S := (hSm _).2 (List.getElem_mem hy)
      obtain ⟨p, hp⟩ : ∃ p, p = K[i] := ⟨_, rfl⟩
      have i1 : (i : Int) < K.length := by omega
      have i5 : (0 : Int) ≤ i := by omega
      rw [← hp] at hta hpS
      obtain ⟨hrl, hrg⟩ := rk_get hS hpS
      simp -dsimp [i1, i5, hy]
      rw [← hp]
      refine wk_loop (fun k : Nat => ⟨[(17, pI k), (16, .t .fz (eNs p)), (103, pI i), (102, pI K.length), (101, .t .fz (.sl .any 1 (K.map eR))), (6, .t .fz (.sl .any 1 (S.map eR))), (14, .osl 14)], [(14, .row 3 1 .fz ((iL ((K.take i).map (rkL S))).map cI))]⟩)
        (fun k => k ≤ rkL S p) (fun k => rkL S p - k) 0
        (le_of (by simp) (by simp)) (by omega) fun k hk => ?_
      have hkl : k < S.length := by omega
      have hkI : (k : Int) < S.length := by omega
      have i6 : (0 : Int) ≤ k := by omega
      have hwk := wr (n := (k : Int) + 1) (by omega) (by omega)
      have hcm := rcmp_spec S[k] p
      by_cases he : k = rkL S p
      · have hz : cmpN S[k] p = 0 := by
          have : S[k] = p := by simp only [he]; exact hrg
          rw [this, cmpN_self]
        rw [hz] at hcm
        subst he
        simp -dsimp [hkI, i6, hkl]
        first
          | refine CallG.by (hcm) ?_
          | refine CallGE.by (hcm) ?_
          | refine CallGB.by (hcm) ?_
        simp -dsimp [h1]
        refine LoopP_next (i + 1) (le_of (by simp [h2]) (by simp [hta])) (by omega) (by omega)
      · have hz : (cmpN S[k] p != 0) = true := by
          rw [bne_iff_ne]
          intro h
          have e := cmpN_eq h
          have := rk_at hS k hkl
          rw [e] at this
          exact he this.symm
        simp -dsimp [hkI, i6, hkl]
        first
          | refine CallG.by (hcm) ?_
          | refine CallGE.by (hcm) ?_
          | refine CallGB.by (hcm) ?_
        simp -dsimp [hz]
        refine LoopP_next (k + 1) (le_of (by simp [hwk]) (by simp)) (by omega) (by omega)
end Go.Proofs.YtnikonhkbldnnaaGreatDoor
