import Derived.Test.YtnikonhkbldnnaaDoorLB29
/- LR9: the reference: kids, Size, Deep, shaped, Formula, Closed, Depth. -/
set_option linter.unusedVariables false
set_option linter.unusedSimpArgs false
set_option maxRecDepth 20000
namespace Go.Proofs.YtnikonhkbldnnaaDoor
open Go Go.PS
attribute [-simp] isKeyK List.map_take
theorem kidsR_spec (o : ByteArray) : PCall Tryd.prog 45 [.v (.string o)] (pI (kidsI o)) [] := by
  refine pcall_wp _ Tryd.func45 rfl (by kernel_rfl) rfl ?_
  rcases op_cases o with rfl | rfl | rfl | rfl | rfl | h
  · rw [kidsI_eq]
    simp -dsimp
    refine retP_c ?_
    simp -dsimp
  · rw [kidsI_ad]
    simp -dsimp
    refine retP_c ?_
    simp -dsimp
  · rw [kidsI_no]
    simp -dsimp
    refine retP_c ?_
    simp -dsimp
  · rw [kidsI_ex]
    simp -dsimp
    refine retP_c ?_
    simp -dsimp
  · rw [kidsI_an]
    simp -dsimp
    refine retP_c ?_
    simp -dsimp
  · rw [kidsI_none h]
    simp -dsimp [h.e1, h.e2, h.e3, h.e4, h.e5]
    refine retP_c ?_
    simp -dsimp
theorem sizeR_spec : ∀ (N : Nat) (f : FT), nodesF f ≤ N → PCall Tryd.prog 27 [.agg (ftC f)] (pI (min (nodesF f) 2001 : Nat)) []
  | 0, f, hN => by have := nodesF_pos f; omega
  | N + 1, .mk o a b ks, hN => by
    rw [nodesF] at hN ⊢
    rw [ftC_mk]
    refine pcall_agg 0 3 rfl rfl call27 fun hkl => ?_
    simp only [List.length_map] at hkl
    refine pcall_wp _ Tryd.func27 rfl (by kernel_rfl) rfl ?_
    simp -dsimp
    refine wk_loop (fun i : Nat => ⟨[(9, pI i), (8, pI ks.length), (7, .t .ro (.sl .any 4 (ks.map ftC))), (3, pI (1 + nodesL (ks.take i) : Nat))], []⟩)
      (fun i => i ≤ ks.length ∧ 1 + nodesL (ks.take i) ≤ 2000) (fun i => ks.length - i) 0
      (le_of (by simp [nodesL]) (by simp)) ⟨Nat.zero_le _, by simp [nodesL]⟩ fun i ⟨hi, hs⟩ => ?_
    simp -dsimp
    refine condX_dec (fun hlt => ?_) (fun hge => ?_)
    · have hlt' : i < ks.length := by omega
      have hw := wr (n := (i : Int) + 1) (by omega) (by omega)
      have hm := nodes_mem (List.getElem_mem hlt')
      have ih := sizeR_spec N ks[i] (by omega)
      have hsn := nodesL_snoc (ks.take i) ks[i]
      rw [← take_snoc hlt'] at hsn
      have hle := nodesL_le ks (i + 1)
      obtain ⟨o', a', b', ks', hk'⟩ := ft_split ks[i]
      rw [hk'] at ih hsn
      rw [ftC_mk] at ih
      generalize nodesF (.mk o' a' b' ks') = d at *
      generalize hmm : nodesL (ks.take i) = m at *
      have hw2 := wr (n := 1 + (m : Int) + ((min d 2001 : Nat) : Int)) (by omega) (by omega)
      obtain ⟨e, he⟩ : ∃ e, e = min d 2001 := ⟨_, rfl⟩
      rw [← he] at ih hw2
      have hi0 : (i : Int) < ks.length := by omega
      by_cases hg : 2000 < 1 + m + e
      · have hF : min (1 + nodesL ks) 2001 = 2001 := by omega
        have hg' : (2000 : Int) < 1 + (m : Int) + (e : Int) := by omega
        rw [hF]
        simp -dsimp [hlt, hi0, hlt', hk', ftC_mk]
        first
          | refine CallG.by (ih) ?_
          | refine CallGE.by (ih) ?_
          | refine CallGB.by (ih) ?_
        simp -dsimp [hw2, hg, hg']
        refine retP_c ?_
        simp -dsimp
      · have hg' : ¬ (2000 : Int) < 1 + (m : Int) + (e : Int) := by omega
        have hed : e = d := by omega
        have hq : 1 + (m : Int) + (e : Int) = 1 + ((nodesL (ks.take (i + 1)) : Nat) : Int) := by rw [hsn]; omega
        simp -dsimp [hlt, hi0, hlt', hk', ftC_mk]
        first
          | refine CallG.by (ih) ?_
          | refine CallGE.by (ih) ?_
          | refine CallGB.by (ih) ?_
        simp -dsimp [hw2, hg, hg', hw]
        refine LoopP_next (i + 1) (le_of (by simp [hq]) (by simp)) ⟨hlt', by omega⟩ (by omega)
    · have : i = ks.length := by omega
      rw [this, List.take_length] at hs ⊢
      have hF : min (1 + nodesL ks) 2001 = 1 + nodesL ks := by omega
      rw [hF]
      simp -dsimp
      refine retP_c ?_
      simp -dsimp
theorem deepR_spec : ∀ (N : Nat) (f : FT), nodesF f ≤ N → ∀ left : Nat, left ≤ 1000 → PCall Tryd.prog 28 [.agg (ftC f), eI left] (pI (deepR f left : Nat)) []
  | 0, f, hN, _, _ => by have := nodesF_pos f; omega
  | N + 1, .mk o a b ks, hN, left, hl => by
    rw [nodesF] at hN
    rw [ftC_mk, deepR]
    refine pcall_agg 0 3 rfl rfl call28 fun hkl => ?_
    simp only [List.length_map] at hkl
    refine pcall_wp _ Tryd.func28 rfl (by kernel_rfl) rfl ?_
    simp -dsimp
    refine wk_loop (fun i : Nat => ⟨[(11, pI i), (10, pI ks.length), (9, .t .ro (.sl .any 4 (ks.map ftC))), (5, pI (deepRL (ks.take i) left : Nat)), (1, .t .ro (eI left))], []⟩)
      (fun i => i ≤ ks.length ∧ (left < 1 → i = 0)) (fun i => ks.length - i) 0
      (le_of (by simp [deepRL]) (by simp)) ⟨Nat.zero_le _, fun _ => rfl⟩ fun i ⟨hi, h0⟩ => ?_
    simp -dsimp
    refine condX_dec (fun hlt => ?_) (fun hge => ?_)
    · have hlt' : i < ks.length := by omega
      have hi0 : (i : Int) < ks.length := by omega
      have hw := wr (n := (i : Int) + 1) (by omega) (by omega)
      have hm := nodes_mem (List.getElem_mem hlt')
      obtain ⟨o', a', b', ks', hk'⟩ := ft_split ks[i]
      by_cases hz : left < 1
      · have hF : deepRL ks left = 41 := by
          cases ks with
          | nil => simp at hlt'
          | cons k l => rw [deepRL, if_pos hz]
        have hz' : (left : Int) < 1 := by omega
        have hz2 : left = 0 := by omega
        rw [hF]
        simp -dsimp [hlt, hi0, hlt', hk', ftC_mk, hz, hz', hz2]
        refine retP_c ?_
        simp -dsimp
      · obtain ⟨l, rfl⟩ : ∃ l, left = l + 1 := ⟨left - 1, by omega⟩
        have ih := deepR_spec N ks[i] (by omega) l (by omega)
        have hsn := deepRL_snoc (ks.take i) ks[i] (left := l + 1) (by omega)
        rw [← take_snoc hlt', Nat.add_sub_cancel] at hsn
        have hub := deepR_ub ks[i] l
        rw [hk'] at ih hsn hub
        rw [ftC_mk] at ih
        generalize deepR (.mk o' a' b' ks') l = d at *
        generalize deepRL (ks.take i) (l + 1) = m at *
        have hz' : ¬ ((l : Int) + 1 < 1) := by omega
        have hel : (l : Int) + 1 - 1 = (l : Int) := by omega
        have hwl := wr (n := (l : Int)) (by omega) (by omega)
        have hw2 := wr (n := 1 + (d : Int)) (by omega) (by omega)
        have hmx : (if (m : Int) < 1 + (d : Int) then 1 + (d : Int) else (m : Int)) = ((deepRL (ks.take (i + 1)) (l + 1) : Nat) : Int) := by
          rw [hsn]
          split <;> omega
        simp -dsimp [hlt, hi0, hlt', hk', ftC_mk, hz, hz', hel, hwl]
        first
          | refine CallG.by (ih) ?_
          | refine CallGE.by (ih) ?_
          | refine CallGB.by (ih) ?_
        simp -dsimp [hw2, hmx, hw]
        refine LoopP_next (i + 1) (le_of (by simp [hmx]) (by simp)) ⟨hlt', fun h => absurd h hz⟩ (by omega)
    · have : i = ks.length := by omega
      rw [this, List.take_length]
      simp -dsimp
      refine retP_c ?_
      simp -dsimp
theorem node_cases {o : ByteArray} {a b : Int} {m : Nat} : nodeOk o a b m = false ↔ ((m : Int) ≠ kidsI o ∨ a < 0 ∨ 3 < a ∨ b < 0 ∨ 3 < b ∨ (0 < kidsI o ∧ b ≠ 0) ∨ ((o = oNo ∨ o = oAn) ∧ a ≠ 0)) := by
  rw [← Bool.not_eq_true]
  unfold nodeOk hasV
  simp only [Bool.and_eq_true, Bool.or_eq_true, decide_eq_true_eq]
  rcases op_cases o with rfl | rfl | rfl | rfl | rfl | h
  · simp only [kidsI_eq, oNo_ne]
    simp
    all_goals omega
  · simp only [kidsI_ad, oNo_ne]
    simp [oNo_ne]
    all_goals omega
  · simp only [kidsI_no, oNo_ne]
    simp [oNo_ne]
    all_goals omega
  · simp only [kidsI_ex, oNo_ne]
    simp [oNo_ne]
    all_goals omega
  · simp only [kidsI_an, oNo_ne]
    simp [oNo_ne]
    all_goals omega
  · simp only [kidsI_none h]
    simp
    all_goals omega
theorem str_dec (o : ByteArray) (l : List UInt8) : (o.toList == l) = decide (o = ⟨l.toArray⟩) := by
  by_cases h : o = ⟨l.toArray⟩
  · subst h
    simp
  · rw [decide_eq_false h, Bool.eq_false_iff]
    exact fun e => h (str_ext (by simpa using e))
theorem shaped_drop (ks : List FT) (i : Nat) (h : i < ks.length) : shapedL (ks.drop i) = (shapedF ks[i] && shapedL (ks.drop (i + 1))) := by
  rw [List.drop_eq_getElem_cons h, shapedL]
set_option maxHeartbeats 2000000 in
theorem shaped_spec : ∀ (N : Nat) (f : FT), nodesF f ≤ N → PCall Tryd.prog 29 [.agg (ftC f)] (pB (shapedF f)) []
  | 0, f, hN => by have := nodesF_pos f; omega
  | N + 1, .mk o a b ks, hN => by
    rw [nodesF] at hN
    rw [ftC_mk, shapedF]
    have hk := kidsR_spec o
    have hn := node_cases (o := o) (a := a) (b := b) (m := ks.length)
    have s1 := str_dec o [33]
    have s2 := str_dec o [38]
    refine pcall_agg 0 3 rfl rfl call29 fun hkl => ?_
    simp only [List.length_map] at hkl
    refine pcall_wp _ Tryd.func29 rfl (by kernel_rfl) rfl ?_
    generalize hc : kidsI o = c at *
    have fin : nodeOk o a b ks.length = false → (nodeOk o a b ks.length && shapedL ks) = false := fun h => by rw [h, Bool.false_and]
    by_cases g1 : (ks.length : Int) ≠ c
    · have g1' : ((ks.length : Int) != c) = true := by rw [bne_iff_ne]; exact g1
      rw [fin (hn.2 (.inl g1))]
      simp -dsimp
      first
        | refine CallG.by (hk) ?_
        | refine CallGE.by (hk) ?_
        | refine CallGB.by (hk) ?_
      simp -dsimp [g1']
      refine retP_c ?_
      simp -dsimp
    have g1' : ((ks.length : Int) != c) = false := by rw [bne_eq_false_iff_eq]; omega
    by_cases g2 : a < 0
    · rw [fin (hn.2 (.inr (.inl g2)))]
      simp -dsimp
      first
        | refine CallG.by (hk) ?_
        | refine CallGE.by (hk) ?_
        | refine CallGB.by (hk) ?_
      simp -dsimp [g1', g2]
      refine retP_c ?_
      simp -dsimp
    by_cases g3 : 3 < a
    · rw [fin (hn.2 (.inr (.inr (.inl g3))))]
      simp -dsimp
      first
        | refine CallG.by (hk) ?_
        | refine CallGE.by (hk) ?_
        | refine CallGB.by (hk) ?_
      simp -dsimp [g1', g2, g3]
      refine retP_c ?_
      simp -dsimp
    by_cases g4 : b < 0
    · rw [fin (hn.2 (.inr (.inr (.inr (.inl g4)))))]
      simp -dsimp
      first
        | refine CallG.by (hk) ?_
        | refine CallGE.by (hk) ?_
        | refine CallGB.by (hk) ?_
      simp -dsimp [g1', g2, g3, g4]
      refine retP_c ?_
      simp -dsimp
    by_cases g5 : 3 < b
    · rw [fin (hn.2 (.inr (.inr (.inr (.inr (.inl g5))))))]
      simp -dsimp
      first
        | refine CallG.by (hk) ?_
        | refine CallGE.by (hk) ?_
        | refine CallGB.by (hk) ?_
      simp -dsimp [g1', g2, g3, g4, g5]
      refine retP_c ?_
      simp -dsimp
    by_cases g6 : 0 < c ∧ b ≠ 0
    · have g6' : (b != 0) = true := by rw [bne_iff_ne]; exact g6.2
      rw [fin (hn.2 (.inr (.inr (.inr (.inr (.inr (.inl g6)))))))]
      simp -dsimp
      first
        | refine CallG.by (hk) ?_
        | refine CallGE.by (hk) ?_
        | refine CallGB.by (hk) ?_
      simp -dsimp [g1', g2, g3, g4, g5, g6.1, g6']
      refine retP_c ?_
      simp -dsimp
    have mid : ∀ {P : Prop}, (0 < c → (b != 0) = false → P) → (¬ 0 < c → P) → P := fun h1 h2 => by
      by_cases h : 0 < c
      · exact h1 h (by rw [bne_eq_false_iff_eq]; omega)
      · exact h2 h
    by_cases g7 : (o = oNo ∨ o = oAn) ∧ a ≠ 0
    · have g7' : (a != 0) = true := by rw [bne_iff_ne]; exact g7.2
      rw [fin (hn.2 (.inr (.inr (.inr (.inr (.inr (.inr g7)))))))]
      by_cases gc : 0 < c
      · have gb : (b != 0) = false := by rw [bne_eq_false_iff_eq]; omega
        rcases g7.1 with rfl | rfl
        · simp -dsimp
          first
            | refine CallG.by (hk) ?_
            | refine CallGE.by (hk) ?_
            | refine CallGB.by (hk) ?_
          simp -dsimp [g1', g2, g3, g4, g5, gc, gb, g7']
          refine retP_c ?_
          simp -dsimp
        · simp -dsimp
          first
            | refine CallG.by (hk) ?_
            | refine CallGE.by (hk) ?_
            | refine CallGB.by (hk) ?_
          simp -dsimp [g1', g2, g3, g4, g5, gc, gb, g7']
          refine retP_c ?_
          simp -dsimp
      · rcases g7.1 with rfl | rfl
        · simp -dsimp
          first
            | refine CallG.by (hk) ?_
            | refine CallGE.by (hk) ?_
            | refine CallGB.by (hk) ?_
          simp -dsimp [g1', g2, g3, g4, g5, gc, g7']
          refine retP_c ?_
          simp -dsimp
        · simp -dsimp
          first
            | refine CallG.by (hk) ?_
            | refine CallGE.by (hk) ?_
            | refine CallGB.by (hk) ?_
          simp -dsimp [g1', g2, g3, g4, g5, gc, g7']
          refine retP_c ?_
          simp -dsimp
    have hok : nodeOk o a b ks.length = true := by
      rw [← Bool.not_eq_false, hn]
      rintro (h | h | h | h | h | h | h)
      · exact g1 h
      · exact g2 h
      · exact g3 h
      · exact g4 h
      · exact g5 h
      · exact g6 h
      · exact g7 h
    rw [hok, Bool.true_and]
    have gb : 0 < c → (b != 0) = false := fun h => by rw [bne_eq_false_iff_eq]; omega
    have ga1 : (o.toList == [33]) = true → (a != 0) = false := fun h => by
      rw [s1, decide_eq_true_iff] at h
      rw [bne_eq_false_iff_eq]
      exact Decidable.byContradiction fun hh => g7 ⟨.inl h, hh⟩
    have ga2 : (o.toList == [38]) = true → (a != 0) = false := fun h => by
      rw [s2, decide_eq_true_iff] at h
      rw [bne_eq_false_iff_eq]
      exact Decidable.byContradiction fun hh => g7 ⟨.inr h, hh⟩
    clear hn fin g6 g7 g1 hok s1 s2 hc
    cases s1 : (o.toList == [33]) <;> cases s2 : (o.toList == [38]) <;> by_cases gc : 0 < c
    all_goals
      simp -dsimp
      first
        | refine CallG.by (hk) ?_
        | refine CallGE.by (hk) ?_
        | refine CallGB.by (hk) ?_
      simp -dsimp [g1', g2, g3, g4, g5, gc, gb, s1, s2, ga1, ga2]
      refine wk_loop (fun i : Nat => ⟨[(61, pI i), (60, pI ks.length), (59, .t .ro (.sl .any 4 (ks.map ftC)))], []⟩)
        (fun i => i ≤ ks.length ∧ shapedL ks = shapedL (ks.drop i)) (fun i => ks.length - i) 0
        (le_of (by simp) (by simp)) ⟨Nat.zero_le _, rfl⟩ fun i ⟨hi, hs⟩ => ?_
      simp -dsimp
      refine condX_dec (fun hlt => ?_) (fun hge => ?_)
      · have hlt' : i < ks.length := by omega
        have hi0 : (i : Int) < ks.length := by omega
        have hw := wr (n := (i : Int) + 1) (by omega) (by omega)
        have hm := nodes_mem (List.getElem_mem hlt')
        have ih := shaped_spec N ks[i] (by omega)
        have hdr := shaped_drop ks i hlt'
        obtain ⟨o', a', b', ks', hk'⟩ := ft_split ks[i]
        rw [hk'] at ih hdr
        rw [ftC_mk] at ih
        generalize shapedF (.mk o' a' b' ks') = z at *
        cases z
        · have hF : shapedL ks = false := by rw [hs, hdr]; rfl
          simp -dsimp [hlt, hi0, hlt', hk', ftC_mk]
          first
            | refine CallG.by (ih) ?_
            | refine CallGE.by (ih) ?_
            | refine CallGB.by (ih) ?_
          simp -dsimp
          refine retP_c ?_
          simp -dsimp [hF]
        · simp -dsimp [hlt, hi0, hlt', hk', ftC_mk]
          first
            | refine CallG.by (ih) ?_
            | refine CallGE.by (ih) ?_
            | refine CallGB.by (ih) ?_
          simp -dsimp [hw]
          refine LoopP_next (i + 1) (le_of (by simp) (by simp)) ⟨hlt', by rw [hs, hdr, Bool.true_and]⟩ (by omega)
      · have : i = ks.length := by omega
        have hF : shapedL ks = true := by rw [hs, this, List.drop_length, shapedL]
        simp -dsimp
        refine retP_c ?_
        simp -dsimp [hF]
theorem Formula_spec (f : FT) : PCall Tryd.prog 9 [.agg (ftC f)] (pB (formOk f)) [] := by
  have h1 := sizeR_spec _ f (Nat.le_refl _)
  have h2 := deepR_spec _ f (Nat.le_refl _) 41 (by omega)
  have h3 := shaped_spec _ f (Nat.le_refl _)
  have hd := deep_form f
  have hF : formOk f = (decide (nodesF f ≤ 2000) && decide (dpF f ≤ 40) && shapedF f) := rfl
  rw [← hd] at hF
  obtain ⟨o, a, b, ks, hk⟩ := ft_split f
  rw [hk, ftC_mk, ← hk] at h1 h2 h3
  rw [hk, ftC_mk, ← hk]
  have hm : decide (nodesF f ≤ 2000) = decide (min (nodesF f) 2001 ≤ 2000) := by
    rw [decide_eq_decide]
    omega
  rw [hm] at hF
  generalize min (nodesF f) 2001 = n at *
  generalize deepR f 41 = d at *
  generalize shapedF f = z at *
  refine pcall_wp _ Tryd.func9 rfl (by kernel_rfl) rfl ?_
  by_cases g1 : n ≤ 2000
  · have g1' : (n : Int) ≤ 2000 := by omega
    rw [decide_eq_true g1, Bool.true_and] at hF
    by_cases g2 : d ≤ 40
    · have g2' : (d : Int) ≤ 40 := by omega
      rw [decide_eq_true g2, Bool.true_and] at hF
      simp -dsimp
      first
        | refine CallG.by (h1) ?_
        | refine CallGE.by (h1) ?_
        | refine CallGB.by (h1) ?_
      simp -dsimp [g1, g1']
      first
        | refine CallG.by (h2) ?_
        | refine CallGE.by (h2) ?_
        | refine CallGB.by (h2) ?_
      simp -dsimp [g2, g2']
      first
        | refine CallG.by (h3) ?_
        | refine CallGE.by (h3) ?_
        | refine CallGB.by (h3) ?_
      simp -dsimp
      refine retP_c ?_
      simp -dsimp [hF]
    · have g2' : ¬ (d : Int) ≤ 40 := by omega
      rw [decide_eq_false g2, Bool.false_and] at hF
      simp -dsimp
      first
        | refine CallG.by (h1) ?_
        | refine CallGE.by (h1) ?_
        | refine CallGB.by (h1) ?_
      simp -dsimp [g1, g1']
      first
        | refine CallG.by (h2) ?_
        | refine CallGE.by (h2) ?_
        | refine CallGB.by (h2) ?_
      simp -dsimp [g2, g2']
      refine retP_c ?_
      simp -dsimp [hF]
  · have g1' : ¬ (n : Int) ≤ 2000 := by omega
    rw [decide_eq_false g1, Bool.false_and, Bool.false_and] at hF
    simp -dsimp
    first
      | refine CallG.by (h1) ?_
      | refine CallGE.by (h1) ?_
      | refine CallGB.by (h1) ?_
    simp -dsimp [g1, g1']
    refine retP_c ?_
    simp -dsimp [hF]
end Go.Proofs.YtnikonhkbldnnaaDoor
