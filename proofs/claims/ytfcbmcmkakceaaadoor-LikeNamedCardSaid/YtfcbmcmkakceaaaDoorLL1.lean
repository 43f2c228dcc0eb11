import Derived.Test.YtfcbmcmkakceaaaDoorLR2
/- LL1: the laws of LikeWins and LikeAnswers. -/
set_option linter.unusedVariables false
set_option linter.unusedSimpArgs false
set_option maxRecDepth 20000
namespace Go.Proofs.YtfcbmcmkakceaaaDoor
open Go Go.PS
attribute [-simp] isKeyK List.map_take
theorem lnodes_spec (g l : List Int) : PCall Tryd.prog 23 [eIs g, eIs l] (pB (ndsB g.length l && decide (l.length ≤ 3))) [] := by
  refine pcall_sl 1 rfl call23 fun hlen => ?_
  simp only [List.length_map] at hlen
  refine pcall_wp _ Tryd.func23 rfl (by kernel_rfl) rfl ?_
  simp -dsimp
  refine wk_loop (fun i : Nat => ⟨[(9, pI i), (8, pI l.length), (7, .t .ro (eIs l)), (0, .t .ro (eIs g)), (1, .t .ro (eIs l)), (4, pB false)], []⟩)
    (fun i => i ≤ l.length ∧ ∀ j, j < i → 0 ≤ l.getD j 0 ∧ l.getD j 0 < g.length) (fun i => l.length - i) 0
    (le_of (by simp) (by simp)) ⟨by omega, fun j h => by omega⟩ fun i ⟨hi, hJ⟩ => ?_
  simp -dsimp
  refine condX_dec (fun h => ?_) (fun h => ?_)
  · have hw := wr (n := (i : Int) + 1) (by omega) (by omega)
    have q1 := at_ h
    have i1 : (i : Int) < l.length := by omega
    have i5 : (0 : Int) ≤ i := by omega
    have hbad : ¬ (0 ≤ l.getD i 0 ∧ l.getD i 0 < g.length) → ndsB g.length l = false := fun hn => by
      rw [Bool.eq_false_iff]
      intro e
      exact hn (nds_at.1 e i h)
    have hgo : 0 ≤ l.getD i 0 → l.getD i 0 < g.length → ∀ j, j < i + 1 → 0 ≤ l.getD j 0 ∧ l.getD j 0 < g.length := fun h1 h2 j hj => by
      rcases Nat.lt_or_ge j i with h5 | h5
      · exact hJ j h5
      · rw [show j = i by omega]; exact ⟨h1, h2⟩
    generalize l.getD i 0 = x at *
    by_cases c1 : x < 0
    · have hF := hbad (by omega)
      simp -dsimp [i1, i5, q1, c1]
      refine retP_c ?_
      simp -dsimp [hF]
    by_cases c2 : (g.length : Int) ≤ x
    · have hF := hbad (by omega)
      simp -dsimp [i1, i5, q1, c1, c2]
      refine retP_c ?_
      simp -dsimp [hF]
    simp -dsimp [i1, i5, q1, c1, c2]
    refine LoopP_next (i + 1) (le_of (by simp [hw]) (by simp)) ⟨h, hgo (by omega) (by omega)⟩ (by omega)
  · have hi' : i = l.length := by omega
    have hF : ndsB g.length l = true := nds_at.2 fun j hj => hJ j (by omega)
    by_cases h3 : (l.length : Int) ≤ 3
    · have h3' : l.length ≤ 3 := by omega
      simp -dsimp [h3]
      refine retP_c ?_
      simp -dsimp [hF, h3']
    · have h3' : ¬ l.length ≤ 3 := by omega
      simp -dsimp [h3]
      refine retP_c ?_
      simp -dsimp [hF, h3']
theorem nil_argT {P : Program} {f : Nat} {args : List TL} {r : PV} {Mr : List (Nat × Res)} (i : Nat) (h : PCall P f args r Mr) (hi : args[i]? = some (eIs [])) : PCall P f (args.set i (.v (.slice none 0 0))) r Mr :=
  pcall_arg i h hi fun w S v h => nil_any' w S v h
theorem answ_back {g h a b : List Int} {k : Int} (hg : isgB g = true) (hh : isgB h = true) (hk : 0 ≤ k ∧ k ≤ 3) (hl : a.length = b.length ∧ a.length ≤ 3) (ha : ndsB g.length a = true) (hb : ndsB h.length b = true) :
    PCall Tryd.prog 20 [eIs g, eIs h, eI k, eIs a, eIs b] (pB (winN k.toNat (townOf g) (townOf h) (townOf a) (townOf b))) [] := by
  have hw := ranswer_spec k.toNat (by omega) (townOf g) (townOf h) (townOf a) (townOf b) (town_tow hg) (town_tow hh) (by rw [town_len, town_len]; omega) (by rw [town_len]; omega) fun i hi => by
    rw [town_len] at hi
    have h1 := nds_at.1 ha i hi
    have h2 := nds_at.1 hb i (by omega)
    rw [town_get, town_get, town_len, town_len]
    omega
  rw [eNs, eNs, eNs, eNs, town_back hg, town_back hh, nds_back ha, nds_back hb, show ((k.toNat : Nat) : Int) = k by omega] at hw
  exact hw
theorem wins_true (g h : List Int) (k : Int) : PCall Tryd.prog 3 [eIs g, eIs h, eI k] (pB true) [] := by
  refine pcall_wp _ Tryd.func3 rfl (by kernel_rfl) rfl ?_
  have hf := few_spec g
  have hf' := few_spec h
  have hw := win_spec (g.take 10) (h.take 10) k
  have ht := two_spec g h
  have ha := awake_spec
  obtain ⟨t1, t2⟩ := take_isg g
  obtain ⟨t1', t2'⟩ := take_isg h
  have hok : ansOK (g.take 10) (h.take 10) k [] [] = ((isgB g && isgB h) && decide (0 ≤ k ∧ k ≤ 3)) := by
    rw [ansOK, t1, t1']
    simp [ndsB]
  have hrf := fun h1 h2 h3 => answ_back (g := g) (h := h) (a := []) (b := []) (k := k) h1 h2 h3 ⟨rfl, by simp⟩ rfl rfl
  rw [ansF, hok] at hw
  cases hb : isgB g && isgB h with
  | false =>
    rw [hb] at hw ht
    simp only [Bool.false_and, Bool.false_eq_true, if_false] at hw
    simp -dsimp
    first
      | refine CallG.by (hf) ?_
      | refine CallGE.by (hf) ?_
      | refine CallGB.by (hf) ?_
    simp -dsimp
    first
      | refine CallG.by (hf') ?_
      | refine CallGE.by (hf') ?_
      | refine CallGB.by (hf') ?_
    simp -dsimp
    first
      | refine CallG.by (hw) ?_
      | refine CallGE.by (hw) ?_
      | refine CallGB.by (hw) ?_
    simp -dsimp
    first
      | refine CallG.by (ht) ?_
      | refine CallGE.by (ht) ?_
      | refine CallGB.by (ht) ?_
    simp -dsimp
    first
      | refine CallG.by (ha) ?_
      | refine CallGE.by (ha) ?_
      | refine CallGB.by (ha) ?_
    simp -dsimp
    refine retP_c ?_
    simp -dsimp
  | true =>
    rw [hb] at hw ht
    simp only [Bool.true_and] at hw
    rw [Bool.and_eq_true] at hb
    rw [t2 hb.1, t2' hb.2] at hw
    rw [t2 hb.1] at hf
    rw [t2' hb.2] at hf'
    by_cases h1 : k < 0
    · rw [decide_eq_false (by omega)] at hw
      simp only [Bool.false_eq_true, if_false] at hw
      simp -dsimp
      first
        | refine CallG.by (hf) ?_
        | refine CallGE.by (hf) ?_
        | refine CallGB.by (hf) ?_
      simp -dsimp
      first
        | refine CallG.by (hf') ?_
        | refine CallGE.by (hf') ?_
        | refine CallGB.by (hf') ?_
      simp -dsimp
      first
        | refine CallG.by (hw) ?_
        | refine CallGE.by (hw) ?_
        | refine CallGB.by (hw) ?_
      simp -dsimp
      first
        | refine CallG.by (ht) ?_
        | refine CallGE.by (ht) ?_
        | refine CallGB.by (ht) ?_
      simp -dsimp [h1]
      first
        | refine CallG.by (ha) ?_
        | refine CallGE.by (ha) ?_
        | refine CallGB.by (ha) ?_
      simp -dsimp
      refine retP_c ?_
      simp -dsimp
    by_cases h2 : 3 < k
    · rw [decide_eq_false (by omega)] at hw
      simp only [Bool.false_eq_true, if_false] at hw
      simp -dsimp
      first
        | refine CallG.by (hf) ?_
        | refine CallGE.by (hf) ?_
        | refine CallGB.by (hf) ?_
      simp -dsimp
      first
        | refine CallG.by (hf') ?_
        | refine CallGE.by (hf') ?_
        | refine CallGB.by (hf') ?_
      simp -dsimp
      first
        | refine CallG.by (hw) ?_
        | refine CallGE.by (hw) ?_
        | refine CallGB.by (hw) ?_
      simp -dsimp
      first
        | refine CallG.by (ht) ?_
        | refine CallGE.by (ht) ?_
        | refine CallGB.by (ht) ?_
      simp -dsimp [h1, h2]
      first
        | refine CallG.by (ha) ?_
        | refine CallGE.by (ha) ?_
        | refine CallGB.by (ha) ?_
      simp -dsimp
      refine retP_c ?_
      simp -dsimp
    rw [decide_eq_true (by omega)] at hw
    simp only [if_true] at hw
    have hr := nil_argT 4 (nil_argT 3 (hrf hb.1 hb.2 (by omega)) rfl) rfl
    simp only [List.set_cons_succ, List.set_cons_zero] at hr
    generalize winN k.toNat (townOf g) (townOf h) (townOf []) (townOf []) = w at *
    have e : winN k.toNat (townOf g) (townOf h) (townOf []) (townOf []) = winN k.toNat (townOf g) (townOf h) (townOf []) (townOf []) := rfl
    have hww : (w == w) = true := by simp
    simp -dsimp
    first
      | refine CallG.by (hf) ?_
      | refine CallGE.by (hf) ?_
      | refine CallGB.by (hf) ?_
    simp -dsimp
    first
      | refine CallG.by (hf') ?_
      | refine CallGE.by (hf') ?_
      | refine CallGB.by (hf') ?_
    simp -dsimp
    first
      | refine CallG.by (hw) ?_
      | refine CallGE.by (hw) ?_
      | refine CallGB.by (hw) ?_
    simp -dsimp
    first
      | refine CallG.by (ht) ?_
      | refine CallGE.by (ht) ?_
      | refine CallGB.by (ht) ?_
    simp -dsimp [h1, h2]
    first
      | refine CallG.by (hr) ?_
      | refine CallGE.by (hr) ?_
      | refine CallGB.by (hr) ?_
    simp -dsimp [hww]
    first
      | refine CallG.by (ha) ?_
      | refine CallGE.by (ha) ?_
      | refine CallGB.by (ha) ?_
    simp -dsimp
    refine retP_c ?_
    simp -dsimp
theorem take8 (a b : List Int) : decide ((a.take 8).length = (b.take 8).length ∧ (a.take 8).length ≤ 3) = decide (a.length = b.length ∧ a.length ≤ 3) ∧ (a.length ≤ 3 → a.take 8 = a) := by
  constructor
  · rw [decide_eq_decide, List.length_take, List.length_take]
    omega
  · intro h
    exact List.take_of_length_le (by omega)
theorem answers_true (g h : List Int) (k : Int) (a b : List Int) : PCall Tryd.prog 4 [eIs g, eIs h, eI k, eIs a, eIs b] (pB true) [] := by
  refine pcall_wp _ Tryd.func4 rfl (by kernel_rfl) rfl ?_
  have hf := few_spec g
  have hf' := few_spec h
  have hla := list_spec a
  have hlb := list_spec b
  have hw := answer_spec (g.take 10) (h.take 10) k (a.take 8) (b.take 8)
  have ht := two_spec g h
  have hna := lnodes_spec g a
  have hnb := lnodes_spec h b
  have haw := awake_spec
  obtain ⟨t1, t2⟩ := take_isg g
  obtain ⟨t1', t2'⟩ := take_isg h
  obtain ⟨l1, l2⟩ := take8 a b
  have hok : ansOK (g.take 10) (h.take 10) k (a.take 8) (b.take 8) = ((isgB g && isgB h) && (decide (0 ≤ k ∧ k ≤ 3) && (decide (a.length = b.length ∧ a.length ≤ 3) && (ndsB (g.take 10).length (a.take 8) && ndsB (h.take 10).length (b.take 8))))) := by
    rw [ansOK, t1, t1', l1]
  rw [ansF, hok] at hw
  clear hok
  cases hb : isgB g && isgB h with
  | false =>
    rw [hb] at hw ht
    simp only [Bool.false_and, Bool.false_eq_true, if_false] at hw
    simp -dsimp
    first
      | refine CallG.by (hf) ?_
      | refine CallGE.by (hf) ?_
      | refine CallGB.by (hf) ?_
    simp -dsimp
    first
      | refine CallG.by (hf') ?_
      | refine CallGE.by (hf') ?_
      | refine CallGB.by (hf') ?_
    simp -dsimp
    first
      | refine CallG.by (hla) ?_
      | refine CallGE.by (hla) ?_
      | refine CallGB.by (hla) ?_
    simp -dsimp
    first
      | refine CallG.by (hlb) ?_
      | refine CallGE.by (hlb) ?_
      | refine CallGB.by (hlb) ?_
    simp -dsimp
    first
      | refine CallG.by (hw) ?_
      | refine CallGE.by (hw) ?_
      | refine CallGB.by (hw) ?_
    simp -dsimp
    first
      | refine CallG.by (ht) ?_
      | refine CallGE.by (ht) ?_
      | refine CallGB.by (ht) ?_
    simp -dsimp
    first
      | refine CallG.by (haw) ?_
      | refine CallGE.by (haw) ?_
      | refine CallGB.by (haw) ?_
    simp -dsimp
    refine retP_c ?_
    simp -dsimp
  | true =>
    rw [hb] at hw ht
    simp only [Bool.true_and] at hw
    rw [Bool.and_eq_true] at hb
    rw [t2 hb.1, t2' hb.2] at hw
    rw [t2 hb.1] at hf
    rw [t2' hb.2] at hf'
    by_cases h1 : k < 0
    · rw [decide_eq_false (show ¬ (0 ≤ k ∧ k ≤ 3) by omega)] at hw
      simp only [Bool.false_and, Bool.false_eq_true, if_false] at hw
      simp -dsimp
      first
        | refine CallG.by (hf) ?_
        | refine CallGE.by (hf) ?_
        | refine CallGB.by (hf) ?_
      simp -dsimp
      first
        | refine CallG.by (hf') ?_
        | refine CallGE.by (hf') ?_
        | refine CallGB.by (hf') ?_
      simp -dsimp
      first
        | refine CallG.by (hla) ?_
        | refine CallGE.by (hla) ?_
        | refine CallGB.by (hla) ?_
      simp -dsimp
      first
        | refine CallG.by (hlb) ?_
        | refine CallGE.by (hlb) ?_
        | refine CallGB.by (hlb) ?_
      simp -dsimp
      first
        | refine CallG.by (hw) ?_
        | refine CallGE.by (hw) ?_
        | refine CallGB.by (hw) ?_
      simp -dsimp
      first
        | refine CallG.by (ht) ?_
        | refine CallGE.by (ht) ?_
        | refine CallGB.by (ht) ?_
      simp -dsimp [h1]
      first
        | refine CallG.by (haw) ?_
        | refine CallGE.by (haw) ?_
        | refine CallGB.by (haw) ?_
      simp -dsimp
      refine retP_c ?_
      simp -dsimp
    by_cases h2 : 3 < k
    · rw [decide_eq_false (show ¬ (0 ≤ k ∧ k ≤ 3) by omega)] at hw
      simp only [Bool.false_and, Bool.false_eq_true, if_false] at hw
      simp -dsimp
      first
        | refine CallG.by (hf) ?_
        | refine CallGE.by (hf) ?_
        | refine CallGB.by (hf) ?_
      simp -dsimp
      first
        | refine CallG.by (hf') ?_
        | refine CallGE.by (hf') ?_
        | refine CallGB.by (hf') ?_
      simp -dsimp
      first
        | refine CallG.by (hla) ?_
        | refine CallGE.by (hla) ?_
        | refine CallGB.by (hla) ?_
      simp -dsimp
      first
        | refine CallG.by (hlb) ?_
        | refine CallGE.by (hlb) ?_
        | refine CallGB.by (hlb) ?_
      simp -dsimp
      first
        | refine CallG.by (hw) ?_
        | refine CallGE.by (hw) ?_
        | refine CallGB.by (hw) ?_
      simp -dsimp
      first
        | refine CallG.by (ht) ?_
        | refine CallGE.by (ht) ?_
        | refine CallGB.by (ht) ?_
      simp -dsimp [h1, h2]
      first
        | refine CallG.by (haw) ?_
        | refine CallGE.by (haw) ?_
        | refine CallGB.by (haw) ?_
      simp -dsimp
      refine retP_c ?_
      simp -dsimp
    rw [decide_eq_true (show 0 ≤ k ∧ k ≤ 3 by omega)] at hw
    simp only [Bool.true_and] at hw
    by_cases hl : a.length = b.length
    rotate_left
    · have hne : ((a.length : Int) != (b.length : Int)) = true := by
        rw [bne_iff_ne]
        omega
      rw [decide_eq_false (show ¬ (a.length = b.length ∧ a.length ≤ 3) by omega)] at hw
      simp only [Bool.false_and, Bool.false_eq_true, if_false] at hw
      simp -dsimp
      first
        | refine CallG.by (hf) ?_
        | refine CallGE.by (hf) ?_
        | refine CallGB.by (hf) ?_
      simp -dsimp
      first
        | refine CallG.by (hf') ?_
        | refine CallGE.by (hf') ?_
        | refine CallGB.by (hf') ?_
      simp -dsimp
      first
        | refine CallG.by (hla) ?_
        | refine CallGE.by (hla) ?_
        | refine CallGB.by (hla) ?_
      simp -dsimp
      first
        | refine CallG.by (hlb) ?_
        | refine CallGE.by (hlb) ?_
        | refine CallGB.by (hlb) ?_
      simp -dsimp
      first
        | refine CallG.by (hw) ?_
        | refine CallGE.by (hw) ?_
        | refine CallGB.by (hw) ?_
      simp -dsimp
      first
        | refine CallG.by (ht) ?_
        | refine CallGE.by (ht) ?_
        | refine CallGB.by (ht) ?_
      simp -dsimp [h1, h2, hne]
      first
        | refine CallG.by (haw) ?_
        | refine CallGE.by (haw) ?_
        | refine CallGB.by (haw) ?_
      simp -dsimp
      refine retP_c ?_
      simp -dsimp
    have hne : ((a.length : Int) != (b.length : Int)) = false := by
      rw [bne_eq_false_iff_eq]
      omega
    by_cases h3 : a.length ≤ 3
    rotate_left
    · rw [decide_eq_false (show ¬ (a.length = b.length ∧ a.length ≤ 3) by omega)] at hw
      rw [decide_eq_false h3, Bool.and_false] at hna
      simp only [Bool.false_and, Bool.false_eq_true, if_false] at hw
      simp -dsimp
      first
        | refine CallG.by (hf) ?_
        | refine CallGE.by (hf) ?_
        | refine CallGB.by (hf) ?_
      simp -dsimp
      first
        | refine CallG.by (hf') ?_
        | refine CallGE.by (hf') ?_
        | refine CallGB.by (hf') ?_
      simp -dsimp
      first
        | refine CallG.by (hla) ?_
        | refine CallGE.by (hla) ?_
        | refine CallGB.by (hla) ?_
      simp -dsimp
      first
        | refine CallG.by (hlb) ?_
        | refine CallGE.by (hlb) ?_
        | refine CallGB.by (hlb) ?_
      simp -dsimp
      first
        | refine CallG.by (hw) ?_
        | refine CallGE.by (hw) ?_
        | refine CallGB.by (hw) ?_
      simp -dsimp
      first
        | refine CallG.by (ht) ?_
        | refine CallGE.by (ht) ?_
        | refine CallGB.by (ht) ?_
      simp -dsimp [h1, h2, hne]
      first
        | refine CallG.by (hna) ?_
        | refine CallGE.by (hna) ?_
        | refine CallGB.by (hna) ?_
      simp -dsimp
      first
        | refine CallG.by (haw) ?_
        | refine CallGE.by (haw) ?_
        | refine CallGB.by (haw) ?_
      simp -dsimp
      refine retP_c ?_
      simp -dsimp
    have l3 := l2 h3
    have l4 : b.take 8 = b := List.take_of_length_le (by omega)
    rw [decide_eq_true (show a.length = b.length ∧ a.length ≤ 3 by omega), l3, l4] at hw
    rw [decide_eq_true h3, Bool.and_true] at hna
    rw [decide_eq_true (show b.length ≤ 3 by omega), Bool.and_true] at hnb
    rw [l3] at hla
    rw [l4] at hlb
    simp only [Bool.true_and] at hw
    cases ha : ndsB g.length a with
    | false =>
      rw [ha] at hw hna
      simp only [Bool.false_and, Bool.false_eq_true, if_false] at hw
      simp -dsimp
      first
        | refine CallG.by (hf) ?_
        | refine CallGE.by (hf) ?_
        | refine CallGB.by (hf) ?_
      simp -dsimp
      first
        | refine CallG.by (hf') ?_
        | refine CallGE.by (hf') ?_
        | refine CallGB.by (hf') ?_
      simp -dsimp
      first
        | refine CallG.by (hla) ?_
        | refine CallGE.by (hla) ?_
        | refine CallGB.by (hla) ?_
      simp -dsimp
      first
        | refine CallG.by (hlb) ?_
        | refine CallGE.by (hlb) ?_
        | refine CallGB.by (hlb) ?_
      simp -dsimp
      first
        | refine CallG.by (hw) ?_
        | refine CallGE.by (hw) ?_
        | refine CallGB.by (hw) ?_
      simp -dsimp
      first
        | refine CallG.by (ht) ?_
        | refine CallGE.by (ht) ?_
        | refine CallGB.by (ht) ?_
      simp -dsimp [h1, h2, hne]
      first
        | refine CallG.by (hna) ?_
        | refine CallGE.by (hna) ?_
        | refine CallGB.by (hna) ?_
      simp -dsimp
      first
        | refine CallG.by (haw) ?_
        | refine CallGE.by (haw) ?_
        | refine CallGB.by (haw) ?_
      simp -dsimp
      refine retP_c ?_
      simp -dsimp
    | true =>
      rw [ha] at hw hna
      simp only [Bool.true_and] at hw
      cases hbb : ndsB h.length b with
      | false =>
        rw [hbb] at hw hnb
        simp only [Bool.false_eq_true, if_false] at hw
        simp -dsimp
        first
          | refine CallG.by (hf) ?_
          | refine CallGE.by (hf) ?_
          | refine CallGB.by (hf) ?_
        simp -dsimp
        first
          | refine CallG.by (hf') ?_
          | refine CallGE.by (hf') ?_
          | refine CallGB.by (hf') ?_
        simp -dsimp
        first
          | refine CallG.by (hla) ?_
          | refine CallGE.by (hla) ?_
          | refine CallGB.by (hla) ?_
        simp -dsimp
        first
          | refine CallG.by (hlb) ?_
          | refine CallGE.by (hlb) ?_
          | refine CallGB.by (hlb) ?_
        simp -dsimp
        first
          | refine CallG.by (hw) ?_
          | refine CallGE.by (hw) ?_
          | refine CallGB.by (hw) ?_
        simp -dsimp
        first
          | refine CallG.by (ht) ?_
          | refine CallGE.by (ht) ?_
          | refine CallGB.by (ht) ?_
        simp -dsimp [h1, h2, hne]
        first
          | refine CallG.by (hna) ?_
          | refine CallGE.by (hna) ?_
          | refine CallGB.by (hna) ?_
        simp -dsimp
        first
          | refine CallG.by (hnb) ?_
          | refine CallGE.by (hnb) ?_
          | refine CallGB.by (hnb) ?_
        simp -dsimp
        first
          | refine CallG.by (haw) ?_
          | refine CallGE.by (haw) ?_
          | refine CallGB.by (haw) ?_
        simp -dsimp
        refine retP_c ?_
        simp -dsimp
      | true =>
        rw [hbb] at hw hnb
        simp only [if_true] at hw
        have hr := answ_back hb.1 hb.2 (k := k) (by omega) ⟨hl, h3⟩ ha hbb
        generalize winN k.toNat (townOf g) (townOf h) (townOf a) (townOf b) = w at *
        have hww : (w == w) = true := by simp
        simp -dsimp
        first
          | refine CallG.by (hf) ?_
          | refine CallGE.by (hf) ?_
          | refine CallGB.by (hf) ?_
        simp -dsimp
        first
          | refine CallG.by (hf') ?_
          | refine CallGE.by (hf') ?_
          | refine CallGB.by (hf') ?_
        simp -dsimp
        first
          | refine CallG.by (hla) ?_
          | refine CallGE.by (hla) ?_
          | refine CallGB.by (hla) ?_
        simp -dsimp
        first
          | refine CallG.by (hlb) ?_
          | refine CallGE.by (hlb) ?_
          | refine CallGB.by (hlb) ?_
        simp -dsimp
        first
          | refine CallG.by (hw) ?_
          | refine CallGE.by (hw) ?_
          | refine CallGB.by (hw) ?_
        simp -dsimp
        first
          | refine CallG.by (ht) ?_
          | refine CallGE.by (ht) ?_
          | refine CallGB.by (ht) ?_
        simp -dsimp [h1, h2, hne]
        first
          | refine CallG.by (hna) ?_
          | refine CallGE.by (hna) ?_
          | refine CallGB.by (hna) ?_
        simp -dsimp
        first
          | refine CallG.by (hnb) ?_
          | refine CallGE.by (hnb) ?_
          | refine CallGB.by (hnb) ?_
        simp -dsimp
        first
          | refine CallG.by (hr) ?_
          | refine CallGE.by (hr) ?_
          | refine CallGB.by (hr) ?_
        simp -dsimp [hww]
        first
          | refine CallG.by (haw) ?_
          | refine CallGE.by (haw) ?_
          | refine CallGB.by (haw) ?_
        simp -dsimp
        refine retP_c ?_
        simp -dsimp
end Go.Proofs.YtfcbmcmkakceaaaDoor
