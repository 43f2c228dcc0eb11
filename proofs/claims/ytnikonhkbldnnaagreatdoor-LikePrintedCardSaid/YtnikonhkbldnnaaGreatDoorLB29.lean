import Derived.Test.YtnikonhkbldnnaaGreatDoorLB28
import Derived.Test.YtnikonhkbldnnaaGreatDoorLB19
/- LB29: depth, closed. -/
set_option linter.unusedVariables false
set_option linter.unusedSimpArgs false
set_option maxRecDepth 20000
namespace Go.Proofs.YtnikonhkbldnnaaGreatDoor
open Go Go.PS
attribute [-simp] isKeyK List.map_take
mutual
def deF : FT → Nat
  | .mk o _ _ ks => deL ks + (if o = oEx then 1 else 0)
def deL : List FT → Nat
  | [] => 0
  | k :: l => max (deF k) (deL l)
end
theorem deL_snoc (l : List FT) (k : FT) : deL (l ++ [k]) = max (deL l) (deF k) := by
  induction l with
  | nil => simp [deL]
  | cons x l ih => rw [List.cons_append, deL, deL, ih]; omega
mutual
theorem deF_le : ∀ f : FT, deF f ≤ nodesF f
  | .mk o a b ks => by
    have := deL_le ks
    rw [deF, nodesF]
    split <;> omega
theorem deL_le : ∀ l : List FT, deL l ≤ nodesL l
  | [] => by rw [deL, nodesL]; omega
  | k :: l => by
    have h1 := deF_le k
    have h2 := deL_le l
    rw [deL, nodesL]
    omega
end
theorem ex_eq (o : ByteArray) : (o.toList == [69]) = decide (o = oEx) := by
  by_cases h : o = oEx
  · subst h
    simp
  · rw [decide_eq_false h, Bool.eq_false_iff]
    exact fun e => h (str_ext (by simpa using e))
theorem ft_split (f : FT) : ∃ o a b ks, f = FT.mk o a b ks := by
  cases f
  exact ⟨_, _, _, _, rfl⟩
theorem take_snoc {α : Type} {l : List α} {i : Nat} (h : i < l.length) : l.take (i + 1) = l.take i ++ [l[i]] := List.take_succ_eq_append_getElem h
theorem depth_spec : ∀ (N : Nat) (f : FT), nodesF f ≤ N → nodesF f ≤ 1000000 → PCall Tryz.prog 63 [.agg (ftC f)] (pI (deF f : Nat)) []
  | 0, f, hN, _ => by have := nodesF_pos f; omega
  | N + 1, .mk o a b ks, hN, hM => by
    have hle := deL_le ks
    rw [nodesF] at hN hM
    rw [ftC_mk]
    refine pcall_agg 0 3 rfl rfl call63 fun hkl => ?_
    simp only [List.length_map] at hkl
    refine pcall_wp _ Tryz.func63 rfl (by kernel_rfl) rfl ?_
    rw [deF]
    simp -dsimp
    refine wk_loop (fun i : Nat => ⟨[(9, pI i), (8, pI ks.length), (7, .t .ro (.sl .any 4 (ks.map ftC))), (3, pI (deL (ks.take i))), (1, .ptr 1 0)], [(1, .blk 37 [.t .ro (.v (.string o)), .t .ro (eI a), .t .ro (eI b), .t .ro (.sl .any 4 (ks.map ftC))])]⟩)
      (fun i => i ≤ ks.length) (fun i => ks.length - i) 0
      (le_of (by simp [deL]) (by simp)) (Nat.zero_le _) fun i hi => ?_
    simp -dsimp
    refine condX_dec (fun hlt => ?_) (fun hge => ?_)
    · have hlt' : i < ks.length := by omega
      have hw := wr (n := (i : Int) + 1) (by omega) (by omega)
      have hm := nodes_mem (List.getElem_mem hlt')
      have ih := depth_spec N ks[i] (by omega) (by omega)
      have hsn := deL_snoc (ks.take i) ks[i]
      rw [← take_snoc hlt'] at hsn
      obtain ⟨o', a', b', ks', hk'⟩ := ft_split ks[i]
      rw [hk'] at ih hsn
      rw [ftC_mk] at ih
      generalize deF (.mk o' a' b' ks') = d at *
      generalize deL (ks.take i) = m at *
      have hmx : (if m < d then (d : Int) else (m : Int)) = ((deL (ks.take (i + 1)) : Nat) : Int) := by
        rw [hsn]
        split <;> omega
      have hi0 : (i : Int) < ks.length := by omega
      simp -dsimp [hlt, hi0, hlt', hk', ftC_mk]
      first
        | refine CallG.by (ih) ?_
        | refine CallGE.by (ih) ?_
        | refine CallGB.by (ih) ?_
      simp -dsimp [hw, hmx]
      refine LoopP_next (i + 1) (le_of (by simp [hmx]) (by simp)) hlt' (by omega)
    · have : i = ks.length := by omega
      rw [this, List.take_length]
      have hw := wr (n := (deL ks : Int) + 1) (by omega) (by omega)
      have he := ex_eq o
      cases hd : decide (o = oEx)
      · have hne : ¬ o = oEx := of_decide_eq_false hd
        rw [hd] at he
        simp -dsimp [he]
        refine retP_c ?_
        simp -dsimp [hne]
      · have hne : o = oEx := of_decide_eq_true hd
        rw [hd] at he
        simp -dsimp [he, hw]
        refine retP_c ?_
        simp -dsimp [hne]
def depF (f : FT) : TL := if formOk f then .tup [eI (deF f), eI 0] else .tup [eI 0, eI 2]
theorem Depth_spec (f : FT) : PCall Tryz.prog 31 [.agg (ftC f)] (.t .fz (depF f)) [] := by
  have h := valid_form f
  have hd : formOk f = true → PCall Tryz.prog 63 [.agg (ftC f)] (pI (deF f : Nat)) [] := fun h => depth_spec _ f (Nat.le_refl _) (by
    unfold formOk at h
    simp only [Bool.and_eq_true, decide_eq_true_eq] at h
    omega)
  have hF : depF f = if formOk f then .tup [eI (deF f), eI 0] else .tup [eI 0, eI 2] := rfl
  obtain ⟨o, a, b, ks, hk⟩ := ft_split f
  rw [hk, ftC_mk] at h hd
  rw [hk, ftC_mk, ← hk]
  rw [← hk] at h hd
  refine pcall_wp _ Tryz.func31 rfl (by kernel_rfl) rfl ?_
  cases hv : formOk f
  · rw [hv] at h hF
    simp -dsimp
    first
      | refine CallG.by (h) ?_
      | refine CallGE.by (h) ?_
      | refine CallGB.by (h) ?_
    simp -dsimp
    refine retP_c ?_
    simp -dsimp [hF]
  · rw [hv] at h hF
    have hd := hd hv
    generalize deF f = d at *
    simp -dsimp
    first
      | refine CallG.by (h) ?_
      | refine CallGE.by (h) ?_
      | refine CallGB.by (h) ?_
    simp -dsimp
    first
      | refine CallG.by (hd) ?_
      | refine CallGE.by (hd) ?_
      | refine CallGB.by (hd) ?_
    simp -dsimp
    refine retP_c ?_
    simp -dsimp [hF]
/-- IndexFunc of formulas. -/
theorem idxFo_spec (l : List FT) (f : Nat) (caps : List TL) (g : FT → Bool) (hf : ∀ r ∈ l, PCall Tryz.prog f (.agg (ftC r) :: caps) (pB (g r)) []) :
    PCall Tryz.prog 118 [.sl .any 4 (l.map ftC), .clo f caps] (pI (idxP g l 0)) [] := by
  refine pcall_sl 0 rfl call118 fun hlen => ?_
  simp only [List.length_map] at hlen
  refine pcall_wp _ Tryz.func118 rfl (by kernel_rfl) rfl ?_
  simp -dsimp
  refine wk_loop (fun i : Nat => ⟨[(8, pI i), (7, pI l.length), (0, .t .ro (.sl .any 4 (l.map ftC))), (1, .t .ro (.clo f caps))], []⟩) (fun i => i ≤ l.length ∧ idxP g l 0 = idxP g (l.drop i) i) (fun i => l.length - i) 0
    (le_of (by simp) (by simp)) (by simp) fun i ⟨hi, hidx⟩ => ?_
  simp -dsimp
  refine condX_dec (fun h => ?_) (fun h => ?_)
  · have hs := idxP_drop g l i h
    have hw := wr (n := (i : Int) + 1) (by omega) (by omega)
    have hil : (i : Int) < l.length := by omega
    have hc := hf _ (List.getElem_mem h)
    obtain ⟨o', a', b', ks', hk'⟩ := ft_split l[i]
    rw [hk'] at hs hc
    rw [ftC_mk] at hc
    generalize g (.mk o' a' b' ks') = y at *
    simp -dsimp [hil, h, hk', ftC_mk]
    first
      | refine CallG.by (hc) ?_
      | refine CallGE.by (hc) ?_
      | refine CallGB.by (hc) ?_
    cases y
    · simp -dsimp [hw]
      refine LoopP_next (i + 1) (le_of (by simp) (by simp)) ⟨h, ?_⟩ (by omega)
      rw [hidx, hs, if_neg (by simp)]
    · simp -dsimp
      refine retP_c ?_
      simp -dsimp
      rw [hidx, hs, if_pos rfl]
  · have : i = l.length := by omega
    simp -dsimp
    refine retP_c ?_
    simp -dsimp [hidx, this, idxP]
theorem anyFo_spec (l : List FT) (f : Nat) (caps : List TL) (g : FT → Bool) (hf : ∀ r ∈ l, PCall Tryz.prog f (.agg (ftC r) :: caps) (pB (g r)) []) :
    PCall Tryz.prog 96 [.sl .any 4 (l.map ftC), .clo f caps] (pB (l.any g)) [] := by
  refine pcall_wp _ Tryz.func96 rfl (by kernel_rfl) rfl ?_
  simp -dsimp
  first
    | refine CallG.by (idxFo_spec l f caps g hf) ?_
    | refine CallGE.by (idxFo_spec l f caps g hf) ?_
    | refine CallGB.by (idxFo_spec l f caps g hf) ?_
  simp -dsimp [idxP_any]
  refine retP_c ?_
  simp -dsimp
theorem shaped_parts {o : ByteArray} {a b : Int} {ks : List FT} (h : shapedF (.mk o a b ks) = true) : (∃ x y : Nat, a = x ∧ b = y ∧ x < 4 ∧ y < 4) ∧ kidsI o = ks.length ∧ (∀ k ∈ ks, shapedF k = true) ∧ ks.length ≤ 2 := by
  rw [shapedF, shapedL_all, Bool.and_eq_true, List.all_eq_true] at h
  obtain ⟨h1, h2⟩ := h
  unfold nodeOk hasV at h1
  simp only [Bool.and_eq_true, decide_eq_true_eq] at h1
  refine ⟨⟨a.toNat, b.toNat, by omega, by omega, by omega, by omega⟩, h1.1.1, h2, ?_⟩
  have : kidsI o ≤ 2 := by
    rcases op_cases o with rfl | rfl | rfl | rfl | rfl | h
    · rw [kidsI_eq]; omega
    · rw [kidsI_ad]; omega
    · rw [kidsI_no]; omega
    · rw [kidsI_ex]; omega
    · rw [kidsI_an]; omega
    · rw [kidsI_none h]; omega
  omega
theorem closed_spec : ∀ (N : Nat) (f : FT), nodesF f ≤ N → shapedF f = true → ∀ bd : Nat, bd < 16 → PCall Tryz.prog 65 [.agg (ftC f), eI bd] (pB (closF f bd)) []
  | 0, f, hN, _, _, _ => by have := nodesF_pos f; omega
  | N + 1, .mk o a b ks, hN, hsh, bd, hbd => by
    obtain ⟨⟨x, y, rfl, rfl, hx, hy⟩, hkn, hks, hk2⟩ := shaped_parts hsh
    rw [nodesF] at hN
    have inner : ∀ bd' : Nat, bd' < 16 → PCall Tryz.prog 96 [.sl .any 4 (ks.map ftC), .clo 97 [.rp [eI bd'] 0]] (pB (!closL ks bd')) [] := fun bd' hb' => by
      have h := anyFo_spec ks 97 [.rp [eI bd'] 0] (fun k => !closF k bd') fun r hr => by
        have ih := closed_spec N r (by have := nodes_mem hr; omega) (hks r hr) bd' hb'
        obtain ⟨o', a', b', ks', hk'⟩ := ft_split r
        generalize closF r bd' = z at *
        subst hk'
        rw [ftC_mk] at *
        refine pcall_wp _ Tryz.func97 rfl (by kernel_rfl) rfl ?_
        simp -dsimp
        first
          | refine CallG.by (ih) ?_
          | refine CallGE.by (ih) ?_
          | refine CallGB.by (ih) ?_
        simp -dsimp
        refine retP_c ?_
        simp -dsimp
      have e : (ks.any fun k => !closF k bd') = !closL ks bd' := by rw [closL_all, List.not_all_eq_any_not]
      rw [e] at h
      exact h
    have e1 := and1_bit bd x (by omega) (by omega)
    have e2 := and1_bit bd y (by omega) (by omega)
    rw [ftC_mk]
    refine pcall_wp _ Tryz.func65 rfl (by kernel_rfl) rfl ?_
    rcases op_cases o with rfl | rfl | rfl | rfl | rfl | h
    · have hF : closF (.mk oEq x y ks) bd = (bd.testBit x && bd.testBit y) := by simp [closF]
      generalize bd.testBit x = p at *
      generalize bd.testBit y = q at *
      cases p
      · simp only [Bool.false_eq_true, if_false] at e1
        simp -dsimp [e1]
        refine retP_c ?_
        simp -dsimp [hF]
      · simp only [if_true] at e1
        cases q
        · simp only [Bool.false_eq_true, if_false] at e2
          simp -dsimp [e1, e2]
          refine retP_c ?_
          simp -dsimp [hF]
        · simp only [if_true] at e2
          simp -dsimp [e1, e2]
          refine retP_c ?_
          simp -dsimp [hF]
    · have hF : closF (.mk oAd x y ks) bd = (bd.testBit x && bd.testBit y) := by simp [closF]
      generalize bd.testBit x = p at *
      generalize bd.testBit y = q at *
      cases p
      · simp only [Bool.false_eq_true, if_false] at e1
        simp -dsimp [e1]
        refine retP_c ?_
        simp -dsimp [hF]
      · simp only [if_true] at e1
        cases q
        · simp only [Bool.false_eq_true, if_false] at e2
          simp -dsimp [e1, e2]
          refine retP_c ?_
          simp -dsimp [hF]
        · simp only [if_true] at e2
          simp -dsimp [e1, e2]
          refine retP_c ?_
          simp -dsimp [hF]
    · have hF : closF (.mk oNo x y ks) bd = closL ks bd := by simp [closF, oNo_ne]
      have hi := inner bd hbd
      generalize closL ks bd = p at *
      simp -dsimp
      first
        | refine CallG.by (hi) ?_
        | refine CallGE.by (hi) ?_
        | refine CallGB.by (hi) ?_
      simp -dsimp
      refine retP_c ?_
      simp -dsimp [hF]
    · have hb' : bd ||| 2 ^ x < 16 := by
        have h4 : 2 ^ x < 2 ^ 4 := Nat.pow_lt_pow_right (by decide) hx
        exact Nat.or_lt_two_pow (n := 4) (by omega) h4
      have hF : closF (.mk oEx x y ks) bd = closL ks (bd ||| 2 ^ x) := by simp [closF, oNo_ne]
      have hp : 2 ^ x < 2 ^ 4 := Nat.pow_lt_pow_right (by decide) hx
      have hsl : shlI 1 x = ((2 ^ x : Nat) : Int) := shl1 _ (by omega)
      obtain ⟨z, hz⟩ : ∃ z, z = 2 ^ x := ⟨_, rfl⟩
      rw [← hz] at hb' hF hp hsl
      have ho := orI_nat bd z (by omega) (by omega)
      have hi := inner (bd ||| z) hb'
      generalize bd ||| z = v at *
      generalize closL ks v = p at *
      simp -dsimp
      refine wk_draw 4 [] mixed (by kernel_rfl) ?_
      simp -dsimp [hsl, ho]
      first
        | refine CallG.by (hi) ?_
        | refine CallGE.by (hi) ?_
        | refine CallGB.by (hi) ?_
      simp -dsimp
      refine retP_c ?_
      simp -dsimp [hF]
    · have hF : closF (.mk oAn x y ks) bd = closL ks bd := by simp [closF, oNo_ne]
      have hi := inner bd hbd
      generalize closL ks bd = p at *
      simp -dsimp
      first
        | refine CallG.by (hi) ?_
        | refine CallGE.by (hi) ?_
        | refine CallGB.by (hi) ?_
      simp -dsimp
      refine retP_c ?_
      simp -dsimp [hF]
    · rw [kidsI_none h] at hkn
      omega
end Go.Proofs.YtnikonhkbldnnaaGreatDoor
