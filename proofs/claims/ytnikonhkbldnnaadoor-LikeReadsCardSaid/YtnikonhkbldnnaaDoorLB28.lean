import Derived.Test.YtnikonhkbldnnaaDoorLBA
import Derived.Test.YtnikonhkbldnnaaDoorLW17
import Derived.Test.YtnikonhkbldnnaaDoorPSH
/- LB28: formulas as they come: kids, size, valid, depth. -/
set_option linter.unusedVariables false
set_option linter.unusedSimpArgs false
set_option maxRecDepth 20000
namespace Go.Proofs.YtnikonhkbldnnaaDoor
open Go Go.PS
attribute [-simp] isKeyK List.map_take
@[simp] theorem bts (a : Array UInt8) : (ByteArray.mk a).toList = a.toList := ByteArray.toList_eq _
theorem str_ext {o : ByteArray} {l : List UInt8} (h : o.toList = l) : o = ⟨l.toArray⟩ := by
  rw [ByteArray.toList_eq] at h
  cases o
  subst h
  simp
structure OpNo (o : ByteArray) : Prop where
  e1 : (o.toList == [61]) = false
  e2 : (o.toList == [126]) = false
  e3 : (o.toList == [33]) = false
  e4 : (o.toList == [69]) = false
  e5 : (o.toList == [38]) = false
theorem op_ne {o : ByteArray} {l : List UInt8} (h : (o.toList == l) = false) : o ≠ ⟨l.toArray⟩ := by
  rintro rfl
  rw [ByteArray.toList_eq] at h
  simp at h
theorem op_cases (o : ByteArray) : o = oEq ∨ o = oAd ∨ o = oNo ∨ o = oEx ∨ o = oAn ∨ OpNo o := by
  by_cases h1 : o.toList = [61]
  · exact .inl (str_ext h1)
  by_cases h2 : o.toList = [126]
  · exact .inr (.inl (str_ext h2))
  by_cases h3 : o.toList = [33]
  · exact .inr (.inr (.inl (str_ext h3)))
  by_cases h4 : o.toList = [69]
  · exact .inr (.inr (.inr (.inl (str_ext h4))))
  by_cases h5 : o.toList = [38]
  · exact .inr (.inr (.inr (.inr (.inl (str_ext h5)))))
  exact .inr (.inr (.inr (.inr (.inr ⟨by simpa using h1, by simpa using h2, by simpa using h3, by simpa using h4, by simpa using h5⟩))))
theorem oNo_ne : (oNo = oEq) = False ∧ (oNo = oAd) = False ∧ (oEx = oEq) = False ∧ (oEx = oAd) = False ∧ (oEx = oNo) = False ∧ (oAn = oEq) = False ∧ (oAn = oAd) = False ∧ (oAn = oNo) = False ∧ (oAn = oEx) = False ∧ (oAd = oEq) = False := by
  refine ⟨?_, ?_, ?_, ?_, ?_, ?_, ?_, ?_, ?_, ?_⟩
  all_goals
    rw [eq_iff_iff, iff_false]
    intro h
    exact absurd (congrArg (fun b => b.data.toList) h) (by decide)
theorem kidsI_eq : kidsI oEq = 0 := by simp [kidsI]
theorem kidsI_ad : kidsI oAd = 0 := by simp [kidsI]
theorem kidsI_no : kidsI oNo = 1 := by simp [kidsI, oNo_ne]
theorem kidsI_ex : kidsI oEx = 1 := by simp [kidsI, oNo_ne]
theorem kidsI_an : kidsI oAn = 2 := by simp [kidsI, oNo_ne]
theorem kidsI_none {o : ByteArray} (h : OpNo o) : kidsI o = -1 := by
  have h1 := op_ne h.e1
  have h2 := op_ne h.e2
  have h3 := op_ne h.e3
  have h4 := op_ne h.e4
  have h5 := op_ne h.e5
  unfold kidsI
  rw [if_neg (fun h => h.elim h1 h2), if_neg (fun h => h.elim h3 h4), if_neg h5]
theorem kids_spec (o : ByteArray) : PCall Tryd.prog 56 [.v (.string o)] (pI (kidsI o)) [] := by
  refine pcall_wp _ Tryd.func56 rfl (by kernel_rfl) rfl ?_
  rcases op_cases o with rfl | rfl | rfl | rfl | rfl | h
  · rw [kidsI_eq]
    simp -dsimp
    refine retP_c ?_
    simp -dsimp
  · rw [kidsI_ad]
    simp -dsimp
    refine retP_c ?_
    simp -dsimp
  · rw [kidsI_no]
    simp -dsimp
    refine retP_c ?_
    simp -dsimp
  · rw [kidsI_ex]
    simp -dsimp
    refine retP_c ?_
    simp -dsimp
  · rw [kidsI_an]
    simp -dsimp
    refine retP_c ?_
    simp -dsimp
  · rw [kidsI_none h]
    simp -dsimp [h.e1, h.e2, h.e3, h.e4, h.e5]
    refine retP_c ?_
    simp -dsimp
theorem hasV_spec (x : Int) (u : Bool) : PCall Tryd.prog 55 [eI x, eB u] (pB (hasV x u)) [] := by
  refine pcall_wp _ Tryd.func55 rfl (by kernel_rfl) rfl ?_
  have hx : (x == 0) = decide (x = 0) := by rw [Bool.eq_iff_iff]; simp
  by_cases h1 : 0 ≤ x
  · by_cases h2 : x < 4
    · cases u
      · simp -dsimp [h1, h2]
        refine retP_c ?_
        simp -dsimp [hasV, h1, h2, hx]
      · simp -dsimp [h1, h2]
        refine retP_c ?_
        simp -dsimp [hasV, h1, h2]
    · simp -dsimp [h1, h2]
      refine retP_c ?_
      simp -dsimp [hasV, h1, h2]
  · simp -dsimp [h1]
    refine retP_c ?_
    simp -dsimp [hasV, h1]
theorem ftC_mk (o : ByteArray) (a b : Int) (ks : List FT) : ftC (.mk o a b ks) = [.v (.string o), eI a, eI b, .sl .any 4 (ks.map ftC)] := by rw [ftC, ftL_map]
theorem nodes_mem {k : FT} : ∀ {l : List FT}, k ∈ l → nodesF k ≤ nodesL l
  | [], h => by simp at h
  | x :: l, h => by
    rw [nodesL]
    rcases List.mem_cons.1 h with rfl | h
    · omega
    · have := nodes_mem h
      omega
theorem sizeL_drop (ks : List FT) (i : Nat) (h : i < ks.length) (left deep : Int) : sizeL (ks.drop i) left deep = if sizeF ks[i] left deep < 0 then -1 else sizeL (ks.drop (i + 1)) (sizeF ks[i] left deep) deep := by
  rw [List.drop_eq_getElem_cons h, sizeL]
theorem sizeF_bd (f : FT) (left deep : Int) (h0 : 0 ≤ left) : -1 ≤ sizeF f left deep ∧ sizeF f left deep ≤ left := by
  have h := sizeF_iff f left deep
  by_cases hs : shapedF f = true ∧ (nodesF f : Int) ≤ left ∧ (dpF f : Int) ≤ deep
  · rw [h.1 hs]
    omega
  · rw [h.2 hs]
    omega
theorem size_spec : ∀ (N : Nat) (f : FT), nodesF f ≤ N → ∀ (left deep : Int), 0 ≤ left → left ≤ 2000 → 0 ≤ deep → deep ≤ 40 → PCall Tryd.prog 42 [.agg (ftC f), eI left, eI deep] (pI (sizeF f left deep)) []
  | 0, f, hN, _, _, _, _, _, _ => by have := nodesF_pos f; omega
  | N + 1, .mk o a b ks, hN, left, deep, h0, h1, h2, h3 => by
    rw [nodesF] at hN
    have hk := kids_spec o
    have hA := hasV_spec a (decide (kidsI o = 0) || decide (o = oEx))
    have hB := hasV_spec b (decide (kidsI o = 0))
    have hsz : sizeF (.mk o a b ks) left deep = if left < 1 ∨ deep < 1 ∨ nodeOk o a b ks.length = false then -1 else sizeL ks (left - 1) (deep - 1) := by rw [sizeF]
    have hex : (o.toList == [69]) = decide (o = oEx) := by
      by_cases h : o = oEx
      · subst h
        simp
      · rw [decide_eq_false h, Bool.eq_false_iff]
        exact fun e => h (str_ext (by simpa using e))
    rw [ftC_mk]
    refine pcall_agg 0 3 rfl rfl call42 fun hkl => ?_
    simp only [List.length_map] at hkl
    refine pcall_wp _ Tryd.func42 rfl (by kernel_rfl) rfl ?_
    rw [hsz]
    have hk0 : ((kidsI o) == 0) = decide (kidsI o = 0) := by rw [Bool.eq_iff_iff]; simp
    generalize hc : kidsI o = c at *
    generalize hat : decide (c = 0) = at' at *
    by_cases g1 : left < 1
    · simp -dsimp
      first
        | refine CallG.by (hk) ?_
        | refine CallGE.by (hk) ?_
        | refine CallGB.by (hk) ?_
      simp -dsimp [hk0]
      refine wk_draw 33 [12, 25] mixed (by kernel_rfl) ?_
      simp -dsimp [g1]
      refine retP_c ?_
      simp -dsimp
    by_cases g2 : deep < 1
    · simp -dsimp
      first
        | refine CallG.by (hk) ?_
        | refine CallGE.by (hk) ?_
        | refine CallGB.by (hk) ?_
      simp -dsimp [hk0]
      refine wk_draw 33 [12, 25] mixed (by kernel_rfl) ?_
      simp -dsimp [g1, g2]
      refine retP_c ?_
      simp -dsimp
    by_cases g3 : c = (ks.length : Int)
    case neg =>
      have g3' : (c != (ks.length : Int)) = true := by
        rw [bne_iff_ne]
        exact g3
      have hno : nodeOk o a b ks.length = false := by
        unfold nodeOk
        rw [hc, decide_eq_false g3, Bool.false_and, Bool.false_and]
      simp -dsimp
      first
        | refine CallG.by (hk) ?_
        | refine CallGE.by (hk) ?_
        | refine CallGB.by (hk) ?_
      simp -dsimp [hk0]
      refine wk_draw 33 [12, 25] mixed (by kernel_rfl) ?_
      simp -dsimp [g1, g2]
      first
        | refine CallG.by (hk) ?_
        | refine CallGE.by (hk) ?_
        | refine CallGB.by (hk) ?_
      simp -dsimp [g3', hno]
      refine retP_c ?_
      simp -dsimp
    have g3' : (c != (ks.length : Int)) = false := by
      rw [bne_eq_false_iff_eq]
      exact g3
    cases g4 : hasV a (at' || decide (o = oEx))
    case false =>
      have hno : nodeOk o a b ks.length = false := by
        unfold nodeOk
        rw [hc, hat, g4, Bool.and_false, Bool.false_and]
      rw [g4] at hA
      simp -dsimp
      first
        | refine CallG.by (hk) ?_
        | refine CallGE.by (hk) ?_
        | refine CallGB.by (hk) ?_
      simp -dsimp [hk0]
      refine wk_draw 33 [12, 25] mixed (by kernel_rfl) ?_
      simp -dsimp [g1, g2]
      first
        | refine CallG.by (hk) ?_
        | refine CallGE.by (hk) ?_
        | refine CallGB.by (hk) ?_
      simp -dsimp [g3', hex]
      cases at' with
      | true =>
        simp -dsimp [hex]
        first
          | refine CallG.by (hA) ?_
          | refine CallGE.by (hA) ?_
          | refine CallGB.by (hA) ?_
        simp -dsimp [hno]
        refine retP_c ?_
        simp -dsimp
      | false =>
        simp -dsimp [hex]
        first
          | refine CallG.by (hA) ?_
          | refine CallGE.by (hA) ?_
          | refine CallGB.by (hA) ?_
        simp -dsimp [hno]
        refine retP_c ?_
        simp -dsimp
    rw [g4] at hA
    cases g5 : hasV b at'
    case false =>
      have hno : nodeOk o a b ks.length = false := by
        unfold nodeOk
        rw [hc, hat, g5, Bool.and_false]
      rw [g5] at hB
      simp -dsimp
      first
        | refine CallG.by (hk) ?_
        | refine CallGE.by (hk) ?_
        | refine CallGB.by (hk) ?_
      simp -dsimp [hk0]
      refine wk_draw 33 [12, 25] mixed (by kernel_rfl) ?_
      simp -dsimp [g1, g2]
      first
        | refine CallG.by (hk) ?_
        | refine CallGE.by (hk) ?_
        | refine CallGB.by (hk) ?_
      simp -dsimp [g3', hex]
      cases at' with
      | true =>
        simp -dsimp [hex]
        first
          | refine CallG.by (hA) ?_
          | refine CallGE.by (hA) ?_
          | refine CallGB.by (hA) ?_
        simp -dsimp
        first
          | refine CallG.by (hB) ?_
          | refine CallGE.by (hB) ?_
          | refine CallGB.by (hB) ?_
        simp -dsimp [hno]
        refine retP_c ?_
        simp -dsimp
      | false =>
        simp -dsimp [hex]
        first
          | refine CallG.by (hA) ?_
          | refine CallGE.by (hA) ?_
          | refine CallGB.by (hA) ?_
        simp -dsimp
        first
          | refine CallG.by (hB) ?_
          | refine CallGE.by (hB) ?_
          | refine CallGB.by (hB) ?_
        simp -dsimp [hno]
        refine retP_c ?_
        simp -dsimp
    rw [g5] at hB
    have hno : nodeOk o a b ks.length = true := by
      unfold nodeOk
      rw [hc, hat, g4, g5, decide_eq_true g3]
      rfl
    have hkl2 : ks.length ≤ 2 := by
      have : kidsI o ≤ 2 := by
        rcases op_cases o with rfl | rfl | rfl | rfl | rfl | h
        · rw [kidsI_eq]; omega
        · rw [kidsI_ad]; omega
        · rw [kidsI_no]; omega
        · rw [kidsI_ex]; omega
        · rw [kidsI_an]; omega
        · rw [kidsI_none h]; omega
      omega
    have w1 := wr (n := left - 1) (by omega) (by omega)
    have w2 := wr (n := deep - 1) (by omega) (by omega)
    simp -dsimp
    first
      | refine CallG.by (hk) ?_
      | refine CallGE.by (hk) ?_
      | refine CallGB.by (hk) ?_
    simp -dsimp [hk0]
    refine wk_draw 33 [12, 25] mixed (by kernel_rfl) ?_
    simp -dsimp [g1, g2]
    first
      | refine CallG.by (hk) ?_
      | refine CallGE.by (hk) ?_
      | refine CallGB.by (hk) ?_
    have hgoal : (if left < 1 ∨ deep < 1 ∨ nodeOk o a b ks.length = false then -1 else sizeL ks (left - 1) (deep - 1)) = sizeL ks (left - 1) (deep - 1) := by
      rw [if_neg]
      rw [hno]
      simp
      omega
    rw [hgoal]
    have l0 : 0 ≤ left - 1 := by omega
    have l1 : left - 1 ≤ 2000 := by omega
    obtain ⟨L, hL⟩ : ∃ L, L = left - 1 := ⟨_, rfl⟩
    rw [← hL] at l0 l1 ⊢
    replace w1 : IntKind.i64.wrap (left - 1) = L := by rw [w1, hL]
    clear hgoal
    obtain ⟨D, hD⟩ : ∃ D, D = deep - 1 := ⟨_, rfl⟩
    rw [← hD]
    replace w2 : IntKind.i64.wrap (deep - 1) = D := by rw [w2, hD]
    cases at'
    all_goals
      simp -dsimp [g3', hex]
      first
        | refine CallG.by (hA) ?_
        | refine CallGE.by (hA) ?_
        | refine CallGB.by (hA) ?_
      simp -dsimp
      first
        | refine CallG.by (hB) ?_
        | refine CallGE.by (hB) ?_
        | refine CallGB.by (hB) ?_
      simp -dsimp [w1]
      refine wk_loop (fun q : Nat × Int => ⟨[(56, pI q.1), (55, pI ks.length), (54, .t .ro (.sl .any 4 (ks.map ftC))), (1, pI q.2), (2, .t .ro (eI deep))], []⟩)
        (fun q => q.1 ≤ ks.length ∧ 0 ≤ q.2 ∧ q.2 ≤ 2000 ∧ sizeL (ks.drop q.1) q.2 D = sizeL ks L D) (fun q => ks.length - q.1) (0, L)
        (le_of (by simp) (by simp)) ⟨Nat.zero_le _, l0, l1, rfl⟩ fun ⟨i, l⟩ ⟨hi, hl0, hl1, hs⟩ => ?_
      dsimp only at hi hl0 hl1 hs
      simp -dsimp
      refine condX_dec (fun hlt => ?_) (fun hge => ?_)
      · have hlt' : i < ks.length := by omega
        have hw := wr (n := (i : Int) + 1) (by omega) (by omega)
        have ih := size_spec N ks[i] (by have := nodes_mem (List.getElem_mem hlt'); omega) l D hl0 hl1 (by omega) (by omega)
        have hst := sizeL_drop ks i hlt' l D
        have hbd := sizeF_bd ks[i] l D hl0
        have hq : (ks.map ftC)[i]? = some (ftC ks[i]) := by rw [List.getElem?_map, List.getElem?_eq_getElem hlt']; rfl
        obtain ⟨o', a', b', ks', hk'⟩ : ∃ o' a' b' ks', ks[i] = FT.mk o' a' b' ks' := by
          generalize ks[i] = k
          cases k
          exact ⟨_, _, _, _, rfl⟩
        rw [hk'] at ih hst hbd hq
        rw [ftC_mk] at ih hq
        generalize sizeF (.mk o' a' b' ks') l D = l' at *
        have hi0 : (i : Int) < ks.length := by omega
        simp -dsimp [hlt, hi0, hlt', hk', ftC_mk, w2]
        first
          | refine CallG.by (ih) ?_
          | refine CallGE.by (ih) ?_
          | refine CallGB.by (ih) ?_
        simp -dsimp
        refine condX_dec (fun hneg => ?_) (fun hpos => ?_)
        · simp -dsimp
          have : sizeL ks L D = -1 := by rw [← hs, hst, if_pos hneg]
          refine retP_c ?_
          simp -dsimp [this]
        · simp -dsimp [hw]
          refine LoopP_next (i + 1, l') (le_of (by simp) (by simp)) ⟨hlt', by simp only; omega, by simp only; omega, ?_⟩ (by simp only; omega)
          rw [hst, if_neg hpos] at hs
          exact hs
      · have : i = ks.length := by omega
        have hF : sizeL ks L D = l := by
          rw [← hs, this, List.drop_length, sizeL]
        simp -dsimp
        refine retP_c ?_
        simp -dsimp [hF]
theorem valid_form (f : FT) : PCall Tryd.prog 24 [.agg (ftC f)] (pB (formOk f)) [] := by
  have h := size_spec _ f (Nat.le_refl _) 2000 40 (by omega) (by omega) (by omega) (by omega)
  have hF := size_form f
  cases f
  rw [ftC_mk] at *
  generalize sizeF _ _ _ = r at *
  generalize formOk _ = y at *
  refine pcall_wp _ Tryd.func24 rfl (by kernel_rfl) rfl ?_
  simp -dsimp
  first
    | refine CallG.by (h) ?_
    | refine CallGE.by (h) ?_
    | refine CallGB.by (h) ?_
  simp -dsimp [hF]
  refine retP_c ?_
  simp -dsimp
end Go.Proofs.YtnikonhkbldnnaaDoor
