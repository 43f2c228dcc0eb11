import Derived.Test.YtfcbmcmkakceaaaDoorLB8
/- LB9: comparing numbers, slices, kinds. -/
set_option linter.unusedVariables false
set_option linter.unusedSimpArgs false
set_option maxRecDepth 20000
namespace Go.Proofs.YtfcbmcmkakceaaaDoor
open Go Go.PS
attribute [-simp] isKeyK List.map_take
theorem nan_spec (x : Int) : PCall Tryd.prog 176 [eI x] (pB false) [] := by
  refine pcall_wp _ Tryd.func176 rfl (by kernel_rfl) rfl ?_
  have h : (x != x) = false := by simp
  simp -dsimp [h]
  refine retP_c ?_
  simp -dsimp
def cmpI (a b : Int) : Int := if a < b then -1 else if b < a then 1 else 0
theorem cmp_spec (x y : Int) : PCall Tryd.prog 153 [eI x, eI y] (pI (cmpI x y)) [] := by
  refine pcall_wp _ Tryd.func153 rfl (by kernel_rfl) rfl ?_
  have hn1 := nan_spec x
  have hn2 := nan_spec y
  have hF : cmpI x y = if x < y then -1 else if y < x then 1 else 0 := rfl
  simp -dsimp
  first
    | refine CallG.by (hn1) ?_
    | refine CallGE.by (hn1) ?_
    | refine CallGB.by (hn1) ?_
  simp -dsimp
  first
    | refine CallG.by (hn2) ?_
    | refine CallGE.by (hn2) ?_
    | refine CallGB.by (hn2) ?_
  by_cases h1 : x < y
  · rw [if_pos h1] at hF
    simp -dsimp [h1]
    refine retP_c ?_
    simp -dsimp [hF]
  · rw [if_neg h1] at hF
    by_cases h2 : y < x
    · rw [if_pos h2] at hF
      simp -dsimp [h1, h2]
      refine retP_c ?_
      simp -dsimp [hF]
    · rw [if_neg h2] at hF
      simp -dsimp [h1, h2]
      refine retP_c ?_
      simp -dsimp [hF]
theorem or_spec (x y : Int) : PCall Tryd.prog 152 [eIs [x, y]] (pI (if x = 0 then y else x)) [] := by
  refine pcall_wp _ Tryd.func152 rfl (by kernel_rfl) rfl ?_
  obtain ⟨r, hr⟩ : ∃ r, r = (if x = 0 then y else x) := ⟨_, rfl⟩
  rw [← hr]
  simp -dsimp
  refine wk_loop (fun i : Nat => ⟨[(8, pI i), (7, pI 2), (6, .t .ro (eIs [x, y])), (3, pI 0)], []⟩)
    (fun i => i ≤ 2 ∧ (1 ≤ i → x = 0) ∧ (2 ≤ i → y = 0)) (fun i => 2 - i) 0
    (le_of (by simp) (by simp)) ⟨by omega, by omega, by omega⟩ fun i ⟨hi, h1, h2⟩ => ?_
  have hc : i = 0 ∨ i = 1 ∨ i = 2 := by omega
  rcases hc with rfl | rfl | rfl
  · by_cases hx : x = 0
    · subst hx
      simp -dsimp
      have hw : IntKind.i64.wrap 1 = 1 := by decide
      refine LoopP_next 1 (le_of (by simp [hw]) (by simp)) ⟨by omega, fun _ => rfl, by omega⟩ (by omega)
    · have hne : (x != 0) = true := by simpa using hx
      rw [if_neg hx] at hr
      subst hr
      simp -dsimp [hne]
      refine retP_c ?_
      simp -dsimp
  · have hx := h1 (by omega)
    subst hx
    rw [if_pos rfl] at hr
    subst hr
    by_cases hy : r = 0
    · subst hy
      simp -dsimp
      have hw : IntKind.i64.wrap 2 = 2 := by decide
      refine LoopP_next 2 (le_of (by simp [hw]) (by simp)) ⟨by omega, fun _ => rfl, fun _ => rfl⟩ (by omega)
    · have hne : (r != 0) = true := by simpa using hy
      simp -dsimp [hne]
      refine retP_c ?_
      simp -dsimp
  · have hx := h1 (by omega)
    have hy := h2 (by omega)
    subst hx hy
    rw [if_pos rfl] at hr
    subst hr
    simp -dsimp
    refine retP_c ?_
    simp -dsimp
theorem cmpN_drop {a b : List Nat} {i : Nat} (ha : i < a.length) (hb : i < b.length) : cmpN (a.drop i) (b.drop i) = if cmpI (a.getD i 0 : Nat) (b.getD i 0 : Nat) = 0 then cmpN (a.drop (i + 1)) (b.drop (i + 1)) else cmpI (a.getD i 0 : Nat) (b.getD i 0 : Nat) := by
  rw [List.drop_eq_getElem_cons ha, List.drop_eq_getElem_cons hb, cmpN]
  simp only [List.getD_eq_getElem?_getD, List.getElem?_eq_getElem ha, List.getElem?_eq_getElem hb, Option.getD_some, cmpI]
  generalize a[i] = x
  generalize b[i] = y
  repeat' split
  all_goals first | rfl | omega
theorem scmp_spec (a b : List Nat) : PCall Tryd.prog 154 [eNs a, eNs b] (pI (cmpN a b)) [] := by
  refine pcall_sl 0 rfl call154 fun hla => ?_
  refine pcall_sl 1 rfl call154 fun hlb => ?_
  simp only [List.length_map, iL_length] at hla hlb
  refine pcall_wp _ Tryd.func154 rfl (by kernel_rfl) rfl ?_
  simp -dsimp
  refine wk_loop (fun i : Nat => ⟨[(11, pI i), (10, pI a.length), (9, .t .ro (eNs a)), (0, .t .ro (eNs a)), (1, .t .ro (eNs b))], []⟩)
    (fun i => i ≤ a.length ∧ i ≤ b.length ∧ cmpN a b = cmpN (a.drop i) (b.drop i)) (fun i => a.length - i) 0
    (le_of (by simp) (by simp)) ⟨by omega, by omega, by simp⟩ fun i ⟨hi, hib, hJ⟩ => ?_
  simp -dsimp
  refine condX_dec (fun h => ?_) (fun h => ?_)
  rotate_left
  · have hi' : i = a.length := by omega
    subst hi'
    rw [List.drop_length] at hJ
    by_cases hlt : (a.length : Int) < b.length
    · have hF : cmpN a b = -1 := by
        rw [hJ, List.drop_eq_getElem_cons (show a.length < b.length by omega)]
        rfl
      simp -dsimp [hlt]
      refine retP_c ?_
      simp -dsimp [hF]
    · have hF : cmpN a b = 0 := by
        rw [hJ, List.drop_eq_nil_of_le (show b.length ≤ a.length by omega)]
        rfl
      simp -dsimp [hlt]
      refine retP_c ?_
      simp -dsimp [hF]
  have hw := wr (n := (i : Int) + 1) (by omega) (by omega)
  have q1 := iL_at (l := a) (i := i) h
  by_cases hb : (b.length : Int) ≤ i
  · have hF : cmpN a b = 1 := by
      rw [hJ, List.drop_eq_getElem_cons h, List.drop_eq_nil_of_le (show b.length ≤ i by omega)]
      rfl
    have i1 : (i : Int) < a.length := by omega
    simp -dsimp [i1, q1, hb]
    refine retP_c ?_
    simp -dsimp [hF]
  have hib' : i < b.length := by omega
  have q2 := iL_at (l := b) (i := i) hib'
  have hd := cmpN_drop h hib'
  have hc := cmp_spec (a.getD i 0 : Nat) (b.getD i 0 : Nat)
  have i1 : (i : Int) < a.length := by omega
  have i2 : (i : Int) < b.length := by omega
  have i5 : (0 : Int) ≤ i := by omega
  generalize a.getD i 0 = x at *
  generalize b.getD i 0 = y at *
  generalize cmpI (x : Int) (y : Int) = c at *
  by_cases h0 : c = 0
  · rw [if_pos h0] at hd
    have hne : (c != 0) = false := by simpa using h0
    simp -dsimp [i1, i2, i5, q1, q2, hb]
    first
      | refine CallG.by (hc) ?_
      | refine CallGE.by (hc) ?_
      | refine CallGB.by (hc) ?_
    simp -dsimp [hne]
    refine LoopP_next (i + 1) (le_of (by simp [hw]) (by simp)) ⟨h, hib', by rw [hJ, hd]⟩ (by omega)
  · rw [if_neg h0] at hd
    have hne : (c != 0) = true := by simpa using h0
    have hF : cmpN a b = c := by rw [hJ, hd]
    simp -dsimp [i1, i2, i5, q1, q2, hb]
    first
      | refine CallG.by (hc) ?_
      | refine CallGE.by (hc) ?_
      | refine CallGB.by (hc) ?_
    simp -dsimp [hne]
    refine retP_c ?_
    simp -dsimp [hF]
def hdN (x : List Nat) : Nat := x.headD 0
def tlN (x : List Nat) : List Nat := x.tail
@[simp] theorem hdN_cons (x : Nat) (l : List Nat) : hdN (x :: l) = x := rfl
@[simp] theorem tlN_cons (x : Nat) (l : List Nat) : tlN (x :: l) = l := rfl
@[simp] def eKd (x : List Nat) : List TL := [eI (hdN x), eNs (tlN x)]
theorem compare_spec (x y : List Nat) (hx : x ≠ []) (hy : y ≠ []) : PCall Tryd.prog 130 [.agg (eKd x), .agg (eKd y)] (pI (cmpN x y)) [] := by
  match x, y, hx, hy with
  | x :: a, y :: b, _, _ =>
    have h1 := cmp_spec (x : Nat) (y : Nat)
    have h2 := scmp_spec a b
    have hF : cmpN (x :: a) (y :: b) = if cmpI (x : Nat) (y : Nat) = 0 then cmpN a b else cmpI (x : Nat) (y : Nat) := by
      rw [cmpN]
      unfold cmpI
      repeat' split
      all_goals first | rfl | omega
    have h3 := or_spec (cmpI (x : Nat) (y : Nat)) (cmpN a b)
    refine pcall_wp _ Tryd.func130 rfl (by kernel_rfl) rfl ?_
    rw [← hF] at h3
    generalize cmpN (x :: a) (y :: b) = r at *
    generalize cmpI (x : Int) (y : Int) = c at *
    generalize cmpN a b = d at *
    simp only [eKd, hdN_cons, tlN_cons]
    simp -dsimp
    refine wk_draw 9 [] mixed (by kernel_rfl) ?_
    simp -dsimp
    first
      | refine CallG.by (h1) ?_
      | refine CallGE.by (h1) ?_
      | refine CallGB.by (h1) ?_
    simp -dsimp
    first
      | refine CallG.by (h2) ?_
      | refine CallGE.by (h2) ?_
      | refine CallGB.by (h2) ?_
    simp -dsimp
    first
      | refine CallG.by (h3) ?_
      | refine CallGE.by (h3) ?_
      | refine CallGB.by (h3) ?_
    simp -dsimp
    refine retP_c ?_
    simp -dsimp
theorem closure132 (x y : List Nat) (hx : x ≠ []) (hy : y ≠ []) : PCall Tryd.prog 132 [.agg (eKd x), .agg (eKd y)] (pB (decide (x = y))) [] := by
  have h := compare_spec x y hx hy
  refine pcall_wp _ Tryd.func132 rfl (by kernel_rfl) rfl ?_
  have hd : (cmpN x y == 0) = decide (x = y) := by
    rw [Bool.eq_iff_iff, beq_iff_eq, decide_eq_true_eq]
    exact ⟨cmpN_eq, fun e => by rw [e, cmpN_self]⟩
  generalize cmpN x y = c at *
  simp -dsimp
  first
    | refine CallG.by (h) ?_
    | refine CallGE.by (h) ?_
    | refine CallGB.by (h) ?_
  simp -dsimp [hd]
  refine retP_c ?_
  simp -dsimp
end Go.Proofs.YtfcbmcmkakceaaaDoor
