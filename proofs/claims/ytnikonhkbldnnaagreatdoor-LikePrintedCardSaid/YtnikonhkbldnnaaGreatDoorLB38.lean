import Derived.Test.YtnikonhkbldnnaaGreatDoorLB33
import Derived.Test.YtnikonhkbldnnaaGreatDoorLB37
/- LB38: formulas that the program makes, as the reference reads them. -/
set_option linter.unusedVariables false
set_option linter.unusedSimpArgs false
set_option maxRecDepth 20000
namespace Go.Proofs.YtnikonhkbldnnaaGreatDoor
open Go Go.PS
attribute [-simp] isKeyK List.map_take
theorem htF_pos (f : Fo) : 1 ≤ htF f := by cases f <;> simp [htF]
theorem szF_pos (f : Fo) : 1 ≤ szF f := by cases f <;> simp [szF]
theorem conv_ftOf : ∀ (f : Fo) (left : Nat) (n : Int), htF f ≤ left + 1 → (szF f : Int) ≤ n → convF left n (ftOf f) = (ftOf f, n - szF f)
  | .eq i j, left, n, h, hn => by rw [ftOf, convF_mk]; cases left <;> simp [cvK, convL, szF]
  | .adj i j, left, n, h, hn => by rw [ftOf, convF_mk]; cases left <;> simp [cvK, convL, szF]
  | .no f, left, n, h, hn => by
    have hp := htF_pos f
    have hz := szF_pos f
    rw [htF] at h
    rw [szF] at hn
    obtain ⟨l, rfl⟩ : ∃ l, left = l + 1 := ⟨left - 1, by omega⟩
    have ih := conv_ftOf f l (n - 1) (by omega) (by omega)
    rw [ftOf, convF_mk, cvK, convL, if_neg (by omega), ih, convL, szF]
    simp only [Prod.mk.injEq, true_and]
    omega
  | .an f g, left, n, h, hn => by
    have hp := htF_pos f
    have hz := szF_pos f
    have hz' := szF_pos g
    rw [htF] at h
    rw [szF] at hn
    obtain ⟨l, rfl⟩ : ∃ l, left = l + 1 := ⟨left - 1, by omega⟩
    have ih := conv_ftOf f l (n - 1) (by omega) (by omega)
    have ih2 := conv_ftOf g l (n - 1 - szF f) (by omega) (by omega)
    rw [ftOf, convF_mk, cvK, convL, if_neg (by omega), ih, convL, if_neg (by simp only; omega), ih2, convL, szF]
    simp only [Prod.mk.injEq, true_and]
    omega
  | .ex x f, left, n, h, hn => by
    have hp := htF_pos f
    have hz := szF_pos f
    rw [htF] at h
    rw [szF] at hn
    obtain ⟨l, rfl⟩ : ∃ l, left = l + 1 := ⟨left - 1, by omega⟩
    have ih := conv_ftOf f l (n - 1) (by omega) (by omega)
    rw [ftOf, convF_mk, cvK, convL, if_neg (by omega), ih, convL, szF]
    simp only [Prod.mk.injEq, true_and]
    omega
theorem own_ftOf (f : Fo) (h : htF f ≤ 44) (hs : szF f ≤ 2010) : ofF (ftOf f) = ftOf f := by
  rw [ofF, conv_ftOf f 43 2010 (by omega) (by omega)]
theorem dg_mod {n X x y : Nat} (h : y < x) : X / n ^ y % n = X % n ^ x / n ^ y % n := by
  obtain ⟨z, rfl⟩ : ∃ z, x = y + (1 + z) := ⟨x - y - 1, by omega⟩
  rw [Nat.pow_add, Nat.pow_add, Nat.pow_one, Nat.mod_mul_right_div_self, Nat.mod_mul_right_mod]
theorem setD_eq {n c x v : Nat} : setD n c x v = n ^ x * (n * (c / n ^ x / n) + v) + c % n ^ x := by
  unfold setD dg
  generalize n ^ x = p
  have h1 : c = p * (c / p) + c % p := (Nat.div_add_mod c p).symm
  generalize c / p = m at *
  generalize c % p = r at *
  have h2 : m = n * (m / n) + m % n := (Nat.div_add_mod m n).symm
  generalize m / n = k at *
  generalize m % n = d at *
  subst h2
  rw [Nat.mul_add] at h1 ⊢
  rw [Nat.mul_comm d p, Nat.mul_comm v p]
  omega
theorem dg_setD {n c x v y : Nat} (hn : 0 < n) (hv : v < n) : dg n (setD n c x v) y = if y = x then v else dg n c y := by
  have hp : 0 < n ^ x := Nat.pow_pos hn
  have hr : c % n ^ x < n ^ x := Nat.mod_lt _ hp
  have e1 : setD n c x v / n ^ x = n * (c / n ^ x / n) + v := by
    rw [setD_eq, Nat.mul_add_div hp, Nat.div_eq_of_lt hr, Nat.add_zero]
  have e2 : setD n c x v % n ^ x = c % n ^ x := by
    rw [setD_eq, Nat.mul_add_mod, Nat.mod_eq_of_lt hr]
  rcases Nat.lt_trichotomy y x with h | h | h
  · rw [if_neg (by omega), dg, dg, dg_mod h, e2, ← dg_mod h]
  · subst h
    rw [if_pos rfl, dg, e1, Nat.mul_add_mod, Nat.mod_eq_of_lt hv]
  · rw [if_neg (by omega), dg, dg]
    obtain ⟨z, rfl⟩ : ∃ z, y = x + (1 + z) := ⟨y - x - 1, by omega⟩
    rw [Nat.pow_add, Nat.pow_add, Nat.pow_one, ← Nat.div_div_eq_div_mul, ← Nat.div_div_eq_div_mul, ← Nat.div_div_eq_div_mul, ← Nat.div_div_eq_div_mul, e1, Nat.mul_add_div hn, Nat.div_eq_of_lt hv, Nat.add_zero]
theorem holdF_vok {t : List Nat} : ∀ {f : Fo} {e e' : Nat → Nat}, vokF f → (∀ y, y < 4 → e y = e' y) → holdF t e f = holdF t e' f
  | .eq i j, e, e', h, he => by rw [holdF, holdF, he i h.1, he j h.2]
  | .adj i j, e, e', h, he => by rw [holdF, holdF, he i h.1, he j h.2]
  | .no f, e, e', h, he => by rw [holdF, holdF, holdF_vok (f := f) h he]
  | .an f g, e, e', h, he => by rw [holdF, holdF, holdF_vok (f := f) h.1 he, holdF_vok (f := g) h.2 he]
  | .ex x f, e, e', h, he => by
    rw [holdF, holdF]
    congr 1
    funext v
    exact holdF_vok (f := f) h.2 fun y hy => by 
      unfold upd
      split
      · rfl
      · exact he y hy
theorem trF_ftOf {t : List Nat} (hn : 0 < t.length) : ∀ {f : Fo} {c : Nat}, vokF f → trF t (ftOf f) c = holdF t (dg t.length c) f
  | .eq i j, c, h => by rw [ftOf, trF]; simp [holdF]
  | .adj i j, c, h => by rw [ftOf, trF]; simp [holdF, oNo_ne]
  | .no f, c, h => by rw [ftOf, trF]; simp [holdF, oNo_ne, trL, trF_ftOf hn (f := f) h]
  | .an f g, c, h => by rw [ftOf, trF]; simp [holdF, oNo_ne, trL, trF_ftOf hn (f := f) h.1, trF_ftOf hn (f := g) h.2]
  | .ex x f, c, h => by
    rw [ftOf, trF]
    have hea : (oEx = oAn) = False := by simp [oEx, oAn]
    simp only [oNo_ne, hea, if_false, trL, holdF, Int.toNat_natCast, reduceCtorEq]
    rw [Bool.eq_iff_iff, List.any_eq_true, List.any_eq_true]
    have key : ∀ v, v ∈ List.range t.length → trF t (ftOf f) (setD t.length c x v) = holdF t (upd (dg t.length c) x v) f := fun v hv => by
      rw [trF_ftOf hn (f := f) h.2]
      exact holdF_vok h.2 fun y hy => by rw [dg_setD hn (List.mem_range.1 hv)]; rfl
    exact ⟨fun ⟨v, h1, h2⟩ => ⟨v, h1, by rw [← key v h1]; exact h2⟩, fun ⟨v, h1, h2⟩ => ⟨v, h1, by rw [key v h1]; exact h2⟩⟩
theorem clo_ftOf : ∀ {f : Fo} {V : Nat → Prop} {bd : Nat}, clo V f → (∀ y, V y → bd.testBit y = true) → closF (ftOf f) bd = true
  | .eq i j, V, bd, h, hb => by rw [ftOf, closF]; simp [hb i h.1, hb j h.2]
  | .adj i j, V, bd, h, hb => by rw [ftOf, closF]; simp [hb i h.1, hb j h.2]
  | .no f, V, bd, h, hb => by rw [ftOf, closF]; simp [oNo_ne, closL, clo_ftOf (f := f) h hb]
  | .an f g, V, bd, h, hb => by rw [ftOf, closF]; simp [oNo_ne, closL, clo_ftOf (f := f) h.1 hb, clo_ftOf (f := g) h.2 hb]
  | .ex x f, V, bd, h, hb => by
    rw [ftOf, closF]
    have := clo_ftOf (f := f) (V := fun y => y = x ∨ V y) (bd := bd ||| 2 ^ x) h fun y hy => by
      rw [Nat.testBit_or]
      rcases hy with rfl | hy
      · rw [Nat.testBit_two_pow_self, Bool.or_true]
      · rw [hb y hy, Bool.true_or]
    simp [oNo_ne, closL, this]
theorem szB_3 {k : Nat} (h : k ≤ 3) : szB k ≤ 733 := by
  have : k = 0 ∨ k = 1 ∨ k = 2 ∨ k = 3 := by omega
  rcases this with rfl | rfl | rfl | rfl <;> decide
theorem tell_form {k : Nat} {t s : List Nat} {f : Fo} (hk : k ≤ 3) (h : TellOK k t s [] [] f) : formOk (ftOf f) = true ∧ closF (ftOf f) 0 = true ∧ deF (ftOf f) ≤ k ∧ ofF (ftOf f) = ftOf f ∧ (0 < t.length → trF t (ftOf f) 0 = true) ∧ (0 < s.length → trF s (ftOf f) 0 = false) := by
  have h1 := h.sz
  have h2 := szB_3 hk
  have h3 := h.ht
  refine ⟨?_, clo_ftOf h.clo fun y hy => by simp at hy, by rw [ftOf_de]; exact h.deep, own_ftOf f (by omega) (by omega), fun ht => ?_, fun hs => ?_⟩
  · rw [formOk, ftOf_nodes, ftOf_dp, ftOf_shaped h.vok, decide_eq_true (by omega), decide_eq_true (by omega)]
    rfl
  · rw [trF_ftOf ht h.vok]
    exact h.yes _ fun i hi => by simp at hi
  · rw [trF_ftOf hs h.vok]
    exact h.not _ fun i hi => by simp at hi
end Go.Proofs.YtnikonhkbldnnaaGreatDoor
