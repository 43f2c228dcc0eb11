import Derived.Test.YtfcbmcmkakceaaaDoorLB5
/- LB6: unlike. -/
set_option linter.unusedVariables false
set_option linter.unusedSimpArgs false
set_option maxRecDepth 20000
namespace Go.Proofs.YtfcbmcmkakceaaaDoor
open Go Go.PS
attribute [-simp] isKeyK List.map_take
def unlT (o : Option Fo) : TL := match o with
  | some f => .tup [.agg (foC f), eB true]
  | none => .tup [.agg foZ, eB false]
theorem range_find {α : Type} {n i : Nat} {f : Nat → Option α} {x : α} (hi : i < n) (h : f i = some x) (hb : ∀ k, k < i → f k = none) : (List.range n).findSome? f = some x := by
  have e : List.range n = List.range i ++ (i :: (List.range (n - i - 1)).map (i + 1 + ·)) := by
    have h1 : n = i + (n - i) := by omega
    have h2 : n - i = (n - i - 1) + 1 := by omega
    conv => lhs; rw [h1, List.range_add]
    congr 1
    rw [h2, List.range_succ_eq_map, List.map_cons, List.map_map]
    congr 1
    simp only [Nat.add_sub_cancel]
    refine List.map_congr_left fun a _ => ?_
    show i + (a + 1) = i + 1 + a
    omega
  rw [e, List.findSome?_append]
  have h0 : (List.range i).findSome? f = none := List.findSome?_eq_none_iff.2 fun k hk => hb k (List.mem_range.1 hk)
  rw [h0, List.findSome?_cons, h]
  rfl
theorem range_none {α : Type} {n : Nat} {f : Nat → Option α} (hb : ∀ k, k < n → f k = none) : (List.range n).findSome? f = none := List.findSome?_eq_none_iff.2 fun k hk => hb k (List.mem_range.1 hk)
theorem un_at {t s a b : List Nat} {i j : Nat} {f : Fo} (hj : j < a.length) (hi : i < j) (hJ : ∀ k, k < j → ∀ l, l < k → bdF t s a b l k = none) (hI : ∀ l, l < i → bdF t s a b l j = none) (h : bdF t s a b i j = some f) : unF t s a b = some f :=
  range_find hj (range_find hi h hI) fun k hk => range_none (hJ k hk)
theorem un_end {t s a b : List Nat} (hJ : ∀ k, k < a.length → ∀ l, l < k → bdF t s a b l k = none) : unF t s a b = none := range_none fun k hk => range_none (hJ k hk)
theorem unlike_spec (t s a b : List Nat) (ht : Tow 6 t) (hs : Tow 6 s) (hl : a.length = b.length) (h100 : a.length ≤ 100) (hab : ∀ i, i < a.length → a.getD i 0 < t.length ∧ b.getD i 0 < s.length) :
    PCall Tryd.prog 96 [eSide t a, eSide s b] (.t .ro (unlT (unF t s a b))) [] := by
  refine pcall_wpT Tryd.func96 rfl (by kernel_rfl) ?_
  have h64 : 2 ^ t.length ≤ 2 ^ 6 := Nat.pow_le_pow_right (by decide) ht.le
  have h64' : 2 ^ s.length ≤ 2 ^ 6 := Nat.pow_le_pow_right (by decide) hs.le
  have hlI : (a.length : Int) = b.length := by omega
  unfold eSide
  simp -dsimp
  refine wk_loop (fun j : Nat => ⟨[(13, pI j), (12, pI a.length), (5, pB false), (4, .ptr 4 0), (3, .ptr 3 0), (2, .ptr 2 0)],
      [(4, .blk 64 [.t .fz (.v (.string ByteArray.empty)), .t .fz (eI 0), .t .fz (eI 0), .t .fz (.v (.slice none 0 0))]), (3, .blk 90 [.t .ro (eNs s), .t .ro (eNs b)]), (2, .blk 90 [.t .ro (eNs t), .t .ro (eNs a)])]⟩)
    (fun j => j ≤ a.length ∧ ∀ k, k < j → ∀ l, l < k → bdF t s a b l k = none) (fun j => a.length - j) 0
    (le_of (by simp) (by simp)) ⟨by omega, fun k h => by omega⟩ fun j ⟨hj, hJ⟩ => ?_
  simp -dsimp
  refine condX_dec (fun h => ?_) (fun h => ?_)
  rotate_left
  · have hj' : j = a.length := by omega
    subst hj'
    have hU := un_end hJ
    rw [hU]
    simp -dsimp
    refine retT_c ?_
    simp -dsimp [unlT, foZ, nilT]
  have hw := wr (n := (j : Int) + 1) (by omega) (by omega)
  simp -dsimp
  refine wk_loop (fun i : Nat => ⟨[(17, pI i), (16, pI j), (6, pI j), (13, pI j), (12, pI a.length), (5, pB false), (4, .ptr 4 0), (3, .ptr 3 0), (2, .ptr 2 0)],
      [(4, .blk 64 [.t .fz (.v (.string ByteArray.empty)), .t .fz (eI 0), .t .fz (eI 0), .t .fz (.v (.slice none 0 0))]), (3, .blk 90 [.t .ro (eNs s), .t .ro (eNs b)]), (2, .blk 90 [.t .ro (eNs t), .t .ro (eNs a)])]⟩)
    (fun i => i ≤ j ∧ ∀ l, l < i → bdF t s a b l j = none) (fun i => j - i) 0
    (le_of (by simp) (by simp)) ⟨by omega, fun k h => by omega⟩ fun i ⟨hi, hI⟩ => ?_
  simp -dsimp
  refine condX_dec (fun hij => ?_) (fun hij => ?_)
  rotate_left
  · have hi' : i = j := by omega
    subst hi'
    simp -dsimp
    refine LoopP_next (i + 1) (le_of (by simp [hw]) (by simp)) ⟨h, fun k hk l hlk => ?_⟩ (by omega)
    rcases Nat.lt_or_ge k i with h5 | h5
    · exact hJ k h5 l hlk
    · have : k = i := by omega
      subst this
      exact hI l hlk
  have hw' := wr (n := (i : Int) + 1) (by omega) (by omega)
  have q1 := iL_at (l := a) (i := i) (by omega)
  have q2 := iL_at (l := a) (i := j) (by omega)
  have q3 := iL_at (l := b) (i := i) (by omega)
  have q4 := iL_at (l := b) (i := j) (by omega)
  obtain ⟨b1, b3⟩ := hab i (by omega)
  obtain ⟨b2, b4⟩ := hab j (by omega)
  have i1 : (i : Int) < a.length := by omega
  have i2 : (j : Int) < a.length := by omega
  have i3 : (i : Int) < b.length := by omega
  have i4 : (j : Int) < b.length := by omega
  have i5 : (0 : Int) ≤ i := by omega
  have i6 : (0 : Int) ≤ j := by omega
  have hbd : bdF t s a b i j = if badE a b i j then some (unl (a.getD i 0 == a.getD j 0) (.eq i j)) else if badN t s a b i j then some (unl (nbN t (a.getD i 0) (a.getD j 0)) (.adj i j)) else none := rfl
  have hE : badE a b i j = ((a.getD i 0 == a.getD j 0) != (b.getD i 0 == b.getD j 0)) := rfl
  have hN : badN t s a b i j = (nbN t (a.getD i 0) (a.getD j 0) != nbN s (b.getD i 0) (b.getD j 0)) := rfl
  have hU := fun f => un_at (f := f) h hij hJ hI
  have hn1 := near_spec t (a.getD i 0) (a.getD j 0) b1 (by have := ht.get (a.getD i 0); omega) (by have := ht.le; omega)
  have hn2 := near_spec s (b.getD i 0) (b.getD j 0) b3 (by have := hs.get (b.getD i 0); omega) (by have := hs.le; omega)
  generalize a.getD i 0 = x at *
  generalize a.getD j 0 = y at *
  generalize b.getD i 0 = x' at *
  generalize b.getD j 0 = y' at *
  have c1 : ((x : Int) == (y : Int)) = (x == y) := by rw [Bool.eq_iff_iff]; simp; omega
  have c2 : ((x' : Int) == (y' : Int)) = (x' == y') := by rw [Bool.eq_iff_iff]; simp; omega
  generalize (x == y) = p at *
  generalize (x' == y') = p' at *
  generalize nbN t x y = m at *
  generalize nbN s x' y' = m' at *
  have huE := unless_spec (.eq i j) p
  have huN := unless_spec (.adj i j) m
  rw [show foC (.eq i j) = [sT [61], eI i, eI j, nilT] from rfl, sT, nilT] at huE
  rw [show foC (.adj i j) = [sT [126], eI i, eI j, nilT] from rfl, sT, nilT] at huN
  simp -dsimp
  refine wk_draw 10 [] mixed (by kernel_rfl) ?_
  simp -dsimp [i1, i2, i5, i6, q1, q2, c1]
  refine wk_draw 12 [] mixed (by kernel_rfl) ?_
  simp -dsimp [i1, i2, i5, i6, q1, q2]
  first
    | refine CallG.by (hn1) ?_
    | refine CallGE.by (hn1) ?_
    | refine CallGB.by (hn1) ?_
  simp -dsimp
  refine wk_draw 12 [] mixed (by kernel_rfl) ?_
  have fin : ∀ f, bdF t s a b i j = some f → foC f = foC f := fun _ _ => rfl
  by_cases hp : p' = p
  · subst hp
    rw [show (p' != p') = false by simp] at hE
    rw [hE] at hbd
    simp -dsimp [i3, i4, i5, i6, q3, q4, c2]
    refine wk_draw 14 [13] mixed (by kernel_rfl) ?_
    simp -dsimp [i3, i4, i5, i6, q3, q4]
    first
      | refine CallG.by (hn2) ?_
      | refine CallGE.by (hn2) ?_
      | refine CallGB.by (hn2) ?_
    by_cases hm : m' = m
    · subst hm
      rw [show (m' != m') = false by simp] at hN
      rw [hN] at hbd
      simp -dsimp
      refine LoopP_next (i + 1) (le_of (by simp [hw']) (by simp)) ⟨hij, fun l hlk => ?_⟩ (by omega)
      rcases Nat.lt_or_ge l i with h5 | h5
      · exact hI l h5
      · have : l = i := by omega
        subst this
        exact hbd
    · have hmm : (m != m') = true := by cases m <;> cases m' <;> simp_all
      rw [hmm] at hN
      rw [hN] at hbd
      rw [hU _ hbd]
      rcases foC_len (unl m (.adj i j)) with ⟨o, u, v, hf⟩ | ⟨o, u, v, ks, hf⟩
      · rw [hf] at huN
        simp -dsimp [hmm]
        first
          | refine CallG.by (huN) ?_
          | refine CallGE.by (huN) ?_
          | refine CallGB.by (huN) ?_
        simp -dsimp
        refine retT_c ?_
        simp -dsimp [unlT, hf]
      · rw [hf] at huN
        simp -dsimp [hmm]
        first
          | refine CallG.by (huN) ?_
          | refine CallGE.by (huN) ?_
          | refine CallGB.by (huN) ?_
        simp -dsimp
        refine retT_c ?_
        simp -dsimp [unlT, hf]
  · have hmm : (p != p') = true := by cases p <;> cases p' <;> simp_all
    rw [hmm] at hE
    rw [hE] at hbd
    rw [hU _ hbd]
    rcases foC_len (unl p (.eq i j)) with ⟨o, u, v, hf⟩ | ⟨o, u, v, ks, hf⟩
    · rw [hf] at huE
      simp -dsimp [i3, i4, i5, i6, q3, q4, c2, hmm]
      first
        | refine CallG.by (huE) ?_
        | refine CallGE.by (huE) ?_
        | refine CallGB.by (huE) ?_
      simp -dsimp
      refine retT_c ?_
      simp -dsimp [unlT, hf]
    · rw [hf] at huE
      simp -dsimp [i3, i4, i5, i6, q3, q4, c2, hmm]
      first
        | refine CallG.by (huE) ?_
        | refine CallGE.by (huE) ?_
        | refine CallGB.by (huE) ?_
      simp -dsimp
      refine retT_c ?_
      simp -dsimp [unlT, hf]
end Go.Proofs.YtfcbmcmkakceaaaDoor
