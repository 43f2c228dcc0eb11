import Derived.Test.YtfcbmcmkakceaaaDoorLB9
import Derived.Test.YtfcbmcmkakceaaaDoorLW11
/- LB15: slices.BinarySearchFunc of kinds; slices.Max; different. -/
set_option linter.unusedVariables false
set_option linter.unusedSimpArgs false
set_option maxRecDepth 20000
namespace Go.Proofs.YtfcbmcmkakceaaaDoor
open Go Go.PS
attribute [-simp] isKeyK List.map_take
theorem ris_lt {S : List (List Nat)} (hS : Ris S) {i j : Nat} (hij : i < j) (hj : j < S.length) : cmpN (gK S i) (gK S j) < 0 := by
  have := List.pairwise_iff_getElem.1 hS i j (by omega) hj hij
  simpa [gK, List.getD_eq_getElem?_getD, hj, show i < S.length by omega] using this
theorem rk_where {S : List (List Nat)} (hS : Ris S) {p : List Nat} (hp : p ∈ S) {i : Nat} (h0 : i ≤ S.length) (h1 : ∀ a, a < i → cmpN (gK S a) p < 0) (h2 : ∀ a, i ≤ a → a < S.length → ¬ cmpN (gK S a) p < 0) : i = rkL S p ∧ i < S.length ∧ gK S i = p := by
  obtain ⟨hl, he⟩ := rk_get hS hp
  have hg : gK S (rkL S p) = p := by simpa [gK, List.getD_eq_getElem?_getD, hl] using he
  have : i = rkL S p := by
    rcases Nat.lt_trichotomy i (rkL S p) with h | h | h
    · exfalso
      have a1 := ris_lt hS h hl
      rw [hg] at a1
      exact h2 i (Nat.le_refl _) (by omega) a1
    · exact h
    · exfalso
      have a1 := h1 _ h
      rw [hg, cmpN_self] at a1
      omega
  subst this
  exact ⟨rfl, hl, hg⟩
theorem half_fdiv (a b : Nat) : ((a : Int) + (b : Int)).fdiv (2 ^ min 1 IntKind.u64.bits) = (((a + b) / 2 : Nat) : Int) := by
  have e : (2 : Int) ^ min 1 IntKind.u64.bits = 2 := by decide
  rw [e]
  have := Int.ofNat_fdiv (a + b) 2
  rw [← Int.natCast_add]
  exact this.symm
theorem bsK_spec (S : List (List Nat)) (p : List Nat) (hS : Ris S) (hne : ∀ x ∈ S, x ≠ []) (hp : p ∈ S) (hl : S.length ≤ 100) :
    PCall Tryd.prog 133 [.sl .any 2 (S.map eKd), .agg (eKd p), .clo 130 []] (.t .fz (.tup [eI (rkL S p : Nat), eB true])) [] := by
  refine pcall_wp _ Tryd.func133 rfl (by kernel_rfl) rfl ?_
  have hpn := hne p hp
  simp -dsimp
  refine wk_loop (fun q : Nat × Nat => ⟨[(9, pI q.1), (10, pI q.2), (8, pI S.length), (4, .ptr 4 0), (0, .t .ro (.sl .any 2 (S.map eKd))), (2, .t .ro (.clo 130 []))], [(4, .blk 164 [.t .ro (eI (hdN p)), .t .ro (eNs (tlN p))])]⟩)
    (fun q => q.1 ≤ q.2 ∧ q.2 ≤ S.length ∧ (∀ a, a < q.1 → cmpN (gK S a) p < 0) ∧ ∀ a, q.2 ≤ a → a < S.length → ¬ cmpN (gK S a) p < 0) (fun q => q.2 - q.1) (0, S.length)
    (le_of (by simp) (by simp)) ⟨by simp, by simp, fun a h => by simp at h, fun a h1 h2 => by simp only at h1; omega⟩ fun ⟨i, j⟩ ⟨hij, hj, h1, h2⟩ => ?_
  dsimp only at hij hj h1 h2
  simp -dsimp
  refine condX_dec (fun h => ?_) (fun h => ?_)
  · have hw := wr (n := (i : Int) + j) (by omega) (by omega)
    have hu : IntKind.u64.wrap ((i : Int) + j) = (i : Int) + j := by
      rw [IntKind.wrap_u64]
      omega
    have hh := half_fdiv i j
    have hm1 : i ≤ (i + j) / 2 := by omega
    have hm2 : (i + j) / 2 < j := by omega
    generalize (i + j) / 2 = m at hh hm1 hm2
    have hwm := wr (n := (m : Int)) (by omega) (by omega)
    have hwm1 := wr (n := (m : Int) + 1) (by omega) (by omega)
    have z1 : m < S.length := by omega
    have q1 : gK S m = S[m] := by simp [gK, List.getD_eq_getElem?_getD, z1]
    have hc := compare_spec S[m] p (hne _ (List.getElem_mem z1)) hpn
    simp -dsimp [hw, hu, hh, hwm]
    refine wk_draw 6 [] mixed (by kernel_rfl) ?_
    simp -dsimp [z1]
    first
      | refine CallG.by (hc) ?_
      | refine CallGE.by (hc) ?_
      | refine CallGB.by (hc) ?_
    by_cases hlt : cmpN S[m] p < 0
    · simp -dsimp [hlt]
      refine LoopP_next (m + 1, j) (le_of (by simp [hwm1]) (by simp)) ⟨by simp only; omega, hj, fun a ha => ?_, h2⟩ (by simp only; omega)
      simp only at ha
      rcases Nat.lt_or_ge a m with h5 | h5
      · have a1 := ris_lt hS h5 z1
        rw [q1] at a1
        exact cmpN_trans a1 hlt
      · rw [show a = m by omega, q1]
        exact hlt
    · simp -dsimp [hlt]
      refine LoopP_next (i, m) (le_of (by simp) (by simp)) ⟨by simp only; omega, by simp only; omega, h1, fun a ha hal => ?_⟩ (by simp only; omega)
      simp only at ha
      rcases Nat.lt_or_ge m a with h5 | h5
      · intro hx
        have a1 := ris_lt hS h5 hal
        rw [q1] at a1
        exact hlt (cmpN_trans a1 hx)
      · rw [show a = m by omega, q1]
        exact hlt
  · have hij' : i = j := by omega
    subst hij'
    obtain ⟨hr, hil, hg⟩ := rk_where hS hp hj h1 h2
    have q1 : gK S i = S[i] := by simp [gK, List.getD_eq_getElem?_getD, hil]
    rw [q1] at hg
    have hc := compare_spec S[i] p (hne _ (List.getElem_mem hil)) hpn
    rw [hg, cmpN_self] at hc
    simp -dsimp
    refine wk_draw 15 [11] mixed (by kernel_rfl) ?_
    simp -dsimp [hil, hg]
    first
      | refine CallG.by (hc) ?_
      | refine CallGE.by (hc) ?_
      | refine CallGB.by (hc) ?_
    simp -dsimp
    refine retP_c ?_
    simp -dsimp [hr]
end Go.Proofs.YtfcbmcmkakceaaaDoor
