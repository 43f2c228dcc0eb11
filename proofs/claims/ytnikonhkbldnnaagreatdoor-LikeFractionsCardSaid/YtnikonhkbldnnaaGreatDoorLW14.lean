import Derived.Test.YtnikonhkbldnnaaGreatDoorLWA
/- LW14: fractions, their sums, and matrices of them. Plain. -/
set_option linter.unusedVariables false
set_option linter.unusedSimpArgs false
namespace Go.Proofs.YtnikonhkbldnnaaGreatDoor
/-- The sum of two fractions, reduced. -/
def frAdd (p q : Nat × Nat) : Nat × Nat :=
  ((p.1 * q.2 + q.1 * p.2) / Nat.gcd (p.1 * q.2 + q.1 * p.2) (p.2 * q.2), (p.2 * q.2) / Nat.gcd (p.1 * q.2 + q.1 * p.2) (p.2 * q.2))
def frSum (l : List (Nat × Nat)) : Nat × Nat := l.foldl frAdd (0, 1)
/-- A reduced fraction that is v of M. -/
structure FrIs (M v : Nat) (p : Nat × Nat) : Prop where
  pos : 0 < p.2
  red : Nat.gcd p.1 p.2 = 1
  val : p.1 * M = v * p.2
theorem frAdd_is {M v w : Nat} {p q : Nat × Nat} (hp : FrIs M v p) (hq : FrIs M w q) : FrIs M (v + w) (frAdd p q) := by
  obtain ⟨n, hn⟩ : ∃ n, n = p.1 * q.2 + q.1 * p.2 := ⟨_, rfl⟩
  obtain ⟨d, hd⟩ : ∃ d, d = p.2 * q.2 := ⟨_, rfl⟩
  have hd0 : 0 < d := hd ▸ Nat.mul_pos hp.pos hq.pos
  have e : frAdd p q = (n / Nat.gcd n d, d / Nat.gcd n d) := by rw [frAdd, ← hn, ← hd]
  rw [e]
  have hg : 0 < Nat.gcd n d := Nat.gcd_pos_of_pos_right _ hd0
  obtain ⟨n', hn'⟩ := Nat.gcd_dvd_left n d
  obtain ⟨d', hd'⟩ := Nat.gcd_dvd_right n d
  have h1 : n / Nat.gcd n d = n' := Nat.div_eq_of_eq_mul_right hg hn'
  have h2 : d / Nat.gcd n d = d' := Nat.div_eq_of_eq_mul_right hg hd'
  have h3 : Nat.gcd n' d' = 1 := by
    rw [← h1, ← h2]
    exact Nat.gcd_div_gcd_div_gcd_of_pos_right hd0
  rw [h1, h2]
  refine ⟨?_, h3, ?_⟩
  · rcases Nat.eq_zero_or_pos d' with h | h
    · rw [h, Nat.mul_zero] at hd'
      omega
    · exact h
  · apply Nat.eq_of_mul_eq_mul_left hg
    show Nat.gcd n d * (n' * M) = Nat.gcd n d * ((v + w) * d')
    rw [← Nat.mul_assoc, ← hn', Nat.mul_left_comm, ← hd', hn, hd, Nat.add_mul, Nat.add_mul]
    have e1 : p.1 * q.2 * M = v * (p.2 * q.2) := by rw [Nat.mul_right_comm, hp.val, Nat.mul_assoc]
    have e2 : q.1 * p.2 * M = w * (p.2 * q.2) := by rw [Nat.mul_right_comm, hq.val, Nat.mul_assoc, Nat.mul_comm q.2]
    rw [e1, e2]
theorem frIs_zero (M : Nat) : FrIs M 0 (0, 1) := ⟨by decide, by decide, by simp⟩
theorem frIs_one (M : Nat) : FrIs M M (1, 1) := ⟨by decide, by decide, by simp⟩
theorem frIs_uniq {M v : Nat} (hM : 0 < M) {p q : Nat × Nat} (hp : FrIs M v p) (hq : FrIs M v q) : p = q := by
  have h1 : p.1 * q.2 = q.1 * p.2 := by
    apply Nat.eq_of_mul_eq_mul_right hM
    rw [Nat.mul_right_comm, hp.val, Nat.mul_right_comm q.1, hq.val, Nat.mul_right_comm]
  have h2 : p.2 ∣ q.2 := (Nat.Coprime.symm hp.red : Nat.Coprime p.2 p.1).dvd_of_dvd_mul_left (h1 ▸ Nat.dvd_mul_left _ _)
  have h3 : q.2 ∣ p.2 := (Nat.Coprime.symm hq.red : Nat.Coprime q.2 q.1).dvd_of_dvd_mul_left (h1 ▸ Nat.dvd_mul_left _ _)
  have h4 := Nat.dvd_antisymm h2 h3
  rw [h4] at h1
  exact Prod.ext (Nat.eq_of_mul_eq_mul_right hq.pos h1) h4
theorem frIs_val {M v w : Nat} {p : Nat × Nat} (hp : FrIs M v p) (hq : FrIs M w p) : v = w :=
  Nat.eq_of_mul_eq_mul_right hp.pos (hp.val.symm.trans hq.val)
/-- What an element may be. -/
structure FrOk (p : Nat × Nat) : Prop where
  pos : 1 ≤ p.2
  le : p.2 ≤ 60
  num : p.1 ≤ p.2
  red : Nat.gcd p.1 p.2 = 1
/-- What an element is of M. -/
def frV (M : Nat) (p : Nat × Nat) : Nat := p.1 * (M / p.2)
theorem frV_is {M : Nat} (hM : ∀ d, 1 ≤ d → d ≤ 60 → d ∣ M) {p : Nat × Nat} (h : FrOk p) : FrIs M (frV M p) p :=
  ⟨h.pos, h.red, by rw [frV, Nat.mul_assoc, Nat.div_mul_cancel (hM _ h.pos h.le)]⟩
theorem frSum_go {M : Nat} (hM : ∀ d, 1 ≤ d → d ≤ 60 → d ∣ M) : ∀ (l : List (Nat × Nat)) (p : Nat × Nat) (v : Nat), FrIs M v p → (∀ q ∈ l, FrOk q) → FrIs M (v + (l.map (frV M)).sum) (l.foldl frAdd p)
  | [], p, v, hp, _ => by simpa using hp
  | q :: l, p, v, hp, hl => by
    have := frSum_go hM l _ _ (frAdd_is hp (frV_is hM (hl q (by simp)))) fun x hx => hl x (by simp [hx])
    rw [List.map_cons, List.sum_cons, ← Nat.add_assoc]
    exact this
theorem frSum_is {M : Nat} (hM : ∀ d, 1 ≤ d → d ≤ 60 → d ∣ M) {l : List (Nat × Nat)} (hl : ∀ q ∈ l, FrOk q) : FrIs M (l.map (frV M)).sum (frSum l) := by
  have := frSum_go hM l (0, 1) 0 (frIs_zero M) hl
  rw [Nat.zero_add] at this
  exact this
theorem frSum_eq {M : Nat} (h0 : 0 < M) (hM : ∀ d, 1 ≤ d → d ≤ 60 → d ∣ M) {l m : List (Nat × Nat)} (hl : ∀ q ∈ l, FrOk q) (hm : ∀ q ∈ m, FrOk q) : frSum l = frSum m ↔ (l.map (frV M)).sum = (m.map (frV M)).sum := by
  have h1 := frSum_is hM hl
  have h2 := frSum_is hM hm
  constructor
  · intro e
    rw [e] at h1
    exact frIs_val h1 h2
  · intro e
    rw [e] at h1
    exact frIs_uniq h0 h1 h2
theorem frSum_one {M : Nat} (h0 : 0 < M) (hM : ∀ d, 1 ≤ d → d ≤ 60 → d ∣ M) {l : List (Nat × Nat)} (hl : ∀ q ∈ l, FrOk q) : frSum l = (1, 1) ↔ (l.map (frV M)).sum = M := by
  have h1 := frSum_is hM hl
  constructor
  · intro e
    rw [e] at h1
    exact frIs_val h1 (frIs_one M)
  · intro e
    rw [e] at h1
    exact frIs_uniq h0 h1 (frIs_one M)
/-- How great a sum gets. -/
structure FrB (k : Nat) (p : Nat × Nat) : Prop where
  pos : 0 < p.2
  den : p.2 ≤ 60 ^ k
  num : p.1 ≤ k * p.2
theorem frB_zero : FrB 0 (0, 1) := ⟨by decide, by decide, by decide⟩
theorem frB_add {k : Nat} {p q : Nat × Nat} (hp : FrB k p) (hq : FrOk q) : FrB (k + 1) (frAdd p q) := by
  obtain ⟨n, hn⟩ : ∃ n, n = p.1 * q.2 + q.1 * p.2 := ⟨_, rfl⟩
  obtain ⟨d, hd⟩ : ∃ d, d = p.2 * q.2 := ⟨_, rfl⟩
  have hd0 : 0 < d := hd ▸ Nat.mul_pos hp.pos hq.pos
  have e : frAdd p q = (n / Nat.gcd n d, d / Nat.gcd n d) := by rw [frAdd, ← hn, ← hd]
  rw [e]
  have hg : 0 < Nat.gcd n d := Nat.gcd_pos_of_pos_right _ hd0
  obtain ⟨n', hn'⟩ := Nat.gcd_dvd_left n d
  obtain ⟨d', hd'⟩ := Nat.gcd_dvd_right n d
  have h1 : n / Nat.gcd n d = n' := Nat.div_eq_of_eq_mul_right hg hn'
  have h2 : d / Nat.gcd n d = d' := Nat.div_eq_of_eq_mul_right hg hd'
  have hle : n ≤ (k + 1) * d := by
    rw [hn, hd, Nat.add_mul, Nat.one_mul]
    have a1 : p.1 * q.2 ≤ k * (p.2 * q.2) := by rw [← Nat.mul_assoc]; exact Nat.mul_le_mul_right _ hp.num
    have a2 : q.1 * p.2 ≤ p.2 * q.2 := by rw [Nat.mul_comm]; exact Nat.mul_le_mul_left _ hq.num
    omega
  rw [h1, h2]
  refine ⟨?_, ?_, ?_⟩
  · rcases Nat.eq_zero_or_pos d' with h | h
    · rw [h, Nat.mul_zero] at hd'
      omega
    · exact h
  · have : d' ≤ d := by rw [hd']; exact Nat.le_mul_of_pos_left _ hg
    refine Nat.le_trans this ?_
    rw [hd, Nat.pow_succ]
    exact Nat.mul_le_mul hp.den hq.le
  · apply Nat.le_of_mul_le_mul_left _ hg
    rw [← hn', Nat.mul_left_comm, ← hd']
    exact hle
theorem frB_sum : ∀ (l : List (Nat × Nat)) (k : Nat) (p : Nat × Nat), FrB k p → (∀ q ∈ l, FrOk q) → FrB (k + l.length) (l.foldl frAdd p)
  | [], k, p, hp, _ => hp
  | q :: l, k, p, hp, hl => by
    have := frB_sum l _ _ (frB_add hp (hl q (by simp))) fun x hx => hl x (by simp [hx])
    rw [List.length_cons, Nat.add_comm l.length, ← Nat.add_assoc]
    exact this
/-- A common multiple. -/
theorem com_mul : ∃ M : Nat, 0 < M ∧ ∀ d, 1 ≤ d → d ≤ 60 → d ∣ M := by
  have h : ∀ m : Nat, ∃ M : Nat, 0 < M ∧ ∀ d, 1 ≤ d → d ≤ m → d ∣ M := by
    intro m
    induction m with
    | zero => exact ⟨1, by decide, fun d h1 h2 => by omega⟩
    | succ m ih =>
      obtain ⟨M, h0, hM⟩ := ih
      refine ⟨M * (m + 1), Nat.mul_pos h0 (by omega), fun d h1 h2 => ?_⟩
      rcases Nat.lt_or_ge m d with h | h
      · have : d = m + 1 := by omega
        rw [this]
        exact Nat.dvd_mul_left _ _
      · exact Nat.dvd_trans (hM d h1 h) (Nat.dvd_mul_right _ _)
  exact h 60
end Go.Proofs.YtnikonhkbldnnaaGreatDoor
