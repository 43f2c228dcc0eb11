import Derived.Test.YtnikonhkbldnnaaGreatDoorLBB
import Derived.Test.YtnikonhkbldnnaaGreatDoorLW15
import Derived.Test.YtnikonhkbldnnaaGreatDoorPSG
/- LB23: gcd, plus. -/
set_option linter.unusedVariables false
set_option linter.unusedSimpArgs false
set_option maxRecDepth 20000
namespace Go.Proofs.YtnikonhkbldnnaaGreatDoor
open Go Go.PS
attribute [-simp] isKeyK List.map_take
theorem gcd_spec (a b : Nat) : PCall Tryz.prog 75 [eI a, eI b] (pI (Nat.gcd a b : Nat)) [] := by
  refine pcall_wp _ Tryz.func75 rfl (by kernel_rfl) rfl ?_
  simp -dsimp
  refine wk_loop (fun p : Kind × Kind × Nat × Nat => ⟨[(0, .t p.1 (eI p.2.2.1)), (1, .t p.2.1 (eI p.2.2.2))], []⟩) (fun p => Nat.gcd p.2.2.1 p.2.2.2 = Nat.gcd a b) (fun p => p.2.2.2) (.ro, .ro, a, b)
    (le_of (by simp) (by simp)) rfl fun ⟨k0, k1, x, y⟩ hg => ?_
  dsimp only at hg
  by_cases hy : y = 0
  · have hy' : (y : Int) = 0 := by omega
    simp -dsimp [hy']
    rw [hy, Nat.gcd_zero_right] at hg
    refine retP_c ?_
    simp -dsimp [hg]
  · have hy' : ((y : Int) == 0) = false := by
      rw [beq_eq_false_iff_ne]
      omega
    have hy2 : ¬ (y : Int) = 0 := by omega
    have hy3 : ((y : Int) != 0) = true := by simp [hy]
    have ht : ((x : Int).tmod (y : Int)) = ((x % y : Nat) : Int) := rfl
    obtain ⟨z, hz⟩ : ∃ z, z = x % y := ⟨_, rfl⟩
    rw [← hz] at ht
    simp -dsimp [hy', hy3, hy2]
    refine wk_draw 5 [] mixed (by kernel_rfl) ?_
    simp -dsimp [hy', hy3, hy2, hy, ht]
    refine LoopP_next (k1, .fz, y, z) (le_of (by simp) (by simp)) ?_ ?_
    · simp only
      rw [← hg, hz, Nat.gcd_comm, ← Nat.gcd_rec, Nat.gcd_comm]
    · simp only
      rw [hz]
      exact Nat.mod_lt _ (by omega)
def eFr (p : Nat × Nat) : TL := .agg [eI p.1, eI p.2]
theorem plus_spec (p q : Nat × Nat) (hp : 0 < p.2) (hq : 0 < q.2) (h1 : p.1 * q.2 + q.1 * p.2 < 2 ^ 62) (h2 : p.2 * q.2 < 2 ^ 62) : PCall Tryz.prog 104 [eFr p, eFr q] (.t .fz (eFr (frAdd p q))) [] := by
  obtain ⟨a, b⟩ := p
  obtain ⟨c, d⟩ := q
  dsimp only at hp hq h1 h2
  obtain ⟨n, hn⟩ : ∃ n, n = a * d + c * b := ⟨_, rfl⟩
  obtain ⟨m, hm⟩ : ∃ m, m = b * d := ⟨_, rfl⟩
  have hm0 : 0 < m := hm ▸ Nat.mul_pos hp hq
  have hg := gcd_spec n m
  have hgp : 0 < Nat.gcd n m := Nat.gcd_pos_of_pos_right _ hm0
  have e : frAdd (a, b) (c, d) = (n / Nat.gcd n m, m / Nat.gcd n m) := by rw [frAdd, ← hn, ← hm]
  rw [← hn] at h1
  rw [← hm] at h2
  have e1 : (a : Int) * d = ((a * d : Nat) : Int) := (Int.natCast_mul _ _).symm
  have e2 : (c : Int) * b = ((c * b : Nat) : Int) := (Int.natCast_mul _ _).symm
  have e3 : (b : Int) * d = ((b * d : Nat) : Int) := (Int.natCast_mul _ _).symm
  rw [e]
  have w1 := wr (n := (a : Int) * d) (by rw [e1]; omega) (by rw [e1]; omega)
  have w2 := wr (n := (c : Int) * b) (by rw [e2]; omega) (by rw [e2]; omega)
  have w3 := wr (n := (b : Int) * d) (by rw [e3]; omega) (by rw [e3]; omega)
  have e4 : (a : Int) * d + (c : Int) * b = (n : Int) := by rw [e1, e2, hn, Int.natCast_add]
  have e5 : (b : Int) * d = (m : Int) := by rw [e3, hm]
  have w4 := wr (n := (n : Int)) (by omega) (by omega)
  have w5 := wr (n := (m : Int)) (by omega) (by omega)
  generalize Nat.gcd n m = g at *
  have d1 : (n : Int).tdiv (g : Int) = ((n / g : Nat) : Int) := rfl
  have d2 : (m : Int).tdiv (g : Int) = ((m / g : Nat) : Int) := rfl
  have l1 : n / g ≤ n := Nat.div_le_self _ _
  have l2 : m / g ≤ m := Nat.div_le_self _ _
  generalize n / g = n' at *
  generalize m / g = m' at *
  have w6 := wr (n := (n' : Int)) (by omega) (by omega)
  have w7 := wr (n := (m' : Int)) (by omega) (by omega)
  have hg0 : ¬ (g : Int) = 0 := by omega
  have hg1 : ¬ g = 0 := by omega
  refine pcall_wp _ Tryz.func104 rfl (by kernel_rfl) rfl ?_
  unfold eFr
  simp -dsimp
  refine wk_draw 17 [] mixed (by kernel_rfl) ?_
  simp -dsimp [w1, w2, w3, e4, e5, w4, w5]
  first
    | refine CallG.by (hg) ?_
    | refine CallGE.by (hg) ?_
    | refine CallGB.by (hg) ?_
  simp -dsimp
  refine wk_draw 6 [] mixed (by kernel_rfl) ?_
  simp -dsimp [hg0, hg1, d1, d2, w6, w7]
  refine retP_c ?_
  simp -dsimp
theorem frB_small {i : Nat} {p : Nat × Nat} (h : FrB i p) (hi : i ≤ 5) : p.1 ≤ 3888000000 ∧ p.2 ≤ 777600000 := by
  have h1 : (60 : Nat) ^ i ≤ 60 ^ 5 := Nat.pow_le_pow_right (by decide) hi
  have h2 := h.den
  have h3 := h.num
  have h4 : i * p.2 ≤ 5 * p.2 := Nat.mul_le_mul_right _ hi
  have h5 : (60 : Nat) ^ 5 = 777600000 := by decide
  omega
theorem plus_ok {i : Nat} {p q : Nat × Nat} (h : FrB i p) (hi : i ≤ 5) (hq : FrOk q) : p.1 * q.2 + q.1 * p.2 < 2 ^ 62 ∧ p.2 * q.2 < 2 ^ 62 := by
  obtain ⟨h1, h2⟩ := frB_small h hi
  have h3 := hq.le
  have h4 := hq.num
  have a1 : p.1 * q.2 ≤ 3888000000 * 60 := Nat.mul_le_mul h1 h3
  have a2 : q.1 * p.2 ≤ 60 * 777600000 := Nat.mul_le_mul (by omega) h2
  have a3 : p.2 * q.2 ≤ 777600000 * 60 := Nat.mul_le_mul h2 h3
  omega
@[simp] theorem ev_none (s : StL) : ev s (.global 0) = .t .ro (.rp [eI 0, eI 1] 0) := rfl
@[simp] theorem ev_one (s : StL) : ev s (.global 1) = .t .ro (.rp [eI 1, eI 1] 0) := rfl
theorem nd_len {n s : Nat} (hn : n ≤ 12) (hs : s < 2 ^ n) : (ndN s).length ≤ n := by
  rw [← nd_filter hn hs]
  exact Nat.le_trans (List.length_filter_le _ _) (by simp)
theorem fr_free {w : World} {S S' : Nat → Prop} {v : Value} (p : Nat × Nat) (h : TRep w S (eFr p) v) : TRep w S' (eFr p) v := by
  cases h with
  | agg vs hsz hx =>
    refine .agg vs hsz fun j x hj => ?_
    have h1 := hx j x hj
    obtain ⟨n, rfl⟩ : ∃ n, x = eI n := by
      rcases j with _ | _ | j
      · exact ⟨_, (Option.some.inj hj).symm⟩
      · exact ⟨_, (Option.some.inj hj).symm⟩
      · simp at hj
    generalize vs.getD j Go.undef = z at h1
    cases h1
    exact .v _
theorem sum_spec (s n : Nat) (hn : n ≤ 6) (hs : s < 2 ^ n) (f : Nat) (caps : List TL) (g : Nat → Nat × Nat) (hg : ∀ k ∈ ndN s, FrOk (g k)) (hf : ∀ k ∈ ndN s, PCall Tryz.prog f (eI k :: caps) (.t .fz (eFr (g k))) []) :
    PCall Tryz.prog 77 [eI s, .clo f caps] (.t .fz (eFr (frSum ((ndN s).map g)))) [] := by
  have h64 : 2 ^ n ≤ 2 ^ 6 := Nat.pow_le_pow_right (by decide) hn
  have hnd := nodes_spec s (by omega)
  have hl := nd_len (by omega) hs
  generalize ndN s = L at *
  refine pcall_weak (k := .ro) ?_ fun _ _ _ _ h => fr_free _ h
  refine pcall_wpT Tryz.func77 rfl (by kernel_rfl) ?_
  simp -dsimp
  first
    | refine CallG.by (hnd) ?_
    | refine CallGE.by (hnd) ?_
    | refine CallGB.by (hnd) ?_
  simp -dsimp
  refine wk_loop (fun q : Kind × Nat × Nat × Nat => ⟨[(12, pI q.2.1), (11, pI L.length), (10, .t .fz (eNs L)), (4, .ptr 4 0), (5, .ptr 5 0), (1, .t .ro (.clo f caps))],
      [(4, .blk 75 [.t .fz (eI 0), .t .fz (eI 0)]), (5, .blk 75 [.t q.1 (eI q.2.2.1), .t q.1 (eI q.2.2.2)])]⟩)
    (fun q => q.2.1 ≤ L.length ∧ FrB q.2.1 q.2.2 ∧ q.2.2 = frSum ((L.take q.2.1).map g)) (fun q => L.length - q.2.1) (.ro, 0, 0, 1)
    (le_of (by simp) (by simp)) ⟨Nat.zero_le _, frB_zero, rfl⟩ fun ⟨kk, i, p⟩ ⟨hi, hb, hp⟩ => ?_
  dsimp only at hi hb hp
  simp -dsimp
  refine condX_dec (fun h => ?_) (fun h => ?_)
  · have h' : i < L.length := by omega
    have q := iL_at h'
    have q' : ∀ hh : i < (iL L).length, (iL L)[i]'hh = ((L.getD i 0 : Nat) : Int) := fun hh => by
      rw [List.getElem?_eq_getElem hh] at q
      exact Option.some.inj q
    have hm : L.getD i 0 ∈ L := by
      rw [List.getD_eq_getElem?_getD, List.getElem?_eq_getElem h']
      exact List.getElem_mem _
    have hok := hg _ hm
    have hpl := plus_ok hb (by omega) hok
    have hps := plus_spec p (g (L.getD i 0)) hb.pos hok.pos hpl.1 hpl.2
    have hfc := hf _ hm
    have hb' := frB_add hb hok
    have hp' : frAdd p (g (L.getD i 0)) = frSum ((L.take (i + 1)).map g) := by
      rw [take_at h', List.map_append, frSum, List.foldl_append, ← frSum, ← hp]
      rfl
    have hw := wr (n := (i : Int) + 1) (by omega) (by omega)
    generalize frAdd p (g (L.getD i 0)) = r at *
    generalize g (L.getD i 0) = y at *
    generalize L.getD i 0 = x at *
    unfold eFr at hps hfc
    simp -dsimp [h, q, q']
    refine wk_draw 4 [3] mixed (by kernel_rfl) ?_
    simp -dsimp [h, q, q']
    first
      | refine CallG.by (hfc) ?_
      | refine CallGE.by (hfc) ?_
      | refine CallGB.by (hfc) ?_
    simp -dsimp
    first
      | refine CallG.by (hps) ?_
      | refine CallGE.by (hps) ?_
      | refine CallGB.by (hps) ?_
    simp -dsimp [hw]
    refine LoopP_next (.fz, i + 1, r) (le_of (by simp) (by simp)) ⟨h', hb', hp'⟩ ?_
    simp only
    omega
  · have : i = L.length := by omega
    rw [this, List.take_length] at hp
    unfold eFr
    simp -dsimp
    refine retT_c ?_
    simp -dsimp [hp]
end Go.Proofs.YtnikonhkbldnnaaGreatDoor
