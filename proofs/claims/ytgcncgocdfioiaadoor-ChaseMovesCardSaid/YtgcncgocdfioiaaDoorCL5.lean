import Derived.Test.YtgcncgocdfioiaaDoorCL4
import Derived.Test.YtgcncgocdfioiaaDoorCR8
/- CL5: the laws of ChaseRounds, ChaseChecks, ChaseSafe. -/
set_option linter.unusedVariables false
set_option linter.unusedSimpArgs false
set_option maxRecDepth 20000
namespace Go.Proofs.YtgcncgocdfioiaaDoor
open Go Go.PS
attribute [-simp] isKeyK List.map_take
theorem okG_take (g : List Int) (k : Int) : okG (g.take 13) k = okG g k := by rw [okG, okG, (take_valid g).1]
/-- Which numbers of sweeps there are. -/
theorem k_cases (k : Int) : (((k == 1) || (k == 2)) = true ∧ ¬ k < 1 ∧ ¬ 2 < k) ∨ (((k == 1) || (k == 2)) = false ∧ (k < 1 ∨ (¬ k < 1 ∧ 2 < k))) := by
  by_cases h : k < 1
  · right
    refine ⟨?_, .inl h⟩
    rw [Bool.eq_false_iff]
    simp
    omega
  · by_cases h2 : 2 < k
    · right
      refine ⟨?_, .inr ⟨h, h2⟩⟩
      rw [Bool.eq_false_iff]
      simp
      omega
    · left
      refine ⟨?_, h, h2⟩
      simp
      omega
theorem rounds_true (g : List Int) (k : Int) : PCall Tryd.prog 4 [eIs g, eI k] (pB true) [] := by
  refine pcall_wp _ Tryd.func4 rfl (by kernel_rfl) rfl ?_
  have hf := few_spec g
  have ha := awake_spec
  obtain ⟨t1, t2⟩ := take_valid g
  have hro := rounds_spec (g.take 13) k
  have hst := startP_spec (g.take 13) k
  have hvs := valid_spec g
  have hok := okG_take g k
  have hokd : okG g k = (validG g && ((k == 1) || (k == 2))) := rfl
  cases ho : okG g k with
  | false =>
    rw [ho] at hok hokd
    rw [rounds_bad hok] at hro
    rw [startX, hok, if_neg (by simp)] at hst
    generalize g.take 13 = h at *
    cases hv : validG g with
    | false =>
      rw [hv] at hvs
      simp -dsimp
      first
        | refine CallG.by (hf) ?_
        | refine CallGE.by (hf) ?_
        | refine CallGB.by (hf) ?_
      simp -dsimp
      first
        | refine CallG.by (hro) ?_
        | refine CallGE.by (hro) ?_
        | refine CallGB.by (hro) ?_
      simp -dsimp
      first
        | refine CallG.by (hf) ?_
        | refine CallGE.by (hf) ?_
        | refine CallGB.by (hf) ?_
      simp -dsimp
      first
        | refine CallG.by (hst) ?_
        | refine CallGE.by (hst) ?_
        | refine CallGB.by (hst) ?_
      simp -dsimp
      first
        | refine CallG.by (hvs) ?_
        | refine CallGE.by (hvs) ?_
        | refine CallGB.by (hvs) ?_
      simp -dsimp
      first
        | refine CallG.by (ha) ?_
        | refine CallGE.by (ha) ?_
        | refine CallGB.by (ha) ?_
      simp -dsimp
      refine retP_c ?_
      simp -dsimp
    | true =>
      rw [hv, Bool.true_and] at hokd
      rw [hv] at hvs
      rcases k_cases k with ⟨h1, _⟩ | ⟨_, h2 | ⟨h2, h3⟩⟩
      · rw [h1] at hokd
        cases hokd
      · simp -dsimp
        first
          | refine CallG.by (hf) ?_
          | refine CallGE.by (hf) ?_
          | refine CallGB.by (hf) ?_
        simp -dsimp
        first
          | refine CallG.by (hro) ?_
          | refine CallGE.by (hro) ?_
          | refine CallGB.by (hro) ?_
        simp -dsimp
        first
          | refine CallG.by (hf) ?_
          | refine CallGE.by (hf) ?_
          | refine CallGB.by (hf) ?_
        simp -dsimp
        first
          | refine CallG.by (hst) ?_
          | refine CallGE.by (hst) ?_
          | refine CallGB.by (hst) ?_
        simp -dsimp
        first
          | refine CallG.by (hvs) ?_
          | refine CallGE.by (hvs) ?_
          | refine CallGB.by (hvs) ?_
        simp -dsimp [h2]
        first
          | refine CallG.by (ha) ?_
          | refine CallGE.by (ha) ?_
          | refine CallGB.by (ha) ?_
        simp -dsimp
        refine retP_c ?_
        simp -dsimp
      · simp -dsimp
        first
          | refine CallG.by (hf) ?_
          | refine CallGE.by (hf) ?_
          | refine CallGB.by (hf) ?_
        simp -dsimp
        first
          | refine CallG.by (hro) ?_
          | refine CallGE.by (hro) ?_
          | refine CallGB.by (hro) ?_
        simp -dsimp
        first
          | refine CallG.by (hf) ?_
          | refine CallGE.by (hf) ?_
          | refine CallGB.by (hf) ?_
        simp -dsimp
        first
          | refine CallG.by (hst) ?_
          | refine CallGE.by (hst) ?_
          | refine CallGB.by (hst) ?_
        simp -dsimp
        first
          | refine CallG.by (hvs) ?_
          | refine CallGE.by (hvs) ?_
          | refine CallGB.by (hvs) ?_
        simp -dsimp [h2, h3]
        first
          | refine CallG.by (ha) ?_
          | refine CallGE.by (ha) ?_
          | refine CallGB.by (ha) ?_
        simp -dsimp
        refine retP_c ?_
        simp -dsimp
  | true =>
    have hv := ok_valid ho
    rw [t2 hv] at hf hro hst
    rw [rounds_ok ho] at hro
    rw [startX, ho, if_pos rfl] at hst
    rw [hv] at hvs
    rw [ho, hv, Bool.true_and] at hokd
    have hrr := rrounds_spec g (valid_isg hv) k (by simpa using hokd.symm)
    rw [rroundsF] at hrr
    rcases k_cases k with ⟨_, h2, h3⟩ | ⟨h1, _⟩
    · generalize strF g k = q at *
      obtain ⟨⟨q1, q2⟩, q3⟩ := q
      simp only at hrr hst hro
      by_cases hn : q3 < 0
      · rw [if_pos hn] at hrr hst hro
        simp -dsimp
        first
          | refine CallG.by (hf) ?_
          | refine CallGE.by (hf) ?_
          | refine CallGB.by (hf) ?_
        simp -dsimp
        first
          | refine CallG.by (hro) ?_
          | refine CallGE.by (hro) ?_
          | refine CallGB.by (hro) ?_
        simp -dsimp
        first
          | refine CallG.by (hf) ?_
          | refine CallGE.by (hf) ?_
          | refine CallGB.by (hf) ?_
        simp -dsimp
        first
          | refine CallG.by (hst) ?_
          | refine CallGE.by (hst) ?_
          | refine CallGB.by (hst) ?_
        simp -dsimp
        first
          | refine CallG.by (hvs) ?_
          | refine CallGE.by (hvs) ?_
          | refine CallGB.by (hvs) ?_
        simp -dsimp [h2, h3]
        first
          | refine CallG.by (hrr) ?_
          | refine CallGE.by (hrr) ?_
          | refine CallGB.by (hrr) ?_
        simp -dsimp
        first
          | refine CallG.by (ha) ?_
          | refine CallGE.by (ha) ?_
          | refine CallGB.by (ha) ?_
        simp -dsimp
        refine retP_c ?_
        simp -dsimp
      · rw [if_neg hn] at hrr hst hro
        simp -dsimp
        first
          | refine CallG.by (hf) ?_
          | refine CallGE.by (hf) ?_
          | refine CallGB.by (hf) ?_
        simp -dsimp
        first
          | refine CallG.by (hro) ?_
          | refine CallGE.by (hro) ?_
          | refine CallGB.by (hro) ?_
        simp -dsimp
        first
          | refine CallG.by (hf) ?_
          | refine CallGE.by (hf) ?_
          | refine CallGB.by (hf) ?_
        simp -dsimp
        first
          | refine CallG.by (hst) ?_
          | refine CallGE.by (hst) ?_
          | refine CallGB.by (hst) ?_
        simp -dsimp
        first
          | refine CallG.by (hvs) ?_
          | refine CallGE.by (hvs) ?_
          | refine CallGB.by (hvs) ?_
        simp -dsimp [h2, h3]
        first
          | refine CallG.by (hrr) ?_
          | refine CallGE.by (hrr) ?_
          | refine CallGB.by (hrr) ?_
        simp -dsimp
        first
          | refine CallG.by (ha) ?_
          | refine CallGE.by (ha) ?_
          | refine CallGB.by (ha) ?_
        simp -dsimp
        refine retP_c ?_
        simp -dsimp
    · rw [h1] at hokd
      cases hokd
theorem checks_true (g : List Int) (k : Int) (l : List P3) : PCall Tryd.prog 10 [eIs g, eI k, eP3 l] (pB true) [] := by
  refine pcall_sl 2 rfl call10 fun hlen => ?_
  simp only [List.length_map] at hlen
  refine pcall_wp _ Tryd.func10 rfl (by kernel_rfl) rfl ?_
  have hf := few_spec g
  have ha := awake_spec
  have hpl := places_spec l
  obtain ⟨t1, t2⟩ := take_valid g
  have hck := checkSafe_spec (g.take 13) k (l.take 700)
  have hvs := valid_spec g
  have hok := okG_take g k
  have hokd : okG g k = (validG g && ((k == 1) || (k == 2))) := rfl
  cases ho : okG g k with
  | false =>
    rw [ho] at hok hokd
    rw [ckF, hok, if_neg (by simp)] at hck
    generalize g.take 13 = h at *
    generalize l.take 700 = l7 at *
    cases hv : validG g with
    | false =>
      rw [hv] at hvs
      simp -dsimp
      first
        | refine CallG.by (hf) ?_
        | refine CallGE.by (hf) ?_
        | refine CallGB.by (hf) ?_
      simp -dsimp
      first
        | refine CallG.by (hpl) ?_
        | refine CallGE.by (hpl) ?_
        | refine CallGB.by (hpl) ?_
      simp -dsimp
      first
        | refine CallG.by (hck) ?_
        | refine CallGE.by (hck) ?_
        | refine CallGB.by (hck) ?_
      simp -dsimp
      first
        | refine CallG.by (hvs) ?_
        | refine CallGE.by (hvs) ?_
        | refine CallGB.by (hvs) ?_
      simp -dsimp
      first
        | refine CallG.by (ha) ?_
        | refine CallGE.by (ha) ?_
        | refine CallGB.by (ha) ?_
      simp -dsimp
      refine retP_c ?_
      simp -dsimp
    | true =>
      rw [hv, Bool.true_and] at hokd
      rw [hv] at hvs
      rcases k_cases k with ⟨h1, _⟩ | ⟨_, h2 | ⟨h2, h3⟩⟩
      · rw [h1] at hokd
        cases hokd
      · simp -dsimp
        first
          | refine CallG.by (hf) ?_
          | refine CallGE.by (hf) ?_
          | refine CallGB.by (hf) ?_
        simp -dsimp
        first
          | refine CallG.by (hpl) ?_
          | refine CallGE.by (hpl) ?_
          | refine CallGB.by (hpl) ?_
        simp -dsimp
        first
          | refine CallG.by (hck) ?_
          | refine CallGE.by (hck) ?_
          | refine CallGB.by (hck) ?_
        simp -dsimp
        first
          | refine CallG.by (hvs) ?_
          | refine CallGE.by (hvs) ?_
          | refine CallGB.by (hvs) ?_
        simp -dsimp [h2]
        first
          | refine CallG.by (ha) ?_
          | refine CallGE.by (ha) ?_
          | refine CallGB.by (ha) ?_
        simp -dsimp
        refine retP_c ?_
        simp -dsimp
      · simp -dsimp
        first
          | refine CallG.by (hf) ?_
          | refine CallGE.by (hf) ?_
          | refine CallGB.by (hf) ?_
        simp -dsimp
        first
          | refine CallG.by (hpl) ?_
          | refine CallGE.by (hpl) ?_
          | refine CallGB.by (hpl) ?_
        simp -dsimp
        first
          | refine CallG.by (hck) ?_
          | refine CallGE.by (hck) ?_
          | refine CallGB.by (hck) ?_
        simp -dsimp
        first
          | refine CallG.by (hvs) ?_
          | refine CallGE.by (hvs) ?_
          | refine CallGB.by (hvs) ?_
        simp -dsimp [h2, h3]
        first
          | refine CallG.by (ha) ?_
          | refine CallGE.by (ha) ?_
          | refine CallGB.by (ha) ?_
        simp -dsimp
        refine retP_c ?_
        simp -dsimp
  | true =>
    have hv := ok_valid ho
    rw [t2 hv] at hf hck
    rw [ckF, ho, if_pos rfl] at hck
    rw [hv] at hvs
    rw [ho, hv, Bool.true_and] at hokd
    have hri := risSafe_spec g (valid_isg hv) k (by simpa using hokd.symm) (l.take 700)
    rcases k_cases k with ⟨_, h2, h3⟩ | ⟨h1, _⟩
    · have hm : (if 700 < (l.length : Int) then (700 : Int) else (l.length : Int)) = ((min l.length 700 : Nat) : Int) := by
        split <;> omega
      have m1 : ((min l.length 700 : Nat) : Int) ≤ l.length := by omega
      have m2 : (0 : Int) ≤ ((min l.length 700 : Nat) : Int) := by omega
      have mt : List.take (min l.length 700) (List.map cP3 l) = List.map cP3 (l.take 700) := by
        rw [← List.map_take]
        congr 1
        rcases Nat.le_total l.length 700 with h | h
        · rw [Nat.min_eq_left h, List.take_of_length_le (Nat.le_refl _), List.take_of_length_le h]
        · rw [Nat.min_eq_right h]
      generalize min l.length 700 = m at *
      generalize l.take 700 = l7 at *
      generalize ckB (townOf g) k l7 = b at *
      simp -dsimp
      first
        | refine CallG.by (hf) ?_
        | refine CallGE.by (hf) ?_
        | refine CallGB.by (hf) ?_
      simp -dsimp
      first
        | refine CallG.by (hpl) ?_
        | refine CallGE.by (hpl) ?_
        | refine CallGB.by (hpl) ?_
      simp -dsimp
      first
        | refine CallG.by (hck) ?_
        | refine CallGE.by (hck) ?_
        | refine CallGB.by (hck) ?_
      simp -dsimp
      first
        | refine CallG.by (hvs) ?_
        | refine CallGE.by (hvs) ?_
        | refine CallGB.by (hvs) ?_
      simp -dsimp [h2, h3, hm, m1, m2, mt]
      first
        | refine CallG.by (hri) ?_
        | refine CallGE.by (hri) ?_
        | refine CallGB.by (hri) ?_
      simp -dsimp
      first
        | refine CallG.by (ha) ?_
        | refine CallGE.by (ha) ?_
        | refine CallGB.by (ha) ?_
      simp -dsimp
      refine retP_c ?_
      simp -dsimp
    · rw [h1] at hokd
      cases hokd
theorem own_spec (l : List P3) (h7 : l.length ≤ 700) : PCall Tryd.prog 26 [eP3 l] (.t .fz (eP3 l)) [] := by
  refine pcall_wp _ Tryd.func26 rfl (by kernel_rfl) rfl ?_
  simp -dsimp
  refine lg_adoptT 3 3 48 3 (by simp; rfl) (by simp) ?_
  refine wk_loop (fun i : Nat => ⟨[(8, pI i), (7, pI l.length), (6, .t .ro (eP3 l)), (3, .osl 3)], [(3, .row 48 3 .fz ((l.take i).map cP3))]⟩)
    (fun i => i ≤ l.length) (fun i => l.length - i) 0
    (le_of (by simp) (by simp)) (by simp) fun i hi => ?_
  simp -dsimp
  refine condX_dec (fun h => ?_) (fun h => ?_)
  · have hw := wr (n := (i : Int) + 1) (by omega) (by omega)
    have hil : (i : Int) < l.length := by omega
    have hq := gP3 (l := l) h
    have htk := take_gP3 (l := l) h
    have hbd : ((l.take i).length + 1) * 24 ≤ 140737488355328 := by simp; omega
    generalize l.getD i (0, 0, 0) = p at hq htk
    obtain ⟨a, b, c⟩ := p
    generalize l.take i = l0 at *
    simp -dsimp [hil, hq, hbd]
    refine LoopP_next (i + 1) (le_of (by simp [hw]) (by simp [htk])) h (by omega)
  · have hi' : i = l.length := by omega
    subst hi'
    rw [List.take_length]
    simp -dsimp
    refine retP_c ?_
    simp -dsimp
theorem safeL_len {t : List Nat} (h8 : t.length ≤ 8) (two : Bool) (L : List (Pl × Nat)) : (safeL t two L).length ≤ 600 := by
  have h1 := List.length_filter_le (fun p => decide (rkI L p < 0)) (allPl t.length two)
  have h2 := allPl_len h8 two
  rw [safeL]
  omega
theorem safe_true (g : List Int) (k : Int) : PCall Tryd.prog 6 [eIs g, eI k] (pB true) [] := by
  refine pcall_wp _ Tryd.func6 rfl (by kernel_rfl) rfl ?_
  have hf := few_spec g
  have ha := awake_spec
  obtain ⟨t1, t2⟩ := take_valid g
  have hsf := safe_spec (g.take 13) k
  have hvs := valid_spec g
  have hok := okG_take g k
  have hokd : okG g k = (validG g && ((k == 1) || (k == 2))) := rfl
  cases ho : okG g k with
  | false =>
    rw [ho] at hok hokd
    rw [safeF, hok, if_neg (by simp)] at hsf
    generalize g.take 13 = h at *
    cases hv : validG g with
    | false =>
      rw [hv] at hvs
      simp -dsimp
      first
        | refine CallG.by (hf) ?_
        | refine CallGE.by (hf) ?_
        | refine CallGB.by (hf) ?_
      simp -dsimp
      first
        | refine CallG.by (hsf) ?_
        | refine CallGE.by (hsf) ?_
        | refine CallGB.by (hsf) ?_
      simp -dsimp
      first
        | refine CallG.by (hvs) ?_
        | refine CallGE.by (hvs) ?_
        | refine CallGB.by (hvs) ?_
      simp -dsimp
      first
        | refine CallG.by (ha) ?_
        | refine CallGE.by (ha) ?_
        | refine CallGB.by (ha) ?_
      simp -dsimp
      refine retP_c ?_
      simp -dsimp
    | true =>
      rw [hv, Bool.true_and] at hokd
      rw [hv] at hvs
      rcases k_cases k with ⟨h1, _⟩ | ⟨_, h2 | ⟨h2, h3⟩⟩
      · rw [h1] at hokd
        cases hokd
      · simp -dsimp
        first
          | refine CallG.by (hf) ?_
          | refine CallGE.by (hf) ?_
          | refine CallGB.by (hf) ?_
        simp -dsimp
        first
          | refine CallG.by (hsf) ?_
          | refine CallGE.by (hsf) ?_
          | refine CallGB.by (hsf) ?_
        simp -dsimp
        first
          | refine CallG.by (hvs) ?_
          | refine CallGE.by (hvs) ?_
          | refine CallGB.by (hvs) ?_
        simp -dsimp [h2]
        first
          | refine CallG.by (ha) ?_
          | refine CallGE.by (ha) ?_
          | refine CallGB.by (ha) ?_
        simp -dsimp
        refine retP_c ?_
        simp -dsimp
      · simp -dsimp
        first
          | refine CallG.by (hf) ?_
          | refine CallGE.by (hf) ?_
          | refine CallGB.by (hf) ?_
        simp -dsimp
        first
          | refine CallG.by (hsf) ?_
          | refine CallGE.by (hsf) ?_
          | refine CallGB.by (hsf) ?_
        simp -dsimp
        first
          | refine CallG.by (hvs) ?_
          | refine CallGE.by (hvs) ?_
          | refine CallGB.by (hvs) ?_
        simp -dsimp [h2, h3]
        first
          | refine CallG.by (ha) ?_
          | refine CallGE.by (ha) ?_
          | refine CallGB.by (ha) ?_
        simp -dsimp
        refine retP_c ?_
        simp -dsimp
  | true =>
    have hv := ok_valid ho
    rw [t2 hv] at hf hsf
    rw [safeF, ho, if_pos rfl] at hsf
    rw [hv] at hvs
    rw [ho, hv, Bool.true_and] at hokd
    have hk : (k == 1) = true ∨ (k == 2) = true := by simpa using hokd.symm
    have hrr := rrounds_spec g (valid_isg hv) k hk
    rw [rroundsF] at hrr
    rcases k_cases k with ⟨_, h2, h3⟩ | ⟨h1, _⟩
    · by_cases hn : (strF g k).2 < 0
      · have hri := risSafe_spec g (valid_isg hv) k hk ((safeL (townOf g) (k == 2) (rksF g k)).map up)
        rw [safe_ck hv k hn] at hri
        have how := own_spec ((safeL (townOf g) (k == 2) (rksF g k)).map up) (by
          have := safeL_len (t := townOf g) (by have := (valid_town hv).2.1; omega) (k == 2) (rksF g k)
          simp
          omega)
        rw [if_neg (by omega), ePls, cPl_up] at hsf
        rw [if_pos hn] at hrr
        generalize (safeL (townOf g) (k == 2) (rksF g k)).map up = S at *
        generalize strF g k = q at *
        simp -dsimp
        first
          | refine CallG.by (hf) ?_
          | refine CallGE.by (hf) ?_
          | refine CallGB.by (hf) ?_
        simp -dsimp
        first
          | refine CallG.by (hsf) ?_
          | refine CallGE.by (hsf) ?_
          | refine CallGB.by (hsf) ?_
        simp -dsimp
        first
          | refine CallG.by (hvs) ?_
          | refine CallGE.by (hvs) ?_
          | refine CallGB.by (hvs) ?_
        simp -dsimp [h2, h3]
        first
          | refine CallG.by (hrr) ?_
          | refine CallGE.by (hrr) ?_
          | refine CallGB.by (hrr) ?_
        simp -dsimp
        first
          | refine CallG.by (how) ?_
          | refine CallGE.by (how) ?_
          | refine CallGB.by (how) ?_
        simp -dsimp
        first
          | refine CallG.by (hri) ?_
          | refine CallGE.by (hri) ?_
          | refine CallGB.by (hri) ?_
        simp -dsimp
        first
          | refine CallG.by (ha) ?_
          | refine CallGE.by (ha) ?_
          | refine CallGB.by (ha) ?_
        simp -dsimp
        refine retP_c ?_
        simp -dsimp
      · rw [if_pos (by omega)] at hsf
        rw [if_neg hn] at hrr
        generalize strF g k = q at *
        obtain ⟨⟨q1, q2⟩, q3⟩ := q
        simp -dsimp
        first
          | refine CallG.by (hf) ?_
          | refine CallGE.by (hf) ?_
          | refine CallGB.by (hf) ?_
        simp -dsimp
        first
          | refine CallG.by (hsf) ?_
          | refine CallGE.by (hsf) ?_
          | refine CallGB.by (hsf) ?_
        simp -dsimp
        first
          | refine CallG.by (hvs) ?_
          | refine CallGE.by (hvs) ?_
          | refine CallGB.by (hvs) ?_
        simp -dsimp [h2, h3]
        first
          | refine CallG.by (hrr) ?_
          | refine CallGE.by (hrr) ?_
          | refine CallGB.by (hrr) ?_
        simp -dsimp
        first
          | refine CallG.by (ha) ?_
          | refine CallGE.by (ha) ?_
          | refine CallGB.by (ha) ?_
        simp -dsimp
        refine retP_c ?_
        simp -dsimp
    · rw [h1] at hokd
      cases hokd
end Go.Proofs.YtgcncgocdfioiaaDoor
