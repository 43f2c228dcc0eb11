import Derived.Test.YtgcncgocdfioiaaDoorCL2
/- CL3: places converted; the law of ChaseEither. -/
set_option linter.unusedVariables false
set_option linter.unusedSimpArgs false
set_option maxRecDepth 20000
namespace Go.Proofs.YtgcncgocdfioiaaDoor
open Go Go.PS
attribute [-simp] isKeyK List.map_take
theorem place28_spec (p : P3) : PCall Tryd.prog 28 [.agg (cP3 p)] (.t .fz (.agg (cP3 p))) [] := by
  obtain ⟨a, b, c⟩ := p
  refine pcall_wp _ Tryd.func28 rfl (by kernel_rfl) rfl ?_
  simp -dsimp
  refine retP_c ?_
  simp -dsimp
theorem places_spec (l : List P3) : PCall Tryd.prog 38 [eP3 l] (.t .fz (eP3 (l.take 700))) [] := by
  refine pcall_sl 0 rfl call38 fun hlen => ?_
  simp only [List.length_map] at hlen
  refine pcall_wp _ Tryd.func38 rfl (by kernel_rfl) rfl ?_
  simp -dsimp
  refine lg_adoptT 3 3 50 3 (by simp; rfl) (by simp) ?_
  refine wk_loop (fun i : Nat => ⟨[(8, pI i), (7, pI l.length), (6, .t .ro (eP3 l)), (3, .osl 3)], [(3, .row 50 3 .fz (((l.take 700).take i).map cP3))]⟩)
    (fun i => i ≤ l.length) (fun i => l.length - i) 0
    (le_of (by simp) (by simp)) (by simp) fun i hi => ?_
  simp -dsimp
  refine condX_dec (fun h => ?_) (fun h => ?_)
  · have hw := wr (n := (i : Int) + 1) (by omega) (by omega)
    have hil : (i : Int) < l.length := by omega
    have hq := gP3 (l := l) h
    have htk : i < 700 → (l.take 700).take (i + 1) = (l.take 700).take i ++ [l.getD i (0, 0, 0)] := fun h7 => by
      rw [List.take_take, List.take_take, Nat.min_eq_left (by omega), Nat.min_eq_left (by omega)]
      exact take_gP3 h
    have htk2 : ¬ i < 700 → (l.take 700).take (i + 1) = (l.take 700).take i := fun h7 => by
      rw [List.take_take, List.take_take, Nat.min_eq_right (by omega), Nat.min_eq_right (by omega)]
    have hlen2 : ((l.take 700).take i).length ≤ 700 := by simp; omega
    have hbd : (((l.take 700).take i).length + 1) * 24 ≤ 140737488355328 := by omega
    generalize l.getD i (0, 0, 0) = p at hq htk
    have hp := place28_spec p
    obtain ⟨a, b, c⟩ := p
    by_cases h7 : (i : Int) < 700
    · have htk := htk (by omega)
      generalize (l.take 700).take i = l0 at *
      simp -dsimp [hil, hq, h7]
      first
        | refine CallG.by (hp) ?_
        | refine CallGE.by (hp) ?_
        | refine CallGB.by (hp) ?_
      simp -dsimp [hbd]
      refine LoopP_next (i + 1) (le_of (by simp [hw]) (by simp [htk])) h (by omega)
    · have htk2 := htk2 (by omega)
      simp -dsimp [hil, hq, h7]
      refine LoopP_next (i + 1) (le_of (by simp [hw]) (by simp [htk2])) h (by omega)
  · have hi' : i = l.length := by omega
    have e : (l.take 700).take l.length = l.take 700 := by
      rw [List.take_of_length_le]
      simp
      omega
    subst hi'
    rw [e]
    simp -dsimp
    refine retP_c ?_
    simp -dsimp
theorem either_true (g : List Int) (k : Int) (l : List P3) : PCall Tryd.prog 12 [eIs g, eI k, eP3 l] (pB true) [] := by
  refine pcall_wp _ Tryd.func12 rfl (by kernel_rfl) rfl ?_
  have hf := few_spec g
  have ha := awake_spec
  have hpl := places_spec l
  generalize l.take 700 = l7 at *
  generalize g.take 13 = h at *
  have h1 := rounds_spec h k
  have hsf := safe_spec h k
  have hck := checkSafe_spec h k l7
  cases ho : okG h k with
  | false =>
    rw [rounds_bad ho] at h1
    rw [safeF, ho, if_neg (by simp)] at hsf
    rw [ckF, ho, if_neg (by simp)] at hck
    simp -dsimp
    first
      | refine CallG.by (hf) ?_
      | refine CallGE.by (hf) ?_
      | refine CallGB.by (hf) ?_
    simp -dsimp
    first
      | refine CallG.by (h1) ?_
      | refine CallGE.by (h1) ?_
      | refine CallGB.by (h1) ?_
    simp -dsimp
    first
      | refine CallG.by (hf) ?_
      | refine CallGE.by (hf) ?_
      | refine CallGB.by (hf) ?_
    simp -dsimp
    first
      | refine CallG.by (hsf) ?_
      | refine CallGE.by (hsf) ?_
      | refine CallGB.by (hsf) ?_
    simp -dsimp
    first
      | refine CallG.by (hf) ?_
      | refine CallGE.by (hf) ?_
      | refine CallGB.by (hf) ?_
    simp -dsimp
    first
      | refine CallG.by (hpl) ?_
      | refine CallGE.by (hpl) ?_
      | refine CallGB.by (hpl) ?_
    simp -dsimp
    first
      | refine CallG.by (hck) ?_
      | refine CallGE.by (hck) ?_
      | refine CallGB.by (hck) ?_
    simp -dsimp
    first
      | refine CallG.by (ha) ?_
      | refine CallGE.by (ha) ?_
      | refine CallGB.by (ha) ?_
    simp -dsimp
    refine retP_c ?_
    simp -dsimp
  | true =>
    have hv := ok_valid ho
    rw [rounds_ok ho] at h1
    rw [safeF, ho, if_pos rfl] at hsf
    rw [ckF, ho, if_pos rfl] at hck
    by_cases hn : (strF h k).2 < 0
    · rw [if_pos hn] at h1
      rw [if_neg (by omega), ePls, cPl_up] at hsf
      have hck2 := checkSafe_spec h k ((safeL (townOf h) (k == 2) (rksF h k)).map up)
      rw [ckF, ho, if_pos rfl, safe_ck hv k hn] at hck2
      generalize (safeL (townOf h) (k == 2) (rksF h k)).map up = S at *
      generalize ckB (townOf h) k l7 = b at *
      cases b <;> (
      simp -dsimp
      first
        | refine CallG.by (hf) ?_
        | refine CallGE.by (hf) ?_
        | refine CallGB.by (hf) ?_
      simp -dsimp
      first
        | refine CallG.by (h1) ?_
        | refine CallGE.by (h1) ?_
        | refine CallGB.by (h1) ?_
      simp -dsimp
      first
        | refine CallG.by (hf) ?_
        | refine CallGE.by (hf) ?_
        | refine CallGB.by (hf) ?_
      simp -dsimp
      first
        | refine CallG.by (hsf) ?_
        | refine CallGE.by (hsf) ?_
        | refine CallGB.by (hsf) ?_
      simp -dsimp
      first
        | refine CallG.by (hf) ?_
        | refine CallGE.by (hf) ?_
        | refine CallGB.by (hf) ?_
      simp -dsimp
      first
        | refine CallG.by (hpl) ?_
        | refine CallGE.by (hpl) ?_
        | refine CallGB.by (hpl) ?_
      simp -dsimp
      first
        | refine CallG.by (hck) ?_
        | refine CallGE.by (hck) ?_
        | refine CallGB.by (hck) ?_
      simp -dsimp
      first
        | refine CallG.by (hf) ?_
        | refine CallGE.by (hf) ?_
        | refine CallGB.by (hf) ?_
      simp -dsimp
      first
        | refine CallG.by (hck2) ?_
        | refine CallGE.by (hck2) ?_
        | refine CallGB.by (hck2) ?_
      simp -dsimp
      first
        | refine CallG.by (ha) ?_
        | refine CallGE.by (ha) ?_
        | refine CallGB.by (ha) ?_
      simp -dsimp
      refine retP_c ?_
      simp -dsimp
      )
    · rw [if_neg hn] at h1
      rw [if_pos (by omega)] at hsf
      rw [ck_no hv k l7 (by omega)] at hck
      generalize strF h k = q at *
      simp -dsimp
      first
        | refine CallG.by (hf) ?_
        | refine CallGE.by (hf) ?_
        | refine CallGB.by (hf) ?_
      simp -dsimp
      first
        | refine CallG.by (h1) ?_
        | refine CallGE.by (h1) ?_
        | refine CallGB.by (h1) ?_
      simp -dsimp
      first
        | refine CallG.by (hf) ?_
        | refine CallGE.by (hf) ?_
        | refine CallGB.by (hf) ?_
      simp -dsimp
      first
        | refine CallG.by (hsf) ?_
        | refine CallGE.by (hsf) ?_
        | refine CallGB.by (hsf) ?_
      simp -dsimp
      first
        | refine CallG.by (hf) ?_
        | refine CallGE.by (hf) ?_
        | refine CallGB.by (hf) ?_
      simp -dsimp
      first
        | refine CallG.by (hpl) ?_
        | refine CallGE.by (hpl) ?_
        | refine CallGB.by (hpl) ?_
      simp -dsimp
      first
        | refine CallG.by (hck) ?_
        | refine CallGE.by (hck) ?_
        | refine CallGB.by (hck) ?_
      simp -dsimp
      first
        | refine CallG.by (ha) ?_
        | refine CallGE.by (ha) ?_
        | refine CallGB.by (ha) ?_
      simp -dsimp
      refine retP_c ?_
      simp -dsimp
end Go.Proofs.YtgcncgocdfioiaaDoor
