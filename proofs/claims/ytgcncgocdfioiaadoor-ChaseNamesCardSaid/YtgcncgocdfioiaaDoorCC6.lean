import Derived.Test.YtgcncgocdfioiaaDoorCC5
/- CC6: CheckApart. -/
set_option linter.unusedVariables false
set_option linter.unusedSimpArgs false
set_option maxRecDepth 20000
namespace Go.Proofs.YtgcncgocdfioiaaDoor
open Go Go.PS
attribute [-simp] isKeyK List.map_take
def chkGo (t : List Nat) : List Int → Nat → Bool
  | [], _ => true
  | v :: l, s => decide (0 ≤ v ∧ v < t.length) && (s.testBit v.toNat && ((sgl s || corF t v.toNat s) && chkGo t l (dif s (2 ^ v.toNat))))
theorem chk_at (t : List Nat) (l : List Int) (i s : Nat) (h : i < l.length) : chkGo t (l.drop i) s = (decide (0 ≤ l.getD i 0 ∧ l.getD i 0 < t.length) && (s.testBit (l.getD i 0).toNat && ((sgl s || corF t (l.getD i 0).toNat s) && chkGo t (l.drop (i + 1)) (dif s (2 ^ (l.getD i 0).toNat))))) := by
  rw [List.drop_eq_getElem_cons h]
  have : l.getD i 0 = l[i] := by simp [List.getD_eq_getElem?_getD, h]
  rw [this]
  rfl
def chkF (g : List Int) (l : List Int) : TL := if validG g then .tup [eB (decide (l.length = g.length) && chkGo (townOf g) l (2 ^ g.length - 1)), eI 0] else .tup [eB false, eI 2]
theorem checkApart_spec (g l : List Int) : PCall Tryd.prog 43 [eIs g, eIs l] (.t .fz (chkF g l)) [] := by
  refine pcall_sl 1 rfl call43 fun hlen => ?_
  simp only [List.length_map] at hlen
  refine pcall_wp _ Tryd.func43 rfl (by kernel_rfl) rfl ?_
  have hr := read_spec g
  have hF : chkF g l = if validG g then .tup [eB (decide (l.length = g.length) && chkGo (townOf g) l (2 ^ g.length - 1)), eI 0] else .tup [eB false, eI 2] := rfl
  cases hv : validG g with
  | false =>
    obtain ⟨X, hX⟩ := read_bad hv
    rw [hX] at hr
    rw [hv, if_neg (by simp)] at hF
    simp -dsimp
    first
      | refine CallG.by (hr) ?_
      | refine CallGE.by (hr) ?_
      | refine CallGB.by (hr) ?_
    simp -dsimp
    refine retP_c ?_
    simp -dsimp [hF]
  | true =>
    rw [read_ok hv] at hr
    rw [hv, if_pos rfl] at hF
    have ht := valid_town hv
    have hl : (townOf g).length = g.length := town_len g
    have hall := all_spec (townOf g) ht
    rw [← hl] at hF
    have hp : 0 < 2 ^ (townOf g).length := Nat.pow_pos (by decide)
    generalize townOf g = t at *
    have h8 := ht.2.1
    obtain ⟨N, hN⟩ : ∃ N, N = 2 ^ t.length - 1 := ⟨_, rfl⟩
    rw [← hN] at hF hall
    by_cases hlt : l.length = t.length
    · rw [decide_eq_true hlt, Bool.true_and] at hF
      have hne : ((l.length : Int) != (t.length : Int)) = false := by simp [hlt]
      simp -dsimp
      first
        | refine CallG.by (hr) ?_
        | refine CallGE.by (hr) ?_
        | refine CallGB.by (hr) ?_
      simp -dsimp
      first
        | refine CallG.by (hall) ?_
        | refine CallGE.by (hall) ?_
        | refine CallGB.by (hall) ?_
      simp -dsimp [hne]
      refine wk_loop (fun p : Nat × Nat => ⟨[(27, pI p.1), (26, pI l.length), (25, .t .ro (eIs l)), (6, .t .fz (eNs t)), (8, pI p.2)], []⟩)
        (fun p => p.1 ≤ l.length ∧ p.2 < 2 ^ t.length ∧ chkGo t l N = chkGo t (l.drop p.1) p.2) (fun p => l.length - p.1) (0, N)
        (le_of (by simp) (by simp)) ⟨by simp, by simp only; omega, by simp⟩ fun ⟨i, s⟩ ⟨hi, hs, hg⟩ => ?_
      dsimp only at hi hs hg
      simp -dsimp
      refine condX_dec (fun h => ?_) (fun h => ?_)
      · have hw := wr (n := (i : Int) + 1) (by omega) (by omega)
        have hil : (i : Int) < l.length := by omega
        have qi := at_ h
        rw [chk_at t l i s h] at hg
        generalize l.getD i 0 = v at qi hg
        have hs8 := sub_lt ht hs
        have hnode := node_spec t v
        simp -dsimp [hil, qi]
        first
          | refine CallG.by (hnode) ?_
          | refine CallGE.by (hnode) ?_
          | refine CallGB.by (hnode) ?_
        by_cases hv : 0 ≤ v ∧ v < t.length
        · obtain ⟨m, rfl⟩ : ∃ m : Nat, v = m := ⟨v.toNat, by omega⟩
          have hm : m < t.length := by omega
          have hm0 : (0 : Int) ≤ (m : Int) := by omega
          rw [decide_eq_true hv, Bool.true_and, Int.toNat_natCast] at hg
          have hbit := and1 s (by omega) m (by omega)
          have hsg := single_spec s hs8
          have hcr := corner_spec t ht m s hm hs
          have hsa := shl1 m (by omega)
          have hp2 : 2 ^ m < 256 := Nat.lt_of_lt_of_le (Nat.pow_lt_pow_right (by decide) (show m < 8 by omega)) (by decide)
          have han := andnI_nat s (2 ^ m) hs8 hp2
          have hd := dif_sub ht hs (2 ^ m)
          generalize dif s (2 ^ m) = d at *
          generalize 2 ^ m = bm at *
          cases c1 : s.testBit m with
          | false =>
            rw [c1] at hbit hg
            simp -dsimp [hv, hm0, hbit]
            refine retP_c ?_
            simp -dsimp [hF, hg]
          | true =>
            rw [c1] at hbit hg
            simp -dsimp [hv, hm0, hbit]
            first
              | refine CallG.by (hsg) ?_
              | refine CallGE.by (hsg) ?_
              | refine CallGB.by (hsg) ?_
            cases c2 : sgl s with
            | true =>
              rw [c2] at hg
              simp -dsimp [hm0, hsa, han]
              refine LoopP_next (i + 1, d) (le_of (by simp [hw]) (by simp)) ⟨h, hd, by simpa using hg⟩ (by simp only; omega)
            | false =>
              rw [c2] at hg
              simp -dsimp
              first
                | refine CallG.by (hcr) ?_
                | refine CallGE.by (hcr) ?_
                | refine CallGB.by (hcr) ?_
              cases c3 : corF t m s with
              | true =>
                rw [c3] at hg
                simp -dsimp [hm0, hsa, han]
                refine LoopP_next (i + 1, d) (le_of (by simp [hw]) (by simp)) ⟨h, hd, by simpa using hg⟩ (by simp only; omega)
              | false =>
                rw [c3] at hg
                simp -dsimp
                refine retP_c ?_
                simp -dsimp [hF, hg]
        · rw [decide_eq_false hv, Bool.false_and] at hg
          simp -dsimp [hv]
          refine retP_c ?_
          simp -dsimp [hF, hg]
      · have hi' : i = l.length := by omega
        subst hi'
        rw [List.drop_length, chkGo] at hg
        simp -dsimp
        refine retP_c ?_
        simp -dsimp [hF, hg]
    · rw [decide_eq_false hlt, Bool.false_and] at hF
      have hne : ((l.length : Int) != (t.length : Int)) = true := by simp; omega
      simp -dsimp
      first
        | refine CallG.by (hr) ?_
        | refine CallGE.by (hr) ?_
        | refine CallGB.by (hr) ?_
      simp -dsimp
      first
        | refine CallG.by (hall) ?_
        | refine CallGE.by (hall) ?_
        | refine CallGB.by (hall) ?_
      simp -dsimp [hne]
      refine retP_c ?_
      simp -dsimp [hF]
end Go.Proofs.YtgcncgocdfioiaaDoor
