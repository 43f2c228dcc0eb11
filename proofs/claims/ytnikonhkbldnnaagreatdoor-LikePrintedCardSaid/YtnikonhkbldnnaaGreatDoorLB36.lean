import Derived.Test.YtnikonhkbldnnaaGreatDoorLB35
import Derived.Test.YtnikonhkbldnnaaGreatDoorLBA
/- LB36: tell, Tell. -/
set_option linter.unusedVariables false
set_option linter.unusedSimpArgs false
set_option maxRecDepth 20000
namespace Go.Proofs.YtnikonhkbldnnaaGreatDoor
open Go Go.PS
attribute [-simp] isKeyK List.map_take
theorem unlessZ_spec : PCall Tryz.prog 85 [.agg foZ, eB true] (.t .ro (.agg zN)) [] := by
  refine pcall_wpT Tryz.func85 rfl (by kernel_rfl) ?_
  unfold foZ zN foZ nilT
  simp -dsimp
  refine retT_c ?_
  simp -dsimp [sT]
theorem tell_spec (k : Nat) : TellP k := by
  induction k with
  | zero =>
    intro t s a b ht hs ht1 hs1 hl h4 hab
    have hu := unlike_spec t s a b ht hs hl (by omega) hab
    have hT : tellF 0 t s a b = unF t s a b := rfl
    rw [hT]
    unfold eSide at *
    cases ho : unF t s a b with
    | some f =>
      rw [ho, unlT] at hu
      rcases foC_len f with ⟨o, x, y, hf⟩ | ⟨o, x, y, ks, hf⟩
      all_goals
        rw [hf] at hu
        rw [telT, hf]
        refine pcall_wpT Tryz.func47 rfl (by kernel_rfl) ?_
        simp -dsimp
        first
          | refine CallG.by (hu) ?_
          | refine CallGE.by (hu) ?_
          | refine CallGB.by (hu) ?_
        simp -dsimp
        refine retT_c ?_
        simp -dsimp
    | none =>
      rw [ho, unlT, foZ, nilT] at hu
      rw [telT, if_pos rfl, foZ, nilT]
      refine pcall_wpT Tryz.func47 rfl (by kernel_rfl) ?_
      simp -dsimp
      first
        | refine CallG.by (hu) ?_
        | refine CallGE.by (hu) ?_
        | refine CallGB.by (hu) ?_
      simp -dsimp
      refine retT_c ?_
      simp -dsimp
  | succ k ih =>
    intro t s a b ht hs ht1 hs1 hl h4 hab
    have hu := unlike_spec t s a b ht hs hl (by omega) hab
    have he1 := exists_spec k ih t s a b ht hs ht1 hs1 hl h4 hab
    have he2 := exists_spec k ih s t b a hs ht hs1 ht1 hl.symm (by omega) (fun i hi => ⟨(hab i (by omega)).2, (hab i (by omega)).1⟩)
    have hT : tellF (k + 1) t s a b = match unF t s a b with
      | some f => some f
      | none => match exiF t s a b (tellF k t s) with
        | some f => some f
        | none => (exiF s t b a (tellF k s t)).map .no := rfl
    rw [hT]
    have hk0 : ((k : Int) + 1 == 0) = false := by
      rw [beq_eq_false_iff_ne]
      omega
    unfold eSide at *
    cases ho : unF t s a b with
    | some f =>
      rw [ho, unlT] at hu
      rcases foC_len f with ⟨o, x, y, hf⟩ | ⟨o, x, y, ks, hf⟩
      all_goals
        rw [hf] at hu
        simp only
        rw [telT, hf]
        refine pcall_wpT Tryz.func47 rfl (by kernel_rfl) ?_
        simp -dsimp
        first
          | refine CallG.by (hu) ?_
          | refine CallGE.by (hu) ?_
          | refine CallGB.by (hu) ?_
        simp -dsimp
        refine retT_c ?_
        simp -dsimp
    | none =>
      rw [ho, unlT, foZ, nilT] at hu
      simp only
      cases ho1 : exiF t s a b (tellF k t s) with
      | some f =>
        rw [ho1, unlT] at he1
        rcases foC_len f with ⟨o, x, y, hf⟩ | ⟨o, x, y, ks, hf⟩
        all_goals
          rw [hf] at he1
          simp only
          rw [telT, hf]
          refine pcall_wpT Tryz.func47 rfl (by kernel_rfl) ?_
          simp -dsimp
          first
            | refine CallG.by (hu) ?_
            | refine CallGE.by (hu) ?_
            | refine CallGB.by (hu) ?_
          simp -dsimp [hk0]
          first
            | refine CallG.by (he1) ?_
            | refine CallGE.by (he1) ?_
            | refine CallGB.by (he1) ?_
          simp -dsimp
          refine retT_c ?_
          simp -dsimp
      | none =>
        rw [ho1, unlT, foZ, nilT] at he1
        simp only
        cases ho2 : exiF s t b a (tellF k s t) with
        | some f =>
          rw [ho2, unlT] at he2
          have hun := unless_spec f false
          rw [show unl false f = .no f from rfl] at hun
          rcases foC_len f with ⟨o, x, y, hf⟩ | ⟨o, x, y, ks, hf⟩
          all_goals
            rw [hf] at he2
            rw [foC, hf] at hun
            rw [Option.map_some, telT, foC, hf]
            simp only [sT] at hun ⊢
            refine pcall_wpT Tryz.func47 rfl (by kernel_rfl) ?_
            simp -dsimp
            first
              | refine CallG.by (hu) ?_
              | refine CallGE.by (hu) ?_
              | refine CallGB.by (hu) ?_
            simp -dsimp [hk0]
            first
              | refine CallG.by (he1) ?_
              | refine CallGE.by (he1) ?_
              | refine CallGB.by (he1) ?_
            simp -dsimp
            first
              | refine CallG.by (he2) ?_
              | refine CallGE.by (he2) ?_
              | refine CallGB.by (he2) ?_
            simp -dsimp
            first
              | refine CallG.by (hun) ?_
              | refine CallGE.by (hun) ?_
              | refine CallGB.by (hun) ?_
            simp -dsimp
            refine retT_c ?_
            simp -dsimp
        | none =>
          rw [ho2, unlT, foZ, nilT] at he2
          have hun := unlessZ_spec
          rw [Option.map_none, telT, if_neg (by omega)]
          unfold zN foZ nilT at *
          simp only [sT] at hun ⊢
          refine pcall_wpT Tryz.func47 rfl (by kernel_rfl) ?_
          simp -dsimp
          first
            | refine CallG.by (hu) ?_
            | refine CallGE.by (hu) ?_
            | refine CallGB.by (hu) ?_
          simp -dsimp [hk0]
          first
            | refine CallG.by (he1) ?_
            | refine CallGE.by (he1) ?_
            | refine CallGB.by (he1) ?_
          simp -dsimp
          first
            | refine CallG.by (he2) ?_
            | refine CallGE.by (he2) ?_
            | refine CallGB.by (he2) ?_
          simp -dsimp
          first
            | refine CallG.by (hun) ?_
            | refine CallGE.by (hun) ?_
            | refine CallGB.by (hun) ?_
          simp -dsimp
          refine retT_c ?_
          simp -dsimp
theorem side_nil {w : World} {S : Nat → Prop} {v : Value} {x : TL} (h : TRep w S (.agg [x, .v (.slice none 0 0)]) v) : TRep w S (.agg [x, eNs []]) v := by
  cases h with
  | agg vs hs hrep =>
    refine .agg vs hs fun j u hu => ?_
    rcases j with _ | _ | j
    · exact hrep 0 u (by simpa using hu)
    · simp at hu
      subst hu
      exact nil_any w S S _ (hrep 1 _ rfl)
    · simp at hu
def TelF (g h : List Int) (k : Int) : TL := if (isgB g && isgB h) && decide (0 ≤ k ∧ k ≤ 3) then (match tellF k.toNat (townOf g) (townOf h) [] [] with
  | some f => .tup [.agg (foC f), eI 0]
  | none => .tup [.agg foZ, eI 4]) else .tup [.agg foZ, eI 2]
theorem Tell_spec (g h : List Int) (k : Int) : PCall Tryz.prog 16 [eIs g, eIs h, eI k] (.t .ro (TelF g h k)) [] := by
  have hbo := both_spec g h
  have hro := rounds_spec k
  have hF0 : ((isgB g && isgB h) && decide (0 ≤ k ∧ k ≤ 3)) = false → TelF g h k = .tup [.agg [.v (.string ByteArray.empty), eI 0, eI 0, .v (.slice none 0 0)], eI 2] := fun h => by rw [TelF, h]; rfl
  refine pcall_wpT Tryz.func16 rfl (by kernel_rfl) ?_
  rw [bothF] at hbo
  cases hg : isgB g with
  | false =>
    rw [hF0 (by rw [hg]; rfl)]
    rw [hg] at hbo
    cases hh : isgB h
    all_goals
      rw [hh] at hbo
      simp only [if_true, Bool.false_eq_true, if_false, Bool.and_true, Bool.and_false, Bool.true_and, Bool.false_and, Bool.and_self, nilT] at hbo
      simp -dsimp
      first
        | refine CallG.by (hbo) ?_
        | refine CallGE.by (hbo) ?_
        | refine CallGB.by (hbo) ?_
      simp -dsimp
      refine retT_c ?_
      simp -dsimp
  | true =>
    cases hh : isgB h with
    | false =>
      rw [hF0 (by rw [hg, hh]; rfl)]
      rw [hg, hh] at hbo
      simp only [if_true, Bool.false_eq_true, if_false, Bool.and_true, Bool.and_false, Bool.true_and, Bool.false_and, Bool.and_self, nilT] at hbo
      simp -dsimp
      first
        | refine CallG.by (hbo) ?_
        | refine CallGE.by (hbo) ?_
        | refine CallGB.by (hbo) ?_
      simp -dsimp
      refine retT_c ?_
      simp -dsimp
    | true =>
      rw [hg, hh] at hbo
      simp only [if_true, Bool.and_self] at hbo
      by_cases hk : 0 ≤ k ∧ k ≤ 3
      rotate_left
      · rw [hF0 (by rw [hg, hh, decide_eq_false hk]; rfl)]
        rw [decide_eq_false hk] at hro
        simp -dsimp
        first
          | refine CallG.by (hbo) ?_
          | refine CallGE.by (hbo) ?_
          | refine CallGB.by (hbo) ?_
        simp -dsimp
        first
          | refine CallG.by (hro) ?_
          | refine CallGE.by (hro) ?_
          | refine CallGB.by (hro) ?_
        simp -dsimp
        refine retT_c ?_
        simp -dsimp
      rw [decide_eq_true hk] at hro
      obtain ⟨n, rfl⟩ : ∃ n : Nat, k = n := ⟨k.toNat, by omega⟩
      have ht1 : 1 ≤ (townOf g).length := by have := isg_parts hg; rw [town_len]; omega
      have hs1 : 1 ≤ (townOf h).length := by have := isg_parts hh; rw [town_len]; omega
      have hte := tell_spec n (townOf g) (townOf h) [] [] (town_tow hg) (town_tow hh) ht1 hs1 rfl (by simp; omega) (fun i hi => by simp at hi)
      have hF : TelF g h n = match tellF n (townOf g) (townOf h) [] [] with
        | some f => .tup [.agg (foC f), eI 0]
        | none => .tup [.agg foZ, eI 4] := by
        rw [TelF, hg, hh, decide_eq_true hk]
        rfl
      rw [hF]
      have hz : PCall Tryz.prog 47 [.agg [eIs g, .v (.slice none 0 0)], .agg [eIs h, .v (.slice none 0 0)], eI n] (.t .ro (telT n (tellF n (townOf g) (townOf h) [] []))) [] := by
        have e1 : eNs (townOf g) = eIs g := by rw [eNs, town_back hg]
        have e2 : eNs (townOf h) = eIs h := by rw [eNs, town_back hh]
        unfold eSide at hte
        rw [e1, e2] at hte
        have h1 := pcall_arg (y := .agg [eIs g, .v (.slice none 0 0)]) 0 hte rfl fun w S v hv => side_nil hv
        exact pcall_arg (y := .agg [eIs h, .v (.slice none 0 0)]) 1 h1 rfl fun w S v hv => side_nil hv
      generalize tellF n (townOf g) (townOf h) [] [] = o at *
      cases o with
      | some f =>
        rw [telT] at hz
        simp only
        rcases foC_len f with ⟨o, x, y, hf⟩ | ⟨o, x, y, ks, hf⟩
        all_goals
          rw [hf] at hz ⊢
          simp -dsimp
          first
            | refine CallG.by (hbo) ?_
            | refine CallGE.by (hbo) ?_
            | refine CallGB.by (hbo) ?_
          simp -dsimp
          first
            | refine CallG.by (hro) ?_
            | refine CallGE.by (hro) ?_
            | refine CallGB.by (hro) ?_
          simp -dsimp
          first
            | refine CallG.by (hz) ?_
            | refine CallGE.by (hz) ?_
            | refine CallGB.by (hz) ?_
          simp -dsimp
          refine retT_c ?_
          simp -dsimp
      | none =>
        rw [telT] at hz
        simp only
        unfold foZ nilT
        by_cases hn : n = 0
        · rw [if_pos hn, foZ, nilT] at hz
          simp -dsimp
          first
            | refine CallG.by (hbo) ?_
            | refine CallGE.by (hbo) ?_
            | refine CallGB.by (hbo) ?_
          simp -dsimp
          first
            | refine CallG.by (hro) ?_
            | refine CallGE.by (hro) ?_
            | refine CallGB.by (hro) ?_
          simp -dsimp
          first
            | refine CallG.by (hz) ?_
            | refine CallGE.by (hz) ?_
            | refine CallGB.by (hz) ?_
          simp -dsimp
          refine retT_c ?_
          simp -dsimp
        · rw [if_neg hn, zN, foZ, nilT, sT] at hz
          simp -dsimp
          first
            | refine CallG.by (hbo) ?_
            | refine CallGE.by (hbo) ?_
            | refine CallGB.by (hbo) ?_
          simp -dsimp
          first
            | refine CallG.by (hro) ?_
            | refine CallGE.by (hro) ?_
            | refine CallGB.by (hro) ?_
          simp -dsimp
          first
            | refine CallG.by (hz) ?_
            | refine CallGE.by (hz) ?_
            | refine CallGB.by (hz) ?_
          simp -dsimp
          refine retT_c ?_
          simp -dsimp
end Go.Proofs.YtnikonhkbldnnaaGreatDoor
