import Derived.Test.YtgcncgocdfioiaaDoorCC2
/- CC3: begin, Rank, Rounds, Start, Core. -/
set_option linter.unusedVariables false
set_option linter.unusedSimpArgs false
set_option maxRecDepth 20000
namespace Go.Proofs.YtgcncgocdfioiaaDoor
open Go Go.PS
attribute [-simp] isKeyK List.map_take
def validG (g : List Int) : Bool := decide (1 ≤ g.length ∧ g.length ≤ 8) && (graphB g && connB (townOf g))
theorem valid_at {g : List Int} (h : validG g = true) : 1 ≤ g.length ∧ g.length ≤ 8 ∧ graphB g = true ∧ connB (townOf g) = true := by
  simpa [validG, and_assoc] using h
theorem valid_town {g : List Int} (h : validG g = true) : Twn (townOf g) := town_ok (valid_at h).1 (valid_at h).2.1 (valid_at h).2.2.1
theorem town_get (g : List Int) (i : Nat) (hi : i < g.length) : (townOf g).getD i 0 = ((g.getD i 0).toNat ||| 2 ^ i) := by
  simp [townOf, townF, List.getD_eq_getElem?_getD, hi]
theorem town_len (g : List Int) : (townOf g).length = g.length := townF_len g g.length
theorem slf_town (g : List Int) : Slf (townOf g) := fun i hi => by
  rw [town_len] at hi
  rw [town_get g i hi, Nat.testBit_or, Nat.testBit_two_pow_self, Bool.or_true]
def okG (g : List Int) (k : Int) : Bool := validG g && ((k == 1) || (k == 2))
theorem read_ok {g : List Int} (h : validG g = true) : readF g = .tup [eNs (townOf g), eB true] := by
  obtain ⟨h1, h2, h3, h4⟩ := valid_at h
  rw [readF, if_pos ⟨h1, h2, h3⟩, h4]
theorem read_bad {g : List Int} (h : validG g = false) : ∃ X, readF g = .tup [X, eB false] := by
  unfold readF
  split
  · rename_i hc
    obtain ⟨h1, h2, h3⟩ := hc
    refine ⟨eNs (townOf g), ?_⟩
    have : connB (townOf g) = false := by simpa [validG, h1, h2, h3] using h
    rw [this]
  · exact ⟨_, rfl⟩
/-- The game of a graph. -/
def gmF (g : List Int) (k : Int) : TL := eC (townOf g) k (.mp (esOf (playF (townOf g) (k == 2))))
def beginF (g : List Int) (k : Int) : TL := if okG g k then .tup [gmF g k, eB true] else .tup [.v (.pointer none), eB false]
theorem begin_spec (g : List Int) (k : Int) : PCall Tryd.prog 49 [eIs g, eI k] (.t .ro (beginF g k)) [] := by
  refine pcall_wpT Tryd.func49 rfl (by kernel_rfl) ?_
  have hr := read_spec g
  have hF : beginF g k = if okG g k then .tup [gmF g k, eB true] else .tup [.v (.pointer none), eB false] := rfl
  cases hv : validG g with
  | false =>
    obtain ⟨X, hX⟩ := read_bad hv
    rw [hX] at hr
    have ho : okG g k = false := by rw [okG, hv]; rfl
    rw [ho, if_neg (by simp)] at hF
    simp -dsimp
    first
      | refine CallG.by (hr) ?_
      | refine CallGE.by (hr) ?_
      | refine CallGB.by (hr) ?_
    simp -dsimp
    refine retT_c ?_
    simp -dsimp [hF]
  | true =>
    rw [read_ok hv] at hr
    have ht := valid_town hv
    have hs := slf_town g
    have hp := play_spec (townOf g) ht hs k
    have ho : okG g k = ((k == 1) || (k == 2)) := by rw [okG, hv]; rfl
    simp -dsimp
    first
      | refine CallG.by (hr) ?_
      | refine CallGE.by (hr) ?_
      | refine CallGB.by (hr) ?_
    cases c1 : (k == 1)
    · cases c2 : (k == 2)
      · rw [ho, c1, c2] at hF
        have c1' : (k != 1) = true := by rw [bne, c1]; rfl
        have c2' : (k != 2) = true := by rw [bne, c2]; rfl
        simp -dsimp [c1', c2']
        refine retT_c ?_
        simp -dsimp [hF]
      · rw [ho, c1, c2] at hF
        have c1' : (k != 1) = true := by rw [bne, c1]; rfl
        have c2' : (k != 2) = false := by rw [bne, c2]; rfl
        simp -dsimp [c1', c2']
        first
          | refine CallG.by (hp) ?_
          | refine CallGE.by (hp) ?_
          | refine CallGB.by (hp) ?_
        simp -dsimp
        refine retT_c ?_
        simp -dsimp [hF, gmF]
    · rw [ho, c1] at hF
      have c1' : (k != 1) = false := by rw [bne, c1]; rfl
      simp -dsimp [c1']
      first
        | refine CallG.by (hp) ?_
        | refine CallGE.by (hp) ?_
        | refine CallGB.by (hp) ?_
      simp -dsimp
      refine retT_c ?_
      simp -dsimp [hF, gmF]
theorem begin_ok {g : List Int} {k : Int} (h : okG g k = true) : beginF g k = .tup [gmF g k, eB true] := by rw [beginF, if_pos h]
theorem begin_bad {g : List Int} {k : Int} (h : okG g k = false) : beginF g k = .tup [.v (.pointer none), eB false] := by rw [beginF, if_neg (by simp [h])]
theorem ok_valid {g : List Int} {k : Int} (h : okG g k = true) : validG g = true := by
  simp only [okG, Bool.and_eq_true] at h
  exact h.1
def rksF (g : List Int) (k : Int) : List (Pl × Nat) := playF (townOf g) (k == 2)
def rankF (g : List Int) (k a b c : Int) : TL := if okG g k && okPl g.length k a b c then .tup [eI (rkI (rksF g k) (a.toNat, b.toNat, c.toNat)), eI 0] else .tup [eI 0, eI 2]
theorem okPl_nat {n : Nat} {k a b c : Int} (h : okPl n k a b c = true) : a = (a.toNat : Int) ∧ b = (b.toNat : Int) ∧ c = (c.toNat : Int) ∧ GPl n (k == 2) (a.toNat, b.toNat, c.toNat) := by
  simp only [okPl, Bool.and_eq_true, decide_eq_true_eq, Bool.or_eq_true, beq_iff_eq] at h
  obtain ⟨h1, h2, h3, h4, h5⟩ := h
  refine ⟨by omega, by omega, by omega, by simp only; omega, by simp only; omega, by simp only; omega, ?_⟩
  simp only [beq_iff_eq]
  exact h5.imp id fun e => by rw [e]
theorem rankP_spec (g : List Int) (k a b c : Int) : PCall Tryd.prog 27 [eIs g, eI k, .agg [eI a, eI b, eI c]] (.t .fz (rankF g k a b c)) [] := by
  refine pcall_wp _ Tryd.func27 rfl (by kernel_rfl) rfl ?_
  have hb := begin_spec g k
  have hF : rankF g k a b c = if okG g k && okPl g.length k a b c then .tup [eI (rkI (rksF g k) (a.toNat, b.toNat, c.toNat)), eI 0] else .tup [eI 0, eI 2] := rfl
  cases ho : okG g k with
  | false =>
    rw [begin_bad ho] at hb
    rw [ho] at hF
    simp -dsimp
    first
      | refine CallG.by (hb) ?_
      | refine CallGE.by (hb) ?_
      | refine CallGB.by (hb) ?_
    simp -dsimp
    refine retP_c ?_
    simp -dsimp [hF]
  | true =>
    rw [begin_ok ho] at hb
    have hp := place_spec (townOf g) (valid_town (ok_valid ho)) k (.mp (esOf (rksF g k))) a b c
    rw [town_len] at hp
    cases hpl : okPl g.length k a b c with
    | false =>
      rw [hpl] at hp
      rw [ho, hpl] at hF
      simp -dsimp
      first
        | refine CallG.by (hb) ?_
        | refine CallGE.by (hb) ?_
        | refine CallGB.by (hb) ?_
      simp -dsimp [gmF]
      first
        | refine CallG.by (hp) ?_
        | refine CallGE.by (hp) ?_
        | refine CallGB.by (hp) ?_
      simp -dsimp
      refine retP_c ?_
      simp -dsimp [hF]
    | true =>
      rw [hpl] at hp
      rw [ho, hpl] at hF
      obtain ⟨ha, hb', hc, _⟩ := okPl_nat hpl
      have hr := rank_spec (townOf g) k (rksF g k) (a.toNat, b.toNat, c.toNat)
      simp only [ePl, cPl, ← ha, ← hb', ← hc] at hr
      simp -dsimp
      first
        | refine CallG.by (hb) ?_
        | refine CallGE.by (hb) ?_
        | refine CallGB.by (hb) ?_
      simp -dsimp [gmF]
      first
        | refine CallG.by (hp) ?_
        | refine CallGE.by (hp) ?_
        | refine CallGB.by (hp) ?_
      simp -dsimp
      first
        | refine CallG.by (hr) ?_
        | refine CallGE.by (hr) ?_
        | refine CallGB.by (hr) ?_
      simp -dsimp
      refine retP_c ?_
      simp -dsimp [hF]
def strF (g : List Int) (k : Int) : Pr × Int := startF g.length (k == 2) (rksF g k)
def roundsF (g : List Int) (k : Int) : TL := if okG g k then (if (strF g k).2 < 0 then .tup [eI 0, eI 4] else .tup [eI (strF g k).2, eI 0]) else .tup [eI 0, eI 2]
theorem rounds_spec (g : List Int) (k : Int) : PCall Tryd.prog 15 [eIs g, eI k] (.t .fz (roundsF g k)) [] := by
  refine pcall_wp _ Tryd.func15 rfl (by kernel_rfl) rfl ?_
  have hb := begin_spec g k
  have hF : roundsF g k = if okG g k then (if (strF g k).2 < 0 then .tup [eI 0, eI 4] else .tup [eI (strF g k).2, eI 0]) else .tup [eI 0, eI 2] := rfl
  cases ho : okG g k with
  | false =>
    rw [begin_bad ho] at hb
    rw [ho] at hF
    simp -dsimp
    first
      | refine CallG.by (hb) ?_
      | refine CallGE.by (hb) ?_
      | refine CallGB.by (hb) ?_
    simp -dsimp
    refine retP_c ?_
    simp -dsimp [hF]
  | true =>
    rw [begin_ok ho] at hb
    rw [ho] at hF
    have hs := start_spec (townOf g) (valid_town (ok_valid ho)) k (rksF g k)
    rw [town_len] at hs
    have e : startF g.length (k == 2) (rksF g k) = strF g k := rfl
    rw [e] at hs
    generalize strF g k = q at *
    simp -dsimp
    first
      | refine CallG.by (hb) ?_
      | refine CallGE.by (hb) ?_
      | refine CallGB.by (hb) ?_
    simp -dsimp [gmF]
    first
      | refine CallG.by (hs) ?_
      | refine CallGE.by (hs) ?_
      | refine CallGB.by (hs) ?_
    simp -dsimp
    by_cases hn : q.2 < 0
    · rw [if_pos hn] at hF
      simp -dsimp [hn]
      refine retP_c ?_
      simp -dsimp [hF]
    · rw [if_neg hn] at hF
      simp -dsimp [hn]
      refine retP_c ?_
      simp -dsimp [hF]
def startX (g : List Int) (k : Int) : TL := if okG g k then (if (strF g k).2 < 0 then .tup [.agg [eI 0, eI 0], eI 4] else .tup [.agg (cPr (strF g k).1), eI 0]) else .tup [.agg [eI 0, eI 0], eI 2]
theorem startP_spec (g : List Int) (k : Int) : PCall Tryd.prog 18 [eIs g, eI k] (.t .fz (startX g k)) [] := by
  refine pcall_wp _ Tryd.func18 rfl (by kernel_rfl) rfl ?_
  have hb := begin_spec g k
  have hF : startX g k = if okG g k then (if (strF g k).2 < 0 then .tup [.agg [eI 0, eI 0], eI 4] else .tup [.agg (cPr (strF g k).1), eI 0]) else .tup [.agg [eI 0, eI 0], eI 2] := rfl
  cases ho : okG g k with
  | false =>
    rw [begin_bad ho] at hb
    rw [ho] at hF
    simp -dsimp
    first
      | refine CallG.by (hb) ?_
      | refine CallGE.by (hb) ?_
      | refine CallGB.by (hb) ?_
    simp -dsimp
    refine retP_c ?_
    simp -dsimp [hF]
  | true =>
    rw [begin_ok ho] at hb
    rw [ho] at hF
    have hs := start_spec (townOf g) (valid_town (ok_valid ho)) k (rksF g k)
    rw [town_len] at hs
    have e : startF g.length (k == 2) (rksF g k) = strF g k := rfl
    rw [e] at hs
    generalize strF g k = q at *
    simp -dsimp
    first
      | refine CallG.by (hb) ?_
      | refine CallGE.by (hb) ?_
      | refine CallGB.by (hb) ?_
    simp -dsimp [gmF]
    first
      | refine CallG.by (hs) ?_
      | refine CallGE.by (hs) ?_
      | refine CallGB.by (hs) ?_
    simp -dsimp
    by_cases hn : q.2 < 0
    · rw [if_pos hn] at hF
      simp -dsimp [hn]
      refine retP_c ?_
      simp -dsimp [hF]
    · rw [if_neg hn] at hF
      simp -dsimp [hn]
      refine retP_c ?_
      simp -dsimp [hF]
def coreF (g : List Int) : TL := if validG g then .tup [eI (coreS (townOf g) (2 ^ g.length - 1) : Nat), eI 0] else .tup [eI 0, eI 2]
theorem coreP_spec (g : List Int) : PCall Tryd.prog 39 [eIs g] (.t .fz (coreF g)) [] := by
  refine pcall_wp _ Tryd.func39 rfl (by kernel_rfl) rfl ?_
  have hr := read_spec g
  have hF : coreF g = if validG g then .tup [eI (coreS (townOf g) (2 ^ g.length - 1) : Nat), eI 0] else .tup [eI 0, eI 2] := rfl
  cases hv : validG g with
  | false =>
    obtain ⟨X, hX⟩ := read_bad hv
    rw [hX] at hr
    rw [hv] at hF
    simp -dsimp
    first
      | refine CallG.by (hr) ?_
      | refine CallGE.by (hr) ?_
      | refine CallGB.by (hr) ?_
    simp -dsimp
    refine retP_c ?_
    simp -dsimp [hF]
  | true =>
    rw [read_ok hv] at hr
    rw [hv] at hF
    have hc := core_spec (townOf g) (valid_town hv)
    rw [town_len] at hc
    generalize coreS (townOf g) (2 ^ g.length - 1) = c at *
    simp -dsimp
    first
      | refine CallG.by (hr) ?_
      | refine CallGE.by (hr) ?_
      | refine CallGB.by (hr) ?_
    simp -dsimp
    first
      | refine CallG.by (hc) ?_
      | refine CallGE.by (hc) ?_
      | refine CallGB.by (hc) ?_
    simp -dsimp
    refine retP_c ?_
    simp -dsimp [hF]
end Go.Proofs.YtgcncgocdfioiaaDoor
