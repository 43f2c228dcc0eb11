import Derived.Test.YtnikonhkbldnnaaDoorLR13
/- LR14: the reference's Parse. -/
set_option linter.unusedVariables false
set_option linter.unusedSimpArgs false
set_option maxRecDepth 20000
namespace Go.Proofs.YtnikonhkbldnnaaDoor
open Go Go.PS
attribute [-simp] isKeyK List.map_take
/-- What is read by the program is read by the reference, and conversely. -/
theorem rp_par (s : List UInt8) : (∃ f m, rP 40 s 0 = (some (f, []), m) ∧ parP s = some f ∧ formOk (ftOf f) = true) ∨ (parP s = none ∧ ((∃ m, rP 40 s 0 = (none, m)) ∨ ∃ f r m, rP 40 s 0 = (some (f, r), m) ∧ (r ≠ [] ∨ formOk (ftOf f) = false))) := by
  rcases hp : rP 40 s 0 with ⟨_ | ⟨f, r⟩, m⟩
  · refine .inr ⟨?_, .inl ⟨m, rfl⟩⟩
    unfold parP
    cases hq : pF 40 s with
    | none => rfl
    | some p =>
      obtain ⟨f, r⟩ := p
      cases r with
      | cons c r => rfl
      | nil =>
        simp only
        by_cases hok : formOk (ftOf f) = true
        · obtain ⟨e, hv, hh⟩ := pF_of hq
          have h := hok
          unfold formOk at h
          rw [ftOf_nodes, ftOf_dp] at h
          simp only [Bool.and_eq_true, decide_eq_true_eq] at h
          have := rP_to f 40 [] 0 hv hh (by omega)
          rw [← e, hp] at this
          cases this
        · rw [if_neg hok]
  · obtain ⟨e, hv, hh, _, _⟩ := rP_of hp
    have hq := pF_to f 40 r hv hh
    rw [← e] at hq
    by_cases hr : r = []
    · subst hr
      by_cases hok : formOk (ftOf f) = true
      · exact .inl ⟨f, m, rfl, by unfold parP; rw [hq]; simp only; rw [if_pos hok], hok⟩
      · refine .inr ⟨by unfold parP; rw [hq]; simp only; rw [if_neg hok], .inr ⟨f, [], m, rfl, .inr (by simpa using hok)⟩⟩
    · refine .inr ⟨?_, .inr ⟨f, r, m, rfl, .inl hr⟩⟩
      unfold parP
      rw [hq]
      cases r with
      | nil => exact absurd rfl hr
      | cons c r => rfl
theorem ParseR_spec (s : List UInt8) (hs : s.length < 100000) : PCall Tryd.prog 19 [sV s] (.t .ro (ParF s)) [] := by
  have hb := bsz s
  have hp := parsed_spec 40 (by omega) 0 (by omega) s hs
  unfold ParF foZ
  by_cases hl : 20000 < s.length
  · have hl' : (20000 : Int) < s.length := by omega
    rw [if_pos hl]
    refine pcall_wpT Tryd.func19 rfl (by kernel_rfl) ?_
    simp -dsimp [hb, hl']
    refine retT_c ?_
    simp -dsimp [nilT]
  have hl' : ¬ (20000 : Int) < s.length := by omega
  rw [if_neg hl]
  rcases rp_par s with ⟨f, m, h1, h2, h3⟩ | ⟨h2, ⟨m, h1⟩ | ⟨f, r, m, h1, hr⟩⟩
  · obtain ⟨o, a, b, ks, hz, hc⟩ := hp.1 f [] m h1
    have hfo := Formula_spec (ftOf f)
    rw [h3, hz, ftC_mk] at hfo
    rw [h2]
    simp only
    rw [hz, ftC_mk]
    unfold nM g4 ftP4 at hc
    refine pcall_wpT Tryd.func19 rfl (by kernel_rfl) ?_
    simp -dsimp [hb, hl']
    first
      | refine CallG.on (g := [(4, 1000000)]) (hc) (by decide) (by simp) (by simp) (by simp [Sg.bk]) ?_
      | refine CallN.on (g := [(4, 1000000)]) (hc) (by decide) (by simp) (by simp) (by simp [Sg.bk]) ?_
      | refine CallGB.on (g := [(4, 1000000)]) (hc) (by decide) (by simp) (by simp) (by simp [Sg.bk]) ?_
    simp -dsimp
    first
      | refine CallG.by (hfo) ?_
      | refine CallGE.by (hfo) ?_
      | refine CallGB.by (hfo) ?_
    simp -dsimp
    refine retT_c ?_
    simp -dsimp [nilT]
  · obtain ⟨r, o, a, b, ks, hc⟩ := hp.2 m h1
    rw [h2]
    simp only
    unfold nM g4 ftP4 at hc
    refine pcall_wpT Tryd.func19 rfl (by kernel_rfl) ?_
    simp -dsimp [hb, hl']
    first
      | refine CallG.on (g := [(4, 1000000)]) (hc) (by decide) (by simp) (by simp) (by simp [Sg.bk]) ?_
      | refine CallN.on (g := [(4, 1000000)]) (hc) (by decide) (by simp) (by simp) (by simp [Sg.bk]) ?_
      | refine CallGB.on (g := [(4, 1000000)]) (hc) (by decide) (by simp) (by simp) (by simp [Sg.bk]) ?_
    simp -dsimp
    refine retT_c ?_
    simp -dsimp [nilT]
  · obtain ⟨o, a, b, ks, hz, hc⟩ := hp.1 f r m h1
    have hfo := Formula_spec (ftOf f)
    rw [h2]
    simp only
    unfold nM g4 ftP4 at hc
    cases r with
    | cons c r =>
      have hcr : (c :: r != []) = true := rfl
      refine pcall_wpT Tryd.func19 rfl (by kernel_rfl) ?_
      simp -dsimp [hb, hl']
      first
        | refine CallG.on (g := [(4, 1000000)]) (hc) (by decide) (by simp) (by simp) (by simp [Sg.bk]) ?_
        | refine CallN.on (g := [(4, 1000000)]) (hc) (by decide) (by simp) (by simp) (by simp [Sg.bk]) ?_
        | refine CallGB.on (g := [(4, 1000000)]) (hc) (by decide) (by simp) (by simp) (by simp [Sg.bk]) ?_
      simp -dsimp [hcr]
      refine retT_c ?_
      simp -dsimp [nilT]
    | nil =>
      have hok := hr.resolve_left (fun h => h rfl)
      rw [hok, hz, ftC_mk] at hfo
      refine pcall_wpT Tryd.func19 rfl (by kernel_rfl) ?_
      simp -dsimp [hb, hl']
      first
        | refine CallG.on (g := [(4, 1000000)]) (hc) (by decide) (by simp) (by simp) (by simp [Sg.bk]) ?_
        | refine CallN.on (g := [(4, 1000000)]) (hc) (by decide) (by simp) (by simp) (by simp [Sg.bk]) ?_
        | refine CallGB.on (g := [(4, 1000000)]) (hc) (by decide) (by simp) (by simp) (by simp [Sg.bk]) ?_
      simp -dsimp
      first
        | refine CallG.by (hfo) ?_
        | refine CallGE.by (hfo) ?_
        | refine CallGB.by (hfo) ?_
      simp -dsimp
      refine retT_c ?_
      simp -dsimp [nilT]
end Go.Proofs.YtnikonhkbldnnaaDoor
