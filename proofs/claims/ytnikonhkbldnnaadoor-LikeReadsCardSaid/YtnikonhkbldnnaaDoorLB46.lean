import Derived.Test.YtnikonhkbldnnaaDoorLB45
/- LB46: Parse. -/
set_option linter.unusedVariables false
set_option linter.unusedSimpArgs false
set_option maxRecDepth 20000
namespace Go.Proofs.YtnikonhkbldnnaaDoor
open Go Go.PS
attribute [-simp] isKeyK List.map_take
/-- What a whole string is read as. -/
def parP (s : List UInt8) : Option Fo :=
  match pF 40 s with
  | some (f, []) => if formOk (ftOf f) = true then some f else none
  | _ => none
def ParF (s : List UInt8) : TL := if 20000 < s.length then .tup [.agg foZ, eI 6] else match parP s with
  | some f => .tup [.agg (ftC (ftOf f)), eI 0]
  | none => .tup [.agg foZ, eI 3]
def ftP4 (o : ByteArray) (a b : Int) (ks : List FT) : List PV := [.t .fz (.v (.string o)), pI a, pI b, .t .ro (.sl .any 4 (ks.map ftC))]
theorem parse_spec (s : List UInt8) (hs : s.length < 100000) : (∃ f o a b ks, parP s = some f ∧ ftOf f = .mk o a b ks ∧ ECall Tryd.prog 38 [.t .fz (sV s)] [] (.tup [.agg (ftP4 o a b ks), pB true]) []) ∨
    (parP s = none ∧ ((∃ o a b ks, ECall Tryd.prog 38 [.t .fz (sV s)] [] (.tup [.agg (ftP4 o a b ks), pB false]) []) ∨ ECall Tryd.prog 38 [.t .fz (sV s)] [] (.tup [.agg zC, pB false]) [])) := by
  unfold parP
  cases h : pF 40 s with
  | none => exact .inr ⟨rfl, .inr (parse_no s hs h)⟩
  | some p =>
    obtain ⟨f, r⟩ := p
    obtain ⟨o, a, b, ks, hz⟩ := ft_split (ftOf f)
    cases r with
    | nil =>
      simp only
      cases hok : formOk (ftOf f) with
      | true =>
        rw [hz] at hok
        exact .inl ⟨f, o, a, b, ks, by simp, hz, parse_all s hs f o a b ks hz true hok h⟩
      | false =>
        rw [hz] at hok
        exact .inr ⟨by simp, .inl ⟨o, a, b, ks, parse_all s hs f o a b ks hz false hok h⟩⟩
    | cons c r => exact .inr ⟨rfl, .inl ⟨o, a, b, ks, parse_rest s hs f c r o a b ks hz _ rfl h⟩⟩
theorem Parse_spec (s : List UInt8) (hs : s.length < 100000) : PCall Tryd.prog 18 [sV s] (.t .ro (ParF s)) [] := by
  have hb := bsz s
  have hp := parse_spec s hs
  unfold ParF foZ
  by_cases hl : 20000 < s.length
  · have hl' : (20000 : Int) < s.length := by omega
    rw [if_pos hl]
    refine pcall_wpT Tryd.func18 rfl (by kernel_rfl) ?_
    simp -dsimp [hb, hl']
    refine retT_c ?_
    simp -dsimp [nilT]
  · have hl' : ¬ (20000 : Int) < s.length := by omega
    rw [if_neg hl]
    rcases hp with ⟨f, o, a, b, ks, h1, h2, h3⟩ | ⟨h1, ⟨o, a, b, ks, h3⟩ | h3⟩
    · rw [h1]
      simp only
      rw [h2, ftC_mk]
      unfold ftP4 at h3
      refine pcall_wpT Tryd.func18 rfl (by kernel_rfl) ?_
      simp -dsimp [hb, hl']
      first
        | refine CallG.on (g := []) (h3) (by decide) (by simp) (by simp) (by simp [Sg.bk]) ?_
        | refine CallN.on (g := []) (h3) (by decide) (by simp) (by simp) (by simp [Sg.bk]) ?_
        | refine CallGB.on (g := []) (h3) (by decide) (by simp) (by simp) (by simp [Sg.bk]) ?_
      simp -dsimp
      refine retT_c ?_
      simp -dsimp [nilT]
    · rw [h1]
      simp only
      unfold ftP4 at h3
      refine pcall_wpT Tryd.func18 rfl (by kernel_rfl) ?_
      simp -dsimp [hb, hl']
      first
        | refine CallG.on (g := []) (h3) (by decide) (by simp) (by simp) (by simp [Sg.bk]) ?_
        | refine CallN.on (g := []) (h3) (by decide) (by simp) (by simp) (by simp [Sg.bk]) ?_
        | refine CallGB.on (g := []) (h3) (by decide) (by simp) (by simp) (by simp [Sg.bk]) ?_
      simp -dsimp
      refine retT_c ?_
      simp -dsimp [nilT]
    · rw [h1]
      simp only
      unfold zC at h3
      refine pcall_wpT Tryd.func18 rfl (by kernel_rfl) ?_
      simp -dsimp [hb, hl']
      first
        | refine CallG.on (g := []) (h3) (by decide) (by simp) (by simp) (by simp [Sg.bk]) ?_
        | refine CallN.on (g := []) (h3) (by decide) (by simp) (by simp) (by simp [Sg.bk]) ?_
        | refine CallGB.on (g := []) (h3) (by decide) (by simp) (by simp) (by simp [Sg.bk]) ?_
      simp -dsimp
      refine retT_c ?_
      simp -dsimp [nilT]
end Go.Proofs.YtnikonhkbldnnaaDoor
