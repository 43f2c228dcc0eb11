import Derived.Test.YtnikonhkbldnnaaDoorLB42
/- LB43: formula of the parser reads what pF reads, or panics. -/
set_option linter.unusedVariables false
set_option linter.unusedSimpArgs false
set_option maxRecDepth 20000
namespace Go.Proofs.YtnikonhkbldnnaaDoor
open Go Go.PS
attribute [-simp] isKeyK List.map_take
def FoY (d : Nat) (s : List UInt8) (f : Fo) (r : List UInt8) : Prop := ECall Tryd.prog 54 [.ptr 1000000 0, pI d] (pM s) (ftP (ftOf f)) (pM r)
def FoN (d : Nat) (s : List UInt8) : Prop := ∃ r, XPan Tryd.prog 54 [.ptr 1000000 0, pI d] (pM s) wrC (pM r)
theorem atom_spec (d : Nat) (hd : d < 100) (s : List UInt8) (hs : s.length < 100000) (h3 : pTk 33 s = none) (h4 : pTk 40 s = none) (h5 : pTk 69 s = none) :
    (∀ f r, pAt s = some (f, r) → FoY (d + 1) s f r) ∧ (pAt s = none → FoN (d + 1) s) := by
  unfold pAt
  cases hv : pVar s with
  | none =>
    simp only
    exact ⟨fun f r h => (by cases h), fun _ => ⟨s, foAtN1 d hd s hs h3 h4 h5 hv⟩⟩
  | some p =>
    obtain ⟨x, r⟩ := p
    obtain ⟨hx, rfl⟩ := pVar_of hv
    simp only [List.length_cons] at hs
    simp only
    cases h6 : pTk 61 r with
    | some r1 =>
      obtain rfl := pTk_some.1 h6
      simp only [List.length_cons] at hs
      simp only
      cases hv2 : pVar r1 with
      | none =>
        simp only
        exact ⟨fun f r h => (by cases h), fun _ => ⟨_, foAtN3 d hd x hx r1 (by omega) h3 h4 h5 hv2⟩⟩
      | some p =>
        obtain ⟨y, r2⟩ := p
        obtain ⟨hy, rfl⟩ := pVar_of hv2
        simp only [List.length_cons] at hs
        simp only
        refine ⟨fun f r h => ?_, fun h => by cases h⟩
        simp at h
        obtain ⟨rfl, rfl⟩ := h
        have := foEqY d hd x y hx hy r2 (by omega) h3 h4 h5
        unfold FoY
        rw [ftOf]
        exact this
    | none =>
      simp only
      cases h7 : pTk 126 r with
      | none =>
        simp only
        exact ⟨fun f r h => (by cases h), fun _ => ⟨_, foAtN2 d hd x hx r (by omega) h3 h4 h5 h6 h7⟩⟩
      | some r1 =>
        obtain rfl := pTk_some.1 h7
        simp only [List.length_cons] at hs
        simp only
        cases hv2 : pVar r1 with
        | none =>
          simp only
          exact ⟨fun f r h => (by cases h), fun _ => ⟨_, foAtN4 d hd x hx r1 (by omega) h3 h4 h5 hv2⟩⟩
        | some p =>
          obtain ⟨y, r2⟩ := p
          obtain ⟨hy, rfl⟩ := pVar_of hv2
          simp only [List.length_cons] at hs
          simp only
          refine ⟨fun f r h => ?_, fun h => by cases h⟩
          simp at h
          obtain ⟨rfl, rfl⟩ := h
          have := foAdY d hd x y hx hy r2 (by omega) h3 h4 h5
          unfold FoY
          rw [ftOf]
          exact this
theorem pF_len {d : Nat} {s r : List UInt8} {f : Fo} (h : pF d s = some (f, r)) : r.length ≤ s.length := by
  obtain ⟨rfl, _, _⟩ := pF_of h
  simp
theorem formula_spec : ∀ (d : Nat), d ≤ 100 → ∀ (s : List UInt8), s.length < 100000 → (∀ f r, pF d s = some (f, r) → FoY d s f r) ∧ (pF d s = none → FoN d s)
  | 0, _, s, _ => ⟨fun f r h => (by rw [pF] at h; cases h), fun _ => ⟨s, fo0 s⟩⟩
  | d + 1, hd, s, hs => by
    have ih := formula_spec d (by omega)
    rw [pF]
    cases h3 : pTk 33 s with
    | some r =>
      obtain rfl := pTk_some.1 h3
      simp only [List.length_cons] at hs
      simp only
      have ihr := ih r (by omega)
      cases hk : pF d r with
      | none =>
        simp only
        obtain ⟨x, hx⟩ := ihr.2 hk
        exact ⟨fun f r h => (by cases h), fun _ => ⟨x, foNoN d (by omega) r x (by omega) hx⟩⟩
      | some p =>
        obtain ⟨k, r2⟩ := p
        simp only
        refine ⟨fun f r' h => ?_, fun h => by cases h⟩
        simp at h
        obtain ⟨rfl, rfl⟩ := h
        have h1 := ihr.1 k r2 hk
        unfold FoY at *
        rw [ftOf]
        obtain ⟨o, a, b, ks, hz⟩ := ft_split (ftOf k)
        rw [hz] at h1 ⊢
        exact foNoY d (by omega) r r2 (by omega) o a b ks h1
    | none =>
      simp only
      cases h4 : pTk 40 s with
      | some r =>
        obtain rfl := pTk_some.1 h4
        simp only [List.length_cons] at hs
        simp only
        have ihr := ih r (by omega)
        cases hk : pF d r with
        | none =>
          simp only
          obtain ⟨x, hx⟩ := ihr.2 hk
          exact ⟨fun f r h => (by cases h), fun _ => ⟨x, foAnN1 d (by omega) r x (by omega) hx⟩⟩
        | some p =>
          obtain ⟨k, r1⟩ := p
          have hl := pF_len hk
          have h1 := ihr.1 k r1 hk
          unfold FoY at h1
          obtain ⟨o, a, b, ks, hz⟩ := ft_split (ftOf k)
          rw [hz] at h1
          simp only
          cases h5 : pTk 38 r1 with
          | none =>
            simp only
            exact ⟨fun f r h => (by cases h), fun _ => ⟨_, foAnN2 d (by omega) r r1 (by omega) (by omega) h5 o a b ks h1⟩⟩
          | some r2 =>
            obtain rfl := pTk_some.1 h5
            simp only [List.length_cons] at hl
            simp only
            have ihr2 := ih r2 (by omega)
            cases hk2 : pF d r2 with
            | none =>
              simp only
              obtain ⟨x, hx⟩ := ihr2.2 hk2
              exact ⟨fun f r h => (by cases h), fun _ => ⟨x, foAnN3 d (by omega) r r2 x (by omega) (by omega) o a b ks h1 hx⟩⟩
            | some p =>
              obtain ⟨k2, r3⟩ := p
              have hl2 := pF_len hk2
              have h2 := ihr2.1 k2 r3 hk2
              unfold FoY at h2
              obtain ⟨o2, a2, b2, ks2, hz2⟩ := ft_split (ftOf k2)
              rw [hz2] at h2
              simp only
              cases h6 : pTk 41 r3 with
              | none =>
                simp only
                exact ⟨fun f r h => (by cases h), fun _ => ⟨_, foAnN4 d (by omega) r r2 r3 (by omega) (by omega) (by omega) h6 o a b ks o2 a2 b2 ks2 h1 h2⟩⟩
              | some r4 =>
                obtain rfl := pTk_some.1 h6
                simp only [List.length_cons] at hl2
                simp only
                refine ⟨fun f r' h => ?_, fun h => by cases h⟩
                simp at h
                obtain ⟨rfl, rfl⟩ := h
                unfold FoY
                rw [ftOf, hz, hz2]
                exact foAnY d (by omega) r r2 r4 (by omega) (by omega) (by omega) o a b ks o2 a2 b2 ks2 h1 h2
      | none =>
        simp only
        cases h5 : pTk 69 s with
        | none =>
          simp only
          exact atom_spec d (by omega) s hs h3 h4 h5
        | some r =>
          obtain rfl := pTk_some.1 h5
          simp only [List.length_cons] at hs
          simp only
          cases hv : pVar r with
          | none =>
            simp only
            exact ⟨fun f r h => (by cases h), fun _ => ⟨_, foExN1 d (by omega) r (by omega) hv⟩⟩
          | some p =>
            obtain ⟨x, r1⟩ := p
            obtain ⟨hx, rfl⟩ := pVar_of hv
            simp only [List.length_cons] at hs
            simp only
            cases h6 : pTk 32 r1 with
            | none =>
              simp only
              exact ⟨fun f r h => (by cases h), fun _ => ⟨_, foExN2 d (by omega) x hx r1 (by omega) h6⟩⟩
            | some r2 =>
              obtain rfl := pTk_some.1 h6
              simp only [List.length_cons] at hs
              simp only
              have ihr := ih r2 (by omega)
              cases hk : pF d r2 with
              | none =>
                simp only
                obtain ⟨y, hy⟩ := ihr.2 hk
                exact ⟨fun f r h => (by cases h), fun _ => ⟨y, foExN3 d (by omega) x hx r2 y (by omega) hy⟩⟩
              | some p =>
                obtain ⟨k, r3⟩ := p
                have h1 := ihr.1 k r3 hk
                unfold FoY at h1
                obtain ⟨o, a, b, ks, hz⟩ := ft_split (ftOf k)
                rw [hz] at h1
                simp only
                refine ⟨fun f r' h => ?_, fun h => by cases h⟩
                simp at h
                obtain ⟨rfl, rfl⟩ := h
                unfold FoY
                rw [ftOf, hz]
                exact foExY d (by omega) x hx r2 r3 (by omega) o a b ks h1
end Go.Proofs.YtnikonhkbldnnaaDoor
