import Derived.Test.YtnikonhkbldnnaaGreatDoorLWA
/- LW18: formulas read from their texts, as the program and as the reference read them. Plain. -/
set_option linter.unusedVariables false
set_option linter.unusedSimpArgs false
namespace Go.Proofs.YtnikonhkbldnnaaGreatDoor
def pTk (c : UInt8) : List UInt8 → Option (List UInt8)
  | x :: r => if x = c then some r else none
  | [] => none
theorem pTk_some {c : UInt8} {s r : List UInt8} : pTk c s = some r ↔ s = c :: r := by
  cases s with
  | nil => simp [pTk]
  | cons x s =>
    rw [pTk]
    split
    · simp_all
    · simp_all
def pVar (s : List UInt8) : Option (Nat × List UInt8) :=
  match pTk (ltr 0) s with
  | some r => some (0, r)
  | none => match pTk (ltr 1) s with
    | some r => some (1, r)
    | none => match pTk (ltr 2) s with
      | some r => some (2, r)
      | none => match pTk (ltr 3) s with
        | some r => some (3, r)
        | none => none
theorem lt4 {x : Nat} (h : x < 4) : x = 0 ∨ x = 1 ∨ x = 2 ∨ x = 3 := by omega
theorem pVar_cons {x : Nat} (h : x < 4) (r : List UInt8) : pVar (ltr x :: r) = some (x, r) := by
  rcases lt4 h with rfl | rfl | rfl | rfl
  all_goals
    simp only [pVar, pTk, show ltr 0 = 97 from rfl, show ltr 1 = 98 from rfl, show ltr 2 = 99 from rfl, show ltr 3 = 100 from rfl]
    simp
theorem pVar_of {s : List UInt8} {x : Nat} {r : List UInt8} (h : pVar s = some (x, r)) : x < 4 ∧ s = ltr x :: r := by
  unfold pVar at h
  split at h
  · rename_i h1
    simp at h
    obtain ⟨rfl, rfl⟩ := h
    exact ⟨by omega, pTk_some.1 h1⟩
  · split at h
    · rename_i h1
      simp at h
      obtain ⟨rfl, rfl⟩ := h
      exact ⟨by omega, pTk_some.1 h1⟩
    · split at h
      · rename_i h1
        simp at h
        obtain ⟨rfl, rfl⟩ := h
        exact ⟨by omega, pTk_some.1 h1⟩
      · split at h
        · rename_i h1
          simp at h
          obtain ⟨rfl, rfl⟩ := h
          exact ⟨by omega, pTk_some.1 h1⟩
        · cases h
/-- What the program does behind the last word. -/
def pAt (s : List UInt8) : Option (Fo × List UInt8) :=
  match pVar s with
  | none => none
  | some (x, r) => match pTk 61 r with
    | some r => match pVar r with
      | none => none
      | some (y, r) => some (.eq x y, r)
    | none => match pTk 126 r with
      | none => none
      | some r => match pVar r with
        | none => none
        | some (y, r) => some (.adj x y, r)
def pF : Nat → List UInt8 → Option (Fo × List UInt8)
  | 0, _ => none
  | d + 1, s =>
    match pTk 33 s with
    | some r => match pF d r with
      | none => none
      | some (k, r) => some (.no k, r)
    | none => match pTk 40 s with
      | some r => match pF d r with
        | none => none
        | some (a, r) => match pTk 38 r with
          | none => none
          | some r => match pF d r with
            | none => none
            | some (b, r) => match pTk 41 r with
              | none => none
              | some r => some (.an a b, r)
      | none => match pTk 69 s with
        | some r => match pVar r with
          | none => none
          | some (x, r) => match pTk 32 r with
            | none => none
            | some r => match pF d r with
              | none => none
              | some (k, r) => some (.ex x k, r)
        | none => pAt s
theorem pAt_of {s r : List UInt8} {f : Fo} (h : pAt s = some (f, r)) : s = prF f ++ r ∧ vokF f ∧ htF f = 1 ∧ szF f = 1 := by
  unfold pAt at h
  split at h
  · cases h
  · rename_i x r1 h1
    obtain ⟨hx, rfl⟩ := pVar_of h1
    split at h
    · rename_i r2 h2
      obtain rfl := pTk_some.1 h2
      split at h
      · cases h
      · rename_i y r3 h3
        obtain ⟨hy, rfl⟩ := pVar_of h3
        simp at h
        obtain ⟨rfl, rfl⟩ := h
        exact ⟨rfl, ⟨hx, hy⟩, rfl, rfl⟩
    · split at h
      · cases h
      · rename_i r2 h2
        obtain rfl := pTk_some.1 h2
        split at h
        · cases h
        · rename_i y r3 h3
          obtain ⟨hy, rfl⟩ := pVar_of h3
          simp at h
          obtain ⟨rfl, rfl⟩ := h
          exact ⟨rfl, ⟨hx, hy⟩, rfl, rfl⟩
theorem pF_of : ∀ {d : Nat} {s r : List UInt8} {f : Fo}, pF d s = some (f, r) → s = prF f ++ r ∧ vokF f ∧ htF f ≤ d
  | 0, s, r, f, h => by rw [pF] at h; cases h
  | d + 1, s, r, f, h => by
    rw [pF] at h
    split at h
    · rename_i r1 h1
      obtain rfl := pTk_some.1 h1
      split at h
      · cases h
      · rename_i k r2 h2
        obtain ⟨rfl, h3, h4⟩ := pF_of h2
        simp at h
        obtain ⟨rfl, rfl⟩ := h
        exact ⟨rfl, h3, by rw [htF]; omega⟩
    · split at h
      · rename_i r1 h1
        obtain rfl := pTk_some.1 h1
        split at h
        · cases h
        · rename_i k r2 h2
          obtain ⟨rfl, h3, h4⟩ := pF_of h2
          split at h
          · cases h
          · rename_i r3 h5
            obtain rfl := pTk_some.1 h5
            split at h
            · cases h
            · rename_i k2 r4 h6
              obtain ⟨rfl, h7, h8⟩ := pF_of h6
              split at h
              · cases h
              · rename_i r5 h9
                obtain rfl := pTk_some.1 h9
                simp at h
                obtain ⟨rfl, rfl⟩ := h
                exact ⟨by simp [prF], ⟨h3, h7⟩, by rw [htF]; omega⟩
      · split at h
        · rename_i r1 h1
          obtain rfl := pTk_some.1 h1
          split at h
          · cases h
          · rename_i x r2 h2
            obtain ⟨hx, rfl⟩ := pVar_of h2
            split at h
            · cases h
            · rename_i r3 h3
              obtain rfl := pTk_some.1 h3
              split at h
              · cases h
              · rename_i k r4 h4
                obtain ⟨rfl, h5, h6⟩ := pF_of h4
                simp at h
                obtain ⟨rfl, rfl⟩ := h
                exact ⟨rfl, ⟨hx, h5⟩, by rw [htF]; omega⟩
        · obtain ⟨h1, h2, h3, _⟩ := pAt_of h
          exact ⟨h1, h2, by omega⟩
theorem pTk_ltr {x : Nat} (hx : x < 4) {c : UInt8} (hc : c.toNat < 97) (r : List UInt8) : pTk c (ltr x :: r) = none := by
  rw [pTk, if_neg (ltr_ne hx c hc)]
theorem pTk_ne {x c : UInt8} (h : x ≠ c) (r : List UInt8) : pTk c (x :: r) = none := by rw [pTk, if_neg h]
theorem pTk_eq (c : UInt8) (r : List UInt8) : pTk c (c :: r) = some r := by rw [pTk, if_pos rfl]
theorem pF_to : ∀ (f : Fo) (d : Nat) (r : List UInt8), vokF f → htF f ≤ d → pF d (prF f ++ r) = some (f, r)
  | .eq i j, 0, r, hv, hd => by simp [htF] at hd
  | .adj i j, 0, r, hv, hd => by simp [htF] at hd
  | .no f, 0, r, hv, hd => by simp [htF] at hd
  | .an f g, 0, r, hv, hd => by simp [htF] at hd
  | .ex x f, 0, r, hv, hd => by simp [htF] at hd
  | .eq i j, d + 1, r, hv, hd => by
    simp only [pF, prF, List.cons_append, List.nil_append, pTk_ltr hv.1 (c := 33) (by decide), pTk_ltr hv.1 (c := 40) (by decide), pTk_ltr hv.1 (c := 69) (by decide), pAt, pVar_cons hv.1, pTk_eq, pVar_cons hv.2]
  | .adj i j, d + 1, r, hv, hd => by
    simp only [pF, prF, List.cons_append, List.nil_append, pTk_ltr hv.1 (c := 33) (by decide), pTk_ltr hv.1 (c := 40) (by decide), pTk_ltr hv.1 (c := 69) (by decide), pAt, pVar_cons hv.1, pTk_eq, pTk_ne (x := 126) (c := 61) (by decide), pVar_cons hv.2]
  | .no f, d + 1, r, hv, hd => by
    have ih := pF_to f d r hv (by rw [htF] at hd; omega)
    simp only [pF, prF, List.cons_append, pTk_eq, ih]
  | .an f g, d + 1, r, hv, hd => by
    have hd2 : htF f ≤ d ∧ htF g ≤ d := by rw [htF] at hd; omega
    have ih := pF_to f d (38 :: (prF g ++ 41 :: r)) hv.1 hd2.1
    have ih2 := pF_to g d (41 :: r) hv.2 hd2.2
    simp only [pF, prF, List.cons_append, List.append_assoc, List.nil_append, pTk_eq, pTk_ne (x := 40) (c := 33) (by decide), ih, ih2]
  | .ex x f, d + 1, r, hv, hd => by
    have ih := pF_to f d r hv.2 (by rw [htF] at hd; omega)
    simp only [pF, prF, List.cons_append, List.append_assoc, List.nil_append, pTk_eq, pTk_ne (x := 69) (c := 33) (by decide), pTk_ne (x := 69) (c := 40) (by decide), pVar_cons hv.1, ih]
end Go.Proofs.YtnikonhkbldnnaaGreatDoor
