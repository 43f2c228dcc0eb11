import Derived.Test.YtnikonhkbldnnaaDoorLWA
/- LW18: formulas read from their texts, as the program and as the reference read them. Plain. -/
set_option linter.unusedVariables false
set_option linter.unusedSimpArgs false
namespace Go.Proofs.YtnikonhkbldnnaaDoor
def pTk (c : UInt8) : List UInt8 → Option (List UInt8)
  | x :: r => if x = c then some r else none
  | [] => none
theorem pTk_some {c : UInt8} {s r : List UInt8} : pTk c s = some r ↔ s = c :: r := by
  cases s with
  | nil => simp [pTk]
  | cons x s =>
    rw [pTk]
    split
    · simp_all
    · simp_all
def pVar (s : List UInt8) : Option (Nat × List UInt8) :=
  match pTk (ltr 0) s with
  | some r => some (0, r)
  | none => match pTk (ltr 1) s with
    | some r => some (1, r)
    | none => match pTk (ltr 2) s with
      | some r => some (2, r)
      | none => match pTk (ltr 3) s with
        | some r => some (3, r)
        | none => none
theorem lt4 {x : Nat} (h : x < 4) : x = 0 ∨ x = 1 ∨ x = 2 ∨ x = 3 := by omega
theorem pVar_cons {x : Nat} (h : x < 4) (r : List UInt8) : pVar (ltr x :: r) = some (x, r) := by
  rcases lt4 h with rfl | rfl | rfl | rfl
  all_goals
    simp only [pVar, pTk, show ltr 0 = 97 from rfl, show ltr 1 = 98 from rfl, show ltr 2 = 99 from rfl, show ltr 3 = 100 from rfl]
    simp
theorem pVar_of {s : List UInt8} {x : Nat} {r : List UInt8} (h : pVar s = some (x, r)) : x < 4 ∧ s = ltr x :: r := by
  unfold pVar at h
  split at h
  · rename_i h1
    simp at h
    obtain ⟨rfl, rfl⟩ := h
    exact ⟨by omega, pTk_some.1 h1⟩
  · split at h
    · rename_i h1
      simp at h
      obtain ⟨rfl, rfl⟩ := h
      exact ⟨by omega, pTk_some.1 h1⟩
    · split at h
      · rename_i h1
        simp at h
        obtain ⟨rfl, rfl⟩ := h
        exact ⟨by omega, pTk_some.1 h1⟩
      · split at h
        · rename_i h1
          simp at h
          obtain ⟨rfl, rfl⟩ := h
          exact ⟨by omega, pTk_some.1 h1⟩
        · cases h
/-- What the program does behind the last word. -/
def pAt (s : List UInt8) : Option (Fo × List UInt8) :=
  match pVar s with
  | none => none
  | some (x, r) => match pTk 61 r with
    | some r => match pVar r with
      | none => none
      | some (y, r) => some (.eq x y, r)
    | none => match pTk 126 r with
      | none => none
      | some r => match pVar r with
        | none => none
        | some (y, r) => some (.adj x y, r)
def pF : Nat → List UInt8 → Option (Fo × List UInt8)
  | 0, _ => none
  | d + 1, s =>
    match pTk 33 s with
    | some r => match pF d r with
      | none => none
      | some (k, r) => some (.no k, r)
    | none => match pTk 40 s with
      | some r => match pF d r with
        | none => none
        | some (a, r) => match pTk 38 r with
          | none => none
          | some r => match pF d r with
            | none => none
            | some (b, r) => match pTk 41 r with
              | none => none
              | some r => some (.an a b, r)
      | none => match pTk 69 s with
        | some r => match pVar r with
          | none => none
          | some (x, r) => match pTk 32 r with
            | none => none
            | some r => match pF d r with
              | none => none
              | some (k, r) => some (.ex x k, r)
        | none => pAt s
theorem pAt_of {s r : List UInt8} {f : Fo} (h : pAt s = some (f, r)) : s = prF f ++ r ∧ vokF f ∧ htF f = 1 ∧ szF f = 1 := by
  unfold pAt at h
  split at h
  · cases h
  · rename_i x r1 h1
    obtain ⟨hx, rfl⟩ := pVar_of h1
    split at h
    · rename_i r2 h2
      obtain rfl := pTk_some.1 h2
      split at h
      · cases h
      · rename_i y r3 h3
        obtain ⟨hy, rfl⟩ := pVar_of h3
        simp at h
        obtain ⟨rfl, rfl⟩ := h
        exact ⟨rfl, ⟨hx, hy⟩, rfl, rfl⟩
    · split at h
      · cases h
      · rename_i r2 h2
        obtain rfl := pTk_some.1 h2
        split at h
        · cases h
        · rename_i y r3 h3
          obtain ⟨hy, rfl⟩ := pVar_of h3
          simp at h
          obtain ⟨rfl, rfl⟩ := h
          exact ⟨rfl, ⟨hx, hy⟩, rfl, rfl⟩
theorem pF_of : ∀ {d : Nat} {s r : List UInt8} {f : Fo}, pF d s = some (f, r) → s = prF f ++ r ∧ vokF f ∧ htF f ≤ d
  | 0, s, r, f, h => by rw [pF] at h; cases h
  | d + 1, s, r, f, h => by
    rw [pF] at h
    split at h
    · rename_i r1 h1
      obtain rfl := pTk_some.1 h1
      split at h
      · cases h
      · rename_i k r2 h2
        obtain ⟨rfl, h3, h4⟩ := pF_of h2
        simp at h
        obtain ⟨rfl, rfl⟩ := h
        exact ⟨rfl, h3, by rw [htF]; omega⟩
    · split at h
      · rename_i r1 h1
        obtain rfl := pTk_some.1 h1
        split at h
        · cases h
        · rename_i k r2 h2
          obtain ⟨rfl, h3, h4⟩ := pF_of h2
          split at h
          · cases h
          · rename_i r3 h5
            obtain rfl := pTk_some.1 h5
            split at h
            · cases h
            · rename_i k2 r4 h6
              obtain ⟨rfl, h7, h8⟩ := pF_of h6
              split at h
              · cases h
              · rename_i r5 h9
                obtain rfl := pTk_some.1 h9
                simp at h
                obtain ⟨rfl, rfl⟩ := h
                exact ⟨by simp [prF], ⟨h3, h7⟩, by rw [htF]; omega⟩
      · split at h
        · rename_i r1 h1
          obtain rfl := pTk_some.1 h1
          split at h
          · cases h
          · rename_i x r2 h2
            obtain ⟨hx, rfl⟩ := pVar_of h2
            split at h
            · cases h
            · rename_i r3 h3
              obtain rfl := pTk_some.1 h3
              split at h
              · cases h
              · rename_i k r4 h4
                obtain ⟨rfl, h5, h6⟩ := pF_of h4
                simp at h
                obtain ⟨rfl, rfl⟩ := h
                exact ⟨rfl, ⟨hx, h5⟩, by rw [htF]; omega⟩
        · obtain ⟨h1, h2, h3, _⟩ := pAt_of h
          exact ⟨h1, h2, by omega⟩
theorem pTk_ltr {x : Nat} (hx : x < 4) {c : UInt8} (hc : c.toNat < 97) (r : List UInt8) : pTk c (ltr x :: r) = none := by
  rw [pTk, if_neg (ltr_ne hx c hc)]
theorem pTk_ne {x c : UInt8} (h : x ≠ c) (r : List UInt8) : pTk c (x :: r) = none := by rw [pTk, if_neg h]
theorem pTk_eq (c : UInt8) (r : List UInt8) : pTk c (c :: r) = some r := by rw [pTk, if_pos rfl]
theorem pF_to : ∀ (f : Fo) (d : Nat) (r : List UInt8), vokF f → htF f ≤ d → pF d (prF f ++ r) = some (f, r)
  | .eq i j, 0, r, hv, hd => by simp [htF] at hd
  | .adj i j, 0, r, hv, hd => by simp [htF] at hd
  | .no f, 0, r, hv, hd => by simp [htF] at hd
  | .an f g, 0, r, hv, hd => by simp [htF] at hd
  | .ex x f, 0, r, hv, hd => by simp [htF] at hd
  | .eq i j, d + 1, r, hv, hd => by
    simp only [pF, prF, List.cons_append, List.nil_append, pTk_ltr hv.1 (c := 33) (by decide), pTk_ltr hv.1 (c := 40) (by decide), pTk_ltr hv.1 (c := 69) (by decide), pAt, pVar_cons hv.1, pTk_eq, pVar_cons hv.2]
  | .adj i j, d + 1, r, hv, hd => by
    simp only [pF, prF, List.cons_append, List.nil_append, pTk_ltr hv.1 (c := 33) (by decide), pTk_ltr hv.1 (c := 40) (by decide), pTk_ltr hv.1 (c := 69) (by decide), pAt, pVar_cons hv.1, pTk_eq, pTk_ne (x := 126) (c := 61) (by decide), pVar_cons hv.2]
  | .no f, d + 1, r, hv, hd => by
    have ih := pF_to f d r hv (by rw [htF] at hd; omega)
    simp only [pF, prF, List.cons_append, pTk_eq, ih]
  | .an f g, d + 1, r, hv, hd => by
    have hd2 : htF f ≤ d ∧ htF g ≤ d := by rw [htF] at hd; omega
    have ih := pF_to f d (38 :: (prF g ++ 41 :: r)) hv.1 hd2.1
    have ih2 := pF_to g d (41 :: r) hv.2 hd2.2
    simp only [pF, prF, List.cons_append, List.append_assoc, List.nil_append, pTk_eq, pTk_ne (x := 40) (c := 33) (by decide), ih, ih2]
  | .ex x f, d + 1, r, hv, hd => by
    have ih := pF_to f d r hv.2 (by rw [htF] at hd; omega)
    simp only [pF, prF, List.cons_append, List.append_assoc, List.nil_append, pTk_eq, pTk_ne (x := 69) (c := 33) (by decide), pTk_ne (x := 69) (c := 40) (by decide), pVar_cons hv.1, ih]
/-- The letter of a variable. -/
def isV (c : UInt8) : Bool := decide (97 ≤ c.toNat) && decide (c.toNat ≤ 100)
theorem isV_ltr {x : Nat} (h : x < 4) : isV (ltr x) = true ∧ (ltr x).toNat - 97 = x := by
  unfold isV
  rw [ltr_toNat h]
  simp
  omega
theorem isV_of {c : UInt8} (h : isV c = true) : c.toNat - 97 < 4 ∧ c = ltr (c.toNat - 97) := by
  unfold isV at h
  simp at h
  refine ⟨by omega, ?_⟩
  apply UInt8.toNat_inj.1
  rw [ltr_toNat (by omega)]
  omega
/-- What the reference reads: with a counter of formulas. -/
def rS (w : List UInt8 → Nat → Option (Fo × List UInt8) × Nat) (s : List UInt8) (n : Nat) : Option (Fo × List UInt8) × Nat :=
  if 2000 < n + 1 then (none, n + 1) else
    match s with
    | [] => (none, n + 1)
    | c :: s1 =>
      if c = 33 then (match w s1 (n + 1) with
        | (none, m) => (none, m)
        | (some (k, r), m) => (some (.no k, r), m))
      else if c = 40 then (match w s1 (n + 1) with
        | (none, m) => (none, m)
        | (some (a, r), m) => match pTk 38 r with
          | none => (none, m)
          | some r => match w r m with
            | (none, m) => (none, m)
            | (some (b, r), m) => match pTk 41 r with
              | none => (none, m)
              | some r => (some (.an a b, r), m))
      else match s1 with
        | x :: y :: r =>
          if c = 69 ∧ isV x = true ∧ y = 32 then (match w r (n + 1) with
            | (none, m) => (none, m)
            | (some (k, r), m) => (some (.ex (x.toNat - 97) k, r), m))
          else if isV c = true ∧ (x = 61 ∨ x = 126) ∧ isV y = true then (some (if x = 61 then .eq (c.toNat - 97) (y.toNat - 97) else .adj (c.toNat - 97) (y.toNat - 97), r), n + 1)
          else (none, n + 1)
        | _ => (none, n + 1)
def rP : Nat → List UInt8 → Nat → Option (Fo × List UInt8) × Nat
  | 0, _, n => (none, n + 1)
  | d + 1, s, n => rS (rP d) s n
theorem rP_of : ∀ {d : Nat} {s r : List UInt8} {n m : Nat} {f : Fo}, rP d s n = (some (f, r), m) → s = prF f ++ r ∧ vokF f ∧ htF f ≤ d ∧ m = n + szF f ∧ m ≤ 2000
  | 0, s, r, n, m, f, h => by rw [rP] at h; cases h
  | d + 1, s, r, n, m, f, h => by
    rw [rP] at h
    unfold rS at h
    split at h
    · cases h
    · rename_i hn
      cases s with
      | nil => cases h
      | cons c s1 =>
        simp only at h
        split at h
        · rename_i hc
          subst hc
          split at h
          · cases h
          · rename_i k r2 m2 h2
            obtain ⟨rfl, h3, h4, h5, h6⟩ := rP_of h2
            simp at h
            obtain ⟨⟨rfl, rfl⟩, rfl⟩ := h
            exact ⟨rfl, h3, by rw [htF]; omega, by rw [szF]; omega, by omega⟩
        · split at h
          · rename_i hc
            subst hc
            split at h
            · cases h
            · rename_i k r2 m2 h2
              obtain ⟨rfl, h3, h4, h5, h6⟩ := rP_of h2
              split at h
              · cases h
              · rename_i r3 h7
                obtain rfl := pTk_some.1 h7
                split at h
                · cases h
                · rename_i k2 r4 m4 h8
                  obtain ⟨rfl, h9, h10, h11, h12⟩ := rP_of h8
                  split at h
                  · cases h
                  · rename_i r5 h13
                    obtain rfl := pTk_some.1 h13
                    simp at h
                    obtain ⟨⟨rfl, rfl⟩, rfl⟩ := h
                    exact ⟨by simp [prF], ⟨h3, h9⟩, by rw [htF]; omega, by rw [szF]; omega, by omega⟩
          · split at h
            · rename_i x y r2
              split at h
              · rename_i hh
                obtain ⟨rfl, hx, rfl⟩ := hh
                obtain ⟨hx1, hx2⟩ := isV_of hx
                split at h
                · cases h
                · rename_i k r3 m3 h3
                  obtain ⟨rfl, h4, h5, h6, h7⟩ := rP_of h3
                  simp at h
                  obtain ⟨⟨rfl, rfl⟩, rfl⟩ := h
                  exact ⟨by rw [prF, ← hx2]; rfl, ⟨hx1, h4⟩, by rw [htF]; omega, by rw [szF]; omega, by omega⟩
              · split at h
                · rename_i hh
                  obtain ⟨hc, hx, hy⟩ := hh
                  obtain ⟨hc1, hc2⟩ := isV_of hc
                  obtain ⟨hy1, hy2⟩ := isV_of hy
                  simp at h
                  obtain ⟨⟨rfl, rfl⟩, rfl⟩ := h
                  split
                  · rename_i hx6
                    subst hx6
                    exact ⟨by rw [prF, ← hc2, ← hy2]; rfl, ⟨hc1, hy1⟩, by rw [htF]; omega, by rw [szF], by omega⟩
                  · rename_i hx6
                    obtain rfl := hx.resolve_left hx6
                    exact ⟨by rw [prF, ← hc2, ← hy2]; rfl, ⟨hc1, hy1⟩, by rw [htF]; omega, by rw [szF], by omega⟩
                · cases h
            · cases h
theorem rP_to : ∀ (f : Fo) (d : Nat) (r : List UInt8) (n : Nat), vokF f → htF f ≤ d → n + szF f ≤ 2000 → rP d (prF f ++ r) n = (some (f, r), n + szF f)
  | .eq i j, 0, r, n, hv, hd, hn => by simp [htF] at hd
  | .adj i j, 0, r, n, hv, hd, hn => by simp [htF] at hd
  | .no f, 0, r, n, hv, hd, hn => by simp [htF] at hd
  | .an f g, 0, r, n, hv, hd, hn => by simp [htF] at hd
  | .ex x f, 0, r, n, hv, hd, hn => by simp [htF] at hd
  | .eq i j, d + 1, r, n, hv, hd, hn => by
    rw [szF] at hn ⊢
    obtain ⟨h1, h2⟩ := isV_ltr hv.1
    obtain ⟨h3, h4⟩ := isV_ltr hv.2
    rw [rP]
    unfold rS
    rw [if_neg (by omega)]
    simp only [prF, List.cons_append, List.nil_append]
    rw [if_neg (ltr_ne hv.1 33 (by decide)), if_neg (ltr_ne hv.1 40 (by decide)), if_neg (fun h => ltr_ne hv.1 69 (by decide) h.1), if_pos ⟨h1, by simp, h3⟩, h2, h4]
    simp
  | .adj i j, d + 1, r, n, hv, hd, hn => by
    rw [szF] at hn ⊢
    obtain ⟨h1, h2⟩ := isV_ltr hv.1
    obtain ⟨h3, h4⟩ := isV_ltr hv.2
    rw [rP]
    unfold rS
    rw [if_neg (by omega)]
    simp only [prF, List.cons_append, List.nil_append]
    rw [if_neg (ltr_ne hv.1 33 (by decide)), if_neg (ltr_ne hv.1 40 (by decide)), if_neg (fun h => ltr_ne hv.1 69 (by decide) h.1), if_pos ⟨h1, by simp, h3⟩, h2, h4]
    simp
  | .no f, d + 1, r, n, hv, hd, hn => by
    rw [szF] at hn ⊢
    have ih := rP_to f d r (n + 1) hv (by rw [htF] at hd; omega) (by omega)
    rw [rP]
    unfold rS
    rw [if_neg (by omega)]
    simp only [prF, List.cons_append, if_true, ih]
    rw [show n + 1 + szF f = n + (szF f + 1) by omega]
  | .an f g, d + 1, r, n, hv, hd, hn => by
    have hd2 : htF f ≤ d ∧ htF g ≤ d := by rw [htF] at hd; omega
    rw [szF] at hn ⊢
    have ih := rP_to f d (38 :: (prF g ++ 41 :: r)) (n + 1) hv.1 hd2.1 (by omega)
    have ih2 := rP_to g d (41 :: r) (n + 1 + szF f) hv.2 hd2.2 (by omega)
    rw [rP]
    unfold rS
    rw [if_neg (by omega)]
    simp only [prF, List.cons_append, List.append_assoc, List.nil_append, pTk_eq, ih, ih2, show ((40 : UInt8) = 33) = False from by decide, if_true, if_false]
    rw [show n + 1 + szF f + szF g = n + (szF f + szF g + 1) by omega]
  | .ex x f, d + 1, r, n, hv, hd, hn => by
    rw [szF] at hn ⊢
    obtain ⟨h1, h2⟩ := isV_ltr hv.1
    have ih := rP_to f d r (n + 1) hv.2 (by rw [htF] at hd; omega) (by omega)
    rw [rP]
    unfold rS
    rw [if_neg (by omega)]
    simp only [prF, List.cons_append, List.append_assoc, List.nil_append, ih, show ((69 : UInt8) = 33) = False from by decide, show ((69 : UInt8) = 40) = False from by decide, if_false, h1, h2, true_and, if_true]
    rw [show n + 1 + szF f = n + (szF f + 1) by omega]
end Go.Proofs.YtnikonhkbldnnaaDoor
