import Derived.Test.YtgcncgocdfioiaaDoorCA1
/- CW1: the game of sweeps and a cat, in plain Lean: within how many moves the cat is caught; retracts; corners. -/
set_option linter.unusedVariables false
set_option linter.unusedSimpArgs false
namespace Go.Proofs.YtgcncgocdfioiaaDoor
/-- Within n moves of the sweeps the cat is caught, whatever it does. -/
def Win (V : Nat → Prop) (r : Nat → Nat → Prop) (two : Bool) : Nat → Nat → Nat → Nat → Prop
  | 0, a, b, c => c = a ∨ c = b
  | n + 1, a, b, c => Win V r two n a b c ∨ ∃ a' b', V a' ∧ V b' ∧ r a a' ∧ r b b' ∧ (two = true ∨ a' = b') ∧ (c = a' ∨ c = b' ∨ ∀ c', V c' → r c c' → Win V r two n a' b' c')
section
variable {V : Nat → Prop} {r : Nat → Nat → Prop} {two : Bool}
theorem Win.succ {n a b c : Nat} (h : Win V r two n a b c) : Win V r two (n + 1) a b c := .inl h
theorem Win.le {n m a b c : Nat} (h : Win V r two n a b c) (hm : n ≤ m) : Win V r two m a b c := by
  induction m with
  | zero => have : n = 0 := by omega
            subst this; exact h
  | succ m ih =>
    rcases Nat.lt_or_ge n (m + 1) with h1 | h1
    · exact (ih (by omega)).succ
    · have : n = m + 1 := by omega
      subst this; exact h
theorem Win.step {n a b c a' b' : Nat} (h1 : V a') (h2 : V b') (h3 : r a a') (h4 : r b b') (h5 : two = true ∨ a' = b') (h : c = a' ∨ c = b' ∨ ∀ c', V c' → r c c' → Win V r two n a' b' c') : Win V r two (n + 1) a b c := .inr ⟨a', b', h1, h2, h3, h4, h5, h⟩
theorem Win.caught {n a b c : Nat} (h : c = a ∨ c = b) : Win V r two n a b c := Win.le (n := 0) h (by omega)
theorem Win.swap {n : Nat} : ∀ {a b c : Nat}, Win V r two n a b c → Win V r two n b a c := by
  induction n with
  | zero => exact fun h => h.symm
  | succ n ih =>
    intro a b c h
    rcases h with h | ⟨a', b', h1, h2, h3, h4, h5, h⟩
    · exact .inl (ih h)
    · refine .inr ⟨b', a', h2, h1, h4, h3, h5.imp id Eq.symm, ?_⟩
      rcases h with h | h | h
      · exact .inr (.inl h)
      · exact .inl h
      · exact .inr (.inr fun c' q1 q2 => ih (h c' q1 q2))
/-- Two sweeps do what one does. -/
theorem Win.ofOne {n : Nat} : ∀ {a b c : Nat}, Win V r false n a b c → Win V r two n a b c := by
  induction n with
  | zero => exact fun h => h
  | succ n ih =>
    intro a b c h
    rcases h with h | ⟨a', b', h1, h2, h3, h4, h5, h⟩
    · exact .inl (ih h)
    · refine .inr ⟨a', b', h1, h2, h3, h4, h5.elim (fun h => by cases h) .inr, ?_⟩
      exact h.imp id (.imp id fun h c' q1 q2 => ih (h c' q1 q2))
/-- The image of the cat in a retract is caught first. -/
theorem Win.retract {V' : Nat → Prop} {r' : Nat → Nat → Prop} {f g : Nat → Nat} (hfV : ∀ x, V x → V' (f x)) (hgV : ∀ x, V' x → V (g x)) (hf : ∀ x y, V x → V y → r x y → r' (f x) (f y))
    (hg : ∀ x y, V' x → V' y → r' x y → r (g x) (g y)) (hfg : ∀ x, V' x → f (g x) = x) {n : Nat} : ∀ {a b c : Nat}, V a → V b → V' c → Win V r two n a b (g c) → Win V' r' two n (f a) (f b) c := by
  induction n with
  | zero =>
    intro a b c ha hb hc h
    rcases h with h | h
    · exact .inl (by rw [← hfg c hc, h])
    · exact .inr (by rw [← hfg c hc, h])
  | succ n ih =>
    intro a b c ha hb hc h
    rcases h with h | ⟨a', b', h1, h2, h3, h4, h5, h⟩
    · exact .inl (ih ha hb hc h)
    · refine .inr ⟨f a', f b', hfV _ h1, hfV _ h2, hf _ _ ha h1 h3, hf _ _ hb h2 h4, h5.imp id (congrArg f), ?_⟩
      rcases h with h | h | h
      · exact .inl (by rw [← hfg c hc, h])
      · exact .inr (.inl (by rw [← hfg c hc, h]))
      · exact .inr (.inr fun c' q1 q2 => ih h1 h2 q1 (h _ (hgV _ q1) (hg _ _ hc q1 q2)))
/-- Who can be reached in one move is caught by it. -/
theorem Win.one {a b c : Nat} (ha : V a) (hb : V b) (hc : V c) (hr : ∀ x, V x → r x x) (ht : two = true ∨ a = b) (h : r a c) : Win V r two 1 a b c := by
  cases two with
  | true => exact .inr ⟨c, b, hc, hb, h, hr b hb, .inl rfl, .inl rfl⟩
  | false =>
    have e : a = b := ht.elim (fun h => by cases h) id
    subst e
    exact .inr ⟨c, c, hc, hc, h, h, .inr rfl, .inl rfl⟩
/-- u covers v: what is beside v is beside u. -/
def Cov (V : Nat → Prop) (r : Nat → Nat → Prop) (u v : Nat) : Prop := u ≠ v ∧ V u ∧ V v ∧ ∀ x, V x → r v x → r u x
def foldC (u v c : Nat) : Nat := if c = v then u else c
/-- A corner given back: one move more. -/
theorem Win.corner {u v : Nat} (hr : ∀ x, V x → r x x) (hs : ∀ x y, V x → V y → r x y → r y x) (hc : Cov V r u v) {n : Nat} :
    ∀ {a b c : Nat}, V a → V b → V c → (two = true ∨ a = b) → Win (fun x => V x ∧ x ≠ v) r two n a b (foldC u v c) → Win V r two (n + 1) a b c := by
  obtain ⟨huv, hu, hv, hcov⟩ := hc
  have hvu : r u v := hcov v hv (hr v hv)
  have hmap : ∀ x y, V x → V y → r x y → r (foldC u v x) (foldC u v y) := by
    intro x y hx hy h
    unfold foldC
    by_cases e1 : x = v
    · by_cases e2 : y = v
      · simp only [e1, e2, if_true]; exact hr u hu
      · simp only [e1, e2, if_true, if_false]; subst e1; exact hcov y hy h
    · by_cases e2 : y = v
      · simp only [e1, e2, if_true, if_false]; subst e2; exact hs _ _ hu hx (hcov x hx (hs _ _ hx hy h))
      · simp only [e1, e2, if_false]; exact h
  have hfV : ∀ x, V x → V (foldC u v x) ∧ foldC u v x ≠ v := by
    intro x hx
    unfold foldC
    by_cases e1 : x = v
    · simp only [e1, if_true]; exact ⟨hu, huv⟩
    · simp only [e1, if_false]; exact ⟨hx, e1⟩
  -- a cat whose image stands with a sweep is caught by it in one move more
  have key : ∀ {a b c : Nat}, V a → V b → V c → (two = true ∨ a = b) → foldC u v c = a ∨ foldC u v c = b → ∀ c', V c' → r c c' → Win V r two 1 a b c' := by
    intro a b c ha hb hc ht h c' hc' hcc
    have h1 : r (foldC u v c) c' := by
      unfold foldC
      by_cases e : c = v
      · simp only [e, if_true]; subst e; exact hcov c' hc' hcc
      · simp only [e, if_false]; exact hcc
    rcases h with h | h
    · rw [h] at h1; exact .one ha hb hc' hr ht h1
    · rw [h] at h1; exact (Win.one hb ha hc' hr (ht.imp id Eq.symm) h1).swap
  induction n with
  | zero =>
    intro a b c ha hb hc ht h
    by_cases e : c = v
    · subst e
      have e2 : foldC u c c = u := by simp [foldC]
      rw [e2] at h
      rcases h with h | h
      · subst h; exact .one ha hb hc hr ht hvu
      · subst h; exact (Win.one hb ha hc hr (ht.imp id Eq.symm) hvu).swap
    · have e2 : foldC u v c = c := by simp [foldC, e]
      rw [e2] at h
      exact .inl h
  | succ n ih =>
    intro a b c ha hb hc ht h
    rcases h with h | ⟨a', b', ⟨h1, h1'⟩, ⟨h2, h2'⟩, h3, h4, h5, h⟩
    · exact .inl (ih ha hb hc ht h)
    · refine .inr ⟨a', b', h1, h2, h3, h4, h5, .inr (.inr fun c' q1 q2 => ?_)⟩
      rcases h with h | h | h
      · exact (key h1 h2 hc h5 (.inl h) c' q1 q2).le (by omega)
      · exact (key h1 h2 hc h5 (.inr h) c' q1 q2).le (by omega)
      · exact ih h1 h2 q1 h5 (h _ (hfV _ q1) (hmap _ _ hc q1 q2))
/-- A corner taken away: no move more. -/
theorem Win.fold {u v : Nat} (hr : ∀ x, V x → r x x) (hs : ∀ x y, V x → V y → r x y → r y x) (hc : Cov V r u v) {n a b c : Nat} (ha : V a) (hb : V b) (hcV : V c) (hcv : c ≠ v)
    (h : Win V r two n a b c) : Win (fun x => V x ∧ x ≠ v) r two n (foldC u v a) (foldC u v b) c := by
  obtain ⟨huv, hu, hv, hcov⟩ := hc
  refine Win.retract (f := foldC u v) (g := id) ?_ ?_ ?_ ?_ ?_ ha hb ⟨hcV, hcv⟩ h
  · intro x hx
    unfold foldC
    by_cases e1 : x = v
    · simp only [e1, if_true]; exact ⟨hu, huv⟩
    · simp only [e1, if_false]; exact ⟨hx, e1⟩
  · exact fun x hx => hx.1
  · intro x y hx hy h
    unfold foldC
    by_cases e1 : x = v
    · by_cases e2 : y = v
      · simp only [e1, e2, if_true]; exact hr u hu
      · simp only [e1, e2, if_true, if_false]; subst e1; exact hcov y hy h
    · by_cases e2 : y = v
      · simp only [e1, e2, if_true, if_false]; subst e2; exact hs _ _ hu hx (hcov x hx (hs _ _ hx hy h))
      · simp only [e1, e2, if_false]; exact h
  · exact fun x y _ _ h => h
  · intro x hx
    simp [foldC, hx.2]
/-- Who is no corner escapes one sweep. -/
theorem Win.never (hr : ∀ x, V x → r x x) (hs : ∀ x y, V x → V y → r x y → r y x) (hno : ∀ u v, ¬ Cov V r u v) {n : Nat} : ∀ {a c : Nat}, V a → V c → ¬ r a c → a ≠ c → ¬ Win V r false n a a c := by
  induction n with
  | zero => intro a c ha hc hn hne h; rcases h with h | h <;> exact hne h.symm
  | succ n ih =>
    intro a c ha hc hn hne h
    rcases h with h | ⟨a', b', h1, h2, h3, h4, h5, h⟩
    · exact ih ha hc hn hne h
    · have e : a' = b' := h5.elim (fun h => by cases h) id
      subst e
      have hca : c ≠ a' := fun e => hn (by rw [e]; exact h3)
      rcases h with h | h | h
      · exact hca h
      · exact hca h
      · have h6 : ∃ c', V c' ∧ r c c' ∧ ¬ r a' c' := by
          by_cases h7 : ∃ c', V c' ∧ r c c' ∧ ¬ r a' c'
          · exact h7
          · exfalso
            refine hno a' c ⟨hca.symm, h1, hc, fun x hx hcx => ?_⟩
            by_cases h8 : r a' x
            · exact h8
            · exact absurd ⟨x, hx, hcx, h8⟩ h7
        obtain ⟨c', q1, q2, q3⟩ := h6
        by_cases e : a' = c'
        · subst e
          exact q3 (hr _ h1)
        · exact ih h1 q1 q3 e (h c' q1 q2)
end
end Go.Proofs.YtgcncgocdfioiaaDoor
