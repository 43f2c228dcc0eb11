import Derived.Test.YtgcncgocdfioiaaDoorCW3
/- CW8: graphs that are the same, and retracts, in plain Lean. -/
set_option linter.unusedVariables false
set_option linter.unusedSimpArgs false
namespace Go.Proofs.YtgcncgocdfioiaaDoor
/-- V is a retract of V'. -/
def Ret (V : Nat → Prop) (r : Nat → Nat → Prop) (V' : Nat → Prop) (r' : Nat → Nat → Prop) : Prop :=
  ∃ i p : Nat → Nat, (∀ x, V x → V' (i x)) ∧ (∀ x, V' x → V (p x)) ∧ (∀ x y, V x → V y → r x y → r' (i x) (i y)) ∧ (∀ x y, V' x → V' y → r' x y → r (p x) (p y)) ∧ ∀ x, V x → p (i x) = x
section
variable {V V' V2 : Nat → Prop} {r r' r2 : Nat → Nat → Prop}
theorem Ret.refl : Ret V r V r := ⟨id, id, fun _ h => h, fun _ h => h, fun _ _ _ _ h => h, fun _ _ _ _ h => h, fun _ _ => rfl⟩
theorem Ret.trans (h : Ret V r V' r') (h2 : Ret V' r' V2 r2) : Ret V r V2 r2 := by
  obtain ⟨i, p, h1, h3, h4, h5, h6⟩ := h
  obtain ⟨j, q, g1, g3, g4, g5, g6⟩ := h2
  exact ⟨j ∘ i, p ∘ q, fun x hx => g1 _ (h1 x hx), fun x hx => h3 _ (g3 x hx), fun x y hx hy h => g4 _ _ (h1 x hx) (h1 y hy) (h4 x y hx hy h), fun x y hx hy h => h5 _ _ (g3 x hx) (g3 y hy) (g5 x y hx hy h),
    fun x hx => by show p (q (j (i x))) = x; rw [g6 _ (h1 x hx), h6 x hx]⟩
/-- What is left without a corner is a retract. -/
theorem Ret.ofFold {u v : Nat} (hr : ∀ x, V x → r x x) (hs : ∀ x y, V x → V y → r x y → r y x) (hc : Cov V r u v) : Ret (fun x => V x ∧ x ≠ v) r V r := by
  obtain ⟨huv, hu, hv, hcov⟩ := hc
  refine ⟨id, foldC u v, fun x hx => hx.1, fun x hx => ?_, fun _ _ _ _ h => h, fun x y hx hy h => ?_, fun x hx => by simp [foldC, hx.2]⟩
  · unfold foldC
    by_cases e1 : x = v
    · simp only [e1, if_true]; exact ⟨hu, huv⟩
    · simp only [e1, if_false]; exact ⟨hx, e1⟩
  · unfold foldC
    by_cases e1 : x = v
    · by_cases e2 : y = v
      · simp only [e1, e2, if_true]; exact hr u hu
      · simp only [e1, e2, if_true, if_false]; subst e1; exact hcov y hy h
    · by_cases e2 : y = v
      · simp only [e1, e2, if_true, if_false]; subst e2; exact hs _ _ hu hx (hcov x hx (hs _ _ hx hy h))
      · simp only [e1, e2, if_false]; exact h
/-- What has no corner stays a retract of what is left without one. -/
theorem Ret.fold {t w : Nat} (hno : ∀ u v, ¬ Cov V r u v) (hr : ∀ x, V' x → r' x x) (hs : ∀ x y, V' x → V' y → r' x y → r' y x) (h : Ret V r V' r') (hc : Cov V' r' t w) : Ret V r (fun x => V' x ∧ x ≠ w) r' := by
  obtain ⟨i, p, h1, h3, h4, h5, h6⟩ := h
  obtain ⟨j, q, g1, g3, g4, g5, g6⟩ := Ret.ofFold hr hs hc
  obtain ⟨htw, ht, hw, hcov⟩ := hc
  have hfV : ∀ x, V' x → V' (foldC t w x) ∧ foldC t w x ≠ w := by
    intro x hx
    unfold foldC
    by_cases e1 : x = w
    · simp only [e1, if_true]; exact ⟨ht, htw⟩
    · simp only [e1, if_false]; exact ⟨hx, e1⟩
  have hfr : ∀ x y, V' x → V' y → r' x y → r' (foldC t w x) (foldC t w y) := by
    intro x y hx hy h
    unfold foldC
    by_cases e1 : x = w
    · by_cases e2 : y = w
      · simp only [e1, e2, if_true]; exact hr t ht
      · simp only [e1, e2, if_true, if_false]; subst e1; exact hcov y hy h
    · by_cases e2 : y = w
      · simp only [e1, e2, if_true, if_false]; subst e2; exact hs _ _ ht hx (hcov x hx (hs _ _ hx hy h))
      · simp only [e1, e2, if_false]; exact h
  refine ⟨fun x => foldC t w (i x), p, fun x hx => hfV _ (h1 x hx), fun x hx => h3 x hx.1, fun x y hx hy h => hfr _ _ (h1 x hx) (h1 y hy) (h4 x y hx hy h), fun x y hx hy h => h5 x y hx.1 hy.1 h, fun x hx => ?_⟩
  show p (foldC t w (i x)) = x
  unfold foldC
  by_cases e : i x = w
  · simp only [e, if_true]
    apply Classical.byContradiction
    intro hne
    refine hno (p t) x ⟨hne, h3 t ht, hx, fun y hy hxy => ?_⟩
    have e1 := hcov (i y) (h1 y hy) (by rw [← e]; exact h4 x y hx hy hxy)
    have e2 := h5 _ _ ht (h1 y hy) e1
    rw [h6 y hy] at e2
    exact e2
  · simp only [e, if_false]
    exact h6 x hx
/-- A retract is no greater. -/
theorem Ret.len {A B : List Nat} (hn : A.Nodup) (h : Ret (· ∈ A) r (· ∈ B) r') : A.length ≤ B.length := by
  obtain ⟨i, p, h1, h3, h4, h5, h6⟩ := h
  have : (A.map i).length ≤ B.length := by
    refine sub_len ?_ ?_
    · rw [List.Nodup, List.pairwise_map]
      refine hn.imp_of_mem ?_
      intro a b ha hb hab e
      exact hab (by rw [← h6 a ha, ← h6 b hb, e])
    · intro x hx
      obtain ⟨a, ha, rfl⟩ := List.mem_map.1 hx
      exact h1 a ha
  simpa using this
theorem Ret.win {two : Bool} (h : Ret V r V' r') {n : Nat} (hw : ∃ a b, V' a ∧ V' b ∧ (two = true ∨ a = b) ∧ ∀ c, V' c → Win V' r' two n a b c) : ∃ a b, V a ∧ V b ∧ (two = true ∨ a = b) ∧ ∀ c, V c → Win V r two n a b c := by
  obtain ⟨i, p, h1, h3, h4, h5, h6⟩ := h
  obtain ⟨a, b, ha, hb, ht, hw⟩ := hw
  exact ⟨p a, p b, h3 a ha, h3 b hb, ht.imp id (congrArg p), fun c hc => Win.retract (f := p) (g := i) h3 h1 h5 h4 h6 ha hb hc (hw _ (h1 c hc))⟩
theorem Ret.cw {two : Bool} (h : Ret V r V' r') (hw : Cw V' r' two) : Cw V r two := by
  obtain ⟨a, b, ha, hb, ht, n, hw⟩ := hw
  obtain ⟨a', b', ha', hb', ht', hw'⟩ := h.win ⟨a, b, ha, hb, ht, hw⟩
  exact ⟨a', b', ha', hb', ht', n, hw'⟩
theorem Ret.conn (h : Ret V r V' r') (hc : Conn V' r') : Conn V r := by
  obtain ⟨i, p, h1, h3, h4, h5, h6⟩ := h
  have key : ∀ x y, V' x → Way V' r' x y → Way V r (p x) (p y) := by
    intro x y hx hw
    induction hw with
    | refl => exact .refl
    | step h0 g1 g2 ih => exact .step ih (h3 _ g1) (h5 _ _ (h0.mem hx) g1 g2)
  intro x y hx hy
  have := key (i x) (i y) (h1 x hx) (hc _ _ (h1 x hx) (h1 y hy))
  rwa [h6 x hx, h6 y hy] at this
/-- The same graph under other names. -/
theorem Ret.iso {σ τ : Nat → Nat} (h1 : ∀ x, V x → V' (σ x)) (h2 : ∀ x, V' x → V (τ x)) (h3 : ∀ x y, V x → V y → (r x y ↔ r' (σ x) (σ y))) (h4 : ∀ x, V x → τ (σ x) = x) (h5 : ∀ x, V' x → σ (τ x) = x) : Ret V r V' r' ∧ Ret V' r' V r := by
  have h6 : ∀ x y, V' x → V' y → r' x y → r (τ x) (τ y) := fun x y hx hy h => (h3 _ _ (h2 x hx) (h2 y hy)).2 (by rw [h5 x hx, h5 y hy]; exact h)
  have h7 : ∀ x y, V x → V y → r x y → r' (σ x) (σ y) := fun x y hx hy h => (h3 x y hx hy).1 h
  exact ⟨⟨σ, τ, h1, h2, h7, h6, h4⟩, ⟨τ, σ, h2, h1, h6, h7, h5⟩⟩
end
end Go.Proofs.YtgcncgocdfioiaaDoor
