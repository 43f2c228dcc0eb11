import Derived.Test.YtgcncgocdfioiaaDoorCW1
/- CW2: ways, walks of one sweep, and who catches the cat. -/
set_option linter.unusedVariables false
set_option linter.unusedSimpArgs false
namespace Go.Proofs.YtgcncgocdfioiaaDoor
/-- A way within a set. -/
inductive Way (X : Nat → Prop) (r : Nat → Nat → Prop) (a : Nat) : Nat → Prop
  | refl : Way X r a a
  | step {b c : Nat} : Way X r a b → X c → r b c → Way X r a c
def Conn (X : Nat → Prop) (r : Nat → Nat → Prop) : Prop := ∀ x y, X x → X y → Way X r x y
/-- The sweeps catch the cat after some choice. -/
def Cw (V : Nat → Prop) (r : Nat → Nat → Prop) (two : Bool) : Prop := ∃ a b, V a ∧ V b ∧ (two = true ∨ a = b) ∧ ∃ n, ∀ c, V c → Win V r two n a b c
section
variable {X V : Nat → Prop} {r : Nat → Nat → Prop}
theorem Way.trans {a b c : Nat} (h : Way X r a b) (h2 : Way X r b c) : Way X r a c := by
  induction h2 with
  | refl => exact h
  | step _ h3 h4 ih => exact .step ih h3 h4
theorem Way.mem {a b : Nat} (h : Way X r a b) (ha : X a) : X b := by
  cases h with
  | refl => exact ha
  | step _ h _ => exact h
theorem Way.mono {Y : Nat → Prop} (hXY : ∀ x, X x → Y x) {a b : Nat} (h : Way X r a b) : Way Y r a b := by
  induction h with
  | refl => exact .refl
  | step _ h1 h2 ih => exact .step ih (hXY _ h1) h2
theorem Way.symm (hs : ∀ x y, X x → X y → r x y → r y x) {a b : Nat} (ha : X a) (h : Way X r a b) : Way X r b a := by
  induction h with
  | refl => exact .refl
  | step h0 h1 h2 ih => exact Way.trans (.step .refl (h0.mem ha) (hs _ _ (h0.mem ha) h1 h2)) ih
/-- Where a way leaves a part. -/
theorem Way.leave {P : Nat → Prop} {a b : Nat} (h : Way X r a b) (hX : X a) (ha : P a) (hb : ¬ P b) : ∃ x y, X x ∧ X y ∧ P x ∧ ¬ P y ∧ r x y := by
  induction h with
  | refl => exact absurd ha hb
  | @step b c h0 h1 h2 ih =>
    by_cases h : P b
    · exact ⟨b, c, h0.mem hX, h1, h, hb, h2⟩
    · exact ih h
/-- A way within what is left without a corner. -/
theorem Way.fold {u v : Nat} (hr : ∀ x, V x → r x x) (hs : ∀ x y, V x → V y → r x y → r y x) (hc : Cov V r u v) {a b : Nat} (ha : V a) (h : Way V r a b) : Way (fun x => V x ∧ x ≠ v) r (foldC u v a) (foldC u v b) := by
  obtain ⟨huv, hu, hv, hcov⟩ := hc
  induction h with
  | refl => exact .refl
  | @step b c h0 h1 h2 ih =>
    have hb := h0.mem ha
    refine .step ih ?_ ?_
    · unfold foldC
      by_cases e1 : c = v
      · simp only [e1, if_true]; exact ⟨hu, huv⟩
      · simp only [e1, if_false]; exact ⟨h1, e1⟩
    · unfold foldC
      by_cases e1 : b = v
      · by_cases e2 : c = v
        · simp only [e1, e2, if_true]; exact hr u hu
        · simp only [e1, e2, if_true, if_false]; subst e1; exact hcov c h1 h2
      · by_cases e2 : c = v
        · simp only [e1, e2, if_true, if_false]; subst e2; exact hs _ _ hu hb (hcov b hb (hs _ _ hb h1 h2))
        · simp only [e1, e2, if_false]; exact h2
theorem Conn.fold {u v : Nat} (hr : ∀ x, V x → r x x) (hs : ∀ x y, V x → V y → r x y → r y x) (hc : Cov V r u v) (h : Conn V r) : Conn (fun x => V x ∧ x ≠ v) r := by
  intro x y hx hy
  have := (h x y hx.1 hy.1).fold hr hs hc hx.1
  simpa [foldC, hx.2, hy.2] using this
theorem Cw.corner {u v : Nat} {two : Bool} (hr : ∀ x, V x → r x x) (hs : ∀ x y, V x → V y → r x y → r y x) (hc : Cov V r u v) : Cw V r two ↔ Cw (fun x => V x ∧ x ≠ v) r two := by
  have hfV : ∀ x, V x → V (foldC u v x) ∧ foldC u v x ≠ v := by
    intro x hx
    unfold foldC
    by_cases e1 : x = v
    · simp only [e1, if_true]; exact ⟨hc.2.1, hc.1⟩
    · simp only [e1, if_false]; exact ⟨hx, e1⟩
  constructor
  · rintro ⟨a, b, ha, hb, ht, n, h⟩
    exact ⟨foldC u v a, foldC u v b, hfV a ha, hfV b hb, ht.imp id (congrArg _), n, fun c hcV => Win.fold hr hs hc ha hb hcV.1 hcV.2 (h c hcV.1)⟩
  · rintro ⟨a, b, ha, hb, ht, n, h⟩
    exact ⟨a, b, ha.1, hb.1, ht, n + 1, fun c hcV => Win.corner hr hs hc ha.1 hb.1 hcV ht (h _ (hfV c hcV))⟩
/-- One sweep walks to a start. -/
theorem Win.walk1 (hs : ∀ x y, X x → X y → r x y → r y x) {b : Nat} (hb : X b) {n : Nat} (h : ∀ c, X c → Win X r false n b b c) {b0 : Nat} (hw : Way X r b b0) : ∃ m, ∀ c, X c → Win X r false m b0 b0 c := by
  induction hw with
  | refl => exact ⟨n, h⟩
  | @step x y h0 h1 h2 ih =>
    obtain ⟨m, hm⟩ := ih
    have hx := h0.mem hb
    exact ⟨m + 1, fun c hc => .step hx hx (hs _ _ hx h1 h2) (hs _ _ hx h1 h2) (.inr rfl) (.inr (.inr fun c' q1 q2 => hm c' q1))⟩
theorem Cw.any (hs : ∀ x y, X x → X y → r x y → r y x) (hc : Conn X r) (h : Cw X r false) {b : Nat} (hb : X b) : ∃ m, ∀ c, X c → Win X r false m b b c := by
  obtain ⟨a, a', ha, _, ht, n, h⟩ := h
  have e : a = a' := ht.elim (fun h => by cases h) id
  subst e
  exact Win.walk1 hs ha h (hc a b ha hb)
/-- One sweep guards; the other one plays alone. -/
theorem Win.guard (hr : ∀ x, V x → r x x) (hXV : ∀ x, X x → V x) {u : Nat} (hu : V u) (hX : ∀ c c', X c → V c' → r c c' → X c' ∨ r u c') {n : Nat} : ∀ {b c : Nat}, X b → X c → Win X r false n b b c → Win V r true (n + 1) u b c := by
  induction n with
  | zero => intro b c hb hc h; exact .caught (.inr (h.elim id id))
  | succ n ih =>
    intro b c hb hc h
    rcases h with h | ⟨a', b', h1, h2, h3, h4, h5, h⟩
    · exact (ih hb hc h).succ
    · have e : a' = b' := h5.elim (fun h => by cases h) id
      subst e
      refine .step hu (hXV _ h1) (hr u hu) h3 (.inl rfl) ?_
      rcases h with h | h | h
      · exact .inr (.inl h)
      · exact .inr (.inl h)
      · refine .inr (.inr fun c' q1 q2 => ?_)
        rcases hX c c' hc q1 q2 with q3 | q3
        · exact ih h1 q3 (h c' q3 q2)
        · exact (Win.one hu (hXV _ h1) q1 hr (.inl rfl) q3).le (by omega)
theorem Win.walk2 (hr : ∀ x, V x → r x x) (hs : ∀ x y, V x → V y → r x y → r y x) {u : Nat} (hu : V u) (hX : ∀ c c', X c → V c' → r c c' → X c' ∨ r u c') {b : Nat} (hb : V b) {n : Nat} (h : ∀ c, X c → Win V r true n u b c) {b0 : Nat} (hw : Way V r b b0) : ∃ m, ∀ c, X c → Win V r true m u b0 c := by
  induction hw with
  | refl => exact ⟨n, h⟩
  | @step x y h0 h1 h2 ih =>
    obtain ⟨m, hm⟩ := ih
    have hx := h0.mem hb
    refine ⟨m + 2, fun c hc => .step hu hx (hr u hu) (hs _ _ hx h1 h2) (.inl rfl) (.inr (.inr fun c' q1 q2 => ?_))⟩
    rcases hX c c' hc q1 q2 with q3 | q3
    · exact (hm c' q3).succ
    · exact (Win.one hu hx q1 hr (.inl rfl) q3).le (by omega)
/-- A cat that cannot move is fetched. -/
theorem Win.fetch (hr : ∀ x, V x → r x x) (hs : ∀ x y, V x → V y → r x y → r y x) {b c : Nat} (hb : V b) (hcV : V c) (hX : ∀ c', V c' → r c c' → c' ≠ c → r b c') {a : Nat} (hw : Way V r c a) : ∃ m, Win V r true m a b c := by
  induction hw with
  | refl => exact ⟨0, .inl rfl⟩
  | @step x y h0 h1 h2 ih =>
    obtain ⟨m, hm⟩ := ih
    have hx := h0.mem hcV
    refine ⟨m + 2, .step hx hb (hs _ _ hx h1 h2) (hr b hb) (.inl rfl) (.inr (.inr fun c' q1 q2 => ?_))⟩
    by_cases e : c' = c
    · rw [e]; exact hm.succ
    · exact (Win.one hb hx q1 hr (.inl rfl) (hX c' q1 q2 e)).swap.le (by omega)
/-- Without a corner one sweep does not catch the cat on two nodes or more. -/
theorem Cw.none (hr : ∀ x, V x → r x x) (hs : ∀ x y, V x → V y → r x y → r y x) (hno : ∀ u v, ¬ Cov V r u v) (h2 : ∀ a, V a → ∃ x, V x ∧ x ≠ a) : ¬ Cw V r false := by
  rintro ⟨a, b, ha, _, ht, n, h⟩
  have e : a = b := ht.elim (fun h => by cases h) id
  subst e
  have h3 : ∃ c, V c ∧ ¬ r a c := by
    by_cases h4 : ∃ c, V c ∧ ¬ r a c
    · exact h4
    · obtain ⟨x, hx, hne⟩ := h2 a ha
      exact absurd ⟨hne.symm, ha, hx, fun y hy _ => Classical.byContradiction fun h5 => h4 ⟨y, hy, h5⟩⟩ (hno a x)
  obtain ⟨c, hc, hn⟩ := h3
  exact Win.never hr hs hno ha hc hn (fun e => hn (by rw [e]; exact hr c hc)) (h c hc)
/-- Four nodes of what has no corner. -/
theorem four (hr : ∀ x, V x → r x x) (hs : ∀ x y, V x → V y → r x y → r y x) (hcn : Conn V r) (hno : ∀ u v, ¬ Cov V r u v) (h2 : ∀ a, V a → ∃ x, V x ∧ x ≠ a) {a : Nat} (ha : V a) :
    (∃ q, V q ∧ ¬ r a q) ∧ ∃ z w, V z ∧ V w ∧ r a z ∧ r a w ∧ ¬ r z w ∧ z ≠ a ∧ w ≠ a ∧ z ≠ w := by
  constructor
  · by_cases h4 : ∃ c, V c ∧ ¬ r a c
    · exact h4
    · obtain ⟨x, hx, hne⟩ := h2 a ha
      exact absurd ⟨hne.symm, ha, hx, fun y hy _ => Classical.byContradiction fun h5 => h4 ⟨y, hy, h5⟩⟩ (hno a x)
  · obtain ⟨x, hx, hne⟩ := h2 a ha
    obtain ⟨y, z, hy, hz, e, hza, hyz⟩ := (hcn a x ha hx).leave (P := fun q => q = a) ha rfl hne
    subst e
    have h6 : ∃ w, V w ∧ r y w ∧ ¬ r z w := by
      by_cases h7 : ∃ w, V w ∧ r y w ∧ ¬ r z w
      · exact h7
      · exact absurd ⟨hza, hz, hy, fun q hq h8 => Classical.byContradiction fun h9 => h7 ⟨q, hq, h8, h9⟩⟩ (hno z y)
    obtain ⟨w, hw, hyw, hzw⟩ := h6
    exact ⟨z, w, hz, hw, hyz, hyw, hzw, hza, fun e => hzw (by rw [e]; exact hs _ _ hy hz hyz), fun e => hzw (by rw [e]; exact hr w hw)⟩
end
end Go.Proofs.YtgcncgocdfioiaaDoor
