import Derived.Test.YtfcbmcmkakceaaaDoorLW8
/- LW9: texts of formulas, which tell them; the formula that tells two graphs apart. No program in sight. -/
set_option linter.unusedVariables false
set_option linter.unusedSimpArgs false
namespace Go.Proofs.YtfcbmcmkakceaaaDoor
def ltr (x : Nat) : UInt8 := UInt8.ofNat (97 + x)
def prF : Fo → List UInt8
  | .eq i j => [ltr i, 61, ltr j]
  | .adj i j => [ltr i, 126, ltr j]
  | .no f => 33 :: prF f
  | .an f g => 40 :: (prF f ++ 38 :: (prF g ++ [41]))
  | .ex x f => 69 :: ltr x :: 32 :: prF f
/-- All variables are letters. -/
def vokF : Fo → Prop
  | .eq i j => i < 4 ∧ j < 4
  | .adj i j => i < 4 ∧ j < 4
  | .no f => vokF f
  | .an f g => vokF f ∧ vokF g
  | .ex x f => x < 4 ∧ vokF f
theorem ltr_toNat {x : Nat} (h : x < 4) : (ltr x).toNat = 97 + x := by
  unfold ltr
  simp
  omega
theorem ltr_inj {x y : Nat} (hx : x < 4) (hy : y < 4) (h : ltr x = ltr y) : x = y := by
  have := congrArg UInt8.toNat h
  rw [ltr_toNat hx, ltr_toNat hy] at this
  omega
theorem ltr_ne {x : Nat} (hx : x < 4) (c : UInt8) (hc : c.toNat < 97) : ltr x ≠ c := by
  intro h
  have := congrArg UInt8.toNat h
  rw [ltr_toNat hx] at this
  omega
/-- Who reads a formula reads one only. -/
theorem pr_inj : ∀ (f g : Fo) (r r' : List UInt8), vokF f → vokF g → prF f ++ r = prF g ++ r' → f = g ∧ r = r'
  | .eq i j, g, r, r', hf, hg, h => by
    cases g with
    | eq k l =>
      simp only [prF, List.cons_append, List.nil_append, List.cons.injEq] at h
      exact ⟨by rw [ltr_inj hf.1 hg.1 h.1, ltr_inj hf.2 hg.2 h.2.2.1], h.2.2.2⟩
    | adj k l =>
      simp only [prF, List.cons_append, List.nil_append, List.cons.injEq] at h
      exact absurd h.2.1 (by decide)
    | no f => simp only [prF, List.cons_append, List.cons.injEq] at h; exact absurd h.1 (ltr_ne hf.1 _ (by decide))
    | an f g => simp only [prF, List.cons_append, List.cons.injEq] at h; exact absurd h.1 (ltr_ne hf.1 _ (by decide))
    | ex x f => simp only [prF, List.cons_append, List.cons.injEq] at h; exact absurd h.1 (ltr_ne hf.1 _ (by decide))
  | .adj i j, g, r, r', hf, hg, h => by
    cases g with
    | adj k l =>
      simp only [prF, List.cons_append, List.nil_append, List.cons.injEq] at h
      exact ⟨by rw [ltr_inj hf.1 hg.1 h.1, ltr_inj hf.2 hg.2 h.2.2.1], h.2.2.2⟩
    | eq k l =>
      simp only [prF, List.cons_append, List.nil_append, List.cons.injEq] at h
      exact absurd h.2.1 (by decide)
    | no f => simp only [prF, List.cons_append, List.cons.injEq] at h; exact absurd h.1 (ltr_ne hf.1 _ (by decide))
    | an f g => simp only [prF, List.cons_append, List.cons.injEq] at h; exact absurd h.1 (ltr_ne hf.1 _ (by decide))
    | ex x f => simp only [prF, List.cons_append, List.cons.injEq] at h; exact absurd h.1 (ltr_ne hf.1 _ (by decide))
  | .no f, g, r, r', hf, hg, h => by
    cases g with
    | no g =>
      simp only [prF, List.cons_append, List.cons.injEq, true_and] at h
      obtain ⟨h1, h2⟩ := pr_inj f g r r' hf hg h
      exact ⟨by rw [h1], h2⟩
    | eq k l => simp only [prF, List.cons_append, List.cons.injEq] at h; exact absurd h.1.symm (ltr_ne hg.1 _ (by decide))
    | adj k l => simp only [prF, List.cons_append, List.cons.injEq] at h; exact absurd h.1.symm (ltr_ne hg.1 _ (by decide))
    | an f g => simp only [prF, List.cons_append, List.cons.injEq] at h; exact absurd h.1 (by decide)
    | ex x f => simp only [prF, List.cons_append, List.cons.injEq] at h; exact absurd h.1 (by decide)
  | .an f f', g, r, r', hf, hg, h => by
    cases g with
    | an g g' =>
      simp only [prF, List.cons_append, List.append_assoc, List.cons.injEq, true_and] at h
      obtain ⟨h1, h2⟩ := pr_inj f g _ _ hf.1 hg.1 h
      simp only [List.cons.injEq, true_and] at h2
      obtain ⟨h3, h4⟩ := pr_inj f' g' _ _ hf.2 hg.2 h2
      simp only [List.cons_append, List.nil_append, List.cons.injEq, true_and] at h4
      exact ⟨by rw [h1, h3], h4⟩
    | eq k l => simp only [prF, List.cons_append, List.cons.injEq] at h; exact absurd h.1.symm (ltr_ne hg.1 _ (by decide))
    | adj k l => simp only [prF, List.cons_append, List.cons.injEq] at h; exact absurd h.1.symm (ltr_ne hg.1 _ (by decide))
    | no g => simp only [prF, List.cons_append, List.cons.injEq] at h; exact absurd h.1 (by decide)
    | ex x f => simp only [prF, List.cons_append, List.cons.injEq] at h; exact absurd h.1 (by decide)
  | .ex x f, g, r, r', hf, hg, h => by
    cases g with
    | ex y g =>
      simp only [prF, List.cons_append, List.cons.injEq, true_and] at h
      obtain ⟨h1, h2⟩ := pr_inj f g r r' hf.2 hg.2 h.2
      exact ⟨by rw [h1, ltr_inj hf.1 hg.1 h.1], h2⟩
    | eq k l => simp only [prF, List.cons_append, List.cons.injEq] at h; exact absurd h.1.symm (ltr_ne hg.1 _ (by decide))
    | adj k l => simp only [prF, List.cons_append, List.cons.injEq] at h; exact absurd h.1.symm (ltr_ne hg.1 _ (by decide))
    | no g => simp only [prF, List.cons_append, List.cons.injEq] at h; exact absurd h.1 (by decide)
    | an f g => simp only [prF, List.cons_append, List.cons.injEq] at h; exact absurd h.1 (by decide)
theorem pr_eq {f g : Fo} (hf : vokF f) (hg : vokF g) (h : prF f = prF g) : f = g := (pr_inj f g [] [] hf hg (by rw [h])).1
/-- How many nodes, how deep. -/
def szF : Fo → Nat
  | .eq _ _ => 1
  | .adj _ _ => 1
  | .no f => szF f + 1
  | .an f g => szF f + szF g + 1
  | .ex _ f => szF f + 1
def htF : Fo → Nat
  | .eq _ _ => 1
  | .adj _ _ => 1
  | .no f => htF f + 1
  | .an f g => max (htF f) (htF g) + 1
  | .ex _ f => htF f + 1
def unl (c : Bool) (f : Fo) : Fo := if c then f else .no f
/-- What tells two choices apart. -/
def bdF (t s a b : List Nat) (i j : Nat) : Option Fo :=
  if badE a b i j then some (unl (a.getD i 0 == a.getD j 0) (.eq i j)) else if badN t s a b i j then some (unl (nbN t (a.getD i 0) (a.getD j 0)) (.adj i j)) else none
def unF (t s a b : List Nat) : Option Fo := (List.range a.length).findSome? fun j => (List.range j).findSome? fun i => bdF t s a b i j
/-- All of some, each once. -/
def dedStep (d : List Fo) (f : Fo) : List Fo := if d.any fun g => prF g == prF f then d else d ++ [f]
def dedF (l : List Fo) : List Fo := l.foldl dedStep []
def conjF : List Fo → Fo
  | [] => .eq 0 0
  | f :: l => l.foldl .an f
def allF (l : List Fo) : Fo := conjF (dedF l)
def exiF (t s a b : List Nat) (w : List Nat → List Nat → Option Fo) : Option Fo := (List.range t.length).findSome? fun v =>
  if ((List.range s.length).all fun u => (w (a ++ [v]) (b ++ [u])).isSome) = true then some (.ex a.length (allF ((List.range s.length).filterMap fun u => w (a ++ [v]) (b ++ [u])))) else none
def tellF : Nat → List Nat → List Nat → List Nat → List Nat → Option Fo
  | 0, t, s, a, b => unF t s a b
  | k + 1, t, s, a, b => match unF t s a b with
    | some f => some f
    | none => match exiF t s a b (tellF k t s) with
      | some f => some f
      | none => (exiF s t b a (tellF k s t)).map .no
theorem ded_go {d : List Fo} (hd : ∀ f ∈ d, vokF f) : ∀ (l : List Fo), (∀ f ∈ l, vokF f) → (∀ f, f ∈ l.foldl dedStep d ↔ f ∈ d ∨ f ∈ l) ∧ (l.foldl dedStep d).length ≤ d.length + l.length ∧ (d ≠ [] ∨ l ≠ [] → l.foldl dedStep d ≠ []) := by
  intro l
  induction l generalizing d with
  | nil => intro _; exact ⟨fun f => by simp, by simp, fun h => by simpa using h⟩
  | cons g l ih =>
    intro hl
    have hg := hl g (by simp)
    have hl' : ∀ f ∈ l, vokF f := fun f hf => hl f (by simp [hf])
    rw [List.foldl_cons]
    by_cases h : (d.any fun x => prF x == prF g) = true
    · rw [show dedStep d g = d from if_pos h]
      obtain ⟨x, hx, e⟩ := List.any_eq_true.1 h
      have hxg : x = g := pr_eq (hd x hx) hg (by simpa using e)
      subst hxg
      obtain ⟨h1, h2, h3⟩ := ih hd hl'
      refine ⟨fun f => ?_, by simp only [List.length_cons]; exact Nat.le_trans h2 (by omega), fun _ => h3 (.inl (List.ne_nil_of_mem hx))⟩
      rw [h1 f, List.mem_cons]
      constructor
      · rintro (h | h)
        · exact .inl h
        · exact .inr (.inr h)
      · rintro (h | h | h)
        · exact .inl h
        · subst h; exact .inl hx
        · exact .inr h
    · rw [show dedStep d g = d ++ [g] from if_neg h]
      obtain ⟨h1, h2, h3⟩ := ih (d := d ++ [g]) (fun f hf => by
        rcases List.mem_append.1 hf with h' | h'
        · exact hd f h'
        · rw [List.mem_singleton.1 h']; exact hg) hl'
      refine ⟨fun f => ?_, by simp only [List.length_cons, List.length_append, List.length_nil] at *; exact Nat.le_trans h2 (by omega), fun _ => h3 (.inl (by simp))⟩
      rw [h1 f, List.mem_append, List.mem_singleton, List.mem_cons, or_assoc]
theorem ded_all {l : List Fo} (hl : ∀ f ∈ l, vokF f) : (∀ f, f ∈ dedF l ↔ f ∈ l) ∧ (dedF l).length ≤ l.length ∧ (l ≠ [] → dedF l ≠ []) := by
  obtain ⟨h1, h2, h3⟩ := ded_go (d := []) (by simp) l hl
  exact ⟨fun f => by simpa [dedF] using h1 f, by simpa [dedF] using h2, fun h => h3 (.inr h)⟩
/-- A conjunction has what its parts have. -/
theorem conj_hold (t : List Nat) (e : Nat → Nat) : ∀ {l : List Fo}, l ≠ [] → holdF t e (conjF l) = l.all (holdF t e)
  | [], h => absurd rfl h
  | f :: l, _ => by
    have : ∀ (l : List Fo) (f : Fo), holdF t e (l.foldl .an f) = (holdF t e f && l.all (holdF t e)) := by
      intro l
      induction l with
      | nil => intro f; simp
      | cons g l ih =>
        intro f
        rw [List.foldl_cons, ih, holdF, List.all_cons, Bool.and_assoc]
    rw [conjF, this, List.all_cons]
theorem conj_all {P : Fo → Prop} (hP : ∀ f g, P f → P g → P (.an f g)) : ∀ {l : List Fo}, l ≠ [] → (∀ f ∈ l, P f) → P (conjF l)
  | [], h, _ => absurd rfl h
  | f :: l, _, h => by
    have : ∀ (l : List Fo) (f : Fo), P f → (∀ g ∈ l, P g) → P (l.foldl .an f) := by
      intro l
      induction l with
      | nil => intro f hf _; exact hf
      | cons g l ih => intro f hf hl; exact ih _ (hP f g hf (hl g (by simp))) fun x hx => hl x (by simp [hx])
    exact this l f (h f (by simp)) fun g hg => h g (by simp [hg])
theorem conj_size {m k : Nat} : ∀ {l : List Fo}, l ≠ [] → l.length ≤ m → (∀ f ∈ l, szF f ≤ k) → szF (conjF l) + 1 ≤ m * (k + 1)
  | [], h, _, _ => absurd rfl h
  | f :: l, _, hl, h => by
    have : ∀ (l : List Fo) (f : Fo), (∀ g ∈ l, szF g ≤ k) → szF (l.foldl .an f) ≤ szF f + l.length * (k + 1) := by
      intro l
      induction l with
      | nil => intro f _; simp
      | cons g l ih =>
        intro f hl
        have := ih (.an f g) fun x hx => hl x (by simp [hx])
        have := hl g (by simp)
        rw [szF] at *
        rw [List.foldl_cons, List.length_cons, Nat.add_mul]
        omega
    have h1 := this l f fun g hg => h g (by simp [hg])
    have h2 := h f (by simp)
    have h3 := Nat.mul_le_mul_right (k + 1) hl
    rw [List.length_cons, Nat.add_mul] at h3
    rw [conjF]
    omega
theorem conj_ht {m k : Nat} : ∀ {l : List Fo}, l ≠ [] → l.length ≤ m → (∀ f ∈ l, htF f ≤ k) → htF (conjF l) + 1 ≤ m + k
  | [], h, _, _ => absurd rfl h
  | f :: l, _, hl, h => by
    have : ∀ (l : List Fo) (f : Fo) (r : Nat), htF f ≤ k + r → (∀ g ∈ l, htF g ≤ k) → htF (l.foldl .an f) ≤ k + r + l.length := by
      intro l
      induction l with
      | nil => intro f r hf _; simpa using hf
      | cons g l ih =>
        intro f r hf hl
        have h2 := hl g (by simp)
        have := ih (.an f g) (r + 1) (by rw [htF]; omega) fun x hx => hl x (by simp [hx])
        rw [List.foldl_cons, List.length_cons]
        omega
    have h1 := this l f 0 (h f (by simp)) fun g hg => h g (by simp [hg])
    rw [conjF]
    simp only [List.length_cons] at hl
    omega
end Go.Proofs.YtfcbmcmkakceaaaDoor
