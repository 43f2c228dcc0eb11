import Derived.Test.YtfcbmcmkakceaaaDoorLW7
/- LW8: formulas: when they are true, how deep they are; the game and formulas. No program in sight. -/
set_option linter.unusedVariables false
set_option linter.unusedSimpArgs false
namespace Go.Proofs.YtfcbmcmkakceaaaDoor
inductive Fo where
  | eq (i j : Nat)
  | adj (i j : Nat)
  | no (f : Fo)
  | an (f g : Fo)
  | ex (x : Nat) (f : Fo)
  deriving DecidableEq
def upd (e : Nat → Nat) (x v : Nat) : Nat → Nat := fun y => if y = x then v else e y
def holdF (t : List Nat) : (Nat → Nat) → Fo → Bool
  | e, .eq i j => e i == e j
  | e, .adj i j => nbN t (e i) (e j)
  | e, .no f => !holdF t e f
  | e, .an f g => holdF t e f && holdF t e g
  | e, .ex x f => (List.range t.length).any fun v => holdF t (upd e x v) f
def deepE : Fo → Nat
  | .eq _ _ => 0
  | .adj _ _ => 0
  | .no f => deepE f
  | .an f g => max (deepE f) (deepE g)
  | .ex _ f => deepE f + 1
/-- Every variable stands within an E of it, or is one of some. -/
def clo : (Nat → Prop) → Fo → Prop
  | V, .eq i j => V i ∧ V j
  | V, .adj i j => V i ∧ V j
  | V, .no f => clo V f
  | V, .an f g => clo V f ∧ clo V g
  | V, .ex x f => clo (fun y => y = x ∨ V y) f
theorem okN_pair {t s a b : List Nat} {n : Nat} (ht : Tow n t) (hs : Tow n s) (h : okN t s a b = true) (ha : ∀ i, i < a.length → a.getD i 0 < t.length ∧ b.getD i 0 < s.length) {i j : Nat} (hi : i < a.length) (hj : j < a.length) :
    (a.getD i 0 == a.getD j 0) = (b.getD i 0 == b.getD j 0) ∧ nbN t (a.getD i 0) (a.getD j 0) = nbN s (b.getD i 0) (b.getD j 0) := by
  have h1 := okN_range.1 h
  have hE : ∀ i j, j < a.length → i < j → (a.getD i 0 == a.getD j 0) = (b.getD i 0 == b.getD j 0) := fun i j hj hij => by
    have := (h1 j hj i hij).1
    unfold badE at this
    simpa using this
  have hB : ∀ i j, j < a.length → i < j → nbN t (a.getD i 0) (a.getD j 0) = nbN s (b.getD i 0) (b.getD j 0) := fun i j hj hij => by
    have := (h1 j hj i hij).2
    unfold badN at this
    simpa using this
  rcases Nat.lt_trichotomy i j with h5 | h5 | h5
  · exact ⟨hE i j hj h5, hB i j hj h5⟩
  · subst h5
    refine ⟨by simp, ?_⟩
    rw [show nbN t _ _ = false from ht.irr _ (ha i hi).1, show nbN s _ _ = false from hs.irr _ (ha i hi).2]
  · have e1 := hE j i hi h5
    have e2 := hB j i hi h5
    rw [nb_sym ht (ha i hi).1 (ha j hj).1, nb_sym hs (ha i hi).2 (ha j hj).2]
    refine ⟨?_, e2⟩
    rw [Bool.beq_comm, e1, Bool.beq_comm]
theorem okN_swap {t s a b : List Nat} (hl : a.length = b.length) : okN t s a b = okN s t b a := by
  rw [Bool.eq_iff_iff, okN_range, okN_range, hl]
  have hE : ∀ (a b : List Nat) i j, badE a b i j = badE b a i j := fun a b i j => by unfold badE; exact bne_comm
  have hB : ∀ (t s a b : List Nat) i j, badN t s a b i j = badN s t b a i j := fun t s a b i j => by unfold badN; exact bne_comm
  constructor <;> intro h j hj i hi
  · rw [hE b a, hB s t b a]; exact h j hj i hi
  · rw [hE a b, hB t s a b]; exact h j hj i hi
theorem winN_ok {k : Nat} {t s a b : List Nat} (h : winN k t s a b = true) : okN t s a b = true := by
  cases k with
  | zero => exact h
  | succ k =>
    rw [winN, Bool.and_eq_true] at h
    exact h.1
theorem winN_swap : ∀ (k : Nat) {t s a b : List Nat}, a.length = b.length → winN k t s a b = winN k s t b a
  | 0, t, s, a, b, hl => okN_swap hl
  | k + 1, t, s, a, b, hl => by
    rw [winN, winN, okN_swap hl, Bool.and_comm (ansN (winN k t s) _ _ _ _)]
theorem ansN_iff {w : List Nat → List Nat → Bool} {n m : Nat} {a b : List Nat} : ansN w n m a b = true ↔ ∀ v, v < n → ∃ u, u < m ∧ w (a ++ [v]) (b ++ [u]) = true := by
  unfold ansN
  simp only [List.all_eq_true, List.any_eq_true, List.mem_range]
theorem winN_less : ∀ {k : Nat} {t s a b : List Nat}, winN (k + 1) t s a b = true → winN k t s a b = true
  | 0, t, s, a, b, h => winN_ok h
  | k + 1, t, s, a, b, h => by
    rw [winN, Bool.and_eq_true, Bool.and_eq_true, ansN_iff, ansN_iff] at h
    rw [winN, Bool.and_eq_true, Bool.and_eq_true, ansN_iff, ansN_iff]
    refine ⟨h.1, fun v hv => ?_, fun v hv => ?_⟩
    · obtain ⟨u, hu, hw⟩ := h.2.1 v hv
      exact ⟨u, hu, winN_less hw⟩
    · obtain ⟨u, hu, hw⟩ := h.2.2 v hv
      exact ⟨u, hu, winN_less hw⟩
/-- Names of the nodes win every game. -/
theorem iso_win {n : Nat} {g h l : List Nat} (hg : Tow n g) (hh : Tow n h) (hi : Iso g h l) : ∀ (k : Nat) (a b : List Nat), b = a.map (fun x => l.getD x 0) → (∀ x ∈ a, x < g.length) → winN k g h a b = true := by
  have hok : ∀ a b : List Nat, b = a.map (fun x => l.getD x 0) → (∀ x ∈ a, x < g.length) → okN g h a b = true := fun a b hb ha => by
    rw [okN_range]
    intro j hj i hij
    have hbi : ∀ i, i < a.length → b.getD i 0 = l.getD (a.getD i 0) 0 ∧ a.getD i 0 < g.length := fun i hi => by
      rw [hb]
      refine ⟨by simp [List.getD_eq_getElem?_getD, hi], ?_⟩
      rw [List.getD_eq_getElem?_getD, List.getElem?_eq_getElem hi]
      exact ha _ (List.getElem_mem hi)
    obtain ⟨e1, l1⟩ := hbi i (by omega)
    obtain ⟨e2, l2⟩ := hbi j hj
    unfold badE badN
    rw [e1, e2, hi.nb _ _ l1 l2]
    refine ⟨?_, by simp⟩
    have : (a.getD i 0 == a.getD j 0) = (l.getD (a.getD i 0) 0 == l.getD (a.getD j 0) 0) := by
      rw [Bool.eq_iff_iff, beq_iff_eq, beq_iff_eq]
      exact ⟨fun e => by rw [e], fun e => hi.inj _ _ l1 l2 e⟩
    rw [this]
    simp
  intro k
  induction k with
  | zero => intro a b hb ha; exact hok a b hb ha
  | succ k ih =>
    intro a b hb ha
    rw [winN, Bool.and_eq_true, Bool.and_eq_true, ansN_iff, ansN_iff]
    have hstep : ∀ v, v < g.length → winN k g h (a ++ [v]) (b ++ [l.getD v 0]) = true := fun v hv => ih _ _ (by rw [hb]; simp) fun x hx => by
      rcases List.mem_append.1 hx with h' | h'
      · exact ha x h'
      · rw [List.mem_singleton.1 h']; exact hv
    refine ⟨hok a b hb ha, fun v hv => ⟨_, hi.lt v hv, hstep v hv⟩, fun y hy => ?_⟩
    obtain ⟨v, hv, rfl⟩ := hi.onto hy
    refine ⟨v, hv, ?_⟩
    rw [winN_swap k (by rw [hb]; simp)]
    exact hstep v hv
/-- What the second player wins no formula of that depth tells apart. -/
theorem win_agree {n : Nat} {t s : List Nat} (ht : Tow n t) (hs : Tow n s) : ∀ (f : Fo) (k : Nat) (a b : List Nat) (e e' : Nat → Nat) (V : Nat → Prop), winN k t s a b = true → a.length = b.length →
    (∀ i, i < a.length → a.getD i 0 < t.length ∧ b.getD i 0 < s.length) → deepE f ≤ k → clo V f → (∀ x, V x → ∃ p, p < a.length ∧ a.getD p 0 = e x ∧ b.getD p 0 = e' x) → holdF t e f = holdF s e' f
  | .eq i j, k, a, b, e, e', V, hw, hl, hab, hd, hc, hV => by
    obtain ⟨p, hp, p1, p2⟩ := hV i hc.1
    obtain ⟨q, hq, q1, q2⟩ := hV j hc.2
    have := (okN_pair ht hs (winN_ok hw) hab hp hq).1
    rw [p1, p2, q1, q2] at this
    exact this
  | .adj i j, k, a, b, e, e', V, hw, hl, hab, hd, hc, hV => by
    obtain ⟨p, hp, p1, p2⟩ := hV i hc.1
    obtain ⟨q, hq, q1, q2⟩ := hV j hc.2
    have := (okN_pair ht hs (winN_ok hw) hab hp hq).2
    rw [p1, p2, q1, q2] at this
    exact this
  | .no f, k, a, b, e, e', V, hw, hl, hab, hd, hc, hV => by
    rw [holdF, holdF, win_agree ht hs f k a b e e' V hw hl hab hd hc hV]
  | .an f g, k, a, b, e, e', V, hw, hl, hab, hd, hc, hV => by
    rw [deepE] at hd
    rw [holdF, holdF, win_agree ht hs f k a b e e' V hw hl hab (by omega) hc.1 hV, win_agree ht hs g k a b e e' V hw hl hab (by omega) hc.2 hV]
  | .ex x f, 0, a, b, e, e', V, hw, hl, hab, hd, hc, hV => by rw [deepE] at hd; omega
  | .ex x f, k + 1, a, b, e, e', V, hw, hl, hab, hd, hc, hV => by
    rw [deepE] at hd
    rw [winN, Bool.and_eq_true, Bool.and_eq_true, ansN_iff, ansN_iff] at hw
    have hrec : ∀ v u, v < t.length → u < s.length → winN k t s (a ++ [v]) (b ++ [u]) = true → holdF t (upd e x v) f = holdF s (upd e' x u) f := fun v u hv hu h => by
      refine win_agree ht hs f k (a ++ [v]) (b ++ [u]) (upd e x v) (upd e' x u) (fun y => y = x ∨ V y) h (by simp [hl]) (fun i hi => ?_) (by omega) hc fun y hy => ?_
      · by_cases e : i < a.length
        · have := hab i e
          simpa [List.getD_eq_getElem?_getD, List.getElem?_append_left e, List.getElem?_append_left (show i < b.length by omega)] using this
        · have e' : i = a.length := by simp at hi; omega
          subst e'
          have a1 : (a ++ [v]).getD a.length 0 = v := by simp [List.getD_eq_getElem?_getD]
          have a2 : (b ++ [u]).getD a.length 0 = u := by rw [hl]; simp [List.getD_eq_getElem?_getD]
          rw [a1, a2]
          exact ⟨hv, hu⟩
      · by_cases e1 : y = x
        · refine ⟨a.length, by simp, ?_, ?_⟩
          · simp [List.getD_eq_getElem?_getD, upd, e1]
          · rw [hl]; simp [List.getD_eq_getElem?_getD, upd, e1]
        · obtain ⟨p, hp, p1, p2⟩ := hV y (hy.resolve_left e1)
          refine ⟨p, by simp; omega, ?_, ?_⟩
          · rw [upd, if_neg e1, ← p1]
            simp [List.getD_eq_getElem?_getD, List.getElem?_append_left hp]
          · rw [upd, if_neg e1, ← p2]
            simp [List.getD_eq_getElem?_getD, List.getElem?_append_left (show p < b.length by omega)]
    rw [holdF, holdF, Bool.eq_iff_iff, List.any_eq_true, List.any_eq_true]
    constructor
    · rintro ⟨v, hv, h⟩
      obtain ⟨u, hu, hwu⟩ := hw.2.1 v (List.mem_range.1 hv)
      exact ⟨u, List.mem_range.2 hu, by rw [← hrec v u (List.mem_range.1 hv) hu hwu]; exact h⟩
    · rintro ⟨u, hu, h⟩
      obtain ⟨v, hv, hwv⟩ := hw.2.2 u (List.mem_range.1 hu)
      rw [winN_swap k (by simp [hl])] at hwv
      exact ⟨v, List.mem_range.2 hv, by rw [hrec v u hv (List.mem_range.1 hu) hwv]; exact h⟩
end Go.Proofs.YtfcbmcmkakceaaaDoor
