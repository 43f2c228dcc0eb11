import Derived.Test.YtfcbmcmkakceaaaDoorLW9
/- LW10: the formula that tells two graphs apart does so. No program in sight. -/
set_option linter.unusedVariables false
set_option linter.unusedSimpArgs false
namespace Go.Proofs.YtfcbmcmkakceaaaDoor
def szB : Nat → Nat
  | 0 => 2
  | k + 1 => 6 * (szB k + 1) + 1
structure TellOK (k : Nat) (t s a b : List Nat) (f : Fo) : Prop where
  vok : vokF f
  deep : deepE f ≤ k
  clo : clo (· < a.length) f
  sz : szF f ≤ szB k
  ht : htF f ≤ 2 + 7 * k
  yes : ∀ e : Nat → Nat, (∀ i, i < a.length → e i = a.getD i 0) → holdF t e f = true
  not : ∀ e : Nat → Nat, (∀ i, i < b.length → e i = b.getD i 0) → holdF s e f = false
theorem szB_mono (k : Nat) : 2 ≤ szB k := by
  cases k with
  | zero => simp [szB]
  | succ k => rw [szB]; omega
theorem un_none {t s a b : List Nat} : unF t s a b = none ↔ okN t s a b = true := by
  rw [okN_range]
  unfold unF
  simp only [List.findSome?_eq_none_iff, List.mem_range]
  have h : ∀ i j, bdF t s a b i j = none ↔ badE a b i j = false ∧ badN t s a b i j = false := fun i j => by
    unfold bdF
    cases badE a b i j <;> cases badN t s a b i j <;> simp
  constructor
  · intro H j hj i hi
    exact (h i j).1 (H j hj i hi)
  · intro H j hj i hi
    exact (h i j).2 (H j hj i hi)
theorem bd_ok {k : Nat} {t s a b : List Nat} (hl : a.length = b.length) (h4 : a.length ≤ 4) {i j : Nat} (hj : j < a.length) (hi : i < j) {f : Fo} (h : bdF t s a b i j = some f) : TellOK k t s a b f := by
  have h2 := szB_mono k
  unfold bdF at h
  have key : ∀ (p q : Bool) (g : Fo), (p != q) = true → vokF g → deepE g = 0 → clo (· < a.length) g → szF g = 1 → htF g = 1 → (∀ e : Nat → Nat, (∀ i, i < a.length → e i = a.getD i 0) → holdF t e g = p) → (∀ e : Nat → Nat, (∀ i, i < b.length → e i = b.getD i 0) → holdF s e g = q) → TellOK k t s a b (unl p g) := by
    intro p q g hpq h1 h2' h3 h4' h5 h6 h7
    cases p with
    | true =>
      have : q = false := by simpa using hpq
      subst this
      exact ⟨h1, by rw [show unl true g = g from rfl]; omega, h3, by rw [show unl true g = g from rfl]; omega, by rw [show unl true g = g from rfl]; omega, h6, h7⟩
    | false =>
      have : q = true := by simpa using hpq
      subst this
      refine ⟨h1, by rw [show unl false g = .no g from rfl, deepE]; omega, h3, by rw [show unl false g = .no g from rfl, szF]; omega, by rw [show unl false g = .no g from rfl, htF]; omega, fun e he => ?_, fun e he => ?_⟩
      · rw [show unl false g = .no g from rfl, holdF, h6 e he]; rfl
      · rw [show unl false g = .no g from rfl, holdF, h7 e he]; rfl
  split at h
  · rename_i hb
    cases h
    refine key _ (b.getD i 0 == b.getD j 0) _ hb ⟨by omega, by omega⟩ rfl ⟨by omega, hj⟩ rfl rfl (fun e he => ?_) fun e he => ?_
    · rw [holdF, he i (by omega), he j hj]
    · rw [holdF, he i (by omega), he j (by omega)]
  · split at h
    · rename_i hb
      cases h
      refine key _ (nbN s (b.getD i 0) (b.getD j 0)) _ hb ⟨by omega, by omega⟩ rfl ⟨by omega, hj⟩ rfl rfl (fun e he => ?_) fun e he => ?_
      · rw [holdF, he i (by omega), he j hj]
      · rw [holdF, he i (by omega), he j (by omega)]
    · cases h
theorem un_some {k : Nat} {t s a b : List Nat} (hl : a.length = b.length) (h4 : a.length ≤ 4) {f : Fo} (h : unF t s a b = some f) : TellOK k t s a b f := by
  unfold unF at h
  obtain ⟨j, hj, h⟩ := List.exists_of_findSome?_eq_some h
  obtain ⟨i, hi, h⟩ := List.exists_of_findSome?_eq_some h
  exact bd_ok hl h4 (List.mem_range.1 hj) (List.mem_range.1 hi) h
theorem clo_mono : ∀ {f : Fo} {V W : Nat → Prop}, (∀ x, V x → W x) → clo V f → clo W f
  | .eq i j, V, W, h, hc => ⟨h _ hc.1, h _ hc.2⟩
  | .adj i j, V, W, h, hc => ⟨h _ hc.1, h _ hc.2⟩
  | .no f, V, W, h, hc => clo_mono (f := f) h hc
  | .an f g, V, W, h, hc => ⟨clo_mono (f := f) h hc.1, clo_mono (f := g) h hc.2⟩
  | .ex x f, V, W, h, hc => clo_mono (f := f) (fun y hy => hy.imp id (h y)) hc
theorem exi_none {t s a b : List Nat} {w : List Nat → List Nat → Option Fo} {w' : List Nat → List Nat → Bool} (hw : ∀ v u, v < t.length → u < s.length → (w (a ++ [v]) (b ++ [u]) = none ↔ w' (a ++ [v]) (b ++ [u]) = true)) :
    exiF t s a b w = none ↔ ansN w' t.length s.length a b = true := by
  rw [ansN_iff]
  unfold exiF
  simp only [List.findSome?_eq_none_iff, List.mem_range, ite_eq_right_iff, reduceCtorEq, imp_false, List.all_eq_true]
  constructor
  · intro h v hv
    apply Classical.byContradiction
    intro hc
    refine h v hv fun u hu => ?_
    cases hx : w (a ++ [v]) (b ++ [u]) with
    | some f => rfl
    | none => exact absurd ⟨u, hu, (hw v u hv hu).1 hx⟩ hc
  · intro h v hv hc
    obtain ⟨u, hu, hx⟩ := h v hv
    have := hc u hu
    rw [(hw v u hv hu).2 hx] at this
    cases this
theorem snoc_lt {a b : List Nat} {n m v u : Nat} (hl : a.length = b.length) (hab : ∀ i, i < a.length → a.getD i 0 < n ∧ b.getD i 0 < m) (hv : v < n) (hu : u < m) : ∀ i, i < (a ++ [v]).length → (a ++ [v]).getD i 0 < n ∧ (b ++ [u]).getD i 0 < m := by
  intro i hi
  have hA := getD_snoc (fun i hi => (hab i hi).1) hv i hi
  have hB := getD_snoc (b := b) (fun i hi => (hab i (by omega)).2) hu i (by simp at hi ⊢; omega)
  exact ⟨hA, hB⟩
theorem exi_some {k : Nat} {t s a b : List Nat} (ht : Tow 6 t) (hs : Tow 6 s) (hl : a.length = b.length) (h4 : a.length + (k + 1) ≤ 4) {w : List Nat → List Nat → Option Fo}
    (hw : ∀ v u f, v < t.length → u < s.length → w (a ++ [v]) (b ++ [u]) = some f → TellOK k t s (a ++ [v]) (b ++ [u]) f) {f : Fo} (h : exiF t s a b w = some f) :
    TellOK (k + 1) t s a b f ∧ szF f ≤ 6 * (szB k + 1) ∧ htF f ≤ 8 + 7 * k := by
  unfold exiF at h
  obtain ⟨v, hv, h⟩ := List.exists_of_findSome?_eq_some h
  split at h
  · rename_i hall
    cases h
    have hv := List.mem_range.1 hv
    have hmem : ∀ f, f ∈ (List.range s.length).filterMap (fun u => w (a ++ [v]) (b ++ [u])) ↔ ∃ u, u < s.length ∧ w (a ++ [v]) (b ++ [u]) = some f := fun f => by
      rw [List.mem_filterMap]
      simp only [List.mem_range]
    have hlen : ((List.range s.length).filterMap fun u => w (a ++ [v]) (b ++ [u])).length ≤ 6 := by
      have := List.length_filterMap_le (fun u => w (a ++ [v]) (b ++ [u])) (List.range s.length)
      rw [List.length_range] at this
      have := hs.le
      omega
    have hget : ∀ u, u < s.length → ∃ f, w (a ++ [v]) (b ++ [u]) = some f := fun u hu => by
      have := List.all_eq_true.1 hall u (List.mem_range.2 hu)
      exact Option.isSome_iff_exists.1 this
    generalize (List.range s.length).filterMap (fun u => w (a ++ [v]) (b ++ [u])) = L at *
    have hOK : ∀ f ∈ L, ∃ u, u < s.length ∧ TellOK k t s (a ++ [v]) (b ++ [u]) f := fun f hf => by
      obtain ⟨u, hu, e⟩ := (hmem f).1 hf
      exact ⟨u, hu, hw v u f hv hu e⟩
    have hvok : ∀ f ∈ L, vokF f := fun f hf => by
      obtain ⟨u, hu, h⟩ := hOK f hf
      exact h.vok
    have hne : L ≠ [] := by
      obtain ⟨f, hf⟩ := hget 0 (by have := hs.pos; omega)
      exact List.ne_nil_of_mem ((hmem f).2 ⟨0, by have := hs.pos; omega, hf⟩)
    obtain ⟨d1, d2, d3⟩ := ded_all hvok
    have hdn := d3 hne
    have hsz := conj_size (m := 6) (k := szB k) hdn (by omega) fun f hf => by
      obtain ⟨u, hu, h⟩ := hOK f ((d1 f).1 hf)
      exact h.sz
    have hht := conj_ht (m := 6) (k := 2 + 7 * k) hdn (by omega) fun f hf => by
      obtain ⟨u, hu, h⟩ := hOK f ((d1 f).1 hf)
      exact h.ht
    have hkeep : ∀ {P : Fo → Prop}, (∀ f g, P f → P g → P (.an f g)) → (∀ f u, u < s.length → TellOK k t s (a ++ [v]) (b ++ [u]) f → P f) → P (allF L) := fun hP hh => conj_all hP hdn fun f hf => by
      obtain ⟨u, hu, h⟩ := hOK f ((d1 f).1 hf)
      exact hh f u hu h
    have hS : szF (.ex a.length (allF L)) ≤ 6 * (szB k + 1) := by rw [szF]; unfold allF; omega
    have hH : htF (.ex a.length (allF L)) ≤ 8 + 7 * k := by rw [htF]; unfold allF; omega
    refine ⟨⟨⟨by omega, hkeep (P := vokF) (fun f g hf hg => ⟨hf, hg⟩) fun f u _ h => h.vok⟩, ?_, ?_, by rw [szB]; omega, by omega, fun e he => ?_, fun e he => ?_⟩, hS, hH⟩
    · rw [deepE]
      have := hkeep (P := fun f => deepE f ≤ k) (fun f g hf hg => by rw [deepE]; omega) fun f u _ h => h.deep
      omega
    · show clo _ (allF L)
      refine hkeep (P := clo _) (fun f g hf hg => ⟨hf, hg⟩) fun f u _ h => clo_mono (fun x hx => ?_) h.clo
      simp only [List.length_append, List.length_cons, List.length_nil] at hx
      show x = a.length ∨ x < a.length
      omega
    · rw [holdF, List.any_eq_true]
      refine ⟨v, List.mem_range.2 hv, ?_⟩
      unfold allF
      rw [conj_hold t _ hdn, List.all_eq_true]
      intro f hf
      obtain ⟨u, hu, h⟩ := hOK f ((d1 f).1 hf)
      refine h.yes _ fun i hi => ?_
      by_cases e1 : i = a.length
      · subst e1
        simp [upd, List.getD_eq_getElem?_getD]
      · have hi' : i < a.length := by simp at hi; omega
        rw [upd, if_neg e1, he i hi']
        simp [List.getD_eq_getElem?_getD, List.getElem?_append_left hi']
    · rw [holdF, List.any_eq_false]
      intro u hu
      have hu := List.mem_range.1 hu
      obtain ⟨f, hf⟩ := hget u hu
      have h := hw v u f hv hu hf
      unfold allF
      rw [conj_hold s _ hdn, Bool.not_eq_true, List.all_eq_false]
      refine ⟨f, (d1 f).2 ((hmem f).2 ⟨u, hu, hf⟩), ?_⟩
      rw [h.not _ fun i hi => ?_]
      · simp
      · by_cases e1 : i = a.length
        · subst e1
          rw [hl]
          simp [upd, List.getD_eq_getElem?_getD]
        · have hi' : i < b.length := by simp at hi; omega
          rw [upd, if_neg e1, he i hi']
          simp [List.getD_eq_getElem?_getD, List.getElem?_append_left hi']
  · cases h
theorem TellOK.swap {k : Nat} {t s a b : List Nat} {f : Fo} (hl : a.length = b.length) (h : TellOK (k + 1) s t b a f) (hs : szF f ≤ 6 * (szB k + 1)) (hh : htF f ≤ 8 + 7 * k) : TellOK (k + 1) t s a b (.no f) :=
  ⟨h.vok, h.deep, by have := h.clo; rw [← hl] at this; exact this, by rw [szF, szB]; omega, by rw [htF]; omega, fun e he => by rw [holdF, h.not e he]; rfl, fun e he => by rw [holdF, h.yes e he]; rfl⟩
theorem tell_true : ∀ (k : Nat) {t s a b : List Nat}, Tow 6 t → Tow 6 s → a.length = b.length → a.length + k ≤ 4 →
    (tellF k t s a b = none ↔ winN k t s a b = true) ∧ ∀ f, tellF k t s a b = some f → TellOK k t s a b f
  | 0, t, s, a, b, ht, hs, hl, h4 => ⟨un_none, fun f hf => un_some hl (by omega) hf⟩
  | k + 1, t, s, a, b, ht, hs, hl, h4 => by
    have ih1 := fun v u => tell_true k (t := t) (s := s) (a := a ++ [v]) (b := b ++ [u]) ht hs (by simp [hl]) (by simp; omega)
    have ih2 := fun v u => tell_true k (t := s) (s := t) (a := b ++ [v]) (b := a ++ [u]) hs ht (by simp [hl]) (by simp; omega)
    have e1 := exi_none (t := t) (s := s) (a := a) (b := b) (w := tellF k t s) (w' := winN k t s) fun v u _ _ => (ih1 v u).1
    have e2 := exi_none (t := s) (s := t) (a := b) (b := a) (w := tellF k s t) (w' := winN k s t) fun v u _ _ => (ih2 v u).1
    have q1 := fun f => exi_some (f := f) ht hs hl h4 (w := tellF k t s) fun v u f _ _ hf => (ih1 v u).2 f hf
    have q2 := fun f => exi_some (f := f) hs ht hl.symm (by omega) (w := tellF k s t) fun v u f _ _ hf => (ih2 v u).2 f hf
    have e0 := un_none (t := t) (s := s) (a := a) (b := b)
    rw [tellF, winN]
    cases c0 : unF t s a b with
    | some f =>
      rw [c0] at e0
      have : okN t s a b = false := by
        rw [Bool.eq_false_iff]
        intro h
        exact absurd (e0.2 h) (by simp)
      rw [this]
      exact ⟨by simp, fun g hg => by cases hg; exact un_some hl (by omega) c0⟩
    | none =>
      rw [e0.1 c0]
      cases c1 : exiF t s a b (tellF k t s) with
      | some f =>
        have : ansN (winN k t s) t.length s.length a b = false := by
          rw [Bool.eq_false_iff]
          intro h
          rw [e1.2 h] at c1
          cases c1
        rw [this]
        exact ⟨by simp, fun g hg => by cases hg; exact (q1 f c1).1⟩
      | none =>
        rw [e1.1 c1]
        cases c2 : exiF s t b a (tellF k s t) with
        | some f =>
          have : ansN (winN k s t) s.length t.length b a = false := by
            rw [Bool.eq_false_iff]
            intro h
            rw [e2.2 h] at c2
            cases c2
          rw [this]
          refine ⟨by simp, fun g hg => ?_⟩
          cases hg
          obtain ⟨r1, r2, r3⟩ := q2 f c2
          exact r1.swap hl r2 r3
        | none =>
          rw [e2.1 c2]
          exact ⟨by simp, fun g hg => by cases hg⟩
end Go.Proofs.YtfcbmcmkakceaaaDoor
