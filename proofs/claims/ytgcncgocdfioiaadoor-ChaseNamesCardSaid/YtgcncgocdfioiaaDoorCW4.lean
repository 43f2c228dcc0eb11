import Derived.Test.YtgcncgocdfioiaaDoorCC3
import Derived.Test.YtgcncgocdfioiaaDoorCW3
/- CW4: the ranks that play finds are the numbers of moves within which the cat is caught. -/
set_option linter.unusedVariables false
set_option linter.unusedSimpArgs false
set_option maxRecDepth 20000
namespace Go.Proofs.YtgcncgocdfioiaaDoor
open Go Go.PS
attribute [-simp] isKeyK List.map_take
/-- The reach in a town. -/
def rT (t : List Nat) (a x : Nat) : Prop := (t.getD a 0).testBit x = true
abbrev vT (t : List Nat) (x : Nat) : Prop := x < t.length
abbrev WinT (t : List Nat) (two : Bool) : Nat → Nat → Nat → Nat → Prop := Win (vT t) (rT t) two
theorem moves_mem {t : List Nat} {two : Bool} {a b : Nat} {q : Pr} : q ∈ movesL t two a b ↔ q.1 < t.length ∧ q.2 < t.length ∧ q.1 ≤ q.2 ∧ ((rT t a q.1 ∧ rT t b q.2) ∨ (rT t a q.2 ∧ rT t b q.1)) ∧ (two = true ∨ q.1 = q.2) := by
  rw [movesL, prs_mem]
  simp only [mvF, rT, Bool.and_eq_true, Bool.or_eq_true, decide_eq_true_eq, beq_iff_eq, and_assoc]
theorem aftGo_some {L : List (Pl × Nat)} {a b : Nat} : ∀ {l : List Nat} {w : Nat}, (aftGo L a b l w).isSome = true ↔ ∀ x ∈ l, (L.lookup (a, b, x)).isSome = true
  | [], w => by simp [aftGo]
  | x :: xs, w => by
    simp only [aftGo, List.mem_cons, forall_eq_or_imp]
    cases h : L.lookup (a, b, x) with
    | none => simp
    | some r => simp [aftGo_some (l := xs)]
theorem aftGo_val {L : List (Pl × Nat)} {a b : Nat} : ∀ {l : List Nat} {w v : Nat}, aftGo L a b l w = some v → ∀ m, v ≤ m ↔ w ≤ m ∧ ∀ x ∈ l, ∀ r, L.lookup (a, b, x) = some r → r ≤ m
  | [], w, v, h, m => by simp [aftGo] at h; simp [h]
  | x :: xs, w, v, h, m => by
    simp only [aftGo] at h
    cases hx : L.lookup (a, b, x) with
    | none => rw [hx] at h; cases h
    | some r =>
      rw [hx] at h
      rw [aftGo_val h m]
      simp only [List.mem_cons, forall_eq_or_imp, hx, Option.some.injEq]
      constructor
      · rintro ⟨h1, h2⟩
        exact ⟨by omega, fun r' e => by omega, h2⟩
      · rintro ⟨h1, h2, h3⟩
        exact ⟨by have := h2 r rfl; omega, h3⟩
/-- The ranks so far are right. -/
def RkOk (t : List Nat) (two : Bool) (k : Nat) (L : List (Pl × Nat)) : Prop := ∀ p, GPl t.length two p → match L.lookup p with
  | none => ¬ WinT t two k p.1 p.2.1 p.2.2
  | some r => r ≤ k ∧ WinT t two r p.1 p.2.1 p.2.2 ∧ ∀ j, j < r → ¬ WinT t two j p.1 p.2.1 p.2.2
theorem RkOk.some_iff {t : List Nat} {two : Bool} {k : Nat} {L : List (Pl × Nat)} (h : RkOk t two k L) {p : Pl} (hp : GPl t.length two p) : (L.lookup p).isSome = true ↔ WinT t two k p.1 p.2.1 p.2.2 := by
  have := h p hp
  cases hl : L.lookup p with
  | none => rw [hl] at this; simpa using this
  | some r => rw [hl] at this; simpa using this.2.1.le this.1
theorem caughtB_iff {a b c : Nat} : caughtB a b c = true ↔ c = a ∨ c = b := by simp [caughtB]
theorem win_iff {t : List Nat} (ht : Twn t) {two : Bool} {k : Nat} {L : List (Pl × Nat)} (h : RkOk t two k L) {p : Pl} (hp : GPl t.length two p) : winB t two L p = true ↔ ∃ a' b', vT t a' ∧ vT t b' ∧ rT t p.1 a' ∧ rT t p.2.1 b' ∧ (two = true ∨ a' = b') ∧ (p.2.2 = a' ∨ p.2.2 = b' ∨ ∀ c', vT t c' → rT t p.2.2 c' → WinT t two k a' b' c') := by
  have hc := hp.2.2.1
  have hlt := ht.2.2 _ (getD_mem hc)
  have h8 := ht.lt _ (getD_mem hc)
  have hq : ∀ x y, x < t.length → y < t.length → x ≤ y → (two = true ∨ x = y) → ((afterF t L x y p.2.2).isSome = true ↔ (p.2.2 = x ∨ p.2.2 = y ∨ ∀ c', vT t c' → rT t p.2.2 c' → WinT t two k x y c')) := by
    intro x y hx hy hxy htw
    unfold afterF
    by_cases hcb : caughtB x y p.2.2 = true
    · rw [if_pos hcb]
      rw [caughtB_iff] at hcb
      simp only [Option.isSome_some, true_iff]
      rcases hcb with e | e
      · exact .inl e
      · exact .inr (.inl e)
    · rw [if_neg hcb, aftGo_some]
      rw [caughtB_iff] at hcb
      simp only [not_or] at hcb
      constructor
      · intro h1
        refine .inr (.inr fun c' q1 q2 => ?_)
        exact (h.some_iff (p := (x, y, c')) ⟨hxy, hy, q1, htw⟩).1 (h1 c' ((bits_mem h8).2 q2))
      · rintro (e | e | h1) c' hc'
        · exact absurd e hcb.1
        · exact absurd e hcb.2
        · exact (h.some_iff (p := (x, y, c')) ⟨hxy, hy, node_lt hlt hc', htw⟩).2 (h1 c' (node_lt hlt hc') ((bits_mem h8).1 hc'))
  simp only [winB, List.any_eq_true]
  constructor
  · rintro ⟨⟨x, y⟩, hm, ha⟩
    rw [moves_mem] at hm
    obtain ⟨h1, h2, h3, h4, h5⟩ := hm
    simp only at h1 h2 h3 h4 h5 ha
    have h6 := (hq x y h1 h2 h3 h5).1 ha
    rcases h4 with ⟨h4, h4'⟩ | ⟨h4, h4'⟩
    · exact ⟨x, y, h1, h2, h4, h4', h5, h6⟩
    · refine ⟨y, x, h2, h1, h4, h4', h5.imp id Eq.symm, ?_⟩
      rcases h6 with e | e | h6
      · exact .inr (.inl e)
      · exact .inl e
      · exact .inr (.inr fun c' q1 q2 => (h6 c' q1 q2).swap)
  · rintro ⟨x, y, h1, h2, h3, h4, h5, h6⟩
    rcases Nat.le_total x y with hxy | hxy
    · exact ⟨(x, y), moves_mem.2 ⟨h1, h2, hxy, .inl ⟨h3, h4⟩, h5⟩, (hq x y h1 h2 hxy h5).2 h6⟩
    · refine ⟨(y, x), moves_mem.2 ⟨h2, h1, hxy, .inr ⟨h3, h4⟩, h5.imp id Eq.symm⟩, (hq y x h2 h1 hxy (h5.imp id Eq.symm)).2 ?_⟩
      rcases h6 with e | e | h6
      · exact .inr (.inl e)
      · exact .inl e
      · exact .inr (.inr fun c' q1 q2 => (h6 c' q1 q2).swap)
/-- What no further round changes. -/
theorem win_stop {t : List Nat} {two : Bool} {k : Nat} (h : ∀ p, GPl t.length two p → WinT t two (k + 1) p.1 p.2.1 p.2.2 → WinT t two k p.1 p.2.1 p.2.2) : ∀ m p, GPl t.length two p → WinT t two (k + m) p.1 p.2.1 p.2.2 → WinT t two k p.1 p.2.1 p.2.2 := by
  intro m
  induction m with
  | zero => exact fun p _ h => h
  | succ m ih =>
    intro p hp hw
    rcases hw with hw | ⟨a', b', h1, h2, h3, h4, h5, hw⟩
    · exact ih p hp hw
    · refine h p hp (.inr ⟨a', b', h1, h2, h3, h4, h5, ?_⟩)
      refine hw.imp id (.imp id fun hw c' q1 q2 => ?_)
      rcases Nat.le_total a' b' with hab | hab
      · exact ih (a', b', c') ⟨hab, h2, q1, h5⟩ (hw c' q1 q2)
      · exact (ih (b', a', c') ⟨hab, h1, q1, h5.imp id Eq.symm⟩ (hw c' q1 q2).swap).swap
/-- The ranks in the end are right. -/
def RkEnd (t : List Nat) (two : Bool) (L : List (Pl × Nat)) : Prop := ∀ p, GPl t.length two p → match L.lookup p with
  | none => ∀ m, ¬ WinT t two m p.1 p.2.1 p.2.2
  | some r => WinT t two r p.1 p.2.1 p.2.2 ∧ ∀ j, j < r → ¬ WinT t two j p.1 p.2.1 p.2.2
theorem lookup_append {L M : List (Pl × Nat)} {p : Pl} : (L ++ M).lookup p = (L.lookup p).or (M.lookup p) := by
  induction L with
  | nil => simp
  | cons q L ih =>
    rw [List.cons_append, List.lookup_cons, List.lookup_cons]
    cases p == q.1 <;> simp [ih]
theorem lookup_map {D : List Pl} {p : Pl} {r : Nat} : (D.map fun p => (p, r)).lookup p = if p ∈ D then some r else none := by
  induction D with
  | nil => rfl
  | cons q D ih =>
    rw [List.map_cons, List.lookup_cons]
    by_cases h : p = q
    · simp [h]
    · have hb : (p == q) = false := by simpa using h
      simp only [hb, ih, List.mem_cons, h, false_or]
theorem playGo_ok {t : List Nat} (ht : Twn t) {two : Bool} : ∀ (k : Nat) (L : List (Pl × Nat)) (O : List Pl), RkOk t two k L → (∀ p, GPl t.length two p → (p ∈ O ↔ L.lookup p = none)) → (∀ p ∈ O, GPl t.length two p) → RkEnd t two (playGo t two (k + 1) L O)
  | k, L, O, h, hO, hOg => by
    rw [playGo]
    split
    · rename_i hd
      intro p hp
      have hstop : ∀ p, GPl t.length two p → WinT t two (k + 1) p.1 p.2.1 p.2.2 → WinT t two k p.1 p.2.1 p.2.2 := by
        intro p hp hw
        apply Classical.byContradiction
        intro hn
        have hnone : L.lookup p = none := by
          cases hl : L.lookup p with
          | none => rfl
          | some r => exact absurd ((h.some_iff hp).1 (by rw [hl]; rfl)) hn
        have hpO := (hO p hp).2 hnone
        have hwb := (win_iff ht h hp).2 (hw.elim (fun h => absurd h hn) id)
        have : p ∈ doneF t two L O := List.mem_filter.2 ⟨hpO, hwb⟩
        rw [hd] at this
        cases this
      have := h p hp
      cases hl : L.lookup p with
      | none =>
        rw [hl] at this
        simp only at this ⊢
        intro m hm
        exact this (win_stop hstop m p hp (hm.le (by omega)))
      | some r =>
        rw [hl] at this
        exact this.2
    · rename_i hd
      have := leftF_lt hd
      refine playGo_ok ht (k + 1) _ _ ?_ ?_ ?_
      · intro p hp
        have hp0 := h p hp
        rw [lookup_append, lookup_map]
        cases hl : L.lookup p with
        | some r =>
          rw [hl] at hp0
          simp only [Option.some_or]
          exact ⟨by omega, hp0.2⟩
        | none =>
          rw [hl] at hp0
          simp only at hp0
          have hpO := (hO p hp).2 hl
          by_cases hm : p ∈ doneF t two L O
          · simp only [hm, if_true, Option.none_or]
            refine ⟨Nat.le_refl _, .inr ((win_iff ht h hp).1 (List.mem_filter.1 hm).2), fun j hj hw => hp0 (hw.le (by omega))⟩
          · simp only [hm, if_false, Option.none_or]
            rintro (hw | hw)
            · exact hp0 hw
            · exact hm (List.mem_filter.2 ⟨hpO, (win_iff ht h hp).2 hw⟩)
      · intro p hp
        rw [lookup_append, lookup_map]
        rw [show p ∈ leftF t two L O ↔ p ∈ O ∧ winB t two L p = false by simp [leftF]]
        rw [hO p hp]
        cases hl : L.lookup p with
        | some r => simp
        | none =>
          have hpO := (hO p hp).2 hl
          simp only [true_and, Option.none_or]
          by_cases hm : p ∈ doneF t two L O
          · simp [hm, (List.mem_filter.1 hm).2]
          · simp only [hm, if_false, iff_true]
            cases hw : winB t two L p with
            | false => rfl
            | true => exact absurd (List.mem_filter.2 ⟨hpO, hw⟩) hm
      · exact fun p hp => hOg p (List.mem_filter.1 hp).1
termination_by _ _ O => O.length
theorem allPl_mem {n : Nat} {two : Bool} {p : Pl} : p ∈ allPl n two ↔ GPl n two p := by
  obtain ⟨a, b, c⟩ := p
  simp only [allPl, List.mem_flatMap, List.mem_map, List.mem_range, GPl]
  constructor
  · rintro ⟨q, hq, c', hc', e⟩
    rw [teamsL, prs_mem] at hq
    simp only [tmF, Bool.and_eq_true, decide_eq_true_eq, Bool.or_eq_true, beq_iff_eq] at hq
    simp only [Prod.mk.injEq] at e
    obtain ⟨rfl, rfl, rfl⟩ := e
    exact ⟨hq.2.2.1, hq.2.1, hc', hq.2.2.2⟩
  · rintro ⟨h1, h2, h3, h4⟩
    refine ⟨(a, b), ?_, c, h3, rfl⟩
    rw [teamsL, prs_mem]
    simp only [tmF, Bool.and_eq_true, decide_eq_true_eq, Bool.or_eq_true, beq_iff_eq]
    exact ⟨by omega, h2, h1, h4⟩
theorem cB_iff {p : Pl} : cB p = true ↔ p.2.2 = p.1 ∨ p.2.2 = p.2.1 := caughtB_iff
theorem play_ok {t : List Nat} (ht : Twn t) (two : Bool) : RkEnd t two (playF t two) := by
  have hl : ∀ p, GPl t.length two p → (iniL (allPl t.length two)).lookup p = if cB p = true then some 0 else none := by
    intro p hp
    rw [iniL, lookup_map]
    have := allPl_mem.2 hp
    simp [this]
  refine playGo_ok ht 0 _ _ ?_ ?_ ?_
  · intro p hp
    rw [hl p hp]
    by_cases h : cB p = true
    · simp only [h, if_true]
      exact ⟨Nat.le_refl _, cB_iff.1 h, fun j hj => by omega⟩
    · simp only [h]
      exact fun hw => h (cB_iff.2 hw)
  · intro p hp
    rw [hl p hp]
    have := allPl_mem.2 hp
    by_cases h : cB p = true <;> simp [iniO, this, h]
  · intro p hp
    exact allPl_mem.1 (List.mem_filter.1 hp).1
theorem RkEnd.win {t : List Nat} {two : Bool} {L : List (Pl × Nat)} (h : RkEnd t two L) {p : Pl} (hp : GPl t.length two p) (m : Nat) : WinT t two m p.1 p.2.1 p.2.2 ↔ 0 ≤ rkI L p ∧ rkI L p ≤ m := by
  have := h p hp
  unfold rkI
  cases hl : L.lookup p with
  | none =>
    rw [hl] at this
    simp only at this ⊢
    exact ⟨fun h => absurd h (this m), fun h => by omega⟩
  | some r =>
    rw [hl] at this
    simp only at this ⊢
    constructor
    · intro hw
      refine ⟨by omega, ?_⟩
      rcases Nat.lt_or_ge m r with h1 | h1
      · exact absurd hw (this.2 m h1)
      · omega
    · exact fun h => this.1.le (by omega)
theorem wsGo_le (f : Nat → Int) : ∀ (l : List Nat) (w : Int), 0 ≤ w → ∀ m : Nat, (0 ≤ wsGo f l w ∧ wsGo f l w ≤ m) ↔ w ≤ m ∧ ∀ c ∈ l, 0 ≤ f c ∧ f c ≤ m
  | [], w, hw, m => by simp [wsGo, hw]
  | c :: l, w, hw, m => by
    simp only [wsGo]
    split
    · rename_i h
      simp only [List.mem_cons, forall_eq_or_imp]
      constructor
      · intro h; omega
      · intro h; omega
    · rename_i h
      rw [wsGo_le f l _ (by split <;> omega) m]
      simp only [List.mem_cons, forall_eq_or_imp]
      constructor
      · rintro ⟨h1, h2⟩
        exact ⟨by split at h1 <;> omega, ⟨by omega, by split at h1 <;> omega⟩, h2⟩
      · rintro ⟨h1, h2, h3⟩
        exact ⟨by split <;> omega, h3⟩
/-- Within m moves the cat is caught from this choice. -/
theorem worst_iff {t : List Nat} (ht : Twn t) (two : Bool) {a b : Nat} (hab : a ≤ b) (hb : b < t.length) (htw : two = true ∨ a = b) (m : Nat) : (0 ≤ worstF t.length (playF t two) a b ∧ worstF t.length (playF t two) a b ≤ m) ↔ ∀ c, c < t.length → WinT t two m a b c := by
  rw [worstF, wsGo_le _ _ 0 (by omega)]
  constructor
  · rintro ⟨_, h⟩ c hc
    exact ((play_ok ht two).win (p := (a, b, c)) ⟨hab, hb, hc, htw⟩ m).2 (h c (List.mem_range.2 hc))
  · intro h
    exact ⟨by omega, fun c hc => ((play_ok ht two).win (p := (a, b, c)) ⟨hab, hb, List.mem_range.1 hc, htw⟩ m).1 (h c (List.mem_range.1 hc))⟩
theorem stF_le (W : Pr → Int) : ∀ (l : List Pr) (q : Pr × Int), (0 ≤ q.2 → (stF W l q).2 ≤ q.2 ∧ 0 ≤ (stF W l q).2) ∧ (∀ p ∈ l, 0 ≤ W p → 0 ≤ (stF W l q).2 ∧ (stF W l q).2 ≤ W p) ∧ (stF W l q = q ∨ ((stF W l q).1 ∈ l ∧ (stF W l q).2 = W (stF W l q).1 ∧ 0 ≤ (stF W l q).2))
  | [], q => by simp [stF]
  | p :: l, q => by
    simp only [stF]
    obtain ⟨h1, h2, h3⟩ := stF_le W l (if 0 ≤ W p ∧ (q.2 < 0 ∨ W p < q.2) then (p, W p) else q)
    split
    · rename_i hc
      rw [if_pos hc] at h1 h2 h3
      have h1 := h1 hc.1
      simp only at h1 h3
      refine ⟨fun hq => ⟨by omega, h1.2⟩, fun p' hp' hw => ?_, ?_⟩
      · rcases List.mem_cons.1 hp' with rfl | hp'
        · exact ⟨h1.2, h1.1⟩
        · exact h2 p' hp' hw
      · rcases h3 with h3 | ⟨h3, h4, h5⟩
        · rw [h3]; exact .inr ⟨by simp, rfl, hc.1⟩
        · exact .inr ⟨List.mem_cons_of_mem _ h3, h4, h5⟩
    · rename_i hc
      rw [if_neg hc] at h1 h2 h3
      refine ⟨h1, fun p' hp' hw => ?_, ?_⟩
      · rcases List.mem_cons.1 hp' with rfl | hp'
        · have hq : ¬ (q.2 < 0 ∨ W p' < q.2) := fun h => hc ⟨hw, h⟩
          simp only [not_or] at hq
          have := h1 (by omega)
          exact ⟨this.2, by omega⟩
        · exact h2 p' hp' hw
      · rcases h3 with h3 | ⟨h3, h4, h5⟩
        · exact .inl h3
        · exact .inr ⟨List.mem_cons_of_mem _ h3, h4, h5⟩
theorem teams_mem {n : Nat} {two : Bool} {q : Pr} : q ∈ teamsL n two ↔ q.1 ≤ q.2 ∧ q.2 < n ∧ (two = true ∨ q.1 = q.2) := by
  rw [teamsL, prs_mem]
  simp only [tmF, Bool.and_eq_true, decide_eq_true_eq, Bool.or_eq_true, beq_iff_eq]
  constructor
  · rintro ⟨h1, h2, h3, h4⟩
    exact ⟨h3, h2, h4⟩
  · rintro ⟨h1, h2, h3⟩
    exact ⟨by omega, h2, h1, h3⟩
/-- Start finds the least number of moves, if there is one. -/
theorem start_iff {t : List Nat} (ht : Twn t) (two : Bool) (m : Nat) : (0 ≤ (startF t.length two (playF t two)).2 ∧ (startF t.length two (playF t two)).2 ≤ m) ↔ ∃ a b, a < t.length ∧ b < t.length ∧ (two = true ∨ a = b) ∧ ∀ c, c < t.length → WinT t two m a b c := by
  obtain ⟨h1, h2, h3⟩ := stF_le (fun p => worstF t.length (playF t two) p.1 p.2) (teamsL t.length two) ((0, 0), -1)
  have e : startF t.length two (playF t two) = stF (fun p => worstF t.length (playF t two) p.1 p.2) (teamsL t.length two) ((0, 0), -1) := rfl
  rw [← e] at h2 h3
  generalize startF t.length two (playF t two) = s at *
  constructor
  · rintro ⟨h4, h5⟩
    rcases h3 with h3 | ⟨h3, h6, _⟩
    · rw [h3] at h4; simp at h4
    · rw [teams_mem] at h3
      exact ⟨s.1.1, s.1.2, by omega, h3.2.1, h3.2.2, (worst_iff ht two h3.1 h3.2.1 h3.2.2 m).1 ⟨by omega, by omega⟩⟩
  · rintro ⟨a, b, ha, hb, htw, hw⟩
    have key : ∀ a b, a ≤ b → b < t.length → (two = true ∨ a = b) → (∀ c, c < t.length → WinT t two m a b c) → 0 ≤ s.2 ∧ s.2 ≤ m := by
      intro a b hab hb htw hw
      have h4 := (worst_iff ht two hab hb htw m).2 hw
      have h5 : 0 ≤ s.2 ∧ s.2 ≤ worstF t.length (playF t two) a b := h2 (a, b) (teams_mem.2 ⟨hab, hb, htw⟩) h4.1
      exact ⟨h5.1, by omega⟩
    rcases Nat.le_total a b with hab | hab
    · exact key a b hab hb htw hw
    · exact key b a hab ha (htw.imp id Eq.symm) fun c hc => (hw c hc).swap
theorem start_cw {t : List Nat} (ht : Twn t) (two : Bool) : 0 ≤ (startF t.length two (playF t two)).2 ↔ Cw (vT t) (rT t) two := by
  constructor
  · intro h
    obtain ⟨a, b, ha, hb, htw, hw⟩ := (start_iff ht two (startF t.length two (playF t two)).2.toNat).1 ⟨h, by omega⟩
    exact ⟨a, b, ha, hb, htw, _, hw⟩
  · rintro ⟨a, b, ha, hb, htw, n, hw⟩
    exact ((start_iff ht two n).2 ⟨a, b, ha, hb, htw, hw⟩).1
end Go.Proofs.YtgcncgocdfioiaaDoor
