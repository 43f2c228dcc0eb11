import Derived.Test.YtgcncgocdfioiaaDoorCW5
/- CW6: safe places: a check accepts only places from which the cat escapes, and accepts all of these. -/
set_option linter.unusedVariables false
set_option linter.unusedSimpArgs false
set_option maxRecDepth 20000
namespace Go.Proofs.YtgcncgocdfioiaaDoor
open Go Go.PS
attribute [-simp] isKeyK List.map_take
/-- The cat escapes from a place. -/
def Esc (t : List Nat) (two : Bool) (p : Pl) : Prop := ∀ m, ¬ WinT t two m p.1 p.2.1 p.2.2
theorem rk_neg {t : List Nat} (ht : Twn t) {two : Bool} {p : Pl} (hp : GPl t.length two p) : rkI (playF t two) p < 0 ↔ Esc t two p := by
  have h := (play_ok ht two).win hp
  constructor
  · intro h1 m hw
    have := (h m).1 hw
    omega
  · intro h1
    apply Classical.byContradiction
    intro h2
    exact h1 _ ((h (rkI (playF t two) p).toNat).2 ⟨by omega, by omega⟩)
/-- What a safe set is. -/
structure SafeS (t : List Nat) (two : Bool) (S : Pl → Prop) : Prop where
  free : ∀ p, S p → GPl t.length two p ∧ ¬ (p.2.2 = p.1 ∨ p.2.2 = p.2.1)
  move : ∀ p, S p → ∀ q ∈ movesL t two p.1 p.2.1, ¬ (p.2.2 = q.1 ∨ p.2.2 = q.2) ∧ ∃ x, vT t x ∧ rT t p.2.2 x ∧ S (q.1, q.2, x)
  all : ∀ q ∈ teamsL t.length two, ∃ x, vT t x ∧ S (q.1, q.2, x)
theorem SafeS.never {t : List Nat} {two : Bool} {S : Pl → Prop} (h : SafeS t two S) : ∀ (n : Nat) (p : Pl), S p → ¬ WinT t two n p.1 p.2.1 p.2.2
  | 0, p, hp, hw => (h.free p hp).2 hw
  | n + 1, p, hp, hw => by
    rcases hw with hw | ⟨a', b', h1, h2, h3, h4, h5, hw⟩
    · exact h.never n p hp hw
    · rcases Nat.le_total a' b' with hab | hab
      · obtain ⟨h6, x, hx, hr, hS⟩ := h.move p hp (a', b') (moves_mem.2 ⟨h1, h2, hab, .inl ⟨h3, h4⟩, h5⟩)
        rcases hw with hw | hw | hw
        · exact h6 (.inl hw)
        · exact h6 (.inr hw)
        · exact h.never n _ hS (hw x hx hr)
      · obtain ⟨h6, x, hx, hr, hS⟩ := h.move p hp (b', a') (moves_mem.2 ⟨h2, h1, hab, .inr ⟨h3, h4⟩, h5.imp id Eq.symm⟩)
        rcases hw with hw | hw | hw
        · exact h6 (.inr hw)
        · exact h6 (.inl hw)
        · exact h.never n _ hS (hw x hx hr).swap
theorem SafeS.no_cw {t : List Nat} {two : Bool} {S : Pl → Prop} (h : SafeS t two S) : ¬ Cw (vT t) (rT t) two := by
  rintro ⟨a, b, ha, hb, hab, n, hw⟩
  have key : ∀ a b, vT t a → vT t b → a ≤ b → (two = true ∨ a = b) → (∀ c, vT t c → WinT t two n a b c) → False := by
    intro a b ha hb hle hab hw
    obtain ⟨x, hx, hS⟩ := h.all (a, b) (teams_mem.2 ⟨hle, hb, hab⟩)
    exact h.never n _ hS (hw x hx)
  rcases Nat.le_total a b with hle | hle
  · exact key a b ha hb hle hab hw
  · exact key b a hb ha hle (hab.imp id Eq.symm) fun c hc => (hw c hc).swap
/-- All from which the cat escapes are a safe set, if it escapes at all. -/
theorem esc_safe {t : List Nat} (ht : Twn t) {two : Bool} (hno : ¬ Cw (vT t) (rT t) two) : SafeS t two (fun p => GPl t.length two p ∧ Esc t two p) where
  free := fun p hp => ⟨hp.1, fun h => hp.2 0 h⟩
  move := by
    rintro p ⟨hp, he⟩ q hq
    rw [moves_mem] at hq
    obtain ⟨h1, h2, h3, h4, h5⟩ := hq
    have hmv : ∀ n, (p.2.2 = q.1 ∨ p.2.2 = q.2 ∨ ∀ c', vT t c' → rT t p.2.2 c' → WinT t two n q.1 q.2 c') → False := by
      intro n hw
      rcases h4 with ⟨h4, h4'⟩ | ⟨h4, h4'⟩
      · exact he (n + 1) (.inr ⟨q.1, q.2, h1, h2, h4, h4', h5, hw⟩)
      · refine he (n + 1) (.inr ⟨q.2, q.1, h2, h1, h4, h4', h5.imp id Eq.symm, ?_⟩)
        rcases hw with hw | hw | hw
        · exact .inr (.inl hw)
        · exact .inl hw
        · exact .inr (.inr fun c' q1 q2 => (hw c' q1 q2).swap)
    refine ⟨fun h => h.elim (fun h => hmv 0 (.inl h)) (fun h => hmv 0 (.inr (.inl h))), ?_⟩
    apply Classical.byContradiction
    intro hn
    obtain ⟨n, hb⟩ := bound (P := fun m c => rT t p.2.2 c → WinT t two m q.1 q.2 c) (fun n m c h hle hr => (h hr).le hle) t.length (fun c hc => by
      apply Classical.byContradiction
      intro hnc
      apply hn
      have hrc : rT t p.2.2 c := Classical.byContradiction fun h => hnc ⟨0, fun h' => absurd h' h⟩
      exact ⟨c, hc, hrc, ⟨h3, h2, hc, h5⟩, fun m hm => hnc ⟨m, fun _ => hm⟩⟩)
    exact hmv n (.inr (.inr fun c' q1 q2 => hb c' q1 q2))
  all := by
    intro q hq
    rw [teams_mem] at hq
    obtain ⟨h1, h2, h3⟩ := hq
    apply Classical.byContradiction
    intro hn
    obtain ⟨n, hb⟩ := bound (P := fun m c => WinT t two m q.1 q.2 c) (fun n m c h hle => h.le hle) t.length (fun c hc => by
      apply Classical.byContradiction
      intro hnc
      exact hn ⟨c, hc, ⟨h1, h2, hc, h3⟩, fun m hm => hnc ⟨m, hm⟩⟩)
    exact hno ⟨q.1, q.2, by show q.1 < t.length; omega, h2, h3, n, hb⟩
theorem okPl_iff {n : Nat} {k : Int} {p : Pl} : okPl n k p.1 p.2.1 p.2.2 = true ↔ GPl n (k == 2) p := by
  simp only [okPl, GPl, Bool.and_eq_true, decide_eq_true_eq, Bool.or_eq_true, beq_iff_eq]
  constructor
  · rintro ⟨h1, h2, h3, h4, h5⟩
    exact ⟨by omega, by omega, by omega, h5.imp id fun e => by omega⟩
  · rintro ⟨h1, h2, h3, h4⟩
    exact ⟨by omega, by omega, by omega, by omega, h4.imp id fun e => by omega⟩
theorem anyS_iff {t : List Nat} (ht : Twn t) {S : List Pl} {q : Pr} {s : Nat} (hs : s < 2 ^ t.length) : anyS S q s = true ↔ ∃ x, vT t x ∧ s.testBit x = true ∧ (q.1, q.2, x) ∈ S := by
  have h8 := sub_lt ht hs
  simp only [anyS, List.any_eq_true, hasS, decide_eq_true_eq]
  constructor
  · rintro ⟨x, hx, h⟩
    exact ⟨x, node_lt hs hx, (bits_mem h8).1 hx, h⟩
  · rintro ⟨x, _, hx, h⟩
    exact ⟨x, (bits_mem h8).2 hx, h⟩
theorem cB_false {p : Pl} : cB p = false ↔ ¬ (p.2.2 = p.1 ∨ p.2.2 = p.2.1) := by
  rw [← cB_iff]
  cases cB p <;> simp
/-- The check accepts exactly safe sets. -/
theorem ck_iff {t : List Nat} (ht : Twn t) (k : Int) (l : List P3) : ckB t k l = true ↔ (∀ p ∈ l, okPl t.length k p.1 p.2.1 p.2.2 = true) ∧ SafeS t (k == 2) (fun p => p ∈ l.map nP) := by
  have hp : 2 ≤ 2 ^ t.length := Nat.pow_le_pow_right (n := 2) (by decide) ht.1
  simp only [ckB, Bool.and_eq_true, List.all_eq_true, ddS_mem]
  constructor
  · rintro ⟨h1, h2, h3⟩
    have hok : ∀ p ∈ l, okPl t.length k p.1 p.2.1 p.2.2 = true := fun p hp => by
      have := h1 p hp
      simp only [goodP3, Bool.and_eq_true] at this
      exact this.1
    have hG : ∀ p ∈ l.map nP, GPl t.length (k == 2) p := fun p hp => by
      obtain ⟨p3, hp3, rfl⟩ := List.mem_map.1 hp
      exact (okPl_nat (hok p3 hp3)).2.2.2
    refine ⟨hok, ⟨fun p hp => ⟨hG p hp, ?_⟩, fun p hp q hq => ?_, fun q hq => ?_⟩⟩
    · obtain ⟨p3, hp3, rfl⟩ := List.mem_map.1 hp
      have := h1 p3 hp3
      simp only [goodP3, Bool.and_eq_true, Bool.not_eq_true'] at this
      exact cB_false.1 this.2
    · have h4 := h2 p hp
      simp only [placeOk, List.all_eq_true] at h4
      have h5 := h4 q hq
      simp only [stepOk, Bool.and_eq_true, Bool.not_eq_true'] at h5
      have hc := (hG p hp).2.2.1
      obtain ⟨x, hx, h6, h7⟩ := (anyS_iff ht (ht.2.2 _ (getD_mem hc))).1 h5.2
      exact ⟨cB_false.1 h5.1, x, hx, h6, by rw [ddS_mem] at h7; exact h7⟩
    · have h5 := h3 q hq
      obtain ⟨x, hx, _, h7⟩ := (anyS_iff ht (by omega)).1 h5
      exact ⟨x, hx, by rw [ddS_mem] at h7; exact h7⟩
  · rintro ⟨h1, hS⟩
    refine ⟨fun p hp => ?_, fun p hp => ?_, fun q hq => ?_⟩
    · simp only [goodP3, Bool.and_eq_true, Bool.not_eq_true']
      exact ⟨h1 p hp, cB_false.2 (hS.free _ (List.mem_map_of_mem hp)).2⟩
    · simp only [placeOk, List.all_eq_true]
      intro q hq
      obtain ⟨h2, x, hx, h3, h4⟩ := hS.move p hp q hq
      simp only [stepOk, Bool.and_eq_true, Bool.not_eq_true']
      have hc := (hS.free p hp).1.2.2.1
      exact ⟨cB_false.2 h2, (anyS_iff ht (ht.2.2 _ (getD_mem hc))).2 ⟨x, hx, h3, by rw [ddS_mem]; exact h4⟩⟩
    · obtain ⟨x, hx, h4⟩ := hS.all q hq
      exact (anyS_iff ht (by omega)).2 ⟨x, hx, by rw [Nat.testBit_two_pow_sub_one]; simpa using hx, by rw [ddS_mem]; exact h4⟩
def up (p : Pl) : P3 := ((p.1 : Int), (p.2.1 : Int), (p.2.2 : Int))
theorem nP_up (p : Pl) : nP (up p) = p := by simp [nP, up]
theorem cPl_up (l : List Pl) : l.map cPl = (l.map up).map cP3 := by
  rw [List.map_map]
  rfl
/-- What Safe returns is accepted. -/
theorem safe_ck {g : List Int} (h : validG g = true) (k : Int) (hn : (strF g k).2 < 0) : ckB (townOf g) k ((safeL (townOf g) (k == 2) (rksF g k)).map up) = true := by
  have ht := valid_town h
  have hno : ¬ Cw (vT (townOf g)) (rT (townOf g)) (k == 2) := by rw [← strF_cw h k]; omega
  have hmem : ∀ p, p ∈ safeL (townOf g) (k == 2) (rksF g k) ↔ GPl (townOf g).length (k == 2) p ∧ Esc (townOf g) (k == 2) p := by
    intro p
    rw [safeL, List.mem_filter, allPl_mem]
    constructor
    · rintro ⟨h1, h2⟩
      exact ⟨h1, (rk_neg ht h1).1 (of_decide_eq_true h2)⟩
    · rintro ⟨h1, h2⟩
      exact ⟨h1, decide_eq_true ((rk_neg ht h1).2 h2)⟩
  have hmm : ∀ p, p ∈ ((safeL (townOf g) (k == 2) (rksF g k)).map up).map nP ↔ GPl (townOf g).length (k == 2) p ∧ Esc (townOf g) (k == 2) p := by
    intro p
    rw [List.map_map]
    have : (nP ∘ up) = id := funext nP_up
    rw [this, List.map_id, hmem]
  rw [ck_iff ht]
  refine ⟨fun p hp => ?_, ?_⟩
  · obtain ⟨q, hq, rfl⟩ := List.mem_map.1 hp
    exact okPl_iff.2 ((hmem q).1 hq).1
  · have e : (fun p => p ∈ ((safeL (townOf g) (k == 2) (rksF g k)).map up).map nP) = (fun p => GPl (townOf g).length (k == 2) p ∧ Esc (townOf g) (k == 2) p) := funext fun p => propext (hmm p)
    rw [e]
    exact esc_safe ht hno
/-- Nothing is accepted where the sweeps catch the cat. -/
theorem ck_no {g : List Int} (h : validG g = true) (k : Int) (l : List P3) (hc : 0 ≤ (strF g k).2) : ckB (townOf g) k l = false := by
  cases hb : ckB (townOf g) k l with
  | false => rfl
  | true => exact absurd ((strF_cw h k).1 hc) ((ck_iff (valid_town h) k l).1 hb).2.no_cw
end Go.Proofs.YtgcncgocdfioiaaDoor
