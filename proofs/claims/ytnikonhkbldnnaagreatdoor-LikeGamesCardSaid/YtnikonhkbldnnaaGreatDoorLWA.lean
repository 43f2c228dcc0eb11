import Derived.Test.YtnikonhkbldnnaaGreatDoorProg
/- LW1: the game of two players on two graphs. No program in sight. -/
set_option linter.unusedVariables false
set_option linter.unusedSimpArgs false
namespace Go.Proofs.YtnikonhkbldnnaaGreatDoor
/-- Whether two nodes are neighbours. -/
def nbN (t : List Nat) (x y : Nat) : Bool := (t.getD x 0).testBit y
/-- What the choices i and j tell apart: whether they are the same, whether they are neighbours. -/
def badE (a b : List Nat) (i j : Nat) : Bool := (a.getD i 0 == a.getD j 0) != (b.getD i 0 == b.getD j 0)
def badN (t s : List Nat) (a b : List Nat) (i j : Nat) : Bool := nbN t (a.getD i 0) (a.getD j 0) != nbN s (b.getD i 0) (b.getD j 0)
def okN (t s : List Nat) (a b : List Nat) : Bool := (List.range a.length).all fun j => (List.range j).all fun i => !(badE a b i j || badN t s a b i j)
/-- To each choice an answer. -/
def ansN (w : List Nat → List Nat → Bool) (n m : Nat) (a b : List Nat) : Bool := (List.range n).all fun v => (List.range m).any fun u => w (a ++ [v]) (b ++ [u])
/-- Whether the second player can win. -/
def winN : Nat → List Nat → List Nat → List Nat → List Nat → Bool
  | 0, t, s, a, b => okN t s a b
  | k + 1, t, s, a, b => okN t s a b && (ansN (winN k t s) t.length s.length a b && ansN (winN k s t) s.length t.length b a)
/-- A checked graph. -/
structure Tow (n : Nat) (t : List Nat) : Prop where
  pos : 1 ≤ t.length
  le : t.length ≤ n
  lt : ∀ x ∈ t, x < 2 ^ t.length
  irr : ∀ i, i < t.length → (t.getD i 0).testBit i = false
  sym : ∀ i j, i < t.length → j < t.length → (t.getD i 0).testBit j = (t.getD j 0).testBit i
theorem Tow.get {n : Nat} {t : List Nat} (h : Tow n t) (i : Nat) : t.getD i 0 < 2 ^ t.length := by
  rcases Nat.lt_or_ge i t.length with hi | hi
  · rw [List.getD_eq_getElem?_getD, List.getElem?_eq_getElem hi]
    exact h.lt _ (List.getElem_mem hi)
  · rw [List.getD_eq_getElem?_getD, List.getElem?_eq_none hi]
    exact Nat.two_pow_pos _
theorem nb_sym {n : Nat} {t : List Nat} (h : Tow n t) {x y : Nat} (hx : x < t.length) (hy : y < t.length) : nbN t x y = nbN t y x := h.sym x y hx hy
theorem okN_range {t s a b : List Nat} : okN t s a b = true ↔ ∀ j, j < a.length → ∀ i, i < j → badE a b i j = false ∧ badN t s a b i j = false := by
  unfold okN
  simp only [List.all_eq_true, List.mem_range, Bool.not_eq_true', Bool.or_eq_false_iff]
theorem okN_no {t s a b : List Nat} {i j : Nat} (hj : j < a.length) (hi : i < j) (h : (badE a b i j || badN t s a b i j) = true) : okN t s a b = false := by
  rw [Bool.eq_false_iff]
  intro e
  have := okN_range.1 e j hj i hi
  rw [this.1, this.2] at h
  cases h
end Go.Proofs.YtnikonhkbldnnaaGreatDoor
/- LW2: refining colours: kinds, their order, ranks; how often a round raises their number. No program in sight. -/
set_option linter.unusedVariables false
set_option linter.unusedSimpArgs false
namespace Go.Proofs.YtnikonhkbldnnaaGreatDoor
/-- The order of lists. -/
def cmpN : List Nat → List Nat → Int
  | [], [] => 0
  | [], _ :: _ => -1
  | _ :: _, [] => 1
  | x :: l, y :: m => if x < y then -1 else if y < x then 1 else cmpN l m
theorem cmpN_self : ∀ l, cmpN l l = 0
  | [] => rfl
  | x :: l => by simp [cmpN, cmpN_self l]
theorem cmpN_eq : ∀ {l m}, cmpN l m = 0 → l = m
  | [], [], _ => rfl
  | [], _ :: _, h => by simp [cmpN] at h
  | _ :: _, [], h => by simp [cmpN] at h
  | x :: l, y :: m, h => by
    rw [cmpN] at h
    split at h
    · simp at h
    · split at h
      · simp at h
      · rw [cmpN_eq h, show x = y by omega]
theorem cmpN_cases (l m : List Nat) : cmpN l m = -1 ∨ cmpN l m = 0 ∨ cmpN l m = 1 := by
  induction l generalizing m with
  | nil => cases m <;> simp [cmpN]
  | cons x l ih =>
    cases m with
    | nil => simp [cmpN]
    | cons y m =>
      rw [cmpN]
      split
      · simp
      · split
        · simp
        · exact ih m
theorem cmpN_anti (l m : List Nat) : cmpN l m = - cmpN m l := by
  induction l generalizing m with
  | nil => cases m <;> simp [cmpN]
  | cons x l ih =>
    cases m with
    | nil => simp [cmpN]
    | cons y m =>
      rw [cmpN, cmpN]
      repeat' split
      all_goals first | omega | (exact ih m) | rfl
theorem cmpN_trans : ∀ {l m k}, cmpN l m < 0 → cmpN m k < 0 → cmpN l k < 0
  | [], [], k, h, _ => by simp [cmpN] at h
  | [], _ :: _, [], _, h => by simp [cmpN] at h
  | [], _ :: _, _ :: _, _, _ => by simp [cmpN]
  | _ :: _, [], _, h, _ => by simp [cmpN] at h
  | _ :: _, _ :: _, [], _, h => by simp [cmpN] at h
  | x :: l, y :: m, z :: k, h1, h2 => by
    rw [cmpN] at *
    split at h1
    · split at h2
      · rw [if_pos (by omega)]; decide
      · split at h2
        · omega
        · rw [if_pos (by omega)]; decide
    · split at h1
      · omega
      · split at h2
        · rw [if_pos (by omega)]; decide
        · split at h2
          · omega
          · rw [if_neg (by omega), if_neg (by omega)]
            exact cmpN_trans h1 h2
/-- Strictly rising. -/
def Ris (S : List (List Nat)) : Prop := S.Pairwise fun a b => cmpN a b < 0
theorem ris_unique : ∀ {S T : List (List Nat)}, Ris S → Ris T → (∀ x, x ∈ S ↔ x ∈ T) → S = T
  | [], [], _, _, _ => rfl
  | [], y :: T, _, _, h => by have := (h y).2 (by simp); simp at this
  | x :: S, [], _, _, h => by have := (h x).1 (by simp); simp at this
  | x :: S, y :: T, hS, hT, h => by
    have h1 := List.pairwise_cons.1 hS
    have h2 := List.pairwise_cons.1 hT
    have e : x = y := by
      have a1 := (h x).1 (by simp)
      have a2 := (h y).2 (by simp)
      rcases List.mem_cons.1 a1 with e | e
      · exact e
      · rcases List.mem_cons.1 a2 with e' | e'
        · exact e'.symm
        · have b1 := h2.1 x e
          have b2 := h1.1 y e'
          rw [cmpN_anti] at b1
          omega
    subst e
    have : S = T := ris_unique h1.2 h2.2 fun z => by
      have hz := h z
      simp only [List.mem_cons] at hz
      constructor
      · intro hm
        rcases hz.1 (.inr hm) with e | e
        · subst e
          have := h1.1 z hm
          rw [cmpN_self] at this
          omega
        · exact e
      · intro hm
        rcases hz.2 (.inr hm) with e | e
        · subst e
          have := h2.1 z hm
          rw [cmpN_self] at this
          omega
        · exact e
    rw [this]
/-- Where a list stands among others. -/
def insK (S : List (List Nat)) (p : List Nat) : List (List Nat) :=
  let at_ := S.countP fun q => decide (cmpN q p < 0)
  if S.contains p then S else S.take at_ ++ p :: S.drop at_
theorem ris_count {p : List Nat} : ∀ {S : List (List Nat)}, Ris S → ∀ i (h : i < S.length), (i < S.countP (fun q => decide (cmpN q p < 0)) ↔ cmpN S[i] p < 0)
  | [], _, i, h => by simp at h
  | x :: S, hS, i, h => by
    have h1 := List.pairwise_cons.1 hS
    by_cases e : cmpN x p < 0
    · rw [List.countP_cons_of_pos (by simpa using e)]
      cases i with
      | zero => simp [e]
      | succ i =>
        have := ris_count (p := p) h1.2 i (by simpa using h)
        simp only [List.getElem_cons_succ]
        rw [← this]
        omega
    · rw [List.countP_cons_of_neg (by simpa using e)]
      have hz : S.countP (fun q => decide (cmpN q p < 0)) = 0 := by
        rw [List.countP_eq_zero]
        intro q hq
        have := h1.1 q hq
        simp only [decide_eq_true_eq]
        intro h2
        exact e (cmpN_trans this h2)
      rw [hz]
      constructor
      · intro h; omega
      · intro h2
        exfalso
        cases i with
        | zero => exact e h2
        | succ i =>
          have := h1.1 _ (List.getElem_mem (l := S) (n := i) (by simpa using h))
          exact e (cmpN_trans this h2)
theorem insK_mem {S : List (List Nat)} {p x : List Nat} : x ∈ insK S p ↔ x = p ∨ x ∈ S := by
  unfold insK
  simp only
  split
  · rename_i h
    constructor
    · exact .inr
    · rintro (rfl | h')
      · simpa using h
      · exact h'
  · rw [List.mem_append, List.mem_cons]
    conv => rhs; rw [← List.take_append_drop (S.countP fun q => decide (cmpN q p < 0)) S, List.mem_append]
    constructor
    · rintro (h | h | h)
      · exact .inr (.inl h)
      · exact .inl h
      · exact .inr (.inr h)
    · rintro (h | h | h)
      · exact .inr (.inl h)
      · exact .inl h
      · exact .inr (.inr h)
theorem insK_ris {S : List (List Nat)} {p : List Nat} (hS : Ris S) : Ris (insK S p) := by
  unfold insK
  simp only
  split
  · exact hS
  · rename_i hp
    have hp : p ∉ S := by simpa using hp
    have hc := fun i h => ris_count (p := p) hS i h
    generalize S.countP (fun q => decide (cmpN q p < 0)) = a at *
    have hl : ∀ x ∈ S.take a, cmpN x p < 0 := by
      intro x hx
      obtain ⟨i, hi, rfl⟩ := List.mem_iff_getElem.1 hx
      simp only [List.length_take] at hi
      rw [List.getElem_take]
      exact (hc i (by omega)).1 (by omega)
    have hr : ∀ x ∈ S.drop a, cmpN p x < 0 := by
      intro x hx
      obtain ⟨i, hi, rfl⟩ := List.mem_iff_getElem.1 hx
      simp only [List.length_drop] at hi
      rw [List.getElem_drop]
      have h1 : ¬ cmpN S[a + i] p < 0 := fun e => absurd ((hc (a + i) (by omega)).2 e) (by omega)
      rw [cmpN_anti]
      rcases cmpN_cases S[a + i] p with h | h | h
      · rw [h] at h1; simp at h1
      · exact absurd (List.getElem_mem (by omega)) (cmpN_eq h ▸ hp)
      · rw [h]; decide
    refine List.pairwise_append.2 ⟨hS.sublist (List.take_sublist _ _), List.pairwise_cons.2 ⟨hr, hS.sublist (List.drop_sublist _ _)⟩, ?_⟩
    intro x hx y hy
    rcases List.mem_cons.1 hy with rfl | hy
    · exact hl x hx
    · exact cmpN_trans (hl x hx) (hr y hy)
/-- The different ones of some lists, in order. -/
def kindsL (L : List (List Nat)) : List (List Nat) := L.foldl insK []
theorem kinds_go (L : List (List Nat)) : ∀ S, Ris S → Ris (L.foldl insK S) ∧ ∀ x, x ∈ L.foldl insK S ↔ x ∈ S ∨ x ∈ L := by
  induction L with
  | nil => intro S hS; exact ⟨hS, fun x => by simp⟩
  | cons p L ih =>
    intro S hS
    obtain ⟨h1, h2⟩ := ih (insK S p) (insK_ris hS)
    refine ⟨h1, fun x => ?_⟩
    rw [List.foldl_cons, h2 x, insK_mem, List.mem_cons]
    constructor
    · rintro ((h | h) | h)
      · exact .inr (.inl h)
      · exact .inl h
      · exact .inr (.inr h)
    · rintro (h | h | h)
      · exact .inl (.inr h)
      · exact .inl (.inl h)
      · exact .inr h
theorem kinds_ris (L : List (List Nat)) : Ris (kindsL L) := (kinds_go L [] List.Pairwise.nil).1
theorem kinds_mem (L : List (List Nat)) (x : List Nat) : x ∈ kindsL L ↔ x ∈ L := by
  have := (kinds_go L [] List.Pairwise.nil).2 x
  simpa [kindsL] using this
/-- The rank of a list among some. -/
def rkL (S : List (List Nat)) (p : List Nat) : Nat := S.countP fun q => decide (cmpN q p < 0)
theorem rk_at {S : List (List Nat)} (hS : Ris S) (i : Nat) (h : i < S.length) : rkL S S[i] = i := by
  have hc := fun j hj => ris_count (p := S[i]) hS j hj
  have hle : S.countP (fun q => decide (cmpN q S[i] < 0)) ≤ S.length := List.countP_le_length
  unfold rkL
  generalize S.countP (fun q => decide (cmpN q S[i] < 0)) = a at *
  have h1 : ¬ i < a := fun e => absurd ((hc i h).1 e) (by rw [cmpN_self]; decide)
  rcases Nat.lt_or_ge a i with h2 | h2
  · have h3 : ¬ cmpN S[a] S[i] < 0 := fun e => absurd ((hc a (by omega)).2 e) (by omega)
    have h4 := List.pairwise_iff_getElem.1 hS a i (by omega) h h2
    exact absurd h4 h3
  · omega
theorem rk_get {S : List (List Nat)} (hS : Ris S) {p : List Nat} (h : p ∈ S) : ∃ hl : rkL S p < S.length, S[rkL S p] = p := by
  obtain ⟨i, hi, rfl⟩ := List.mem_iff_getElem.1 h
  have := rk_at hS i hi
  exact ⟨by omega, by simp [this]⟩
/-- Numbers, rising. -/
def insN (x : Nat) : List Nat → List Nat
  | [] => [x]
  | y :: l => if x < y then x :: y :: l else y :: insN x l
def srtN (l : List Nat) : List Nat := l.foldl (fun s x => insN x s) []
theorem insN_perm (x : Nat) : ∀ l, (insN x l).Perm (x :: l)
  | [] => .refl _
  | y :: l => by
    rw [insN]
    split
    · exact .refl _
    · exact ((insN_perm x l).cons y).trans (.swap x y l)
theorem insN_sorted (x : Nat) : ∀ l : List Nat, l.Pairwise (· ≤ ·) → (insN x l).Pairwise (· ≤ ·)
  | [], _ => by simp [insN]
  | y :: l, h => by
    have h1 := List.pairwise_cons.1 h
    rw [insN]
    split
    · refine List.pairwise_cons.2 ⟨fun z hz => ?_, h⟩
      rcases List.mem_cons.1 hz with rfl | hz
      · omega
      · have := h1.1 z hz; omega
    · refine List.pairwise_cons.2 ⟨fun z hz => ?_, insN_sorted x l h1.2⟩
      rcases List.mem_cons.1 ((insN_perm x l).mem_iff.1 hz) with rfl | hz
      · omega
      · exact h1.1 z hz
theorem srtN_go (l : List Nat) : ∀ s : List Nat, s.Pairwise (· ≤ ·) → (l.foldl (fun s x => insN x s) s).Pairwise (· ≤ ·) ∧ (l.foldl (fun s x => insN x s) s).Perm (s ++ l) := by
  induction l with
  | nil => intro s hs; simpa using hs
  | cons x l ih =>
    intro s hs
    obtain ⟨h1, h2⟩ := ih (insN x s) (insN_sorted x s hs)
    refine ⟨h1, h2.trans ?_⟩
    refine ((insN_perm x s).append_right l).trans ?_
    exact List.perm_middle.symm
theorem srtN_sorted (l : List Nat) : (srtN l).Pairwise (· ≤ ·) := (srtN_go l [] List.Pairwise.nil).1
theorem srtN_perm (l : List Nat) : (srtN l).Perm l := by simpa [srtN] using (srtN_go l [] List.Pairwise.nil).2
theorem srt_unique : ∀ {S T : List Nat}, S.Pairwise (· ≤ ·) → T.Pairwise (· ≤ ·) → S.Perm T → S = T
  | [], T, _, _, h => by rw [List.nil_perm.1 h]
  | x :: S, [], _, _, h => by have := h.length_eq; simp at this
  | x :: S, y :: T, hS, hT, h => by
    have h1 := List.pairwise_cons.1 hS
    have h2 := List.pairwise_cons.1 hT
    have e : x = y := by
      have a1 : x ∈ y :: T := h.mem_iff.1 (by simp)
      have a2 : y ∈ x :: S := h.mem_iff.2 (by simp)
      rcases List.mem_cons.1 a1 with e | e
      · exact e
      · rcases List.mem_cons.1 a2 with e' | e'
        · exact e'.symm
        · have b1 := h2.1 x e
          have b2 := h1.1 y e'
          omega
    subst e
    rw [srt_unique h1.2 h2.2 ((List.perm_cons x).1 h)]
theorem srtN_of {S l : List Nat} (hS : S.Pairwise (· ≤ ·)) (h : S.Perm l) : S = srtN l := srt_unique hS (srtN_sorted l) (h.trans (srtN_perm l).symm)
/-- The nodes of a set. -/
def ndN (s : Nat) : List Nat := (List.range 12).filter s.testBit
/-- A node's kind. -/
def kdN (t c : List Nat) (v : Nat) : List Nat := c.getD v 0 :: srtN ((ndN (t.getD v 0)).map fun u => c.getD u 0)
def kdsN (t c : List Nat) : List (List Nat) := (List.range t.length).map (kdN t c)
/-- The colours of the next round. -/
def refN (t c : List Nat) : List Nat := (kdsN t c).map (rkL (kindsL (kdsN t c)))
/-- One more than the greatest colour. -/
def mostN (l : List Nat) : Nat := l.foldl (fun n c => max n (c + 1)) 0
theorem most_go (l : List Nat) : ∀ n, (∀ c ∈ l, c < l.foldl (fun n c => max n (c + 1)) n) ∧ n ≤ l.foldl (fun n c => max n (c + 1)) n ∧ ∀ m, n ≤ m → (∀ c ∈ l, c < m) → l.foldl (fun n c => max n (c + 1)) n ≤ m := by
  induction l with
  | nil => intro n; exact ⟨by simp, Nat.le_refl _, fun m h _ => h⟩
  | cons x l ih =>
    intro n
    obtain ⟨h1, h2, h3⟩ := ih (max n (x + 1))
    refine ⟨fun c hc => ?_, ?_, fun m hm hc => ?_⟩
    · rcases List.mem_cons.1 hc with rfl | hc
      · rw [List.foldl_cons]; omega
      · exact h1 c hc
    · rw [List.foldl_cons]; omega
    · rw [List.foldl_cons]
      refine h3 m ?_ fun c hc' => hc c (by simp [hc'])
      have := hc x (by simp)
      omega
theorem most_lt {l : List Nat} {c : Nat} (h : c ∈ l) : c < mostN l := (most_go l 0).1 c h
theorem most_le {l : List Nat} {m : Nat} (h : ∀ c ∈ l, c < m) : mostN l ≤ m := (most_go l 0).2.2 m (Nat.zero_le _) h
/-- All colours below the greatest are there. -/
def Full (n : Nat) (c : List Nat) : Prop := c.length = n ∧ ∀ i, i < mostN c → i ∈ c
theorem full_zero (n : Nat) : Full n (List.replicate n 0) := by
  refine ⟨by simp, fun i hi => ?_⟩
  have h1 : mostN (List.replicate n 0) ≤ 1 := most_le fun c hc => by rw [(List.mem_replicate.1 hc).2]; decide
  have : n ≠ 0 := by
    rintro rfl
    simp [mostN] at hi
  simp only [List.mem_replicate]
  omega
theorem refN_most (t c : List Nat) : mostN (refN t c) = (kindsL (kdsN t c)).length := by
  apply Nat.le_antisymm
  · refine most_le fun x hx => ?_
    obtain ⟨p, hp, rfl⟩ := List.mem_map.1 hx
    exact (rk_get (kinds_ris _) ((kinds_mem _ _).2 hp)).1
  · rcases Nat.eq_zero_or_pos (kindsL (kdsN t c)).length with h | h
    · omega
    · have hm := (kinds_mem (kdsN t c) _).1 (List.getElem_mem (l := kindsL (kdsN t c)) (n := (kindsL (kdsN t c)).length - 1) (by omega))
      have := most_lt (l := refN t c) (List.mem_map.2 ⟨_, hm, rfl⟩)
      rw [rk_at (kinds_ris _) _ (by omega)] at this
      omega
theorem refN_full (t c : List Nat) : Full t.length (refN t c) := by
  refine ⟨by simp [refN, kdsN], fun i hi => ?_⟩
  rw [refN_most] at hi
  have hm := (kinds_mem (kdsN t c) _).1 (List.getElem_mem (l := kindsL (kdsN t c)) (n := i) hi)
  exact List.mem_map.2 ⟨_, hm, rk_at (kinds_ris _) i hi⟩
theorem pigeon : ∀ (m : Nat) (l : List Nat), (∀ i, i < m → i ∈ l) → m ≤ l.length
  | 0, l, _ => Nat.zero_le _
  | m + 1, l, h => by
    have h1 := h m (by omega)
    have := pigeon m (l.erase m) fun i hi => (List.mem_erase_of_ne (by omega)).2 (h i (by omega))
    rw [List.length_erase_of_mem h1] at this
    have := List.length_pos_of_mem h1
    omega
theorem full_le {n : Nat} {c : List Nat} (h : Full n c) : mostN c ≤ n := by
  have := pigeon (mostN c) c h.2
  rw [h.1] at this
  exact this
/-- A round does not make colours fewer. -/
theorem most_mono {t c : List Nat} (h : Full t.length c) : mostN c ≤ mostN (refN t c) := by
  rw [refN_most]
  have := pigeon (mostN c) ((kindsL (kdsN t c)).map fun p => p.headD 0) fun i hi => by
    obtain ⟨v, hv, rfl⟩ := List.mem_iff_getElem.1 (h.2 i hi)
    have hm : kdN t c v ∈ kindsL (kdsN t c) := (kinds_mem _ _).2 (List.mem_map.2 ⟨v, List.mem_range.2 (by rw [← h.1]; exact hv), rfl⟩)
    refine List.mem_map.2 ⟨_, hm, ?_⟩
    simp [kdN, List.getD_eq_getElem?_getD, hv]
  simpa using this
/-- The colours in the end, and the rounds. -/
def colW (t c : List Nat) (r : Nat) : List Nat × Nat :=
  if h : mostN c < mostN (refN t c) ∧ mostN (refN t c) ≤ t.length then colW t (refN t c) (r + 1) else (c, r)
termination_by t.length - mostN c
decreasing_by omega
def colN (t : List Nat) : List Nat × Nat := colW t (List.replicate t.length 0) 0
theorem colW_stop {t c : List Nat} {r : Nat} (h : mostN (refN t c) = mostN c) : colW t c r = (c, r) := by
  rw [colW, dif_neg (by omega)]
theorem colW_go {t c : List Nat} {r : Nat} (hf : Full t.length c) (h : mostN (refN t c) ≠ mostN c) : colW t c r = colW t (refN t c) (r + 1) := by
  rw [colW, dif_pos ⟨by have := most_mono hf; omega, full_le (refN_full t c)⟩]
theorem colW_rounds {t : List Nat} : ∀ {c : List Nat} {r : Nat}, Full t.length c → (colW t c r).2 ≤ r + (t.length - mostN c)
  | c, r, hf => by
    by_cases h : mostN (refN t c) = mostN c
    · rw [colW_stop h]; simp
    · rw [colW_go hf h]
      have h1 := most_mono hf
      have h2 := full_le (refN_full t c)
      have := colW_rounds (t := t) (c := refN t c) (r := r + 1) (refN_full t c)
      omega
termination_by c => t.length - mostN c
decreasing_by
  have h1 := most_mono hf
  have h2 := full_le (refN_full t c)
  omega
theorem colW_full {t : List Nat} : ∀ {c : List Nat} {r : Nat}, Full t.length c → Full t.length (colW t c r).1
  | c, r, hf => by
    by_cases h : mostN (refN t c) = mostN c
    · rw [colW_stop h]; exact hf
    · rw [colW_go hf h]
      exact colW_full (refN_full t c)
termination_by c => t.length - mostN c
decreasing_by
  have h1 := most_mono hf
  have h2 := full_le (refN_full t c)
  omega
theorem colN_full (t : List Nat) : Full t.length (colN t).1 := colW_full (full_zero _)
/-- An edge and an edge. -/
theorem col_edges : colN [2, 1, 8, 4] = ([0, 0, 0, 0], 0) := colW_stop (by decide)
end Go.Proofs.YtnikonhkbldnnaaGreatDoor
/- LW3: counting maps; trees into graphs that are alike; unions. No program in sight. -/
set_option linter.unusedVariables false
set_option linter.unusedSimpArgs false
namespace Go.Proofs.YtnikonhkbldnnaaGreatDoor
/-- Whether x can be the node of the next one. -/
def fitN (t g b : List Nat) (x : Nat) : Bool := (List.range b.length).all fun u => !(nbN t b.length u) || nbN g (b.getD u 0) x
/-- How many maps go on from some nodes' ones, f nodes being left. -/
def mapsN (t g : List Nat) : Nat → List Nat → Nat
  | 0, _ => 1
  | f + 1, b => ((List.range g.length).map fun x => if fitN t g b x then mapsN t g f (b ++ [x]) else 0).sum
/-- Colours that no round turns: whoever has the same colour has as many neighbours of each. -/
def Stab (t c : List Nat) : Prop := ∀ x y, x < t.length → y < t.length → c.getD x 0 = c.getD y 0 → ((ndN (t.getD x 0)).map fun u => c.getD u 0).Perm ((ndN (t.getD y 0)).map fun u => c.getD u 0)
theorem rk_inj {S : List (List Nat)} (hS : Ris S) {p q : List Nat} (hp : p ∈ S) (hq : q ∈ S) (h : rkL S p = rkL S q) : p = q := by
  obtain ⟨h1, e1⟩ := rk_get hS hp
  obtain ⟨h2, e2⟩ := rk_get hS hq
  rw [← e1, ← e2]
  simp only [h]
/-- If c's colours are as many as the next ones, then equal colours have equal kinds. -/
theorem stab_of {t c : List Nat} (hf : Full t.length c) (h : mostN (refN t c) = mostN c) : Stab t c := by
  intro x y hx hy hc
  have hm : ∀ v, v < t.length → kdN t c v ∈ kindsL (kdsN t c) := fun v hv => (kinds_mem _ _).2 (List.mem_map.2 ⟨v, List.mem_range.2 hv, rfl⟩)
  have hris := kinds_ris (kdsN t c)
  rw [refN_most] at h
  have hall : ∀ p ∈ kindsL (kdsN t c), ∃ v, v < t.length ∧ p = kdN t c v := fun p hp => by
    obtain ⟨v, hv, rfl⟩ := List.mem_map.1 ((kinds_mem _ _).1 hp)
    exact ⟨v, List.mem_range.1 hv, rfl⟩
  generalize kindsL (kdsN t c) = S at *
  have hk : kdN t c x = kdN t c y := by
    apply Classical.byContradiction
    intro hne
    have hp := pigeon (mostN c) ((S.erase (kdN t c x)).map fun p => p.headD 0) fun i hi => by
      obtain ⟨v, hv, hvi⟩ := List.mem_iff_getElem.1 (hf.2 i hi)
      have hvt : v < t.length := by rw [← hf.1]; exact hv
      have hcv : c.getD v 0 = i := by simp [List.getD_eq_getElem?_getD, hv, hvi]
      by_cases e : kdN t c v = kdN t c x
      · have h1 : c.getD x 0 = i := by
          have := congrArg (fun p => p.headD 0) e
          simp only [kdN, List.headD_cons] at this
          omega
        exact List.mem_map.2 ⟨kdN t c y, (List.mem_erase_of_ne (Ne.symm hne)).2 (hm y hy), by simp only [kdN, List.headD_cons]; omega⟩
      · exact List.mem_map.2 ⟨kdN t c v, (List.mem_erase_of_ne e).2 (hm v hvt), by simp only [kdN, List.headD_cons]; exact hcv⟩
    rw [List.length_map, List.length_erase_of_mem (hm x hx)] at hp
    have := List.length_pos_of_mem (hm x hx)
    omega
  have ht : srtN ((ndN (t.getD x 0)).map fun u => c.getD u 0) = srtN ((ndN (t.getD y 0)).map fun u => c.getD u 0) := by
    simp only [kdN, List.cons.injEq] at hk
    exact hk.2
  exact (srtN_perm _).symm.trans (ht ▸ srtN_perm _)
theorem colW_stab {t : List Nat} : ∀ {c : List Nat} {r : Nat}, Full t.length c → Stab t (colW t c r).1
  | c, r, hf => by
    by_cases h : mostN (refN t c) = mostN c
    · rw [colW_stop h]; exact stab_of hf h
    · rw [colW_go hf h]
      exact colW_stab (refN_full t c)
termination_by c => t.length - mostN c
decreasing_by
  have h1 := most_mono hf
  have h2 := full_le (refN_full t c)
  omega
theorem colN_stab (t : List Nat) : Stab t (colN t).1 := colW_stab (full_zero _)
/-- Two graphs as one. -/
def besN (t h : List Nat) : List Nat := t ++ h.map (· <<< t.length)
/-- How often a colour is in a list. -/
def shN (t h : List Nat) : List Nat × List Nat := ((colN (besN t h)).1.take t.length, (colN (besN t h)).1.drop t.length)
def likeN (t h : List Nat) : Bool := (List.range (mostN (colN (besN t h)).1)).all fun i => (shN t h).1.count i == (shN t h).2.count i
theorem like_perm {t h : List Nat} (hl : likeN t h = true) : (shN t h).1.Perm (shN t h).2 := by
  rw [List.perm_iff_count]
  intro i
  by_cases hi : i < mostN (colN (besN t h)).1
  · have := List.all_eq_true.1 hl i (List.mem_range.2 hi)
    simpa using this
  · have hn : ∀ l : List Nat, (∀ x ∈ l, x ∈ (colN (besN t h)).1) → l.count i = 0 := fun l hl => by
      rw [List.count_eq_zero]
      intro h1
      exact hi (most_lt (hl i h1))
    rw [hn (shN t h).1 fun x hx => List.mem_of_mem_take hx, hn (shN t h).2 fun x hx => List.mem_of_mem_drop hx]
theorem sum_perm {a b : List Nat} (h : a.Perm b) : a.sum = b.sum := h.sum_nat
theorem sum_filter (p : Nat → Bool) (F : Nat → Nat) : ∀ l : List Nat, (l.map fun x => if p x then F x else 0).sum = ((l.filter p).map F).sum
  | [] => rfl
  | x :: l => by
    by_cases h : p x = true
    · simp [h, sum_filter p F l]
    · simp [h, sum_filter p F l]
/-- A tree's shape: each further node has one neighbour ahead of it, the one that par tells. -/
def Tre (t : List Nat) (par : Nat → Nat) : Prop := ∀ k, 1 ≤ k → k < t.length → par k < k ∧ ∀ u, u < k → nbN t k u = decide (u = par k)
theorem fit_tre {t g b : List Nat} {par : Nat → Nat} (ht : Tre t par) (h1 : 1 ≤ b.length) (hb : b.length < t.length) (x : Nat) : fitN t g b x = nbN g (b.getD (par b.length) 0) x := by
  obtain ⟨hp, hu⟩ := ht b.length h1 hb
  unfold fitN
  rw [Bool.eq_iff_iff, List.all_eq_true]
  constructor
  · intro h
    have := h (par b.length) (List.mem_range.2 hp)
    rw [hu _ hp] at this
    simpa using this
  · intro h u hr
    rw [hu u (List.mem_range.1 hr)]
    by_cases e : u = par b.length
    · subst e; rw [h]; simp
    · simp [e]
theorem nd_filter {n s : Nat} (hn : n ≤ 12) (hs : s < 2 ^ n) : (List.range n).filter s.testBit = ndN s := by
  unfold ndN
  have h12 : List.range 12 = List.range n ++ (List.range (12 - n)).map (n + ·) := by
    rw [← List.range_add]
    congr 1
    omega
  rw [h12, List.filter_append]
  have : ((List.range (12 - n)).map (n + ·)).filter s.testBit = [] := by
    rw [List.filter_eq_nil_iff]
    intro x hx
    obtain ⟨y, _, rfl⟩ := List.mem_map.1 hx
    rw [Nat.testBit_lt_two_pow (Nat.lt_of_lt_of_le hs (Nat.pow_le_pow_right (by decide) (by omega)))]
    simp
  rw [this, List.append_nil]
/-- Sums over nodes whose values only their colours tell. -/
theorem sum_col {F G : Nat → Nat} {c d : List Nat} {n m : Nat} (ih : ∀ x y, x < n → y < m → c.getD x 0 = d.getD y 0 → F x = G y) (A B : List Nat) (mA : ∀ x ∈ A, x < n) (mB : ∀ y ∈ B, y < m)
    (hP : (A.map fun u => c.getD u 0).Perm (B.map fun u => d.getD u 0)) : (A.map F).sum = (B.map G).sum := by
  let V : Nat → Nat := fun k => match (List.range m).find? fun y => d.getD y 0 == k with
    | some y => G y
    | none => 0
  have v2 : ∀ x y, x < n → y < m → c.getD x 0 = d.getD y 0 → V (d.getD y 0) = F x := fun x y hx hy hxy => by
    show (match (List.range m).find? fun z => d.getD z 0 == d.getD y 0 with
      | some z => G z
      | none => 0) = _
    cases hfd : (List.range m).find? fun z => d.getD z 0 == d.getD y 0 with
    | none =>
      have := List.find?_eq_none.1 hfd y (List.mem_range.2 hy)
      simp at this
    | some z =>
      have hz1 := List.find?_some hfd
      have hz2 := List.mem_range.1 (List.mem_of_find?_eq_some hfd)
      have hz3 : d.getD z 0 = d.getD y 0 := by simpa using hz1
      exact (ih x z hx hz2 (by omega)).symm
  have hA : A.map F = (A.map fun u => c.getD u 0).map V := by
    rw [List.map_map]
    refine List.map_congr_left fun x hx => ?_
    have hm : c.getD x 0 ∈ B.map fun u => d.getD u 0 := hP.mem_iff.1 (List.mem_map.2 ⟨x, hx, rfl⟩)
    obtain ⟨y, hy, hxy⟩ := List.mem_map.1 hm
    show _ = V (c.getD x 0)
    rw [← hxy, v2 x y (mA x hx) (mB y hy) hxy.symm]
  have hB : B.map G = (B.map fun u => d.getD u 0).map V := by
    rw [List.map_map]
    refine List.map_congr_left fun y hy => ?_
    have hm : d.getD y 0 ∈ A.map fun u => c.getD u 0 := hP.mem_iff.2 (List.mem_map.2 ⟨y, hy, rfl⟩)
    obtain ⟨x, hx, hxy⟩ := List.mem_map.1 hm
    show _ = V (d.getD y 0)
    rw [v2 x y (mA x hx) (mB y hy) hxy]
    exact (ih x y (mA x hx) (mB y hy) hxy).symm
  rw [hA, hB]
  exact sum_perm (hP.map V)
/-- The maps of a tree that go on from some nodes' ones tell no more of these than their colours. c and d are the colours of g and of h. -/
theorem tre_step {t g h c d : List Nat} {par : Nat → Nat} (ht : Tre t par) (hg : Tow 6 g) (hh : Tow 6 h)
    (hst : ∀ x y, x < g.length → y < h.length → c.getD x 0 = d.getD y 0 → ((ndN (g.getD x 0)).map fun u => c.getD u 0).Perm ((ndN (h.getD y 0)).map fun u => d.getD u 0)) :
    ∀ (f : Nat) (b b' : List Nat), b.length = b'.length → 1 ≤ b.length → b.length + f = t.length → (∀ i, i < b.length → b.getD i 0 < g.length ∧ b'.getD i 0 < h.length ∧ c.getD (b.getD i 0) 0 = d.getD (b'.getD i 0) 0) → mapsN t g f b = mapsN t h f b'
  | 0, _, _, _, _, _, _ => rfl
  | f + 1, b, b', hl, h1, hf, hb => by
    have hp := (ht b.length h1 (by omega)).1
    obtain ⟨q1, q2, q3⟩ := hb _ hp
    have e1 : ∀ x, fitN t g b x = (g.getD (b.getD (par b.length) 0) 0).testBit x := fun x => by rw [fit_tre ht h1 (by omega)]; rfl
    have e2 : ∀ x, fitN t h b' x = (h.getD (b'.getD (par b.length) 0) 0).testBit x := fun x => by rw [fit_tre ht (by omega) (by omega), ← hl]; rfl
    have hperm := hst _ _ q1 q2 q3
    have hG := hg.get (b.getD (par b.length) 0)
    have hH := hh.get (b'.getD (par b.length) 0)
    rw [mapsN, mapsN]
    simp only [e1, e2]
    rw [sum_filter, sum_filter]
    have f1 : (List.range g.length).filter (fun x => (g.getD (b.getD (par b.length) 0) 0).testBit x) = ndN (g.getD (b.getD (par b.length) 0) 0) := nd_filter (by have := hg.le; omega) hG
    have f2 : (List.range h.length).filter (fun x => (h.getD (b'.getD (par b.length) 0) 0).testBit x) = ndN (h.getD (b'.getD (par b.length) 0) 0) := nd_filter (by have := hh.le; omega) hH
    have m1 : ∀ x ∈ ndN (g.getD (b.getD (par b.length) 0) 0), x < g.length := fun x hx => by rw [← f1] at hx; exact List.mem_range.1 (List.mem_filter.1 hx).1
    have m2 : ∀ x ∈ ndN (h.getD (b'.getD (par b.length) 0) 0), x < h.length := fun x hx => by rw [← f2] at hx; exact List.mem_range.1 (List.mem_filter.1 hx).1
    rw [f1, f2]
    generalize ndN (g.getD (b.getD (par b.length) 0) 0) = A at *
    generalize ndN (h.getD (b'.getD (par b.length) 0) 0) = B at *
    clear f1 f2 e1 e2 hG hH q1 q2 q3
    have ih : ∀ x y, x < g.length → y < h.length → c.getD x 0 = d.getD y 0 → mapsN t g f (b ++ [x]) = mapsN t h f (b' ++ [y]) := fun x y hx hy hxy => by
      refine tre_step ht hg hh hst f (b ++ [x]) (b' ++ [y]) (by simp [hl]) (by simp) (by simp; omega) fun i hi => ?_
      by_cases e : i < b.length
      · have := hb i e
        simpa [List.getD_eq_getElem?_getD, List.getElem?_append_left e, List.getElem?_append_left (show i < b'.length by omega)] using this
      · have e' : i = b.length := by simp at hi; omega
        subst e'
        have a1 : (b ++ [x]).getD b.length 0 = x := by simp [List.getD_eq_getElem?_getD]
        have a2 : (b' ++ [y]).getD b.length 0 = y := by rw [hl]; simp [List.getD_eq_getElem?_getD]
        rw [a1, a2]
        exact ⟨hx, hy, hxy⟩
    exact sum_col ih A B m1 m2 hperm
theorem bes_len (g h : List Nat) : (besN g h).length = g.length + h.length := by simp [besN]
theorem bes_left {g h : List Nat} {x : Nat} (hx : x < g.length) : (besN g h).getD x 0 = g.getD x 0 := by simp [besN, List.getD_eq_getElem?_getD, List.getElem?_append_left hx]
theorem bes_right {g h : List Nat} {y : Nat} (hy : y < h.length) : (besN g h).getD (g.length + y) 0 = h.getD y 0 <<< g.length := by
  simp [besN, List.getD_eq_getElem?_getD, List.getElem?_append_right, hy]
theorem nd_shift {s n : Nat} (hn : n ≤ 6) (hs : s < 2 ^ 6) : ndN (s <<< n) = (ndN s).map (n + ·) := by
  have h12 : ndN s = (List.range 6).filter s.testBit := (nd_filter (n := 6) (by decide) hs).symm
  rw [h12]
  have hr : List.range 12 = List.range n ++ ((List.range 6).map (n + ·) ++ (List.range (6 - n)).map (n + 6 + ·)) := by
    have e1 : (List.range (6 - n)).map (n + 6 + ·) = ((List.range (6 - n)).map (6 + ·)).map (n + ·) := by
      rw [List.map_map]
      refine List.map_congr_left fun x _ => ?_
      show n + 6 + x = n + (6 + x)
      omega
    rw [e1, ← List.map_append, ← List.range_add, ← List.range_add]
    congr 1
    omega
  unfold ndN
  rw [hr, List.filter_append, List.filter_append]
  have f1 : (List.range n).filter (s <<< n).testBit = [] := by
    rw [List.filter_eq_nil_iff]
    intro x hx
    have := List.mem_range.1 hx
    simp [Nat.testBit_shiftLeft]
    omega
  have f3 : ((List.range (6 - n)).map (n + 6 + ·)).filter (s <<< n).testBit = [] := by
    rw [List.filter_eq_nil_iff]
    intro x hx
    obtain ⟨y, _, rfl⟩ := List.mem_map.1 hx
    rw [Nat.testBit_shiftLeft]
    rw [Nat.testBit_lt_two_pow (Nat.lt_of_lt_of_le hs (Nat.pow_le_pow_right (by decide) (by omega)))]
    simp
  rw [f1, f3, List.nil_append, List.append_nil, List.filter_map]
  congr 1
  refine List.filter_congr fun x _ => ?_
  show (s <<< n).testBit (n + x) = s.testBit x
  rw [Nat.testBit_shiftLeft]
  simp
theorem sh_left {g h : List Nat} {x : Nat} (hx : x < g.length) : (shN g h).1.getD x 0 = (colN (besN g h)).1.getD x 0 := by
  simp [shN, List.getD_eq_getElem?_getD, List.getElem?_take_of_lt hx]
theorem sh_right {g h : List Nat} {y : Nat} : (shN g h).2.getD y 0 = (colN (besN g h)).1.getD (g.length + y) 0 := by
  simp [shN, List.getD_eq_getElem?_getD, List.getElem?_drop]
theorem sh_stab {g h : List Nat} (hg : Tow 6 g) (hh : Tow 6 h) {x y : Nat} (hx : x < g.length) (hy : y < h.length) (hc : (shN g h).1.getD x 0 = (shN g h).2.getD y 0) :
    ((ndN (g.getD x 0)).map fun u => (shN g h).1.getD u 0).Perm ((ndN (h.getD y 0)).map fun u => (shN g h).2.getD u 0) := by
  have hs := colN_stab (besN g h) x (g.length + y) (by rw [bes_len]; omega) (by rw [bes_len]; omega) (by rw [← sh_left hx, hc, sh_right])
  rw [bes_left hx, bes_right hy, nd_shift hg.le (Nat.lt_of_lt_of_le (hh.get y) (Nat.pow_le_pow_right (by decide) hh.le)), List.map_map] at hs
  have e1 : (ndN (g.getD x 0)).map (fun u => (shN g h).1.getD u 0) = (ndN (g.getD x 0)).map fun u => (colN (besN g h)).1.getD u 0 := List.map_congr_left fun u hu => by
    rw [← nd_filter (n := g.length) (by have := hg.le; omega) (hg.get x)] at hu
    exact sh_left (List.mem_range.1 (List.mem_filter.1 hu).1)
  have e2 : (ndN (h.getD y 0)).map (fun u => (shN g h).2.getD u 0) = (ndN (h.getD y 0)).map ((fun u => (colN (besN g h)).1.getD u 0) ∘ (g.length + ·)) := List.map_congr_left fun u _ => sh_right
  rw [e1, e2]
  exact hs
theorem map_getD (l : List Nat) (n : Nat) (h : l.length = n) : (List.range n).map (fun x => l.getD x 0) = l := by
  apply List.ext_getElem?
  intro i
  by_cases hi : i < n
  · simp [hi, h, List.getD_eq_getElem?_getD]
  · simp [hi, List.getElem?_eq_none (show l.length ≤ i by omega)]
theorem sh_len (g h : List Nat) : (shN g h).1.length = g.length ∧ (shN g h).2.length = h.length := by
  have := (colN_full (besN g h)).1
  rw [bes_len] at this
  simp [shN]
  omega
/-- From a tree there are as many maps into graphs that are alike. -/
theorem trees_true {t g h : List Nat} {par : Nat → Nat} (ht : Tre t par) (h1 : 1 ≤ t.length) (hg : Tow 6 g) (hh : Tow 6 h) (hl : likeN g h = true) : mapsN t g t.length [] = mapsN t h t.length [] := by
  obtain ⟨f, hf⟩ : ∃ f, t.length = f + 1 := ⟨t.length - 1, by omega⟩
  rw [hf, mapsN, mapsN]
  have e0 : ∀ g x, fitN t g [] x = true := fun g x => by simp [fitN]
  simp only [e0, if_true, List.nil_append]
  refine sum_col (c := (shN g h).1) (d := (shN g h).2) (n := g.length) (m := h.length) (fun x y hx hy hxy => ?_) _ _ (fun x hx => List.mem_range.1 hx) (fun x hx => List.mem_range.1 hx) ?_
  · refine tre_step ht hg hh (fun x y hx hy hc => sh_stab hg hh hx hy hc) f [x] [y] rfl (by simp) (by simp; omega) fun i hi => ?_
    have : i = 0 := by simp at hi; omega
    subst this
    exact ⟨hx, hy, hxy⟩
  · rw [map_getD _ _ (sh_len g h).1, map_getD _ _ (sh_len g h).2]
    exact like_perm hl
end Go.Proofs.YtnikonhkbldnnaaGreatDoor
/- LW4: maps from two graphs side by side. No program in sight. -/
set_option linter.unusedVariables false
set_option linter.unusedSimpArgs false
namespace Go.Proofs.YtnikonhkbldnnaaGreatDoor
theorem fit_left {s t g b : List Nat} (hb : b.length < s.length) (x : Nat) : fitN (besN s t) g b x = fitN s g b x := by
  unfold fitN nbN
  rw [bes_left hb]
theorem fit_right {s t g b0 b1 : List Nat} (h0 : b0.length = s.length) (h1 : b1.length < t.length) (x : Nat) : fitN (besN s t) g (b0 ++ b1) x = fitN t g b1 x := by
  unfold fitN nbN
  rw [List.length_append, h0, bes_right h1, List.range_add, List.all_append, List.all_map]
  have e1 : (List.range s.length).all (fun u => !((t.getD b1.length 0 <<< s.length).testBit u) || (g.getD ((b0 ++ b1).getD u 0) 0).testBit x) = true := by
    rw [List.all_eq_true]
    intro u hu
    have := List.mem_range.1 hu
    simp [Nat.testBit_shiftLeft]
    omega
  rw [e1, Bool.true_and]
  congr 1
  funext u
  simp only [Function.comp]
  have e2 : (t.getD b1.length 0 <<< s.length).testBit (s.length + u) = (t.getD b1.length 0).testBit u := by simp [Nat.testBit_shiftLeft]
  have e3 : (b0 ++ b1).getD (s.length + u) 0 = b1.getD u 0 := by
    rw [← h0]
    simp [List.getD_eq_getElem?_getD, List.getElem?_append_right]
  rw [e2, e3]
theorem maps_right {s t g b0 : List Nat} (h0 : b0.length = s.length) : ∀ (f : Nat) (b1 : List Nat), f + b1.length = t.length → mapsN (besN s t) g f (b0 ++ b1) = mapsN t g f b1
  | 0, _, _ => rfl
  | f + 1, b1, h => by
    rw [mapsN, mapsN]
    congr 1
    refine List.map_congr_left fun x _ => ?_
    rw [fit_right h0 (by omega)]
    split
    · rw [List.append_assoc]
      exact maps_right h0 f (b1 ++ [x]) (by simp; omega)
    · rfl
theorem sum_mul (k : Nat) : ∀ l : List Nat, (l.map (· * k)).sum = l.sum * k
  | [] => by simp
  | x :: l => by simp [sum_mul k l, Nat.add_mul]
theorem maps_left {s t g : List Nat} : ∀ (f : Nat) (b : List Nat), f + b.length = s.length → mapsN (besN s t) g (f + t.length) b = mapsN s g f b * mapsN t g t.length []
  | 0, b, h => by
    rw [mapsN, Nat.one_mul, Nat.zero_add]
    have := maps_right (s := s) (t := t) (g := g) (b0 := b) (by omega) t.length [] (by simp)
    rwa [List.append_nil] at this
  | f + 1, b, h => by
    rw [show f + 1 + t.length = (f + t.length) + 1 by omega, mapsN, mapsN, ← sum_mul, List.map_map]
    congr 1
    refine List.map_congr_left fun x _ => ?_
    simp only [Function.comp]
    rw [fit_left (by omega)]
    split
    · exact maps_left f (b ++ [x]) (by simp; omega)
    · simp
theorem unions_true (s t g : List Nat) : mapsN (besN s t) g (besN s t).length [] = mapsN s g s.length [] * mapsN t g t.length [] := by
  rw [bes_len]
  exact maps_left s.length [] (by simp)
end Go.Proofs.YtnikonhkbldnnaaGreatDoor
/- LW5: names of nodes; what they leave as it is. No program in sight. -/
set_option linter.unusedVariables false
set_option linter.unusedSimpArgs false
namespace Go.Proofs.YtnikonhkbldnnaaGreatDoor
/-- Whether x can be the name of the next node. -/
def fitS (g h b : List Nat) (x : Nat) : Bool := (List.range b.length).all fun u => (b.getD u 0 != x) && (nbN g b.length u == nbN h x (b.getD u 0))
/-- All namings that go on from some. -/
def namesN (g h : List Nat) : Nat → List Nat → List (List Nat)
  | 0, b => [b]
  | f + 1, b => (List.range h.length).flatMap fun x => if fitS g h b x then namesN g h f (b ++ [x]) else []
def namesOf (g h : List Nat) : List (List Nat) := if g.length = h.length then namesN g h g.length [] else []
/-- What a naming is. -/
def Nm (g h l : List Nat) (k : Nat) : Prop := ∀ v, k ≤ v → v < l.length → l.getD v 0 < h.length ∧ ∀ u, u < v → l.getD u 0 ≠ l.getD v 0 ∧ nbN g v u = nbN h (l.getD v 0) (l.getD u 0)
theorem fitS_iff {g h b : List Nat} {x : Nat} : fitS g h b x = true ↔ ∀ u, u < b.length → b.getD u 0 ≠ x ∧ nbN g b.length u = nbN h x (b.getD u 0) := by
  unfold fitS
  simp only [List.all_eq_true, List.mem_range, Bool.and_eq_true, bne_iff_ne, beq_iff_eq]
theorem names_mem {g h : List Nat} : ∀ (f : Nat) (b l : List Nat), l ∈ namesN g h f b ↔ l.length = b.length + f ∧ l.take b.length = b ∧ Nm g h l b.length
  | 0, b, l => by
    rw [namesN, List.mem_singleton]
    constructor
    · rintro rfl
      exact ⟨rfl, List.take_length, fun v h1 h2 => by omega⟩
    · rintro ⟨h1, h2, _⟩
      rw [← h2, List.take_of_length_le (by omega)]
  | f + 1, b, l => by
    rw [namesN, List.mem_flatMap]
    constructor
    · rintro ⟨x, hx, hl⟩
      split at hl
      · rename_i hfit
        obtain ⟨h1, h2, h3⟩ := (names_mem f (b ++ [x]) l).1 hl
        simp only [List.length_append, List.length_cons, List.length_nil] at h1 h2 h3
        have hbl : b.length < l.length := by omega
        have ht : l.take b.length = b := by
          have := congrArg (List.take b.length) h2
          rw [List.take_take, Nat.min_eq_left (by omega)] at this
          simpa using this
        refine ⟨by omega, ht, fun v hv hvl => ?_⟩
        rcases Nat.lt_or_ge b.length v with h4 | h4
        · exact h3 v (by omega) hvl
        · have e : v = b.length := by omega
          subst e
          have hg : ∀ u, u < b.length → l.getD u 0 = b.getD u 0 := fun u hu => by
            rw [← ht]
            simp [List.getD_eq_getElem?_getD, List.getElem?_take_of_lt hu]
          have hx' : l.getD b.length 0 = x := by
            have : (l.take (b.length + (0 + 1)))[b.length]? = some x := by rw [h2]; simp
            rw [List.getElem?_take_of_lt (by omega)] at this
            simp [List.getD_eq_getElem?_getD, this]
          refine ⟨by rw [hx']; exact List.mem_range.1 hx, fun u hu => ?_⟩
          rw [hx', hg u hu]
          exact fitS_iff.1 hfit u hu
      · simp at hl
    · rintro ⟨h1, h2, h3⟩
      have hbl : b.length < l.length := by omega
      obtain ⟨q1, q2⟩ := h3 b.length (Nat.le_refl _) hbl
      have hg : ∀ u, u < b.length → l.getD u 0 = b.getD u 0 := fun u hu => by
        conv => rhs; rw [← h2]
        simp [List.getD_eq_getElem?_getD, List.getElem?_take_of_lt hu]
      refine ⟨l.getD b.length 0, List.mem_range.2 q1, ?_⟩
      rw [if_pos (fitS_iff.2 fun u hu => by rw [← hg u hu]; exact q2 u hu)]
      refine (names_mem f _ l).2 ⟨by simp; omega, ?_, fun v hv hvl => h3 v (by simp at hv; omega) hvl⟩
      rw [List.length_append, List.length_cons, List.length_nil, List.take_add_one, h2]
      simp [List.getD_eq_getElem?_getD, hbl]
/-- A naming of all nodes. -/
structure Iso (g h l : List Nat) : Prop where
  eq : g.length = h.length
  len : l.length = g.length
  lt : ∀ v, v < g.length → l.getD v 0 < h.length
  inj : ∀ u v, u < g.length → v < g.length → l.getD u 0 = l.getD v 0 → u = v
  nb : ∀ u v, u < g.length → v < g.length → nbN g u v = nbN h (l.getD u 0) (l.getD v 0)
theorem names_iso {n : Nat} {g h l : List Nat} (hg : Tow n g) (hh : Tow n h) : l ∈ namesOf g h ↔ Iso g h l := by
  unfold namesOf
  constructor
  · intro hl
    split at hl
    · rename_i he
      obtain ⟨h1, _, h3⟩ := (names_mem _ _ _).1 hl
      simp only [List.length_nil, Nat.zero_add] at h1 h3
      have hlt : ∀ v, v < g.length → l.getD v 0 < h.length := fun v hv => (h3 v (Nat.zero_le _) (by omega)).1
      refine ⟨he, h1, hlt, fun u v hu hv e => ?_, fun u v hu hv => ?_⟩
      · rcases Nat.lt_trichotomy u v with h5 | h5 | h5
        · exact absurd e ((h3 v (Nat.zero_le _) (by omega)).2 u h5).1
        · exact h5
        · exact absurd e.symm ((h3 u (Nat.zero_le _) (by omega)).2 v h5).1
      · rcases Nat.lt_trichotomy u v with h5 | h5 | h5
        · rw [nb_sym hg hu hv, nb_sym hh (hlt u hu) (hlt v hv)]
          exact ((h3 v (Nat.zero_le _) (by omega)).2 u h5).2
        · subst h5
          rw [show nbN g u u = false from hg.irr u hu, show nbN h _ _ = false from hh.irr _ (hlt u hu)]
        · exact ((h3 u (Nat.zero_le _) (by omega)).2 v h5).2
    · simp at hl
  · intro h
    rw [if_pos h.eq]
    refine (names_mem _ _ _).2 ⟨by simp [h.len], by simp, fun v _ hv => ?_⟩
    have hv' : v < g.length := by rw [← h.len]; exact hv
    exact ⟨h.lt v hv', fun u hu => ⟨fun e => by have := h.inj u v (by omega) hv' e; omega, h.nb v u hv' (by omega)⟩⟩
theorem nodup_sub : ∀ {l m : List Nat}, l.Nodup → (∀ x ∈ l, x ∈ m) → l.length ≤ m.length
  | [], _, _, _ => Nat.zero_le _
  | x :: l, m, hn, hs => by
    have h1 := List.nodup_cons.1 hn
    have h2 := hs x (by simp)
    have := nodup_sub (l := l) (m := m.erase x) h1.2 fun y hy => (List.mem_erase_of_ne (show y ≠ x by rintro rfl; exact h1.1 hy)).2 (hs y (by simp [hy]))
    rw [List.length_erase_of_mem h2] at this
    have := List.length_pos_of_mem h2
    simp only [List.length_cons]
    omega
theorem nodup_all {n : Nat} {l : List Nat} (hn : l.Nodup) (hl : l.length = n) (h : ∀ x ∈ l, x < n) : ∀ i, i < n → i ∈ l := by
  intro i hi
  apply Classical.byContradiction
  intro hc
  have := nodup_sub (l := i :: l) (m := List.range n) (List.nodup_cons.2 ⟨hc, hn⟩) fun x hx => by
    rcases List.mem_cons.1 hx with rfl | hx
    · exact List.mem_range.2 hi
    · exact List.mem_range.2 (h x hx)
  simp [hl] at this
  omega
theorem Iso.nodup {g h l : List Nat} (hi : Iso g h l) : l.Nodup := by
  rw [List.nodup_iff_pairwise_ne, List.pairwise_iff_getElem]
  intro i j h1 h2 hij e
  have := hi.inj i j (by rw [← hi.len]; exact h1) (by rw [← hi.len]; exact h2) (by simp [List.getD_eq_getElem?_getD, h1, h2, e])
  omega
theorem Iso.onto {g h l : List Nat} (hi : Iso g h l) {y : Nat} (hy : y < h.length) : ∃ v, v < g.length ∧ l.getD v 0 = y := by
  have := nodup_all hi.nodup (n := h.length) (by rw [hi.len, hi.eq]) (fun x hx => by
    obtain ⟨v, hv, rfl⟩ := List.mem_iff_getElem.1 hx
    have := hi.lt v (by rw [← hi.len]; exact hv)
    simpa [List.getD_eq_getElem?_getD, hv] using this) y hy
  obtain ⟨v, hv, hvy⟩ := List.mem_iff_getElem.1 this
  exact ⟨v, by rw [← hi.len]; exact hv, by simp [List.getD_eq_getElem?_getD, hv, hvy]⟩
theorem nodup_range (n : Nat) : (List.range n).Nodup := List.nodup_range
theorem nd_mem {s x : Nat} : x ∈ ndN s ↔ x < 12 ∧ s.testBit x = true := by simp [ndN, List.mem_filter]
theorem nd_nodup (s : Nat) : (ndN s).Nodup := (nodup_range 12).filter _
theorem perm_nodup {l m : List Nat} (hl : l.Nodup) (hm : m.Nodup) (h : ∀ x, x ∈ l ↔ x ∈ m) : l.Perm m := (List.perm_ext_iff_of_nodup hl hm).2 h
theorem nodup_map {l : List Nat} {f : Nat → Nat} (hl : l.Nodup) (h : ∀ x ∈ l, ∀ y ∈ l, f x = f y → x = y) : (l.map f).Nodup := by
  induction l with
  | nil => simp
  | cons x l ih =>
    have h1 := List.nodup_cons.1 hl
    rw [List.map_cons, List.nodup_cons]
    refine ⟨fun hm => ?_, ih h1.2 fun a ha b hb => h a (by simp [ha]) b (by simp [hb])⟩
    obtain ⟨y, hy, e⟩ := List.mem_map.1 hm
    have := h y (by simp [hy]) x (by simp) e
    subst this
    exact h1.1 hy
theorem nd_lt {n : Nat} {t : List Nat} (ht : Tow n t) (hn : n ≤ 12) {x v : Nat} (hx : x ∈ ndN (t.getD v 0)) : x < t.length := by
  have h1 := ht.get v
  rw [← nd_filter (by have := ht.le; omega) h1] at hx
  exact List.mem_range.1 (List.mem_filter.1 hx).1
/-- The neighbours' names are the neighbours of the name. -/
theorem Iso.near {n : Nat} {g h l : List Nat} (hi : Iso g h l) (hg : Tow n g) (hh : Tow n h) (hn : n ≤ 12) {v : Nat} (hv : v < g.length) : ((ndN (g.getD v 0)).map fun u => l.getD u 0).Perm (ndN (h.getD (l.getD v 0) 0)) := by
  refine perm_nodup (nodup_map (nd_nodup _) fun x hx y hy e => hi.inj x y (nd_lt hg hn hx) (nd_lt hg hn hy) e) (nd_nodup _) fun y => ?_
  constructor
  · intro hm
    obtain ⟨u, hu, rfl⟩ := List.mem_map.1 hm
    have hul := nd_lt hg hn hu
    have h1 := hi.nb v u hv hul
    rw [show nbN g v u = true from (nd_mem.1 hu).2] at h1
    exact nd_mem.2 ⟨by have := hi.lt u hul; have := hh.le; omega, h1.symm⟩
  · intro hm
    have hyl := nd_lt hh hn hm
    obtain ⟨u, hu, rfl⟩ := hi.onto hyl
    refine List.mem_map.2 ⟨u, nd_mem.2 ⟨by have := hg.le; omega, ?_⟩, rfl⟩
    have h1 := hi.nb v u hv hu
    rw [show nbN h (l.getD v 0) (l.getD u 0) = true from (nd_mem.1 hm).2] at h1
    exact h1
theorem refN_get {t c : List Nat} {v : Nat} (hv : v < t.length) : (refN t c).getD v 0 = rkL (kindsL (kdsN t c)) (kdN t c v) := by
  simp [refN, kdsN, List.getD_eq_getElem?_getD, hv]
theorem srt_perm {a b : List Nat} (h : a.Perm b) : srtN a = srtN b := srtN_of (srtN_sorted a) ((srtN_perm a).trans h)
/-- Colours of a graph and of a renamed one. -/
def Cols (g l c d : List Nat) : Prop := ∀ v, v < g.length → d.getD (l.getD v 0) 0 = c.getD v 0
theorem Iso.kd {n : Nat} {g h l c d : List Nat} (hi : Iso g h l) (hg : Tow n g) (hh : Tow n h) (hn : n ≤ 12) (hc : Cols g l c d) {v : Nat} (hv : v < g.length) : kdN h d (l.getD v 0) = kdN g c v := by
  unfold kdN
  rw [hc v hv]
  congr 1
  refine srt_perm ?_
  have h1 := ((hi.near hg hh hn hv).map fun u => d.getD u 0).symm
  rw [List.map_map] at h1
  refine h1.trans (List.Perm.of_eq (List.map_congr_left fun u hu => hc u (nd_lt hg hn hu)))
theorem Iso.kinds {n : Nat} {g h l c d : List Nat} (hi : Iso g h l) (hg : Tow n g) (hh : Tow n h) (hn : n ≤ 12) (hc : Cols g l c d) : kindsL (kdsN h d) = kindsL (kdsN g c) := by
  refine ris_unique (kinds_ris _) (kinds_ris _) fun x => ?_
  rw [kinds_mem, kinds_mem]
  unfold kdsN
  simp only [List.mem_map, List.mem_range]
  constructor
  · rintro ⟨y, hy, rfl⟩
    obtain ⟨v, hv, rfl⟩ := hi.onto hy
    exact ⟨v, hv, (hi.kd hg hh hn hc hv).symm⟩
  · rintro ⟨v, hv, rfl⟩
    exact ⟨_, hi.lt v hv, hi.kd hg hh hn hc hv⟩
theorem Iso.ref {n : Nat} {g h l c d : List Nat} (hi : Iso g h l) (hg : Tow n g) (hh : Tow n h) (hn : n ≤ 12) (hc : Cols g l c d) : Cols g l (refN g c) (refN h d) ∧ mostN (refN h d) = mostN (refN g c) := by
  refine ⟨fun v hv => ?_, ?_⟩
  · rw [refN_get hv, refN_get (hi.lt v hv), hi.kd hg hh hn hc hv, hi.kinds hg hh hn hc]
  · rw [refN_most, refN_most, hi.kinds hg hh hn hc]
theorem Iso.colW {n : Nat} {g h l : List Nat} (hi : Iso g h l) (hg : Tow n g) (hh : Tow n h) (hn : n ≤ 12) : ∀ {c d : List Nat} {r : Nat}, Full g.length c → Full h.length d → mostN c = mostN d → Cols g l c d → Cols g l (colW g c r).1 (colW h d r).1 ∧ (colW h d r).2 = (colW g c r).2
  | c, d, r, hf, hf', hm, hc => by
    obtain ⟨h1, h2⟩ := hi.ref hg hh hn hc
    by_cases hq : mostN (refN g c) = mostN c
    · rw [colW_stop hq, colW_stop (by omega)]
      exact ⟨hc, rfl⟩
    · rw [colW_go hf hq, colW_go hf' (by omega)]
      exact hi.colW hg hh hn (refN_full g c) (refN_full h d) h2.symm h1
termination_by c => g.length - mostN c
decreasing_by
  have h1 := most_mono hf
  have h2 := full_le (refN_full g c)
  omega
theorem rep_get (n v : Nat) : (List.replicate n 0).getD v 0 = 0 := by
  rw [List.getD_eq_getElem?_getD]
  cases h : (List.replicate n 0)[v]? with
  | none => rfl
  | some x => exact (List.mem_replicate.1 (List.mem_of_getElem? h)).2
/-- Names change the colours' places alone. -/
theorem Iso.colN {n : Nat} {g h l : List Nat} (hi : Iso g h l) (hg : Tow n g) (hh : Tow n h) (hn : n ≤ 12) : Cols g l (colN g).1 (colN h).1 ∧ (colN h).2 = (colN g).2 :=
  hi.colW hg hh hn (full_zero _) (full_zero _) (by rw [hi.eq]) fun v hv => by rw [rep_get, rep_get]
/-- Colours of two graphs, together: who has the same has as many neighbours of each. -/
def JSt (g h c d : List Nat) : Prop := ∀ x y, x < g.length → y < h.length → c.getD x 0 = d.getD y 0 → ((ndN (g.getD x 0)).map fun u => c.getD u 0).Perm ((ndN (h.getD y 0)).map fun u => d.getD u 0)
theorem perm_col {F G : Nat → Nat} {c d : List Nat} {n m : Nat} (ih : ∀ x y, x < n → y < m → c.getD x 0 = d.getD y 0 → F x = G y) (A B : List Nat) (mA : ∀ x ∈ A, x < n) (mB : ∀ y ∈ B, y < m)
    (hP : (A.map fun u => c.getD u 0).Perm (B.map fun u => d.getD u 0)) : (A.map F).Perm (B.map G) := by
  rw [List.perm_iff_count]
  intro k
  have := sum_col (F := fun x => if F x = k then 1 else 0) (G := fun y => if G y = k then 1 else 0) (fun x y hx hy h => by rw [ih x y hx hy h]) A B mA mB hP
  have e : ∀ (F : Nat → Nat) (A : List Nat), (A.map F).count k = (A.map fun x => if F x = k then 1 else 0).sum := by
    intro F A
    induction A with
    | nil => rfl
    | cons x A ih =>
      rw [List.map_cons, List.map_cons, List.count_cons, ih, List.sum_cons]
      by_cases h : F x = k
      · simp [h]; omega
      · simp [h]
  rw [e, e, this]
def BInv (g h c d C : List Nat) : Prop := ∀ x y, x < g.length → y < h.length → c.getD x 0 = d.getD y 0 → C.getD x 0 = C.getD (g.length + y) 0
theorem kd_bes {g h c d C : List Nat} (hg : Tow 6 g) (hh : Tow 6 h) (hJ : JSt g h c d) (hB : BInv g h c d C) {x y : Nat} (hx : x < g.length) (hy : y < h.length) (hc : c.getD x 0 = d.getD y 0) : kdN (besN g h) C x = kdN (besN g h) C (g.length + y) := by
  unfold kdN
  rw [hB x y hx hy hc, bes_left hx, bes_right hy, nd_shift hg.le (Nat.lt_of_lt_of_le (hh.get y) (Nat.pow_le_pow_right (by decide) hh.le)), List.map_map]
  congr 1
  refine srt_perm ?_
  exact perm_col (c := c) (d := d) (n := g.length) (m := h.length) (fun x y hx hy h => hB x y hx hy h) _ _ (fun u hu => nd_lt hg (by decide) hu) (fun u hu => nd_lt hh (by decide) hu) (hJ x y hx hy hc)
theorem binv_W {g h c d : List Nat} (hg : Tow 6 g) (hh : Tow 6 h) (hJ : JSt g h c d) : ∀ {C : List Nat} {r : Nat}, Full (besN g h).length C → BInv g h c d C → BInv g h c d (Go.Proofs.YtnikonhkbldnnaaGreatDoor.colW (besN g h) C r).1
  | C, r, hf, hB => by
    by_cases hq : mostN (refN (besN g h) C) = mostN C
    · rw [colW_stop hq]
      exact hB
    · rw [colW_go hf hq]
      refine binv_W hg hh hJ (refN_full _ C) fun x y hx hy hc => ?_
      rw [refN_get (by rw [bes_len]; omega), refN_get (by rw [bes_len]; omega), kd_bes hg hh hJ hB hx hy hc]
termination_by C => (besN g h).length - mostN C
decreasing_by
  have h1 := most_mono hf
  have h2 := full_le (refN_full (besN g h) C)
  omega
/-- If there are any such colours, as many of each in both, the graphs are alike. -/
theorem like_of {g h c d : List Nat} (hg : Tow 6 g) (hh : Tow 6 h) (hJ : JSt g h c d) (hP : ((List.range g.length).map fun u => c.getD u 0).Perm ((List.range h.length).map fun u => d.getD u 0)) : likeN g h = true := by
  have hB : BInv g h c d (Go.Proofs.YtnikonhkbldnnaaGreatDoor.colN (besN g h)).1 := binv_W hg hh hJ (full_zero _) fun x y hx hy _ => by rw [rep_get, rep_get]
  have hp : (shN g h).1.Perm (shN g h).2 := by
    rw [← map_getD (shN g h).1 g.length (sh_len g h).1, ← map_getD (shN g h).2 h.length (sh_len g h).2]
    refine perm_col (c := c) (d := d) (n := g.length) (m := h.length) (fun x y hx hy hc => ?_) _ _ (fun x hx => List.mem_range.1 hx) (fun x hx => List.mem_range.1 hx) hP
    rw [sh_left hx, sh_right]
    exact hB x y hx hy hc
  unfold likeN
  rw [List.all_eq_true]
  intro i _
  simp [List.perm_iff_count.1 hp i]
theorem sh_jst {g h : List Nat} (hg : Tow 6 g) (hh : Tow 6 h) : JSt g h (shN g h).1 (shN g h).2 := fun x y hx hy hc => sh_stab hg hh hx hy hc
end Go.Proofs.YtnikonhkbldnnaaGreatDoor
/- LW6: complements; the number of turns divides the factorial. No program in sight. -/
set_option linter.unusedVariables false
set_option linter.unusedSimpArgs false
namespace Go.Proofs.YtnikonhkbldnnaaGreatDoor
/-- a without b, of small numbers. -/
def dif (a b : Nat) : Nat := a &&& (255 ^^^ b)
theorem dif_bit {a : Nat} (ha : a < 256) (b i : Nat) : (dif a b).testBit i = (a.testBit i && !b.testBit i) := by
  unfold dif
  rw [Nat.testBit_and, Nat.testBit_xor]
  rcases Nat.lt_or_ge i 8 with h | h
  · have : (255 : Nat).testBit i = true := by
      have : (255 : Nat) = 2 ^ 8 - 1 := rfl
      rw [this, Nat.testBit_two_pow_sub_one]
      simpa using h
    rw [this]
    simp
  · rw [Nat.testBit_lt_two_pow (Nat.lt_of_lt_of_le ha (Nat.pow_le_pow_right (n := 2) (by decide) h))]
    simp
theorem dif_le (a b : Nat) : dif a b ≤ a := Nat.and_le_left
/-- The complement of a graph. -/
def othN (g : List Nat) : List Nat := (List.range g.length).map fun i => dif (dif (2 ^ g.length - 1) (g.getD i 0)) (2 ^ i)
theorem oth_len (g : List Nat) : (othN g).length = g.length := by simp [othN]
theorem oth_bit {g : List Nat} (hg : Tow 6 g) {i : Nat} (hi : i < g.length) (j : Nat) : ((othN g).getD i 0).testBit j = (decide (j < g.length) && !(g.getD i 0).testBit j && !decide (i = j)) := by
  have h1 : 2 ^ g.length ≤ 2 ^ 6 := Nat.pow_le_pow_right (by decide) hg.le
  have h2 : 2 ^ g.length - 1 < 256 := by omega
  have h3 : dif (2 ^ g.length - 1) (g.getD i 0) < 256 := Nat.lt_of_le_of_lt (dif_le _ _) h2
  have e : (othN g).getD i 0 = dif (dif (2 ^ g.length - 1) (g.getD i 0)) (2 ^ i) := by simp [othN, List.getD_eq_getElem?_getD, hi]
  rw [e, dif_bit h3, dif_bit h2, Nat.testBit_two_pow_sub_one, Nat.testBit_two_pow]
theorem oth_tow {g : List Nat} (hg : Tow 6 g) : Tow 6 (othN g) where
  pos := by rw [oth_len]; exact hg.pos
  le := by rw [oth_len]; exact hg.le
  lt x hx := by
    rw [oth_len]
    obtain ⟨i, _, rfl⟩ := List.mem_map.1 hx
    have := dif_le (dif (2 ^ g.length - 1) (g.getD i 0)) (2 ^ i)
    have := dif_le (2 ^ g.length - 1) (g.getD i 0)
    have := Nat.two_pow_pos g.length
    omega
  irr i hi := by
    rw [oth_len] at hi
    rw [oth_bit hg hi]
    simp
  sym i j hi hj := by
    rw [oth_len] at hi hj
    rw [oth_bit hg hi, oth_bit hg hj, hg.sym i j hi hj]
    simp [hi, hj, eq_comm]
theorem oth_nb {g : List Nat} (hg : Tow 6 g) {i j : Nat} (hi : i < g.length) (hj : j < g.length) (h : i ≠ j) : nbN (othN g) i j = !nbN g i j := by
  unfold nbN
  rw [oth_bit hg hi]
  simp [hj, h]
theorem oth_oth {g : List Nat} (hg : Tow 6 g) : othN (othN g) = g := by
  apply List.ext_getElem?
  intro i
  by_cases hi : i < g.length
  · have h1 : (othN (othN g)).getD i 0 = g.getD i 0 := by
      apply Nat.eq_of_testBit_eq
      intro j
      rw [oth_bit (oth_tow hg) (by rw [oth_len]; exact hi), oth_bit hg hi, oth_len]
      by_cases hj : j < g.length
      · by_cases e : i = j
        · subst e
          simp [hg.irr i hi]
          exact hg.irr i hi
        · simp [hj, e]
      · have := Nat.testBit_lt_two_pow (Nat.lt_of_lt_of_le (hg.get i) (Nat.pow_le_pow_right (n := 2) (by decide) (show g.length ≤ j by omega)))
        rw [this]
        simp [hj]
    have e1 : (othN (othN g))[i]? = some ((othN (othN g)).getD i 0) := by
      have : i < (othN (othN g)).length := by rw [oth_len, oth_len]; exact hi
      simp [List.getD_eq_getElem?_getD, this]
    have e2 : g[i]? = some (g.getD i 0) := by simp [List.getD_eq_getElem?_getD, hi]
    rw [e1, e2, h1]
  · rw [List.getElem?_eq_none (by rw [oth_len, oth_len]; omega), List.getElem?_eq_none (by omega)]
theorem fit_oth {g h b : List Nat} (hg : Tow 6 g) (hh : Tow 6 h) (hb : b.length < g.length) (hbl : ∀ u, u < b.length → b.getD u 0 < h.length) {x : Nat} (hx : x < h.length) : fitS (othN g) (othN h) b x = fitS g h b x := by
  rw [Bool.eq_iff_iff, fitS_iff, fitS_iff]
  constructor
  · intro H u hu
    obtain ⟨h1, h2⟩ := H u hu
    rw [oth_nb hg hb (by omega) (by omega), oth_nb hh hx (hbl u hu) (Ne.symm h1)] at h2
    exact ⟨h1, by simpa using h2⟩
  · intro H u hu
    obtain ⟨h1, h2⟩ := H u hu
    rw [oth_nb hg hb (by omega) (by omega), oth_nb hh hx (hbl u hu) (Ne.symm h1), h2]
    exact ⟨h1, rfl⟩
theorem getD_snoc {b : List Nat} {x n : Nat} (hb : ∀ u, u < b.length → b.getD u 0 < n) (hx : x < n) : ∀ u, u < (b ++ [x]).length → (b ++ [x]).getD u 0 < n := by
  intro u hu
  by_cases e : u < b.length
  · have := hb u e
    simpa [List.getD_eq_getElem?_getD, List.getElem?_append_left e] using this
  · have : u = b.length := by simp at hu; omega
    subst this
    simpa [List.getD_eq_getElem?_getD] using hx
theorem names_oth {g h : List Nat} (hg : Tow 6 g) (hh : Tow 6 h) : ∀ (f : Nat) (b : List Nat), f + b.length = g.length → (∀ u, u < b.length → b.getD u 0 < h.length) → namesN (othN g) (othN h) f b = namesN g h f b
  | 0, _, _, _ => rfl
  | f + 1, b, hf, hb => by
    rw [namesN, namesN, oth_len]
    rw [List.flatMap_def, List.flatMap_def]
    congr 1
    refine List.map_congr_left fun x hx => ?_
    have hx' := List.mem_range.1 hx
    rw [fit_oth hg hh (by omega) hb hx']
    split
    · exact names_oth hg hh f (b ++ [x]) (by simp; omega) (getD_snoc hb hx')
    · rfl
theorem namesOf_oth {g h : List Nat} (hg : Tow 6 g) (hh : Tow 6 h) : namesOf (othN g) (othN h) = namesOf g h := by
  unfold namesOf
  rw [oth_len, oth_len, names_oth hg hh g.length [] (by simp) (by simp)]
/-- A node, its neighbours and its neighbours in the complement are all nodes. -/
theorem nd_split {g : List Nat} (hg : Tow 6 g) {x : Nat} (hx : x < g.length) : (x :: (ndN (g.getD x 0) ++ ndN ((othN g).getD x 0))).Perm (List.range g.length) := by
  have h12 : ∀ y, y < g.length → y < 12 := fun y hy => by have := hg.le; omega
  refine perm_nodup ?_ (nodup_range _) fun y => ?_
  · refine List.nodup_cons.2 ⟨?_, List.nodup_append.2 ⟨nd_nodup _, nd_nodup _, ?_⟩⟩
    · rw [List.mem_append, nd_mem, nd_mem, hg.irr x hx, oth_bit hg hx]
      simp
    · intro a ha b hb e
      subst e
      have h1 := (nd_mem.1 ha).2
      have h2 := (nd_mem.1 hb).2
      rw [oth_bit hg hx, h1] at h2
      simp at h2
  · rw [List.mem_cons, List.mem_append, nd_mem, nd_mem, oth_bit hg hx, List.mem_range]
    constructor
    · rintro (rfl | h | h)
      · exact hx
      · apply Classical.byContradiction
        intro hc
        have := Nat.testBit_lt_two_pow (Nat.lt_of_lt_of_le (hg.get x) (Nat.pow_le_pow_right (n := 2) (by decide) (show g.length ≤ y by omega)))
        rw [this] at h
        simp at h
      · have := h.2
        simp at this
        exact this.1.1
    · intro hy
      by_cases e : x = y
      · exact .inl e.symm
      · cases hb : (g.getD x 0).testBit y with
        | true => exact .inr (.inl ⟨h12 y hy, rfl⟩)
        | false => exact .inr (.inr ⟨h12 y hy, by simp [hy, e]⟩)
theorem like_oth_one {g h : List Nat} (hg : Tow 6 g) (hh : Tow 6 h) (hl : likeN g h = true) : likeN (othN g) (othN h) = true := by
  have hP : ((List.range g.length).map fun u => (shN g h).1.getD u 0).Perm ((List.range h.length).map fun u => (shN g h).2.getD u 0) := by
    rw [map_getD _ _ (sh_len g h).1, map_getD _ _ (sh_len g h).2]
    exact like_perm hl
  have hJ := sh_jst hg hh
  generalize (shN g h).1 = c at *
  generalize (shN g h).2 = d at *
  refine like_of (c := c) (d := d) (oth_tow hg) (oth_tow hh) (fun x y hx hy hc => ?_) (by rw [oth_len, oth_len]; exact hP)
  rw [oth_len] at hx hy
  have h1 := ((nd_split hg hx).map fun u => c.getD u 0).trans (hP.trans ((nd_split hh hy).map fun u => d.getD u 0).symm)
  have h2 := hJ x y hx hy hc
  rw [List.map_cons, List.map_cons, List.map_append, List.map_append, hc] at h1
  have h3 := (List.perm_cons _).1 h1
  exact (List.perm_append_left_iff _).1 (h3.trans (h2.symm.append_right _))
theorem like_oth {g h : List Nat} (hg : Tow 6 g) (hh : Tow 6 h) : likeN (othN g) (othN h) = likeN g h := by
  rw [Bool.eq_iff_iff]
  constructor
  · intro h1
    have := like_oth_one (oth_tow hg) (oth_tow hh) h1
    rwa [oth_oth hg, oth_oth hh] at this
  · exact like_oth_one hg hh
/-- One naming after another. -/
def compL (p a : List Nat) : List Nat := a.map fun i => p.getD i 0
theorem comp_get {p a : List Nat} {i : Nat} (hi : i < a.length) : (compL p a).getD i 0 = p.getD (a.getD i 0) 0 := by simp [compL, List.getD_eq_getElem?_getD, hi]
theorem Iso.comp {g h k a p : List Nat} (ha : Iso g h a) (hp : Iso h k p) : Iso g k (compL p a) := by
  have hc : ∀ v, v < g.length → (compL p a).getD v 0 = p.getD (a.getD v 0) 0 := fun v hv => comp_get (by rw [ha.len]; exact hv)
  refine ⟨ha.eq.trans hp.eq, by simp [compL, ha.len], fun v hv => ?_, fun u v hu hv e => ?_, fun u v hu hv => ?_⟩
  · rw [hc v hv]
    exact hp.lt _ (ha.lt v hv)
  · rw [hc u hu, hc v hv] at e
    exact ha.inj u v hu hv (hp.inj _ _ (ha.lt u hu) (ha.lt v hv) e)
  · rw [hc u hu, hc v hv, ha.nb u v hu hv, hp.nb _ _ (ha.lt u hu) (ha.lt v hv)]
def invL (a : List Nat) : List Nat := (List.range a.length).map fun y => a.idxOf y
theorem idx_get {a : List Nat} {y : Nat} (h : y ∈ a) : a.getD (a.idxOf y) 0 = y := by
  have := List.idxOf_lt_length_of_mem h
  simp [List.getD_eq_getElem?_getD, this]
theorem inv_get {a : List Nat} {y : Nat} (h : y < a.length) : (invL a).getD y 0 = a.idxOf y := by simp [invL, List.getD_eq_getElem?_getD, h]
theorem Iso.mem {g h a : List Nat} (ha : Iso g h a) {y : Nat} (hy : y < h.length) : y ∈ a := by
  obtain ⟨v, hv, rfl⟩ := ha.onto hy
  have : v < a.length := by rw [ha.len]; exact hv
  simp [List.getD_eq_getElem?_getD, this]
theorem Iso.inv {g h a : List Nat} (ha : Iso g h a) : Iso h g (invL a) := by
  have hl : a.length = h.length := ha.len.trans ha.eq
  have hi : ∀ y, y < h.length → (invL a).getD y 0 < g.length ∧ a.getD ((invL a).getD y 0) 0 = y := fun y hy => by
    rw [inv_get (by omega)]
    have := List.idxOf_lt_length_of_mem (ha.mem hy)
    exact ⟨by rw [← ha.len]; exact this, idx_get (ha.mem hy)⟩
  refine ⟨ha.eq.symm, by simp [invL, hl], fun v hv => (hi v hv).1, fun u v hu hv e => ?_, fun u v hu hv => ?_⟩
  · rw [← (hi u hu).2, ← (hi v hv).2, e]
  · rw [ha.nb _ _ (hi u hu).1 (hi v hv).1, (hi u hu).2, (hi v hv).2]
theorem list_getD {l m : List Nat} (hl : l.length = m.length) (h : ∀ i, i < l.length → l.getD i 0 = m.getD i 0) : l = m := by
  apply List.ext_getElem hl
  intro i h1 h2
  have := h i h1
  simpa [List.getD_eq_getElem?_getD, h1, h2] using this
theorem comp_assoc {p a b : List Nat} (h : ∀ i, i < b.length → b.getD i 0 < a.length) : compL (compL p a) b = compL p (compL a b) := by
  refine list_getD (by simp [compL]) fun i hi => ?_
  have hi' : i < b.length := by simpa [compL] using hi
  rw [comp_get hi', comp_get (h i hi'), comp_get (by simpa [compL] using hi'), comp_get hi']
theorem comp_inv {g h a p : List Nat} (ha : Iso g h a) (hp : p.length = h.length) : compL (compL p a) (invL a) = p := by
  have hl : a.length = h.length := ha.len.trans ha.eq
  refine list_getD (by simp [compL, invL, hl, hp]) fun i hi => ?_
  have hi' : i < h.length := by simpa [compL, invL, hl] using hi
  rw [comp_get (by simpa [invL, hl] using hi'), inv_get (by omega), comp_get (List.idxOf_lt_length_of_mem (ha.mem hi')), idx_get (ha.mem hi')]
theorem Iso.refl {n : Nat} {g : List Nat} (hg : Tow n g) : Iso g g (List.range g.length) := by
  have h : ∀ v, v < g.length → (List.range g.length).getD v 0 = v := fun v hv => by simp [List.getD_eq_getElem?_getD, hv]
  refine ⟨rfl, by simp, fun v hv => by rw [h v hv]; exact hv, fun u v hu hv e => by rwa [h u hu, h v hv] at e, fun u v hu hv => by rw [h u hu, h v hv]⟩
theorem names_nodup {g h : List Nat} : ∀ (f : Nat) (b : List Nat), (namesN g h f b).Nodup
  | 0, b => by simp [namesN]
  | f + 1, b => by
    rw [namesN]
    refine List.pairwise_flatMap.2 ⟨fun x _ => ?_, ?_⟩
    · split
      · exact names_nodup f _
      · simp
    · refine (List.nodup_iff_pairwise_ne.1 (nodup_range h.length)).imp fun {x y} hxy => ?_
      intro l hl m hm e
      subst e
      split at hl
      · split at hm
        · have h1 := ((names_mem f (b ++ [x]) l).1 hl).2.1
          have h2 := ((names_mem f (b ++ [y]) l).1 hm).2.1
          simp only [List.length_append, List.length_cons, List.length_nil] at h1 h2
          rw [h1] at h2
          simp at h2
          exact hxy h2
        · simp at hm
      · simp at hl
theorem namesOf_nodup (g h : List Nat) : (namesOf g h).Nodup := by
  unfold namesOf
  split
  · exact names_nodup _ _
  · simp
theorem filt_len {α : Type} (p : α → Bool) : ∀ l : List α, l.length = (l.filter p).length + (l.filter fun x => !p x).length
  | [] => rfl
  | x :: l => by
    have := filt_len p l
    cases h : p x <;> simp [h] <;> omega
/-- Classes of one size. -/
theorem coset {n k : Nat} {A : List (List Nat)} (hA : A.Nodup) (hk : A.length = k) (hn : ∀ a ∈ A, a.length = n ∧ ∀ i, i < n → a.getD i 0 < n) (hcl : ∀ a ∈ A, ∀ b ∈ A, compL a b ∈ A)
    (hinv : ∀ a ∈ A, ∃ a' ∈ A, ∀ p : List Nat, p.length = n → compL (compL p a) a' = p) (hone : ∃ a ∈ A, ∀ p : List Nat, p.length = n → compL p a = p) :
    ∀ (m : Nat) (L : List (List Nat)), L.length ≤ m → L.Nodup → (∀ p ∈ L, p.length = n ∧ ∀ u v, u < n → v < n → p.getD u 0 = p.getD v 0 → u = v) → (∀ p ∈ L, ∀ a ∈ A, compL p a ∈ L) → k ∣ L.length
  | 0, L, hm, _, _, _ => by rw [show L.length = 0 by omega]; exact Nat.dvd_zero k
  | m + 1, [], _, _, _, _ => Nat.dvd_zero k
  | m + 1, p :: L, hm, hL, hp, hc => by
    obtain ⟨hpn, hpi⟩ := hp p (by simp)
    obtain ⟨e, he, hee⟩ := hone
    have hC : (A.map (compL p)).Nodup := by
      rw [List.nodup_iff_pairwise_ne, List.pairwise_map]
      refine (List.nodup_iff_pairwise_ne.1 hA).imp_of_mem fun {a b} ha hb hab => ?_
      intro e
      refine hab (list_getD (by rw [(hn a ha).1, (hn b hb).1]) fun i hi => ?_)
      have hin : i < n := by rw [← (hn a ha).1]; exact hi
      have h1 : (compL p a).getD i 0 = (compL p b).getD i 0 := by rw [e]
      rw [comp_get hi, comp_get (by rw [(hn b hb).1]; exact hin)] at h1
      exact hpi _ _ ((hn a ha).2 i hin) ((hn b hb).2 i hin) h1
    have hsub : ∀ q ∈ A.map (compL p), q ∈ p :: L := fun q hq => by
      obtain ⟨a, ha, rfl⟩ := List.mem_map.1 hq
      exact hc p (by simp) a ha
    have hlen : (p :: L).length = (A.map (compL p)).length + ((p :: L).filter fun q => !(A.map (compL p)).contains q).length := by
      have h1 : ((p :: L).filter fun q => (A.map (compL p)).contains q).Perm (A.map (compL p)) := by
        refine (List.perm_ext_iff_of_nodup (hL.filter _) hC).2 fun q => ?_
        rw [List.mem_filter]
        constructor
        · intro h; simpa using h.2
        · intro h; exact ⟨hsub q h, by simpa using h⟩
      have h2 := filt_len (fun q => (A.map (compL p)).contains q) (p :: L)
      rw [h1.length_eq] at h2
      exact h2
    have hrec := coset hA hk hn hcl hinv ⟨e, he, hee⟩ m ((p :: L).filter fun q => !(A.map (compL p)).contains q) (by
      have hpos : 0 < (A.map (compL p)).length := List.length_pos_of_mem (List.mem_map.2 ⟨e, he, rfl⟩)
      simp only [List.length_cons] at hlen hm ⊢
      omega) (hL.filter _) (fun q hq => hp q (List.mem_filter.1 hq).1) fun q hq a ha => by
        obtain ⟨h1, h2⟩ := List.mem_filter.1 hq
        refine List.mem_filter.2 ⟨hc q h1 a ha, ?_⟩
        simp only [Bool.not_eq_true', List.contains_eq_mem, decide_eq_false_iff_not] at h2 ⊢
        intro h3
        obtain ⟨b, hb, hbe⟩ := List.mem_map.1 h3
        obtain ⟨a', ha', hai⟩ := hinv a ha
        refine h2 (List.mem_map.2 ⟨compL b a', hcl b hb a' ha', ?_⟩)
        rw [← comp_assoc (fun i hi => by rw [(hn b hb).1]; exact (hn a' ha').2 i (by rw [← (hn a' ha').1]; exact hi)), hbe, hai q (hp q h1).1]
    rw [hlen, List.length_map, hk]
    exact Nat.dvd_add (Nat.dvd_refl k) hrec
/-- The permutations: namings of a graph without edges. -/
def zeroN (n : Nat) : List Nat := List.replicate n 0
theorem zero_tow {n : Nat} (h1 : 1 ≤ n) : Tow n (zeroN n) where
  pos := by simpa [zeroN] using h1
  le := by simp [zeroN]
  lt x hx := by rw [(List.mem_replicate.1 hx).2]; exact Nat.two_pow_pos _
  irr i hi := by rw [show (zeroN n).getD i 0 = 0 from rep_get n i]; simp
  sym i j hi hj := by rw [show (zeroN n).getD i 0 = 0 from rep_get n i, show (zeroN n).getD j 0 = 0 from rep_get n j]; simp
def facN : Nat → Nat
  | 0 => 1
  | n + 1 => (n + 1) * facN n
theorem sum_const (k : Nat) : ∀ l : List Nat, (l.map fun _ => k).sum = l.length * k
  | [] => by simp
  | x :: l => by simp [sum_const k l, Nat.add_mul, Nat.add_comm]
theorem perms_len {n : Nat} : ∀ (f : Nat) (b : List Nat), f + b.length = n → b.Nodup → (∀ x ∈ b, x < n) → (namesN (zeroN n) (zeroN n) f b).length = facN f
  | 0, b, _, _, _ => by simp [namesN, facN]
  | f + 1, b, hf, hb, hlt => by
    have hfit : ∀ x, fitS (zeroN n) (zeroN n) b x = !b.contains x := fun x => by
      have hz : ∀ i j, nbN (zeroN n) i j = false := fun i j => by unfold nbN; rw [show (zeroN n).getD i 0 = 0 from rep_get n i]; simp
      rw [Bool.eq_iff_iff, fitS_iff]
      simp only [hz, Bool.not_eq_true', List.contains_eq_mem, decide_eq_false_iff_not, and_true]
      constructor
      · intro h hm
        obtain ⟨u, hu, rfl⟩ := List.mem_iff_getElem.1 hm
        exact h u hu (by simp [List.getD_eq_getElem?_getD, hu])
      · intro h u hu e
        apply h
        rw [← e]
        simp [List.getD_eq_getElem?_getD, hu]
    rw [namesN, List.length_flatMap, show (zeroN n).length = n by simp [zeroN]]
    have h1 : ((List.range n).map fun x => (if fitS (zeroN n) (zeroN n) b x then namesN (zeroN n) (zeroN n) f (b ++ [x]) else []).length) = (List.range n).map fun x => if !b.contains x then facN f else 0 := by
      refine List.map_congr_left fun x hx => ?_
      rw [hfit]
      by_cases h : b.contains x = true
      · rw [h]; simp
      · rw [Bool.not_eq_true] at h
        rw [h]
        simp only [Bool.not_false, if_true]
        refine perms_len f (b ++ [x]) (by simp; omega) (List.nodup_append.2 ⟨hb, by simp, fun a ha c hc e => ?_⟩) fun y hy => ?_
        · have : c = x := by simpa using hc
          subst this
          subst e
          simp at h
          exact h ha
        · rcases List.mem_append.1 hy with h' | h'
          · exact hlt y h'
          · have : y = x := by simpa using h'
            rw [this]
            exact List.mem_range.1 hx
    rw [h1, sum_filter, sum_const]
    have h2 := filt_len (fun x => b.contains x) (List.range n)
    have h3 : ((List.range n).filter fun x => b.contains x).length = b.length := by
      refine List.Perm.length_eq (perm_nodup ((nodup_range n).filter _) hb fun x => ?_)
      rw [List.mem_filter, List.mem_range]
      constructor
      · intro h; simpa using h.2
      · intro h; exact ⟨hlt x h, by simpa using h⟩
    rw [h3, List.length_range] at h2
    rw [show ((List.range n).filter fun x => !b.contains x).length = f + 1 by omega]
    rfl
/-- The turns of a graph. -/
theorem turns_true {n : Nat} {g : List Nat} (hg : Tow n g) : 0 < (namesOf g g).length ∧ (namesOf g g).length ∣ facN g.length := by
  have hz := zero_tow hg.pos
  have hone : List.range g.length ∈ namesOf g g := (names_iso hg hg).2 (Iso.refl hg)
  refine ⟨List.length_pos_of_mem hone, ?_⟩
  have hzl : (zeroN g.length).length = g.length := by simp [zeroN]
  have hPl : (namesOf (zeroN g.length) (zeroN g.length)).length = facN g.length := by
    unfold namesOf
    rw [if_pos rfl, hzl]
    exact perms_len g.length [] (by simp) (by simp) (by simp)
  have hzero : ∀ a, Iso g g a → Iso (zeroN g.length) (zeroN g.length) a := fun a ha => by
    refine ⟨rfl, by rw [hzl]; exact ha.len, fun v hv => by rw [hzl] at *; exact ha.lt v hv, fun u v hu hv e => by rw [hzl] at *; exact ha.inj u v hu hv e, fun u v hu hv => ?_⟩
    unfold nbN
    rw [show (zeroN g.length).getD u 0 = 0 from rep_get _ _, show (zeroN g.length).getD (a.getD u 0) 0 = 0 from rep_get _ _]
    simp
  rw [← hPl]
  refine coset (n := g.length) (A := namesOf g g) (namesOf_nodup g g) rfl (fun a ha => ?_) (fun a ha b hb => ?_) (fun a ha => ?_) ⟨_, hone, fun p hp => ?_⟩ _ _ (Nat.le_refl _) (namesOf_nodup _ _) (fun p hp => ?_) (fun p hp a ha => ?_)
  · have hi := (names_iso hg hg).1 ha
    exact ⟨hi.len, hi.lt⟩
  · exact (names_iso hg hg).2 (((names_iso hg hg).1 hb).comp ((names_iso hg hg).1 ha))
  · have hi := (names_iso hg hg).1 ha
    exact ⟨_, (names_iso hg hg).2 hi.inv, fun p hp => comp_inv hi hp⟩
  · refine list_getD (by simp [compL, hp]) fun i hi => ?_
    have hi' : i < g.length := by simpa [compL] using hi
    rw [comp_get (by simpa using hi')]
    simp [List.getD_eq_getElem?_getD, hi']
  · have hi := (names_iso hz hz).1 hp
    exact ⟨by rw [hi.len, hzl], fun u v hu hv e => hi.inj u v (by rw [hzl]; exact hu) (by rw [hzl]; exact hv) e⟩
  · exact (names_iso hz hz).2 ((hzero a ((names_iso hg hg).1 ha)).comp ((names_iso hz hz).1 hp))
end Go.Proofs.YtnikonhkbldnnaaGreatDoor
/- LW7: a graph whose nodes are moved on. No program in sight. -/
set_option linter.unusedVariables false
set_option linter.unusedSimpArgs false
namespace Go.Proofs.YtnikonhkbldnnaaGreatDoor
def rotS (s by_ n : Nat) : Nat := ((s <<< by_) ||| (s >>> (n - by_))) &&& (2 ^ n - 1)
theorem rot_bit {s b n i : Nat} (hs : s < 2 ^ n) (hb : b < n) (hi : i < n) : (rotS s b n).testBit ((i + b) % n) = s.testBit i := by
  have hm : (i + b) % n < n := Nat.mod_lt _ (by omega)
  have hout : ∀ j, n ≤ j → s.testBit j = false := fun j hj => Nat.testBit_lt_two_pow (Nat.lt_of_lt_of_le hs (Nat.pow_le_pow_right (by decide) hj))
  unfold rotS
  rw [Nat.testBit_and, Nat.testBit_or, Nat.testBit_two_pow_sub_one, Nat.testBit_shiftLeft, Nat.testBit_shiftRight, decide_eq_true hm, Bool.and_true]
  rcases Nat.lt_or_ge (i + b) n with h | h
  · rw [Nat.mod_eq_of_lt h, hout (n - b + (i + b)) (by omega), Bool.or_false]
    simp
  · have e : (i + b) % n = i + b - n := by
      rw [Nat.mod_eq_sub_mod h, Nat.mod_eq_of_lt (by omega)]
    rw [e, show n - b + (i + b - n) = i by omega]
    have : decide (i + b - n ≥ b) = false := by simp; omega
    rw [this]
    simp
/-- Whether h is g with every node moved on. -/
def Rot (g h : List Nat) (b : Nat) : Prop := h.length = g.length ∧ ∀ i, i < g.length → h.getD ((i + b) % g.length) 0 = rotS (g.getD i 0) b g.length
def rotL (n b : Nat) : List Nat := (List.range n).map fun i => (i + b) % n
theorem rotL_get {n b i : Nat} (hi : i < n) : (rotL n b).getD i 0 = (i + b) % n := by simp [rotL, List.getD_eq_getElem?_getD, hi]
theorem rot_inj {n b i j : Nat} (hi : i < n) (hj : j < n) (hb : b < n) (h : (i + b) % n = (j + b) % n) : i = j := by
  have e : ∀ i, i < n → (i + b) % n = if i + b < n then i + b else i + b - n := fun i hi => by
    split
    · rename_i h; exact Nat.mod_eq_of_lt h
    · rename_i h
      rw [Nat.mod_eq_sub_mod (by omega), Nat.mod_eq_of_lt (by omega)]
  rw [e i hi, e j hj] at h
  split at h <;> split at h <;> omega
theorem rot_iso {g h : List Nat} {b : Nat} (hg : Tow 6 g) (hb : b < g.length) (hr : Rot g h b) : Iso g h (rotL g.length b) := by
  refine ⟨hr.1.symm, by simp [rotL], fun v hv => ?_, fun u v hu hv e => ?_, fun u v hu hv => ?_⟩
  · rw [rotL_get hv, hr.1]
    exact Nat.mod_lt _ (by omega)
  · rw [rotL_get hu, rotL_get hv] at e
    exact rot_inj hu hv hb e
  · unfold nbN
    rw [rotL_get hu, rotL_get hv, hr.2 u hu, rot_bit (hg.get u) hb hv]
theorem rot_back {n b j : Nat} (hb : b < n) (hj : j < n) : ∃ i, i < n ∧ (i + b) % n = j := by
  refine ⟨(j + (n - b)) % n, Nat.mod_lt _ (by omega), ?_⟩
  rw [Nat.mod_add_mod, show j + (n - b) + b = j + n by omega, Nat.add_mod_right, Nat.mod_eq_of_lt hj]
theorem rot_tow {g h : List Nat} {b : Nat} (hg : Tow 6 g) (hb : b < g.length) (hr : Rot g h b) : Tow 6 h where
  pos := by rw [hr.1]; exact hg.pos
  le := by rw [hr.1]; exact hg.le
  lt x hx := by
    rw [hr.1]
    obtain ⟨j, hj, rfl⟩ := List.mem_iff_getElem.1 hx
    obtain ⟨i, hi, e⟩ := rot_back hb (show j < g.length by rw [← hr.1]; exact hj)
    have h1 := hr.2 i hi
    rw [e] at h1
    have h2 : h[j] = h.getD j 0 := by simp [List.getD_eq_getElem?_getD, hj]
    rw [h2, h1]
    exact Nat.lt_of_le_of_lt Nat.and_le_right (by have := Nat.two_pow_pos g.length; omega)
  irr j hj := by
    obtain ⟨i, hi, e⟩ := rot_back hb (show j < g.length by rw [← hr.1]; exact hj)
    have h1 := hr.2 i hi
    have h2 := rot_bit (hg.get i) hb hi
    rw [← h1, e] at h2
    rw [h2]
    exact hg.irr i hi
  sym j k hj hk := by
    obtain ⟨i, hi, e⟩ := rot_back hb (show j < g.length by rw [← hr.1]; exact hj)
    obtain ⟨l, hl, e'⟩ := rot_back hb (show k < g.length by rw [← hr.1]; exact hk)
    have h1 := rot_bit (hg.get i) hb hl
    have h2 := rot_bit (hg.get l) hb hi
    rw [← hr.2 i hi, e, e'] at h1
    rw [← hr.2 l hl, e, e'] at h2
    rw [h1, h2]
    exact hg.sym i l hi hl
/-- Graphs of the same names are alike, and the game on them is won. -/
theorem iso_like {g h l : List Nat} (hg : Tow 6 g) (hh : Tow 6 h) (hi : Iso g h l) : likeN g h = true := by
  have hd : ∀ y, y < h.length → (List.range h.length).getD y 0 = y := fun y hy => by simp [List.getD_eq_getElem?_getD, hy]
  refine like_of (c := l) (d := List.range h.length) hg hh (fun x y hx hy hc => ?_) ?_
  · rw [hd y hy] at hc
    subst hc
    refine (hi.near hg hh (by decide) hx).trans (List.Perm.of_eq ?_)
    have : (ndN (h.getD (l.getD x 0) 0)).map (fun u => (List.range h.length).getD u 0) = (ndN (h.getD (l.getD x 0) 0)).map id := List.map_congr_left fun u hu => hd u (nd_lt hh (by decide) hu)
    rw [this, List.map_id]
  · rw [map_getD l g.length hi.len]
    have : (List.range h.length).map (fun u => (List.range h.length).getD u 0) = (List.range h.length).map id := List.map_congr_left fun u hu => hd u (List.mem_range.1 hu)
    rw [this, List.map_id]
    refine perm_nodup hi.nodup (nodup_range _) fun y => ?_
    rw [List.mem_range]
    constructor
    · intro hm
      obtain ⟨v, hv, rfl⟩ := List.mem_iff_getElem.1 hm
      have := hi.lt v (by rw [← hi.len]; exact hv)
      simpa [List.getD_eq_getElem?_getD, hv] using this
    · exact hi.mem
end Go.Proofs.YtnikonhkbldnnaaGreatDoor
/- LW8: formulas: when they are true, how deep they are; the game and formulas. No program in sight. -/
set_option linter.unusedVariables false
set_option linter.unusedSimpArgs false
namespace Go.Proofs.YtnikonhkbldnnaaGreatDoor
inductive Fo where
  | eq (i j : Nat)
  | adj (i j : Nat)
  | no (f : Fo)
  | an (f g : Fo)
  | ex (x : Nat) (f : Fo)
  deriving DecidableEq
def upd (e : Nat → Nat) (x v : Nat) : Nat → Nat := fun y => if y = x then v else e y
def holdF (t : List Nat) : (Nat → Nat) → Fo → Bool
  | e, .eq i j => e i == e j
  | e, .adj i j => nbN t (e i) (e j)
  | e, .no f => !holdF t e f
  | e, .an f g => holdF t e f && holdF t e g
  | e, .ex x f => (List.range t.length).any fun v => holdF t (upd e x v) f
def deepE : Fo → Nat
  | .eq _ _ => 0
  | .adj _ _ => 0
  | .no f => deepE f
  | .an f g => max (deepE f) (deepE g)
  | .ex _ f => deepE f + 1
/-- Every variable stands within an E of it, or is one of some. -/
def clo : (Nat → Prop) → Fo → Prop
  | V, .eq i j => V i ∧ V j
  | V, .adj i j => V i ∧ V j
  | V, .no f => clo V f
  | V, .an f g => clo V f ∧ clo V g
  | V, .ex x f => clo (fun y => y = x ∨ V y) f
theorem okN_pair {t s a b : List Nat} {n : Nat} (ht : Tow n t) (hs : Tow n s) (h : okN t s a b = true) (ha : ∀ i, i < a.length → a.getD i 0 < t.length ∧ b.getD i 0 < s.length) {i j : Nat} (hi : i < a.length) (hj : j < a.length) :
    (a.getD i 0 == a.getD j 0) = (b.getD i 0 == b.getD j 0) ∧ nbN t (a.getD i 0) (a.getD j 0) = nbN s (b.getD i 0) (b.getD j 0) := by
  have h1 := okN_range.1 h
  have hE : ∀ i j, j < a.length → i < j → (a.getD i 0 == a.getD j 0) = (b.getD i 0 == b.getD j 0) := fun i j hj hij => by
    have := (h1 j hj i hij).1
    unfold badE at this
    simpa using this
  have hB : ∀ i j, j < a.length → i < j → nbN t (a.getD i 0) (a.getD j 0) = nbN s (b.getD i 0) (b.getD j 0) := fun i j hj hij => by
    have := (h1 j hj i hij).2
    unfold badN at this
    simpa using this
  rcases Nat.lt_trichotomy i j with h5 | h5 | h5
  · exact ⟨hE i j hj h5, hB i j hj h5⟩
  · subst h5
    refine ⟨by simp, ?_⟩
    rw [show nbN t _ _ = false from ht.irr _ (ha i hi).1, show nbN s _ _ = false from hs.irr _ (ha i hi).2]
  · have e1 := hE j i hi h5
    have e2 := hB j i hi h5
    rw [nb_sym ht (ha i hi).1 (ha j hj).1, nb_sym hs (ha i hi).2 (ha j hj).2]
    refine ⟨?_, e2⟩
    rw [Bool.beq_comm, e1, Bool.beq_comm]
theorem okN_swap {t s a b : List Nat} (hl : a.length = b.length) : okN t s a b = okN s t b a := by
  rw [Bool.eq_iff_iff, okN_range, okN_range, hl]
  have hE : ∀ (a b : List Nat) i j, badE a b i j = badE b a i j := fun a b i j => by unfold badE; exact bne_comm
  have hB : ∀ (t s a b : List Nat) i j, badN t s a b i j = badN s t b a i j := fun t s a b i j => by unfold badN; exact bne_comm
  constructor <;> intro h j hj i hi
  · rw [hE b a, hB s t b a]; exact h j hj i hi
  · rw [hE a b, hB t s a b]; exact h j hj i hi
theorem winN_ok {k : Nat} {t s a b : List Nat} (h : winN k t s a b = true) : okN t s a b = true := by
  cases k with
  | zero => exact h
  | succ k =>
    rw [winN, Bool.and_eq_true] at h
    exact h.1
theorem winN_swap : ∀ (k : Nat) {t s a b : List Nat}, a.length = b.length → winN k t s a b = winN k s t b a
  | 0, t, s, a, b, hl => okN_swap hl
  | k + 1, t, s, a, b, hl => by
    rw [winN, winN, okN_swap hl, Bool.and_comm (ansN (winN k t s) _ _ _ _)]
theorem ansN_iff {w : List Nat → List Nat → Bool} {n m : Nat} {a b : List Nat} : ansN w n m a b = true ↔ ∀ v, v < n → ∃ u, u < m ∧ w (a ++ [v]) (b ++ [u]) = true := by
  unfold ansN
  simp only [List.all_eq_true, List.any_eq_true, List.mem_range]
theorem winN_less : ∀ {k : Nat} {t s a b : List Nat}, winN (k + 1) t s a b = true → winN k t s a b = true
  | 0, t, s, a, b, h => winN_ok h
  | k + 1, t, s, a, b, h => by
    rw [winN, Bool.and_eq_true, Bool.and_eq_true, ansN_iff, ansN_iff] at h
    rw [winN, Bool.and_eq_true, Bool.and_eq_true, ansN_iff, ansN_iff]
    refine ⟨h.1, fun v hv => ?_, fun v hv => ?_⟩
    · obtain ⟨u, hu, hw⟩ := h.2.1 v hv
      exact ⟨u, hu, winN_less hw⟩
    · obtain ⟨u, hu, hw⟩ := h.2.2 v hv
      exact ⟨u, hu, winN_less hw⟩
/-- Names of the nodes win every game. -/
theorem iso_win {n : Nat} {g h l : List Nat} (hg : Tow n g) (hh : Tow n h) (hi : Iso g h l) : ∀ (k : Nat) (a b : List Nat), b = a.map (fun x => l.getD x 0) → (∀ x ∈ a, x < g.length) → winN k g h a b = true := by
  have hok : ∀ a b : List Nat, b = a.map (fun x => l.getD x 0) → (∀ x ∈ a, x < g.length) → okN g h a b = true := fun a b hb ha => by
    rw [okN_range]
    intro j hj i hij
    have hbi : ∀ i, i < a.length → b.getD i 0 = l.getD (a.getD i 0) 0 ∧ a.getD i 0 < g.length := fun i hi => by
      rw [hb]
      refine ⟨by simp [List.getD_eq_getElem?_getD, hi], ?_⟩
      rw [List.getD_eq_getElem?_getD, List.getElem?_eq_getElem hi]
      exact ha _ (List.getElem_mem hi)
    obtain ⟨e1, l1⟩ := hbi i (by omega)
    obtain ⟨e2, l2⟩ := hbi j hj
    unfold badE badN
    rw [e1, e2, hi.nb _ _ l1 l2]
    refine ⟨?_, by simp⟩
    have : (a.getD i 0 == a.getD j 0) = (l.getD (a.getD i 0) 0 == l.getD (a.getD j 0) 0) := by
      rw [Bool.eq_iff_iff, beq_iff_eq, beq_iff_eq]
      exact ⟨fun e => by rw [e], fun e => hi.inj _ _ l1 l2 e⟩
    rw [this]
    simp
  intro k
  induction k with
  | zero => intro a b hb ha; exact hok a b hb ha
  | succ k ih =>
    intro a b hb ha
    rw [winN, Bool.and_eq_true, Bool.and_eq_true, ansN_iff, ansN_iff]
    have hstep : ∀ v, v < g.length → winN k g h (a ++ [v]) (b ++ [l.getD v 0]) = true := fun v hv => ih _ _ (by rw [hb]; simp) fun x hx => by
      rcases List.mem_append.1 hx with h' | h'
      · exact ha x h'
      · rw [List.mem_singleton.1 h']; exact hv
    refine ⟨hok a b hb ha, fun v hv => ⟨_, hi.lt v hv, hstep v hv⟩, fun y hy => ?_⟩
    obtain ⟨v, hv, rfl⟩ := hi.onto hy
    refine ⟨v, hv, ?_⟩
    rw [winN_swap k (by rw [hb]; simp)]
    exact hstep v hv
/-- What the second player wins no formula of that depth tells apart. -/
theorem win_agree {n : Nat} {t s : List Nat} (ht : Tow n t) (hs : Tow n s) : ∀ (f : Fo) (k : Nat) (a b : List Nat) (e e' : Nat → Nat) (V : Nat → Prop), winN k t s a b = true → a.length = b.length →
    (∀ i, i < a.length → a.getD i 0 < t.length ∧ b.getD i 0 < s.length) → deepE f ≤ k → clo V f → (∀ x, V x → ∃ p, p < a.length ∧ a.getD p 0 = e x ∧ b.getD p 0 = e' x) → holdF t e f = holdF s e' f
  | .eq i j, k, a, b, e, e', V, hw, hl, hab, hd, hc, hV => by
    obtain ⟨p, hp, p1, p2⟩ := hV i hc.1
    obtain ⟨q, hq, q1, q2⟩ := hV j hc.2
    have := (okN_pair ht hs (winN_ok hw) hab hp hq).1
    rw [p1, p2, q1, q2] at this
    exact this
  | .adj i j, k, a, b, e, e', V, hw, hl, hab, hd, hc, hV => by
    obtain ⟨p, hp, p1, p2⟩ := hV i hc.1
    obtain ⟨q, hq, q1, q2⟩ := hV j hc.2
    have := (okN_pair ht hs (winN_ok hw) hab hp hq).2
    rw [p1, p2, q1, q2] at this
    exact this
  | .no f, k, a, b, e, e', V, hw, hl, hab, hd, hc, hV => by
    rw [holdF, holdF, win_agree ht hs f k a b e e' V hw hl hab hd hc hV]
  | .an f g, k, a, b, e, e', V, hw, hl, hab, hd, hc, hV => by
    rw [deepE] at hd
    rw [holdF, holdF, win_agree ht hs f k a b e e' V hw hl hab (by omega) hc.1 hV, win_agree ht hs g k a b e e' V hw hl hab (by omega) hc.2 hV]
  | .ex x f, 0, a, b, e, e', V, hw, hl, hab, hd, hc, hV => by rw [deepE] at hd; omega
  | .ex x f, k + 1, a, b, e, e', V, hw, hl, hab, hd, hc, hV => by
    rw [deepE] at hd
    rw [winN, Bool.and_eq_true, Bool.and_eq_true, ansN_iff, ansN_iff] at hw
    have hrec : ∀ v u, v < t.length → u < s.length → winN k t s (a ++ [v]) (b ++ [u]) = true → holdF t (upd e x v) f = holdF s (upd e' x u) f := fun v u hv hu h => by
      refine win_agree ht hs f k (a ++ [v]) (b ++ [u]) (upd e x v) (upd e' x u) (fun y => y = x ∨ V y) h (by simp [hl]) (fun i hi => ?_) (by omega) hc fun y hy => ?_
      · by_cases e : i < a.length
        · have := hab i e
          simpa [List.getD_eq_getElem?_getD, List.getElem?_append_left e, List.getElem?_append_left (show i < b.length by omega)] using this
        · have e' : i = a.length := by simp at hi; omega
          subst e'
          have a1 : (a ++ [v]).getD a.length 0 = v := by simp [List.getD_eq_getElem?_getD]
          have a2 : (b ++ [u]).getD a.length 0 = u := by rw [hl]; simp [List.getD_eq_getElem?_getD]
          rw [a1, a2]
          exact ⟨hv, hu⟩
      · by_cases e1 : y = x
        · refine ⟨a.length, by simp, ?_, ?_⟩
          · simp [List.getD_eq_getElem?_getD, upd, e1]
          · rw [hl]; simp [List.getD_eq_getElem?_getD, upd, e1]
        · obtain ⟨p, hp, p1, p2⟩ := hV y (hy.resolve_left e1)
          refine ⟨p, by simp; omega, ?_, ?_⟩
          · rw [upd, if_neg e1, ← p1]
            simp [List.getD_eq_getElem?_getD, List.getElem?_append_left hp]
          · rw [upd, if_neg e1, ← p2]
            simp [List.getD_eq_getElem?_getD, List.getElem?_append_left (show p < b.length by omega)]
    rw [holdF, holdF, Bool.eq_iff_iff, List.any_eq_true, List.any_eq_true]
    constructor
    · rintro ⟨v, hv, h⟩
      obtain ⟨u, hu, hwu⟩ := hw.2.1 v (List.mem_range.1 hv)
      exact ⟨u, List.mem_range.2 hu, by rw [← hrec v u (List.mem_range.1 hv) hu hwu]; exact h⟩
    · rintro ⟨u, hu, h⟩
      obtain ⟨v, hv, hwv⟩ := hw.2.2 u (List.mem_range.1 hu)
      rw [winN_swap k (by simp [hl])] at hwv
      exact ⟨v, List.mem_range.2 hv, by rw [hrec v u hv (List.mem_range.1 hu) hwv]; exact h⟩
end Go.Proofs.YtnikonhkbldnnaaGreatDoor
/- LW9: texts of formulas, which tell them; the formula that tells two graphs apart. No program in sight. -/
set_option linter.unusedVariables false
set_option linter.unusedSimpArgs false
namespace Go.Proofs.YtnikonhkbldnnaaGreatDoor
def ltr (x : Nat) : UInt8 := UInt8.ofNat (97 + x)
def prF : Fo → List UInt8
  | .eq i j => [ltr i, 61, ltr j]
  | .adj i j => [ltr i, 126, ltr j]
  | .no f => 33 :: prF f
  | .an f g => 40 :: (prF f ++ 38 :: (prF g ++ [41]))
  | .ex x f => 69 :: ltr x :: 32 :: prF f
/-- All variables are letters. -/
def vokF : Fo → Prop
  | .eq i j => i < 4 ∧ j < 4
  | .adj i j => i < 4 ∧ j < 4
  | .no f => vokF f
  | .an f g => vokF f ∧ vokF g
  | .ex x f => x < 4 ∧ vokF f
theorem ltr_toNat {x : Nat} (h : x < 4) : (ltr x).toNat = 97 + x := by
  unfold ltr
  simp
  omega
theorem ltr_inj {x y : Nat} (hx : x < 4) (hy : y < 4) (h : ltr x = ltr y) : x = y := by
  have := congrArg UInt8.toNat h
  rw [ltr_toNat hx, ltr_toNat hy] at this
  omega
theorem ltr_ne {x : Nat} (hx : x < 4) (c : UInt8) (hc : c.toNat < 97) : ltr x ≠ c := by
  intro h
  have := congrArg UInt8.toNat h
  rw [ltr_toNat hx] at this
  omega
/-- Who reads a formula reads one only. -/
theorem pr_inj : ∀ (f g : Fo) (r r' : List UInt8), vokF f → vokF g → prF f ++ r = prF g ++ r' → f = g ∧ r = r'
  | .eq i j, g, r, r', hf, hg, h => by
    cases g with
    | eq k l =>
      simp only [prF, List.cons_append, List.nil_append, List.cons.injEq] at h
      exact ⟨by rw [ltr_inj hf.1 hg.1 h.1, ltr_inj hf.2 hg.2 h.2.2.1], h.2.2.2⟩
    | adj k l =>
      simp only [prF, List.cons_append, List.nil_append, List.cons.injEq] at h
      exact absurd h.2.1 (by decide)
    | no f => simp only [prF, List.cons_append, List.cons.injEq] at h; exact absurd h.1 (ltr_ne hf.1 _ (by decide))
    | an f g => simp only [prF, List.cons_append, List.cons.injEq] at h; exact absurd h.1 (ltr_ne hf.1 _ (by decide))
    | ex x f => simp only [prF, List.cons_append, List.cons.injEq] at h; exact absurd h.1 (ltr_ne hf.1 _ (by decide))
  | .adj i j, g, r, r', hf, hg, h => by
    cases g with
    | adj k l =>
      simp only [prF, List.cons_append, List.nil_append, List.cons.injEq] at h
      exact ⟨by rw [ltr_inj hf.1 hg.1 h.1, ltr_inj hf.2 hg.2 h.2.2.1], h.2.2.2⟩
    | eq k l =>
      simp only [prF, List.cons_append, List.nil_append, List.cons.injEq] at h
      exact absurd h.2.1 (by decide)
    | no f => simp only [prF, List.cons_append, List.cons.injEq] at h; exact absurd h.1 (ltr_ne hf.1 _ (by decide))
    | an f g => simp only [prF, List.cons_append, List.cons.injEq] at h; exact absurd h.1 (ltr_ne hf.1 _ (by decide))
    | ex x f => simp only [prF, List.cons_append, List.cons.injEq] at h; exact absurd h.1 (ltr_ne hf.1 _ (by decide))
  | .no f, g, r, r', hf, hg, h => by
    cases g with
    | no g =>
      simp only [prF, List.cons_append, List.cons.injEq, true_and] at h
      obtain ⟨h1, h2⟩ := pr_inj f g r r' hf hg h
      exact ⟨by rw [h1], h2⟩
    | eq k l => simp only [prF, List.cons_append, List.cons.injEq] at h; exact absurd h.1.symm (ltr_ne hg.1 _ (by decide))
    | adj k l => simp only [prF, List.cons_append, List.cons.injEq] at h; exact absurd h.1.symm (ltr_ne hg.1 _ (by decide))
    | an f g => simp only [prF, List.cons_append, List.cons.injEq] at h; exact absurd h.1 (by decide)
    | ex x f => simp only [prF, List.cons_append, List.cons.injEq] at h; exact absurd h.1 (by decide)
  | .an f f', g, r, r', hf, hg, h => by
    cases g with
    | an g g' =>
      simp only [prF, List.cons_append, List.append_assoc, List.cons.injEq, true_and] at h
      obtain ⟨h1, h2⟩ := pr_inj f g _ _ hf.1 hg.1 h
      simp only [List.cons.injEq, true_and] at h2
      obtain ⟨h3, h4⟩ := pr_inj f' g' _ _ hf.2 hg.2 h2
      simp only [List.cons_append, List.nil_append, List.cons.injEq, true_and] at h4
      exact ⟨by rw [h1, h3], h4⟩
    | eq k l => simp only [prF, List.cons_append, List.cons.injEq] at h; exact absurd h.1.symm (ltr_ne hg.1 _ (by decide))
    | adj k l => simp only [prF, List.cons_append, List.cons.injEq] at h; exact absurd h.1.symm (ltr_ne hg.1 _ (by decide))
    | no g => simp only [prF, List.cons_append, List.cons.injEq] at h; exact absurd h.1 (by decide)
    | ex x f => simp only [prF, List.cons_append, List.cons.injEq] at h; exact absurd h.1 (by decide)
  | .ex x f, g, r, r', hf, hg, h => by
    cases g with
    | ex y g =>
      simp only [prF, List.cons_append, List.cons.injEq, true_and] at h
      obtain ⟨h1, h2⟩ := pr_inj f g r r' hf.2 hg.2 h.2
      exact ⟨by rw [h1, ltr_inj hf.1 hg.1 h.1], h2⟩
    | eq k l => simp only [prF, List.cons_append, List.cons.injEq] at h; exact absurd h.1.symm (ltr_ne hg.1 _ (by decide))
    | adj k l => simp only [prF, List.cons_append, List.cons.injEq] at h; exact absurd h.1.symm (ltr_ne hg.1 _ (by decide))
    | no g => simp only [prF, List.cons_append, List.cons.injEq] at h; exact absurd h.1 (by decide)
    | an f g => simp only [prF, List.cons_append, List.cons.injEq] at h; exact absurd h.1 (by decide)
theorem pr_eq {f g : Fo} (hf : vokF f) (hg : vokF g) (h : prF f = prF g) : f = g := (pr_inj f g [] [] hf hg (by rw [h])).1
/-- How many nodes, how deep. -/
def szF : Fo → Nat
  | .eq _ _ => 1
  | .adj _ _ => 1
  | .no f => szF f + 1
  | .an f g => szF f + szF g + 1
  | .ex _ f => szF f + 1
def htF : Fo → Nat
  | .eq _ _ => 1
  | .adj _ _ => 1
  | .no f => htF f + 1
  | .an f g => max (htF f) (htF g) + 1
  | .ex _ f => htF f + 1
def unl (c : Bool) (f : Fo) : Fo := if c then f else .no f
/-- What tells two choices apart. -/
def bdF (t s a b : List Nat) (i j : Nat) : Option Fo :=
  if badE a b i j then some (unl (a.getD i 0 == a.getD j 0) (.eq i j)) else if badN t s a b i j then some (unl (nbN t (a.getD i 0) (a.getD j 0)) (.adj i j)) else none
def unF (t s a b : List Nat) : Option Fo := (List.range a.length).findSome? fun j => (List.range j).findSome? fun i => bdF t s a b i j
/-- All of some, each once. -/
def dedStep (d : List Fo) (f : Fo) : List Fo := if d.any fun g => prF g == prF f then d else d ++ [f]
def dedF (l : List Fo) : List Fo := l.foldl dedStep []
def conjF : List Fo → Fo
  | [] => .eq 0 0
  | f :: l => l.foldl .an f
def allF (l : List Fo) : Fo := conjF (dedF l)
def exiF (t s a b : List Nat) (w : List Nat → List Nat → Option Fo) : Option Fo := (List.range t.length).findSome? fun v =>
  if ((List.range s.length).all fun u => (w (a ++ [v]) (b ++ [u])).isSome) = true then some (.ex a.length (allF ((List.range s.length).filterMap fun u => w (a ++ [v]) (b ++ [u])))) else none
def tellF : Nat → List Nat → List Nat → List Nat → List Nat → Option Fo
  | 0, t, s, a, b => unF t s a b
  | k + 1, t, s, a, b => match unF t s a b with
    | some f => some f
    | none => match exiF t s a b (tellF k t s) with
      | some f => some f
      | none => (exiF s t b a (tellF k s t)).map .no
theorem ded_go {d : List Fo} (hd : ∀ f ∈ d, vokF f) : ∀ (l : List Fo), (∀ f ∈ l, vokF f) → (∀ f, f ∈ l.foldl dedStep d ↔ f ∈ d ∨ f ∈ l) ∧ (l.foldl dedStep d).length ≤ d.length + l.length ∧ (d ≠ [] ∨ l ≠ [] → l.foldl dedStep d ≠ []) := by
  intro l
  induction l generalizing d with
  | nil => intro _; exact ⟨fun f => by simp, by simp, fun h => by simpa using h⟩
  | cons g l ih =>
    intro hl
    have hg := hl g (by simp)
    have hl' : ∀ f ∈ l, vokF f := fun f hf => hl f (by simp [hf])
    rw [List.foldl_cons]
    by_cases h : (d.any fun x => prF x == prF g) = true
    · rw [show dedStep d g = d from if_pos h]
      obtain ⟨x, hx, e⟩ := List.any_eq_true.1 h
      have hxg : x = g := pr_eq (hd x hx) hg (by simpa using e)
      subst hxg
      obtain ⟨h1, h2, h3⟩ := ih hd hl'
      refine ⟨fun f => ?_, by simp only [List.length_cons]; exact Nat.le_trans h2 (by omega), fun _ => h3 (.inl (List.ne_nil_of_mem hx))⟩
      rw [h1 f, List.mem_cons]
      constructor
      · rintro (h | h)
        · exact .inl h
        · exact .inr (.inr h)
      · rintro (h | h | h)
        · exact .inl h
        · subst h; exact .inl hx
        · exact .inr h
    · rw [show dedStep d g = d ++ [g] from if_neg h]
      obtain ⟨h1, h2, h3⟩ := ih (d := d ++ [g]) (fun f hf => by
        rcases List.mem_append.1 hf with h' | h'
        · exact hd f h'
        · rw [List.mem_singleton.1 h']; exact hg) hl'
      refine ⟨fun f => ?_, by simp only [List.length_cons, List.length_append, List.length_nil] at *; exact Nat.le_trans h2 (by omega), fun _ => h3 (.inl (by simp))⟩
      rw [h1 f, List.mem_append, List.mem_singleton, List.mem_cons, or_assoc]
theorem ded_all {l : List Fo} (hl : ∀ f ∈ l, vokF f) : (∀ f, f ∈ dedF l ↔ f ∈ l) ∧ (dedF l).length ≤ l.length ∧ (l ≠ [] → dedF l ≠ []) := by
  obtain ⟨h1, h2, h3⟩ := ded_go (d := []) (by simp) l hl
  exact ⟨fun f => by simpa [dedF] using h1 f, by simpa [dedF] using h2, fun h => h3 (.inr h)⟩
/-- A conjunction has what its parts have. -/
theorem conj_hold (t : List Nat) (e : Nat → Nat) : ∀ {l : List Fo}, l ≠ [] → holdF t e (conjF l) = l.all (holdF t e)
  | [], h => absurd rfl h
  | f :: l, _ => by
    have : ∀ (l : List Fo) (f : Fo), holdF t e (l.foldl .an f) = (holdF t e f && l.all (holdF t e)) := by
      intro l
      induction l with
      | nil => intro f; simp
      | cons g l ih =>
        intro f
        rw [List.foldl_cons, ih, holdF, List.all_cons, Bool.and_assoc]
    rw [conjF, this, List.all_cons]
theorem conj_all {P : Fo → Prop} (hP : ∀ f g, P f → P g → P (.an f g)) : ∀ {l : List Fo}, l ≠ [] → (∀ f ∈ l, P f) → P (conjF l)
  | [], h, _ => absurd rfl h
  | f :: l, _, h => by
    have : ∀ (l : List Fo) (f : Fo), P f → (∀ g ∈ l, P g) → P (l.foldl .an f) := by
      intro l
      induction l with
      | nil => intro f hf _; exact hf
      | cons g l ih => intro f hf hl; exact ih _ (hP f g hf (hl g (by simp))) fun x hx => hl x (by simp [hx])
    exact this l f (h f (by simp)) fun g hg => h g (by simp [hg])
theorem conj_size {m k : Nat} : ∀ {l : List Fo}, l ≠ [] → l.length ≤ m → (∀ f ∈ l, szF f ≤ k) → szF (conjF l) + 1 ≤ m * (k + 1)
  | [], h, _, _ => absurd rfl h
  | f :: l, _, hl, h => by
    have : ∀ (l : List Fo) (f : Fo), (∀ g ∈ l, szF g ≤ k) → szF (l.foldl .an f) ≤ szF f + l.length * (k + 1) := by
      intro l
      induction l with
      | nil => intro f _; simp
      | cons g l ih =>
        intro f hl
        have := ih (.an f g) fun x hx => hl x (by simp [hx])
        have := hl g (by simp)
        rw [szF] at *
        rw [List.foldl_cons, List.length_cons, Nat.add_mul]
        omega
    have h1 := this l f fun g hg => h g (by simp [hg])
    have h2 := h f (by simp)
    have h3 := Nat.mul_le_mul_right (k + 1) hl
    rw [List.length_cons, Nat.add_mul] at h3
    rw [conjF]
    omega
theorem conj_ht {m k : Nat} : ∀ {l : List Fo}, l ≠ [] → l.length ≤ m → (∀ f ∈ l, htF f ≤ k) → htF (conjF l) + 1 ≤ m + k
  | [], h, _, _ => absurd rfl h
  | f :: l, _, hl, h => by
    have : ∀ (l : List Fo) (f : Fo) (r : Nat), htF f ≤ k + r → (∀ g ∈ l, htF g ≤ k) → htF (l.foldl .an f) ≤ k + r + l.length := by
      intro l
      induction l with
      | nil => intro f r hf _; simpa using hf
      | cons g l ih =>
        intro f r hf hl
        have h2 := hl g (by simp)
        have := ih (.an f g) (r + 1) (by rw [htF]; omega) fun x hx => hl x (by simp [hx])
        rw [List.foldl_cons, List.length_cons]
        omega
    have h1 := this l f 0 (h f (by simp)) fun g hg => h g (by simp [hg])
    rw [conjF]
    simp only [List.length_cons] at hl
    omega
end Go.Proofs.YtnikonhkbldnnaaGreatDoor
/- LW10: the formula that tells two graphs apart does so. No program in sight. -/
set_option linter.unusedVariables false
set_option linter.unusedSimpArgs false
namespace Go.Proofs.YtnikonhkbldnnaaGreatDoor
def szB : Nat → Nat
  | 0 => 2
  | k + 1 => 6 * (szB k + 1) + 1
structure TellOK (k : Nat) (t s a b : List Nat) (f : Fo) : Prop where
  vok : vokF f
  deep : deepE f ≤ k
  clo : clo (· < a.length) f
  sz : szF f ≤ szB k
  ht : htF f ≤ 2 + 7 * k
  yes : ∀ e : Nat → Nat, (∀ i, i < a.length → e i = a.getD i 0) → holdF t e f = true
  not : ∀ e : Nat → Nat, (∀ i, i < b.length → e i = b.getD i 0) → holdF s e f = false
theorem szB_mono (k : Nat) : 2 ≤ szB k := by
  cases k with
  | zero => simp [szB]
  | succ k => rw [szB]; omega
theorem un_none {t s a b : List Nat} : unF t s a b = none ↔ okN t s a b = true := by
  rw [okN_range]
  unfold unF
  simp only [List.findSome?_eq_none_iff, List.mem_range]
  have h : ∀ i j, bdF t s a b i j = none ↔ badE a b i j = false ∧ badN t s a b i j = false := fun i j => by
    unfold bdF
    cases badE a b i j <;> cases badN t s a b i j <;> simp
  constructor
  · intro H j hj i hi
    exact (h i j).1 (H j hj i hi)
  · intro H j hj i hi
    exact (h i j).2 (H j hj i hi)
theorem bd_ok {k : Nat} {t s a b : List Nat} (hl : a.length = b.length) (h4 : a.length ≤ 4) {i j : Nat} (hj : j < a.length) (hi : i < j) {f : Fo} (h : bdF t s a b i j = some f) : TellOK k t s a b f := by
  have h2 := szB_mono k
  unfold bdF at h
  have key : ∀ (p q : Bool) (g : Fo), (p != q) = true → vokF g → deepE g = 0 → clo (· < a.length) g → szF g = 1 → htF g = 1 → (∀ e : Nat → Nat, (∀ i, i < a.length → e i = a.getD i 0) → holdF t e g = p) → (∀ e : Nat → Nat, (∀ i, i < b.length → e i = b.getD i 0) → holdF s e g = q) → TellOK k t s a b (unl p g) := by
    intro p q g hpq h1 h2' h3 h4' h5 h6 h7
    cases p with
    | true =>
      have : q = false := by simpa using hpq
      subst this
      exact ⟨h1, by rw [show unl true g = g from rfl]; omega, h3, by rw [show unl true g = g from rfl]; omega, by rw [show unl true g = g from rfl]; omega, h6, h7⟩
    | false =>
      have : q = true := by simpa using hpq
      subst this
      refine ⟨h1, by rw [show unl false g = .no g from rfl, deepE]; omega, h3, by rw [show unl false g = .no g from rfl, szF]; omega, by rw [show unl false g = .no g from rfl, htF]; omega, fun e he => ?_, fun e he => ?_⟩
      · rw [show unl false g = .no g from rfl, holdF, h6 e he]; rfl
      · rw [show unl false g = .no g from rfl, holdF, h7 e he]; rfl
  split at h
  · rename_i hb
    cases h
    refine key _ (b.getD i 0 == b.getD j 0) _ hb ⟨by omega, by omega⟩ rfl ⟨by omega, hj⟩ rfl rfl (fun e he => ?_) fun e he => ?_
    · rw [holdF, he i (by omega), he j hj]
    · rw [holdF, he i (by omega), he j (by omega)]
  · split at h
    · rename_i hb
      cases h
      refine key _ (nbN s (b.getD i 0) (b.getD j 0)) _ hb ⟨by omega, by omega⟩ rfl ⟨by omega, hj⟩ rfl rfl (fun e he => ?_) fun e he => ?_
      · rw [holdF, he i (by omega), he j hj]
      · rw [holdF, he i (by omega), he j (by omega)]
    · cases h
theorem un_some {k : Nat} {t s a b : List Nat} (hl : a.length = b.length) (h4 : a.length ≤ 4) {f : Fo} (h : unF t s a b = some f) : TellOK k t s a b f := by
  unfold unF at h
  obtain ⟨j, hj, h⟩ := List.exists_of_findSome?_eq_some h
  obtain ⟨i, hi, h⟩ := List.exists_of_findSome?_eq_some h
  exact bd_ok hl h4 (List.mem_range.1 hj) (List.mem_range.1 hi) h
theorem clo_mono : ∀ {f : Fo} {V W : Nat → Prop}, (∀ x, V x → W x) → clo V f → clo W f
  | .eq i j, V, W, h, hc => ⟨h _ hc.1, h _ hc.2⟩
  | .adj i j, V, W, h, hc => ⟨h _ hc.1, h _ hc.2⟩
  | .no f, V, W, h, hc => clo_mono (f := f) h hc
  | .an f g, V, W, h, hc => ⟨clo_mono (f := f) h hc.1, clo_mono (f := g) h hc.2⟩
  | .ex x f, V, W, h, hc => clo_mono (f := f) (fun y hy => hy.imp id (h y)) hc
theorem exi_none {t s a b : List Nat} {w : List Nat → List Nat → Option Fo} {w' : List Nat → List Nat → Bool} (hw : ∀ v u, v < t.length → u < s.length → (w (a ++ [v]) (b ++ [u]) = none ↔ w' (a ++ [v]) (b ++ [u]) = true)) :
    exiF t s a b w = none ↔ ansN w' t.length s.length a b = true := by
  rw [ansN_iff]
  unfold exiF
  simp only [List.findSome?_eq_none_iff, List.mem_range, ite_eq_right_iff, reduceCtorEq, imp_false, List.all_eq_true]
  constructor
  · intro h v hv
    apply Classical.byContradiction
    intro hc
    refine h v hv fun u hu => ?_
    cases hx : w (a ++ [v]) (b ++ [u]) with
    | some f => rfl
    | none => exact absurd ⟨u, hu, (hw v u hv hu).1 hx⟩ hc
  · intro h v hv hc
    obtain ⟨u, hu, hx⟩ := h v hv
    have := hc u hu
    rw [(hw v u hv hu).2 hx] at this
    cases this
theorem snoc_lt {a b : List Nat} {n m v u : Nat} (hl : a.length = b.length) (hab : ∀ i, i < a.length → a.getD i 0 < n ∧ b.getD i 0 < m) (hv : v < n) (hu : u < m) : ∀ i, i < (a ++ [v]).length → (a ++ [v]).getD i 0 < n ∧ (b ++ [u]).getD i 0 < m := by
  intro i hi
  have hA := getD_snoc (fun i hi => (hab i hi).1) hv i hi
  have hB := getD_snoc (b := b) (fun i hi => (hab i (by omega)).2) hu i (by simp at hi ⊢; omega)
  exact ⟨hA, hB⟩
theorem exi_some {k : Nat} {t s a b : List Nat} (ht : Tow 6 t) (hs : Tow 6 s) (hl : a.length = b.length) (h4 : a.length + (k + 1) ≤ 4) {w : List Nat → List Nat → Option Fo}
    (hw : ∀ v u f, v < t.length → u < s.length → w (a ++ [v]) (b ++ [u]) = some f → TellOK k t s (a ++ [v]) (b ++ [u]) f) {f : Fo} (h : exiF t s a b w = some f) :
    TellOK (k + 1) t s a b f ∧ szF f ≤ 6 * (szB k + 1) ∧ htF f ≤ 8 + 7 * k := by
  unfold exiF at h
  obtain ⟨v, hv, h⟩ := List.exists_of_findSome?_eq_some h
  split at h
  · rename_i hall
    cases h
    have hv := List.mem_range.1 hv
    have hmem : ∀ f, f ∈ (List.range s.length).filterMap (fun u => w (a ++ [v]) (b ++ [u])) ↔ ∃ u, u < s.length ∧ w (a ++ [v]) (b ++ [u]) = some f := fun f => by
      rw [List.mem_filterMap]
      simp only [List.mem_range]
    have hlen : ((List.range s.length).filterMap fun u => w (a ++ [v]) (b ++ [u])).length ≤ 6 := by
      have := List.length_filterMap_le (fun u => w (a ++ [v]) (b ++ [u])) (List.range s.length)
      rw [List.length_range] at this
      have := hs.le
      omega
    have hget : ∀ u, u < s.length → ∃ f, w (a ++ [v]) (b ++ [u]) = some f := fun u hu => by
      have := List.all_eq_true.1 hall u (List.mem_range.2 hu)
      exact Option.isSome_iff_exists.1 this
    generalize (List.range s.length).filterMap (fun u => w (a ++ [v]) (b ++ [u])) = L at *
    have hOK : ∀ f ∈ L, ∃ u, u < s.length ∧ TellOK k t s (a ++ [v]) (b ++ [u]) f := fun f hf => by
      obtain ⟨u, hu, e⟩ := (hmem f).1 hf
      exact ⟨u, hu, hw v u f hv hu e⟩
    have hvok : ∀ f ∈ L, vokF f := fun f hf => by
      obtain ⟨u, hu, h⟩ := hOK f hf
      exact h.vok
    have hne : L ≠ [] := by
      obtain ⟨f, hf⟩ := hget 0 (by have := hs.pos; omega)
      exact List.ne_nil_of_mem ((hmem f).2 ⟨0, by have := hs.pos; omega, hf⟩)
    obtain ⟨d1, d2, d3⟩ := ded_all hvok
    have hdn := d3 hne
    have hsz := conj_size (m := 6) (k := szB k) hdn (by omega) fun f hf => by
      obtain ⟨u, hu, h⟩ := hOK f ((d1 f).1 hf)
      exact h.sz
    have hht := conj_ht (m := 6) (k := 2 + 7 * k) hdn (by omega) fun f hf => by
      obtain ⟨u, hu, h⟩ := hOK f ((d1 f).1 hf)
      exact h.ht
    have hkeep : ∀ {P : Fo → Prop}, (∀ f g, P f → P g → P (.an f g)) → (∀ f u, u < s.length → TellOK k t s (a ++ [v]) (b ++ [u]) f → P f) → P (allF L) := fun hP hh => conj_all hP hdn fun f hf => by
      obtain ⟨u, hu, h⟩ := hOK f ((d1 f).1 hf)
      exact hh f u hu h
    have hS : szF (.ex a.length (allF L)) ≤ 6 * (szB k + 1) := by rw [szF]; unfold allF; omega
    have hH : htF (.ex a.length (allF L)) ≤ 8 + 7 * k := by rw [htF]; unfold allF; omega
    refine ⟨⟨⟨by omega, hkeep (P := vokF) (fun f g hf hg => ⟨hf, hg⟩) fun f u _ h => h.vok⟩, ?_, ?_, by rw [szB]; omega, by omega, fun e he => ?_, fun e he => ?_⟩, hS, hH⟩
    · rw [deepE]
      have := hkeep (P := fun f => deepE f ≤ k) (fun f g hf hg => by rw [deepE]; omega) fun f u _ h => h.deep
      omega
    · show clo _ (allF L)
      refine hkeep (P := clo _) (fun f g hf hg => ⟨hf, hg⟩) fun f u _ h => clo_mono (fun x hx => ?_) h.clo
      simp only [List.length_append, List.length_cons, List.length_nil] at hx
      show x = a.length ∨ x < a.length
      omega
    · rw [holdF, List.any_eq_true]
      refine ⟨v, List.mem_range.2 hv, ?_⟩
      unfold allF
      rw [conj_hold t _ hdn, List.all_eq_true]
      intro f hf
      obtain ⟨u, hu, h⟩ := hOK f ((d1 f).1 hf)
      refine h.yes _ fun i hi => ?_
      by_cases e1 : i = a.length
      · subst e1
        simp [upd, List.getD_eq_getElem?_getD]
      · have hi' : i < a.length := by simp at hi; omega
        rw [upd, if_neg e1, he i hi']
        simp [List.getD_eq_getElem?_getD, List.getElem?_append_left hi']
    · rw [holdF, List.any_eq_false]
      intro u hu
      have hu := List.mem_range.1 hu
      obtain ⟨f, hf⟩ := hget u hu
      have h := hw v u f hv hu hf
      unfold allF
      rw [conj_hold s _ hdn, Bool.not_eq_true, List.all_eq_false]
      refine ⟨f, (d1 f).2 ((hmem f).2 ⟨u, hu, hf⟩), ?_⟩
      rw [h.not _ fun i hi => ?_]
      · simp
      · by_cases e1 : i = a.length
        · subst e1
          rw [hl]
          simp [upd, List.getD_eq_getElem?_getD]
        · have hi' : i < b.length := by simp at hi; omega
          rw [upd, if_neg e1, he i hi']
          simp [List.getD_eq_getElem?_getD, List.getElem?_append_left hi']
  · cases h
theorem TellOK.swap {k : Nat} {t s a b : List Nat} {f : Fo} (hl : a.length = b.length) (h : TellOK (k + 1) s t b a f) (hs : szF f ≤ 6 * (szB k + 1)) (hh : htF f ≤ 8 + 7 * k) : TellOK (k + 1) t s a b (.no f) :=
  ⟨h.vok, h.deep, by have := h.clo; rw [← hl] at this; exact this, by rw [szF, szB]; omega, by rw [htF]; omega, fun e he => by rw [holdF, h.not e he]; rfl, fun e he => by rw [holdF, h.yes e he]; rfl⟩
theorem tell_true : ∀ (k : Nat) {t s a b : List Nat}, Tow 6 t → Tow 6 s → a.length = b.length → a.length + k ≤ 4 →
    (tellF k t s a b = none ↔ winN k t s a b = true) ∧ ∀ f, tellF k t s a b = some f → TellOK k t s a b f
  | 0, t, s, a, b, ht, hs, hl, h4 => ⟨un_none, fun f hf => un_some hl (by omega) hf⟩
  | k + 1, t, s, a, b, ht, hs, hl, h4 => by
    have ih1 := fun v u => tell_true k (t := t) (s := s) (a := a ++ [v]) (b := b ++ [u]) ht hs (by simp [hl]) (by simp; omega)
    have ih2 := fun v u => tell_true k (t := s) (s := t) (a := b ++ [v]) (b := a ++ [u]) hs ht (by simp [hl]) (by simp; omega)
    have e1 := exi_none (t := t) (s := s) (a := a) (b := b) (w := tellF k t s) (w' := winN k t s) fun v u _ _ => (ih1 v u).1
    have e2 := exi_none (t := s) (s := t) (a := b) (b := a) (w := tellF k s t) (w' := winN k s t) fun v u _ _ => (ih2 v u).1
    have q1 := fun f => exi_some (f := f) ht hs hl h4 (w := tellF k t s) fun v u f _ _ hf => (ih1 v u).2 f hf
    have q2 := fun f => exi_some (f := f) hs ht hl.symm (by omega) (w := tellF k s t) fun v u f _ _ hf => (ih2 v u).2 f hf
    have e0 := un_none (t := t) (s := s) (a := a) (b := b)
    rw [tellF, winN]
    cases c0 : unF t s a b with
    | some f =>
      rw [c0] at e0
      have : okN t s a b = false := by
        rw [Bool.eq_false_iff]
        intro h
        exact absurd (e0.2 h) (by simp)
      rw [this]
      exact ⟨by simp, fun g hg => by cases hg; exact un_some hl (by omega) c0⟩
    | none =>
      rw [e0.1 c0]
      cases c1 : exiF t s a b (tellF k t s) with
      | some f =>
        have : ansN (winN k t s) t.length s.length a b = false := by
          rw [Bool.eq_false_iff]
          intro h
          rw [e1.2 h] at c1
          cases c1
        rw [this]
        exact ⟨by simp, fun g hg => by cases hg; exact (q1 f c1).1⟩
      | none =>
        rw [e1.1 c1]
        cases c2 : exiF s t b a (tellF k s t) with
        | some f =>
          have : ansN (winN k s t) s.length t.length b a = false := by
            rw [Bool.eq_false_iff]
            intro h
            rw [e2.2 h] at c2
            cases c2
          rw [this]
          refine ⟨by simp, fun g hg => ?_⟩
          cases hg
          obtain ⟨r1, r2, r3⟩ := q2 f c2
          exact r1.swap hl r2 r3
        | none =>
          rw [e2.1 c2]
          exact ⟨by simp, fun g hg => by cases hg⟩
end Go.Proofs.YtnikonhkbldnnaaGreatDoor
/- LW11: sorting by insertion, step by step. No program in sight. -/
set_option linter.unusedVariables false
set_option linter.unusedSimpArgs false
namespace Go.Proofs.YtnikonhkbldnnaaGreatDoor
/-- Not behind. -/
def leK (x y : List Nat) : Prop := ¬ cmpN y x < 0
theorem leK_trans {x y z : List Nat} (h1 : leK x y) (h2 : leK y z) : leK x z := by
  unfold leK at *
  intro h
  -- z < x
  rcases cmpN_cases y x with e | e | e
  · rw [e] at h1; exact h1 (by decide)
  · rw [cmpN_eq e] at h2; exact h2 h
  · have hxy : cmpN x y < 0 := by rw [cmpN_anti, e]; decide
    exact h2 (cmpN_trans h hxy)
theorem leK_of_lt {x y : List Nat} (h : cmpN x y < 0) : leK x y := by
  unfold leK
  rw [cmpN_anti]
  omega
def gK (l : List (List Nat)) (i : Nat) : List Nat := l.getD i []
/-- The first are sorted; but the one at j need not be behind those ahead of it. -/
def InsJ (zs : List (List Nat)) (i j : Nat) : Prop := ∀ p q, p < q → q ≤ i → q ≠ j → leK (gK zs p) (gK zs q)
def SrtTo (zs : List (List Nat)) (i : Nat) : Prop := ∀ p q, p < q → q < i → leK (gK zs p) (gK zs q)
def swp (zs : List (List Nat)) (j : Nat) : List (List Nat) := (zs.set j (gK zs (j - 1))).set (j - 1) (gK zs j)
theorem gK_set {l : List (List Nat)} {i : Nat} (hi : i < l.length) (x : List Nat) (p : Nat) : gK (l.set i x) p = if p = i then x else gK l p := by
  unfold gK
  simp only [List.getD_eq_getElem?_getD, List.getElem?_set]
  by_cases h : i = p
  · subst h; simp [hi]
  · rw [if_neg h, if_neg (Ne.symm h)]
theorem gK_swp {zs : List (List Nat)} {j : Nat} (hj : j < zs.length) (h0 : 0 < j) (p : Nat) : gK (swp zs j) p = if p = j - 1 then gK zs j else if p = j then gK zs (j - 1) else gK zs p := by
  unfold swp
  rw [gK_set (by simp; omega), gK_set hj]
theorem swp_len (zs : List (List Nat)) (j : Nat) : (swp zs j).length = zs.length := by simp [swp]
theorem ins_start {zs : List (List Nat)} {i : Nat} (h : SrtTo zs i) : InsJ zs i i := fun p q hpq hq hne => h p q hpq (by omega)
theorem ins_step {zs : List (List Nat)} {i j : Nat} (hi : i < zs.length) (h0 : 0 < j) (hj : j ≤ i) (h : InsJ zs i j) (hlt : cmpN (gK zs j) (gK zs (j - 1)) < 0) : InsJ (swp zs j) i (j - 1) := by
  intro p q hpq hq hne
  rw [gK_swp (by omega) h0, gK_swp (by omega) h0]
  rw [if_neg hne]
  by_cases e1 : q = j
  · subst e1
    rw [if_pos rfl]
    by_cases e2 : p = q - 1
    · rw [if_pos e2]
      exact leK_of_lt hlt
    · rw [if_neg e2, if_neg (by omega)]
      exact h p (q - 1) (by omega) (by omega) (by omega)
  · rw [if_neg e1]
    by_cases e2 : p = j - 1
    · rw [if_pos e2]
      exact h j q (by omega) hq e1
    · rw [if_neg e2]
      by_cases e3 : p = j
      · rw [if_pos e3]
        exact h (j - 1) q (by omega) hq e1
      · rw [if_neg e3]
        exact h p q hpq hq e1
theorem ins_end {zs : List (List Nat)} {i j : Nat} (hj : j ≤ i) (h : InsJ zs i j) (hc : j = 0 ∨ ¬ cmpN (gK zs j) (gK zs (j - 1)) < 0) : SrtTo zs (i + 1) := by
  intro p q hpq hq
  by_cases e : q = j
  · subst e
    rcases hc with hc | hc
    · omega
    · by_cases e2 : p = q - 1
      · subst e2; exact hc
      · exact leK_trans (h p (q - 1) (by omega) (by omega) (by omega)) hc
  · exact h p q hpq (by omega) e
theorem swp_perm {zs : List (List Nat)} {j : Nat} (hj : j < zs.length) (h0 : 0 < j) : (swp zs j).Perm zs := by
  have e : zs = zs.take (j - 1) ++ gK zs (j - 1) :: gK zs j :: zs.drop (j + 1) := by
    have h1 : gK zs (j - 1) = zs[j - 1] := by
      have : j - 1 < zs.length := by omega
      simp [gK, List.getD_eq_getElem?_getD, this]
    have h2 : gK zs j = zs[j] := by simp [gK, List.getD_eq_getElem?_getD, hj]
    rw [h1, h2, ← List.drop_eq_getElem_cons hj]
    have h3 : zs.drop j = zs.drop (j - 1 + 1) := by congr 1; omega
    rw [h3, ← List.drop_eq_getElem_cons (show j - 1 < zs.length by omega), List.take_append_drop]
  have e2 : swp zs j = zs.take (j - 1) ++ gK zs j :: gK zs (j - 1) :: zs.drop (j + 1) := by
    apply List.ext_getElem?
    intro p
    by_cases hp : p < zs.length
    · have h1 : (swp zs j)[p]? = some (gK (swp zs j) p) := by
        have : p < (swp zs j).length := by rw [swp_len]; exact hp
        simp [gK, List.getD_eq_getElem?_getD, this]
      rw [h1, gK_swp hj h0]
      have htl : (zs.take (j - 1)).length = j - 1 := by simp; omega
      by_cases c1 : p < j - 1
      · rw [List.getElem?_append_left (by omega), if_neg (by omega), if_neg (by omega), List.getElem?_take_of_lt c1]
        simp [gK, List.getD_eq_getElem?_getD, hp]
      · rw [List.getElem?_append_right (by omega), htl]
        by_cases c2 : p = j - 1
        · subst c2; simp
        · by_cases c3 : p = j
          · subst c3
            rw [if_neg (by omega), if_pos rfl, show p - (p - 1) = 1 by omega]
            simp
          · rw [if_neg (by omega), if_neg c3, show p - (j - 1) = (p - (j + 1)) + 1 + 1 by omega]
            simp only [List.getElem?_cons_succ, List.getElem?_drop]
            rw [show j + 1 + (p - (j + 1)) = p by omega]
            simp [gK, List.getD_eq_getElem?_getD, hp]
    · rw [List.getElem?_eq_none (by rw [swp_len]; omega), List.getElem?_eq_none (by simp; omega)]
  rw [e2]
  conv => rhs; rw [e]
  exact (List.Perm.swap _ _ _).append_left _
theorem srt_pairwise {zs : List (List Nat)} (h : SrtTo zs zs.length) : zs.Pairwise leK := by
  rw [List.pairwise_iff_getElem]
  intro i j hi hj hij
  have := h i j hij hj
  simpa [gK, List.getD_eq_getElem?_getD, hi, hj] using this
/-- Neighbours that are equal: one of them. -/
def cgoK (p : List Nat) : List (List Nat) → List (List Nat)
  | [] => []
  | y :: l => if y = p then cgoK y l else y :: cgoK y l
def cmpK : List (List Nat) → List (List Nat)
  | [] => []
  | x :: l => x :: cgoK x l
theorem cgoK_ris : ∀ (l : List (List Nat)) (p : List Nat), (p :: l).Pairwise leK → Ris (p :: cgoK p l) ∧ ∀ x, x ∈ p :: cgoK p l ↔ x ∈ p :: l
  | [], p, _ => ⟨by simp [Ris, cgoK], fun x => by simp [cgoK]⟩
  | y :: l, p, h => by
    have h1 := List.pairwise_cons.1 h
    obtain ⟨i1, i2⟩ := cgoK_ris l y h1.2
    rw [cgoK]
    split
    · rename_i e
      subst e
      refine ⟨i1, fun x => ?_⟩
      rw [i2 x]
      simp
    · rename_i hne
      have hlt : ∀ z ∈ y :: cgoK y l, cmpN p z < 0 := fun z hz => by
        have hpy : cmpN p y < 0 := by
          have := h1.1 y (by simp)
          unfold leK at this
          rcases cmpN_cases y p with e | e | e
          · rw [e] at this; exact absurd (by decide) this
          · exact absurd (cmpN_eq e) hne
          · rw [cmpN_anti, e]; decide
        rcases List.mem_cons.1 hz with rfl | hz
        · exact hpy
        · exact cmpN_trans hpy ((List.pairwise_cons.1 i1).1 z hz)
      refine ⟨List.pairwise_cons.2 ⟨hlt, i1⟩, fun x => ?_⟩
      have h3 := i2 x
      rw [List.mem_cons (a := x) (b := p), h3, List.mem_cons (a := x) (b := p)]
/-- A sorted list without repetitions is that of the different ones. -/
theorem cmpK_kinds {L ys : List (List Nat)} (hp : L.Perm ys) (hs : ys.Pairwise leK) : cmpK ys = kindsL L := by
  refine ris_unique ?_ (kinds_ris L) fun x => ?_
  · cases ys with
    | nil => exact List.Pairwise.nil
    | cons y l => exact (cgoK_ris l y hs).1
  · rw [kinds_mem, hp.mem_iff]
    cases ys with
    | nil => simp [cmpK]
    | cons y l => exact (cgoK_ris l y hs).2 x
end Go.Proofs.YtnikonhkbldnnaaGreatDoor
/- LW12: a fraction matrix of two towns: they are alike. Plain. -/
set_option linter.unusedVariables false
set_option linter.unusedSimpArgs false
namespace Go.Proofs.YtnikonhkbldnnaaGreatDoor
/-- A sum. -/
def sgm : Nat → (Nat → Int) → Int
  | 0, _ => 0
  | n + 1, f => sgm n f + f n
theorem sgm_congr {f g : Nat → Int} : ∀ {n : Nat}, (∀ k, k < n → f k = g k) → sgm n f = sgm n g
  | 0, _ => rfl
  | n + 1, h => by rw [sgm, sgm, sgm_congr fun k hk => h k (by omega), h n (by omega)]
theorem sgm_zero : ∀ n : Nat, sgm n (fun _ => 0) = 0
  | 0 => rfl
  | n + 1 => by rw [sgm, sgm_zero n]; rfl
theorem sgm_add (f g : Nat → Int) : ∀ n : Nat, sgm n (fun k => f k + g k) = sgm n f + sgm n g
  | 0 => rfl
  | n + 1 => by rw [sgm, sgm, sgm, sgm_add f g n]; omega
theorem sgm_sub (f g : Nat → Int) : ∀ n : Nat, sgm n (fun k => f k - g k) = sgm n f - sgm n g
  | 0 => rfl
  | n + 1 => by rw [sgm, sgm, sgm, sgm_sub f g n]; omega
theorem sgm_mul (c : Int) (f : Nat → Int) : ∀ n : Nat, sgm n (fun k => c * f k) = c * sgm n f
  | 0 => by simp [sgm]
  | n + 1 => by rw [sgm, sgm, sgm_mul c f n, Int.mul_add]
theorem sgm_mulr (c : Int) (f : Nat → Int) (n : Nat) : sgm n (fun k => f k * c) = sgm n f * c := by
  rw [Int.mul_comm, ← sgm_mul]
  exact sgm_congr fun k _ => Int.mul_comm _ _
theorem sgm_swap (f : Nat → Nat → Int) (m : Nat) : ∀ n : Nat, sgm n (fun i => sgm m (fun j => f i j)) = sgm m (fun j => sgm n (fun i => f i j))
  | 0 => by simp only [sgm]; exact (sgm_zero m).symm
  | n + 1 => by
    rw [sgm, sgm_swap f m n, ← sgm_add]
    exact sgm_congr fun j _ => rfl
theorem sgm_nonneg {f : Nat → Int} : ∀ {n : Nat}, (∀ k, k < n → 0 ≤ f k) → 0 ≤ sgm n f
  | 0, _ => Int.le_refl _
  | n + 1, h => by
    have := sgm_nonneg (n := n) fun k hk => h k (by omega)
    have := h n (by omega)
    rw [sgm]
    omega
theorem sgm_null {f : Nat → Int} : ∀ {n : Nat}, (∀ k, k < n → 0 ≤ f k) → sgm n f = 0 → ∀ k, k < n → f k = 0
  | n + 1, h, h0, k, hk => by
    have h1 := sgm_nonneg (n := n) fun k hk => h k (by omega)
    have h2 := h n (by omega)
    rw [sgm] at h0
    rcases Nat.lt_or_ge k n with h5 | h5
    · exact sgm_null (fun k hk => h k (by omega)) (by omega) k h5
    · rw [show k = n by omega]
      omega
/-- What a matrix of weights asks: sums of rows and columns, and that both towns' neighbours weigh the same. -/
structure Wgt (n : Nat) (A B a : Nat → Nat → Int) (L : Int) : Prop where
  pos : 0 < L
  nn : ∀ i j, i < n → j < n → 0 ≤ a i j
  row : ∀ i, i < n → sgm n (fun j => a i j) = L
  col : ∀ j, j < n → sgm n (fun i => a i j) = L
  com : ∀ i j, i < n → j < n → sgm n (fun k => A i k * a k j) = sgm n (fun k => a i k * B k j)
  symA : ∀ i j, i < n → j < n → A i j = A j i
  symB : ∀ i j, i < n → j < n → B i j = B j i
section
variable {n : Nat} {A B a : Nat → Nat → Int} {L : Int}
/-- Weights stay within classes. -/
def Blk (n : Nat) (a : Nat → Nat → Int) (e f : Nat → Int) : Prop := ∀ i j, i < n → j < n → a i j ≠ 0 → e i = f j
theorem blk_row (h : Wgt n A B a L) {e f : Nat → Int} (hb : Blk n a e f) {i : Nat} (hi : i < n) : sgm n (fun j => a i j * f j) = L * e i := by
  have : sgm n (fun j => a i j * f j) = sgm n (fun j => a i j * e i) := sgm_congr fun j hj => by
    by_cases h0 : a i j = 0
    · rw [h0, Int.zero_mul, Int.zero_mul]
    · rw [hb i j hi hj h0]
  rw [this, sgm_mulr, h.row i hi]
theorem blk_col (h : Wgt n A B a L) {e f : Nat → Int} (hb : Blk n a e f) {j : Nat} (hj : j < n) : sgm n (fun i => a i j * e i) = L * f j := by
  have : sgm n (fun i => a i j * e i) = sgm n (fun i => a i j * f j) := sgm_congr fun i hi => by
    by_cases h0 : a i j = 0
    · rw [h0, Int.zero_mul, Int.zero_mul]
    · rw [hb i j hi hj h0]
  rw [this, sgm_mulr, h.col j hj]
theorem blk_size (h : Wgt n A B a L) {e f : Nat → Int} (hb : Blk n a e f) : sgm n e = sgm n f := by
  have h1 : sgm n (fun i => L * e i) = L * sgm n e := sgm_mul _ _ _
  have h2 : sgm n (fun j => L * f j) = L * sgm n f := sgm_mul _ _ _
  have h3 : sgm n (fun i => L * e i) = sgm n (fun j => L * f j) := by
    rw [← sgm_congr fun i hi => blk_row h hb hi]
    rw [sgm_swap]
    refine sgm_congr fun j hj => ?_
    show sgm n (fun i => a i j * f j) = _
    rw [sgm_mulr, h.col j hj]
  have h4 : L * sgm n e = L * sgm n f := by rw [← h1, ← h2, h3]
  exact Int.eq_of_mul_eq_mul_left (by have := h.pos; omega) h4
/-- The neighbours in a class, of one town and of the other one. -/
theorem blk_next (h : Wgt n A B a L) {e f : Nat → Int} (hb : Blk n a e f) : Blk n a (fun i => sgm n fun k => A i k * e k) (fun j => sgm n fun k => B j k * f k) := by
  obtain ⟨u, hu⟩ : ∃ u : Nat → Int, u = fun i => sgm n fun k => A i k * e k := ⟨_, rfl⟩
  obtain ⟨v, hv⟩ : ∃ v : Nat → Int, v = fun j => sgm n fun k => B j k * f k := ⟨_, rfl⟩
  rw [← hu, ← hv]
  have h1 : ∀ i, i < n → L * u i = sgm n fun k => a i k * v k := fun i hi => by
    have e1 : L * u i = sgm n (fun k => A i k * (L * e k)) := by
      rw [hu, ← sgm_mul]
      exact sgm_congr fun k _ => Int.mul_left_comm _ _ _
    have e2 : sgm n (fun k => A i k * (L * e k)) = sgm n (fun k => sgm n fun j => A i k * (a k j * f j)) := sgm_congr fun k hk => by
      rw [← blk_row h hb hk, sgm_mul]
    have e3 : sgm n (fun j => sgm n fun k => A i k * (a k j * f j)) = sgm n (fun j => (sgm n fun k => a i k * B k j) * f j) := sgm_congr fun j hj => by
      rw [← h.com i j hi hj, ← sgm_mulr]
      exact sgm_congr fun k _ => (Int.mul_assoc _ _ _).symm
    have e4 : sgm n (fun j => (sgm n fun k => a i k * B k j) * f j) = sgm n (fun j => sgm n fun k => a i k * (B k j * f j)) := sgm_congr fun j hj => by
      rw [← sgm_mulr]
      exact sgm_congr fun k _ => Int.mul_assoc _ _ _
    rw [e1, e2, sgm_swap, e3, e4, sgm_swap]
    refine sgm_congr fun k hk => ?_
    show sgm n (fun j => a i k * (B k j * f j)) = _
    rw [sgm_mul, hv]
  have h2 : ∀ j, j < n → L * v j = sgm n fun k => a k j * u k := fun j hj => by
    have e1 : L * v j = sgm n (fun k => B j k * (L * f k)) := by
      rw [hv, ← sgm_mul]
      exact sgm_congr fun k _ => Int.mul_left_comm _ _ _
    have e2 : sgm n (fun k => B j k * (L * f k)) = sgm n (fun k => sgm n fun i => B j k * (a i k * e i)) := sgm_congr fun k hk => by
      rw [← blk_col h hb hk, sgm_mul]
    have e3 : sgm n (fun i => sgm n fun k => B j k * (a i k * e i)) = sgm n (fun i => (sgm n fun k => A i k * a k j) * e i) := sgm_congr fun i hi => by
      rw [h.com i j hi hj, ← sgm_mulr]
      refine sgm_congr fun k hk => ?_
      rw [h.symB j k hj hk, ← Int.mul_assoc, Int.mul_comm (B k j)]
    have e4 : sgm n (fun i => (sgm n fun k => A i k * a k j) * e i) = sgm n (fun i => sgm n fun k => a k j * (A k i * e i)) := sgm_congr fun i hi => by
      rw [← sgm_mulr]
      refine sgm_congr fun k hk => ?_
      rw [h.symA i k hi hk, ← Int.mul_assoc, Int.mul_comm (A k i)]
    rw [e1, e2, sgm_swap, e3, e4, sgm_swap]
    refine sgm_congr fun k hk => ?_
    show sgm n (fun i => a k j * (A k i * e i)) = _
    rw [sgm_mul, hu]
  have d0 : ∀ i j, i < n → j < n → 0 ≤ a i j * ((u i - v j) * (u i - v j)) := fun i j hi hj => by
    refine Int.mul_nonneg (h.nn i j hi hj) ?_
    rcases Int.le_total 0 (u i - v j) with h5 | h5
    · exact Int.mul_nonneg h5 h5
    · exact Int.mul_nonneg_of_nonpos_of_nonpos h5 h5
  have dx : ∀ i j, a i j * ((u i - v j) * (u i - v j)) = a i j * (u i * u i) + a i j * (v j * v j) - 2 * (u i * (a i j * v j)) := fun i j => by
    generalize a i j = x
    generalize u i = y
    generalize v j = z
    simp only [Int.mul_sub, Int.sub_mul]
    have t1 : x * (y * z) = y * (x * z) := Int.mul_left_comm _ _ _
    have t2 : x * (z * y) = y * (x * z) := by rw [Int.mul_comm z y]; exact Int.mul_left_comm _ _ _
    omega
  have s1 : sgm n (fun i => sgm n fun j => a i j * (u i * u i)) = L * sgm n (fun i => u i * u i) := by
    rw [← sgm_mul]
    refine sgm_congr fun i hi => ?_
    rw [sgm_mulr, h.row i hi]
  have s2 : sgm n (fun i => sgm n fun j => a i j * (v j * v j)) = L * sgm n (fun j => v j * v j) := by
    rw [← sgm_mul, sgm_swap]
    refine sgm_congr fun j hj => ?_
    show sgm n (fun i => a i j * (v j * v j)) = _
    rw [sgm_mulr, h.col j hj]
  have s3 : sgm n (fun i => sgm n fun j => u i * (a i j * v j)) = L * sgm n (fun i => u i * u i) := by
    rw [← sgm_mul]
    refine sgm_congr fun i hi => ?_
    rw [sgm_mul, ← h1 i hi]
    exact Int.mul_left_comm _ _ _
  have s4 : sgm n (fun i => sgm n fun j => u i * (a i j * v j)) = L * sgm n (fun j => v j * v j) := by
    rw [← sgm_mul, sgm_swap]
    refine sgm_congr fun j hj => ?_
    have : sgm n (fun i => u i * (a i j * v j)) = v j * sgm n (fun k => a k j * u k) := by
      rw [← sgm_mul]
      refine sgm_congr fun i _ => ?_
      rw [Int.mul_comm (v j), Int.mul_assoc, ← Int.mul_assoc (a i j), ← Int.mul_assoc, Int.mul_comm (u i)]
    show sgm n (fun i => u i * (a i j * v j)) = _
    rw [this, ← h2 j hj]
    exact Int.mul_left_comm _ _ _
  have D : sgm n (fun i => sgm n fun j => a i j * ((u i - v j) * (u i - v j))) = 0 := by
    have : sgm n (fun i => sgm n fun j => a i j * ((u i - v j) * (u i - v j))) = sgm n (fun i => sgm n (fun j => a i j * (u i * u i)) + sgm n (fun j => a i j * (v j * v j)) - 2 * sgm n (fun j => u i * (a i j * v j))) := sgm_congr fun i hi => by
      rw [← sgm_add, ← sgm_mul, ← sgm_sub]
      exact sgm_congr fun j _ => dx i j
    rw [this, sgm_sub, sgm_add, sgm_mul, s1, s2]
    omega
  intro i j hi hj h0
  have h5 := sgm_null (fun i hi => sgm_nonneg fun j hj => d0 i j hi hj) D i hi
  have h6 := sgm_null (fun j hj => d0 i j hi hj) h5 j hj
  rcases Int.mul_eq_zero.1 h6 with h7 | h7
  · exact (h0 h7).elim
  · have h8 := Int.mul_eq_zero.1 h7
    omega
end
/-- One if, and else nothing. -/
def ind (b : Bool) : Int := if b then 1 else 0
theorem sgm_count (p : Nat → Bool) : ∀ n : Nat, sgm n (fun k => ind (p k)) = ((List.range n).countP p : Nat)
  | 0 => rfl
  | n + 1 => by
    rw [sgm, sgm_count p n, List.range_succ, List.countP_append, List.countP_singleton, ind]
    split <;> simp_all
theorem ind_mul (a b : Bool) : ind a * ind b = ind (a && b) := by cases a <;> cases b <;> rfl
/-- How often a colour is among the neighbours. -/
theorem nd_count {n : Nat} {g : List Nat} (hg : Tow 6 g) (hn : g.length = n) (c : Nat → Nat) (q : Nat) {x : Nat} (hx : x < n) :
    (((ndN (g.getD x 0)).map c).count q : Int) = sgm n (fun k => ind (nbN g x k) * ind (c k == q)) := by
  have h6 := hg.le
  have h1 : (List.range n).filter (g.getD x 0).testBit = ndN (g.getD x 0) := nd_filter (by omega) (hn ▸ hg.get x)
  have : sgm n (fun k => ind (nbN g x k) * ind (c k == q)) = sgm n (fun k => ind (nbN g x k && (c k == q))) := sgm_congr fun k _ => ind_mul _ _
  rw [this, sgm_count, ← h1, List.count_eq_countP, List.countP_map, List.countP_filter]
  congr 2
  funext k
  simp [Function.comp, nbN, Bool.and_comm]
section
variable {g h : List Nat} {a : Nat → Nat → Int} {L : Int}
def BlkC (n : Nat) (a : Nat → Nat → Int) (C : List Nat) : Prop := ∀ i j, i < n → j < n → a i j ≠ 0 → C.getD i 0 = C.getD (n + j) 0
theorem blkC_blk {n : Nat} {C : List Nat} (hb : BlkC n a C) (q : Nat) : Blk n a (fun i => ind (C.getD i 0 == q)) (fun j => ind (C.getD (n + j) 0 == q)) := fun i j hi hj h0 => by
  show ind _ = ind _
  rw [hb i j hi hj h0]
theorem blkC_kd {n : Nat} (hg : Tow 6 g) (hh : Tow 6 h) (hn : g.length = n) (hm : h.length = n) (hw : Wgt n (fun i k => ind (nbN g i k)) (fun i k => ind (nbN h i k)) a L) {C : List Nat} (hb : BlkC n a C) {i j : Nat} (hi : i < n) (hj : j < n) (h0 : a i j ≠ 0) :
    kdN (besN g h) C i = kdN (besN g h) C (n + j) := by
  have hc := hb i j hi hj h0
  have h6 := hg.le
  have e1 : (besN g h).getD i 0 = g.getD i 0 := bes_left (by omega)
  have e2 : (besN g h).getD (n + j) 0 = h.getD j 0 <<< n := by
    have := bes_right (g := g) (h := h) (y := j) (by omega)
    rw [hn] at this
    exact this
  have h64 : 2 ^ h.length ≤ 2 ^ 6 := Nat.pow_le_pow_right (by decide) hh.le
  have e3 : ndN (h.getD j 0 <<< n) = (ndN (h.getD j 0)).map (n + ·) := nd_shift (by omega) (Nat.lt_of_lt_of_le (hh.get j) h64)
  rw [kdN, kdN, hc, e1, e2, e3]
  congr 1
  apply srt_perm
  rw [List.perm_iff_count]
  intro q
  have a1 := nd_count hg hn (fun u => C.getD u 0) q hi
  have a2 := nd_count hh hm (fun u => C.getD (n + u) 0) q hj
  have := blk_next hw (blkC_blk hb q) i j hi hj h0
  dsimp only at this
  rw [List.map_map]
  have e5 : ((fun u => C.getD u 0) ∘ fun x => n + x) = fun u => C.getD (n + u) 0 := rfl
  rw [e5]
  omega
theorem blkC_W {n : Nat} (hg : Tow 6 g) (hh : Tow 6 h) (hn : g.length = n) (hm : h.length = n) (hw : Wgt n (fun i k => ind (nbN g i k)) (fun i k => ind (nbN h i k)) a L) : ∀ {C : List Nat} {r : Nat}, Full (besN g h).length C → BlkC n a C → BlkC n a (colW (besN g h) C r).1 := by
  intro C
  generalize hk : (besN g h).length - mostN C = k
  induction k using Nat.strongRecOn generalizing C with
  | _ k ih =>
    intro r hf hb
    by_cases hq : mostN (refN (besN g h) C) = mostN C
    · rw [colW_stop hq]
      exact hb
    · rw [colW_go hf hq]
      have hf' := refN_full (besN g h) C
      have h1 := most_mono hf
      have h2 := full_le hf'
      refine ih _ (by omega) rfl hf' fun i j hi hj h0 => ?_
      have hl := bes_len g h
      rw [refN_get (by omega), refN_get (by omega), blkC_kd hg hh hn hm hw hb hi hj h0]
/-- Where there is a matrix of weights, the towns are alike. -/
theorem like_weights {n : Nat} (hg : Tow 6 g) (hh : Tow 6 h) (hn : g.length = n) (hm : h.length = n) (hw : Wgt n (fun i k => ind (nbN g i k)) (fun i k => ind (nbN h i k)) a L) : likeN g h = true := by
  have hb : BlkC n a (colN (besN g h)).1 := blkC_W hg hh hn hm hw (full_zero _) fun i j hi hj h0 => by rw [rep_get, rep_get]
  refine List.all_eq_true.2 fun q _ => ?_
  rw [beq_iff_eq]
  have hl := sh_len g h
  have h1 := blk_size hw (blkC_blk hb q)
  rw [sgm_count, sgm_count] at h1
  have e1 : (shN g h).1 = (List.range n).map fun x => (colN (besN g h)).1.getD x 0 := by
    rw [← map_getD (shN g h).1 n (by omega)]
    refine List.map_congr_left fun x hx => ?_
    exact sh_left (by have := List.mem_range.1 hx; omega)
  have e2 : (shN g h).2 = (List.range n).map fun x => (colN (besN g h)).1.getD (n + x) 0 := by
    rw [← map_getD (shN g h).2 n (by omega)]
    refine List.map_congr_left fun x hx => ?_
    rw [sh_right, hn]
  rw [e1, e2, List.count_eq_countP, List.count_eq_countP, List.countP_map, List.countP_map]
  have e3 : ∀ c : Nat → Nat, ((fun x => x == q) ∘ c) = fun x => c x == q := fun _ => rfl
  rw [e3, e3]
  omega
end
end Go.Proofs.YtnikonhkbldnnaaGreatDoor
/- LW13: towns side by side; trees that grow. Plain. -/
set_option linter.unusedVariables false
set_option linter.unusedSimpArgs false
namespace Go.Proofs.YtnikonhkbldnnaaGreatDoor
theorem bes_tow {s t : List Nat} (hs : Tow 6 s) (ht : Tow 6 t) (hl : s.length + t.length ≤ 6) : Tow 6 (besN s t) := by
  have hbl := bes_len s t
  have hp := hs.pos
  have hlt1 : ∀ i j, i < s.length → s.length ≤ j → (s.getD i 0).testBit j = false := fun i j hi hj =>
    Nat.testBit_lt_two_pow (Nat.lt_of_lt_of_le (hs.get i) (Nat.pow_le_pow_right (by decide) hj))
  refine ⟨by omega, by omega, fun x hx => ?_, fun i hi => ?_, fun i j hi hj => ?_⟩
  · rw [hbl, Nat.pow_add]
    rcases List.mem_append.1 hx with h1 | h1
    · exact Nat.lt_of_lt_of_le (hs.lt x h1) (Nat.le_mul_of_pos_right _ (Nat.two_pow_pos _))
    · obtain ⟨y, hy, rfl⟩ := List.mem_map.1 h1
      have := ht.lt y hy
      show y <<< s.length < _
      rw [Nat.shiftLeft_eq, Nat.mul_comm]
      exact Nat.mul_lt_mul_of_pos_left this (Nat.two_pow_pos _)
  · rw [hbl] at hi
    rcases Nat.lt_or_ge i s.length with h | h
    · rw [bes_left h]
      exact hs.irr i h
    · obtain ⟨y, rfl⟩ : ∃ y, i = s.length + y := ⟨i - s.length, by omega⟩
      rw [bes_right (by omega), Nat.testBit_shiftLeft]
      simp only [Nat.add_sub_cancel_left]
      rw [ht.irr y (by omega), Bool.and_false]
  · rw [hbl] at hi hj
    rcases Nat.lt_or_ge i s.length with h | h <;> rcases Nat.lt_or_ge j s.length with h' | h'
    · rw [bes_left h, bes_left h']
      exact hs.sym i j h h'
    · obtain ⟨y, rfl⟩ : ∃ y, j = s.length + y := ⟨j - s.length, by omega⟩
      rw [bes_left h, bes_right (by omega), Nat.testBit_shiftLeft, hlt1 i _ h (by omega)]
      have : ¬ s.length ≤ i := by omega
      simp [this]
    · obtain ⟨y, rfl⟩ : ∃ y, i = s.length + y := ⟨i - s.length, by omega⟩
      rw [bes_left h', bes_right (by omega), Nat.testBit_shiftLeft, hlt1 j _ h' (by omega)]
      have : ¬ s.length ≤ j := by omega
      simp [this]
    · obtain ⟨x, rfl⟩ : ∃ y, i = s.length + y := ⟨i - s.length, by omega⟩
      obtain ⟨y, rfl⟩ : ∃ y, j = s.length + y := ⟨j - s.length, by omega⟩
      rw [bes_right (by omega), bes_right (by omega), Nat.testBit_shiftLeft, Nat.testBit_shiftLeft]
      simp only [Nat.add_sub_cancel_left, Nat.le_add_right, decide_true, Bool.true_and]
      exact ht.sym x y (by omega) (by omega)
/-- A tree with a node more. -/
def addN (T : List Nat) (p : Nat) : List Nat := T.set p (T.getD p 0 ||| 2 ^ T.length) ++ [2 ^ p]
theorem add_len (T : List Nat) (p : Nat) : (addN T p).length = T.length + 1 := by simp [addN]
theorem add_old {T : List Nat} {p i : Nat} (hi : i < T.length) : (addN T p).getD i 0 = if i = p then T.getD p 0 ||| 2 ^ T.length else T.getD i 0 := by
  unfold addN
  rw [List.getD_eq_getElem?_getD, List.getElem?_append_left (by simpa using hi), List.getElem?_set]
  by_cases e : p = i
  · subst e
    simp [hi]
  · have e' : ¬ i = p := fun h => e h.symm
    simp [e, e', List.getD_eq_getElem?_getD]
theorem add_new (T : List Nat) (p : Nat) : (addN T p).getD T.length 0 = 2 ^ p := by
  unfold addN
  rw [List.getD_eq_getElem?_getD, List.getElem?_append_right (by simp)]
  simp
theorem add_bit {T : List Nat} {p i j : Nat} (hT : Tow 6 T) (hi : i < T.length) : ((addN T p).getD i 0).testBit j = ((T.getD i 0).testBit j || (decide (i = p) && decide (j = T.length))) := by
  rw [add_old hi]
  split
  · rename_i e
    subst e
    rw [Nat.testBit_or, Nat.testBit_two_pow]
    have : decide (T.length = j) = decide (j = T.length) := by
      rw [decide_eq_decide]; exact eq_comm
    simp [this]
  · rename_i e
    simp [e]
theorem add_tow {T : List Nat} {p : Nat} (hT : Tow 6 T) (hp : p < T.length) (h5 : T.length ≤ 5) : Tow 6 (addN T p) := by
  have hl := add_len T p
  have hlt : ∀ i, (T.getD i 0).testBit T.length = false := fun i => Nat.testBit_lt_two_pow (hT.get i)
  have hge : ∀ i, i < (addN T p).length → (addN T p).getD i 0 < 2 ^ (addN T p).length := fun i hi => by
    rw [hl] at hi ⊢
    rcases Nat.lt_or_ge i T.length with h | h
    · rw [add_old h]
      have h1 : 2 ^ T.length < 2 ^ (T.length + 1) := Nat.pow_lt_pow_right (by decide) (by omega)
      split
      · exact Nat.or_lt_two_pow (Nat.lt_trans (hT.get p) h1) h1
      · exact Nat.lt_trans (hT.get i) h1
    · rw [show i = T.length by omega, add_new]
      exact Nat.pow_lt_pow_right (by decide) (by omega)
  refine ⟨by omega, by omega, fun x hx => ?_, fun i hi => ?_, fun i j hi hj => ?_⟩
  · obtain ⟨i, hi, rfl⟩ := List.mem_iff_getElem.1 hx
    have := hge i hi
    rwa [List.getD_eq_getElem?_getD, List.getElem?_eq_getElem hi] at this
  · rw [hl] at hi
    rcases Nat.lt_or_ge i T.length with h | h
    · rw [add_bit hT h, hT.irr i h]
      have : ¬ i = T.length := by omega
      simp [this]
    · rw [show i = T.length by omega, add_new, Nat.testBit_two_pow]
      simp
      omega
  · rw [hl] at hi hj
    rcases Nat.lt_or_ge i T.length with h | h <;> rcases Nat.lt_or_ge j T.length with h' | h'
    · have e1 : ¬ i = T.length := by omega
      have e2 : ¬ j = T.length := by omega
      rw [add_bit hT h, add_bit hT h', hT.sym i j h h']
      simp [e1, e2]
    · rw [show j = T.length by omega, add_new, add_bit hT h, hlt, Nat.testBit_two_pow]
      have : decide (i = p) = decide (p = i) := by
        rw [decide_eq_decide]; exact eq_comm
      simp [this]
    · rw [show i = T.length by omega, add_new, add_bit hT h', hlt, Nat.testBit_two_pow]
      have : decide (j = p) = decide (p = j) := by
        rw [decide_eq_decide]; exact eq_comm
      simp [this]
    · rw [show i = T.length by omega, show j = T.length by omega]
theorem add_tre {T : List Nat} {p : Nat} {par : Nat → Nat} (hT : Tow 6 T) (hp : p < T.length) (h : Tre T par) : Tre (addN T p) fun k => if k = T.length then p else par k := by
  intro k hk1 hk
  rw [add_len] at hk
  rcases Nat.lt_or_ge k T.length with h5 | h5
  · obtain ⟨h1, h2⟩ := h k hk1 h5
    have e : ¬ k = T.length := by omega
    simp only [if_neg e]
    refine ⟨h1, fun u hu => ?_⟩
    have e2 : ¬ u = T.length := by omega
    rw [← h2 u hu]
    unfold nbN
    rw [add_bit hT h5]
    simp [e2]
  · have e : k = T.length := by omega
    subst e
    simp only [if_true]
    refine ⟨hp, fun u hu => ?_⟩
    unfold nbN
    rw [add_new, Nat.testBit_two_pow, decide_eq_decide]
    exact eq_comm
theorem one_tow : Tow 6 [0] := ⟨by decide, by decide, by simp, by simp, by simp⟩
theorem one_tre : Tre [0] fun _ => 0 := fun k h1 h2 => by simp at h2; omega
end Go.Proofs.YtnikonhkbldnnaaGreatDoor
