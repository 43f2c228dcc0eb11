import Derived.Test.YtnikonhkbldnnaaDoorProg
/- LW1: the game of two players on two graphs. No program in sight. -/
set_option linter.unusedVariables false
set_option linter.unusedSimpArgs false
namespace Go.Proofs.YtnikonhkbldnnaaDoor
/-- Whether two nodes are neighbours. -/
def nbN (t : List Nat) (x y : Nat) : Bool := (t.getD x 0).testBit y
/-- What the choices i and j tell apart: whether they are the same, whether they are neighbours. -/
def badE (a b : List Nat) (i j : Nat) : Bool := (a.getD i 0 == a.getD j 0) != (b.getD i 0 == b.getD j 0)
def badN (t s : List Nat) (a b : List Nat) (i j : Nat) : Bool := nbN t (a.getD i 0) (a.getD j 0) != nbN s (b.getD i 0) (b.getD j 0)
def okN (t s : List Nat) (a b : List Nat) : Bool := (List.range a.length).all fun j => (List.range j).all fun i => !(badE a b i j || badN t s a b i j)
/-- To each choice an answer. -/
def ansN (w : List Nat → List Nat → Bool) (n m : Nat) (a b : List Nat) : Bool := (List.range n).all fun v => (List.range m).any fun u => w (a ++ [v]) (b ++ [u])
/-- Whether the second player can win. -/
def winN : Nat → List Nat → List Nat → List Nat → List Nat → Bool
  | 0, t, s, a, b => okN t s a b
  | k + 1, t, s, a, b => okN t s a b && (ansN (winN k t s) t.length s.length a b && ansN (winN k s t) s.length t.length b a)
/-- A checked graph. -/
structure Tow (n : Nat) (t : List Nat) : Prop where
  pos : 1 ≤ t.length
  le : t.length ≤ n
  lt : ∀ x ∈ t, x < 2 ^ t.length
  irr : ∀ i, i < t.length → (t.getD i 0).testBit i = false
  sym : ∀ i j, i < t.length → j < t.length → (t.getD i 0).testBit j = (t.getD j 0).testBit i
theorem Tow.get {n : Nat} {t : List Nat} (h : Tow n t) (i : Nat) : t.getD i 0 < 2 ^ t.length := by
  rcases Nat.lt_or_ge i t.length with hi | hi
  · rw [List.getD_eq_getElem?_getD, List.getElem?_eq_getElem hi]
    exact h.lt _ (List.getElem_mem hi)
  · rw [List.getD_eq_getElem?_getD, List.getElem?_eq_none hi]
    exact Nat.two_pow_pos _
theorem okN_range {t s a b : List Nat} : okN t s a b = true ↔ ∀ j, j < a.length → ∀ i, i < j → badE a b i j = false ∧ badN t s a b i j = false := by
  unfold okN
  simp only [List.all_eq_true, List.mem_range, Bool.not_eq_true', Bool.or_eq_false_iff]
end Go.Proofs.YtnikonhkbldnnaaDoor
/- LW2: refining colours: kinds, their order, ranks; how often a round raises their number. No program in sight. -/
set_option linter.unusedVariables false
set_option linter.unusedSimpArgs false
namespace Go.Proofs.YtnikonhkbldnnaaDoor
/-- The order of lists. -/
def cmpN : List Nat → List Nat → Int
  | [], [] => 0
  | [], _ :: _ => -1
  | _ :: _, [] => 1
  | x :: l, y :: m => if x < y then -1 else if y < x then 1 else cmpN l m
theorem cmpN_self : ∀ l, cmpN l l = 0
  | [] => rfl
  | x :: l => by simp [cmpN, cmpN_self l]
theorem cmpN_eq : ∀ {l m}, cmpN l m = 0 → l = m
  | [], [], _ => rfl
  | [], _ :: _, h => by simp [cmpN] at h
  | _ :: _, [], h => by simp [cmpN] at h
  | x :: l, y :: m, h => by
    rw [cmpN] at h
    split at h
    · simp at h
    · split at h
      · simp at h
      · rw [cmpN_eq h, show x = y by omega]
theorem cmpN_cases (l m : List Nat) : cmpN l m = -1 ∨ cmpN l m = 0 ∨ cmpN l m = 1 := by
  induction l generalizing m with
  | nil => cases m <;> simp [cmpN]
  | cons x l ih =>
    cases m with
    | nil => simp [cmpN]
    | cons y m =>
      rw [cmpN]
      split
      · simp
      · split
        · simp
        · exact ih m
theorem cmpN_anti (l m : List Nat) : cmpN l m = - cmpN m l := by
  induction l generalizing m with
  | nil => cases m <;> simp [cmpN]
  | cons x l ih =>
    cases m with
    | nil => simp [cmpN]
    | cons y m =>
      rw [cmpN, cmpN]
      repeat' split
      all_goals first | omega | (exact ih m) | rfl
theorem cmpN_trans : ∀ {l m k}, cmpN l m < 0 → cmpN m k < 0 → cmpN l k < 0
  | [], [], k, h, _ => by simp [cmpN] at h
  | [], _ :: _, [], _, h => by simp [cmpN] at h
  | [], _ :: _, _ :: _, _, _ => by simp [cmpN]
  | _ :: _, [], _, h, _ => by simp [cmpN] at h
  | _ :: _, _ :: _, [], _, h => by simp [cmpN] at h
  | x :: l, y :: m, z :: k, h1, h2 => by
    rw [cmpN] at *
    split at h1
    · split at h2
      · rw [if_pos (by omega)]; decide
      · split at h2
        · omega
        · rw [if_pos (by omega)]; decide
    · split at h1
      · omega
      · split at h2
        · rw [if_pos (by omega)]; decide
        · split at h2
          · omega
          · rw [if_neg (by omega), if_neg (by omega)]
            exact cmpN_trans h1 h2
/-- Strictly rising. -/
def Ris (S : List (List Nat)) : Prop := S.Pairwise fun a b => cmpN a b < 0
theorem ris_unique : ∀ {S T : List (List Nat)}, Ris S → Ris T → (∀ x, x ∈ S ↔ x ∈ T) → S = T
  | [], [], _, _, _ => rfl
  | [], y :: T, _, _, h => by have := (h y).2 (by simp); simp at this
  | x :: S, [], _, _, h => by have := (h x).1 (by simp); simp at this
  | x :: S, y :: T, hS, hT, h => by
    have h1 := List.pairwise_cons.1 hS
    have h2 := List.pairwise_cons.1 hT
    have e : x = y := by
      have a1 := (h x).1 (by simp)
      have a2 := (h y).2 (by simp)
      rcases List.mem_cons.1 a1 with e | e
      · exact e
      · rcases List.mem_cons.1 a2 with e' | e'
        · exact e'.symm
        · have b1 := h2.1 x e
          have b2 := h1.1 y e'
          rw [cmpN_anti] at b1
          omega
    subst e
    have : S = T := ris_unique h1.2 h2.2 fun z => by
      have hz := h z
      simp only [List.mem_cons] at hz
      constructor
      · intro hm
        rcases hz.1 (.inr hm) with e | e
        · subst e
          have := h1.1 z hm
          rw [cmpN_self] at this
          omega
        · exact e
      · intro hm
        rcases hz.2 (.inr hm) with e | e
        · subst e
          have := h2.1 z hm
          rw [cmpN_self] at this
          omega
        · exact e
    rw [this]
/-- Where a list stands among others. -/
def insK (S : List (List Nat)) (p : List Nat) : List (List Nat) :=
  let at_ := S.countP fun q => decide (cmpN q p < 0)
  if S.contains p then S else S.take at_ ++ p :: S.drop at_
theorem ris_count {p : List Nat} : ∀ {S : List (List Nat)}, Ris S → ∀ i (h : i < S.length), (i < S.countP (fun q => decide (cmpN q p < 0)) ↔ cmpN S[i] p < 0)
  | [], _, i, h => by simp at h
  | x :: S, hS, i, h => by
    have h1 := List.pairwise_cons.1 hS
    by_cases e : cmpN x p < 0
    · rw [List.countP_cons_of_pos (by simpa using e)]
      cases i with
      | zero => simp [e]
      | succ i =>
        have := ris_count (p := p) h1.2 i (by simpa using h)
        simp only [List.getElem_cons_succ]
        rw [← this]
        omega
    · rw [List.countP_cons_of_neg (by simpa using e)]
      have hz : S.countP (fun q => decide (cmpN q p < 0)) = 0 := by
        rw [List.countP_eq_zero]
        intro q hq
        have := h1.1 q hq
        simp only [decide_eq_true_eq]
        intro h2
        exact e (cmpN_trans this h2)
      rw [hz]
      constructor
      · intro h; omega
      · intro h2
        exfalso
        cases i with
        | zero => exact e h2
        | succ i =>
          have := h1.1 _ (List.getElem_mem (l := S) (n := i) (by simpa using h))
          exact e (cmpN_trans this h2)
theorem insK_mem {S : List (List Nat)} {p x : List Nat} : x ∈ insK S p ↔ x = p ∨ x ∈ S := by
  unfold insK
  simp only
  split
  · rename_i h
    constructor
    · exact .inr
    · rintro (rfl | h')
      · simpa using h
      · exact h'
  · rw [List.mem_append, List.mem_cons]
    conv => rhs; rw [← List.take_append_drop (S.countP fun q => decide (cmpN q p < 0)) S, List.mem_append]
    constructor
    · rintro (h | h | h)
      · exact .inr (.inl h)
      · exact .inl h
      · exact .inr (.inr h)
    · rintro (h | h | h)
      · exact .inr (.inl h)
      · exact .inl h
      · exact .inr (.inr h)
theorem insK_ris {S : List (List Nat)} {p : List Nat} (hS : Ris S) : Ris (insK S p) := by
  unfold insK
  simp only
  split
  · exact hS
  · rename_i hp
    have hp : p ∉ S := by simpa using hp
    have hc := fun i h => ris_count (p := p) hS i h
    generalize S.countP (fun q => decide (cmpN q p < 0)) = a at *
    have hl : ∀ x ∈ S.take a, cmpN x p < 0 := by
      intro x hx
      obtain ⟨i, hi, rfl⟩ := List.mem_iff_getElem.1 hx
      simp only [List.length_take] at hi
      rw [List.getElem_take]
      exact (hc i (by omega)).1 (by omega)
    have hr : ∀ x ∈ S.drop a, cmpN p x < 0 := by
      intro x hx
      obtain ⟨i, hi, rfl⟩ := List.mem_iff_getElem.1 hx
      simp only [List.length_drop] at hi
      rw [List.getElem_drop]
      have h1 : ¬ cmpN S[a + i] p < 0 := fun e => absurd ((hc (a + i) (by omega)).2 e) (by omega)
      rw [cmpN_anti]
      rcases cmpN_cases S[a + i] p with h | h | h
      · rw [h] at h1; simp at h1
      · exact absurd (List.getElem_mem (by omega)) (cmpN_eq h ▸ hp)
      · rw [h]; decide
    refine List.pairwise_append.2 ⟨hS.sublist (List.take_sublist _ _), List.pairwise_cons.2 ⟨hr, hS.sublist (List.drop_sublist _ _)⟩, ?_⟩
    intro x hx y hy
    rcases List.mem_cons.1 hy with rfl | hy
    · exact hl x hx
    · exact cmpN_trans (hl x hx) (hr y hy)
/-- The different ones of some lists, in order. -/
def kindsL (L : List (List Nat)) : List (List Nat) := L.foldl insK []
theorem kinds_go (L : List (List Nat)) : ∀ S, Ris S → Ris (L.foldl insK S) ∧ ∀ x, x ∈ L.foldl insK S ↔ x ∈ S ∨ x ∈ L := by
  induction L with
  | nil => intro S hS; exact ⟨hS, fun x => by simp⟩
  | cons p L ih =>
    intro S hS
    obtain ⟨h1, h2⟩ := ih (insK S p) (insK_ris hS)
    refine ⟨h1, fun x => ?_⟩
    rw [List.foldl_cons, h2 x, insK_mem, List.mem_cons]
    constructor
    · rintro ((h | h) | h)
      · exact .inr (.inl h)
      · exact .inl h
      · exact .inr (.inr h)
    · rintro (h | h | h)
      · exact .inl (.inr h)
      · exact .inl (.inl h)
      · exact .inr h
theorem kinds_ris (L : List (List Nat)) : Ris (kindsL L) := (kinds_go L [] List.Pairwise.nil).1
theorem kinds_mem (L : List (List Nat)) (x : List Nat) : x ∈ kindsL L ↔ x ∈ L := by
  have := (kinds_go L [] List.Pairwise.nil).2 x
  simpa [kindsL] using this
/-- The rank of a list among some. -/
def rkL (S : List (List Nat)) (p : List Nat) : Nat := S.countP fun q => decide (cmpN q p < 0)
theorem rk_at {S : List (List Nat)} (hS : Ris S) (i : Nat) (h : i < S.length) : rkL S S[i] = i := by
  have hc := fun j hj => ris_count (p := S[i]) hS j hj
  have hle : S.countP (fun q => decide (cmpN q S[i] < 0)) ≤ S.length := List.countP_le_length
  unfold rkL
  generalize S.countP (fun q => decide (cmpN q S[i] < 0)) = a at *
  have h1 : ¬ i < a := fun e => absurd ((hc i h).1 e) (by rw [cmpN_self]; decide)
  rcases Nat.lt_or_ge a i with h2 | h2
  · have h3 : ¬ cmpN S[a] S[i] < 0 := fun e => absurd ((hc a (by omega)).2 e) (by omega)
    have h4 := List.pairwise_iff_getElem.1 hS a i (by omega) h h2
    exact absurd h4 h3
  · omega
theorem rk_get {S : List (List Nat)} (hS : Ris S) {p : List Nat} (h : p ∈ S) : ∃ hl : rkL S p < S.length, S[rkL S p] = p := by
  obtain ⟨i, hi, rfl⟩ := List.mem_iff_getElem.1 h
  have := rk_at hS i hi
  exact ⟨by omega, by simp [this]⟩
/-- Numbers, rising. -/
def insN (x : Nat) : List Nat → List Nat
  | [] => [x]
  | y :: l => if x < y then x :: y :: l else y :: insN x l
def srtN (l : List Nat) : List Nat := l.foldl (fun s x => insN x s) []
theorem insN_perm (x : Nat) : ∀ l, (insN x l).Perm (x :: l)
  | [] => .refl _
  | y :: l => by
    rw [insN]
    split
    · exact .refl _
    · exact ((insN_perm x l).cons y).trans (.swap x y l)
theorem insN_sorted (x : Nat) : ∀ l : List Nat, l.Pairwise (· ≤ ·) → (insN x l).Pairwise (· ≤ ·)
  | [], _ => by simp [insN]
  | y :: l, h => by
    have h1 := List.pairwise_cons.1 h
    rw [insN]
    split
    · refine List.pairwise_cons.2 ⟨fun z hz => ?_, h⟩
      rcases List.mem_cons.1 hz with rfl | hz
      · omega
      · have := h1.1 z hz; omega
    · refine List.pairwise_cons.2 ⟨fun z hz => ?_, insN_sorted x l h1.2⟩
      rcases List.mem_cons.1 ((insN_perm x l).mem_iff.1 hz) with rfl | hz
      · omega
      · exact h1.1 z hz
theorem srtN_go (l : List Nat) : ∀ s : List Nat, s.Pairwise (· ≤ ·) → (l.foldl (fun s x => insN x s) s).Pairwise (· ≤ ·) ∧ (l.foldl (fun s x => insN x s) s).Perm (s ++ l) := by
  induction l with
  | nil => intro s hs; simpa using hs
  | cons x l ih =>
    intro s hs
    obtain ⟨h1, h2⟩ := ih (insN x s) (insN_sorted x s hs)
    refine ⟨h1, h2.trans ?_⟩
    refine ((insN_perm x s).append_right l).trans ?_
    exact List.perm_middle.symm
theorem srtN_sorted (l : List Nat) : (srtN l).Pairwise (· ≤ ·) := (srtN_go l [] List.Pairwise.nil).1
theorem srtN_perm (l : List Nat) : (srtN l).Perm l := by simpa [srtN] using (srtN_go l [] List.Pairwise.nil).2
theorem srt_unique : ∀ {S T : List Nat}, S.Pairwise (· ≤ ·) → T.Pairwise (· ≤ ·) → S.Perm T → S = T
  | [], T, _, _, h => by rw [List.nil_perm.1 h]
  | x :: S, [], _, _, h => by have := h.length_eq; simp at this
  | x :: S, y :: T, hS, hT, h => by
    have h1 := List.pairwise_cons.1 hS
    have h2 := List.pairwise_cons.1 hT
    have e : x = y := by
      have a1 : x ∈ y :: T := h.mem_iff.1 (by simp)
      have a2 : y ∈ x :: S := h.mem_iff.2 (by simp)
      rcases List.mem_cons.1 a1 with e | e
      · exact e
      · rcases List.mem_cons.1 a2 with e' | e'
        · exact e'.symm
        · have b1 := h2.1 x e
          have b2 := h1.1 y e'
          omega
    subst e
    rw [srt_unique h1.2 h2.2 ((List.perm_cons x).1 h)]
theorem srtN_of {S l : List Nat} (hS : S.Pairwise (· ≤ ·)) (h : S.Perm l) : S = srtN l := srt_unique hS (srtN_sorted l) (h.trans (srtN_perm l).symm)
/-- The nodes of a set. -/
def ndN (s : Nat) : List Nat := (List.range 12).filter s.testBit
/-- A node's kind. -/
def kdN (t c : List Nat) (v : Nat) : List Nat := c.getD v 0 :: srtN ((ndN (t.getD v 0)).map fun u => c.getD u 0)
def kdsN (t c : List Nat) : List (List Nat) := (List.range t.length).map (kdN t c)
/-- The colours of the next round. -/
def refN (t c : List Nat) : List Nat := (kdsN t c).map (rkL (kindsL (kdsN t c)))
/-- One more than the greatest colour. -/
def mostN (l : List Nat) : Nat := l.foldl (fun n c => max n (c + 1)) 0
theorem most_go (l : List Nat) : ∀ n, (∀ c ∈ l, c < l.foldl (fun n c => max n (c + 1)) n) ∧ n ≤ l.foldl (fun n c => max n (c + 1)) n ∧ ∀ m, n ≤ m → (∀ c ∈ l, c < m) → l.foldl (fun n c => max n (c + 1)) n ≤ m := by
  induction l with
  | nil => intro n; exact ⟨by simp, Nat.le_refl _, fun m h _ => h⟩
  | cons x l ih =>
    intro n
    obtain ⟨h1, h2, h3⟩ := ih (max n (x + 1))
    refine ⟨fun c hc => ?_, ?_, fun m hm hc => ?_⟩
    · rcases List.mem_cons.1 hc with rfl | hc
      · rw [List.foldl_cons]; omega
      · exact h1 c hc
    · rw [List.foldl_cons]; omega
    · rw [List.foldl_cons]
      refine h3 m ?_ fun c hc' => hc c (by simp [hc'])
      have := hc x (by simp)
      omega
theorem most_lt {l : List Nat} {c : Nat} (h : c ∈ l) : c < mostN l := (most_go l 0).1 c h
theorem most_le {l : List Nat} {m : Nat} (h : ∀ c ∈ l, c < m) : mostN l ≤ m := (most_go l 0).2.2 m (Nat.zero_le _) h
/-- All colours below the greatest are there. -/
def Full (n : Nat) (c : List Nat) : Prop := c.length = n ∧ ∀ i, i < mostN c → i ∈ c
theorem full_zero (n : Nat) : Full n (List.replicate n 0) := by
  refine ⟨by simp, fun i hi => ?_⟩
  have h1 : mostN (List.replicate n 0) ≤ 1 := most_le fun c hc => by rw [(List.mem_replicate.1 hc).2]; decide
  have : n ≠ 0 := by
    rintro rfl
    simp [mostN] at hi
  simp only [List.mem_replicate]
  omega
theorem refN_most (t c : List Nat) : mostN (refN t c) = (kindsL (kdsN t c)).length := by
  apply Nat.le_antisymm
  · refine most_le fun x hx => ?_
    obtain ⟨p, hp, rfl⟩ := List.mem_map.1 hx
    exact (rk_get (kinds_ris _) ((kinds_mem _ _).2 hp)).1
  · rcases Nat.eq_zero_or_pos (kindsL (kdsN t c)).length with h | h
    · omega
    · have hm := (kinds_mem (kdsN t c) _).1 (List.getElem_mem (l := kindsL (kdsN t c)) (n := (kindsL (kdsN t c)).length - 1) (by omega))
      have := most_lt (l := refN t c) (List.mem_map.2 ⟨_, hm, rfl⟩)
      rw [rk_at (kinds_ris _) _ (by omega)] at this
      omega
theorem refN_full (t c : List Nat) : Full t.length (refN t c) := by
  refine ⟨by simp [refN, kdsN], fun i hi => ?_⟩
  rw [refN_most] at hi
  have hm := (kinds_mem (kdsN t c) _).1 (List.getElem_mem (l := kindsL (kdsN t c)) (n := i) hi)
  exact List.mem_map.2 ⟨_, hm, rk_at (kinds_ris _) i hi⟩
theorem pigeon : ∀ (m : Nat) (l : List Nat), (∀ i, i < m → i ∈ l) → m ≤ l.length
  | 0, l, _ => Nat.zero_le _
  | m + 1, l, h => by
    have h1 := h m (by omega)
    have := pigeon m (l.erase m) fun i hi => (List.mem_erase_of_ne (by omega)).2 (h i (by omega))
    rw [List.length_erase_of_mem h1] at this
    have := List.length_pos_of_mem h1
    omega
theorem full_le {n : Nat} {c : List Nat} (h : Full n c) : mostN c ≤ n := by
  have := pigeon (mostN c) c h.2
  rw [h.1] at this
  exact this
/-- A round does not make colours fewer. -/
theorem most_mono {t c : List Nat} (h : Full t.length c) : mostN c ≤ mostN (refN t c) := by
  rw [refN_most]
  have := pigeon (mostN c) ((kindsL (kdsN t c)).map fun p => p.headD 0) fun i hi => by
    obtain ⟨v, hv, rfl⟩ := List.mem_iff_getElem.1 (h.2 i hi)
    have hm : kdN t c v ∈ kindsL (kdsN t c) := (kinds_mem _ _).2 (List.mem_map.2 ⟨v, List.mem_range.2 (by rw [← h.1]; exact hv), rfl⟩)
    refine List.mem_map.2 ⟨_, hm, ?_⟩
    simp [kdN, List.getD_eq_getElem?_getD, hv]
  simpa using this
/-- The colours in the end, and the rounds. -/
def colW (t c : List Nat) (r : Nat) : List Nat × Nat :=
  if h : mostN c < mostN (refN t c) ∧ mostN (refN t c) ≤ t.length then colW t (refN t c) (r + 1) else (c, r)
termination_by t.length - mostN c
decreasing_by omega
def colN (t : List Nat) : List Nat × Nat := colW t (List.replicate t.length 0) 0
theorem colW_stop {t c : List Nat} {r : Nat} (h : mostN (refN t c) = mostN c) : colW t c r = (c, r) := by
  rw [colW, dif_neg (by omega)]
theorem colW_go {t c : List Nat} {r : Nat} (hf : Full t.length c) (h : mostN (refN t c) ≠ mostN c) : colW t c r = colW t (refN t c) (r + 1) := by
  rw [colW, dif_pos ⟨by have := most_mono hf; omega, full_le (refN_full t c)⟩]
theorem colW_full {t : List Nat} : ∀ {c : List Nat} {r : Nat}, Full t.length c → Full t.length (colW t c r).1
  | c, r, hf => by
    by_cases h : mostN (refN t c) = mostN c
    · rw [colW_stop h]; exact hf
    · rw [colW_go hf h]
      exact colW_full (refN_full t c)
termination_by c => t.length - mostN c
decreasing_by
  have h1 := most_mono hf
  have h2 := full_le (refN_full t c)
  omega
theorem colN_full (t : List Nat) : Full t.length (colN t).1 := colW_full (full_zero _)
end Go.Proofs.YtnikonhkbldnnaaDoor
/- LW3: counting maps; trees into graphs that are alike; unions. No program in sight. -/
set_option linter.unusedVariables false
set_option linter.unusedSimpArgs false
namespace Go.Proofs.YtnikonhkbldnnaaDoor
/-- Two graphs as one. -/
def besN (t h : List Nat) : List Nat := t ++ h.map (· <<< t.length)
/-- How often a colour is in a list. -/
def shN (t h : List Nat) : List Nat × List Nat := ((colN (besN t h)).1.take t.length, (colN (besN t h)).1.drop t.length)
def likeN (t h : List Nat) : Bool := (List.range (mostN (colN (besN t h)).1)).all fun i => (shN t h).1.count i == (shN t h).2.count i
theorem sum_perm {a b : List Nat} (h : a.Perm b) : a.sum = b.sum := h.sum_nat
theorem nd_filter {n s : Nat} (hn : n ≤ 12) (hs : s < 2 ^ n) : (List.range n).filter s.testBit = ndN s := by
  unfold ndN
  have h12 : List.range 12 = List.range n ++ (List.range (12 - n)).map (n + ·) := by
    rw [← List.range_add]
    congr 1
    omega
  rw [h12, List.filter_append]
  have : ((List.range (12 - n)).map (n + ·)).filter s.testBit = [] := by
    rw [List.filter_eq_nil_iff]
    intro x hx
    obtain ⟨y, _, rfl⟩ := List.mem_map.1 hx
    rw [Nat.testBit_lt_two_pow (Nat.lt_of_lt_of_le hs (Nat.pow_le_pow_right (by decide) (by omega)))]
    simp
  rw [this, List.append_nil]
/-- Sums over nodes whose values only their colours tell. -/
theorem sum_col {F G : Nat → Nat} {c d : List Nat} {n m : Nat} (ih : ∀ x y, x < n → y < m → c.getD x 0 = d.getD y 0 → F x = G y) (A B : List Nat) (mA : ∀ x ∈ A, x < n) (mB : ∀ y ∈ B, y < m)
    (hP : (A.map fun u => c.getD u 0).Perm (B.map fun u => d.getD u 0)) : (A.map F).sum = (B.map G).sum := by
  let V : Nat → Nat := fun k => match (List.range m).find? fun y => d.getD y 0 == k with
    | some y => G y
    | none => 0
  have v2 : ∀ x y, x < n → y < m → c.getD x 0 = d.getD y 0 → V (d.getD y 0) = F x := fun x y hx hy hxy => by
    show (match (List.range m).find? fun z => d.getD z 0 == d.getD y 0 with
      | some z => G z
      | none => 0) = _
    cases hfd : (List.range m).find? fun z => d.getD z 0 == d.getD y 0 with
    | none =>
      have := List.find?_eq_none.1 hfd y (List.mem_range.2 hy)
      simp at this
    | some z =>
      have hz1 := List.find?_some hfd
      have hz2 := List.mem_range.1 (List.mem_of_find?_eq_some hfd)
      have hz3 : d.getD z 0 = d.getD y 0 := by simpa using hz1
      exact (ih x z hx hz2 (by omega)).symm
  have hA : A.map F = (A.map fun u => c.getD u 0).map V := by
    rw [List.map_map]
    refine List.map_congr_left fun x hx => ?_
    have hm : c.getD x 0 ∈ B.map fun u => d.getD u 0 := hP.mem_iff.1 (List.mem_map.2 ⟨x, hx, rfl⟩)
    obtain ⟨y, hy, hxy⟩ := List.mem_map.1 hm
    show _ = V (c.getD x 0)
    rw [← hxy, v2 x y (mA x hx) (mB y hy) hxy.symm]
  have hB : B.map G = (B.map fun u => d.getD u 0).map V := by
    rw [List.map_map]
    refine List.map_congr_left fun y hy => ?_
    have hm : d.getD y 0 ∈ A.map fun u => c.getD u 0 := hP.mem_iff.2 (List.mem_map.2 ⟨y, hy, rfl⟩)
    obtain ⟨x, hx, hxy⟩ := List.mem_map.1 hm
    show _ = V (d.getD y 0)
    rw [v2 x y (mA x hx) (mB y hy) hxy]
    exact (ih x y (mA x hx) (mB y hy) hxy).symm
  rw [hA, hB]
  exact sum_perm (hP.map V)
theorem bes_len (g h : List Nat) : (besN g h).length = g.length + h.length := by simp [besN]
theorem bes_left {g h : List Nat} {x : Nat} (hx : x < g.length) : (besN g h).getD x 0 = g.getD x 0 := by simp [besN, List.getD_eq_getElem?_getD, List.getElem?_append_left hx]
theorem bes_right {g h : List Nat} {y : Nat} (hy : y < h.length) : (besN g h).getD (g.length + y) 0 = h.getD y 0 <<< g.length := by
  simp [besN, List.getD_eq_getElem?_getD, List.getElem?_append_right, hy]
theorem nd_shift {s n : Nat} (hn : n ≤ 6) (hs : s < 2 ^ 6) : ndN (s <<< n) = (ndN s).map (n + ·) := by
  have h12 : ndN s = (List.range 6).filter s.testBit := (nd_filter (n := 6) (by decide) hs).symm
  rw [h12]
  have hr : List.range 12 = List.range n ++ ((List.range 6).map (n + ·) ++ (List.range (6 - n)).map (n + 6 + ·)) := by
    have e1 : (List.range (6 - n)).map (n + 6 + ·) = ((List.range (6 - n)).map (6 + ·)).map (n + ·) := by
      rw [List.map_map]
      refine List.map_congr_left fun x _ => ?_
      show n + 6 + x = n + (6 + x)
      omega
    rw [e1, ← List.map_append, ← List.range_add, ← List.range_add]
    congr 1
    omega
  unfold ndN
  rw [hr, List.filter_append, List.filter_append]
  have f1 : (List.range n).filter (s <<< n).testBit = [] := by
    rw [List.filter_eq_nil_iff]
    intro x hx
    have := List.mem_range.1 hx
    simp [Nat.testBit_shiftLeft]
    omega
  have f3 : ((List.range (6 - n)).map (n + 6 + ·)).filter (s <<< n).testBit = [] := by
    rw [List.filter_eq_nil_iff]
    intro x hx
    obtain ⟨y, _, rfl⟩ := List.mem_map.1 hx
    rw [Nat.testBit_shiftLeft]
    rw [Nat.testBit_lt_two_pow (Nat.lt_of_lt_of_le hs (Nat.pow_le_pow_right (by decide) (by omega)))]
    simp
  rw [f1, f3, List.nil_append, List.append_nil, List.filter_map]
  congr 1
  refine List.filter_congr fun x _ => ?_
  show (s <<< n).testBit (n + x) = s.testBit x
  rw [Nat.testBit_shiftLeft]
  simp
theorem sh_left {g h : List Nat} {x : Nat} (hx : x < g.length) : (shN g h).1.getD x 0 = (colN (besN g h)).1.getD x 0 := by
  simp [shN, List.getD_eq_getElem?_getD, List.getElem?_take_of_lt hx]
theorem sh_right {g h : List Nat} {y : Nat} : (shN g h).2.getD y 0 = (colN (besN g h)).1.getD (g.length + y) 0 := by
  simp [shN, List.getD_eq_getElem?_getD, List.getElem?_drop]
theorem map_getD (l : List Nat) (n : Nat) (h : l.length = n) : (List.range n).map (fun x => l.getD x 0) = l := by
  apply List.ext_getElem?
  intro i
  by_cases hi : i < n
  · simp [hi, h, List.getD_eq_getElem?_getD]
  · simp [hi, List.getElem?_eq_none (show l.length ≤ i by omega)]
theorem sh_len (g h : List Nat) : (shN g h).1.length = g.length ∧ (shN g h).2.length = h.length := by
  have := (colN_full (besN g h)).1
  rw [bes_len] at this
  simp [shN]
  omega
end Go.Proofs.YtnikonhkbldnnaaDoor
/- LW4: maps from two graphs side by side. No program in sight. -/
set_option linter.unusedVariables false
set_option linter.unusedSimpArgs false
namespace Go.Proofs.YtnikonhkbldnnaaDoor
end Go.Proofs.YtnikonhkbldnnaaDoor
/- LW5: names of nodes; what they leave as it is. No program in sight. -/
set_option linter.unusedVariables false
set_option linter.unusedSimpArgs false
namespace Go.Proofs.YtnikonhkbldnnaaDoor
/-- A naming of all nodes. -/
structure Iso (g h l : List Nat) : Prop where
  eq : g.length = h.length
  len : l.length = g.length
  lt : ∀ v, v < g.length → l.getD v 0 < h.length
  inj : ∀ u v, u < g.length → v < g.length → l.getD u 0 = l.getD v 0 → u = v
  nb : ∀ u v, u < g.length → v < g.length → nbN g u v = nbN h (l.getD u 0) (l.getD v 0)
theorem nodup_sub : ∀ {l m : List Nat}, l.Nodup → (∀ x ∈ l, x ∈ m) → l.length ≤ m.length
  | [], _, _, _ => Nat.zero_le _
  | x :: l, m, hn, hs => by
    have h1 := List.nodup_cons.1 hn
    have h2 := hs x (by simp)
    have := nodup_sub (l := l) (m := m.erase x) h1.2 fun y hy => (List.mem_erase_of_ne (show y ≠ x by rintro rfl; exact h1.1 hy)).2 (hs y (by simp [hy]))
    rw [List.length_erase_of_mem h2] at this
    have := List.length_pos_of_mem h2
    simp only [List.length_cons]
    omega
theorem nodup_all {n : Nat} {l : List Nat} (hn : l.Nodup) (hl : l.length = n) (h : ∀ x ∈ l, x < n) : ∀ i, i < n → i ∈ l := by
  intro i hi
  apply Classical.byContradiction
  intro hc
  have := nodup_sub (l := i :: l) (m := List.range n) (List.nodup_cons.2 ⟨hc, hn⟩) fun x hx => by
    rcases List.mem_cons.1 hx with rfl | hx
    · exact List.mem_range.2 hi
    · exact List.mem_range.2 (h x hx)
  simp [hl] at this
  omega
theorem Iso.nodup {g h l : List Nat} (hi : Iso g h l) : l.Nodup := by
  rw [List.nodup_iff_pairwise_ne, List.pairwise_iff_getElem]
  intro i j h1 h2 hij e
  have := hi.inj i j (by rw [← hi.len]; exact h1) (by rw [← hi.len]; exact h2) (by simp [List.getD_eq_getElem?_getD, h1, h2, e])
  omega
theorem Iso.onto {g h l : List Nat} (hi : Iso g h l) {y : Nat} (hy : y < h.length) : ∃ v, v < g.length ∧ l.getD v 0 = y := by
  have := nodup_all hi.nodup (n := h.length) (by rw [hi.len, hi.eq]) (fun x hx => by
    obtain ⟨v, hv, rfl⟩ := List.mem_iff_getElem.1 hx
    have := hi.lt v (by rw [← hi.len]; exact hv)
    simpa [List.getD_eq_getElem?_getD, hv] using this) y hy
  obtain ⟨v, hv, hvy⟩ := List.mem_iff_getElem.1 this
  exact ⟨v, by rw [← hi.len]; exact hv, by simp [List.getD_eq_getElem?_getD, hv, hvy]⟩
theorem nodup_range (n : Nat) : (List.range n).Nodup := List.nodup_range
theorem nd_mem {s x : Nat} : x ∈ ndN s ↔ x < 12 ∧ s.testBit x = true := by simp [ndN, List.mem_filter]
theorem nd_nodup (s : Nat) : (ndN s).Nodup := (nodup_range 12).filter _
theorem perm_nodup {l m : List Nat} (hl : l.Nodup) (hm : m.Nodup) (h : ∀ x, x ∈ l ↔ x ∈ m) : l.Perm m := (List.perm_ext_iff_of_nodup hl hm).2 h
theorem nodup_map {l : List Nat} {f : Nat → Nat} (hl : l.Nodup) (h : ∀ x ∈ l, ∀ y ∈ l, f x = f y → x = y) : (l.map f).Nodup := by
  induction l with
  | nil => simp
  | cons x l ih =>
    have h1 := List.nodup_cons.1 hl
    rw [List.map_cons, List.nodup_cons]
    refine ⟨fun hm => ?_, ih h1.2 fun a ha b hb => h a (by simp [ha]) b (by simp [hb])⟩
    obtain ⟨y, hy, e⟩ := List.mem_map.1 hm
    have := h y (by simp [hy]) x (by simp) e
    subst this
    exact h1.1 hy
theorem nd_lt {n : Nat} {t : List Nat} (ht : Tow n t) (hn : n ≤ 12) {x v : Nat} (hx : x ∈ ndN (t.getD v 0)) : x < t.length := by
  have h1 := ht.get v
  rw [← nd_filter (by have := ht.le; omega) h1] at hx
  exact List.mem_range.1 (List.mem_filter.1 hx).1
/-- The neighbours' names are the neighbours of the name. -/
theorem Iso.near {n : Nat} {g h l : List Nat} (hi : Iso g h l) (hg : Tow n g) (hh : Tow n h) (hn : n ≤ 12) {v : Nat} (hv : v < g.length) : ((ndN (g.getD v 0)).map fun u => l.getD u 0).Perm (ndN (h.getD (l.getD v 0) 0)) := by
  refine perm_nodup (nodup_map (nd_nodup _) fun x hx y hy e => hi.inj x y (nd_lt hg hn hx) (nd_lt hg hn hy) e) (nd_nodup _) fun y => ?_
  constructor
  · intro hm
    obtain ⟨u, hu, rfl⟩ := List.mem_map.1 hm
    have hul := nd_lt hg hn hu
    have h1 := hi.nb v u hv hul
    rw [show nbN g v u = true from (nd_mem.1 hu).2] at h1
    exact nd_mem.2 ⟨by have := hi.lt u hul; have := hh.le; omega, h1.symm⟩
  · intro hm
    have hyl := nd_lt hh hn hm
    obtain ⟨u, hu, rfl⟩ := hi.onto hyl
    refine List.mem_map.2 ⟨u, nd_mem.2 ⟨by have := hg.le; omega, ?_⟩, rfl⟩
    have h1 := hi.nb v u hv hu
    rw [show nbN h (l.getD v 0) (l.getD u 0) = true from (nd_mem.1 hm).2] at h1
    exact h1
theorem refN_get {t c : List Nat} {v : Nat} (hv : v < t.length) : (refN t c).getD v 0 = rkL (kindsL (kdsN t c)) (kdN t c v) := by
  simp [refN, kdsN, List.getD_eq_getElem?_getD, hv]
theorem srt_perm {a b : List Nat} (h : a.Perm b) : srtN a = srtN b := srtN_of (srtN_sorted a) ((srtN_perm a).trans h)
/-- Colours of a graph and of a renamed one. -/
def Cols (g l c d : List Nat) : Prop := ∀ v, v < g.length → d.getD (l.getD v 0) 0 = c.getD v 0
theorem Iso.kd {n : Nat} {g h l c d : List Nat} (hi : Iso g h l) (hg : Tow n g) (hh : Tow n h) (hn : n ≤ 12) (hc : Cols g l c d) {v : Nat} (hv : v < g.length) : kdN h d (l.getD v 0) = kdN g c v := by
  unfold kdN
  rw [hc v hv]
  congr 1
  refine srt_perm ?_
  have h1 := ((hi.near hg hh hn hv).map fun u => d.getD u 0).symm
  rw [List.map_map] at h1
  refine h1.trans (List.Perm.of_eq (List.map_congr_left fun u hu => hc u (nd_lt hg hn hu)))
theorem Iso.kinds {n : Nat} {g h l c d : List Nat} (hi : Iso g h l) (hg : Tow n g) (hh : Tow n h) (hn : n ≤ 12) (hc : Cols g l c d) : kindsL (kdsN h d) = kindsL (kdsN g c) := by
  refine ris_unique (kinds_ris _) (kinds_ris _) fun x => ?_
  rw [kinds_mem, kinds_mem]
  unfold kdsN
  simp only [List.mem_map, List.mem_range]
  constructor
  · rintro ⟨y, hy, rfl⟩
    obtain ⟨v, hv, rfl⟩ := hi.onto hy
    exact ⟨v, hv, (hi.kd hg hh hn hc hv).symm⟩
  · rintro ⟨v, hv, rfl⟩
    exact ⟨_, hi.lt v hv, hi.kd hg hh hn hc hv⟩
theorem Iso.ref {n : Nat} {g h l c d : List Nat} (hi : Iso g h l) (hg : Tow n g) (hh : Tow n h) (hn : n ≤ 12) (hc : Cols g l c d) : Cols g l (refN g c) (refN h d) ∧ mostN (refN h d) = mostN (refN g c) := by
  refine ⟨fun v hv => ?_, ?_⟩
  · rw [refN_get hv, refN_get (hi.lt v hv), hi.kd hg hh hn hc hv, hi.kinds hg hh hn hc]
  · rw [refN_most, refN_most, hi.kinds hg hh hn hc]
theorem Iso.colW {n : Nat} {g h l : List Nat} (hi : Iso g h l) (hg : Tow n g) (hh : Tow n h) (hn : n ≤ 12) : ∀ {c d : List Nat} {r : Nat}, Full g.length c → Full h.length d → mostN c = mostN d → Cols g l c d → Cols g l (colW g c r).1 (colW h d r).1 ∧ (colW h d r).2 = (colW g c r).2
  | c, d, r, hf, hf', hm, hc => by
    obtain ⟨h1, h2⟩ := hi.ref hg hh hn hc
    by_cases hq : mostN (refN g c) = mostN c
    · rw [colW_stop hq, colW_stop (by omega)]
      exact ⟨hc, rfl⟩
    · rw [colW_go hf hq, colW_go hf' (by omega)]
      exact hi.colW hg hh hn (refN_full g c) (refN_full h d) h2.symm h1
termination_by c => g.length - mostN c
decreasing_by
  have h1 := most_mono hf
  have h2 := full_le (refN_full g c)
  omega
theorem rep_get (n v : Nat) : (List.replicate n 0).getD v 0 = 0 := by
  rw [List.getD_eq_getElem?_getD]
  cases h : (List.replicate n 0)[v]? with
  | none => rfl
  | some x => exact (List.mem_replicate.1 (List.mem_of_getElem? h)).2
/-- Names change the colours' places alone. -/
theorem Iso.colN {n : Nat} {g h l : List Nat} (hi : Iso g h l) (hg : Tow n g) (hh : Tow n h) (hn : n ≤ 12) : Cols g l (colN g).1 (colN h).1 ∧ (colN h).2 = (colN g).2 :=
  hi.colW hg hh hn (full_zero _) (full_zero _) (by rw [hi.eq]) fun v hv => by rw [rep_get, rep_get]
/-- Colours of two graphs, together: who has the same has as many neighbours of each. -/
def JSt (g h c d : List Nat) : Prop := ∀ x y, x < g.length → y < h.length → c.getD x 0 = d.getD y 0 → ((ndN (g.getD x 0)).map fun u => c.getD u 0).Perm ((ndN (h.getD y 0)).map fun u => d.getD u 0)
theorem perm_col {F G : Nat → Nat} {c d : List Nat} {n m : Nat} (ih : ∀ x y, x < n → y < m → c.getD x 0 = d.getD y 0 → F x = G y) (A B : List Nat) (mA : ∀ x ∈ A, x < n) (mB : ∀ y ∈ B, y < m)
    (hP : (A.map fun u => c.getD u 0).Perm (B.map fun u => d.getD u 0)) : (A.map F).Perm (B.map G) := by
  rw [List.perm_iff_count]
  intro k
  have := sum_col (F := fun x => if F x = k then 1 else 0) (G := fun y => if G y = k then 1 else 0) (fun x y hx hy h => by rw [ih x y hx hy h]) A B mA mB hP
  have e : ∀ (F : Nat → Nat) (A : List Nat), (A.map F).count k = (A.map fun x => if F x = k then 1 else 0).sum := by
    intro F A
    induction A with
    | nil => rfl
    | cons x A ih =>
      rw [List.map_cons, List.map_cons, List.count_cons, ih, List.sum_cons]
      by_cases h : F x = k
      · simp [h]; omega
      · simp [h]
  rw [e, e, this]
def BInv (g h c d C : List Nat) : Prop := ∀ x y, x < g.length → y < h.length → c.getD x 0 = d.getD y 0 → C.getD x 0 = C.getD (g.length + y) 0
theorem kd_bes {g h c d C : List Nat} (hg : Tow 6 g) (hh : Tow 6 h) (hJ : JSt g h c d) (hB : BInv g h c d C) {x y : Nat} (hx : x < g.length) (hy : y < h.length) (hc : c.getD x 0 = d.getD y 0) : kdN (besN g h) C x = kdN (besN g h) C (g.length + y) := by
  unfold kdN
  rw [hB x y hx hy hc, bes_left hx, bes_right hy, nd_shift hg.le (Nat.lt_of_lt_of_le (hh.get y) (Nat.pow_le_pow_right (by decide) hh.le)), List.map_map]
  congr 1
  refine srt_perm ?_
  exact perm_col (c := c) (d := d) (n := g.length) (m := h.length) (fun x y hx hy h => hB x y hx hy h) _ _ (fun u hu => nd_lt hg (by decide) hu) (fun u hu => nd_lt hh (by decide) hu) (hJ x y hx hy hc)
theorem binv_W {g h c d : List Nat} (hg : Tow 6 g) (hh : Tow 6 h) (hJ : JSt g h c d) : ∀ {C : List Nat} {r : Nat}, Full (besN g h).length C → BInv g h c d C → BInv g h c d (Go.Proofs.YtnikonhkbldnnaaDoor.colW (besN g h) C r).1
  | C, r, hf, hB => by
    by_cases hq : mostN (refN (besN g h) C) = mostN C
    · rw [colW_stop hq]
      exact hB
    · rw [colW_go hf hq]
      refine binv_W hg hh hJ (refN_full _ C) fun x y hx hy hc => ?_
      rw [refN_get (by rw [bes_len]; omega), refN_get (by rw [bes_len]; omega), kd_bes hg hh hJ hB hx hy hc]
termination_by C => (besN g h).length - mostN C
decreasing_by
  have h1 := most_mono hf
  have h2 := full_le (refN_full (besN g h) C)
  omega
/-- If there are any such colours, as many of each in both, the graphs are alike. -/
theorem like_of {g h c d : List Nat} (hg : Tow 6 g) (hh : Tow 6 h) (hJ : JSt g h c d) (hP : ((List.range g.length).map fun u => c.getD u 0).Perm ((List.range h.length).map fun u => d.getD u 0)) : likeN g h = true := by
  have hB : BInv g h c d (Go.Proofs.YtnikonhkbldnnaaDoor.colN (besN g h)).1 := binv_W hg hh hJ (full_zero _) fun x y hx hy _ => by rw [rep_get, rep_get]
  have hp : (shN g h).1.Perm (shN g h).2 := by
    rw [← map_getD (shN g h).1 g.length (sh_len g h).1, ← map_getD (shN g h).2 h.length (sh_len g h).2]
    refine perm_col (c := c) (d := d) (n := g.length) (m := h.length) (fun x y hx hy hc => ?_) _ _ (fun x hx => List.mem_range.1 hx) (fun x hx => List.mem_range.1 hx) hP
    rw [sh_left hx, sh_right]
    exact hB x y hx hy hc
  unfold likeN
  rw [List.all_eq_true]
  intro i _
  simp [List.perm_iff_count.1 hp i]
end Go.Proofs.YtnikonhkbldnnaaDoor
/- LW6: complements; the number of turns divides the factorial. No program in sight. -/
set_option linter.unusedVariables false
set_option linter.unusedSimpArgs false
namespace Go.Proofs.YtnikonhkbldnnaaDoor
theorem getD_snoc {b : List Nat} {x n : Nat} (hb : ∀ u, u < b.length → b.getD u 0 < n) (hx : x < n) : ∀ u, u < (b ++ [x]).length → (b ++ [x]).getD u 0 < n := by
  intro u hu
  by_cases e : u < b.length
  · have := hb u e
    simpa [List.getD_eq_getElem?_getD, List.getElem?_append_left e] using this
  · have : u = b.length := by simp at hu; omega
    subst this
    simpa [List.getD_eq_getElem?_getD] using hx
/-- One naming after another. -/
def compL (p a : List Nat) : List Nat := a.map fun i => p.getD i 0
theorem comp_get {p a : List Nat} {i : Nat} (hi : i < a.length) : (compL p a).getD i 0 = p.getD (a.getD i 0) 0 := by simp [compL, List.getD_eq_getElem?_getD, hi]
theorem Iso.comp {g h k a p : List Nat} (ha : Iso g h a) (hp : Iso h k p) : Iso g k (compL p a) := by
  have hc : ∀ v, v < g.length → (compL p a).getD v 0 = p.getD (a.getD v 0) 0 := fun v hv => comp_get (by rw [ha.len]; exact hv)
  refine ⟨ha.eq.trans hp.eq, by simp [compL, ha.len], fun v hv => ?_, fun u v hu hv e => ?_, fun u v hu hv => ?_⟩
  · rw [hc v hv]
    exact hp.lt _ (ha.lt v hv)
  · rw [hc u hu, hc v hv] at e
    exact ha.inj u v hu hv (hp.inj _ _ (ha.lt u hu) (ha.lt v hv) e)
  · rw [hc u hu, hc v hv, ha.nb u v hu hv, hp.nb _ _ (ha.lt u hu) (ha.lt v hv)]
def invL (a : List Nat) : List Nat := (List.range a.length).map fun y => a.idxOf y
theorem idx_get {a : List Nat} {y : Nat} (h : y ∈ a) : a.getD (a.idxOf y) 0 = y := by
  have := List.idxOf_lt_length_of_mem h
  simp [List.getD_eq_getElem?_getD, this]
theorem inv_get {a : List Nat} {y : Nat} (h : y < a.length) : (invL a).getD y 0 = a.idxOf y := by simp [invL, List.getD_eq_getElem?_getD, h]
theorem Iso.mem {g h a : List Nat} (ha : Iso g h a) {y : Nat} (hy : y < h.length) : y ∈ a := by
  obtain ⟨v, hv, rfl⟩ := ha.onto hy
  have : v < a.length := by rw [ha.len]; exact hv
  simp [List.getD_eq_getElem?_getD, this]
theorem Iso.inv {g h a : List Nat} (ha : Iso g h a) : Iso h g (invL a) := by
  have hl : a.length = h.length := ha.len.trans ha.eq
  have hi : ∀ y, y < h.length → (invL a).getD y 0 < g.length ∧ a.getD ((invL a).getD y 0) 0 = y := fun y hy => by
    rw [inv_get (by omega)]
    have := List.idxOf_lt_length_of_mem (ha.mem hy)
    exact ⟨by rw [← ha.len]; exact this, idx_get (ha.mem hy)⟩
  refine ⟨ha.eq.symm, by simp [invL, hl], fun v hv => (hi v hv).1, fun u v hu hv e => ?_, fun u v hu hv => ?_⟩
  · rw [← (hi u hu).2, ← (hi v hv).2, e]
  · rw [ha.nb _ _ (hi u hu).1 (hi v hv).1, (hi u hu).2, (hi v hv).2]
theorem Iso.refl {n : Nat} {g : List Nat} (hg : Tow n g) : Iso g g (List.range g.length) := by
  have h : ∀ v, v < g.length → (List.range g.length).getD v 0 = v := fun v hv => by simp [List.getD_eq_getElem?_getD, hv]
  refine ⟨rfl, by simp, fun v hv => by rw [h v hv]; exact hv, fun u v hu hv e => by rwa [h u hu, h v hv] at e, fun u v hu hv => by rw [h u hu, h v hv]⟩
end Go.Proofs.YtnikonhkbldnnaaDoor
/- LW7: a graph whose nodes are moved on. No program in sight. -/
set_option linter.unusedVariables false
set_option linter.unusedSimpArgs false
namespace Go.Proofs.YtnikonhkbldnnaaDoor
/-- Graphs of the same names are alike, and the game on them is won. -/
theorem iso_like {g h l : List Nat} (hg : Tow 6 g) (hh : Tow 6 h) (hi : Iso g h l) : likeN g h = true := by
  have hd : ∀ y, y < h.length → (List.range h.length).getD y 0 = y := fun y hy => by simp [List.getD_eq_getElem?_getD, hy]
  refine like_of (c := l) (d := List.range h.length) hg hh (fun x y hx hy hc => ?_) ?_
  · rw [hd y hy] at hc
    subst hc
    refine (hi.near hg hh (by decide) hx).trans (List.Perm.of_eq ?_)
    have : (ndN (h.getD (l.getD x 0) 0)).map (fun u => (List.range h.length).getD u 0) = (ndN (h.getD (l.getD x 0) 0)).map id := List.map_congr_left fun u hu => hd u (nd_lt hh (by decide) hu)
    rw [this, List.map_id]
  · rw [map_getD l g.length hi.len]
    have : (List.range h.length).map (fun u => (List.range h.length).getD u 0) = (List.range h.length).map id := List.map_congr_left fun u hu => hd u (List.mem_range.1 hu)
    rw [this, List.map_id]
    refine perm_nodup hi.nodup (nodup_range _) fun y => ?_
    rw [List.mem_range]
    constructor
    · intro hm
      obtain ⟨v, hv, rfl⟩ := List.mem_iff_getElem.1 hm
      have := hi.lt v (by rw [← hi.len]; exact hv)
      simpa [List.getD_eq_getElem?_getD, hv] using this
    · exact hi.mem
end Go.Proofs.YtnikonhkbldnnaaDoor
/- LW8: formulas: when they are true, how deep they are; the game and formulas. No program in sight. -/
set_option linter.unusedVariables false
set_option linter.unusedSimpArgs false
namespace Go.Proofs.YtnikonhkbldnnaaDoor
inductive Fo where
  | eq (i j : Nat)
  | adj (i j : Nat)
  | no (f : Fo)
  | an (f g : Fo)
  | ex (x : Nat) (f : Fo)
  deriving DecidableEq
def upd (e : Nat → Nat) (x v : Nat) : Nat → Nat := fun y => if y = x then v else e y
def holdF (t : List Nat) : (Nat → Nat) → Fo → Bool
  | e, .eq i j => e i == e j
  | e, .adj i j => nbN t (e i) (e j)
  | e, .no f => !holdF t e f
  | e, .an f g => holdF t e f && holdF t e g
  | e, .ex x f => (List.range t.length).any fun v => holdF t (upd e x v) f
def deepE : Fo → Nat
  | .eq _ _ => 0
  | .adj _ _ => 0
  | .no f => deepE f
  | .an f g => max (deepE f) (deepE g)
  | .ex _ f => deepE f + 1
/-- Every variable stands within an E of it, or is one of some. -/
def clo : (Nat → Prop) → Fo → Prop
  | V, .eq i j => V i ∧ V j
  | V, .adj i j => V i ∧ V j
  | V, .no f => clo V f
  | V, .an f g => clo V f ∧ clo V g
  | V, .ex x f => clo (fun y => y = x ∨ V y) f
theorem winN_ok {k : Nat} {t s a b : List Nat} (h : winN k t s a b = true) : okN t s a b = true := by
  cases k with
  | zero => exact h
  | succ k =>
    rw [winN, Bool.and_eq_true] at h
    exact h.1
end Go.Proofs.YtnikonhkbldnnaaDoor
/- LW9: texts of formulas, which tell them; the formula that tells two graphs apart. No program in sight. -/
set_option linter.unusedVariables false
set_option linter.unusedSimpArgs false
namespace Go.Proofs.YtnikonhkbldnnaaDoor
def ltr (x : Nat) : UInt8 := UInt8.ofNat (97 + x)
def prF : Fo → List UInt8
  | .eq i j => [ltr i, 61, ltr j]
  | .adj i j => [ltr i, 126, ltr j]
  | .no f => 33 :: prF f
  | .an f g => 40 :: (prF f ++ 38 :: (prF g ++ [41]))
  | .ex x f => 69 :: ltr x :: 32 :: prF f
/-- All variables are letters. -/
def vokF : Fo → Prop
  | .eq i j => i < 4 ∧ j < 4
  | .adj i j => i < 4 ∧ j < 4
  | .no f => vokF f
  | .an f g => vokF f ∧ vokF g
  | .ex x f => x < 4 ∧ vokF f
theorem ltr_toNat {x : Nat} (h : x < 4) : (ltr x).toNat = 97 + x := by
  unfold ltr
  simp
  omega
theorem ltr_inj {x y : Nat} (hx : x < 4) (hy : y < 4) (h : ltr x = ltr y) : x = y := by
  have := congrArg UInt8.toNat h
  rw [ltr_toNat hx, ltr_toNat hy] at this
  omega
theorem ltr_ne {x : Nat} (hx : x < 4) (c : UInt8) (hc : c.toNat < 97) : ltr x ≠ c := by
  intro h
  have := congrArg UInt8.toNat h
  rw [ltr_toNat hx] at this
  omega
/-- How many nodes, how deep. -/
def szF : Fo → Nat
  | .eq _ _ => 1
  | .adj _ _ => 1
  | .no f => szF f + 1
  | .an f g => szF f + szF g + 1
  | .ex _ f => szF f + 1
def htF : Fo → Nat
  | .eq _ _ => 1
  | .adj _ _ => 1
  | .no f => htF f + 1
  | .an f g => max (htF f) (htF g) + 1
  | .ex _ f => htF f + 1
def unl (c : Bool) (f : Fo) : Fo := if c then f else .no f
/-- What tells two choices apart. -/
def bdF (t s a b : List Nat) (i j : Nat) : Option Fo :=
  if badE a b i j then some (unl (a.getD i 0 == a.getD j 0) (.eq i j)) else if badN t s a b i j then some (unl (nbN t (a.getD i 0) (a.getD j 0)) (.adj i j)) else none
def unF (t s a b : List Nat) : Option Fo := (List.range a.length).findSome? fun j => (List.range j).findSome? fun i => bdF t s a b i j
end Go.Proofs.YtnikonhkbldnnaaDoor
/- LW10: the formula that tells two graphs apart does so. No program in sight. -/
set_option linter.unusedVariables false
set_option linter.unusedSimpArgs false
namespace Go.Proofs.YtnikonhkbldnnaaDoor
def szB : Nat → Nat
  | 0 => 2
  | k + 1 => 6 * (szB k + 1) + 1
structure TellOK (k : Nat) (t s a b : List Nat) (f : Fo) : Prop where
  vok : vokF f
  deep : deepE f ≤ k
  clo : clo (· < a.length) f
  sz : szF f ≤ szB k
  ht : htF f ≤ 2 + 7 * k
  yes : ∀ e : Nat → Nat, (∀ i, i < a.length → e i = a.getD i 0) → holdF t e f = true
  not : ∀ e : Nat → Nat, (∀ i, i < b.length → e i = b.getD i 0) → holdF s e f = false
theorem un_none {t s a b : List Nat} : unF t s a b = none ↔ okN t s a b = true := by
  rw [okN_range]
  unfold unF
  simp only [List.findSome?_eq_none_iff, List.mem_range]
  have h : ∀ i j, bdF t s a b i j = none ↔ badE a b i j = false ∧ badN t s a b i j = false := fun i j => by
    unfold bdF
    cases badE a b i j <;> cases badN t s a b i j <;> simp
  constructor
  · intro H j hj i hi
    exact (h i j).1 (H j hj i hi)
  · intro H j hj i hi
    exact (h i j).2 (H j hj i hi)
theorem snoc_lt {a b : List Nat} {n m v u : Nat} (hl : a.length = b.length) (hab : ∀ i, i < a.length → a.getD i 0 < n ∧ b.getD i 0 < m) (hv : v < n) (hu : u < m) : ∀ i, i < (a ++ [v]).length → (a ++ [v]).getD i 0 < n ∧ (b ++ [u]).getD i 0 < m := by
  intro i hi
  have hA := getD_snoc (fun i hi => (hab i hi).1) hv i hi
  have hB := getD_snoc (b := b) (fun i hi => (hab i (by omega)).2) hu i (by simp at hi ⊢; omega)
  exact ⟨hA, hB⟩
theorem TellOK.swap {k : Nat} {t s a b : List Nat} {f : Fo} (hl : a.length = b.length) (h : TellOK (k + 1) s t b a f) (hs : szF f ≤ 6 * (szB k + 1)) (hh : htF f ≤ 8 + 7 * k) : TellOK (k + 1) t s a b (.no f) :=
  ⟨h.vok, h.deep, by have := h.clo; rw [← hl] at this; exact this, by rw [szF, szB]; omega, by rw [htF]; omega, fun e he => by rw [holdF, h.not e he]; rfl, fun e he => by rw [holdF, h.yes e he]; rfl⟩
end Go.Proofs.YtnikonhkbldnnaaDoor
/- LW11: sorting by insertion, step by step. No program in sight. -/
set_option linter.unusedVariables false
set_option linter.unusedSimpArgs false
namespace Go.Proofs.YtnikonhkbldnnaaDoor
/-- Not behind. -/
def leK (x y : List Nat) : Prop := ¬ cmpN y x < 0
theorem leK_trans {x y z : List Nat} (h1 : leK x y) (h2 : leK y z) : leK x z := by
  unfold leK at *
  intro h
  -- z < x
  rcases cmpN_cases y x with e | e | e
  · rw [e] at h1; exact h1 (by decide)
  · rw [cmpN_eq e] at h2; exact h2 h
  · have hxy : cmpN x y < 0 := by rw [cmpN_anti, e]; decide
    exact h2 (cmpN_trans h hxy)
theorem leK_of_lt {x y : List Nat} (h : cmpN x y < 0) : leK x y := by
  unfold leK
  rw [cmpN_anti]
  omega
def gK (l : List (List Nat)) (i : Nat) : List Nat := l.getD i []
/-- The first are sorted; but the one at j need not be behind those ahead of it. -/
def InsJ (zs : List (List Nat)) (i j : Nat) : Prop := ∀ p q, p < q → q ≤ i → q ≠ j → leK (gK zs p) (gK zs q)
def SrtTo (zs : List (List Nat)) (i : Nat) : Prop := ∀ p q, p < q → q < i → leK (gK zs p) (gK zs q)
def swp (zs : List (List Nat)) (j : Nat) : List (List Nat) := (zs.set j (gK zs (j - 1))).set (j - 1) (gK zs j)
theorem gK_set {l : List (List Nat)} {i : Nat} (hi : i < l.length) (x : List Nat) (p : Nat) : gK (l.set i x) p = if p = i then x else gK l p := by
  unfold gK
  simp only [List.getD_eq_getElem?_getD, List.getElem?_set]
  by_cases h : i = p
  · subst h; simp [hi]
  · rw [if_neg h, if_neg (Ne.symm h)]
theorem gK_swp {zs : List (List Nat)} {j : Nat} (hj : j < zs.length) (h0 : 0 < j) (p : Nat) : gK (swp zs j) p = if p = j - 1 then gK zs j else if p = j then gK zs (j - 1) else gK zs p := by
  unfold swp
  rw [gK_set (by simp; omega), gK_set hj]
theorem swp_len (zs : List (List Nat)) (j : Nat) : (swp zs j).length = zs.length := by simp [swp]
theorem ins_start {zs : List (List Nat)} {i : Nat} (h : SrtTo zs i) : InsJ zs i i := fun p q hpq hq hne => h p q hpq (by omega)
theorem ins_step {zs : List (List Nat)} {i j : Nat} (hi : i < zs.length) (h0 : 0 < j) (hj : j ≤ i) (h : InsJ zs i j) (hlt : cmpN (gK zs j) (gK zs (j - 1)) < 0) : InsJ (swp zs j) i (j - 1) := by
  intro p q hpq hq hne
  rw [gK_swp (by omega) h0, gK_swp (by omega) h0]
  rw [if_neg hne]
  by_cases e1 : q = j
  · subst e1
    rw [if_pos rfl]
    by_cases e2 : p = q - 1
    · rw [if_pos e2]
      exact leK_of_lt hlt
    · rw [if_neg e2, if_neg (by omega)]
      exact h p (q - 1) (by omega) (by omega) (by omega)
  · rw [if_neg e1]
    by_cases e2 : p = j - 1
    · rw [if_pos e2]
      exact h j q (by omega) hq e1
    · rw [if_neg e2]
      by_cases e3 : p = j
      · rw [if_pos e3]
        exact h (j - 1) q (by omega) hq e1
      · rw [if_neg e3]
        exact h p q hpq hq e1
theorem ins_end {zs : List (List Nat)} {i j : Nat} (hj : j ≤ i) (h : InsJ zs i j) (hc : j = 0 ∨ ¬ cmpN (gK zs j) (gK zs (j - 1)) < 0) : SrtTo zs (i + 1) := by
  intro p q hpq hq
  by_cases e : q = j
  · subst e
    rcases hc with hc | hc
    · omega
    · by_cases e2 : p = q - 1
      · subst e2; exact hc
      · exact leK_trans (h p (q - 1) (by omega) (by omega) (by omega)) hc
  · exact h p q hpq (by omega) e
theorem swp_perm {zs : List (List Nat)} {j : Nat} (hj : j < zs.length) (h0 : 0 < j) : (swp zs j).Perm zs := by
  have e : zs = zs.take (j - 1) ++ gK zs (j - 1) :: gK zs j :: zs.drop (j + 1) := by
    have h1 : gK zs (j - 1) = zs[j - 1] := by
      have : j - 1 < zs.length := by omega
      simp [gK, List.getD_eq_getElem?_getD, this]
    have h2 : gK zs j = zs[j] := by simp [gK, List.getD_eq_getElem?_getD, hj]
    rw [h1, h2, ← List.drop_eq_getElem_cons hj]
    have h3 : zs.drop j = zs.drop (j - 1 + 1) := by congr 1; omega
    rw [h3, ← List.drop_eq_getElem_cons (show j - 1 < zs.length by omega), List.take_append_drop]
  have e2 : swp zs j = zs.take (j - 1) ++ gK zs j :: gK zs (j - 1) :: zs.drop (j + 1) := by
    apply List.ext_getElem?
    intro p
    by_cases hp : p < zs.length
    · have h1 : (swp zs j)[p]? = some (gK (swp zs j) p) := by
        have : p < (swp zs j).length := by rw [swp_len]; exact hp
        simp [gK, List.getD_eq_getElem?_getD, this]
      rw [h1, gK_swp hj h0]
      have htl : (zs.take (j - 1)).length = j - 1 := by simp; omega
      by_cases c1 : p < j - 1
      · rw [List.getElem?_append_left (by omega), if_neg (by omega), if_neg (by omega), List.getElem?_take_of_lt c1]
        simp [gK, List.getD_eq_getElem?_getD, hp]
      · rw [List.getElem?_append_right (by omega), htl]
        by_cases c2 : p = j - 1
        · subst c2; simp
        · by_cases c3 : p = j
          · subst c3
            rw [if_neg (by omega), if_pos rfl, show p - (p - 1) = 1 by omega]
            simp
          · rw [if_neg (by omega), if_neg c3, show p - (j - 1) = (p - (j + 1)) + 1 + 1 by omega]
            simp only [List.getElem?_cons_succ, List.getElem?_drop]
            rw [show j + 1 + (p - (j + 1)) = p by omega]
            simp [gK, List.getD_eq_getElem?_getD, hp]
    · rw [List.getElem?_eq_none (by rw [swp_len]; omega), List.getElem?_eq_none (by simp; omega)]
  rw [e2]
  conv => rhs; rw [e]
  exact (List.Perm.swap _ _ _).append_left _
theorem srt_pairwise {zs : List (List Nat)} (h : SrtTo zs zs.length) : zs.Pairwise leK := by
  rw [List.pairwise_iff_getElem]
  intro i j hi hj hij
  have := h i j hij hj
  simpa [gK, List.getD_eq_getElem?_getD, hi, hj] using this
/-- Neighbours that are equal: one of them. -/
def cgoK (p : List Nat) : List (List Nat) → List (List Nat)
  | [] => []
  | y :: l => if y = p then cgoK y l else y :: cgoK y l
def cmpK : List (List Nat) → List (List Nat)
  | [] => []
  | x :: l => x :: cgoK x l
theorem cgoK_ris : ∀ (l : List (List Nat)) (p : List Nat), (p :: l).Pairwise leK → Ris (p :: cgoK p l) ∧ ∀ x, x ∈ p :: cgoK p l ↔ x ∈ p :: l
  | [], p, _ => ⟨by simp [Ris, cgoK], fun x => by simp [cgoK]⟩
  | y :: l, p, h => by
    have h1 := List.pairwise_cons.1 h
    obtain ⟨i1, i2⟩ := cgoK_ris l y h1.2
    rw [cgoK]
    split
    · rename_i e
      subst e
      refine ⟨i1, fun x => ?_⟩
      rw [i2 x]
      simp
    · rename_i hne
      have hlt : ∀ z ∈ y :: cgoK y l, cmpN p z < 0 := fun z hz => by
        have hpy : cmpN p y < 0 := by
          have := h1.1 y (by simp)
          unfold leK at this
          rcases cmpN_cases y p with e | e | e
          · rw [e] at this; exact absurd (by decide) this
          · exact absurd (cmpN_eq e) hne
          · rw [cmpN_anti, e]; decide
        rcases List.mem_cons.1 hz with rfl | hz
        · exact hpy
        · exact cmpN_trans hpy ((List.pairwise_cons.1 i1).1 z hz)
      refine ⟨List.pairwise_cons.2 ⟨hlt, i1⟩, fun x => ?_⟩
      have h3 := i2 x
      rw [List.mem_cons (a := x) (b := p), h3, List.mem_cons (a := x) (b := p)]
/-- A sorted list without repetitions is that of the different ones. -/
theorem cmpK_kinds {L ys : List (List Nat)} (hp : L.Perm ys) (hs : ys.Pairwise leK) : cmpK ys = kindsL L := by
  refine ris_unique ?_ (kinds_ris L) fun x => ?_
  · cases ys with
    | nil => exact List.Pairwise.nil
    | cons y l => exact (cgoK_ris l y hs).1
  · rw [kinds_mem, hp.mem_iff]
    cases ys with
    | nil => simp [cmpK]
    | cons y l => exact (cgoK_ris l y hs).2 x
end Go.Proofs.YtnikonhkbldnnaaDoor
/- LW12: a fraction matrix of two towns: they are alike. Plain. -/
set_option linter.unusedVariables false
set_option linter.unusedSimpArgs false
namespace Go.Proofs.YtnikonhkbldnnaaDoor
/-- A sum. -/
def sgm : Nat → (Nat → Int) → Int
  | 0, _ => 0
  | n + 1, f => sgm n f + f n
/-- What a matrix of weights asks: sums of rows and columns, and that both towns' neighbours weigh the same. -/
structure Wgt (n : Nat) (A B a : Nat → Nat → Int) (L : Int) : Prop where
  pos : 0 < L
  nn : ∀ i j, i < n → j < n → 0 ≤ a i j
  row : ∀ i, i < n → sgm n (fun j => a i j) = L
  col : ∀ j, j < n → sgm n (fun i => a i j) = L
  com : ∀ i j, i < n → j < n → sgm n (fun k => A i k * a k j) = sgm n (fun k => a i k * B k j)
  symA : ∀ i j, i < n → j < n → A i j = A j i
  symB : ∀ i j, i < n → j < n → B i j = B j i
section
variable {n : Nat} {A B a : Nat → Nat → Int} {L : Int}
end
/-- One if, and else nothing. -/
def ind (b : Bool) : Int := if b then 1 else 0
section
variable {g h : List Nat} {a : Nat → Nat → Int} {L : Int}
end
end Go.Proofs.YtnikonhkbldnnaaDoor
/- LW13: towns side by side; trees that grow. Plain. -/
set_option linter.unusedVariables false
set_option linter.unusedSimpArgs false
namespace Go.Proofs.YtnikonhkbldnnaaDoor
end Go.Proofs.YtnikonhkbldnnaaDoor
