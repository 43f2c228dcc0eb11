import Derived.Test.YtfcbmcmkakceaaaDoorLW1
/- LW2: refining colours: kinds, their order, ranks; how often a round raises their number. No program in sight. -/
set_option linter.unusedVariables false
set_option linter.unusedSimpArgs false
namespace Go.Proofs.YtfcbmcmkakceaaaDoor
/-- The order of lists. -/
def cmpN : List Nat → List Nat → Int
  | [], [] => 0
  | [], _ :: _ => -1
  | _ :: _, [] => 1
  | x :: l, y :: m => if x < y then -1 else if y < x then 1 else cmpN l m
theorem cmpN_self : ∀ l, cmpN l l = 0
  | [] => rfl
  | x :: l => by simp [cmpN, cmpN_self l]
theorem cmpN_eq : ∀ {l m}, cmpN l m = 0 → l = m
  | [], [], _ => rfl
  | [], _ :: _, h => by simp [cmpN] at h
  | _ :: _, [], h => by simp [cmpN] at h
  | x :: l, y :: m, h => by
    rw [cmpN] at h
    split at h
    · simp at h
    · split at h
      · simp at h
      · rw [cmpN_eq h, show x = y by omega]
theorem cmpN_cases (l m : List Nat) : cmpN l m = -1 ∨ cmpN l m = 0 ∨ cmpN l m = 1 := by
  induction l generalizing m with
  | nil => cases m <;> simp [cmpN]
  | cons x l ih =>
    cases m with
    | nil => simp [cmpN]
    | cons y m =>
      rw [cmpN]
      split
      · simp
      · split
        · simp
        · exact ih m
theorem cmpN_anti (l m : List Nat) : cmpN l m = - cmpN m l := by
  induction l generalizing m with
  | nil => cases m <;> simp [cmpN]
  | cons x l ih =>
    cases m with
    | nil => simp [cmpN]
    | cons y m =>
      rw [cmpN, cmpN]
      repeat' split
      all_goals first | omega | (exact ih m) | rfl
theorem cmpN_trans : ∀ {l m k}, cmpN l m < 0 → cmpN m k < 0 → cmpN l k < 0
  | [], [], k, h, _ => by simp [cmpN] at h
  | [], _ :: _, [], _, h => by simp [cmpN] at h
  | [], _ :: _, _ :: _, _, _ => by simp [cmpN]
  | _ :: _, [], _, h, _ => by simp [cmpN] at h
  | _ :: _, _ :: _, [], _, h => by simp [cmpN] at h
  | x :: l, y :: m, z :: k, h1, h2 => by
    rw [cmpN] at *
    split at h1
    · split at h2
      · rw [if_pos (by omega)]; decide
      · split at h2
        · omega
        · rw [if_pos (by omega)]; decide
    · split at h1
      · omega
      · split at h2
        · rw [if_pos (by omega)]; decide
        · split at h2
          · omega
          · rw [if_neg (by omega), if_neg (by omega)]
            exact cmpN_trans h1 h2
/-- Strictly rising. -/
def Ris (S : List (List Nat)) : Prop := S.Pairwise fun a b => cmpN a b < 0
theorem ris_unique : ∀ {S T : List (List Nat)}, Ris S → Ris T → (∀ x, x ∈ S ↔ x ∈ T) → S = T
  | [], [], _, _, _ => rfl
  | [], y :: T, _, _, h => by have := (h y).2 (by simp); simp at this
  | x :: S, [], _, _, h => by have := (h x).1 (by simp); simp at this
  | x :: S, y :: T, hS, hT, h => by
    have h1 := List.pairwise_cons.1 hS
    have h2 := List.pairwise_cons.1 hT
    have e : x = y := by
      have a1 := (h x).1 (by simp)
      have a2 := (h y).2 (by simp)
      rcases List.mem_cons.1 a1 with e | e
      · exact e
      · rcases List.mem_cons.1 a2 with e' | e'
        · exact e'.symm
        · have b1 := h2.1 x e
          have b2 := h1.1 y e'
          rw [cmpN_anti] at b1
          omega
    subst e
    have : S = T := ris_unique h1.2 h2.2 fun z => by
      have hz := h z
      simp only [List.mem_cons] at hz
      constructor
      · intro hm
        rcases hz.1 (.inr hm) with e | e
        · subst e
          have := h1.1 z hm
          rw [cmpN_self] at this
          omega
        · exact e
      · intro hm
        rcases hz.2 (.inr hm) with e | e
        · subst e
          have := h2.1 z hm
          rw [cmpN_self] at this
          omega
        · exact e
    rw [this]
/-- Where a list stands among others. -/
def insK (S : List (List Nat)) (p : List Nat) : List (List Nat) :=
  let at_ := S.countP fun q => decide (cmpN q p < 0)
  if S.contains p then S else S.take at_ ++ p :: S.drop at_
theorem ris_count {p : List Nat} : ∀ {S : List (List Nat)}, Ris S → ∀ i (h : i < S.length), (i < S.countP (fun q => decide (cmpN q p < 0)) ↔ cmpN S[i] p < 0)
  | [], _, i, h => by simp at h
  | x :: S, hS, i, h => by
    have h1 := List.pairwise_cons.1 hS
    by_cases e : cmpN x p < 0
    · rw [List.countP_cons_of_pos (by simpa using e)]
      cases i with
      | zero => simp [e]
      | succ i =>
        have := ris_count (p := p) h1.2 i (by simpa using h)
        simp only [List.getElem_cons_succ]
        rw [← this]
        omega
    · rw [List.countP_cons_of_neg (by simpa using e)]
      have hz : S.countP (fun q => decide (cmpN q p < 0)) = 0 := by
        rw [List.countP_eq_zero]
        intro q hq
        have := h1.1 q hq
        simp only [decide_eq_true_eq]
        intro h2
        exact e (cmpN_trans this h2)
      rw [hz]
      constructor
      · intro h; omega
      · intro h2
        exfalso
        cases i with
        | zero => exact e h2
        | succ i =>
          have := h1.1 _ (List.getElem_mem (l := S) (n := i) (by simpa using h))
          exact e (cmpN_trans this h2)
theorem insK_mem {S : List (List Nat)} {p x : List Nat} : x ∈ insK S p ↔ x = p ∨ x ∈ S := by
  unfold insK
  simp only
  split
  · rename_i h
    constructor
    · exact .inr
    · rintro (rfl | h')
      · simpa using h
      · exact h'
  · rw [List.mem_append, List.mem_cons]
    conv => rhs; rw [← List.take_append_drop (S.countP fun q => decide (cmpN q p < 0)) S, List.mem_append]
    constructor
    · rintro (h | h | h)
      · exact .inr (.inl h)
      · exact .inl h
      · exact .inr (.inr h)
    · rintro (h | h | h)
      · exact .inr (.inl h)
      · exact .inl h
      · exact .inr (.inr h)
theorem insK_ris {S : List (List Nat)} {p : List Nat} (hS : Ris S) : Ris (insK S p) := by
  unfold insK
  simp only
  split
  · exact hS
  · rename_i hp
    have hp : p ∉ S := by simpa using hp
    have hc := fun i h => ris_count (p := p) hS i h
    generalize S.countP (fun q => decide (cmpN q p < 0)) = a at *
    have hl : ∀ x ∈ S.take a, cmpN x p < 0 := by
      intro x hx
      obtain ⟨i, hi, rfl⟩ := List.mem_iff_getElem.1 hx
      simp only [List.length_take] at hi
      rw [List.getElem_take]
      exact (hc i (by omega)).1 (by omega)
    have hr : ∀ x ∈ S.drop a, cmpN p x < 0 := by
      intro x hx
      obtain ⟨i, hi, rfl⟩ := List.mem_iff_getElem.1 hx
      simp only [List.length_drop] at hi
      rw [List.getElem_drop]
      have h1 : ¬ cmpN S[a + i] p < 0 := fun e => absurd ((hc (a + i) (by omega)).2 e) (by omega)
      rw [cmpN_anti]
      rcases cmpN_cases S[a + i] p with h | h | h
      · rw [h] at h1; simp at h1
      · exact absurd (List.getElem_mem (by omega)) (cmpN_eq h ▸ hp)
      · rw [h]; decide
    refine List.pairwise_append.2 ⟨hS.sublist (List.take_sublist _ _), List.pairwise_cons.2 ⟨hr, hS.sublist (List.drop_sublist _ _)⟩, ?_⟩
    intro x hx y hy
    rcases List.mem_cons.1 hy with rfl | hy
    · exact hl x hx
    · exact cmpN_trans (hl x hx) (hr y hy)
/-- The different ones of some lists, in order. -/
def kindsL (L : List (List Nat)) : List (List Nat) := L.foldl insK []
theorem kinds_go (L : List (List Nat)) : ∀ S, Ris S → Ris (L.foldl insK S) ∧ ∀ x, x ∈ L.foldl insK S ↔ x ∈ S ∨ x ∈ L := by
  induction L with
  | nil => intro S hS; exact ⟨hS, fun x => by simp⟩
  | cons p L ih =>
    intro S hS
    obtain ⟨h1, h2⟩ := ih (insK S p) (insK_ris hS)
    refine ⟨h1, fun x => ?_⟩
    rw [List.foldl_cons, h2 x, insK_mem, List.mem_cons]
    constructor
    · rintro ((h | h) | h)
      · exact .inr (.inl h)
      · exact .inl h
      · exact .inr (.inr h)
    · rintro (h | h | h)
      · exact .inl (.inr h)
      · exact .inl (.inl h)
      · exact .inr h
theorem kinds_ris (L : List (List Nat)) : Ris (kindsL L) := (kinds_go L [] List.Pairwise.nil).1
theorem kinds_mem (L : List (List Nat)) (x : List Nat) : x ∈ kindsL L ↔ x ∈ L := by
  have := (kinds_go L [] List.Pairwise.nil).2 x
  simpa [kindsL] using this
/-- The rank of a list among some. -/
def rkL (S : List (List Nat)) (p : List Nat) : Nat := S.countP fun q => decide (cmpN q p < 0)
theorem rk_at {S : List (List Nat)} (hS : Ris S) (i : Nat) (h : i < S.length) : rkL S S[i] = i := by
  have hc := fun j hj => ris_count (p := S[i]) hS j hj
  have hle : S.countP (fun q => decide (cmpN q S[i] < 0)) ≤ S.length := List.countP_le_length
  unfold rkL
  generalize S.countP (fun q => decide (cmpN q S[i] < 0)) = a at *
  have h1 : ¬ i < a := fun e => absurd ((hc i h).1 e) (by rw [cmpN_self]; decide)
  rcases Nat.lt_or_ge a i with h2 | h2
  · have h3 : ¬ cmpN S[a] S[i] < 0 := fun e => absurd ((hc a (by omega)).2 e) (by omega)
    have h4 := List.pairwise_iff_getElem.1 hS a i (by omega) h h2
    exact absurd h4 h3
  · omega
theorem rk_get {S : List (List Nat)} (hS : Ris S) {p : List Nat} (h : p ∈ S) : ∃ hl : rkL S p < S.length, S[rkL S p] = p := by
  obtain ⟨i, hi, rfl⟩ := List.mem_iff_getElem.1 h
  have := rk_at hS i hi
  exact ⟨by omega, by simp [this]⟩
/-- Numbers, rising. -/
def insN (x : Nat) : List Nat → List Nat
  | [] => [x]
  | y :: l => if x < y then x :: y :: l else y :: insN x l
def srtN (l : List Nat) : List Nat := l.foldl (fun s x => insN x s) []
theorem insN_perm (x : Nat) : ∀ l, (insN x l).Perm (x :: l)
  | [] => .refl _
  | y :: l => by
    rw [insN]
    split
    · exact .refl _
    · exact ((insN_perm x l).cons y).trans (.swap x y l)
theorem insN_sorted (x : Nat) : ∀ l : List Nat, l.Pairwise (· ≤ ·) → (insN x l).Pairwise (· ≤ ·)
  | [], _ => by simp [insN]
  | y :: l, h => by
    have h1 := List.pairwise_cons.1 h
    rw [insN]
    split
    · refine List.pairwise_cons.2 ⟨fun z hz => ?_, h⟩
      rcases List.mem_cons.1 hz with rfl | hz
      · omega
      · have := h1.1 z hz; omega
    · refine List.pairwise_cons.2 ⟨fun z hz => ?_, insN_sorted x l h1.2⟩
      rcases List.mem_cons.1 ((insN_perm x l).mem_iff.1 hz) with rfl | hz
      · omega
      · exact h1.1 z hz
theorem srtN_go (l : List Nat) : ∀ s : List Nat, s.Pairwise (· ≤ ·) → (l.foldl (fun s x => insN x s) s).Pairwise (· ≤ ·) ∧ (l.foldl (fun s x => insN x s) s).Perm (s ++ l) := by
  induction l with
  | nil => intro s hs; simpa using hs
  | cons x l ih =>
    intro s hs
    obtain ⟨h1, h2⟩ := ih (insN x s) (insN_sorted x s hs)
    refine ⟨h1, h2.trans ?_⟩
    refine ((insN_perm x s).append_right l).trans ?_
    exact List.perm_middle.symm
theorem srtN_sorted (l : List Nat) : (srtN l).Pairwise (· ≤ ·) := (srtN_go l [] List.Pairwise.nil).1
theorem srtN_perm (l : List Nat) : (srtN l).Perm l := by simpa [srtN] using (srtN_go l [] List.Pairwise.nil).2
theorem srt_unique : ∀ {S T : List Nat}, S.Pairwise (· ≤ ·) → T.Pairwise (· ≤ ·) → S.Perm T → S = T
  | [], T, _, _, h => by rw [List.nil_perm.1 h]
  | x :: S, [], _, _, h => by have := h.length_eq; simp at this
  | x :: S, y :: T, hS, hT, h => by
    have h1 := List.pairwise_cons.1 hS
    have h2 := List.pairwise_cons.1 hT
    have e : x = y := by
      have a1 : x ∈ y :: T := h.mem_iff.1 (by simp)
      have a2 : y ∈ x :: S := h.mem_iff.2 (by simp)
      rcases List.mem_cons.1 a1 with e | e
      · exact e
      · rcases List.mem_cons.1 a2 with e' | e'
        · exact e'.symm
        · have b1 := h2.1 x e
          have b2 := h1.1 y e'
          omega
    subst e
    rw [srt_unique h1.2 h2.2 ((List.perm_cons x).1 h)]
theorem srtN_of {S l : List Nat} (hS : S.Pairwise (· ≤ ·)) (h : S.Perm l) : S = srtN l := srt_unique hS (srtN_sorted l) (h.trans (srtN_perm l).symm)
/-- The nodes of a set. -/
def ndN (s : Nat) : List Nat := (List.range 12).filter s.testBit
/-- A node's kind. -/
def kdN (t c : List Nat) (v : Nat) : List Nat := c.getD v 0 :: srtN ((ndN (t.getD v 0)).map fun u => c.getD u 0)
def kdsN (t c : List Nat) : List (List Nat) := (List.range t.length).map (kdN t c)
/-- The colours of the next round. -/
def refN (t c : List Nat) : List Nat := (kdsN t c).map (rkL (kindsL (kdsN t c)))
/-- One more than the greatest colour. -/
def mostN (l : List Nat) : Nat := l.foldl (fun n c => max n (c + 1)) 0
theorem most_go (l : List Nat) : ∀ n, (∀ c ∈ l, c < l.foldl (fun n c => max n (c + 1)) n) ∧ n ≤ l.foldl (fun n c => max n (c + 1)) n ∧ ∀ m, n ≤ m → (∀ c ∈ l, c < m) → l.foldl (fun n c => max n (c + 1)) n ≤ m := by
  induction l with
  | nil => intro n; exact ⟨by simp, Nat.le_refl _, fun m h _ => h⟩
  | cons x l ih =>
    intro n
    obtain ⟨h1, h2, h3⟩ := ih (max n (x + 1))
    refine ⟨fun c hc => ?_, ?_, fun m hm hc => ?_⟩
    · rcases List.mem_cons.1 hc with rfl | hc
      · rw [List.foldl_cons]; omega
      · exact h1 c hc
    · rw [List.foldl_cons]; omega
    · rw [List.foldl_cons]
      refine h3 m ?_ fun c hc' => hc c (by simp [hc'])
      have := hc x (by simp)
      omega
theorem most_lt {l : List Nat} {c : Nat} (h : c ∈ l) : c < mostN l := (most_go l 0).1 c h
theorem most_le {l : List Nat} {m : Nat} (h : ∀ c ∈ l, c < m) : mostN l ≤ m := (most_go l 0).2.2 m (Nat.zero_le _) h
/-- All colours below the greatest are there. -/
def Full (n : Nat) (c : List Nat) : Prop := c.length = n ∧ ∀ i, i < mostN c → i ∈ c
theorem full_zero (n : Nat) : Full n (List.replicate n 0) := by
  refine ⟨by simp, fun i hi => ?_⟩
  have h1 : mostN (List.replicate n 0) ≤ 1 := most_le fun c hc => by rw [(List.mem_replicate.1 hc).2]; decide
  have : n ≠ 0 := by
    rintro rfl
    simp [mostN] at hi
  simp only [List.mem_replicate]
  omega
theorem refN_most (t c : List Nat) : mostN (refN t c) = (kindsL (kdsN t c)).length := by
  apply Nat.le_antisymm
  · refine most_le fun x hx => ?_
    obtain ⟨p, hp, rfl⟩ := List.mem_map.1 hx
    exact (rk_get (kinds_ris _) ((kinds_mem _ _).2 hp)).1
  · rcases Nat.eq_zero_or_pos (kindsL (kdsN t c)).length with h | h
    · omega
    · have hm := (kinds_mem (kdsN t c) _).1 (List.getElem_mem (l := kindsL (kdsN t c)) (n := (kindsL (kdsN t c)).length - 1) (by omega))
      have := most_lt (l := refN t c) (List.mem_map.2 ⟨_, hm, rfl⟩)
      rw [rk_at (kinds_ris _) _ (by omega)] at this
      omega
theorem refN_full (t c : List Nat) : Full t.length (refN t c) := by
  refine ⟨by simp [refN, kdsN], fun i hi => ?_⟩
  rw [refN_most] at hi
  have hm := (kinds_mem (kdsN t c) _).1 (List.getElem_mem (l := kindsL (kdsN t c)) (n := i) hi)
  exact List.mem_map.2 ⟨_, hm, rk_at (kinds_ris _) i hi⟩
theorem pigeon : ∀ (m : Nat) (l : List Nat), (∀ i, i < m → i ∈ l) → m ≤ l.length
  | 0, l, _ => Nat.zero_le _
  | m + 1, l, h => by
    have h1 := h m (by omega)
    have := pigeon m (l.erase m) fun i hi => (List.mem_erase_of_ne (by omega)).2 (h i (by omega))
    rw [List.length_erase_of_mem h1] at this
    have := List.length_pos_of_mem h1
    omega
theorem full_le {n : Nat} {c : List Nat} (h : Full n c) : mostN c ≤ n := by
  have := pigeon (mostN c) c h.2
  rw [h.1] at this
  exact this
/-- A round does not make colours fewer. -/
theorem most_mono {t c : List Nat} (h : Full t.length c) : mostN c ≤ mostN (refN t c) := by
  rw [refN_most]
  have := pigeon (mostN c) ((kindsL (kdsN t c)).map fun p => p.headD 0) fun i hi => by
    obtain ⟨v, hv, rfl⟩ := List.mem_iff_getElem.1 (h.2 i hi)
    have hm : kdN t c v ∈ kindsL (kdsN t c) := (kinds_mem _ _).2 (List.mem_map.2 ⟨v, List.mem_range.2 (by rw [← h.1]; exact hv), rfl⟩)
    refine List.mem_map.2 ⟨_, hm, ?_⟩
    simp [kdN, List.getD_eq_getElem?_getD, hv]
  simpa using this
/-- The colours in the end, and the rounds. -/
def colW (t c : List Nat) (r : Nat) : List Nat × Nat :=
  if h : mostN c < mostN (refN t c) ∧ mostN (refN t c) ≤ t.length then colW t (refN t c) (r + 1) else (c, r)
termination_by t.length - mostN c
decreasing_by omega
def colN (t : List Nat) : List Nat × Nat := colW t (List.replicate t.length 0) 0
theorem colW_stop {t c : List Nat} {r : Nat} (h : mostN (refN t c) = mostN c) : colW t c r = (c, r) := by
  rw [colW, dif_neg (by omega)]
theorem colW_go {t c : List Nat} {r : Nat} (hf : Full t.length c) (h : mostN (refN t c) ≠ mostN c) : colW t c r = colW t (refN t c) (r + 1) := by
  rw [colW, dif_pos ⟨by have := most_mono hf; omega, full_le (refN_full t c)⟩]
theorem colW_rounds {t : List Nat} : ∀ {c : List Nat} {r : Nat}, Full t.length c → (colW t c r).2 ≤ r + (t.length - mostN c)
  | c, r, hf => by
    by_cases h : mostN (refN t c) = mostN c
    · rw [colW_stop h]; simp
    · rw [colW_go hf h]
      have h1 := most_mono hf
      have h2 := full_le (refN_full t c)
      have := colW_rounds (t := t) (c := refN t c) (r := r + 1) (refN_full t c)
      omega
termination_by c => t.length - mostN c
decreasing_by
  have h1 := most_mono hf
  have h2 := full_le (refN_full t c)
  omega
theorem colW_full {t : List Nat} : ∀ {c : List Nat} {r : Nat}, Full t.length c → Full t.length (colW t c r).1
  | c, r, hf => by
    by_cases h : mostN (refN t c) = mostN c
    · rw [colW_stop h]; exact hf
    · rw [colW_go hf h]
      exact colW_full (refN_full t c)
termination_by c => t.length - mostN c
decreasing_by
  have h1 := most_mono hf
  have h2 := full_le (refN_full t c)
  omega
theorem colN_full (t : List Nat) : Full t.length (colN t).1 := colW_full (full_zero _)
/-- An edge and an edge. -/
theorem col_edges : colN [2, 1, 8, 4] = ([0, 0, 0, 0], 0) := colW_stop (by decide)
end Go.Proofs.YtfcbmcmkakceaaaDoor
