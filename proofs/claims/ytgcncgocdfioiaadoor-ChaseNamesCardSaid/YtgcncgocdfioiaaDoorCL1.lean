import Derived.Test.YtgcncgocdfioiaaDoorCC8
import Derived.Test.YtgcncgocdfioiaaDoorCW4
/- CL1: what the laws share: copies, awake; symmetric towns, ways; the law of ChaseTwo. -/
set_option linter.unusedVariables false
set_option linter.unusedSimpArgs false
set_option maxRecDepth 20000
namespace Go.Proofs.YtgcncgocdfioiaaDoor
open Go Go.PS
attribute [-simp] isKeyK List.map_take
theorem clone23_spec (xs : List Int) (hb : xs.length * 8 ≤ 140737488355328) : PCall Tryd.prog 23 [eIs xs] (.t .ro (eIs xs)) [] := by
  refine pcall_any 0 rfl call23 (fun h => ?_) ?_
  · simp at h
    subst h
    refine pcall_weak (k := .fz) (x := .v (.slice none 0 0)) ?_ nil_any
    refine pcall_wp _ Tryd.func23 rfl (by kernel_rfl) rfl ?_
    simp -dsimp
    refine retP_c ?_
    simp -dsimp
  · refine pcall_wp _ Tryd.func23 rfl (by kernel_rfl) rfl ?_
    simp -dsimp [hb]
    refine retP_c ?_
    simp -dsimp
theorem clone80_spec (xs : List Int) (hb : xs.length * 8 ≤ 140737488355328) : PCall Tryd.prog 80 [eIs xs] (.t .ro (eIs xs)) [] := by
  refine pcall_any 0 rfl call80 (fun h => ?_) ?_
  · simp at h
    subst h
    refine pcall_weak (k := .fz) (x := .v (.slice none 0 0)) ?_ nil_any
    refine pcall_wp _ Tryd.func80 rfl (by kernel_rfl) rfl ?_
    simp -dsimp
    refine retP_c ?_
    simp -dsimp
  · refine pcall_wp _ Tryd.func80 rfl (by kernel_rfl) rfl ?_
    simp -dsimp [hb]
    refine retP_c ?_
    simp -dsimp
theorem few_spec (xs : List Int) : PCall Tryd.prog 16 [eIs xs] (.t .ro (eIs (xs.take 13))) [] := by
  refine pcall_sl 0 rfl call16 fun hlen => ?_
  simp only [List.length_map] at hlen
  refine pcall_wp _ Tryd.func16 rfl (by kernel_rfl) rfl ?_
  have hm : (if 13 < (xs.length : Int) then (13 : Int) else (xs.length : Int)) = ((min xs.length 13 : Nat) : Int) := by
    split <;> omega
  have h1 : ((min xs.length 13 : Nat) : Int) ≤ xs.length := by omega
  have h2 : (0 : Int) ≤ ((min xs.length 13 : Nat) : Int) := by omega
  have ht : List.take (min xs.length 13) (List.map cI xs) = List.map cI (xs.take 13) := by
    rw [← List.map_take]
    congr 1
    rcases Nat.le_total xs.length 13 with h | h
    · rw [Nat.min_eq_left h, List.take_of_length_le (Nat.le_refl _), List.take_of_length_le h]
    · rw [Nat.min_eq_right h]
  generalize min xs.length 13 = m at hm h1 h2 ht
  simp -dsimp [hm, h1, h2, ht]
  first
    | refine CallG.by (clone23_spec (xs.take 13) (by simp; omega)) ?_
    | refine CallGE.by (clone23_spec (xs.take 13) (by simp; omega)) ?_
    | refine CallGB.by (clone23_spec (xs.take 13) (by simp; omega)) ?_
  simp -dsimp
  refine retP_c ?_
  simp -dsimp
theorem list_spec (xs : List Int) : PCall Tryd.prog 44 [eIs xs] (.t .ro (eIs (xs.take 13))) [] := by
  refine pcall_sl 0 rfl call44 fun hlen => ?_
  simp only [List.length_map] at hlen
  refine pcall_wp _ Tryd.func44 rfl (by kernel_rfl) rfl ?_
  have hm : (if 13 < (xs.length : Int) then (13 : Int) else (xs.length : Int)) = ((min xs.length 13 : Nat) : Int) := by
    split <;> omega
  have h1 : ((min xs.length 13 : Nat) : Int) ≤ xs.length := by omega
  have h2 : (0 : Int) ≤ ((min xs.length 13 : Nat) : Int) := by omega
  have ht : List.take (min xs.length 13) (List.map cI xs) = List.map cI (xs.take 13) := by
    rw [← List.map_take]
    congr 1
    rcases Nat.le_total xs.length 13 with h | h
    · rw [Nat.min_eq_left h, List.take_of_length_le (Nat.le_refl _), List.take_of_length_le h]
    · rw [Nat.min_eq_right h]
  generalize min xs.length 13 = m at hm h1 h2 ht
  simp -dsimp [hm, h1, h2, ht]
  first
    | refine CallG.by (clone80_spec (xs.take 13) (by simp; omega)) ?_
    | refine CallGE.by (clone80_spec (xs.take 13) (by simp; omega)) ?_
    | refine CallGB.by (clone80_spec (xs.take 13) (by simp; omega)) ?_
  simp -dsimp
  refine retP_c ?_
  simp -dsimp
theorem size_spec (x : Nat) (h : x < 256) : PCall Tryd.prog 40 [eI x] (pI (bitsL x).length) [] := by
  refine pcall_wp _ Tryd.func40 rfl (by kernel_rfl) rfl ?_
  simp -dsimp
  refine wk_loop (fun p : Kind × Nat × Nat => ⟨[(0, .t p.1 (eI p.2.1)), (3, pI p.2.2)], []⟩) (fun p => p.2.1 ≤ x ∧ p.2.2 + (bitsL p.2.1).length = (bitsL x).length) (fun p => p.2.1) (.ro, x, 0)
    (le_of (by simp) (by simp)) ⟨Nat.le_refl _, by simp⟩ fun ⟨k, s, l⟩ ⟨hs, hl⟩ => ?_
  dsimp only at hs hl
  have h8 := bits_len x
  simp -dsimp
  by_cases hc : 0 < s
  · obtain ⟨h1, h2⟩ := tz_get (x := s) hc (by omega)
    rw [h2, List.length_cons] at hl
    have hp := pop1 s (by omega) hc
    have hw := wr (n := (l : Int) + 1) (by omega) (by omega)
    simp -dsimp [hc, hp, hw]
    refine LoopP_next (.fz, s &&& (s - 1), l + 1) (le_of (by simp) (by simp)) ⟨by simp only; omega, by simp only; omega⟩ (by simp only; omega)
  · have hs0 : s = 0 := by omega
    subst hs0
    have : bitsL 0 = [] := by kernel_rfl
    rw [this] at hl
    simp at hl
    subst hl
    simp -dsimp
    refine retP_c ?_
    simp -dsimp
/-- Each node is beside itself, and whom it is beside is beside it. -/
theorem rT_refl {t : List Nat} (hs : Slf t) : ∀ x, vT t x → rT t x x := hs
theorem town_sym {g : List Int} (h : validG g = true) : ∀ x y, vT (townOf g) x → vT (townOf g) y → rT (townOf g) x y → rT (townOf g) y x := by
  intro x y hx hy hr
  have hv := valid_at h
  simp only [vT, town_len] at hx hy
  simp only [rT] at hr ⊢
  rw [town_get g y hy, Nat.testBit_or, Nat.testBit_two_pow] at *
  rw [town_get g x hx, Nat.testBit_or, Nat.testBit_two_pow] at hr
  by_cases e : x = y
  · simp [e]
  · simp only [e, decide_false, Bool.or_false] at hr
    have e' : ¬ y = x := fun h => e h.symm
    simp only [e', decide_false, Bool.or_false]
    have hg := hv.2.2.1
    have hrow := List.all_eq_true.1 hg x (List.mem_range.2 hx)
    have hrow2 := List.all_eq_true.1 hg y (List.mem_range.2 hy)
    simp only [rowB, Bool.and_eq_true, List.all_eq_true] at hrow hrow2
    have hc := hrow.2 y (List.mem_range.2 hy)
    have a1 := rowA_lt hrow.1
    have a2 := rowA_lt hrow2.1
    have hN : 2 ^ g.length ≤ 2 ^ 8 := Nat.pow_le_pow_right (by decide) hv.2.1
    obtain ⟨m, hm⟩ : ∃ m : Nat, g.getD x 0 = m := ⟨(g.getD x 0).toNat, by omega⟩
    obtain ⟨l, hl⟩ : ∃ l : Nat, g.getD y 0 = l := ⟨(g.getD y 0).toNat, by omega⟩
    simp only [cellB, hm, hl, beq_iff_eq] at hc
    rw [hm] at hr
    rw [hl]
    rw [and1 m (by omega) y (by omega), and1 l (by omega) x (by omega)] at hc
    simp only [Int.toNat_natCast] at hr ⊢
    rw [hr] at hc
    cases hz : l.testBit x with
    | true => rfl
    | false => rw [hz] at hc; simp at hc
theorem sw_sub {t : List Nat} {s i x : Nat} (h : s.testBit x = true) : (sw t s i).testBit x = true := by
  unfold sw
  split
  · rw [Nat.testBit_or, h, Bool.true_or]
  · exact h
theorem swF_sub {t : List Nat} {s x : Nat} (h : s.testBit x = true) : ∀ k, (swF t s k).testBit x = true
  | 0 => h
  | k + 1 => by rw [swF_succ]; exact sw_sub (swF_sub h k)
theorem swF_way {t : List Nat} {s : Nat} (h : ∀ x, s.testBit x = true → Way (vT t) (rT t) 0 x) (hv : ∀ a x, a < t.length → rT t a x → x < t.length) : ∀ k, k ≤ t.length → ∀ x, (swF t s k).testBit x = true → Way (vT t) (rT t) 0 x
  | 0, _, x, hx => h x hx
  | k + 1, hk, x, hx => by
    rw [swF_succ, sw] at hx
    have ih := swF_way h hv k (by omega)
    split at hx
    · rename_i hb
      rw [Nat.testBit_or, Bool.or_eq_true] at hx
      rcases hx with hx | hx
      · exact ih x hx
      · exact .step (ih k hb) (hv k x (by omega) hx) hx
    · exact ih x hx
theorem testBit_one_iff {x : Nat} : Nat.testBit 1 x = true ↔ x = 0 := by
  have := Nat.testBit_two_pow (n := 0) (m := x)
  simp at this
  rw [this]
  simp
  omega
theorem seenF_way {t : List Nat} (hv : ∀ a x, a < t.length → rT t a x → x < t.length) : ∀ k x, (seenF t k).testBit x = true → Way (vT t) (rT t) 0 x
  | 0, x, hx => by
    rw [seenF, testBit_one_iff] at hx
    subst hx
    exact .refl
  | k + 1, x, hx => swF_way (seenF_way hv k) hv t.length (Nat.le_refl _) x hx
/-- A sweep takes in who is beside. -/
theorem swF_nb {t : List Nat} {s a x : Nat} (ha : s.testBit a = true) (hr : rT t a x) : ∀ k, a < k → (swF t s k).testBit x = true
  | 0, h => by omega
  | k + 1, h => by
    rw [swF_succ]
    rcases Nat.lt_or_ge a k with h1 | h1
    · exact sw_sub (swF_nb ha hr k h1)
    · have : a = k := by omega
      subst this
      rw [sw, if_pos (swF_sub ha a), Nat.testBit_or]
      rw [show (t.getD a 0).testBit x = true from hr, Bool.or_true]
def cntB (n s : Nat) : Nat := ((List.range n).filter s.testBit).length
theorem cntB_le (n s : Nat) : cntB n s ≤ n := Nat.le_trans (List.length_filter_le _ _) (by simp)
theorem cntB_lt {n s s' : Nat} (h : ∀ x, s.testBit x = true → s'.testBit x = true) {y : Nat} (hy : y < n) (h1 : s'.testBit y = true) (h2 : s.testBit y = false) : cntB n s < cntB n s' :=
  fltLt s'.testBit s.testBit h y h1 h2 _ (List.mem_range.2 hy)
/-- What is seen in the end is closed. -/
theorem seenF_closed {t : List Nat} (ht : Twn t) : ∀ k, (cntB t.length (seenF t k) ≥ k + 1) ∨ ∀ a x, a < t.length → (seenF t k).testBit a = true → rT t a x → (seenF t k).testBit x = true
  | 0 => by
    left
    have h0 : 0 ∈ (List.range t.length).filter (seenF t 0).testBit := by
      rw [List.mem_filter, List.mem_range]
      exact ⟨ht.1, by rw [seenF]; rfl⟩
    exact List.length_pos_of_mem h0
  | k + 1 => by
    have hsub : ∀ x, (seenF t k).testBit x = true → (seenF t (k + 1)).testBit x = true := fun x h => swF_sub h _
    by_cases hcl : ∀ a x, a < t.length → (seenF t k).testBit a = true → rT t a x → (seenF t k).testBit x = true
    · right
      -- nothing new comes
      have hsame : ∀ m x, (swF t (seenF t k) m).testBit x = true → m ≤ t.length → (seenF t k).testBit x = true := by
        intro m
        induction m with
        | zero => exact fun x h _ => h
        | succ m ih =>
          intro x hx hm
          rw [swF_succ, sw] at hx
          split at hx
          · rename_i hb
            rw [Nat.testBit_or, Bool.or_eq_true] at hx
            rcases hx with hx | hx
            · exact ih x hx (by omega)
            · exact hcl m x (by omega) (ih m hb (by omega)) hx
          · exact ih x hx (by omega)
      intro a x ha h1 h2
      exact hsub x (hcl a x ha (hsame t.length a h1 (Nat.le_refl _)) h2)
    · left
      rcases seenF_closed ht k with h | h
      · have hex : ∃ a x, a < t.length ∧ (seenF t k).testBit a = true ∧ rT t a x ∧ (seenF t k).testBit x = false := by
          apply Classical.byContradiction
          intro hno
          apply hcl
          intro a x h1 h2 h3
          cases hb : (seenF t k).testBit x with
          | true => rfl
          | false => exact absurd ⟨a, x, h1, h2, h3, hb⟩ hno
        obtain ⟨a, x, h1, h2, h3, h4⟩ := hex
        have h5 : (seenF t (k + 1)).testBit x = true := swF_nb h2 h3 t.length h1
        have hxn : x < t.length := by
          have := seenF_lt ht (k + 1)
          rcases Nat.lt_or_ge x t.length with h6 | h6
          · exact h6
          · rw [Nat.testBit_lt_two_pow (Nat.lt_of_lt_of_le this (Nat.pow_le_pow_right (by decide) h6))] at h5
            cases h5
        have := cntB_lt hsub hxn h5 h4
        omega
      · exact absurd h hcl
theorem rT_lt {t : List Nat} (ht : Twn t) {a x : Nat} (ha : a < t.length) (h : rT t a x) : x < t.length := by
  have h1 := ht.2.2 _ (getD_mem ha)
  rcases Nat.lt_or_ge x t.length with h6 | h6
  · exact h6
  · rw [rT, Nat.testBit_lt_two_pow (Nat.lt_of_lt_of_le h1 (Nat.pow_le_pow_right (by decide) h6))] at h
    cases h
/-- The check of a way between all is right. -/
theorem conn_iff {t : List Nat} (ht : Twn t) (hs : ∀ x y, vT t x → vT t y → rT t x y → rT t y x) : connB t = true ↔ Conn (vT t) (rT t) := by
  have hn := ht.1
  have hv : ∀ a x, a < t.length → rT t a x → x < t.length := fun a x ha h => rT_lt ht ha h
  constructor
  · intro h
    have h1 : seenF t t.length = 2 ^ t.length - 1 := by simpa [connB] using h
    have hw : ∀ x, x < t.length → Way (vT t) (rT t) 0 x := fun x hx => seenF_way hv t.length x (by rw [h1, Nat.testBit_two_pow_sub_one]; simp [hx])
    intro x y hx hy
    exact ((hw x hx).symm hs (by show 0 < t.length; omega)).trans (hw y hy)
  · intro h
    rcases seenF_closed ht t.length with h1 | h1
    · have := cntB_le t.length (seenF t t.length)
      omega
    · have h0 : ∀ k, (seenF t k).testBit 0 = true := by
        intro k
        induction k with
        | zero => exact testBit_one_iff.2 rfl
        | succ k ih => exact swF_sub ih _
      have hall : ∀ x, x < t.length → (seenF t t.length).testBit x = true := by
        intro x hx
        have hw := h 0 x (by show 0 < t.length; omega) hx
        clear hx
        induction hw with
        | refl => exact h0 _
        | @step b c h2 h3 h4 ih => exact h1 b c (h2.mem (by show 0 < t.length; omega)) ih h4
      have hlt := seenF_lt ht t.length
      rw [connB, beq_iff_eq]
      apply Nat.eq_of_testBit_eq
      intro x
      rw [Nat.testBit_two_pow_sub_one]
      rcases Nat.lt_or_ge x t.length with hx | hx
      · rw [hall x hx]; simp [hx]
      · rw [Nat.testBit_lt_two_pow (Nat.lt_of_lt_of_le hlt (Nat.pow_le_pow_right (by decide) hx))]
        simp; omega
/-- What a valid graph is. -/
theorem valid_facts {g : List Int} (h : validG g = true) : Twn (townOf g) ∧ (∀ x, vT (townOf g) x → rT (townOf g) x x) ∧ (∀ x y, vT (townOf g) x → vT (townOf g) y → rT (townOf g) x y → rT (townOf g) y x) ∧ Conn (vT (townOf g)) (rT (townOf g)) :=
  ⟨valid_town h, slf_town g, town_sym h, (conn_iff (valid_town h) (town_sym h)).1 (valid_at h).2.2.2⟩
theorem strF_iff {g : List Int} (h : validG g = true) (k : Int) (m : Nat) : (0 ≤ (strF g k).2 ∧ (strF g k).2 ≤ m) ↔ ∃ a b, vT (townOf g) a ∧ vT (townOf g) b ∧ ((k == 2) = true ∨ a = b) ∧ ∀ c, vT (townOf g) c → WinT (townOf g) (k == 2) m a b c := by
  have e := town_len g
  simp only [strF, rksF, ← e]
  exact start_iff (valid_town h) (k == 2) m
theorem strF_cw {g : List Int} (h : validG g = true) (k : Int) : 0 ≤ (strF g k).2 ↔ Cw (vT (townOf g)) (rT (townOf g)) (k == 2) := by
  have := start_cw (valid_town h) (k == 2)
  rw [town_len] at this
  exact this
theorem aw_rounds : roundsF [2, 1] 1 = .tup [eI 1, eI 0] := by
  have hv : validG [2, 1] = true := by decide
  have hk : okG [2, 1] 1 = true := by rw [okG, hv]; decide
  have ht : townOf [2, 1] = [3, 3] := by decide
  have h1 := (strF_iff hv 1 1).2 (by
    rw [ht]
    refine ⟨0, 0, by decide, by decide, .inr rfl, fun c hc => ?_⟩
    simp only [vT, List.length_cons, List.length_nil] at hc
    rcases Nat.lt_or_ge c 1 with h | h
    · exact .inl (.inl (by omega))
    · have r01 : rT [3, 3] 0 1 := by unfold rT; decide
      exact .inr ⟨1, 1, by decide, by decide, r01, r01, .inr rfl, .inl (by omega)⟩)
  have h2 : ¬ ((strF [2, 1] 1).2 ≤ (0 : Nat)) := by
    intro h
    obtain ⟨a, b, ha, hb, hab, hw⟩ := (strF_iff hv 1 0).1 ⟨h1.1, h⟩
    rw [ht] at ha hb hw
    have hab : a = b := hab.elim (fun h => by cases h) id
    have w0 := hw 0 (by decide)
    have w1 := hw 1 (by decide)
    rcases w0 with w0 | w0 <;> rcases w1 with w1 | w1 <;> omega
  have h3 : (strF [2, 1] 1).2 = 1 := by omega
  rw [roundsF, hk, if_pos rfl, h3]
  rfl
theorem awake_spec : PCall Tryd.prog 17 [] (pB true) [] := by
  refine pcall_wp _ Tryd.func17 rfl (by kernel_rfl) rfl ?_
  have h := rounds_spec [2, 1] 1
  rw [aw_rounds] at h
  simp -dsimp
  first
    | refine CallG.by (h) ?_
    | refine CallGE.by (h) ?_
    | refine CallGB.by (h) ?_
  simp -dsimp
  refine retP_c ?_
  simp -dsimp
theorem rounds_ok {g : List Int} {k : Int} (h : okG g k = true) : roundsF g k = if (strF g k).2 < 0 then .tup [eI 0, eI 4] else .tup [eI (strF g k).2, eI 0] := by rw [roundsF, h, if_pos rfl]
theorem rounds_bad {g : List Int} {k : Int} (h : okG g k = false) : roundsF g k = .tup [eI 0, eI 2] := by rw [roundsF, h]; rfl
/-- Two sweeps are enough, and no slower than one. -/
theorem strF_two {g : List Int} (h : validG g = true) : 0 ≤ (strF g 2).2 ∧ (0 ≤ (strF g 1).2 → (strF g 2).2 ≤ (strF g 1).2) := by
  obtain ⟨ht, hr, hs, hc⟩ := valid_facts h
  have hk2 : ((2 : Int) == 2) = true := by decide
  have hk1 : ((1 : Int) == 2) = false := by decide
  refine ⟨(strF_cw h 2).2 (by rw [hk2]; exact two_sweeps ht.2.1 ht.1 hr hs hc), fun h1 => ?_⟩
  obtain ⟨a, b, ha, hb, hab, hw⟩ := (strF_iff h 1 (strF g 1).2.toNat).1 ⟨h1, by omega⟩
  have := (strF_iff h 2 (strF g 1).2.toNat).2 ⟨a, b, ha, hb, .inl hk2, fun c hcv => by
    rw [hk2]
    have := hw c hcv
    rw [hk1] at this
    exact this.ofOne⟩
  omega
theorem two_true (g : List Int) : PCall Tryd.prog 3 [eIs g] (pB true) [] := by
  refine pcall_wp _ Tryd.func3 rfl (by kernel_rfl) rfl ?_
  have hf := few_spec g
  have ha := awake_spec
  generalize g.take 13 = h at *
  have h1 := rounds_spec h 1
  have h2 := rounds_spec h 2
  cases hv : validG h with
  | false =>
    rw [rounds_bad (by rw [okG, hv]; rfl)] at h1
    rw [rounds_bad (by rw [okG, hv]; rfl)] at h2
    simp -dsimp
    first
      | refine CallG.by (hf) ?_
      | refine CallGE.by (hf) ?_
      | refine CallGB.by (hf) ?_
    simp -dsimp
    first
      | refine CallG.by (h1) ?_
      | refine CallGE.by (h1) ?_
      | refine CallGB.by (h1) ?_
    simp -dsimp
    first
      | refine CallG.by (hf) ?_
      | refine CallGE.by (hf) ?_
      | refine CallGB.by (hf) ?_
    simp -dsimp
    first
      | refine CallG.by (h2) ?_
      | refine CallGE.by (h2) ?_
      | refine CallGB.by (h2) ?_
    simp -dsimp
    first
      | refine CallG.by (ha) ?_
      | refine CallGE.by (ha) ?_
      | refine CallGB.by (ha) ?_
    simp -dsimp
    refine retP_c ?_
    simp -dsimp
  | true =>
    rw [rounds_ok (by rw [okG, hv]; rfl)] at h1
    rw [rounds_ok (by rw [okG, hv]; rfl)] at h2
    obtain ⟨g1, g2⟩ := strF_two hv
    rw [if_neg (by omega)] at h2
    generalize strF h 1 = q1 at *
    generalize strF h 2 = q2 at *
    by_cases hn : q1.2 < 0
    · rw [if_pos hn] at h1
      simp -dsimp
      first
        | refine CallG.by (hf) ?_
        | refine CallGE.by (hf) ?_
        | refine CallGB.by (hf) ?_
      simp -dsimp
      first
        | refine CallG.by (h1) ?_
        | refine CallGE.by (h1) ?_
        | refine CallGB.by (h1) ?_
      simp -dsimp
      first
        | refine CallG.by (hf) ?_
        | refine CallGE.by (hf) ?_
        | refine CallGB.by (hf) ?_
      simp -dsimp
      first
        | refine CallG.by (h2) ?_
        | refine CallGE.by (h2) ?_
        | refine CallGB.by (h2) ?_
      simp -dsimp
      first
        | refine CallG.by (ha) ?_
        | refine CallGE.by (ha) ?_
        | refine CallGB.by (ha) ?_
      simp -dsimp
      refine retP_c ?_
      simp -dsimp
    · rw [if_neg hn] at h1
      have hle := g2 (by omega)
      simp -dsimp
      first
        | refine CallG.by (hf) ?_
        | refine CallGE.by (hf) ?_
        | refine CallGB.by (hf) ?_
      simp -dsimp
      first
        | refine CallG.by (h1) ?_
        | refine CallGE.by (h1) ?_
        | refine CallGB.by (h1) ?_
      simp -dsimp
      first
        | refine CallG.by (hf) ?_
        | refine CallGE.by (hf) ?_
        | refine CallGB.by (hf) ?_
      simp -dsimp
      first
        | refine CallG.by (h2) ?_
        | refine CallGE.by (h2) ?_
        | refine CallGB.by (h2) ?_
      simp -dsimp [hle]
      first
        | refine CallG.by (ha) ?_
        | refine CallGE.by (ha) ?_
        | refine CallGB.by (ha) ?_
      simp -dsimp
      refine retP_c ?_
      simp -dsimp
end Go.Proofs.YtgcncgocdfioiaaDoor
