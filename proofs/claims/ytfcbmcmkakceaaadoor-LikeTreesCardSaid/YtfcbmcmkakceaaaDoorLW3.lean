import Derived.Test.YtfcbmcmkakceaaaDoorLW2
/- LW3: counting maps; trees into graphs that are alike; unions. No program in sight. -/
set_option linter.unusedVariables false
set_option linter.unusedSimpArgs false
namespace Go.Proofs.YtfcbmcmkakceaaaDoor
/-- Whether x can be the node of the next one. -/
def fitN (t g b : List Nat) (x : Nat) : Bool := (List.range b.length).all fun u => !(nbN t b.length u) || nbN g (b.getD u 0) x
/-- How many maps go on from some nodes' ones, f nodes being left. -/
def mapsN (t g : List Nat) : Nat → List Nat → Nat
  | 0, _ => 1
  | f + 1, b => ((List.range g.length).map fun x => if fitN t g b x then mapsN t g f (b ++ [x]) else 0).sum
/-- Colours that no round turns: whoever has the same colour has as many neighbours of each. -/
def Stab (t c : List Nat) : Prop := ∀ x y, x < t.length → y < t.length → c.getD x 0 = c.getD y 0 → ((ndN (t.getD x 0)).map fun u => c.getD u 0).Perm ((ndN (t.getD y 0)).map fun u => c.getD u 0)
theorem rk_inj {S : List (List Nat)} (hS : Ris S) {p q : List Nat} (hp : p ∈ S) (hq : q ∈ S) (h : rkL S p = rkL S q) : p = q := by
  obtain ⟨h1, e1⟩ := rk_get hS hp
  obtain ⟨h2, e2⟩ := rk_get hS hq
  rw [← e1, ← e2]
  simp only [h]
/-- If c's colours are as many as the next ones, then equal colours have equal kinds. -/
theorem stab_of {t c : List Nat} (hf : Full t.length c) (h : mostN (refN t c) = mostN c) : Stab t c := by
  intro x y hx hy hc
  have hm : ∀ v, v < t.length → kdN t c v ∈ kindsL (kdsN t c) := fun v hv => (kinds_mem _ _).2 (List.mem_map.2 ⟨v, List.mem_range.2 hv, rfl⟩)
  have hris := kinds_ris (kdsN t c)
  rw [refN_most] at h
  have hall : ∀ p ∈ kindsL (kdsN t c), ∃ v, v < t.length ∧ p = kdN t c v := fun p hp => by
    obtain ⟨v, hv, rfl⟩ := List.mem_map.1 ((kinds_mem _ _).1 hp)
    exact ⟨v, List.mem_range.1 hv, rfl⟩
  generalize kindsL (kdsN t c) = S at *
  have hk : kdN t c x = kdN t c y := by
    apply Classical.byContradiction
    intro hne
    have hp := pigeon (mostN c) ((S.erase (kdN t c x)).map fun p => p.headD 0) fun i hi => by
      obtain ⟨v, hv, hvi⟩ := List.mem_iff_getElem.1 (hf.2 i hi)
      have hvt : v < t.length := by rw [← hf.1]; exact hv
      have hcv : c.getD v 0 = i := by simp [List.getD_eq_getElem?_getD, hv, hvi]
      by_cases e : kdN t c v = kdN t c x
      · have h1 : c.getD x 0 = i := by
          have := congrArg (fun p => p.headD 0) e
          simp only [kdN, List.headD_cons] at this
          omega
        exact List.mem_map.2 ⟨kdN t c y, (List.mem_erase_of_ne (Ne.symm hne)).2 (hm y hy), by simp only [kdN, List.headD_cons]; omega⟩
      · exact List.mem_map.2 ⟨kdN t c v, (List.mem_erase_of_ne e).2 (hm v hvt), by simp only [kdN, List.headD_cons]; exact hcv⟩
    rw [List.length_map, List.length_erase_of_mem (hm x hx)] at hp
    have := List.length_pos_of_mem (hm x hx)
    omega
  have ht : srtN ((ndN (t.getD x 0)).map fun u => c.getD u 0) = srtN ((ndN (t.getD y 0)).map fun u => c.getD u 0) := by
    simp only [kdN, List.cons.injEq] at hk
    exact hk.2
  exact (srtN_perm _).symm.trans (ht ▸ srtN_perm _)
theorem colW_stab {t : List Nat} : ∀ {c : List Nat} {r : Nat}, Full t.length c → Stab t (colW t c r).1
  | c, r, hf => by
    by_cases h : mostN (refN t c) = mostN c
    · rw [colW_stop h]; exact stab_of hf h
    · rw [colW_go hf h]
      exact colW_stab (refN_full t c)
termination_by c => t.length - mostN c
decreasing_by
  have h1 := most_mono hf
  have h2 := full_le (refN_full t c)
  omega
theorem colN_stab (t : List Nat) : Stab t (colN t).1 := colW_stab (full_zero _)
/-- Two graphs as one. -/
def besN (t h : List Nat) : List Nat := t ++ h.map (· <<< t.length)
/-- How often a colour is in a list. -/
def shN (t h : List Nat) : List Nat × List Nat := ((colN (besN t h)).1.take t.length, (colN (besN t h)).1.drop t.length)
def likeN (t h : List Nat) : Bool := (List.range (mostN (colN (besN t h)).1)).all fun i => (shN t h).1.count i == (shN t h).2.count i
theorem like_perm {t h : List Nat} (hl : likeN t h = true) : (shN t h).1.Perm (shN t h).2 := by
  rw [List.perm_iff_count]
  intro i
  by_cases hi : i < mostN (colN (besN t h)).1
  · have := List.all_eq_true.1 hl i (List.mem_range.2 hi)
    simpa using this
  · have hn : ∀ l : List Nat, (∀ x ∈ l, x ∈ (colN (besN t h)).1) → l.count i = 0 := fun l hl => by
      rw [List.count_eq_zero]
      intro h1
      exact hi (most_lt (hl i h1))
    rw [hn (shN t h).1 fun x hx => List.mem_of_mem_take hx, hn (shN t h).2 fun x hx => List.mem_of_mem_drop hx]
theorem sum_perm {a b : List Nat} (h : a.Perm b) : a.sum = b.sum := h.sum_nat
theorem sum_filter (p : Nat → Bool) (F : Nat → Nat) : ∀ l : List Nat, (l.map fun x => if p x then F x else 0).sum = ((l.filter p).map F).sum
  | [] => rfl
  | x :: l => by
    by_cases h : p x = true
    · simp [h, sum_filter p F l]
    · simp [h, sum_filter p F l]
/-- A tree's shape: each further node has one neighbour ahead of it, the one that par tells. -/
def Tre (t : List Nat) (par : Nat → Nat) : Prop := ∀ k, 1 ≤ k → k < t.length → par k < k ∧ ∀ u, u < k → nbN t k u = decide (u = par k)
theorem fit_tre {t g b : List Nat} {par : Nat → Nat} (ht : Tre t par) (h1 : 1 ≤ b.length) (hb : b.length < t.length) (x : Nat) : fitN t g b x = nbN g (b.getD (par b.length) 0) x := by
  obtain ⟨hp, hu⟩ := ht b.length h1 hb
  unfold fitN
  rw [Bool.eq_iff_iff, List.all_eq_true]
  constructor
  · intro h
    have := h (par b.length) (List.mem_range.2 hp)
    rw [hu _ hp] at this
    simpa using this
  · intro h u hr
    rw [hu u (List.mem_range.1 hr)]
    by_cases e : u = par b.length
    · subst e; rw [h]; simp
    · simp [e]
theorem nd_filter {n s : Nat} (hn : n ≤ 12) (hs : s < 2 ^ n) : (List.range n).filter s.testBit = ndN s := by
  unfold ndN
  have h12 : List.range 12 = List.range n ++ (List.range (12 - n)).map (n + ·) := by
    rw [← List.range_add]
    congr 1
    omega
  rw [h12, List.filter_append]
  have : ((List.range (12 - n)).map (n + ·)).filter s.testBit = [] := by
    rw [List.filter_eq_nil_iff]
    intro x hx
    obtain ⟨y, _, rfl⟩ := List.mem_map.1 hx
    rw [Nat.testBit_lt_two_pow (Nat.lt_of_lt_of_le hs (Nat.pow_le_pow_right (by decide) (by omega)))]
    simp
  rw [this, List.append_nil]
/-- Sums over nodes whose values only their colours tell. -/
theorem sum_col {F G : Nat → Nat} {c d : List Nat} {n m : Nat} (ih : ∀ x y, x < n → y < m → c.getD x 0 = d.getD y 0 → F x = G y) (A B : List Nat) (mA : ∀ x ∈ A, x < n) (mB : ∀ y ∈ B, y < m)
    (hP : (A.map fun u => c.getD u 0).Perm (B.map fun u => d.getD u 0)) : (A.map F).sum = (B.map G).sum := by
  let V : Nat → Nat := fun k => match (List.range m).find? fun y => d.getD y 0 == k with
    | some y => G y
    | none => 0
  have v2 : ∀ x y, x < n → y < m → c.getD x 0 = d.getD y 0 → V (d.getD y 0) = F x := fun x y hx hy hxy => by
    show (match (List.range m).find? fun z => d.getD z 0 == d.getD y 0 with
      | some z => G z
      | none => 0) = _
    cases hfd : (List.range m).find? fun z => d.getD z 0 == d.getD y 0 with
    | none =>
      have := List.find?_eq_none.1 hfd y (List.mem_range.2 hy)
      simp at this
    | some z =>
      have hz1 := List.find?_some hfd
      have hz2 := List.mem_range.1 (List.mem_of_find?_eq_some hfd)
      have hz3 : d.getD z 0 = d.getD y 0 := by simpa using hz1
      exact (ih x z hx hz2 (by omega)).symm
  have hA : A.map F = (A.map fun u => c.getD u 0).map V := by
    rw [List.map_map]
    refine List.map_congr_left fun x hx => ?_
    have hm : c.getD x 0 ∈ B.map fun u => d.getD u 0 := hP.mem_iff.1 (List.mem_map.2 ⟨x, hx, rfl⟩)
    obtain ⟨y, hy, hxy⟩ := List.mem_map.1 hm
    show _ = V (c.getD x 0)
    rw [← hxy, v2 x y (mA x hx) (mB y hy) hxy.symm]
  have hB : B.map G = (B.map fun u => d.getD u 0).map V := by
    rw [List.map_map]
    refine List.map_congr_left fun y hy => ?_
    have hm : d.getD y 0 ∈ A.map fun u => c.getD u 0 := hP.mem_iff.2 (List.mem_map.2 ⟨y, hy, rfl⟩)
    obtain ⟨x, hx, hxy⟩ := List.mem_map.1 hm
    show _ = V (d.getD y 0)
    rw [v2 x y (mA x hx) (mB y hy) hxy]
    exact (ih x y (mA x hx) (mB y hy) hxy).symm
  rw [hA, hB]
  exact sum_perm (hP.map V)
/-- The maps of a tree that go on from some nodes' ones tell no more of these than their colours. c and d are the colours of g and of h. -/
theorem tre_step {t g h c d : List Nat} {par : Nat → Nat} (ht : Tre t par) (hg : Tow 6 g) (hh : Tow 6 h)
    (hst : ∀ x y, x < g.length → y < h.length → c.getD x 0 = d.getD y 0 → ((ndN (g.getD x 0)).map fun u => c.getD u 0).Perm ((ndN (h.getD y 0)).map fun u => d.getD u 0)) :
    ∀ (f : Nat) (b b' : List Nat), b.length = b'.length → 1 ≤ b.length → b.length + f = t.length → (∀ i, i < b.length → b.getD i 0 < g.length ∧ b'.getD i 0 < h.length ∧ c.getD (b.getD i 0) 0 = d.getD (b'.getD i 0) 0) → mapsN t g f b = mapsN t h f b'
  | 0, _, _, _, _, _, _ => rfl
  | f + 1, b, b', hl, h1, hf, hb => by
    have hp := (ht b.length h1 (by omega)).1
    obtain ⟨q1, q2, q3⟩ := hb _ hp
    have e1 : ∀ x, fitN t g b x = (g.getD (b.getD (par b.length) 0) 0).testBit x := fun x => by rw [fit_tre ht h1 (by omega)]; rfl
    have e2 : ∀ x, fitN t h b' x = (h.getD (b'.getD (par b.length) 0) 0).testBit x := fun x => by rw [fit_tre ht (by omega) (by omega), ← hl]; rfl
    have hperm := hst _ _ q1 q2 q3
    have hG := hg.get (b.getD (par b.length) 0)
    have hH := hh.get (b'.getD (par b.length) 0)
    rw [mapsN, mapsN]
    simp only [e1, e2]
    rw [sum_filter, sum_filter]
    have f1 : (List.range g.length).filter (fun x => (g.getD (b.getD (par b.length) 0) 0).testBit x) = ndN (g.getD (b.getD (par b.length) 0) 0) := nd_filter (by have := hg.le; omega) hG
    have f2 : (List.range h.length).filter (fun x => (h.getD (b'.getD (par b.length) 0) 0).testBit x) = ndN (h.getD (b'.getD (par b.length) 0) 0) := nd_filter (by have := hh.le; omega) hH
    have m1 : ∀ x ∈ ndN (g.getD (b.getD (par b.length) 0) 0), x < g.length := fun x hx => by rw [← f1] at hx; exact List.mem_range.1 (List.mem_filter.1 hx).1
    have m2 : ∀ x ∈ ndN (h.getD (b'.getD (par b.length) 0) 0), x < h.length := fun x hx => by rw [← f2] at hx; exact List.mem_range.1 (List.mem_filter.1 hx).1
    rw [f1, f2]
    generalize ndN (g.getD (b.getD (par b.length) 0) 0) = A at *
    generalize ndN (h.getD (b'.getD (par b.length) 0) 0) = B at *
    clear f1 f2 e1 e2 hG hH q1 q2 q3
    have ih : ∀ x y, x < g.length → y < h.length → c.getD x 0 = d.getD y 0 → mapsN t g f (b ++ [x]) = mapsN t h f (b' ++ [y]) := fun x y hx hy hxy => by
      refine tre_step ht hg hh hst f (b ++ [x]) (b' ++ [y]) (by simp [hl]) (by simp) (by simp; omega) fun i hi => ?_
      by_cases e : i < b.length
      · have := hb i e
        simpa [List.getD_eq_getElem?_getD, List.getElem?_append_left e, List.getElem?_append_left (show i < b'.length by omega)] using this
      · have e' : i = b.length := by simp at hi; omega
        subst e'
        have a1 : (b ++ [x]).getD b.length 0 = x := by simp [List.getD_eq_getElem?_getD]
        have a2 : (b' ++ [y]).getD b.length 0 = y := by rw [hl]; simp [List.getD_eq_getElem?_getD]
        rw [a1, a2]
        exact ⟨hx, hy, hxy⟩
    exact sum_col ih A B m1 m2 hperm
theorem bes_len (g h : List Nat) : (besN g h).length = g.length + h.length := by simp [besN]
theorem bes_left {g h : List Nat} {x : Nat} (hx : x < g.length) : (besN g h).getD x 0 = g.getD x 0 := by simp [besN, List.getD_eq_getElem?_getD, List.getElem?_append_left hx]
theorem bes_right {g h : List Nat} {y : Nat} (hy : y < h.length) : (besN g h).getD (g.length + y) 0 = h.getD y 0 <<< g.length := by
  simp [besN, List.getD_eq_getElem?_getD, List.getElem?_append_right, hy]
theorem nd_shift {s n : Nat} (hn : n ≤ 6) (hs : s < 2 ^ 6) : ndN (s <<< n) = (ndN s).map (n + ·) := by
  have h12 : ndN s = (List.range 6).filter s.testBit := (nd_filter (n := 6) (by decide) hs).symm
  rw [h12]
  have hr : List.range 12 = List.range n ++ ((List.range 6).map (n + ·) ++ (List.range (6 - n)).map (n + 6 + ·)) := by
    have e1 : (List.range (6 - n)).map (n + 6 + ·) = ((List.range (6 - n)).map (6 + ·)).map (n + ·) := by
      rw [List.map_map]
      refine List.map_congr_left fun x _ => ?_
      show n + 6 + x = n + (6 + x)
      omega
    rw [e1, ← List.map_append, ← List.range_add, ← List.range_add]
    congr 1
    omega
  unfold ndN
  rw [hr, List.filter_append, List.filter_append]
  have f1 : (List.range n).filter (s <<< n).testBit = [] := by
    rw [List.filter_eq_nil_iff]
    intro x hx
    have := List.mem_range.1 hx
    simp [Nat.testBit_shiftLeft]
    omega
  have f3 : ((List.range (6 - n)).map (n + 6 + ·)).filter (s <<< n).testBit = [] := by
    rw [List.filter_eq_nil_iff]
    intro x hx
    obtain ⟨y, _, rfl⟩ := List.mem_map.1 hx
    rw [Nat.testBit_shiftLeft]
    rw [Nat.testBit_lt_two_pow (Nat.lt_of_lt_of_le hs (Nat.pow_le_pow_right (by decide) (by omega)))]
    simp
  rw [f1, f3, List.nil_append, List.append_nil, List.filter_map]
  congr 1
  refine List.filter_congr fun x _ => ?_
  show (s <<< n).testBit (n + x) = s.testBit x
  rw [Nat.testBit_shiftLeft]
  simp
theorem sh_left {g h : List Nat} {x : Nat} (hx : x < g.length) : (shN g h).1.getD x 0 = (colN (besN g h)).1.getD x 0 := by
  simp [shN, List.getD_eq_getElem?_getD, List.getElem?_take_of_lt hx]
theorem sh_right {g h : List Nat} {y : Nat} : (shN g h).2.getD y 0 = (colN (besN g h)).1.getD (g.length + y) 0 := by
  simp [shN, List.getD_eq_getElem?_getD, List.getElem?_drop]
theorem sh_stab {g h : List Nat} (hg : Tow 6 g) (hh : Tow 6 h) {x y : Nat} (hx : x < g.length) (hy : y < h.length) (hc : (shN g h).1.getD x 0 = (shN g h).2.getD y 0) :
    ((ndN (g.getD x 0)).map fun u => (shN g h).1.getD u 0).Perm ((ndN (h.getD y 0)).map fun u => (shN g h).2.getD u 0) := by
  have hs := colN_stab (besN g h) x (g.length + y) (by rw [bes_len]; omega) (by rw [bes_len]; omega) (by rw [← sh_left hx, hc, sh_right])
  rw [bes_left hx, bes_right hy, nd_shift hg.le (Nat.lt_of_lt_of_le (hh.get y) (Nat.pow_le_pow_right (by decide) hh.le)), List.map_map] at hs
  have e1 : (ndN (g.getD x 0)).map (fun u => (shN g h).1.getD u 0) = (ndN (g.getD x 0)).map fun u => (colN (besN g h)).1.getD u 0 := List.map_congr_left fun u hu => by
    rw [← nd_filter (n := g.length) (by have := hg.le; omega) (hg.get x)] at hu
    exact sh_left (List.mem_range.1 (List.mem_filter.1 hu).1)
  have e2 : (ndN (h.getD y 0)).map (fun u => (shN g h).2.getD u 0) = (ndN (h.getD y 0)).map ((fun u => (colN (besN g h)).1.getD u 0) ∘ (g.length + ·)) := List.map_congr_left fun u _ => sh_right
  rw [e1, e2]
  exact hs
theorem map_getD (l : List Nat) (n : Nat) (h : l.length = n) : (List.range n).map (fun x => l.getD x 0) = l := by
  apply List.ext_getElem?
  intro i
  by_cases hi : i < n
  · simp [hi, h, List.getD_eq_getElem?_getD]
  · simp [hi, List.getElem?_eq_none (show l.length ≤ i by omega)]
theorem sh_len (g h : List Nat) : (shN g h).1.length = g.length ∧ (shN g h).2.length = h.length := by
  have := (colN_full (besN g h)).1
  rw [bes_len] at this
  simp [shN]
  omega
/-- From a tree there are as many maps into graphs that are alike. -/
theorem trees_true {t g h : List Nat} {par : Nat → Nat} (ht : Tre t par) (h1 : 1 ≤ t.length) (hg : Tow 6 g) (hh : Tow 6 h) (hl : likeN g h = true) : mapsN t g t.length [] = mapsN t h t.length [] := by
  obtain ⟨f, hf⟩ : ∃ f, t.length = f + 1 := ⟨t.length - 1, by omega⟩
  rw [hf, mapsN, mapsN]
  have e0 : ∀ g x, fitN t g [] x = true := fun g x => by simp [fitN]
  simp only [e0, if_true, List.nil_append]
  refine sum_col (c := (shN g h).1) (d := (shN g h).2) (n := g.length) (m := h.length) (fun x y hx hy hxy => ?_) _ _ (fun x hx => List.mem_range.1 hx) (fun x hx => List.mem_range.1 hx) ?_
  · refine tre_step ht hg hh (fun x y hx hy hc => sh_stab hg hh hx hy hc) f [x] [y] rfl (by simp) (by simp; omega) fun i hi => ?_
    have : i = 0 := by simp at hi; omega
    subst this
    exact ⟨hx, hy, hxy⟩
  · rw [map_getD _ _ (sh_len g h).1, map_getD _ _ (sh_len g h).2]
    exact like_perm hl
end Go.Proofs.YtfcbmcmkakceaaaDoor
