import Derived.Test.YtfcbmcmkakceaaaDoorLW5
/- LW6: complements; the number of turns divides the factorial. No program in sight. -/
set_option linter.unusedVariables false
set_option linter.unusedSimpArgs false
namespace Go.Proofs.YtfcbmcmkakceaaaDoor
/-- a without b, of small numbers. -/
def dif (a b : Nat) : Nat := a &&& (255 ^^^ b)
theorem dif_bit {a : Nat} (ha : a < 256) (b i : Nat) : (dif a b).testBit i = (a.testBit i && !b.testBit i) := by
  unfold dif
  rw [Nat.testBit_and, Nat.testBit_xor]
  rcases Nat.lt_or_ge i 8 with h | h
  · have : (255 : Nat).testBit i = true := by
      have : (255 : Nat) = 2 ^ 8 - 1 := rfl
      rw [this, Nat.testBit_two_pow_sub_one]
      simpa using h
    rw [this]
    simp
  · rw [Nat.testBit_lt_two_pow (Nat.lt_of_lt_of_le ha (Nat.pow_le_pow_right (n := 2) (by decide) h))]
    simp
theorem dif_le (a b : Nat) : dif a b ≤ a := Nat.and_le_left
/-- The complement of a graph. -/
def othN (g : List Nat) : List Nat := (List.range g.length).map fun i => dif (dif (2 ^ g.length - 1) (g.getD i 0)) (2 ^ i)
theorem oth_len (g : List Nat) : (othN g).length = g.length := by simp [othN]
theorem oth_bit {g : List Nat} (hg : Tow 6 g) {i : Nat} (hi : i < g.length) (j : Nat) : ((othN g).getD i 0).testBit j = (decide (j < g.length) && !(g.getD i 0).testBit j && !decide (i = j)) := by
  have h1 : 2 ^ g.length ≤ 2 ^ 6 := Nat.pow_le_pow_right (by decide) hg.le
  have h2 : 2 ^ g.length - 1 < 256 := by omega
  have h3 : dif (2 ^ g.length - 1) (g.getD i 0) < 256 := Nat.lt_of_le_of_lt (dif_le _ _) h2
  have e : (othN g).getD i 0 = dif (dif (2 ^ g.length - 1) (g.getD i 0)) (2 ^ i) := by simp [othN, List.getD_eq_getElem?_getD, hi]
  rw [e, dif_bit h3, dif_bit h2, Nat.testBit_two_pow_sub_one, Nat.testBit_two_pow]
theorem oth_tow {g : List Nat} (hg : Tow 6 g) : Tow 6 (othN g) where
  pos := by rw [oth_len]; exact hg.pos
  le := by rw [oth_len]; exact hg.le
  lt x hx := by
    rw [oth_len]
    obtain ⟨i, _, rfl⟩ := List.mem_map.1 hx
    have := dif_le (dif (2 ^ g.length - 1) (g.getD i 0)) (2 ^ i)
    have := dif_le (2 ^ g.length - 1) (g.getD i 0)
    have := Nat.two_pow_pos g.length
    omega
  irr i hi := by
    rw [oth_len] at hi
    rw [oth_bit hg hi]
    simp
  sym i j hi hj := by
    rw [oth_len] at hi hj
    rw [oth_bit hg hi, oth_bit hg hj, hg.sym i j hi hj]
    simp [hi, hj, eq_comm]
theorem oth_nb {g : List Nat} (hg : Tow 6 g) {i j : Nat} (hi : i < g.length) (hj : j < g.length) (h : i ≠ j) : nbN (othN g) i j = !nbN g i j := by
  unfold nbN
  rw [oth_bit hg hi]
  simp [hj, h]
theorem oth_oth {g : List Nat} (hg : Tow 6 g) : othN (othN g) = g := by
  apply List.ext_getElem?
  intro i
  by_cases hi : i < g.length
  · have h1 : (othN (othN g)).getD i 0 = g.getD i 0 := by
      apply Nat.eq_of_testBit_eq
      intro j
      rw [oth_bit (oth_tow hg) (by rw [oth_len]; exact hi), oth_bit hg hi, oth_len]
      by_cases hj : j < g.length
      · by_cases e : i = j
        · subst e
          simp [hg.irr i hi]
          exact hg.irr i hi
        · simp [hj, e]
      · have := Nat.testBit_lt_two_pow (Nat.lt_of_lt_of_le (hg.get i) (Nat.pow_le_pow_right (n := 2) (by decide) (show g.length ≤ j by omega)))
        rw [this]
        simp [hj]
    have e1 : (othN (othN g))[i]? = some ((othN (othN g)).getD i 0) := by
      have : i < (othN (othN g)).length := by rw [oth_len, oth_len]; exact hi
      simp [List.getD_eq_getElem?_getD, this]
    have e2 : g[i]? = some (g.getD i 0) := by simp [List.getD_eq_getElem?_getD, hi]
    rw [e1, e2, h1]
  · rw [List.getElem?_eq_none (by rw [oth_len, oth_len]; omega), List.getElem?_eq_none (by omega)]
theorem fit_oth {g h b : List Nat} (hg : Tow 6 g) (hh : Tow 6 h) (hb : b.length < g.length) (hbl : ∀ u, u < b.length → b.getD u 0 < h.length) {x : Nat} (hx : x < h.length) : fitS (othN g) (othN h) b x = fitS g h b x := by
  rw [Bool.eq_iff_iff, fitS_iff, fitS_iff]
  constructor
  · intro H u hu
    obtain ⟨h1, h2⟩ := H u hu
    rw [oth_nb hg hb (by omega) (by omega), oth_nb hh hx (hbl u hu) (Ne.symm h1)] at h2
    exact ⟨h1, by simpa using h2⟩
  · intro H u hu
    obtain ⟨h1, h2⟩ := H u hu
    rw [oth_nb hg hb (by omega) (by omega), oth_nb hh hx (hbl u hu) (Ne.symm h1), h2]
    exact ⟨h1, rfl⟩
theorem getD_snoc {b : List Nat} {x n : Nat} (hb : ∀ u, u < b.length → b.getD u 0 < n) (hx : x < n) : ∀ u, u < (b ++ [x]).length → (b ++ [x]).getD u 0 < n := by
  intro u hu
  by_cases e : u < b.length
  · have := hb u e
    simpa [List.getD_eq_getElem?_getD, List.getElem?_append_left e] using this
  · have : u = b.length := by simp at hu; omega
    subst this
    simpa [List.getD_eq_getElem?_getD] using hx
theorem names_oth {g h : List Nat} (hg : Tow 6 g) (hh : Tow 6 h) : ∀ (f : Nat) (b : List Nat), f + b.length = g.length → (∀ u, u < b.length → b.getD u 0 < h.length) → namesN (othN g) (othN h) f b = namesN g h f b
  | 0, _, _, _ => rfl
  | f + 1, b, hf, hb => by
    rw [namesN, namesN, oth_len]
    rw [List.flatMap_def, List.flatMap_def]
    congr 1
    refine List.map_congr_left fun x hx => ?_
    have hx' := List.mem_range.1 hx
    rw [fit_oth hg hh (by omega) hb hx']
    split
    · exact names_oth hg hh f (b ++ [x]) (by simp; omega) (getD_snoc hb hx')
    · rfl
theorem namesOf_oth {g h : List Nat} (hg : Tow 6 g) (hh : Tow 6 h) : namesOf (othN g) (othN h) = namesOf g h := by
  unfold namesOf
  rw [oth_len, oth_len, names_oth hg hh g.length [] (by simp) (by simp)]
/-- A node, its neighbours and its neighbours in the complement are all nodes. -/
theorem nd_split {g : List Nat} (hg : Tow 6 g) {x : Nat} (hx : x < g.length) : (x :: (ndN (g.getD x 0) ++ ndN ((othN g).getD x 0))).Perm (List.range g.length) := by
  have h12 : ∀ y, y < g.length → y < 12 := fun y hy => by have := hg.le; omega
  refine perm_nodup ?_ (nodup_range _) fun y => ?_
  · refine List.nodup_cons.2 ⟨?_, List.nodup_append.2 ⟨nd_nodup _, nd_nodup _, ?_⟩⟩
    · rw [List.mem_append, nd_mem, nd_mem, hg.irr x hx, oth_bit hg hx]
      simp
    · intro a ha b hb e
      subst e
      have h1 := (nd_mem.1 ha).2
      have h2 := (nd_mem.1 hb).2
      rw [oth_bit hg hx, h1] at h2
      simp at h2
  · rw [List.mem_cons, List.mem_append, nd_mem, nd_mem, oth_bit hg hx, List.mem_range]
    constructor
    · rintro (rfl | h | h)
      · exact hx
      · apply Classical.byContradiction
        intro hc
        have := Nat.testBit_lt_two_pow (Nat.lt_of_lt_of_le (hg.get x) (Nat.pow_le_pow_right (n := 2) (by decide) (show g.length ≤ y by omega)))
        rw [this] at h
        simp at h
      · have := h.2
        simp at this
        exact this.1.1
    · intro hy
      by_cases e : x = y
      · exact .inl e.symm
      · cases hb : (g.getD x 0).testBit y with
        | true => exact .inr (.inl ⟨h12 y hy, rfl⟩)
        | false => exact .inr (.inr ⟨h12 y hy, by simp [hy, e]⟩)
theorem like_oth_one {g h : List Nat} (hg : Tow 6 g) (hh : Tow 6 h) (hl : likeN g h = true) : likeN (othN g) (othN h) = true := by
  have hP : ((List.range g.length).map fun u => (shN g h).1.getD u 0).Perm ((List.range h.length).map fun u => (shN g h).2.getD u 0) := by
    rw [map_getD _ _ (sh_len g h).1, map_getD _ _ (sh_len g h).2]
    exact like_perm hl
  have hJ := sh_jst hg hh
  generalize (shN g h).1 = c at *
  generalize (shN g h).2 = d at *
  refine like_of (c := c) (d := d) (oth_tow hg) (oth_tow hh) (fun x y hx hy hc => ?_) (by rw [oth_len, oth_len]; exact hP)
  rw [oth_len] at hx hy
  have h1 := ((nd_split hg hx).map fun u => c.getD u 0).trans (hP.trans ((nd_split hh hy).map fun u => d.getD u 0).symm)
  have h2 := hJ x y hx hy hc
  rw [List.map_cons, List.map_cons, List.map_append, List.map_append, hc] at h1
  have h3 := (List.perm_cons _).1 h1
  exact (List.perm_append_left_iff _).1 (h3.trans (h2.symm.append_right _))
theorem like_oth {g h : List Nat} (hg : Tow 6 g) (hh : Tow 6 h) : likeN (othN g) (othN h) = likeN g h := by
  rw [Bool.eq_iff_iff]
  constructor
  · intro h1
    have := like_oth_one (oth_tow hg) (oth_tow hh) h1
    rwa [oth_oth hg, oth_oth hh] at this
  · exact like_oth_one hg hh
/-- One naming after another. -/
def compL (p a : List Nat) : List Nat := a.map fun i => p.getD i 0
theorem comp_get {p a : List Nat} {i : Nat} (hi : i < a.length) : (compL p a).getD i 0 = p.getD (a.getD i 0) 0 := by simp [compL, List.getD_eq_getElem?_getD, hi]
theorem Iso.comp {g h k a p : List Nat} (ha : Iso g h a) (hp : Iso h k p) : Iso g k (compL p a) := by
  have hc : ∀ v, v < g.length → (compL p a).getD v 0 = p.getD (a.getD v 0) 0 := fun v hv => comp_get (by rw [ha.len]; exact hv)
  refine ⟨ha.eq.trans hp.eq, by simp [compL, ha.len], fun v hv => ?_, fun u v hu hv e => ?_, fun u v hu hv => ?_⟩
  · rw [hc v hv]
    exact hp.lt _ (ha.lt v hv)
  · rw [hc u hu, hc v hv] at e
    exact ha.inj u v hu hv (hp.inj _ _ (ha.lt u hu) (ha.lt v hv) e)
  · rw [hc u hu, hc v hv, ha.nb u v hu hv, hp.nb _ _ (ha.lt u hu) (ha.lt v hv)]
def invL (a : List Nat) : List Nat := (List.range a.length).map fun y => a.idxOf y
theorem idx_get {a : List Nat} {y : Nat} (h : y ∈ a) : a.getD (a.idxOf y) 0 = y := by
  have := List.idxOf_lt_length_of_mem h
  simp [List.getD_eq_getElem?_getD, this]
theorem inv_get {a : List Nat} {y : Nat} (h : y < a.length) : (invL a).getD y 0 = a.idxOf y := by simp [invL, List.getD_eq_getElem?_getD, h]
theorem Iso.mem {g h a : List Nat} (ha : Iso g h a) {y : Nat} (hy : y < h.length) : y ∈ a := by
  obtain ⟨v, hv, rfl⟩ := ha.onto hy
  have : v < a.length := by rw [ha.len]; exact hv
  simp [List.getD_eq_getElem?_getD, this]
theorem Iso.inv {g h a : List Nat} (ha : Iso g h a) : Iso h g (invL a) := by
  have hl : a.length = h.length := ha.len.trans ha.eq
  have hi : ∀ y, y < h.length → (invL a).getD y 0 < g.length ∧ a.getD ((invL a).getD y 0) 0 = y := fun y hy => by
    rw [inv_get (by omega)]
    have := List.idxOf_lt_length_of_mem (ha.mem hy)
    exact ⟨by rw [← ha.len]; exact this, idx_get (ha.mem hy)⟩
  refine ⟨ha.eq.symm, by simp [invL, hl], fun v hv => (hi v hv).1, fun u v hu hv e => ?_, fun u v hu hv => ?_⟩
  · rw [← (hi u hu).2, ← (hi v hv).2, e]
  · rw [ha.nb _ _ (hi u hu).1 (hi v hv).1, (hi u hu).2, (hi v hv).2]
theorem list_getD {l m : List Nat} (hl : l.length = m.length) (h : ∀ i, i < l.length → l.getD i 0 = m.getD i 0) : l = m := by
  apply List.ext_getElem hl
  intro i h1 h2
  have := h i h1
  simpa [List.getD_eq_getElem?_getD, h1, h2] using this
theorem comp_assoc {p a b : List Nat} (h : ∀ i, i < b.length → b.getD i 0 < a.length) : compL (compL p a) b = compL p (compL a b) := by
  refine list_getD (by simp [compL]) fun i hi => ?_
  have hi' : i < b.length := by simpa [compL] using hi
  rw [comp_get hi', comp_get (h i hi'), comp_get (by simpa [compL] using hi'), comp_get hi']
theorem comp_inv {g h a p : List Nat} (ha : Iso g h a) (hp : p.length = h.length) : compL (compL p a) (invL a) = p := by
  have hl : a.length = h.length := ha.len.trans ha.eq
  refine list_getD (by simp [compL, invL, hl, hp]) fun i hi => ?_
  have hi' : i < h.length := by simpa [compL, invL, hl] using hi
  rw [comp_get (by simpa [invL, hl] using hi'), inv_get (by omega), comp_get (List.idxOf_lt_length_of_mem (ha.mem hi')), idx_get (ha.mem hi')]
theorem Iso.refl {n : Nat} {g : List Nat} (hg : Tow n g) : Iso g g (List.range g.length) := by
  have h : ∀ v, v < g.length → (List.range g.length).getD v 0 = v := fun v hv => by simp [List.getD_eq_getElem?_getD, hv]
  refine ⟨rfl, by simp, fun v hv => by rw [h v hv]; exact hv, fun u v hu hv e => by rwa [h u hu, h v hv] at e, fun u v hu hv => by rw [h u hu, h v hv]⟩
theorem names_nodup {g h : List Nat} : ∀ (f : Nat) (b : List Nat), (namesN g h f b).Nodup
  | 0, b => by simp [namesN]
  | f + 1, b => by
    rw [namesN]
    refine List.pairwise_flatMap.2 ⟨fun x _ => ?_, ?_⟩
    · split
      · exact names_nodup f _
      · simp
    · refine (List.nodup_iff_pairwise_ne.1 (nodup_range h.length)).imp fun {x y} hxy => ?_
      intro l hl m hm e
      subst e
      split at hl
      · split at hm
        · have h1 := ((names_mem f (b ++ [x]) l).1 hl).2.1
          have h2 := ((names_mem f (b ++ [y]) l).1 hm).2.1
          simp only [List.length_append, List.length_cons, List.length_nil] at h1 h2
          rw [h1] at h2
          simp at h2
          exact hxy h2
        · simp at hm
      · simp at hl
theorem namesOf_nodup (g h : List Nat) : (namesOf g h).Nodup := by
  unfold namesOf
  split
  · exact names_nodup _ _
  · simp
theorem filt_len {α : Type} (p : α → Bool) : ∀ l : List α, l.length = (l.filter p).length + (l.filter fun x => !p x).length
  | [] => rfl
  | x :: l => by
    have := filt_len p l
    cases h : p x <;> simp [h] <;> omega
/-- Classes of one size. -/
theorem coset {n k : Nat} {A : List (List Nat)} (hA : A.Nodup) (hk : A.length = k) (hn : ∀ a ∈ A, a.length = n ∧ ∀ i, i < n → a.getD i 0 < n) (hcl : ∀ a ∈ A, ∀ b ∈ A, compL a b ∈ A)
    (hinv : ∀ a ∈ A, ∃ a' ∈ A, ∀ p : List Nat, p.length = n → compL (compL p a) a' = p) (hone : ∃ a ∈ A, ∀ p : List Nat, p.length = n → compL p a = p) :
    ∀ (m : Nat) (L : List (List Nat)), L.length ≤ m → L.Nodup → (∀ p ∈ L, p.length = n ∧ ∀ u v, u < n → v < n → p.getD u 0 = p.getD v 0 → u = v) → (∀ p ∈ L, ∀ a ∈ A, compL p a ∈ L) → k ∣ L.length
  | 0, L, hm, _, _, _ => by rw [show L.length = 0 by omega]; exact Nat.dvd_zero k
  | m + 1, [], _, _, _, _ => Nat.dvd_zero k
  | m + 1, p :: L, hm, hL, hp, hc => by
    obtain ⟨hpn, hpi⟩ := hp p (by simp)
    obtain ⟨e, he, hee⟩ := hone
    have hC : (A.map (compL p)).Nodup := by
      rw [List.nodup_iff_pairwise_ne, List.pairwise_map]
      refine (List.nodup_iff_pairwise_ne.1 hA).imp_of_mem fun {a b} ha hb hab => ?_
      intro e
      refine hab (list_getD (by rw [(hn a ha).1, (hn b hb).1]) fun i hi => ?_)
      have hin : i < n := by rw [← (hn a ha).1]; exact hi
      have h1 : (compL p a).getD i 0 = (compL p b).getD i 0 := by rw [e]
      rw [comp_get hi, comp_get (by rw [(hn b hb).1]; exact hin)] at h1
      exact hpi _ _ ((hn a ha).2 i hin) ((hn b hb).2 i hin) h1
    have hsub : ∀ q ∈ A.map (compL p), q ∈ p :: L := fun q hq => by
      obtain ⟨a, ha, rfl⟩ := List.mem_map.1 hq
      exact hc p (by simp) a ha
    have hlen : (p :: L).length = (A.map (compL p)).length + ((p :: L).filter fun q => !(A.map (compL p)).contains q).length := by
      have h1 : ((p :: L).filter fun q => (A.map (compL p)).contains q).Perm (A.map (compL p)) := by
        refine (List.perm_ext_iff_of_nodup (hL.filter _) hC).2 fun q => ?_
        rw [List.mem_filter]
        constructor
        · intro h; simpa using h.2
        · intro h; exact ⟨hsub q h, by simpa using h⟩
      have h2 := filt_len (fun q => (A.map (compL p)).contains q) (p :: L)
      rw [h1.length_eq] at h2
      exact h2
    have hrec := coset hA hk hn hcl hinv ⟨e, he, hee⟩ m ((p :: L).filter fun q => !(A.map (compL p)).contains q) (by
      have hpos : 0 < (A.map (compL p)).length := List.length_pos_of_mem (List.mem_map.2 ⟨e, he, rfl⟩)
      simp only [List.length_cons] at hlen hm ⊢
      omega) (hL.filter _) (fun q hq => hp q (List.mem_filter.1 hq).1) fun q hq a ha => by
        obtain ⟨h1, h2⟩ := List.mem_filter.1 hq
        refine List.mem_filter.2 ⟨hc q h1 a ha, ?_⟩
        simp only [Bool.not_eq_true', List.contains_eq_mem, decide_eq_false_iff_not] at h2 ⊢
        intro h3
        obtain ⟨b, hb, hbe⟩ := List.mem_map.1 h3
        obtain ⟨a', ha', hai⟩ := hinv a ha
        refine h2 (List.mem_map.2 ⟨compL b a', hcl b hb a' ha', ?_⟩)
        rw [← comp_assoc (fun i hi => by rw [(hn b hb).1]; exact (hn a' ha').2 i (by rw [← (hn a' ha').1]; exact hi)), hbe, hai q (hp q h1).1]
    rw [hlen, List.length_map, hk]
    exact Nat.dvd_add (Nat.dvd_refl k) hrec
/-- The permutations: namings of a graph without edges. -/
def zeroN (n : Nat) : List Nat := List.replicate n 0
theorem zero_tow {n : Nat} (h1 : 1 ≤ n) : Tow n (zeroN n) where
  pos := by simpa [zeroN] using h1
  le := by simp [zeroN]
  lt x hx := by rw [(List.mem_replicate.1 hx).2]; exact Nat.two_pow_pos _
  irr i hi := by rw [show (zeroN n).getD i 0 = 0 from rep_get n i]; simp
  sym i j hi hj := by rw [show (zeroN n).getD i 0 = 0 from rep_get n i, show (zeroN n).getD j 0 = 0 from rep_get n j]; simp
def facN : Nat → Nat
  | 0 => 1
  | n + 1 => (n + 1) * facN n
theorem sum_const (k : Nat) : ∀ l : List Nat, (l.map fun _ => k).sum = l.length * k
  | [] => by simp
  | x :: l => by simp [sum_const k l, Nat.add_mul, Nat.add_comm]
theorem perms_len {n : Nat} : ∀ (f : Nat) (b : List Nat), f + b.length = n → b.Nodup → (∀ x ∈ b, x < n) → (namesN (zeroN n) (zeroN n) f b).length = facN f
  | 0, b, _, _, _ => by simp [namesN, facN]
  | f + 1, b, hf, hb, hlt => by
    have hfit : ∀ x, fitS (zeroN n) (zeroN n) b x = !b.contains x := fun x => by
      have hz : ∀ i j, nbN (zeroN n) i j = false := fun i j => by unfold nbN; rw [show (zeroN n).getD i 0 = 0 from rep_get n i]; simp
      rw [Bool.eq_iff_iff, fitS_iff]
      simp only [hz, Bool.not_eq_true', List.contains_eq_mem, decide_eq_false_iff_not, and_true]
      constructor
      · intro h hm
        obtain ⟨u, hu, rfl⟩ := List.mem_iff_getElem.1 hm
        exact h u hu (by simp [List.getD_eq_getElem?_getD, hu])
      · intro h u hu e
        apply h
        rw [← e]
        simp [List.getD_eq_getElem?_getD, hu]
    rw [namesN, List.length_flatMap, show (zeroN n).length = n by simp [zeroN]]
    have h1 : ((List.range n).map fun x => (if fitS (zeroN n) (zeroN n) b x then namesN (zeroN n) (zeroN n) f (b ++ [x]) else []).length) = (List.range n).map fun x => if !b.contains x then facN f else 0 := by
      refine List.map_congr_left fun x hx => ?_
      rw [hfit]
      by_cases h : b.contains x = true
      · rw [h]; simp
      · rw [Bool.not_eq_true] at h
        rw [h]
        simp only [Bool.not_false, if_true]
        refine perms_len f (b ++ [x]) (by simp; omega) (List.nodup_append.2 ⟨hb, by simp, fun a ha c hc e => ?_⟩) fun y hy => ?_
        · have : c = x := by simpa using hc
          subst this
          subst e
          simp at h
          exact h ha
        · rcases List.mem_append.1 hy with h' | h'
          · exact hlt y h'
          · have : y = x := by simpa using h'
            rw [this]
            exact List.mem_range.1 hx
    rw [h1, sum_filter, sum_const]
    have h2 := filt_len (fun x => b.contains x) (List.range n)
    have h3 : ((List.range n).filter fun x => b.contains x).length = b.length := by
      refine List.Perm.length_eq (perm_nodup ((nodup_range n).filter _) hb fun x => ?_)
      rw [List.mem_filter, List.mem_range]
      constructor
      · intro h; simpa using h.2
      · intro h; exact ⟨hlt x h, by simpa using h⟩
    rw [h3, List.length_range] at h2
    rw [show ((List.range n).filter fun x => !b.contains x).length = f + 1 by omega]
    rfl
/-- The turns of a graph. -/
theorem turns_true {n : Nat} {g : List Nat} (hg : Tow n g) : 0 < (namesOf g g).length ∧ (namesOf g g).length ∣ facN g.length := by
  have hz := zero_tow hg.pos
  have hone : List.range g.length ∈ namesOf g g := (names_iso hg hg).2 (Iso.refl hg)
  refine ⟨List.length_pos_of_mem hone, ?_⟩
  have hzl : (zeroN g.length).length = g.length := by simp [zeroN]
  have hPl : (namesOf (zeroN g.length) (zeroN g.length)).length = facN g.length := by
    unfold namesOf
    rw [if_pos rfl, hzl]
    exact perms_len g.length [] (by simp) (by simp) (by simp)
  have hzero : ∀ a, Iso g g a → Iso (zeroN g.length) (zeroN g.length) a := fun a ha => by
    refine ⟨rfl, by rw [hzl]; exact ha.len, fun v hv => by rw [hzl] at *; exact ha.lt v hv, fun u v hu hv e => by rw [hzl] at *; exact ha.inj u v hu hv e, fun u v hu hv => ?_⟩
    unfold nbN
    rw [show (zeroN g.length).getD u 0 = 0 from rep_get _ _, show (zeroN g.length).getD (a.getD u 0) 0 = 0 from rep_get _ _]
    simp
  rw [← hPl]
  refine coset (n := g.length) (A := namesOf g g) (namesOf_nodup g g) rfl (fun a ha => ?_) (fun a ha b hb => ?_) (fun a ha => ?_) ⟨_, hone, fun p hp => ?_⟩ _ _ (Nat.le_refl _) (namesOf_nodup _ _) (fun p hp => ?_) (fun p hp a ha => ?_)
  · have hi := (names_iso hg hg).1 ha
    exact ⟨hi.len, hi.lt⟩
  · exact (names_iso hg hg).2 (((names_iso hg hg).1 hb).comp ((names_iso hg hg).1 ha))
  · have hi := (names_iso hg hg).1 ha
    exact ⟨_, (names_iso hg hg).2 hi.inv, fun p hp => comp_inv hi hp⟩
  · refine list_getD (by simp [compL, hp]) fun i hi => ?_
    have hi' : i < g.length := by simpa [compL] using hi
    rw [comp_get (by simpa using hi')]
    simp [List.getD_eq_getElem?_getD, hi']
  · have hi := (names_iso hz hz).1 hp
    exact ⟨by rw [hi.len, hzl], fun u v hu hv e => hi.inj u v (by rw [hzl]; exact hu) (by rw [hzl]; exact hv) e⟩
  · exact (names_iso hz hz).2 ((hzero a ((names_iso hg hg).1 ha)).comp ((names_iso hz hz).1 hp))
end Go.Proofs.YtfcbmcmkakceaaaDoor
