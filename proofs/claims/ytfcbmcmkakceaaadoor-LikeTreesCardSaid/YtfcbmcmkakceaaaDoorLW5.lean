import Derived.Test.YtfcbmcmkakceaaaDoorLW4
/- LW5: names of nodes; what they leave as it is. No program in sight. -/
set_option linter.unusedVariables false
set_option linter.unusedSimpArgs false
namespace Go.Proofs.YtfcbmcmkakceaaaDoor
/-- Whether x can be the name of the next node. -/
def fitS (g h b : List Nat) (x : Nat) : Bool := (List.range b.length).all fun u => (b.getD u 0 != x) && (nbN g b.length u == nbN h x (b.getD u 0))
/-- All namings that go on from some. -/
def namesN (g h : List Nat) : Nat → List Nat → List (List Nat)
  | 0, b => [b]
  | f + 1, b => (List.range h.length).flatMap fun x => if fitS g h b x then namesN g h f (b ++ [x]) else []
def namesOf (g h : List Nat) : List (List Nat) := if g.length = h.length then namesN g h g.length [] else []
/-- What a naming is. -/
def Nm (g h l : List Nat) (k : Nat) : Prop := ∀ v, k ≤ v → v < l.length → l.getD v 0 < h.length ∧ ∀ u, u < v → l.getD u 0 ≠ l.getD v 0 ∧ nbN g v u = nbN h (l.getD v 0) (l.getD u 0)
theorem fitS_iff {g h b : List Nat} {x : Nat} : fitS g h b x = true ↔ ∀ u, u < b.length → b.getD u 0 ≠ x ∧ nbN g b.length u = nbN h x (b.getD u 0) := by
  unfold fitS
  simp only [List.all_eq_true, List.mem_range, Bool.and_eq_true, bne_iff_ne, beq_iff_eq]
theorem names_mem {g h : List Nat} : ∀ (f : Nat) (b l : List Nat), l ∈ namesN g h f b ↔ l.length = b.length + f ∧ l.take b.length = b ∧ Nm g h l b.length
  | 0, b, l => by
    rw [namesN, List.mem_singleton]
    constructor
    · rintro rfl
      exact ⟨rfl, List.take_length, fun v h1 h2 => by omega⟩
    · rintro ⟨h1, h2, _⟩
      rw [← h2, List.take_of_length_le (by omega)]
  | f + 1, b, l => by
    rw [namesN, List.mem_flatMap]
    constructor
    · rintro ⟨x, hx, hl⟩
      split at hl
      · rename_i hfit
        obtain ⟨h1, h2, h3⟩ := (names_mem f (b ++ [x]) l).1 hl
        simp only [List.length_append, List.length_cons, List.length_nil] at h1 h2 h3
        have hbl : b.length < l.length := by omega
        have ht : l.take b.length = b := by
          have := congrArg (List.take b.length) h2
          rw [List.take_take, Nat.min_eq_left (by omega)] at this
          simpa using this
        refine ⟨by omega, ht, fun v hv hvl => ?_⟩
        rcases Nat.lt_or_ge b.length v with h4 | h4
        · exact h3 v (by omega) hvl
        · have e : v = b.length := by omega
          subst e
          have hg : ∀ u, u < b.length → l.getD u 0 = b.getD u 0 := fun u hu => by
            rw [← ht]
            simp [List.getD_eq_getElem?_getD, List.getElem?_take_of_lt hu]
          have hx' : l.getD b.length 0 = x := by
            have : (l.take (b.length + (0 + 1)))[b.length]? = some x := by rw [h2]; simp
            rw [List.getElem?_take_of_lt (by omega)] at this
            simp [List.getD_eq_getElem?_getD, this]
          refine ⟨by rw [hx']; exact List.mem_range.1 hx, fun u hu => ?_⟩
          rw [hx', hg u hu]
          exact fitS_iff.1 hfit u hu
      · simp at hl
    · rintro ⟨h1, h2, h3⟩
      have hbl : b.length < l.length := by omega
      obtain ⟨q1, q2⟩ := h3 b.length (Nat.le_refl _) hbl
      have hg : ∀ u, u < b.length → l.getD u 0 = b.getD u 0 := fun u hu => by
        conv => rhs; rw [← h2]
        simp [List.getD_eq_getElem?_getD, List.getElem?_take_of_lt hu]
      refine ⟨l.getD b.length 0, List.mem_range.2 q1, ?_⟩
      rw [if_pos (fitS_iff.2 fun u hu => by rw [← hg u hu]; exact q2 u hu)]
      refine (names_mem f _ l).2 ⟨by simp; omega, ?_, fun v hv hvl => h3 v (by simp at hv; omega) hvl⟩
      rw [List.length_append, List.length_cons, List.length_nil, List.take_add_one, h2]
      simp [List.getD_eq_getElem?_getD, hbl]
/-- A naming of all nodes. -/
structure Iso (g h l : List Nat) : Prop where
  eq : g.length = h.length
  len : l.length = g.length
  lt : ∀ v, v < g.length → l.getD v 0 < h.length
  inj : ∀ u v, u < g.length → v < g.length → l.getD u 0 = l.getD v 0 → u = v
  nb : ∀ u v, u < g.length → v < g.length → nbN g u v = nbN h (l.getD u 0) (l.getD v 0)
theorem names_iso {n : Nat} {g h l : List Nat} (hg : Tow n g) (hh : Tow n h) : l ∈ namesOf g h ↔ Iso g h l := by
  unfold namesOf
  constructor
  · intro hl
    split at hl
    · rename_i he
      obtain ⟨h1, _, h3⟩ := (names_mem _ _ _).1 hl
      simp only [List.length_nil, Nat.zero_add] at h1 h3
      have hlt : ∀ v, v < g.length → l.getD v 0 < h.length := fun v hv => (h3 v (Nat.zero_le _) (by omega)).1
      refine ⟨he, h1, hlt, fun u v hu hv e => ?_, fun u v hu hv => ?_⟩
      · rcases Nat.lt_trichotomy u v with h5 | h5 | h5
        · exact absurd e ((h3 v (Nat.zero_le _) (by omega)).2 u h5).1
        · exact h5
        · exact absurd e.symm ((h3 u (Nat.zero_le _) (by omega)).2 v h5).1
      · rcases Nat.lt_trichotomy u v with h5 | h5 | h5
        · rw [nb_sym hg hu hv, nb_sym hh (hlt u hu) (hlt v hv)]
          exact ((h3 v (Nat.zero_le _) (by omega)).2 u h5).2
        · subst h5
          rw [show nbN g u u = false from hg.irr u hu, show nbN h _ _ = false from hh.irr _ (hlt u hu)]
        · exact ((h3 u (Nat.zero_le _) (by omega)).2 v h5).2
    · simp at hl
  · intro h
    rw [if_pos h.eq]
    refine (names_mem _ _ _).2 ⟨by simp [h.len], by simp, fun v _ hv => ?_⟩
    have hv' : v < g.length := by rw [← h.len]; exact hv
    exact ⟨h.lt v hv', fun u hu => ⟨fun e => by have := h.inj u v (by omega) hv' e; omega, h.nb v u hv' (by omega)⟩⟩
theorem nodup_sub : ∀ {l m : List Nat}, l.Nodup → (∀ x ∈ l, x ∈ m) → l.length ≤ m.length
  | [], _, _, _ => Nat.zero_le _
  | x :: l, m, hn, hs => by
    have h1 := List.nodup_cons.1 hn
    have h2 := hs x (by simp)
    have := nodup_sub (l := l) (m := m.erase x) h1.2 fun y hy => (List.mem_erase_of_ne (show y ≠ x by rintro rfl; exact h1.1 hy)).2 (hs y (by simp [hy]))
    rw [List.length_erase_of_mem h2] at this
    have := List.length_pos_of_mem h2
    simp only [List.length_cons]
    omega
theorem nodup_all {n : Nat} {l : List Nat} (hn : l.Nodup) (hl : l.length = n) (h : ∀ x ∈ l, x < n) : ∀ i, i < n → i ∈ l := by
  intro i hi
  apply Classical.byContradiction
  intro hc
  have := nodup_sub (l := i :: l) (m := List.range n) (List.nodup_cons.2 ⟨hc, hn⟩) fun x hx => by
    rcases List.mem_cons.1 hx with rfl | hx
    · exact List.mem_range.2 hi
    · exact List.mem_range.2 (h x hx)
  simp [hl] at this
  omega
theorem Iso.nodup {g h l : List Nat} (hi : Iso g h l) : l.Nodup := by
  rw [List.nodup_iff_pairwise_ne, List.pairwise_iff_getElem]
  intro i j h1 h2 hij e
  have := hi.inj i j (by rw [← hi.len]; exact h1) (by rw [← hi.len]; exact h2) (by simp [List.getD_eq_getElem?_getD, h1, h2, e])
  omega
theorem Iso.onto {g h l : List Nat} (hi : Iso g h l) {y : Nat} (hy : y < h.length) : ∃ v, v < g.length ∧ l.getD v 0 = y := by
  have := nodup_all hi.nodup (n := h.length) (by rw [hi.len, hi.eq]) (fun x hx => by
    obtain ⟨v, hv, rfl⟩ := List.mem_iff_getElem.1 hx
    have := hi.lt v (by rw [← hi.len]; exact hv)
    simpa [List.getD_eq_getElem?_getD, hv] using this) y hy
  obtain ⟨v, hv, hvy⟩ := List.mem_iff_getElem.1 this
  exact ⟨v, by rw [← hi.len]; exact hv, by simp [List.getD_eq_getElem?_getD, hv, hvy]⟩
theorem nodup_range (n : Nat) : (List.range n).Nodup := List.nodup_range
theorem nd_mem {s x : Nat} : x ∈ ndN s ↔ x < 12 ∧ s.testBit x = true := by simp [ndN, List.mem_filter]
theorem nd_nodup (s : Nat) : (ndN s).Nodup := (nodup_range 12).filter _
theorem perm_nodup {l m : List Nat} (hl : l.Nodup) (hm : m.Nodup) (h : ∀ x, x ∈ l ↔ x ∈ m) : l.Perm m := (List.perm_ext_iff_of_nodup hl hm).2 h
theorem nodup_map {l : List Nat} {f : Nat → Nat} (hl : l.Nodup) (h : ∀ x ∈ l, ∀ y ∈ l, f x = f y → x = y) : (l.map f).Nodup := by
  induction l with
  | nil => simp
  | cons x l ih =>
    have h1 := List.nodup_cons.1 hl
    rw [List.map_cons, List.nodup_cons]
    refine ⟨fun hm => ?_, ih h1.2 fun a ha b hb => h a (by simp [ha]) b (by simp [hb])⟩
    obtain ⟨y, hy, e⟩ := List.mem_map.1 hm
    have := h y (by simp [hy]) x (by simp) e
    subst this
    exact h1.1 hy
theorem nd_lt {n : Nat} {t : List Nat} (ht : Tow n t) (hn : n ≤ 12) {x v : Nat} (hx : x ∈ ndN (t.getD v 0)) : x < t.length := by
  have h1 := ht.get v
  rw [← nd_filter (by have := ht.le; omega) h1] at hx
  exact List.mem_range.1 (List.mem_filter.1 hx).1
/-- The neighbours' names are the neighbours of the name. -/
theorem Iso.near {n : Nat} {g h l : List Nat} (hi : Iso g h l) (hg : Tow n g) (hh : Tow n h) (hn : n ≤ 12) {v : Nat} (hv : v < g.length) : ((ndN (g.getD v 0)).map fun u => l.getD u 0).Perm (ndN (h.getD (l.getD v 0) 0)) := by
  refine perm_nodup (nodup_map (nd_nodup _) fun x hx y hy e => hi.inj x y (nd_lt hg hn hx) (nd_lt hg hn hy) e) (nd_nodup _) fun y => ?_
  constructor
  · intro hm
    obtain ⟨u, hu, rfl⟩ := List.mem_map.1 hm
    have hul := nd_lt hg hn hu
    have h1 := hi.nb v u hv hul
    rw [show nbN g v u = true from (nd_mem.1 hu).2] at h1
    exact nd_mem.2 ⟨by have := hi.lt u hul; have := hh.le; omega, h1.symm⟩
  · intro hm
    have hyl := nd_lt hh hn hm
    obtain ⟨u, hu, rfl⟩ := hi.onto hyl
    refine List.mem_map.2 ⟨u, nd_mem.2 ⟨by have := hg.le; omega, ?_⟩, rfl⟩
    have h1 := hi.nb v u hv hu
    rw [show nbN h (l.getD v 0) (l.getD u 0) = true from (nd_mem.1 hm).2] at h1
    exact h1
theorem refN_get {t c : List Nat} {v : Nat} (hv : v < t.length) : (refN t c).getD v 0 = rkL (kindsL (kdsN t c)) (kdN t c v) := by
  simp [refN, kdsN, List.getD_eq_getElem?_getD, hv]
theorem srt_perm {a b : List Nat} (h : a.Perm b) : srtN a = srtN b := srtN_of (srtN_sorted a) ((srtN_perm a).trans h)
/-- Colours of a graph and of a renamed one. -/
def Cols (g l c d : List Nat) : Prop := ∀ v, v < g.length → d.getD (l.getD v 0) 0 = c.getD v 0
theorem Iso.kd {n : Nat} {g h l c d : List Nat} (hi : Iso g h l) (hg : Tow n g) (hh : Tow n h) (hn : n ≤ 12) (hc : Cols g l c d) {v : Nat} (hv : v < g.length) : kdN h d (l.getD v 0) = kdN g c v := by
  unfold kdN
  rw [hc v hv]
  congr 1
  refine srt_perm ?_
  have h1 := ((hi.near hg hh hn hv).map fun u => d.getD u 0).symm
  rw [List.map_map] at h1
  refine h1.trans (List.Perm.of_eq (List.map_congr_left fun u hu => hc u (nd_lt hg hn hu)))
theorem Iso.kinds {n : Nat} {g h l c d : List Nat} (hi : Iso g h l) (hg : Tow n g) (hh : Tow n h) (hn : n ≤ 12) (hc : Cols g l c d) : kindsL (kdsN h d) = kindsL (kdsN g c) := by
  refine ris_unique (kinds_ris _) (kinds_ris _) fun x => ?_
  rw [kinds_mem, kinds_mem]
  unfold kdsN
  simp only [List.mem_map, List.mem_range]
  constructor
  · rintro ⟨y, hy, rfl⟩
    obtain ⟨v, hv, rfl⟩ := hi.onto hy
    exact ⟨v, hv, (hi.kd hg hh hn hc hv).symm⟩
  · rintro ⟨v, hv, rfl⟩
    exact ⟨_, hi.lt v hv, hi.kd hg hh hn hc hv⟩
theorem Iso.ref {n : Nat} {g h l c d : List Nat} (hi : Iso g h l) (hg : Tow n g) (hh : Tow n h) (hn : n ≤ 12) (hc : Cols g l c d) : Cols g l (refN g c) (refN h d) ∧ mostN (refN h d) = mostN (refN g c) := by
  refine ⟨fun v hv => ?_, ?_⟩
  · rw [refN_get hv, refN_get (hi.lt v hv), hi.kd hg hh hn hc hv, hi.kinds hg hh hn hc]
  · rw [refN_most, refN_most, hi.kinds hg hh hn hc]
theorem Iso.colW {n : Nat} {g h l : List Nat} (hi : Iso g h l) (hg : Tow n g) (hh : Tow n h) (hn : n ≤ 12) : ∀ {c d : List Nat} {r : Nat}, Full g.length c → Full h.length d → mostN c = mostN d → Cols g l c d → Cols g l (colW g c r).1 (colW h d r).1 ∧ (colW h d r).2 = (colW g c r).2
  | c, d, r, hf, hf', hm, hc => by
    obtain ⟨h1, h2⟩ := hi.ref hg hh hn hc
    by_cases hq : mostN (refN g c) = mostN c
    · rw [colW_stop hq, colW_stop (by omega)]
      exact ⟨hc, rfl⟩
    · rw [colW_go hf hq, colW_go hf' (by omega)]
      exact hi.colW hg hh hn (refN_full g c) (refN_full h d) h2.symm h1
termination_by c => g.length - mostN c
decreasing_by
  have h1 := most_mono hf
  have h2 := full_le (refN_full g c)
  omega
theorem rep_get (n v : Nat) : (List.replicate n 0).getD v 0 = 0 := by
  rw [List.getD_eq_getElem?_getD]
  cases h : (List.replicate n 0)[v]? with
  | none => rfl
  | some x => exact (List.mem_replicate.1 (List.mem_of_getElem? h)).2
/-- Names change the colours' places alone. -/
theorem Iso.colN {n : Nat} {g h l : List Nat} (hi : Iso g h l) (hg : Tow n g) (hh : Tow n h) (hn : n ≤ 12) : Cols g l (colN g).1 (colN h).1 ∧ (colN h).2 = (colN g).2 :=
  hi.colW hg hh hn (full_zero _) (full_zero _) (by rw [hi.eq]) fun v hv => by rw [rep_get, rep_get]
/-- Colours of two graphs, together: who has the same has as many neighbours of each. -/
def JSt (g h c d : List Nat) : Prop := ∀ x y, x < g.length → y < h.length → c.getD x 0 = d.getD y 0 → ((ndN (g.getD x 0)).map fun u => c.getD u 0).Perm ((ndN (h.getD y 0)).map fun u => d.getD u 0)
theorem perm_col {F G : Nat → Nat} {c d : List Nat} {n m : Nat} (ih : ∀ x y, x < n → y < m → c.getD x 0 = d.getD y 0 → F x = G y) (A B : List Nat) (mA : ∀ x ∈ A, x < n) (mB : ∀ y ∈ B, y < m)
    (hP : (A.map fun u => c.getD u 0).Perm (B.map fun u => d.getD u 0)) : (A.map F).Perm (B.map G) := by
  rw [List.perm_iff_count]
  intro k
  have := sum_col (F := fun x => if F x = k then 1 else 0) (G := fun y => if G y = k then 1 else 0) (fun x y hx hy h => by rw [ih x y hx hy h]) A B mA mB hP
  have e : ∀ (F : Nat → Nat) (A : List Nat), (A.map F).count k = (A.map fun x => if F x = k then 1 else 0).sum := by
    intro F A
    induction A with
    | nil => rfl
    | cons x A ih =>
      rw [List.map_cons, List.map_cons, List.count_cons, ih, List.sum_cons]
      by_cases h : F x = k
      · simp [h]; omega
      · simp [h]
  rw [e, e, this]
def BInv (g h c d C : List Nat) : Prop := ∀ x y, x < g.length → y < h.length → c.getD x 0 = d.getD y 0 → C.getD x 0 = C.getD (g.length + y) 0
theorem kd_bes {g h c d C : List Nat} (hg : Tow 6 g) (hh : Tow 6 h) (hJ : JSt g h c d) (hB : BInv g h c d C) {x y : Nat} (hx : x < g.length) (hy : y < h.length) (hc : c.getD x 0 = d.getD y 0) : kdN (besN g h) C x = kdN (besN g h) C (g.length + y) := by
  unfold kdN
  rw [hB x y hx hy hc, bes_left hx, bes_right hy, nd_shift hg.le (Nat.lt_of_lt_of_le (hh.get y) (Nat.pow_le_pow_right (by decide) hh.le)), List.map_map]
  congr 1
  refine srt_perm ?_
  exact perm_col (c := c) (d := d) (n := g.length) (m := h.length) (fun x y hx hy h => hB x y hx hy h) _ _ (fun u hu => nd_lt hg (by decide) hu) (fun u hu => nd_lt hh (by decide) hu) (hJ x y hx hy hc)
theorem binv_W {g h c d : List Nat} (hg : Tow 6 g) (hh : Tow 6 h) (hJ : JSt g h c d) : ∀ {C : List Nat} {r : Nat}, Full (besN g h).length C → BInv g h c d C → BInv g h c d (Go.Proofs.YtfcbmcmkakceaaaDoor.colW (besN g h) C r).1
  | C, r, hf, hB => by
    by_cases hq : mostN (refN (besN g h) C) = mostN C
    · rw [colW_stop hq]
      exact hB
    · rw [colW_go hf hq]
      refine binv_W hg hh hJ (refN_full _ C) fun x y hx hy hc => ?_
      rw [refN_get (by rw [bes_len]; omega), refN_get (by rw [bes_len]; omega), kd_bes hg hh hJ hB hx hy hc]
termination_by C => (besN g h).length - mostN C
decreasing_by
  have h1 := most_mono hf
  have h2 := full_le (refN_full (besN g h) C)
  omega
/-- If there are any such colours, as many of each in both, the graphs are alike. -/
theorem like_of {g h c d : List Nat} (hg : Tow 6 g) (hh : Tow 6 h) (hJ : JSt g h c d) (hP : ((List.range g.length).map fun u => c.getD u 0).Perm ((List.range h.length).map fun u => d.getD u 0)) : likeN g h = true := by
  have hB : BInv g h c d (Go.Proofs.YtfcbmcmkakceaaaDoor.colN (besN g h)).1 := binv_W hg hh hJ (full_zero _) fun x y hx hy _ => by rw [rep_get, rep_get]
  have hp : (shN g h).1.Perm (shN g h).2 := by
    rw [← map_getD (shN g h).1 g.length (sh_len g h).1, ← map_getD (shN g h).2 h.length (sh_len g h).2]
    refine perm_col (c := c) (d := d) (n := g.length) (m := h.length) (fun x y hx hy hc => ?_) _ _ (fun x hx => List.mem_range.1 hx) (fun x hx => List.mem_range.1 hx) hP
    rw [sh_left hx, sh_right]
    exact hB x y hx hy hc
  unfold likeN
  rw [List.all_eq_true]
  intro i _
  simp [List.perm_iff_count.1 hp i]
theorem sh_jst {g h : List Nat} (hg : Tow 6 g) (hh : Tow 6 h) : JSt g h (shN g h).1 (shN g h).2 := fun x y hx hy hc => sh_stab hg hh hx hy hc
end Go.Proofs.YtfcbmcmkakceaaaDoor
