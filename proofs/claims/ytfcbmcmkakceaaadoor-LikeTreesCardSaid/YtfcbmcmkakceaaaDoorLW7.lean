import Derived.Test.YtfcbmcmkakceaaaDoorLW6
/- LW7: a graph whose nodes are moved on. No program in sight. -/
set_option linter.unusedVariables false
set_option linter.unusedSimpArgs false
namespace Go.Proofs.YtfcbmcmkakceaaaDoor
def rotS (s by_ n : Nat) : Nat := ((s <<< by_) ||| (s >>> (n - by_))) &&& (2 ^ n - 1)
theorem rot_bit {s b n i : Nat} (hs : s < 2 ^ n) (hb : b < n) (hi : i < n) : (rotS s b n).testBit ((i + b) % n) = s.testBit i := by
  have hm : (i + b) % n < n := Nat.mod_lt _ (by omega)
  have hout : ∀ j, n ≤ j → s.testBit j = false := fun j hj => Nat.testBit_lt_two_pow (Nat.lt_of_lt_of_le hs (Nat.pow_le_pow_right (by decide) hj))
  unfold rotS
  rw [Nat.testBit_and, Nat.testBit_or, Nat.testBit_two_pow_sub_one, Nat.testBit_shiftLeft, Nat.testBit_shiftRight, decide_eq_true hm, Bool.and_true]
  rcases Nat.lt_or_ge (i + b) n with h | h
  · rw [Nat.mod_eq_of_lt h, hout (n - b + (i + b)) (by omega), Bool.or_false]
    simp
  · have e : (i + b) % n = i + b - n := by
      rw [Nat.mod_eq_sub_mod h, Nat.mod_eq_of_lt (by omega)]
    rw [e, show n - b + (i + b - n) = i by omega]
    have : decide (i + b - n ≥ b) = false := by simp; omega
    rw [this]
    simp
/-- Whether h is g with every node moved on. -/
def Rot (g h : List Nat) (b : Nat) : Prop := h.length = g.length ∧ ∀ i, i < g.length → h.getD ((i + b) % g.length) 0 = rotS (g.getD i 0) b g.length
def rotL (n b : Nat) : List Nat := (List.range n).map fun i => (i + b) % n
theorem rotL_get {n b i : Nat} (hi : i < n) : (rotL n b).getD i 0 = (i + b) % n := by simp [rotL, List.getD_eq_getElem?_getD, hi]
theorem rot_inj {n b i j : Nat} (hi : i < n) (hj : j < n) (hb : b < n) (h : (i + b) % n = (j + b) % n) : i = j := by
  have e : ∀ i, i < n → (i + b) % n = if i + b < n then i + b else i + b - n := fun i hi => by
    split
    · rename_i h; exact Nat.mod_eq_of_lt h
    · rename_i h
      rw [Nat.mod_eq_sub_mod (by omega), Nat.mod_eq_of_lt (by omega)]
  rw [e i hi, e j hj] at h
  split at h <;> split at h <;> omega
theorem rot_iso {g h : List Nat} {b : Nat} (hg : Tow 6 g) (hb : b < g.length) (hr : Rot g h b) : Iso g h (rotL g.length b) := by
  refine ⟨hr.1.symm, by simp [rotL], fun v hv => ?_, fun u v hu hv e => ?_, fun u v hu hv => ?_⟩
  · rw [rotL_get hv, hr.1]
    exact Nat.mod_lt _ (by omega)
  · rw [rotL_get hu, rotL_get hv] at e
    exact rot_inj hu hv hb e
  · unfold nbN
    rw [rotL_get hu, rotL_get hv, hr.2 u hu, rot_bit (hg.get u) hb hv]
theorem rot_back {n b j : Nat} (hb : b < n) (hj : j < n) : ∃ i, i < n ∧ (i + b) % n = j := by
  refine ⟨(j + (n - b)) % n, Nat.mod_lt _ (by omega), ?_⟩
  rw [Nat.mod_add_mod, show j + (n - b) + b = j + n by omega, Nat.add_mod_right, Nat.mod_eq_of_lt hj]
theorem rot_tow {g h : List Nat} {b : Nat} (hg : Tow 6 g) (hb : b < g.length) (hr : Rot g h b) : Tow 6 h where
  pos := by rw [hr.1]; exact hg.pos
  le := by rw [hr.1]; exact hg.le
  lt x hx := by
    rw [hr.1]
    obtain ⟨j, hj, rfl⟩ := List.mem_iff_getElem.1 hx
    obtain ⟨i, hi, e⟩ := rot_back hb (show j < g.length by rw [← hr.1]; exact hj)
    have h1 := hr.2 i hi
    rw [e] at h1
    have h2 : h[j] = h.getD j 0 := by simp [List.getD_eq_getElem?_getD, hj]
    rw [h2, h1]
    exact Nat.lt_of_le_of_lt Nat.and_le_right (by have := Nat.two_pow_pos g.length; omega)
  irr j hj := by
    obtain ⟨i, hi, e⟩ := rot_back hb (show j < g.length by rw [← hr.1]; exact hj)
    have h1 := hr.2 i hi
    have h2 := rot_bit (hg.get i) hb hi
    rw [← h1, e] at h2
    rw [h2]
    exact hg.irr i hi
  sym j k hj hk := by
    obtain ⟨i, hi, e⟩ := rot_back hb (show j < g.length by rw [← hr.1]; exact hj)
    obtain ⟨l, hl, e'⟩ := rot_back hb (show k < g.length by rw [← hr.1]; exact hk)
    have h1 := rot_bit (hg.get i) hb hl
    have h2 := rot_bit (hg.get l) hb hi
    rw [← hr.2 i hi, e, e'] at h1
    rw [← hr.2 l hl, e, e'] at h2
    rw [h1, h2]
    exact hg.sym i l hi hl
/-- Graphs of the same names are alike, and the game on them is won. -/
theorem iso_like {g h l : List Nat} (hg : Tow 6 g) (hh : Tow 6 h) (hi : Iso g h l) : likeN g h = true := by
  have hd : ∀ y, y < h.length → (List.range h.length).getD y 0 = y := fun y hy => by simp [List.getD_eq_getElem?_getD, hy]
  refine like_of (c := l) (d := List.range h.length) hg hh (fun x y hx hy hc => ?_) ?_
  · rw [hd y hy] at hc
    subst hc
    refine (hi.near hg hh (by decide) hx).trans (List.Perm.of_eq ?_)
    have : (ndN (h.getD (l.getD x 0) 0)).map (fun u => (List.range h.length).getD u 0) = (ndN (h.getD (l.getD x 0) 0)).map id := List.map_congr_left fun u hu => hd u (nd_lt hh (by decide) hu)
    rw [this, List.map_id]
  · rw [map_getD l g.length hi.len]
    have : (List.range h.length).map (fun u => (List.range h.length).getD u 0) = (List.range h.length).map id := List.map_congr_left fun u hu => hd u (List.mem_range.1 hu)
    rw [this, List.map_id]
    refine perm_nodup hi.nodup (nodup_range _) fun y => ?_
    rw [List.mem_range]
    constructor
    · intro hm
      obtain ⟨v, hv, rfl⟩ := List.mem_iff_getElem.1 hm
      have := hi.lt v (by rw [← hi.len]; exact hv)
      simpa [List.getD_eq_getElem?_getD, hv] using this
    · exact hi.mem
end Go.Proofs.YtfcbmcmkakceaaaDoor
