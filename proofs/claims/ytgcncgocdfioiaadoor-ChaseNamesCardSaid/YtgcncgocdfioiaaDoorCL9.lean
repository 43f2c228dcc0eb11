import Derived.Test.YtgcncgocdfioiaaDoorCL8
/- CL9: renamed graphs; the law of ChaseNames. -/
set_option linter.unusedVariables false
set_option linter.unusedSimpArgs false
set_option maxRecDepth 20000
namespace Go.Proofs.YtgcncgocdfioiaaDoor
open Go Go.PS
attribute [-simp] isKeyK List.map_take
def rotN (n by' x : Nat) : Nat := (x + by') % n
def torN (n by' x : Nat) : Nat := (x + (n - by')) % n
theorem rotN_lt {n by' x : Nat} (hn : 0 < n) : rotN n by' x < n := Nat.mod_lt _ hn
theorem torN_lt {n by' x : Nat} (hn : 0 < n) : torN n by' x < n := Nat.mod_lt _ hn
theorem rotN_eq {n by' x : Nat} (hb : by' < n) (hx : x < n) : rotN n by' x = if x + by' < n then x + by' else x + by' - n := by
  unfold rotN
  split
  · exact Nat.mod_eq_of_lt (by omega)
  · rw [Nat.mod_eq_sub_mod (by omega), Nat.mod_eq_of_lt (by omega)]
theorem torN_eq {n by' x : Nat} (hb : by' < n) (hx : x < n) : torN n by' x = if x < by' then x + (n - by') else x - by' := by
  unfold torN
  split
  · exact Nat.mod_eq_of_lt (by omega)
  · rw [Nat.mod_eq_sub_mod (by omega), Nat.mod_eq_of_lt (by omega)]
    omega
theorem tor_rot {n by' x : Nat} (hb : by' < n) (hx : x < n) : torN n by' (rotN n by' x) = x := by
  rw [torN_eq hb (rotN_lt (by omega)), rotN_eq hb hx]
  split <;> split <;> omega
theorem rot_tor {n by' x : Nat} (hb : by' < n) (hx : x < n) : rotN n by' (torN n by' x) = x := by
  rw [rotN_eq hb (torN_lt (by omega)), torN_eq hb hx]
  split <;> split <;> omega
/-- A row under other names, so far. -/
def rotM (n by' m : Nat) : Nat → Nat
  | 0 => 0
  | j + 1 => rotM n by' m j ||| if m.testBit j then 2 ^ rotN n by' j else 0
theorem rotM_bit (n by' m x : Nat) : ∀ j, (rotM n by' m j).testBit x = true ↔ ∃ i, i < j ∧ m.testBit i = true ∧ rotN n by' i = x
  | 0 => by simp [rotM]
  | j + 1 => by
    rw [rotM, Nat.testBit_or, Bool.or_eq_true, rotM_bit n by' m x j]
    constructor
    · rintro (⟨i, h1, h2, h3⟩ | h)
      · exact ⟨i, by omega, h2, h3⟩
      · cases hb : m.testBit j with
        | false => rw [hb] at h; simp at h
        | true =>
          rw [hb, if_pos rfl, Nat.testBit_two_pow, decide_eq_true_iff] at h
          exact ⟨j, by omega, hb, h⟩
    · rintro ⟨i, h1, h2, h3⟩
      rcases Nat.lt_or_ge i j with h4 | h4
      · exact .inl ⟨i, h4, h2, h3⟩
      · have : i = j := by omega
        subst this
        right
        rw [h2, if_pos rfl, Nat.testBit_two_pow, decide_eq_true_iff]
        exact h3
theorem rotM_lt {n by' m : Nat} (hn : 0 < n) (j : Nat) : rotM n by' m j < 2 ^ n := bit_lt fun x hx => by
  obtain ⟨i, _, _, h⟩ := (rotM_bit n by' m x j).1 hx
  rw [← h]
  exact rotN_lt hn
/-- The rows of a renamed graph, so far. -/
def rowF (g : List Int) (by' i j x : Nat) : Nat := if torN g.length by' x < i then rotM g.length by' (g.getD (torN g.length by' x) 0).toNat g.length else if torN g.length by' x = i then rotM g.length by' (g.getD i 0).toNat j else 0
def rowsL (g : List Int) (by' i j : Nat) : List Nat := (List.range g.length).map (rowF g by' i j)
theorem rowsL_set {g : List Int} {by' i j : Nat} (hb : by' < g.length) (hi : i < g.length) (hj : j < g.length) : (rowsL g by' i j).getD (rotN g.length by' i) 0 = rotM g.length by' (g.getD i 0).toNat j ∧
    (rowsL g by' i j).set (rotN g.length by' i) (rotM g.length by' (g.getD i 0).toNat (j + 1)) = rowsL g by' i (j + 1) := by
  have hr := rotN_lt (n := g.length) (by' := by') (x := i) (by omega)
  have ht := tor_rot hb hi
  constructor
  · simp only [rowsL, List.getD_eq_getElem?_getD, List.getElem?_map, List.getElem?_range hr, Option.map_some, Option.getD_some]
    rw [rowF, ht, if_neg (by omega), if_pos rfl, List.getD_eq_getElem?_getD]
  · apply List.ext_getElem?
    intro x
    rw [List.getElem?_set]
    by_cases hx : x < g.length
    · simp only [rowsL, List.getElem?_map, List.getElem?_range hx, Option.map_some, List.length_map, List.length_range]
      by_cases e : rotN g.length by' i = x
      · rw [if_pos e, if_pos hr, ← e, rowF, ht, if_neg (by omega), if_pos rfl]
      · rw [if_neg e]
        have hne : torN g.length by' x ≠ i := fun h => e (by rw [← h]; exact rot_tor hb hx)
        rw [rowF, rowF, if_neg hne, if_neg hne]
    · have e : ¬ rotN g.length by' i = x := by omega
      rw [if_neg e]
      simp [rowsL, hx]
theorem rowsL_next {g : List Int} {by' i : Nat} : rowsL g by' i g.length = rowsL g by' (i + 1) 0 := by
  rw [rowsL, rowsL]
  apply List.map_congr_left
  intro x _
  rw [rowF, rowF]
  by_cases h1 : torN g.length by' x < i
  · rw [if_pos h1, if_pos (by omega)]
  · by_cases h2 : torN g.length by' x = i
    · rw [if_neg h1, if_pos h2, if_pos (by omega), h2]
    · rw [if_neg h1, if_neg h2, if_neg (by omega)]
      split <;> rfl
theorem rowsL_zero (g : List Int) (by' : Nat) : rowsL g by' 0 0 = List.replicate g.length 0 := by
  rw [rowsL]
  apply List.ext_getElem?
  intro x
  by_cases hx : x < g.length
  · simp [hx, rowF, rotM]
  · simp [hx]
def namesL (g : List Int) (by' : Nat) : List Nat := rowsL g by' g.length 0
/-- The same graph under other names. -/
structure Same (g h : List Int) (by' : Nat) : Prop where
  len : h.length = g.length
  valid : validG h = true
  rel : ∀ i j, i < g.length → j < g.length → (rT (townOf g) i j ↔ rT (townOf h) (rotN g.length by' i) (rotN g.length by' j))
theorem names_ok {g : List Int} (hv : validG g = true) {by' : Nat} (hb : by' < g.length) : Same g (iL (namesL g by')) by' := by
  obtain ⟨ht, hr, hs, hcn⟩ := valid_facts hv
  obtain ⟨_, hl, hrow⟩ := isg_facts (valid_isg hv)
  have h8 := (valid_at hv).2.1
  have h1 := (valid_at hv).1
  obtain ⟨h, hh⟩ : ∃ h, h = iL (namesL g by') := ⟨_, rfl⟩
  rw [← hh]
  have hlen : h.length = g.length := by rw [hh]; simp [namesL, rowsL]
  have hget : ∀ x, x < g.length → ∃ m : Nat, g.getD (torN g.length by' x) 0 = m ∧ m < 2 ^ g.length ∧ h.getD x 0 = ((rotM g.length by' m g.length : Nat) : Int) := fun x hx => by
    obtain ⟨m, hm, hlt, _⟩ := hrow (torN g.length by' x) (torN_lt (by omega))
    refine ⟨m, hm, hlt, ?_⟩
    rw [hh]
    have h3 : rowF g by' g.length 0 x = rotM g.length by' m g.length := by
      rw [rowF, if_pos (torN_lt (by omega)), hm, Int.toNat_natCast]
    simp [iL, namesL, rowsL, List.getD_eq_getElem?_getD, hx, h3]
  have hbit : ∀ m j, m < 2 ^ g.length → j < g.length → ((rotM g.length by' m g.length).testBit j = true ↔ m.testBit (torN g.length by' j) = true) := fun m j hm hj => by
    rw [rotM_bit]
    constructor
    · rintro ⟨i, h2, h3, h4⟩
      rw [← h4, tor_rot hb h2]
      exact h3
    · intro h2
      exact ⟨torN g.length by' j, torN_lt (by omega), h2, rot_tor hb hj⟩
  have hrT : ∀ x y, x < g.length → y < g.length → (rT (townOf h) x y ↔ rT (townOf g) (torN g.length by' x) (torN g.length by' y)) := fun x y hx hy => by
    obtain ⟨m, hm, hlt, hm2⟩ := hget x hx
    rw [rT_town (by omega) hm2, rT_town (torN_lt (by omega)) hm, hbit m y hlt hy]
    constructor
    · rintro (h2 | h2)
      · exact .inl h2
      · exact .inr (by rw [h2])
    · rintro (h2 | h2)
      · exact .inl h2
      · exact .inr (by rw [← rot_tor hb hx, h2, rot_tor hb hy])
  have hlh : (townOf h).length = h.length := town_len h
  have hsy : ∀ x y, vT (townOf h) x → vT (townOf h) y → rT (townOf h) x y → rT (townOf h) y x := fun x y hx hy hxy => by
    simp only [vT, hlh, hlen] at hx hy
    rw [hrT y x hy hx]
    exact hs _ _ (by simp only [vT, hl]; exact torN_lt (by omega)) (by simp only [vT, hl]; exact torN_lt (by omega)) ((hrT x y hx hy).1 hxy)
  have hg : graphB h = true := by
    refine graph_of (by omega) (fun x hx => ?_) (fun x y hx hy => ?_)
    · rw [hlen] at hx ⊢
      obtain ⟨m, hm, hlt, hm2⟩ := hget x hx
      refine ⟨_, hm2, rotM_lt (by omega) _, ?_⟩
      rw [Bool.eq_false_iff]
      intro hc
      rw [hbit m x hlt hx] at hc
      have hgb := (valid_at hv).2.2.1
      have hrw := List.all_eq_true.1 hgb (torN g.length by' x) (List.mem_range.2 (torN_lt (by omega)))
      simp only [rowB, Bool.and_eq_true] at hrw
      have hA := hrw.1
      simp only [rowA, Bool.not_eq_true', Bool.or_eq_false_iff] at hA
      have hN : 2 ^ g.length ≤ 2 ^ 8 := Nat.pow_le_pow_right (by decide) h8
      have h2 := hA.2.2
      rw [hm, and1 m (by omega) _ (by have := torN_lt (n := g.length) (by' := by') (x := x) (by omega); omega), hc] at h2
      simp at h2
    · rw [hlen] at hx hy
      obtain ⟨m, hm, hlt, hm2⟩ := hget x hx
      obtain ⟨m', hm', hlt', hm2'⟩ := hget y hy
      rw [hm2, hm2', Int.toNat_natCast, Int.toNat_natCast, Bool.eq_iff_iff, hbit m y hlt hy, hbit m' x hlt' hx]
      by_cases e : x = y
      · subst e
        rw [hm] at hm'
        have : m = m' := by omega
        rw [this]
      · have e2 : torN g.length by' x ≠ torN g.length by' y := fun h => e (by rw [← rot_tor hb hx, h, rot_tor hb hy])
        have q1 := rT_town (torN_lt (by omega)) hm (j := torN g.length by' y)
        have q2 := rT_town (torN_lt (by omega)) hm' (j := torN g.length by' x)
        have hxi : vT (townOf g) (torN g.length by' x) := by simp only [vT, hl]; exact torN_lt (by omega)
        have hxj : vT (townOf g) (torN g.length by' y) := by simp only [vT, hl]; exact torN_lt (by omega)
        constructor
        · intro h
          exact ((q2.1 (hs _ _ hxi hxj (q1.2 (.inl h)))).resolve_right (Ne.symm e2))
        · intro h
          exact ((q1.1 (hs _ _ hxj hxi (q2.2 (.inl h)))).resolve_right e2)
  have hrel : ∀ i j, i < g.length → j < g.length → (rT (townOf g) i j ↔ rT (townOf h) (rotN g.length by' i) (rotN g.length by' j)) := fun i j hi hj => by
    rw [hrT _ _ (rotN_lt (by omega)) (rotN_lt (by omega)), tor_rot hb hi, tor_rot hb hj]
  have hconn : Conn (vT (townOf h)) (rT (townOf h)) := by
    obtain ⟨_, r2⟩ := Ret.iso (V := vT (townOf g)) (r := rT (townOf g)) (V' := vT (townOf h)) (r' := rT (townOf h)) (σ := rotN g.length by') (τ := torN g.length by')
      (fun x hx => by simp only [vT, hl, hlh, hlen] at hx ⊢; exact rotN_lt (by omega))
      (fun x hx => by simp only [vT, hl, hlh, hlen] at hx ⊢; exact torN_lt (by omega))
      (fun x y hx hy => by simp only [vT, hl] at hx hy; exact hrel x y hx hy)
      (fun x hx => by simp only [vT, hl] at hx; exact tor_rot hb hx)
      (fun x hx => by simp only [vT, hlh, hlen] at hx; exact rot_tor hb hx)
    exact r2.conn hcn
  exact ⟨hlen, valid_of (by omega) (by omega) hg hsy hconn, hrel⟩
theorem Same.ret {g h : List Int} {by' : Nat} (hs : Same g h by') (hb : by' < g.length) : Ret (vT (townOf g)) (rT (townOf g)) (vT (townOf h)) (rT (townOf h)) ∧ Ret (vT (townOf h)) (rT (townOf h)) (vT (townOf g)) (rT (townOf g)) := by
  have hl := town_len g
  have hlh := town_len h
  have hlen := hs.len
  exact Ret.iso (σ := rotN g.length by') (τ := torN g.length by')
    (fun x hx => by simp only [vT, hl, hlh, hlen] at hx ⊢; exact rotN_lt (by omega))
    (fun x hx => by simp only [vT, hl, hlh, hlen] at hx ⊢; exact torN_lt (by omega))
    (fun x y hx hy => by simp only [vT, hl] at hx hy; exact hs.rel x y hx hy)
    (fun x hx => by simp only [vT, hl] at hx; exact tor_rot hb hx)
    (fun x hx => by simp only [vT, hlh, hlen] at hx; exact rot_tor hb hx)
/-- The same numbers of moves. -/
theorem Same.rounds {g h : List Int} {by' : Nat} (hv : validG g = true) (hs : Same g h by') (hb : by' < g.length) {k : Int} (hk : ((k == 1) || (k == 2)) = true) : roundsF h k = roundsF g k := by
  obtain ⟨r1, r2⟩ := hs.ret hb
  have key : ∀ m : Nat, (0 ≤ (strF h k).2 ∧ (strF h k).2 ≤ m) ↔ (0 ≤ (strF g k).2 ∧ (strF g k).2 ≤ m) := fun m => by
    rw [strF_iff hs.valid k m, strF_iff hv k m]
    exact ⟨r1.win, r2.win⟩
  rw [rounds_ok (by rw [okG, hs.valid, hk]; rfl), rounds_ok (by rw [okG, hv, hk]; rfl)]
  have k1 := key (strF h k).2.toNat
  have k2 := key (strF g k).2.toNat
  by_cases h1 : (strF h k).2 < 0
  · rw [if_pos h1, if_pos (by omega)]
  · rw [if_neg h1, if_neg (by omega), show (strF h k).2 = (strF g k).2 by omega]
theorem core_ret {t : List Nat} (ht : Twn t) (hr : ∀ x, vT t x → rT t x x) (hsy : ∀ x y, vT t x → vT t y → rT t x y → rT t y x) : ∀ s, s < 2 ^ t.length → s ≠ 0 → Ret (bX (coreS t s)) (rT t) (bX s) (rT t) ∧
    ∀ (V : Nat → Prop) (r : Nat → Nat → Prop), (∀ u v, ¬ Cov V r u v) → Ret V r (bX s) (rT t) → Ret V r (bX (coreS t s)) (rT t)
  | s, hs, h0 => by
    have h8 := sub_lt ht hs
    rw [coreS]
    split
    · exact ⟨Ret.refl, fun _ _ _ h => h⟩
    · rename_i v hf
      obtain ⟨h1, h2, h3⟩ := find_pos h8 hf
      rw [if_pos h3]
      obtain ⟨ih1, ih2⟩ := core_ret ht hr hsy (dif s (2 ^ v)) (dif_sub ht hs _) (cor_pos h8 h1 h2)
      obtain ⟨u, hu⟩ := (corF_iff ht hs h1).1 h2
      have hr' : ∀ x, bX s x → rT t x x := fun x hx => hr x (bX_lt hs hx)
      have hs' : ∀ x y, bX s x → bX s y → rT t x y → rT t y x := fun x y hx hy => hsy x y (bX_lt hs hx) (bX_lt hs hy)
      have e : bX (dif s (2 ^ v)) = fun x => bX s x ∧ x ≠ v := funext fun x => propext (bX_dif h8)
      refine ⟨ih1.trans ?_, fun V r hno h => ih2 V r hno ?_⟩
      · rw [e]
        exact Ret.ofFold hr' hs' hu
      · rw [e]
        exact h.fold hno hr' hs' hu
termination_by s => s
theorem core_le {g h : List Int} (hv : validG g = true) (hv' : validG h = true) (hR : Ret (vT (townOf g)) (rT (townOf g)) (vT (townOf h)) (rT (townOf h))) : (bitsL (coreS (townOf g) (2 ^ g.length - 1))).length ≤ (bitsL (coreS (townOf h) (2 ^ h.length - 1))).length := by
  obtain ⟨ht, hr, hs, _⟩ := valid_facts hv
  obtain ⟨ht', hr', hs', _⟩ := valid_facts hv'
  have hl := town_len g
  have hl' := town_len h
  have hp : 2 ≤ 2 ^ (townOf g).length := Nat.pow_le_pow_right (n := 2) (by decide) ht.1
  have hp' : 2 ≤ 2 ^ (townOf h).length := Nat.pow_le_pow_right (n := 2) (by decide) ht'.1
  rw [← hl, ← hl']
  obtain ⟨hco, hno⟩ := core_ok ht hr hs (2 ^ (townOf g).length - 1) (by omega) (by omega)
  obtain ⟨hco', _⟩ := core_ok ht' hr' hs' (2 ^ (townOf h).length - 1) (by omega) (by omega)
  obtain ⟨a1, _⟩ := core_ret ht hr hs (2 ^ (townOf g).length - 1) (by omega) (by omega)
  obtain ⟨_, a2⟩ := core_ret ht' hr' hs' (2 ^ (townOf h).length - 1) (by omega) (by omega)
  have e : bX (2 ^ (townOf g).length - 1) = vT (townOf g) := funext fun z => propext bX_full
  have e' : bX (2 ^ (townOf h).length - 1) = vT (townOf h) := funext fun z => propext bX_full
  rw [e] at a1
  rw [e'] at a2
  have hfin := a2 _ _ hno (a1.trans hR)
  have h8 := sub_lt ht hco.lt
  have h8' := sub_lt ht' hco'.lt
  have f1 : bX (coreS (townOf g) (2 ^ (townOf g).length - 1)) = (· ∈ bitsL (coreS (townOf g) (2 ^ (townOf g).length - 1))) := funext fun x => propext (bits_mem h8).symm
  have f2 : bX (coreS (townOf h) (2 ^ (townOf h).length - 1)) = (· ∈ bitsL (coreS (townOf h) (2 ^ (townOf h).length - 1))) := funext fun x => propext (bits_mem h8').symm
  rw [f1, f2] at hfin
  exact Ret.len (List.nodup_range.filter _) hfin
theorem corL_iff {g : List Int} (hv : validG g = true) {q : Pr} : q ∈ corL (townOf g) (2 ^ g.length - 1) ↔ Cov (vT (townOf g)) (rT (townOf g)) q.2 q.1 := by
  refine ⟨corL_cov hv, fun hc => ?_⟩
  have ht := valid_town hv
  have hl := town_len g
  have hp : 2 ≤ 2 ^ (townOf g).length := Nat.pow_le_pow_right (n := 2) (by decide) ht.1
  rw [← hl]
  have hs : 2 ^ (townOf g).length - 1 < 2 ^ (townOf g).length := by omega
  have h8 := sub_lt ht hs
  have e : bX (2 ^ (townOf g).length - 1) = vT (townOf g) := funext fun z => propext bX_full
  have hx : bX (2 ^ (townOf g).length - 1) q.1 := by rw [e]; exact hc.2.2.1
  have hy : bX (2 ^ (townOf g).length - 1) q.2 := by rw [e]; exact hc.2.1
  simp only [corL, pairsOf, List.mem_flatMap, List.mem_map, List.mem_filter]
  refine ⟨q.1, (bits_mem h8).2 hx, q.2, ⟨(bits_mem h8).2 hy, (covF_iff ht hs hx hy).2 (by rw [e]; exact hc)⟩, rfl⟩
theorem cov_ret {V V' : Nat → Prop} {r r' : Nat → Nat → Prop} {σ τ : Nat → Nat} (h1 : ∀ x, V x → V' (σ x)) (h2 : ∀ x, V' x → V (τ x)) (h3 : ∀ x y, V x → V y → (r x y ↔ r' (σ x) (σ y))) (h4 : ∀ x, V x → τ (σ x) = x) (h5 : ∀ x, V' x → σ (τ x) = x) {u v : Nat} (hc : Cov V r u v) : Cov V' r' (σ u) (σ v) := by
  obtain ⟨a1, a2, a3, a4⟩ := hc
  refine ⟨fun e => a1 (by rw [← h4 u a2, e, h4 v a3]), h1 u a2, h1 v a3, fun x hx hvx => ?_⟩
  have h6 := a4 (τ x) (h2 x hx) ((h3 _ _ a3 (h2 x hx)).2 (by rw [h5 x hx]; exact hvx))
  have h7 := (h3 _ _ a2 (h2 x hx)).1 h6
  rw [h5 x hx] at h7
  exact h7
theorem Same.cors {g h : List Int} {by' : Nat} (hv : validG g = true) (hs : Same g h by') (hb : by' < g.length) : (corL (townOf g) (2 ^ g.length - 1)).length = (corL (townOf h) (2 ^ h.length - 1)).length ∧
    ∀ q ∈ corL (townOf g) (2 ^ g.length - 1), (rotN g.length by' q.1, rotN g.length by' q.2) ∈ corL (townOf h) (2 ^ h.length - 1) := by
  have hl := town_len g
  have hlh := town_len h
  have hlen := hs.len
  have i1 : ∀ x, vT (townOf g) x → vT (townOf h) (rotN g.length by' x) := fun x hx => by simp only [vT, hl, hlh, hlen] at hx ⊢; exact rotN_lt (by omega)
  have i2 : ∀ x, vT (townOf h) x → vT (townOf g) (torN g.length by' x) := fun x hx => by simp only [vT, hl, hlh, hlen] at hx ⊢; exact torN_lt (by omega)
  have i3 : ∀ x y, vT (townOf g) x → vT (townOf g) y → (rT (townOf g) x y ↔ rT (townOf h) (rotN g.length by' x) (rotN g.length by' y)) := fun x y hx hy => by simp only [vT, hl] at hx hy; exact hs.rel x y hx hy
  have i4 : ∀ x, vT (townOf g) x → torN g.length by' (rotN g.length by' x) = x := fun x hx => by simp only [vT, hl] at hx; exact tor_rot hb hx
  have i5 : ∀ x, vT (townOf h) x → rotN g.length by' (torN g.length by' x) = x := fun x hx => by simp only [vT, hlh, hlen] at hx; exact rot_tor hb hx
  have i6 : ∀ x y, vT (townOf h) x → vT (townOf h) y → (rT (townOf h) x y ↔ rT (townOf g) (torN g.length by' x) (torN g.length by' y)) := fun x y hx hy => by
    rw [i3 _ _ (i2 x hx) (i2 y hy), i5 x hx, i5 y hy]
  have hmem : ∀ q ∈ corL (townOf g) (2 ^ g.length - 1), (rotN g.length by' q.1, rotN g.length by' q.2) ∈ corL (townOf h) (2 ^ h.length - 1) := fun q hq => by
    rw [corL_iff hs.valid]
    exact cov_ret i1 i2 i3 i4 i5 ((corL_iff hv).1 hq)
  have hmem2 : ∀ q ∈ corL (townOf h) (2 ^ h.length - 1), (torN g.length by' q.1, torN g.length by' q.2) ∈ corL (townOf g) (2 ^ g.length - 1) := fun q hq => by
    rw [corL_iff hv]
    exact cov_ret i2 i1 i6 i5 i4 ((corL_iff hs.valid).1 hq)
  have hnd : ∀ {f : List Int}, validG f = true → (corL (townOf f) (2 ^ f.length - 1)).Nodup := fun {f} hf => by
    have ht := valid_town hf
    have hp : 2 ≤ 2 ^ (townOf f).length := Nat.pow_le_pow_right (n := 2) (by decide) ht.1
    rw [← town_len f, corL_ref ht (by omega)]
    exact (prs_sorted _ _).imp fun {a b} h e => by subst e; simp [ltP] at h
  refine ⟨Nat.le_antisymm ?_ ?_, hmem⟩
  · have := sub_len (l1 := (corL (townOf g) (2 ^ g.length - 1)).map fun q => (rotN g.length by' q.1, rotN g.length by' q.2)) (l2 := corL (townOf h) (2 ^ h.length - 1)) (by
      rw [List.Nodup, List.pairwise_map]
      refine (hnd hv).imp_of_mem ?_
      intro a b ha hb' hab e
      have c1 := corL_cov hv ha
      have c2 := corL_cov hv hb'
      simp only [Prod.mk.injEq] at e
      exact hab (Prod.ext (by rw [← i4 _ c1.2.2.1, e.1, i4 _ c2.2.2.1]) (by rw [← i4 _ c1.2.1, e.2, i4 _ c2.2.1]))) (by
      intro x hx
      obtain ⟨q, hq, rfl⟩ := List.mem_map.1 hx
      exact hmem q hq)
    simpa using this
  · have := sub_len (l1 := (corL (townOf h) (2 ^ h.length - 1)).map fun q => (torN g.length by' q.1, torN g.length by' q.2)) (l2 := corL (townOf g) (2 ^ g.length - 1)) (by
      rw [List.Nodup, List.pairwise_map]
      refine (hnd hs.valid).imp_of_mem ?_
      intro a b ha hb' hab e
      have c1 := corL_cov hs.valid ha
      have c2 := corL_cov hs.valid hb'
      simp only [Prod.mk.injEq] at e
      exact hab (Prod.ext (by rw [← i5 _ c1.2.2.1, e.1, i5 _ c2.2.2.1]) (by rw [← i5 _ c1.2.1, e.2, i5 _ c2.2.1]))) (by
      intro x hx
      obtain ⟨q, hq, rfl⟩ := List.mem_map.1 hx
      exact hmem2 q hq)
    simpa using this
end Go.Proofs.YtgcncgocdfioiaaDoor
