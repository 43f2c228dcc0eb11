import Derived.Test.YtgcncgocdfioiaaDoorCL1
/- CW5: the core: one node exactly if one sweep catches the cat, else at least four. -/
set_option linter.unusedVariables false
set_option linter.unusedSimpArgs false
set_option maxRecDepth 20000
namespace Go.Proofs.YtgcncgocdfioiaaDoor
open Go Go.PS
attribute [-simp] isKeyK List.map_take
/-- The nodes of a set. -/
def bX (s x : Nat) : Prop := s.testBit x = true
theorem bX_lt {n s x : Nat} (hs : s < 2 ^ n) (h : bX s x) : x < n := by
  rcases Nat.lt_or_ge x n with h6 | h6
  · exact h6
  · rw [bX, Nat.testBit_lt_two_pow (Nat.lt_of_lt_of_le hs (Nat.pow_le_pow_right (by decide) h6))] at h
    cases h
theorem bX_dif {s v x : Nat} (hs : s < 256) : bX (dif s (2 ^ v)) x ↔ bX s x ∧ x ≠ v := by
  simp only [bX]
  rw [dif_bit hs, two_bit]
  by_cases h : v = x
  · subst h; simp
  · have h' : x ≠ v := fun e => h e.symm
    simp [h, h']
theorem bX_full {n x : Nat} : bX (2 ^ n - 1) x ↔ x < n := by
  rw [bX, Nat.testBit_two_pow_sub_one]
  simp
theorem covF_iff {t : List Nat} (ht : Twn t) {u v s : Nat} (hs : s < 2 ^ t.length) (hv : bX s v) (hu : bX s u) : covF t u v s = true ↔ Cov (bX s) (rT t) u v := by
  have h8 := sub_lt ht hs
  have hvn := bX_lt hs hv
  have hv8 := ht.lt _ (getD_mem hvn)
  have ha8 : t.getD v 0 &&& s < 256 := Nat.lt_of_le_of_lt Nat.and_le_left hv8
  simp only [covF, Bool.and_eq_true, decide_eq_true_eq, beq_iff_eq, Cov]
  constructor
  · rintro ⟨hne, h⟩
    refine ⟨hne, hu, hv, fun x hx hvx => ?_⟩
    have := dif_bit ha8 (t.getD u 0) x
    rw [h, Nat.zero_testBit, Nat.testBit_and, show (t.getD v 0).testBit x = true from hvx, show s.testBit x = true from hx] at this
    simpa [rT] using this
  · rintro ⟨hne, _, _, h⟩
    refine ⟨hne, ?_⟩
    apply Nat.eq_of_testBit_eq
    intro x
    rw [dif_bit ha8, Nat.zero_testBit, Nat.testBit_and]
    cases h1 : (t.getD v 0).testBit x with
    | false => simp
    | true =>
      cases h2 : s.testBit x with
      | false => simp
      | true =>
        have := h x h2 h1
        rw [rT] at this
        rw [this]
        rfl
theorem corF_iff {t : List Nat} (ht : Twn t) {v s : Nat} (hs : s < 2 ^ t.length) (hv : bX s v) : corF t v s = true ↔ ∃ u, Cov (bX s) (rT t) u v := by
  have h8 := sub_lt ht hs
  simp only [corF, List.any_eq_true]
  constructor
  · rintro ⟨u, hu, h⟩
    exact ⟨u, (covF_iff ht hs hv ((bits_mem h8).1 hu)).1 h⟩
  · rintro ⟨u, h⟩
    exact ⟨u, (bits_mem h8).2 h.2.1, (covF_iff ht hs hv h.2.1).2 h⟩
/-- What is known of what is left of a set. -/
structure CoreOf (t : List Nat) (s c : Nat) : Prop where
  pos : c ≠ 0
  lt : c < 2 ^ t.length
  sub : ∀ x, bX c x → bX s x
  cw : ∀ two, Cw (bX s) (rT t) two ↔ Cw (bX c) (rT t) two
  conn : Conn (bX s) (rT t) → Conn (bX c) (rT t)
theorem CoreOf.step {t : List Nat} (ht : Twn t) (hr : ∀ x, vT t x → rT t x x) (hsy : ∀ x y, vT t x → vT t y → rT t x y → rT t y x) {s v c : Nat} (hs : s < 2 ^ t.length) (hv : bX s v) (hc : corF t v s = true) (h : CoreOf t (dif s (2 ^ v)) c) : CoreOf t s c := by
  have h8 := sub_lt ht hs
  obtain ⟨u, hu⟩ := (corF_iff ht hs hv).1 hc
  have hr' : ∀ x, bX s x → rT t x x := fun x hx => hr x (bX_lt hs hx)
  have hs' : ∀ x y, bX s x → bX s y → rT t x y → rT t y x := fun x y hx hy => hsy x y (bX_lt hs hx) (bX_lt hs hy)
  refine ⟨h.pos, h.lt, fun x hx => ((bX_dif h8).1 (h.sub x hx)).1, fun two => ?_, fun hcn => h.conn ?_⟩
  · rw [Cw.corner hr' hs' hu, ← h.cw two]
    exact cw_congr fun x => (bX_dif h8).symm
  · exact (conn_congr (V := bX (dif s (2 ^ v))) fun x => bX_dif h8).2 (hcn.fold hr' hs' hu)
theorem core_ok {t : List Nat} (ht : Twn t) (hr : ∀ x, vT t x → rT t x x) (hsy : ∀ x y, vT t x → vT t y → rT t x y → rT t y x) : ∀ s, s < 2 ^ t.length → s ≠ 0 → CoreOf t s (coreS t s) ∧ ∀ u v, ¬ Cov (bX (coreS t s)) (rT t) u v
  | s, hs, h0 => by
    have h8 := sub_lt ht hs
    rw [coreS]
    split
    · rename_i hf
      refine ⟨⟨h0, hs, fun x h => h, fun _ => Iff.rfl, id⟩, fun u v h => ?_⟩
      have := List.find?_eq_none.1 hf v ((bits_mem h8).2 h.2.2.1)
      exact this ((corF_iff ht hs h.2.2.1).2 ⟨u, h⟩)
    · rename_i v hf
      obtain ⟨h1, h2, h3⟩ := find_pos h8 hf
      rw [if_pos h3]
      obtain ⟨ih1, ih2⟩ := core_ok ht hr hsy (dif s (2 ^ v)) (dif_sub ht hs _) (cor_pos h8 h1 h2)
      exact ⟨CoreOf.step ht hr hsy hs h1 h2 ih1, ih2⟩
termination_by s => s
theorem nz_bit {c : Nat} (h : c ≠ 0) (h8 : c < 256) : bX c (tz c) := by
  have := (tz_get (x := c) (by omega) h8).2
  exact (bits_mem h8).1 (by rw [this]; simp)
theorem sgl_iff {c : Nat} (h0 : c ≠ 0) (h8 : c < 256) : sgl c = true ↔ ∀ x, bX c x → x = tz c := by
  constructor
  · intro h x hx
    have := sgl_tz (by omega) h8 h
    have hm := (bits_mem h8).2 hx
    rw [this] at hm
    simpa using hm
  · intro h
    obtain ⟨h1, h2⟩ := tz_get (x := c) (by omega) h8
    have hz : c &&& (c - 1) = 0 := by
      apply Classical.byContradiction
      intro hn
      have h3 := (tz_get (x := c &&& (c - 1)) (by omega) (by omega)).2
      rw [h3] at h2
      have hnd : (bitsL c).Nodup := List.nodup_range.filter _
      have hm : tz (c &&& (c - 1)) ∈ bitsL c := by rw [h2]; simp
      have := h _ ((bits_mem h8).1 hm)
      rw [h2, this] at hnd
      simp at hnd
    simp [sgl, hz]
theorem two_nodes {c : Nat} (h0 : c ≠ 0) (h8 : c < 256) (h : sgl c = false) : ∀ a, bX c a → ∃ x, bX c x ∧ x ≠ a := by
  intro a ha
  apply Classical.byContradiction
  intro hn
  have hall : ∀ x, bX c x → x = a := fun x hx => Classical.byContradiction fun hne => hn ⟨x, hx, hne⟩
  have : sgl c = true := (sgl_iff h0 h8).2 fun x hx => by rw [hall x hx, hall (tz c) (nz_bit h0 h8)]
  rw [h] at this
  cases this
/-- One node is left exactly if one sweep catches the cat. -/
theorem core_cw {g : List Int} (h : validG g = true) : sgl (coreS (townOf g) (2 ^ g.length - 1)) = true ↔ Cw (vT (townOf g)) (rT (townOf g)) false := by
  obtain ⟨ht, hr, hs, hc⟩ := valid_facts h
  have hl := town_len g
  have hp : 2 ≤ 2 ^ (townOf g).length := Nat.pow_le_pow_right (n := 2) (by decide) ht.1
  rw [← hl]
  obtain ⟨hco, hno⟩ := core_ok ht hr hs (2 ^ (townOf g).length - 1) (by omega) (by omega)
  have h8 := sub_lt ht hco.lt
  have hcw := hco.cw false
  rw [cw_congr (V' := vT (townOf g)) (fun x => bX_full)] at hcw
  rw [hcw]
  generalize coreS (townOf g) (2 ^ (townOf g).length - 1) = c at *
  have hr' : ∀ x, bX c x → rT (townOf g) x x := fun x hx => hr x (bX_lt hco.lt hx)
  have hs' : ∀ x y, bX c x → bX c y → rT (townOf g) x y → rT (townOf g) y x := fun x y hx hy => hs x y (bX_lt hco.lt hx) (bX_lt hco.lt hy)
  constructor
  · intro h1
    have h2 := (sgl_iff hco.pos h8).1 h1
    have h3 := nz_bit hco.pos h8
    exact ⟨tz c, tz c, h3, h3, .inr rfl, 0, fun x hx => .inl (h2 x hx)⟩
  · intro h1
    cases h2 : sgl c with
    | true => rfl
    | false => exact absurd h1 (Cw.none hr' hs' hno (two_nodes hco.pos h8 h2))
/-- Else at least four are left. -/
theorem core_four {g : List Int} (h : validG g = true) (h1 : sgl (coreS (townOf g) (2 ^ g.length - 1)) = false) : 4 ≤ (bitsL (coreS (townOf g) (2 ^ g.length - 1))).length := by
  obtain ⟨ht, hr, hs, hc⟩ := valid_facts h
  have hl := town_len g
  have hp : 2 ≤ 2 ^ (townOf g).length := Nat.pow_le_pow_right (n := 2) (by decide) ht.1
  rw [← hl] at h1 ⊢
  obtain ⟨hco, hno⟩ := core_ok ht hr hs (2 ^ (townOf g).length - 1) (by omega) (by omega)
  have h8 := sub_lt ht hco.lt
  have hcn := hco.conn ((conn_congr (V' := vT (townOf g)) fun x => bX_full).2 hc)
  generalize coreS (townOf g) (2 ^ (townOf g).length - 1) = c at *
  have hr' : ∀ x, bX c x → rT (townOf g) x x := fun x hx => hr x (bX_lt hco.lt hx)
  have hs' : ∀ x y, bX c x → bX c y → rT (townOf g) x y → rT (townOf g) y x := fun x y hx hy => hs x y (bX_lt hco.lt hx) (bX_lt hco.lt hy)
  have ha := nz_bit hco.pos h8
  obtain ⟨⟨q, hq, hyq⟩, z, w, hz, hw, hyz, hyw, hnzw, hzy, hwy, hzw⟩ := four hr' hs' hcn hno (two_nodes hco.pos h8 h1) ha
  have hqy : q ≠ tz c := fun e => hyq (by rw [e]; exact hr' _ ha)
  have hqz : q ≠ z := fun e => hyq (by rw [e]; exact hyz)
  have hqw : q ≠ w := fun e => hyq (by rw [e]; exact hyw)
  have := sub_len (l1 := [tz c, z, w, q]) (l2 := bitsL c) (by simp [hzw, Ne.symm hzy, Ne.symm hwy, Ne.symm hqy, Ne.symm hqz, Ne.symm hqw]) (by
    intro p hp
    simp only [List.mem_cons, List.not_mem_nil, or_false] at hp
    rcases hp with rfl | rfl | rfl | rfl
    · exact (bits_mem h8).2 ha
    · exact (bits_mem h8).2 hz
    · exact (bits_mem h8).2 hw
    · exact (bits_mem h8).2 hq)
  simpa using this
theorem core_cor {g : List Int} (h : validG g = true) : corL (townOf g) (coreS (townOf g) (2 ^ g.length - 1)) = [] := by
  obtain ⟨ht, hr, hs, hc⟩ := valid_facts h
  have hl := town_len g
  have hp : 2 ≤ 2 ^ (townOf g).length := Nat.pow_le_pow_right (n := 2) (by decide) ht.1
  rw [← hl]
  obtain ⟨hco, hno⟩ := core_ok ht hr hs (2 ^ (townOf g).length - 1) (by omega) (by omega)
  have h8 := sub_lt ht hco.lt
  generalize coreS (townOf g) (2 ^ (townOf g).length - 1) = c at *
  simp only [corL, pairsOf, List.flatMap_eq_nil_iff, List.map_eq_nil_iff, List.filter_eq_nil_iff]
  intro v hv u hu hcv
  exact hno u v ((covF_iff ht hco.lt ((bits_mem h8).1 hv) ((bits_mem h8).1 hu)).1 hcv)
theorem dif_len_all : (List.range 256).all (fun s => (List.range 8).all fun v => !s.testBit v || (bitsL (dif s (2 ^ v))).length + 1 == (bitsL s).length) = true := by kernel_rfl
theorem dif_len {s v : Nat} (hs : s < 256) (h : s.testBit v = true) : (bitsL (dif s (2 ^ v))).length + 1 = (bitsL s).length := by
  have hv : v < 8 := bits_lt ((bits_mem hs).2 h)
  have := List.all_eq_true.1 (List.all_eq_true.1 dif_len_all s (List.mem_range.2 hs)) v (List.mem_range.2 hv)
  rw [h] at this
  simpa using this
theorem full_len : ∀ n, n < 9 → (bitsL (2 ^ n - 1)).length = n := by
  have : (List.range 9).all (fun n => (bitsL (2 ^ n - 1)).length == n) = true := by kernel_rfl
  intro n hn
  simpa using List.all_eq_true.1 this n (List.mem_range.2 hn)
/-- The order that Apart finds takes the set apart. -/
theorem apL_ok {t : List Nat} (ht : Twn t) : ∀ s, s < 2 ^ t.length → s ≠ 0 → sgl (coreS t s) = true → (apL t s).length = (bitsL s).length ∧ chkGo t (iL (apL t s)) s = true
  | s, hs, h0, hc => by
    have h8 := sub_lt ht hs
    rw [coreS] at hc
    rw [apL]
    split
    · rename_i hf
      rw [hf] at hc
      simp only at hc
      have h1 := sgl_tz (by omega) h8 hc
      have h2 := nz_bit h0 h8
      have h3 := bX_lt hs h2
      refine ⟨by rw [h1], ?_⟩
      have h4 : ((tz s : Nat) : Int) < t.length := by omega
      simp only [iL_cons, iL_nil, chkGo, Int.toNat_natCast, hc, Bool.true_or, Bool.true_and, Bool.and_true]
      rw [show s.testBit (tz s) = true from h2]
      simp [h3]
    · rename_i v hf
      rw [hf] at hc
      obtain ⟨h1, h2, h3⟩ := find_pos h8 hf
      simp only [h3, if_true] at hc ⊢
      obtain ⟨ih1, ih2⟩ := apL_ok ht (dif s (2 ^ v)) (dif_sub ht hs _) (cor_pos h8 h1 h2) hc
      have h4 : v < t.length := bX_lt hs h1
      refine ⟨by rw [List.length_cons, ih1]; exact dif_len h8 h1, ?_⟩
      simp only [iL_cons, chkGo, Int.toNat_natCast, h1, h2, ih2, Bool.or_true, Bool.true_and, Bool.and_true]
      simp [h4]
termination_by s => s
theorem apart_chk {g : List Int} (h : validG g = true) (h1 : sgl (coreS (townOf g) (2 ^ g.length - 1)) = true) : chkF g (iL (apL (townOf g) (2 ^ g.length - 1))) = .tup [eB true, eI 0] := by
  have ht := valid_town h
  have hl := town_len g
  have hp : 2 ≤ 2 ^ (townOf g).length := Nat.pow_le_pow_right (n := 2) (by decide) ht.1
  rw [chkF, h, if_pos rfl]
  rw [hl] at hp
  obtain ⟨h2, h3⟩ := apL_ok ht (2 ^ g.length - 1) (by rw [hl]; omega) (by omega) h1
  rw [h3, iL_length, h2, full_len g.length (by have := ht.2.1; omega)]
  simp
end Go.Proofs.YtgcncgocdfioiaaDoor
