import Derived.Test.YtgcncgocdfioiaaDoorCW2
/- CW3: two sweeps catch the cat on at most eight nodes, in plain Lean. -/
set_option linter.unusedVariables false
set_option linter.unusedSimpArgs false
namespace Go.Proofs.YtgcncgocdfioiaaDoor
theorem sub_len {α : Type} [DecidableEq α] : ∀ {l1 l2 : List α}, l1.Nodup → (∀ x ∈ l1, x ∈ l2) → l1.length ≤ l2.length
  | [], _, _, _ => by simp
  | x :: l1, l2, h, hs => by
    rw [List.nodup_cons] at h
    have hx := hs x (by simp)
    have := sub_len (l1 := l1) (l2 := l2.erase x) h.2 (fun y hy => (List.mem_erase_of_ne (fun e => h.1 (by rw [← e]; exact hy))).2 (hs y (by simp [hy])))
    rw [List.length_erase_of_mem hx] at this
    have h2 : 0 < l2.length := List.length_pos_of_mem hx
    simp only [List.length_cons]
    omega
theorem max_at (f : Nat → Nat) : ∀ n, 0 < n → ∃ u, u < n ∧ ∀ a, a < n → f a ≤ f u
  | 0, h => by omega
  | 1, _ => ⟨0, by omega, fun a ha => by rw [show a = 0 by omega]; exact Nat.le_refl _⟩
  | n + 2, _ => by
    obtain ⟨u, hu, hm⟩ := max_at f (n + 1) (by omega)
    rcases Nat.lt_or_ge (f u) (f (n + 1)) with h | h
    · refine ⟨n + 1, by omega, fun a ha => ?_⟩
      rcases Nat.lt_or_ge a (n + 1) with h1 | h1
      · exact Nat.le_trans (hm a h1) (Nat.le_of_lt h)
      · rw [show a = n + 1 by omega]; exact Nat.le_refl _
    · refine ⟨u, by omega, fun a ha => ?_⟩
      rcases Nat.lt_or_ge a (n + 1) with h1 | h1
      · exact hm a h1
      · rw [show a = n + 1 by omega]; exact h
/-- One bound for all cats. -/
theorem bound {P : Nat → Nat → Prop} (hle : ∀ n m c, P n c → n ≤ m → P m c) : ∀ k, (∀ c, c < k → ∃ n, P n c) → ∃ n, ∀ c, c < k → P n c
  | 0, _ => ⟨0, fun c hc => by omega⟩
  | k + 1, h => by
    obtain ⟨n, hn⟩ := bound hle k (fun c hc => h c (by omega))
    obtain ⟨m, hm⟩ := h k (by omega)
    refine ⟨max n m, fun c hc => ?_⟩
    rcases Nat.lt_or_ge c k with h1 | h1
    · exact hle n _ c (hn c h1) (Nat.le_max_left _ _)
    · rw [show c = k by omega]; exact hle m _ k hm (Nat.le_max_right _ _)
theorem cw_congr {V V' : Nat → Prop} {r : Nat → Nat → Prop} {two : Bool} (h : ∀ x, V x ↔ V' x) : Cw V r two ↔ Cw V' r two := by
  have e : V = V' := funext fun x => propext (h x)
  rw [e]
theorem conn_congr {V V' : Nat → Prop} {r : Nat → Nat → Prop} (h : ∀ x, V x ↔ V' x) : Conn V r ↔ Conn V' r := by
  have e : V = V' := funext fun x => propext (h x)
  rw [e]
/-- What is left without corners. -/
theorem core_ex {r : Nat → Nat → Prop} : ∀ (k : Nat) (L : List Nat), L.length ≤ k → L.Nodup → (∀ x ∈ L, r x x) → (∀ x y, x ∈ L → y ∈ L → r x y → r y x) → L ≠ [] →
    ∃ Y : List Nat, Y.Nodup ∧ Y ≠ [] ∧ (∀ x ∈ Y, x ∈ L) ∧ (∀ u v, ¬ Cov (· ∈ Y) r u v) ∧ (∀ two, Cw (· ∈ L) r two ↔ Cw (· ∈ Y) r two) ∧ (Conn (· ∈ L) r → Conn (· ∈ Y) r)
  | 0, L, hk, _, _, _, hne => by
    have : L = [] := List.eq_nil_of_length_eq_zero (by omega)
    exact absurd this hne
  | k + 1, L, hk, hn, hr, hs, hne => by
    by_cases h : ∃ u v, Cov (· ∈ L) r u v
    · obtain ⟨u, v, hc⟩ := h
      have hmem : ∀ x, x ∈ L.erase v ↔ x ∈ L ∧ x ≠ v := fun x => by rw [hn.mem_erase_iff]; exact And.comm
      have hlen : (L.erase v).length ≤ k := by
        rw [List.length_erase_of_mem hc.2.2.1]; omega
      obtain ⟨Y, h1, h2, h3, h4, h5, h6⟩ := core_ex k (L.erase v) hlen (hn.erase v) (fun x hx => hr x ((hmem x).1 hx).1)
        (fun x y hx hy => hs x y ((hmem x).1 hx).1 ((hmem y).1 hy).1) (fun e => by
          have : u ∈ L.erase v := (hmem u).2 ⟨hc.2.1, hc.1⟩
          rw [e] at this
          cases this)
      refine ⟨Y, h1, h2, fun x hx => ((hmem x).1 (h3 x hx)).1, h4, fun two => ?_, fun hcn => h6 ?_⟩
      · rw [Cw.corner hr hs hc, ← h5 two]
        exact cw_congr fun x => (hmem x).symm
      · exact (conn_congr (V := fun x => x ∈ L.erase v) fun x => hmem x).2 (hcn.fold hr hs hc)
    · exact ⟨L, hn, hne, fun x h => h, fun u v hc => h ⟨u, v, hc⟩, fun _ => Iff.rfl, id⟩
open Classical in
theorem two_sweeps {n : Nat} (h8 : n ≤ 8) (hn : 0 < n) {r : Nat → Nat → Prop} (hr : ∀ x, x < n → r x x) (hs : ∀ x y, x < n → y < n → r x y → r y x) (hcn : Conn (· < n) r) : Cw (· < n) r true := by
  obtain ⟨D, hD⟩ : ∃ D : Nat → List Nat, ∀ a, D a = (List.range n).filter (fun x => decide (r a x ∧ x ≠ a)) := ⟨_, fun _ => rfl⟩
  have hDm : ∀ a x, x ∈ D a ↔ x < n ∧ r a x ∧ x ≠ a := fun a x => by rw [hD]; simp
  have hDn : ∀ a, (D a).Nodup := fun a => by rw [hD]; exact List.nodup_range.filter _
  obtain ⟨u, hu, hmax⟩ := max_at (fun a => (D a).length) n hn
  refine ⟨u, u, hu, hu, .inl rfl, bound (P := fun m c => Win (· < n) r true m u u c) (fun m m' c h hle => h.le hle) n fun c0 hc0 => ?_⟩
  by_cases hrc : r u c0
  · exact ⟨1, .one hu hu hc0 hr (.inl rfl) hrc⟩
  -- the part of the cat
  obtain ⟨L, hL⟩ : ∃ L : List Nat, L = (List.range n).filter (fun x => decide (Way (fun x => x < n ∧ ¬ r u x) r c0 x)) := ⟨_, rfl⟩
  have hLm : ∀ x, x ∈ L ↔ Way (fun x => x < n ∧ ¬ r u x) r c0 x := fun x => by
    rw [hL]
    simp only [List.mem_filter, List.mem_range, decide_eq_true_eq]
    exact ⟨fun h => h.2, fun h => ⟨(h.mem ⟨hc0, hrc⟩).1, h⟩⟩
  have hLr : ∀ x ∈ L, x < n ∧ ¬ r u x := fun x hx => ((hLm x).1 hx).mem ⟨hc0, hrc⟩
  have hLn : L.Nodup := by rw [hL]; exact List.nodup_range.filter _
  have hLc : Conn (· ∈ L) r := by
    have h1 : ∀ x, Way (fun x => x < n ∧ ¬ r u x) r c0 x → Way (· ∈ L) r c0 x := by
      intro x hx
      induction hx with
      | refl => exact .refl
      | step h0 h1 h2 ih => exact .step ih ((hLm _).2 (.step h0 h1 h2)) h2
    intro x y hx hy
    have hxs := (h1 x ((hLm x).1 hx)).symm (fun a b ha hb => hs a b (hLr a ha).1 (hLr b hb).1) ((hLm c0).2 .refl)
    exact hxs.trans (h1 y ((hLm y).1 hy))
  have hclose : ∀ c c', c ∈ L → c' < n → r c c' → c' ∈ L ∨ r u c' := by
    intro c c' hc hc' h
    by_cases h1 : r u c'
    · exact .inr h1
    · exact .inl ((hLm c').2 (.step ((hLm c).1 hc) ⟨hc', h1⟩ h))
  have hrL : ∀ x ∈ L, r x x := fun x hx => hr x (hLr x hx).1
  have hsL : ∀ x y, x ∈ L → y ∈ L → r x y → r y x := fun x y hx hy => hs x y (hLr x hx).1 (hLr y hy).1
  have hc0L : c0 ∈ L := (hLm c0).2 .refl
  obtain ⟨Y, hYn, hYe, hYL, hYno, hYcw, hYc⟩ := core_ex L.length L (Nat.le_refl _) hLn hrL hsL (fun e => by rw [e] at hc0L; cases hc0L)
  have hYc := hYc hLc
  obtain ⟨y0, hy0⟩ := List.exists_mem_of_ne_nil Y hYe
  -- once the second sweep is there
  have fin : ∀ x0 ∈ L, (∃ m, ∀ c, c ∈ L → Win (· < n) r true m u x0 c) → ∃ m, Win (· < n) r true m u u c0 := by
    rintro x0 hx0 ⟨m, hm⟩
    obtain ⟨m', hm'⟩ := Win.walk2 (X := (· ∈ L)) hr hs hu hclose (hLr x0 hx0).1 hm (hcn x0 u (hLr x0 hx0).1 hu)
    exact ⟨m', hm' c0 hc0L⟩
  by_cases h2 : ∀ a ∈ Y, ∃ x, x ∈ Y ∧ x ≠ a
  · -- four nodes at least
    have hrY : ∀ x ∈ Y, r x x := fun x hx => hrL x (hYL x hx)
    have hsY : ∀ x y, x ∈ Y → y ∈ Y → r x y → r y x := fun x y hx hy => hsL x y (hYL x hx) (hYL y hy)
    have h4 := fun {a} (ha : a ∈ Y) => four (V := (· ∈ Y)) hrY hsY hYc hYno h2 ha
    rcases Nat.lt_or_ge (D u).length 3 with hd | hd
    · -- a ring: what is left is closed
      exfalso
      have hcl : ∀ y x, y ∈ Y → x < n → r y x → x ∈ Y := by
        intro y x hy hx hyx
        obtain ⟨_, z, w, hz, hw, hyz, hyw, _, hzy, hwy, hzw⟩ := h4 hy
        by_cases e1 : x = y
        · rw [e1]; exact hy
        by_cases e2 : x = z
        · rw [e2]; exact hz
        by_cases e3 : x = w
        · rw [e3]; exact hw
        exfalso
        have h5 : [x, z, w].length ≤ (D y).length := sub_len (by simp [e2, e3, hzw]) (by
          intro q hq
          simp only [List.mem_cons, List.not_mem_nil, or_false] at hq
          rw [hDm]
          rcases hq with rfl | rfl | rfl
          · exact ⟨hx, hyx, e1⟩
          · exact ⟨(hLr _ (hYL _ hz)).1, hyz, hzy⟩
          · exact ⟨(hLr _ (hYL _ hw)).1, hyw, hwy⟩)
        have := hmax y (hLr _ (hYL _ hy)).1
        simp only [List.length_cons, List.length_nil] at h5
        omega
      have hw := hcn y0 u (hLr _ (hYL _ hy0)).1 hu
      have : u ∈ Y := by
        clear fin
        generalize u = u' at hw
        induction hw with
        | refl => exact hy0
        | step h0 h1 h2 ih => exact hcl _ _ ih h1 h2
      exact (hLr u (hYL u this)).2 (hr u hu)
    · -- a ring of four
      have hcount : ∀ l : List Nat, l.Nodup → (∀ x ∈ l, x < n ∧ ¬ r u x) → (D u).length + 1 + l.length ≤ 8 := by
        intro l hl hx
        have h5 : (D u ++ u :: l).length ≤ (List.range n).length := by
          refine sub_len ?_ ?_
          · rw [List.nodup_append]
            refine ⟨hDn u, List.nodup_cons.2 ⟨fun h => (hx u h).2 (hr u hu), hl⟩, ?_⟩
            intro a ha b hb e
            subst e
            rw [hDm] at ha
            rcases List.mem_cons.1 hb with h | h
            · exact ha.2.2 h
            · exact (hx _ h).2 ha.2.1
          · intro q hq
            rw [List.mem_range]
            rcases List.mem_append.1 hq with h | h
            · exact ((hDm u q).1 h).1
            · rcases List.mem_cons.1 h with h | h
              · rw [h]; exact hu
              · exact (hx q h).1
        simp only [List.length_append, List.length_cons, List.length_range] at h5
        omega
      refine fin y0 (hYL y0 hy0) (bound (P := fun m c => c ∈ L → Win (· < n) r true m u y0 c) (fun m m' c h hle hc => (h hc).le hle) n (fun c hcn' => ?_) |>.elim fun m hm => ⟨m, fun c hc => hm c (hLr c hc).1 hc⟩)
      by_cases hcL : c ∈ L
      · by_cases hyc : r y0 c
        · exact ⟨1, fun _ => (Win.one (V := (· < n)) (hLr _ (hYL _ hy0)).1 hu (hLr _ hcL).1 hr (.inl rfl) hyc).swap⟩
        obtain ⟨⟨q, hq, hyq⟩, z, w, hz, hw, hyz, hyw, hnzw, hzy, hwy, hzw⟩ := h4 hy0
        have hqy : q ≠ y0 := fun e => hyq (by rw [e]; exact hrY y0 hy0)
        have hqz : q ≠ z := fun e => hyq (by rw [e]; exact hyz)
        have hqw : q ≠ w := fun e => hyq (by rw [e]; exact hyw)
        have hfour : ∀ x, x < n → ¬ r u x → x = y0 ∨ x = z ∨ x = w ∨ x = q := by
          intro x hx hux
          apply Classical.byContradiction
          intro hne
          simp only [not_or] at hne
          have := hcount [x, y0, z, w, q] (by simp [hne, hzw, Ne.symm hzy, Ne.symm hwy, Ne.symm hqy, Ne.symm hqz, Ne.symm hqw]) (by
            intro p hp
            simp only [List.mem_cons, List.not_mem_nil, or_false] at hp
            rcases hp with rfl | rfl | rfl | rfl | rfl
            · exact ⟨hx, hux⟩
            · exact hLr _ (hYL _ hy0)
            · exact hLr _ (hYL _ hz)
            · exact hLr _ (hYL _ hw)
            · exact hLr _ (hYL _ hq))
          simp only [List.length_cons, List.length_nil] at this
          omega
        have hd3 : (D u).length = 3 := by
          have := hcount [y0, z, w, q] (by simp [hzw, Ne.symm hzy, Ne.symm hwy, Ne.symm hqy, Ne.symm hqz, Ne.symm hqw]) (by
            intro p hp
            simp only [List.mem_cons, List.not_mem_nil, or_false] at hp
            rcases hp with rfl | rfl | rfl | rfl
            · exact hLr _ (hYL _ hy0)
            · exact hLr _ (hYL _ hz)
            · exact hLr _ (hYL _ hw)
            · exact hLr _ (hYL _ hq))
          simp only [List.length_cons, List.length_nil] at this
          omega
        have hcq : c = q := by
          rcases hfour c (hLr c hcL).1 (hLr c hcL).2 with e | e | e | e
          · exact absurd (hrY y0 hy0) (by rw [e] at hyc; exact hyc)
          · exact absurd hyz (by rw [e] at hyc; exact hyc)
          · exact absurd hyw (by rw [e] at hyc; exact hyc)
          · exact e
        subst hcq
        -- the neighbours of the cat in the ring
        obtain ⟨_, z', w', hz', hw', hcz, hcw, _, hzc, hwc, hzw'⟩ := h4 hq
        have hyn : ¬ r c y0 := fun h => hyc (hsY _ _ hq hy0 h)
        have hin : ∀ x, x ∈ Y → r c x → x ≠ c → x = z ∨ x = w := by
          intro x hx hcx hxc
          rcases hfour x (hLr _ (hYL _ hx)).1 (hLr _ (hYL _ hx)).2 with e | e | e | e
          · exact absurd (by rw [← e]; exact hcx) hyn
          · exact .inl e
          · exact .inr e
          · exact absurd e hxc
        have hcz2 : r c z ∧ r c w := by
          rcases hin z' hz' hcz hzc with e1 | e1 <;> rcases hin w' hw' hcw hwc with e2 | e2
          · exact absurd (e1.trans e2.symm) hzw'
          · exact ⟨by rw [← e1]; exact hcz, by rw [← e2]; exact hcw⟩
          · exact ⟨by rw [← e2]; exact hcw, by rw [← e1]; exact hcz⟩
          · exact absurd (e1.trans e2.symm) hzw'
        have hcY := hLr _ (hYL _ hq)
        have hzr := hLr _ (hYL _ hz)
        have hwr := hLr _ (hYL _ hw)
        have hyr := hLr _ (hYL _ hy0)
        by_cases hout : ∃ p, p < n ∧ r c p ∧ r u p
        · obtain ⟨p, hp, hcp, hup⟩ := hout
          have hpz : p ≠ z := fun e => hzr.2 (by rw [← e]; exact hup)
          have hpw : p ≠ w := fun e => hwr.2 (by rw [← e]; exact hup)
          have hpc : p ≠ c := fun e => hcY.2 (by rw [← e]; exact hup)
          refine ⟨2, fun _ => .step hp hyr.1 hup (hr _ hyr.1) (.inl rfl) (.inr (.inr fun c' q1 q2 => ?_))⟩
          by_cases e1 : c' = c
          · rw [e1]; exact .one hp hyr.1 hcY.1 hr (.inl rfl) (hs _ _ hcY.1 hp hcp)
          by_cases e2 : c' = z
          · rw [e2]; exact (Win.one (V := (· < n)) hyr.1 hp hzr.1 hr (.inl rfl) hyz).swap
          by_cases e3 : c' = w
          · rw [e3]; exact (Win.one (V := (· < n)) hyr.1 hp hwr.1 hr (.inl rfl) hyw).swap
          by_cases e4 : c' = p
          · exact .caught (.inl e4)
          exfalso
          have h5 : [c', z, w, p].length ≤ (D c).length := sub_len (by simp [e2, e3, e4, hzw, Ne.symm hpz, Ne.symm hpw]) (by
            intro x hx
            simp only [List.mem_cons, List.not_mem_nil, or_false] at hx
            rw [hDm]
            rcases hx with rfl | rfl | rfl | rfl
            · exact ⟨q1, q2, e1⟩
            · exact ⟨hzr.1, hcz2.1, Ne.symm hqz⟩
            · exact ⟨hwr.1, hcz2.2, Ne.symm hqw⟩
            · exact ⟨hp, hcp, hpc⟩)
          have := hmax c hcY.1
          simp only [List.length_cons, List.length_nil] at h5
          omega
        · obtain ⟨m, hm⟩ := Win.fetch (V := (· < n)) (b := y0) (c := c) hr hs hyr.1 hcY.1 (fun c' q1 q2 hne => by
            have hun : ¬ r u c' := fun h => hout ⟨c', q1, q2, h⟩
            rcases hfour c' q1 hun with e | e | e | e
            · rw [e]; exact hrY y0 hy0
            · rw [e]; exact hyz
            · rw [e]; exact hyw
            · exact absurd e hne) (hcn c u hcY.1 hu)
          exact ⟨m, fun _ => hm⟩
      · exact ⟨0, fun h => absurd h hcL⟩
  · -- one sweep does it there
    have h3 : ∃ a, a ∈ Y ∧ ∀ x, x ∈ Y → x = a := by
      apply Classical.byContradiction
      intro h
      exact h2 fun a ha => Classical.byContradiction fun h' => h ⟨a, ha, fun x hx => Classical.byContradiction fun hne => h' ⟨x, hx, hne⟩⟩
    obtain ⟨a, ha, hall⟩ := h3
    have hcwY : Cw (· ∈ Y) r false := ⟨a, a, ha, ha, .inr rfl, 0, fun c hc => .inl (hall c hc)⟩
    obtain ⟨m, hm⟩ := Cw.any hsL hLc ((hYcw false).2 hcwY) hc0L
    exact fin c0 hc0L ⟨m + 1, fun c hc => Win.guard (X := (· ∈ L)) hr (fun x hx => (hLr x hx).1) hu hclose hc0L hc (hm c hc)⟩
end Go.Proofs.YtgcncgocdfioiaaDoor
