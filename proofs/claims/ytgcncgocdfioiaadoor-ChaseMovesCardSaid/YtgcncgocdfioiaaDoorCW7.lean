import Derived.Test.YtgcncgocdfioiaaDoorCW3
/- CW7: two sweeps catch the cat on at most eight nodes within 34 moves, from wherever they stand; in plain Lean. -/
set_option linter.unusedVariables false
set_option linter.unusedSimpArgs false
namespace Go.Proofs.YtgcncgocdfioiaaDoor
/-- A way of some length at most. -/
def WayN (X : Nat → Prop) (r : Nat → Nat → Prop) : Nat → Nat → Nat → Prop
  | 0, a, b => a = b
  | k + 1, a, b => WayN X r k a b ∨ ∃ c, WayN X r k a c ∧ X b ∧ r c b
section
variable {X V : Nat → Prop} {r : Nat → Nat → Prop}
theorem WayN.le {k m a b : Nat} (h : WayN X r k a b) (hm : k ≤ m) : WayN X r m a b := by
  induction m with
  | zero => have : k = 0 := by omega
            subst this; exact h
  | succ m ih =>
    rcases Nat.lt_or_ge k (m + 1) with h1 | h1
    · exact .inl (ih (by omega))
    · have : k = m + 1 := by omega
      subst this; exact h
theorem WayN.mem {k a b : Nat} (ha : X a) (h : WayN X r k a b) : X b := by
  induction k generalizing b with
  | zero => rw [← show a = b from h]; exact ha
  | succ k ih =>
    rcases h with h | ⟨c, _, hb, _⟩
    · exact ih h
    · exact hb
open Classical in
theorem ball {L : List Nat} (hc : Conn (· ∈ L) r) {a : Nat} (ha : a ∈ L) : ∀ k, (∀ x ∈ L, WayN (· ∈ L) r k a x) ∨ k + 1 ≤ (L.filter fun x => decide (WayN (· ∈ L) r k a x)).length
  | 0 => by
    right
    have : a ∈ L.filter fun x => decide (WayN (· ∈ L) r 0 a x) := by
      rw [List.mem_filter]
      exact ⟨ha, decide_eq_true rfl⟩
    exact List.length_pos_of_mem this
  | k + 1 => by
    rcases ball hc ha k with h | h
    · exact .inl fun x hx => .inl (h x hx)
    · by_cases hall : ∀ x ∈ L, WayN (· ∈ L) r k a x
      · exact .inl fun x hx => .inl (hall x hx)
      · right
        have hex : ∃ y, y ∈ L ∧ ¬ WayN (· ∈ L) r k a y := by
          apply Classical.byContradiction
          intro hn
          exact hall fun x hx => Classical.byContradiction fun h => hn ⟨x, hx, h⟩
        obtain ⟨y, hy, hny⟩ := hex
        obtain ⟨p, q, hp, hq, h1, h2, h3⟩ := (hc a y ha hy).leave (P := fun x => WayN (· ∈ L) r k a x) ha ((show WayN (· ∈ L) r 0 a a from rfl).le (by omega)) hny
        have hlt : (L.filter fun x => decide (WayN (· ∈ L) r k a x)).length < (L.filter fun x => decide (WayN (· ∈ L) r (k + 1) a x)).length := by
          have e : ∀ l : List Nat, (∀ x ∈ l, x ∈ L) → (l.filter fun x => decide (WayN (· ∈ L) r k a x)).length ≤ (l.filter fun x => decide (WayN (· ∈ L) r (k + 1) a x)).length ∧ (q ∈ l → (l.filter fun x => decide (WayN (· ∈ L) r k a x)).length < (l.filter fun x => decide (WayN (· ∈ L) r (k + 1) a x)).length) := by
            intro l
            induction l with
            | nil => intro _; simp
            | cons x l ih =>
              intro hl
              obtain ⟨i1, i2⟩ := ih fun y hy => hl y (by simp [hy])
              have hstep : WayN (· ∈ L) r k a x → WayN (· ∈ L) r (k + 1) a x := fun h => .inl h
              by_cases h5 : WayN (· ∈ L) r k a x
              · have h6 := hstep h5
                simp only [List.filter_cons, h5, h6, decide_true, if_true, List.length_cons]
                refine ⟨by omega, fun hqx => ?_⟩
                rcases List.mem_cons.1 hqx with rfl | hqx
                · exact absurd h5 h2
                · have := i2 hqx; omega
              · by_cases h6 : WayN (· ∈ L) r (k + 1) a x
                · simp only [List.filter_cons, h5, h6, decide_true, decide_false, if_true, List.length_cons]
                  simp only [Bool.false_eq_true, if_false]
                  exact ⟨by omega, fun _ => by omega⟩
                · simp only [List.filter_cons, h5, h6, decide_false, Bool.false_eq_true, if_false]
                  refine ⟨i1, fun hqx => ?_⟩
                  rcases List.mem_cons.1 hqx with rfl | hqx
                  · exact absurd (.inr ⟨p, h1, hq, h3⟩) h6
                  · exact i2 hqx
          exact (e L fun x h => h).2 hq
        omega
theorem way_len {L : List Nat} (hn : L.Nodup) (hc : Conn (· ∈ L) r) {a b : Nat} (ha : a ∈ L) (hb : b ∈ L) : WayN (· ∈ L) r (L.length - 1) a b := by
  classical
  have h0 : 0 < L.length := List.length_pos_of_mem ha
  rcases ball hc ha (L.length - 1) with h | h
  · exact h b hb
  · have hle := List.length_filter_le (fun x => decide (WayN (· ∈ L) r (L.length - 1) a x)) L
    have heq := List.length_filter_eq_length_iff.1 (show (L.filter fun x => decide (WayN (· ∈ L) r (L.length - 1) a x)).length = L.length by omega) b hb
    exact of_decide_eq_true heq
theorem Win.walk1N (hs : ∀ x y, X x → X y → r x y → r y x) {b : Nat} (hb : X b) {n : Nat} (h : ∀ c, X c → Win X r false n b b c) : ∀ {k b0 : Nat}, WayN X r k b b0 → ∀ c, X c → Win X r false (n + k) b0 b0 c := by
  intro k
  induction k with
  | zero => intro b0 hw; rw [← show b = b0 from hw]; exact h
  | succ k ih =>
    intro b0 hw c hc
    rcases hw with hw | ⟨x, hw, h1, h2⟩
    · exact (ih hw c hc).succ
    · have hx := hw.mem hb
      exact .step hx hx (hs _ _ hx h1 h2) (hs _ _ hx h1 h2) (.inr rfl) (.inr (.inr fun c' q1 q2 => ih hw c' q1))
theorem Win.walk2N (hr : ∀ x, V x → r x x) (hs : ∀ x y, V x → V y → r x y → r y x) {u : Nat} (hu : V u) (hX : ∀ c c', X c → V c' → r c c' → X c' ∨ r u c') {b : Nat} (hb : V b) {n : Nat} (hn : 1 ≤ n) (h : ∀ c, X c → Win V r true n u b c) : ∀ {k b0 : Nat}, WayN V r k b b0 → ∀ c, X c → Win V r true (n + k) u b0 c := by
  intro k
  induction k with
  | zero => intro b0 hw; rw [← show b = b0 from hw]; exact h
  | succ k ih =>
    intro b0 hw c hc
    rcases hw with hw | ⟨x, hw, h1, h2⟩
    · exact (ih hw c hc).succ
    · have hx := hw.mem hb
      refine .step hu hx (hr u hu) (hs _ _ hx h1 h2) (.inl rfl) (.inr (.inr fun c' q1 q2 => ?_))
      rcases hX c c' hc q1 q2 with q3 | q3
      · exact ih hw c' q3
      · have h9 : Win V r true (n + k) u x c' := (Win.one hu hx q1 hr (.inl rfl) q3).le (by omega)
        exact h9
/-- Both sweeps walk, one behind the other. -/
theorem Win.walkB (hr : ∀ x, V x → r x x) (hs : ∀ x y, V x → V y → r x y → r y x) {u b : Nat} (hu : V u) (hb : V b) {n : Nat} (h : ∀ c, V c → Win V r true n u b c) : ∀ {k u0 : Nat}, WayN V r k u u0 → ∀ c, V c → Win V r true (n + k) u0 b c := by
  intro k
  induction k with
  | zero => intro b0 hw; rw [← show u = b0 from hw]; exact h
  | succ k ih =>
    intro u0 hw c hc
    rcases hw with hw | ⟨x, hw, h1, h2⟩
    · exact (ih hw c hc).succ
    · have hx := hw.mem hu
      exact .step hx hb (hs _ _ hx h1 h2) (hr b hb) (.inl rfl) (.inr (.inr fun c' q1 q2 => ih hw c' q1))
theorem Win.fetchN (hr : ∀ x, V x → r x x) (hs : ∀ x y, V x → V y → r x y → r y x) {b c : Nat} (hb : V b) (hcV : V c) (hX : ∀ c', V c' → r c c' → c' ≠ c → r b c') : ∀ {k a : Nat}, WayN V r k c a → Win V r true (k + 1) a b c := by
  intro k
  induction k with
  | zero => intro a hw; exact .caught (.inl (show c = a from hw))
  | succ k ih =>
    intro a hw
    rcases hw with hw | ⟨x, hw, h1, h2⟩
    · exact (ih hw).succ
    · have hx := hw.mem hcV
      refine .step hx hb (hs _ _ hx h1 h2) (hr b hb) (.inl rfl) (.inr (.inr fun c' q1 q2 => ?_))
      by_cases e : c' = c
      · rw [e]; exact ih hw
      · exact (Win.one hb hx q1 hr (.inl rfl) (hX c' q1 q2 e)).swap.le (by omega)
/-- What is left without corners, with numbers of moves. -/
theorem core_exN {r : Nat → Nat → Prop} : ∀ (k : Nat) (L : List Nat), L.length ≤ k → L.Nodup → (∀ x ∈ L, r x x) → (∀ x y, x ∈ L → y ∈ L → r x y → r y x) → L ≠ [] →
    ∃ Y : List Nat, Y.Nodup ∧ Y ≠ [] ∧ (∀ x ∈ Y, x ∈ L) ∧ Y.length ≤ L.length ∧ (∀ u v, ¬ Cov (· ∈ Y) r u v) ∧ (Conn (· ∈ L) r → Conn (· ∈ Y) r) ∧
      (∀ a n, a ∈ Y → (∀ c, c ∈ Y → Win (· ∈ Y) r false n a a c) → ∀ c, c ∈ L → Win (· ∈ L) r false (n + (L.length - Y.length)) a a c)
  | 0, L, hk, _, _, _, hne => by
    have : L = [] := List.eq_nil_of_length_eq_zero (by omega)
    exact absurd this hne
  | k + 1, L, hk, hn, hr, hs, hne => by
    by_cases h : ∃ u v, Cov (· ∈ L) r u v
    · obtain ⟨u, v, hc⟩ := h
      have hmem : ∀ x, x ∈ L.erase v ↔ x ∈ L ∧ x ≠ v := fun x => by rw [hn.mem_erase_iff]; exact And.comm
      have hpos : 0 < L.length := List.length_pos_of_mem hc.2.2.1
      have hlen : (L.erase v).length = L.length - 1 := by rw [List.length_erase_of_mem hc.2.2.1]
      obtain ⟨Y, h1, h2, h3, h3', h4, h6, h5⟩ := core_exN k (L.erase v) (by omega) (hn.erase v) (fun x hx => hr x ((hmem x).1 hx).1)
        (fun x y hx hy => hs x y ((hmem x).1 hx).1 ((hmem y).1 hy).1) (fun e => by
          have : u ∈ L.erase v := (hmem u).2 ⟨hc.2.1, hc.1⟩
          rw [e] at this
          cases this)
      refine ⟨Y, h1, h2, fun x hx => ((hmem x).1 (h3 x hx)).1, by omega, h4, fun hcn => h6 ?_, fun a n ha hw c hcL => ?_⟩
      · exact (conn_congr (V := fun x => x ∈ L.erase v) fun x => hmem x).2 (hcn.fold hr hs hc)
      · have h7 := h5 a n ha hw
        have haL := (hmem a).1 (h3 a ha)
        have he : (fun x => x ∈ L.erase v) = fun x => x ∈ L ∧ x ≠ v := funext fun x => propext (hmem x)
        have hfc : foldC u v c ∈ L.erase v := by
          rw [hmem]
          unfold foldC
          by_cases e1 : c = v
          · simp only [e1, if_true]; exact ⟨hc.2.1, hc.1⟩
          · simp only [e1, if_false]; exact ⟨hcL, e1⟩
        have h8 := h7 _ hfc
        rw [he] at h8
        have h9 := Win.corner hr hs hc haL.1 haL.1 hcL (.inr rfl) h8
        exact h9.le (by omega)
    · exact ⟨L, hn, hne, fun x h => h, Nat.le_refl _, fun u v hc => h ⟨u, v, hc⟩, id, fun a n _ hw c hc => (hw c hc).le (by omega)⟩
end
open Classical in
theorem two_sweepsN {n : Nat} (h8 : n ≤ 8) (hn : 0 < n) {r : Nat → Nat → Prop} (hr : ∀ x, x < n → r x x) (hs : ∀ x y, x < n → y < n → r x y → r y x) (hcn : Conn (· < n) r) : ∃ u, u < n ∧ ∀ c, c < n → Win (· < n) r true 20 u u c := by
  obtain ⟨D, hD⟩ : ∃ D : Nat → List Nat, ∀ a, D a = (List.range n).filter (fun x => decide (r a x ∧ x ≠ a)) := ⟨_, fun _ => rfl⟩
  have hDm : ∀ a x, x ∈ D a ↔ x < n ∧ r a x ∧ x ≠ a := fun a x => by rw [hD]; simp
  have hDn : ∀ a, (D a).Nodup := fun a => by rw [hD]; exact List.nodup_range.filter _
  obtain ⟨u, hu, hmax⟩ := max_at (fun a => (D a).length) n hn
  refine ⟨u, hu, fun c0 hc0 => ?_⟩
  by_cases hrc : r u c0
  · exact (Win.one (V := (· < n)) hu hu hc0 hr (.inl rfl) hrc).le (by omega)
  -- the part of the cat
  obtain ⟨L, hL⟩ : ∃ L : List Nat, L = (List.range n).filter (fun x => decide (Way (fun x => x < n ∧ ¬ r u x) r c0 x)) := ⟨_, rfl⟩
  have hLm : ∀ x, x ∈ L ↔ Way (fun x => x < n ∧ ¬ r u x) r c0 x := fun x => by
    rw [hL]
    simp only [List.mem_filter, List.mem_range, decide_eq_true_eq]
    exact ⟨fun h => h.2, fun h => ⟨(h.mem ⟨hc0, hrc⟩).1, h⟩⟩
  have hLr : ∀ x ∈ L, x < n ∧ ¬ r u x := fun x hx => ((hLm x).1 hx).mem ⟨hc0, hrc⟩
  have hLn : L.Nodup := by rw [hL]; exact List.nodup_range.filter _
  have hLc : Conn (· ∈ L) r := by
    have h1 : ∀ x, Way (fun x => x < n ∧ ¬ r u x) r c0 x → Way (· ∈ L) r c0 x := by
      intro x hx
      induction hx with
      | refl => exact .refl
      | step h0 h1 h2 ih => exact .step ih ((hLm _).2 (.step h0 h1 h2)) h2
    intro x y hx hy
    have hxs := (h1 x ((hLm x).1 hx)).symm (fun a b ha hb => hs a b (hLr a ha).1 (hLr b hb).1) ((hLm c0).2 .refl)
    exact hxs.trans (h1 y ((hLm y).1 hy))
  have hclose : ∀ c c', c ∈ L → c' < n → r c c' → c' ∈ L ∨ r u c' := by
    intro c c' hc hc' h
    by_cases h1 : r u c'
    · exact .inr h1
    · exact .inl ((hLm c').2 (.step ((hLm c).1 hc) ⟨hc', h1⟩ h))
  have hrL : ∀ x ∈ L, r x x := fun x hx => hr x (hLr x hx).1
  have hsL : ∀ x y, x ∈ L → y ∈ L → r x y → r y x := fun x y hx hy => hs x y (hLr x hx).1 (hLr y hy).1
  have hc0L : c0 ∈ L := (hLm c0).2 .refl
  obtain ⟨Y, hYn, hYe, hYL, hYlen, hYno, hYc, hYw⟩ := core_exN L.length L (Nat.le_refl _) hLn hrL hsL (fun e => by rw [e] at hc0L; cases hc0L)
  have hYc := hYc hLc
  obtain ⟨y0, hy0⟩ := List.exists_mem_of_ne_nil Y hYe
  have hL7 : L.length ≤ 7 := by
    have h5 : (u :: L).length ≤ (List.range n).length := sub_len (List.nodup_cons.2 ⟨fun h => (hLr u h).2 (hr u hu), hLn⟩) (by
      intro q hq
      rw [List.mem_range]
      rcases List.mem_cons.1 hq with h | h
      · rw [h]; exact hu
      · exact (hLr q h).1)
    simp only [List.length_cons, List.length_range] at h5
    omega
  have hway : ∀ a b, a < n → b < n → WayN (· < n) r 7 a b := fun a b ha hb => by
    have e : (fun x => x ∈ List.range n) = fun x => x < n := funext fun x => propext List.mem_range
    have h5 : Conn (· ∈ List.range n) r := (conn_congr (V' := (· < n)) fun x => List.mem_range).2 hcn
    have h6 := way_len List.nodup_range h5 (List.mem_range.2 ha) (List.mem_range.2 hb)
    rw [e, List.length_range] at h6
    exact h6.le (by omega)
  -- once the second sweep is there
  have fin : ∀ x0 ∈ L, (∀ c, c ∈ L → Win (· < n) r true 13 u x0 c) → Win (· < n) r true 20 u u c0 := by
    intro x0 hx0 hm
    exact Win.walk2N (X := (· ∈ L)) hr hs hu hclose (hLr x0 hx0).1 (by omega) hm (hway x0 u (hLr x0 hx0).1 hu) c0 hc0L
  by_cases h2 : ∀ a ∈ Y, ∃ x, x ∈ Y ∧ x ≠ a
  · -- four nodes at least
    have hrY : ∀ x ∈ Y, r x x := fun x hx => hrL x (hYL x hx)
    have hsY : ∀ x y, x ∈ Y → y ∈ Y → r x y → r y x := fun x y hx hy => hsL x y (hYL x hx) (hYL y hy)
    have h4 := fun {a} (ha : a ∈ Y) => four (V := (· ∈ Y)) hrY hsY hYc hYno h2 ha
    rcases Nat.lt_or_ge (D u).length 3 with hd | hd
    · -- a ring: what is left is closed
      exfalso
      have hcl : ∀ y x, y ∈ Y → x < n → r y x → x ∈ Y := by
        intro y x hy hx hyx
        obtain ⟨_, z, w, hz, hw, hyz, hyw, _, hzy, hwy, hzw⟩ := h4 hy
        by_cases e1 : x = y
        · rw [e1]; exact hy
        by_cases e2 : x = z
        · rw [e2]; exact hz
        by_cases e3 : x = w
        · rw [e3]; exact hw
        exfalso
        have h5 : [x, z, w].length ≤ (D y).length := sub_len (by simp [e2, e3, hzw]) (by
          intro q hq
          simp only [List.mem_cons, List.not_mem_nil, or_false] at hq
          rw [hDm]
          rcases hq with rfl | rfl | rfl
          · exact ⟨hx, hyx, e1⟩
          · exact ⟨(hLr _ (hYL _ hz)).1, hyz, hzy⟩
          · exact ⟨(hLr _ (hYL _ hw)).1, hyw, hwy⟩)
        have := hmax y (hLr _ (hYL _ hy)).1
        simp only [List.length_cons, List.length_nil] at h5
        omega
      have hw := hcn y0 u (hLr _ (hYL _ hy0)).1 hu
      have : u ∈ Y := by
        clear fin
        generalize u = u' at hw
        induction hw with
        | refl => exact hy0
        | step h0 h1 h2 ih => exact hcl _ _ ih h1 h2
      exact (hLr u (hYL u this)).2 (hr u hu)
    · -- a ring of four
      have hcount : ∀ l : List Nat, l.Nodup → (∀ x ∈ l, x < n ∧ ¬ r u x) → (D u).length + 1 + l.length ≤ 8 := by
        intro l hl hx
        have h5 : (D u ++ u :: l).length ≤ (List.range n).length := by
          refine sub_len ?_ ?_
          · rw [List.nodup_append]
            refine ⟨hDn u, List.nodup_cons.2 ⟨fun h => (hx u h).2 (hr u hu), hl⟩, ?_⟩
            intro a ha b hb e
            subst e
            rw [hDm] at ha
            rcases List.mem_cons.1 hb with h | h
            · exact ha.2.2 h
            · exact (hx _ h).2 ha.2.1
          · intro q hq
            rw [List.mem_range]
            rcases List.mem_append.1 hq with h | h
            · exact ((hDm u q).1 h).1
            · rcases List.mem_cons.1 h with h | h
              · rw [h]; exact hu
              · exact (hx q h).1
        simp only [List.length_append, List.length_cons, List.length_range] at h5
        omega
      refine fin y0 (hYL y0 hy0) fun c hcL => ?_
      · by_cases hyc : r y0 c
        · exact (Win.one (V := (· < n)) (hLr _ (hYL _ hy0)).1 hu (hLr _ hcL).1 hr (.inl rfl) hyc).swap.le (by omega)
        obtain ⟨⟨q, hq, hyq⟩, z, w, hz, hw, hyz, hyw, hnzw, hzy, hwy, hzw⟩ := h4 hy0
        have hqy : q ≠ y0 := fun e => hyq (by rw [e]; exact hrY y0 hy0)
        have hqz : q ≠ z := fun e => hyq (by rw [e]; exact hyz)
        have hqw : q ≠ w := fun e => hyq (by rw [e]; exact hyw)
        have hfour : ∀ x, x < n → ¬ r u x → x = y0 ∨ x = z ∨ x = w ∨ x = q := by
          intro x hx hux
          apply Classical.byContradiction
          intro hne
          simp only [not_or] at hne
          have := hcount [x, y0, z, w, q] (by simp [hne, hzw, Ne.symm hzy, Ne.symm hwy, Ne.symm hqy, Ne.symm hqz, Ne.symm hqw]) (by
            intro p hp
            simp only [List.mem_cons, List.not_mem_nil, or_false] at hp
            rcases hp with rfl | rfl | rfl | rfl | rfl
            · exact ⟨hx, hux⟩
            · exact hLr _ (hYL _ hy0)
            · exact hLr _ (hYL _ hz)
            · exact hLr _ (hYL _ hw)
            · exact hLr _ (hYL _ hq))
          simp only [List.length_cons, List.length_nil] at this
          omega
        have hd3 : (D u).length = 3 := by
          have := hcount [y0, z, w, q] (by simp [hzw, Ne.symm hzy, Ne.symm hwy, Ne.symm hqy, Ne.symm hqz, Ne.symm hqw]) (by
            intro p hp
            simp only [List.mem_cons, List.not_mem_nil, or_false] at hp
            rcases hp with rfl | rfl | rfl | rfl
            · exact hLr _ (hYL _ hy0)
            · exact hLr _ (hYL _ hz)
            · exact hLr _ (hYL _ hw)
            · exact hLr _ (hYL _ hq))
          simp only [List.length_cons, List.length_nil] at this
          omega
        have hcq : c = q := by
          rcases hfour c (hLr c hcL).1 (hLr c hcL).2 with e | e | e | e
          · exact absurd (hrY y0 hy0) (by rw [e] at hyc; exact hyc)
          · exact absurd hyz (by rw [e] at hyc; exact hyc)
          · exact absurd hyw (by rw [e] at hyc; exact hyc)
          · exact e
        subst hcq
        -- the neighbours of the cat in the ring
        obtain ⟨_, z', w', hz', hw', hcz, hcw, _, hzc, hwc, hzw'⟩ := h4 hq
        have hyn : ¬ r c y0 := fun h => hyc (hsY _ _ hq hy0 h)
        have hin : ∀ x, x ∈ Y → r c x → x ≠ c → x = z ∨ x = w := by
          intro x hx hcx hxc
          rcases hfour x (hLr _ (hYL _ hx)).1 (hLr _ (hYL _ hx)).2 with e | e | e | e
          · exact absurd (by rw [← e]; exact hcx) hyn
          · exact .inl e
          · exact .inr e
          · exact absurd e hxc
        have hcz2 : r c z ∧ r c w := by
          rcases hin z' hz' hcz hzc with e1 | e1 <;> rcases hin w' hw' hcw hwc with e2 | e2
          · exact absurd (e1.trans e2.symm) hzw'
          · exact ⟨by rw [← e1]; exact hcz, by rw [← e2]; exact hcw⟩
          · exact ⟨by rw [← e2]; exact hcw, by rw [← e1]; exact hcz⟩
          · exact absurd (e1.trans e2.symm) hzw'
        have hcY := hLr _ (hYL _ hq)
        have hzr := hLr _ (hYL _ hz)
        have hwr := hLr _ (hYL _ hw)
        have hyr := hLr _ (hYL _ hy0)
        by_cases hout : ∃ p, p < n ∧ r c p ∧ r u p
        · obtain ⟨p, hp, hcp, hup⟩ := hout
          have hpz : p ≠ z := fun e => hzr.2 (by rw [← e]; exact hup)
          have hpw : p ≠ w := fun e => hwr.2 (by rw [← e]; exact hup)
          have hpc : p ≠ c := fun e => hcY.2 (by rw [← e]; exact hup)
          refine Win.le (n := 2) (.step hp hyr.1 hup (hr _ hyr.1) (.inl rfl) (.inr (.inr fun c' q1 q2 => ?_))) (by omega)
          by_cases e1 : c' = c
          · rw [e1]; exact .one hp hyr.1 hcY.1 hr (.inl rfl) (hs _ _ hcY.1 hp hcp)
          by_cases e2 : c' = z
          · rw [e2]; exact (Win.one (V := (· < n)) hyr.1 hp hzr.1 hr (.inl rfl) hyz).swap
          by_cases e3 : c' = w
          · rw [e3]; exact (Win.one (V := (· < n)) hyr.1 hp hwr.1 hr (.inl rfl) hyw).swap
          by_cases e4 : c' = p
          · exact .caught (.inl e4)
          exfalso
          have h5 : [c', z, w, p].length ≤ (D c).length := sub_len (by simp [e2, e3, e4, hzw, Ne.symm hpz, Ne.symm hpw]) (by
            intro x hx
            simp only [List.mem_cons, List.not_mem_nil, or_false] at hx
            rw [hDm]
            rcases hx with rfl | rfl | rfl | rfl
            · exact ⟨q1, q2, e1⟩
            · exact ⟨hzr.1, hcz2.1, Ne.symm hqz⟩
            · exact ⟨hwr.1, hcz2.2, Ne.symm hqw⟩
            · exact ⟨hp, hcp, hpc⟩)
          have := hmax c hcY.1
          simp only [List.length_cons, List.length_nil] at h5
          omega
        · have hm := Win.fetchN (V := (· < n)) (b := y0) (c := c) hr hs hyr.1 hcY.1 (fun c' q1 q2 hne => by
            have hun : ¬ r u c' := fun h => hout ⟨c', q1, q2, h⟩
            rcases hfour c' q1 hun with e | e | e | e
            · rw [e]; exact hrY y0 hy0
            · rw [e]; exact hyz
            · rw [e]; exact hyw
            · exact absurd e hne) (hway c u hcY.1 hu)
          exact hm.le (by omega)
  · -- one sweep does it there
    have h3 : ∃ a, a ∈ Y ∧ ∀ x, x ∈ Y → x = a := by
      apply Classical.byContradiction
      intro h
      exact h2 fun a ha => Classical.byContradiction fun h' => h ⟨a, ha, fun x hx => Classical.byContradiction fun hne => h' ⟨x, hx, hne⟩⟩
    obtain ⟨a, ha, hall⟩ := h3
    have hYw2 := hYw a 0 ha fun c hc => .inl (hall c hc)
    have hYpos : 0 < Y.length := List.length_pos_of_mem ha
    have hm := Win.walk1N hsL (hYL a ha) hYw2 (way_len hLn hLc (hYL a ha) hc0L)
    exact fin c0 hc0L fun c hc => (Win.guard (X := (· ∈ L)) hr (fun x hx => (hLr x hx).1) hu hclose hc0L hc (hm c hc)).le (by omega)
/-- From wherever they stand. -/
theorem sweeps34 {n : Nat} (h8 : n ≤ 8) {r : Nat → Nat → Prop} (hr : ∀ x, x < n → r x x) (hs : ∀ x y, x < n → y < n → r x y → r y x) (hcn : Conn (· < n) r) {a b c : Nat} (ha : a < n) (hb : b < n) (hc : c < n) : Win (· < n) r true 34 a b c := by
  obtain ⟨u, hu, hw⟩ := two_sweepsN h8 (by omega) hr hs hcn
  have hway : ∀ a b, a < n → b < n → WayN (· < n) r 7 a b := fun a b ha hb => by
    have e : (fun x => x ∈ List.range n) = fun x => x < n := funext fun x => propext List.mem_range
    have h5 : Conn (· ∈ List.range n) r := (conn_congr (V' := (· < n)) fun x => List.mem_range).2 hcn
    have h6 := way_len List.nodup_range h5 (List.mem_range.2 ha) (List.mem_range.2 hb)
    rw [e, List.length_range] at h6
    exact h6.le (by omega)
  have h1 : ∀ c, c < n → Win (· < n) r true (20 + 7) a u c := Win.walkB (V := (· < n)) hr hs hu hu hw (hway u a hu ha)
  have h2 : ∀ c, c < n → Win (· < n) r true (20 + 7 + 7) b a c := Win.walkB (V := (· < n)) hr hs hu ha (fun c hc => (h1 c hc).swap) (hway u b hu hb)
  exact (h2 c hc).swap
end Go.Proofs.YtgcncgocdfioiaaDoor
