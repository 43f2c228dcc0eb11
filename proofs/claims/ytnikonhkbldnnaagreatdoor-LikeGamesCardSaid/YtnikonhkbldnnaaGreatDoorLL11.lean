import Derived.Test.YtnikonhkbldnnaaGreatDoorLB36
import Derived.Test.YtnikonhkbldnnaaGreatDoorLB39
import Derived.Test.YtnikonhkbldnnaaGreatDoorLB22
import Derived.Test.YtnikonhkbldnnaaGreatDoorLB30
import Derived.Test.YtnikonhkbldnnaaGreatDoorLB31
import Derived.Test.YtnikonhkbldnnaaGreatDoorLWA
import Derived.Test.YtnikonhkbldnnaaGreatDoorLR1
/- LL11: law Games. -/
set_option linter.unusedVariables false
set_option linter.unusedSimpArgs false
set_option maxRecDepth 20000
namespace Go.Proofs.YtnikonhkbldnnaaGreatDoor
open Go Go.PS
attribute [-simp] isKeyK List.map_take
/-- What Tell says of the game. -/
theorem tell_says {g h : List Int} {k : Int} (hg : isgB g = true) (hh : isgB h = true) (hk : 0 ≤ k ∧ k ≤ 3) : ∃ X : List TL, TelF g h k = .tup [.agg X, eI (if winN k.toNat (townOf g) (townOf h) [] [] then 4 else 0)] := by
  have htt := tell_true k.toNat (t := townOf g) (s := townOf h) (a := []) (b := []) (town_tow hg) (town_tow hh) rfl (by simp; omega)
  rw [TelF, hg, hh, decide_eq_true hk]
  simp only [Bool.and_self, if_true]
  cases hF : tellF k.toNat (townOf g) (townOf h) [] [] with
  | none => exact ⟨foZ, by rw [htt.1.1 hF]; rfl⟩
  | some f =>
    have hwf : winN k.toNat (townOf g) (townOf h) [] [] = false := by
      rw [Bool.eq_false_iff]
      intro e
      rw [htt.1.2 e] at hF
      cases hF
    exact ⟨foC f, by rw [hwf]; rfl⟩
/-- What Same says of the game. -/
theorem same_says {g h : List Int} (k : Nat) (hg : isgB g = true) (hh : isgB h = true) : ∃ Y c, sameF g h = .tup [Y, eI c] ∧ (c = 0 ∧ winN k (townOf g) (townOf h) [] [] = true ∧ likeN (townOf g) (townOf h) = true ∨ c = 4) := by
  rw [sameF, hg, hh]
  simp only [Bool.and_self, if_true]
  cases ho : (namesOf (townOf g) (townOf h)).head? with
  | none => exact ⟨_, 4, rfl, .inr rfl⟩
  | some l =>
    have hi := (names_iso (town_tow hg) (town_tow hh)).1 (List.mem_of_mem_head? ho)
    exact ⟨_, 0, rfl, .inl ⟨rfl, iso_win (town_tow hg) (town_tow hh) hi k [] [] rfl (by simp), iso_like (town_tow hg) (town_tow hh) hi⟩⟩
set_option maxHeartbeats 4000000 in
theorem games_true (g h : List Int) (k : Int) (f : FT) : PCall Tryz.prog 6 [eIs g, eIs h, eI k, .agg (ftC f)] (pB true) [] := by
  have hf := few_spec g
  have hf' := few_spec h
  have hw1 := win_spec (g.take 10) (h.take 10) k
  have hw2 := win_spec (h.take 10) (g.take 10) k
  have ha := awake_spec
  obtain ⟨t1, t2⟩ := take_isg g
  obtain ⟨t1', t2'⟩ := take_isg h
  have hok : ansOK (g.take 10) (h.take 10) k [] [] = ((isgB g && isgB h) && decide (0 ≤ k ∧ k ≤ 3)) := by
    rw [ansOK, t1, t1']
    simp [ndsB]
  have hok2 : ansOK (h.take 10) (g.take 10) k [] [] = ((isgB g && isgB h) && decide (0 ≤ k ∧ k ≤ 3)) := by
    rw [ansOK, t1, t1', Bool.and_comm (isgB h)]
    simp [ndsB]
  rw [ansF, hok] at hw1
  rw [ansF, hok2] at hw2
  have ho := Of_spec f
  obtain ⟨o, a, b, ks, hkf⟩ := ft_split f
  rw [hkf, ftC_mk] at ho
  rw [hkf, ftC_mk]
  rw [← hkf] at ho
  refine pcall_wp _ Tryz.func6 rfl (by kernel_rfl) rfl ?_
  cases hb : ((isgB g && isgB h) && decide (0 ≤ k ∧ k ≤ 3)) with
  | false =>
    rw [hb] at hw1 hw2
    simp only [Bool.false_eq_true, if_false] at hw1 hw2
    simp -dsimp
    first
      | refine CallG.by (hf) ?_
      | refine CallGE.by (hf) ?_
      | refine CallGB.by (hf) ?_
    simp -dsimp
    first
      | refine CallG.by (hf') ?_
      | refine CallGE.by (hf') ?_
      | refine CallGB.by (hf') ?_
    simp -dsimp
    first
      | refine CallG.by (hw1) ?_
      | refine CallGE.by (hw1) ?_
      | refine CallGB.by (hw1) ?_
    simp -dsimp
    first
      | refine CallG.by (hf') ?_
      | refine CallGE.by (hf') ?_
      | refine CallGB.by (hf') ?_
    simp -dsimp
    first
      | refine CallG.by (hf) ?_
      | refine CallGE.by (hf) ?_
      | refine CallGB.by (hf) ?_
    simp -dsimp
    first
      | refine CallG.by (hw2) ?_
      | refine CallGE.by (hw2) ?_
      | refine CallGB.by (hw2) ?_
    simp -dsimp
    first
      | refine CallG.by (ha) ?_
      | refine CallGE.by (ha) ?_
      | refine CallGB.by (ha) ?_
    simp -dsimp
    refine retP_c ?_
    simp -dsimp
  | true =>
    rw [hb] at hw1 hw2
    simp only [if_true] at hw1 hw2
    rw [Bool.and_eq_true, Bool.and_eq_true, decide_eq_true_eq] at hb
    obtain ⟨⟨hg, hh⟩, hk⟩ := hb
    rw [t2 hg, t2' hh] at hw1 hw2
    rw [t2 hg] at hf
    rw [t2' hh] at hf'
    have hgl : 0 < (townOf g).length := by have := isg_parts hg; rw [town_len]; omega
    have hhl : 0 < (townOf h).length := by have := isg_parts hh; rw [town_len]; omega
    rw [show townOf [] = [] from rfl] at hw1 hw2
    rw [winN_swap k.toNat (t := townOf h) (s := townOf g) (a := []) (b := []) rfl] at hw2
    have hte := Tell_spec g h k
    obtain ⟨X, hX⟩ := tell_says hg hh hk
    rw [hX] at hte
    have hsm := same_spec g h
    obtain ⟨Y, c, hY, hc⟩ := same_says k.toNat hg hh
    rw [hY] at hsm
    have hal := alike_spec g h
    rw [alkF, hg, hh] at hal
    simp only [Bool.and_self, if_true] at hal
    have hde := Depth_spec (ofF f)
    have hh1 := Holds_spec g (ofF f)
    have hh2 := Holds_spec h (ofF f)
    have hag : winN k.toNat (townOf g) (townOf h) [] [] = true → formOk (ofF f) = true → closF (ofF f) 0 = true → deF (ofF f) ≤ k.toNat → trF (townOf g) (ofF f) 0 = trF (townOf h) (ofF f) 0 := fun h1 h2 h3 h4 =>
      agree_of (town_tow hg) (town_tow hh) hgl hhl h1 (form_shaped h2).1 h3 h4
    rw [depF] at hde
    rw [hldF, hg, Bool.true_and] at hh1
    rw [hldF, hh, Bool.true_and] at hh2
    have hless : 0 < k → winN k.toNat (townOf g) (townOf h) [] [] = true → PCall Tryz.prog 28 [eIs g, eIs h, eI (k - 1)] (.t .fz (.tup [eB true, eI 0])) [] := fun h0 h1 => by
      have := win_spec g h (k - 1)
      rw [ansF, show ansOK g h (k - 1) [] [] = true by rw [ansOK, hg, hh, decide_eq_true (show 0 ≤ k - 1 ∧ k - 1 ≤ 3 by omega)]; simp [ndsB]] at this
      simp only [if_true] at this
      rw [show townOf [] = [] from rfl] at this
      have e : k.toNat = (k - 1).toNat + 1 := by omega
      rw [e] at h1
      rw [winN_less h1] at this
      exact this
    have hwk := wr (n := k - 1) (by omega) (by omega)
    have hww : ∀ b : Bool, (b == b) = true := fun b => by cases b <;> rfl
    generalize winN k.toNat (townOf g) (townOf h) [] [] = w at *
    generalize likeN (townOf g) (townOf h) = lk at *
    generalize trF (townOf g) (ofF f) 0 = p at *
    generalize trF (townOf h) (ofF f) 0 = q at *
    generalize deF (ofF f) = D at *
    generalize closF (ofF f) 0 = cl at *
    generalize formOk (ofF f) = fo at *
    obtain ⟨o', a', b', ks', hkz⟩ := ft_split (ofF f)
    rw [hkz, ftC_mk] at ho hde hh1 hh2
    clear hX hY hkz hkf
    cases w with
    | false =>
      have hc4 : c = 4 := by
        rcases hc with ⟨_, h, _⟩ | h
        · cases h
        · exact h
      subst hc4
      simp only [Bool.false_eq_true, if_false] at hte
      simp -dsimp
      first
        | refine CallG.by (hf) ?_
        | refine CallGE.by (hf) ?_
        | refine CallGB.by (hf) ?_
      simp -dsimp
      first
        | refine CallG.by (hf') ?_
        | refine CallGE.by (hf') ?_
        | refine CallGB.by (hf') ?_
      simp -dsimp
      first
        | refine CallG.by (hw1) ?_
        | refine CallGE.by (hw1) ?_
        | refine CallGB.by (hw1) ?_
      simp -dsimp
      first
        | refine CallG.by (hf') ?_
        | refine CallGE.by (hf') ?_
        | refine CallGB.by (hf') ?_
      simp -dsimp
      first
        | refine CallG.by (hf) ?_
        | refine CallGE.by (hf) ?_
        | refine CallGB.by (hf) ?_
      simp -dsimp
      first
        | refine CallG.by (hw2) ?_
        | refine CallGE.by (hw2) ?_
        | refine CallGB.by (hw2) ?_
      simp -dsimp
      first
        | refine CallG.by (hf) ?_
        | refine CallGE.by (hf) ?_
        | refine CallGB.by (hf) ?_
      simp -dsimp
      first
        | refine CallG.by (hf') ?_
        | refine CallGE.by (hf') ?_
        | refine CallGB.by (hf') ?_
      simp -dsimp
      first
        | refine CallG.by (hte) ?_
        | refine CallGE.by (hte) ?_
        | refine CallGB.by (hte) ?_
      simp -dsimp
      first
        | refine CallG.by (hf) ?_
        | refine CallGE.by (hf) ?_
        | refine CallGB.by (hf) ?_
      simp -dsimp
      first
        | refine CallG.by (hf') ?_
        | refine CallGE.by (hf') ?_
        | refine CallGB.by (hf') ?_
      simp -dsimp
      first
        | refine CallG.by (hsm) ?_
        | refine CallGE.by (hsm) ?_
        | refine CallGB.by (hsm) ?_
      simp -dsimp
      cases fo with
      | false =>
        simp only [Bool.false_and, Bool.false_eq_true, if_false] at hde hh1 hh2
        first
          | refine CallG.by (ho) ?_
          | refine CallGE.by (ho) ?_
          | refine CallGB.by (ho) ?_
        simp -dsimp
        first
          | refine CallG.by (hde) ?_
          | refine CallGE.by (hde) ?_
          | refine CallGB.by (hde) ?_
        simp -dsimp
        refine wk_draw 8 [3] mixed (by kernel_rfl) ?_
        simp -dsimp
        first
          | refine CallG.by (hf) ?_
          | refine CallGE.by (hf) ?_
          | refine CallGB.by (hf) ?_
        simp -dsimp
        first
          | refine CallG.by (hh1) ?_
          | refine CallGE.by (hh1) ?_
          | refine CallGB.by (hh1) ?_
        simp -dsimp
        refine wk_draw 8 [3] mixed (by kernel_rfl) ?_
        simp -dsimp
        first
          | refine CallG.by (hf') ?_
          | refine CallGE.by (hf') ?_
          | refine CallGB.by (hf') ?_
        simp -dsimp
        first
          | refine CallG.by (hh2) ?_
          | refine CallGE.by (hh2) ?_
          | refine CallGB.by (hh2) ?_
        simp -dsimp
        first
          | refine CallG.by (ha) ?_
          | refine CallGE.by (ha) ?_
          | refine CallGB.by (ha) ?_
        simp -dsimp
        refine retP_c ?_
        simp -dsimp
      | true =>
        simp only [Bool.true_and, if_true] at hde hh1 hh2
        cases cl with
        | false =>
          simp only [Bool.false_eq_true, if_false] at hh1 hh2
          first
            | refine CallG.by (ho) ?_
            | refine CallGE.by (ho) ?_
            | refine CallGB.by (ho) ?_
          simp -dsimp
          first
            | refine CallG.by (hde) ?_
            | refine CallGE.by (hde) ?_
            | refine CallGB.by (hde) ?_
          simp -dsimp
          refine wk_draw 8 [3] mixed (by kernel_rfl) ?_
          simp -dsimp
          first
            | refine CallG.by (hf) ?_
            | refine CallGE.by (hf) ?_
            | refine CallGB.by (hf) ?_
          simp -dsimp
          first
            | refine CallG.by (hh1) ?_
            | refine CallGE.by (hh1) ?_
            | refine CallGB.by (hh1) ?_
          simp -dsimp
          refine wk_draw 8 [3] mixed (by kernel_rfl) ?_
          simp -dsimp
          first
            | refine CallG.by (hf') ?_
            | refine CallGE.by (hf') ?_
            | refine CallGB.by (hf') ?_
          simp -dsimp
          first
            | refine CallG.by (hh2) ?_
            | refine CallGE.by (hh2) ?_
            | refine CallGB.by (hh2) ?_
          simp -dsimp
          first
            | refine CallG.by (ha) ?_
            | refine CallGE.by (ha) ?_
            | refine CallGB.by (ha) ?_
          simp -dsimp
          refine retP_c ?_
          simp -dsimp
        | true =>
          simp only [if_true] at hh1 hh2
          first
            | refine CallG.by (ho) ?_
            | refine CallGE.by (ho) ?_
            | refine CallGB.by (ho) ?_
          simp -dsimp
          first
            | refine CallG.by (hde) ?_
            | refine CallGE.by (hde) ?_
            | refine CallGB.by (hde) ?_
          simp -dsimp
          refine wk_draw 8 [3] mixed (by kernel_rfl) ?_
          simp -dsimp
          first
            | refine CallG.by (hf) ?_
            | refine CallGE.by (hf) ?_
            | refine CallGB.by (hf) ?_
          simp -dsimp
          first
            | refine CallG.by (hh1) ?_
            | refine CallGE.by (hh1) ?_
            | refine CallGB.by (hh1) ?_
          simp -dsimp
          refine wk_draw 8 [3] mixed (by kernel_rfl) ?_
          simp -dsimp
          first
            | refine CallG.by (hf') ?_
            | refine CallGE.by (hf') ?_
            | refine CallGB.by (hf') ?_
          simp -dsimp
          first
            | refine CallG.by (hh2) ?_
            | refine CallGE.by (hh2) ?_
            | refine CallGB.by (hh2) ?_
          simp -dsimp
          first
            | refine CallG.by (ha) ?_
            | refine CallGE.by (ha) ?_
            | refine CallGB.by (ha) ?_
          simp -dsimp
          refine retP_c ?_
          simp -dsimp
    | true =>
      simp only [if_true] at hte
      by_cases h0 : 0 < k
      · have hl := hless h0 rfl
        rcases hc with ⟨rfl, _, rfl⟩ | rfl
        · skip
          simp -dsimp
          first
            | refine CallG.by (hf) ?_
            | refine CallGE.by (hf) ?_
            | refine CallGB.by (hf) ?_
          simp -dsimp
          first
            | refine CallG.by (hf') ?_
            | refine CallGE.by (hf') ?_
            | refine CallGB.by (hf') ?_
          simp -dsimp
          first
            | refine CallG.by (hw1) ?_
            | refine CallGE.by (hw1) ?_
            | refine CallGB.by (hw1) ?_
          simp -dsimp
          first
            | refine CallG.by (hf') ?_
            | refine CallGE.by (hf') ?_
            | refine CallGB.by (hf') ?_
          simp -dsimp
          first
            | refine CallG.by (hf) ?_
            | refine CallGE.by (hf) ?_
            | refine CallGB.by (hf) ?_
          simp -dsimp
          first
            | refine CallG.by (hw2) ?_
            | refine CallGE.by (hw2) ?_
            | refine CallGB.by (hw2) ?_
          simp -dsimp
          first
            | refine CallG.by (hf) ?_
            | refine CallGE.by (hf) ?_
            | refine CallGB.by (hf) ?_
          simp -dsimp
          first
            | refine CallG.by (hf') ?_
            | refine CallGE.by (hf') ?_
            | refine CallGB.by (hf') ?_
          simp -dsimp
          first
            | refine CallG.by (hte) ?_
            | refine CallGE.by (hte) ?_
            | refine CallGB.by (hte) ?_
          simp -dsimp [h0, hwk]
          first
            | refine CallG.by (hf) ?_
            | refine CallGE.by (hf) ?_
            | refine CallGB.by (hf) ?_
          simp -dsimp
          first
            | refine CallG.by (hf') ?_
            | refine CallGE.by (hf') ?_
            | refine CallGB.by (hf') ?_
          simp -dsimp [hwk]
          first
            | refine CallG.by (hl) ?_
            | refine CallGE.by (hl) ?_
            | refine CallGB.by (hl) ?_
          simp -dsimp
          first
            | refine CallG.by (hf) ?_
            | refine CallGE.by (hf) ?_
            | refine CallGB.by (hf) ?_
          simp -dsimp
          first
            | refine CallG.by (hf') ?_
            | refine CallGE.by (hf') ?_
            | refine CallGB.by (hf') ?_
          simp -dsimp
          first
            | refine CallG.by (hsm) ?_
            | refine CallGE.by (hsm) ?_
            | refine CallGB.by (hsm) ?_
          simp -dsimp
          first
            | refine CallG.by (hf) ?_
            | refine CallGE.by (hf) ?_
            | refine CallGB.by (hf) ?_
          simp -dsimp
          first
            | refine CallG.by (hf') ?_
            | refine CallGE.by (hf') ?_
            | refine CallGB.by (hf') ?_
          simp -dsimp
          first
            | refine CallG.by (hal) ?_
            | refine CallGE.by (hal) ?_
            | refine CallGB.by (hal) ?_
          simp -dsimp
          cases fo with
          | false =>
            simp only [Bool.false_and, Bool.false_eq_true, if_false] at hde hh1 hh2
            first
              | refine CallG.by (ho) ?_
              | refine CallGE.by (ho) ?_
              | refine CallGB.by (ho) ?_
            simp -dsimp
            first
              | refine CallG.by (hde) ?_
              | refine CallGE.by (hde) ?_
              | refine CallGB.by (hde) ?_
            simp -dsimp
            refine wk_draw 8 [3] mixed (by kernel_rfl) ?_
            simp -dsimp
            first
              | refine CallG.by (hf) ?_
              | refine CallGE.by (hf) ?_
              | refine CallGB.by (hf) ?_
            simp -dsimp
            first
              | refine CallG.by (hh1) ?_
              | refine CallGE.by (hh1) ?_
              | refine CallGB.by (hh1) ?_
            simp -dsimp
            refine wk_draw 8 [3] mixed (by kernel_rfl) ?_
            simp -dsimp
            first
              | refine CallG.by (hf') ?_
              | refine CallGE.by (hf') ?_
              | refine CallGB.by (hf') ?_
            simp -dsimp
            first
              | refine CallG.by (hh2) ?_
              | refine CallGE.by (hh2) ?_
              | refine CallGB.by (hh2) ?_
            simp -dsimp
            first
              | refine CallG.by (ha) ?_
              | refine CallGE.by (ha) ?_
              | refine CallGB.by (ha) ?_
            simp -dsimp
            refine retP_c ?_
            simp -dsimp
          | true =>
            simp only [Bool.true_and, if_true] at hde hh1 hh2
            cases cl with
            | false =>
              simp only [Bool.false_eq_true, if_false] at hh1 hh2
              first
                | refine CallG.by (ho) ?_
                | refine CallGE.by (ho) ?_
                | refine CallGB.by (ho) ?_
              simp -dsimp
              first
                | refine CallG.by (hde) ?_
                | refine CallGE.by (hde) ?_
                | refine CallGB.by (hde) ?_
              simp -dsimp
              refine wk_draw 8 [3] mixed (by kernel_rfl) ?_
              simp -dsimp
              first
                | refine CallG.by (hf) ?_
                | refine CallGE.by (hf) ?_
                | refine CallGB.by (hf) ?_
              simp -dsimp
              first
                | refine CallG.by (hh1) ?_
                | refine CallGE.by (hh1) ?_
                | refine CallGB.by (hh1) ?_
              simp -dsimp
              refine wk_draw 8 [3] mixed (by kernel_rfl) ?_
              simp -dsimp
              first
                | refine CallG.by (hf') ?_
                | refine CallGE.by (hf') ?_
                | refine CallGB.by (hf') ?_
              simp -dsimp
              first
                | refine CallG.by (hh2) ?_
                | refine CallGE.by (hh2) ?_
                | refine CallGB.by (hh2) ?_
              simp -dsimp
              first
                | refine CallG.by (ha) ?_
                | refine CallGE.by (ha) ?_
                | refine CallGB.by (ha) ?_
              simp -dsimp
              refine retP_c ?_
              simp -dsimp
            | true =>
              simp only [if_true] at hh1 hh2
              by_cases hn : k < (D : Int)
              · skip
                first
                  | refine CallG.by (ho) ?_
                  | refine CallGE.by (ho) ?_
                  | refine CallGB.by (ho) ?_
                simp -dsimp
                first
                  | refine CallG.by (hde) ?_
                  | refine CallGE.by (hde) ?_
                  | refine CallGB.by (hde) ?_
                simp -dsimp
                refine wk_draw 8 [3] mixed (by kernel_rfl) ?_
                simp -dsimp
                first
                  | refine CallG.by (hf) ?_
                  | refine CallGE.by (hf) ?_
                  | refine CallGB.by (hf) ?_
                simp -dsimp
                first
                  | refine CallG.by (hh1) ?_
                  | refine CallGE.by (hh1) ?_
                  | refine CallGB.by (hh1) ?_
                simp -dsimp
                refine wk_draw 8 [3] mixed (by kernel_rfl) ?_
                simp -dsimp
                first
                  | refine CallG.by (hf') ?_
                  | refine CallGE.by (hf') ?_
                  | refine CallGB.by (hf') ?_
                simp -dsimp
                first
                  | refine CallG.by (hh2) ?_
                  | refine CallGE.by (hh2) ?_
                  | refine CallGB.by (hh2) ?_
                simp -dsimp
                simp -dsimp [hn]
                first
                  | refine CallG.by (ha) ?_
                  | refine CallGE.by (ha) ?_
                  | refine CallGB.by (ha) ?_
                simp -dsimp
                refine retP_c ?_
                simp -dsimp
              · have hpq := hag rfl rfl rfl (by omega)
                subst hpq
                first
                  | refine CallG.by (ho) ?_
                  | refine CallGE.by (ho) ?_
                  | refine CallGB.by (ho) ?_
                simp -dsimp
                first
                  | refine CallG.by (hde) ?_
                  | refine CallGE.by (hde) ?_
                  | refine CallGB.by (hde) ?_
                simp -dsimp
                refine wk_draw 8 [3] mixed (by kernel_rfl) ?_
                simp -dsimp
                first
                  | refine CallG.by (hf) ?_
                  | refine CallGE.by (hf) ?_
                  | refine CallGB.by (hf) ?_
                simp -dsimp
                first
                  | refine CallG.by (hh1) ?_
                  | refine CallGE.by (hh1) ?_
                  | refine CallGB.by (hh1) ?_
                simp -dsimp
                refine wk_draw 8 [3] mixed (by kernel_rfl) ?_
                simp -dsimp
                first
                  | refine CallG.by (hf') ?_
                  | refine CallGE.by (hf') ?_
                  | refine CallGB.by (hf') ?_
                simp -dsimp
                first
                  | refine CallG.by (hh2) ?_
                  | refine CallGE.by (hh2) ?_
                  | refine CallGB.by (hh2) ?_
                simp -dsimp
                simp -dsimp [hn, hww p]
                first
                  | refine CallG.by (ha) ?_
                  | refine CallGE.by (ha) ?_
                  | refine CallGB.by (ha) ?_
                simp -dsimp
                refine retP_c ?_
                simp -dsimp
        · skip
          simp -dsimp
          first
            | refine CallG.by (hf) ?_
            | refine CallGE.by (hf) ?_
            | refine CallGB.by (hf) ?_
          simp -dsimp
          first
            | refine CallG.by (hf') ?_
            | refine CallGE.by (hf') ?_
            | refine CallGB.by (hf') ?_
          simp -dsimp
          first
            | refine CallG.by (hw1) ?_
            | refine CallGE.by (hw1) ?_
            | refine CallGB.by (hw1) ?_
          simp -dsimp
          first
            | refine CallG.by (hf') ?_
            | refine CallGE.by (hf') ?_
            | refine CallGB.by (hf') ?_
          simp -dsimp
          first
            | refine CallG.by (hf) ?_
            | refine CallGE.by (hf) ?_
            | refine CallGB.by (hf) ?_
          simp -dsimp
          first
            | refine CallG.by (hw2) ?_
            | refine CallGE.by (hw2) ?_
            | refine CallGB.by (hw2) ?_
          simp -dsimp
          first
            | refine CallG.by (hf) ?_
            | refine CallGE.by (hf) ?_
            | refine CallGB.by (hf) ?_
          simp -dsimp
          first
            | refine CallG.by (hf') ?_
            | refine CallGE.by (hf') ?_
            | refine CallGB.by (hf') ?_
          simp -dsimp
          first
            | refine CallG.by (hte) ?_
            | refine CallGE.by (hte) ?_
            | refine CallGB.by (hte) ?_
          simp -dsimp [h0, hwk]
          first
            | refine CallG.by (hf) ?_
            | refine CallGE.by (hf) ?_
            | refine CallGB.by (hf) ?_
          simp -dsimp
          first
            | refine CallG.by (hf') ?_
            | refine CallGE.by (hf') ?_
            | refine CallGB.by (hf') ?_
          simp -dsimp [hwk]
          first
            | refine CallG.by (hl) ?_
            | refine CallGE.by (hl) ?_
            | refine CallGB.by (hl) ?_
          simp -dsimp
          first
            | refine CallG.by (hf) ?_
            | refine CallGE.by (hf) ?_
            | refine CallGB.by (hf) ?_
          simp -dsimp
          first
            | refine CallG.by (hf') ?_
            | refine CallGE.by (hf') ?_
            | refine CallGB.by (hf') ?_
          simp -dsimp
          first
            | refine CallG.by (hsm) ?_
            | refine CallGE.by (hsm) ?_
            | refine CallGB.by (hsm) ?_
          simp -dsimp
          cases fo with
          | false =>
            simp only [Bool.false_and, Bool.false_eq_true, if_false] at hde hh1 hh2
            first
              | refine CallG.by (ho) ?_
              | refine CallGE.by (ho) ?_
              | refine CallGB.by (ho) ?_
            simp -dsimp
            first
              | refine CallG.by (hde) ?_
              | refine CallGE.by (hde) ?_
              | refine CallGB.by (hde) ?_
            simp -dsimp
            refine wk_draw 8 [3] mixed (by kernel_rfl) ?_
            simp -dsimp
            first
              | refine CallG.by (hf) ?_
              | refine CallGE.by (hf) ?_
              | refine CallGB.by (hf) ?_
            simp -dsimp
            first
              | refine CallG.by (hh1) ?_
              | refine CallGE.by (hh1) ?_
              | refine CallGB.by (hh1) ?_
            simp -dsimp
            refine wk_draw 8 [3] mixed (by kernel_rfl) ?_
            simp -dsimp
            first
              | refine CallG.by (hf') ?_
              | refine CallGE.by (hf') ?_
              | refine CallGB.by (hf') ?_
            simp -dsimp
            first
              | refine CallG.by (hh2) ?_
              | refine CallGE.by (hh2) ?_
              | refine CallGB.by (hh2) ?_
            simp -dsimp
            first
              | refine CallG.by (ha) ?_
              | refine CallGE.by (ha) ?_
              | refine CallGB.by (ha) ?_
            simp -dsimp
            refine retP_c ?_
            simp -dsimp
          | true =>
            simp only [Bool.true_and, if_true] at hde hh1 hh2
            cases cl with
            | false =>
              simp only [Bool.false_eq_true, if_false] at hh1 hh2
              first
                | refine CallG.by (ho) ?_
                | refine CallGE.by (ho) ?_
                | refine CallGB.by (ho) ?_
              simp -dsimp
              first
                | refine CallG.by (hde) ?_
                | refine CallGE.by (hde) ?_
                | refine CallGB.by (hde) ?_
              simp -dsimp
              refine wk_draw 8 [3] mixed (by kernel_rfl) ?_
              simp -dsimp
              first
                | refine CallG.by (hf) ?_
                | refine CallGE.by (hf) ?_
                | refine CallGB.by (hf) ?_
              simp -dsimp
              first
                | refine CallG.by (hh1) ?_
                | refine CallGE.by (hh1) ?_
                | refine CallGB.by (hh1) ?_
              simp -dsimp
              refine wk_draw 8 [3] mixed (by kernel_rfl) ?_
              simp -dsimp
              first
                | refine CallG.by (hf') ?_
                | refine CallGE.by (hf') ?_
                | refine CallGB.by (hf') ?_
              simp -dsimp
              first
                | refine CallG.by (hh2) ?_
                | refine CallGE.by (hh2) ?_
                | refine CallGB.by (hh2) ?_
              simp -dsimp
              first
                | refine CallG.by (ha) ?_
                | refine CallGE.by (ha) ?_
                | refine CallGB.by (ha) ?_
              simp -dsimp
              refine retP_c ?_
              simp -dsimp
            | true =>
              simp only [if_true] at hh1 hh2
              by_cases hn : k < (D : Int)
              · skip
                first
                  | refine CallG.by (ho) ?_
                  | refine CallGE.by (ho) ?_
                  | refine CallGB.by (ho) ?_
                simp -dsimp
                first
                  | refine CallG.by (hde) ?_
                  | refine CallGE.by (hde) ?_
                  | refine CallGB.by (hde) ?_
                simp -dsimp
                refine wk_draw 8 [3] mixed (by kernel_rfl) ?_
                simp -dsimp
                first
                  | refine CallG.by (hf) ?_
                  | refine CallGE.by (hf) ?_
                  | refine CallGB.by (hf) ?_
                simp -dsimp
                first
                  | refine CallG.by (hh1) ?_
                  | refine CallGE.by (hh1) ?_
                  | refine CallGB.by (hh1) ?_
                simp -dsimp
                refine wk_draw 8 [3] mixed (by kernel_rfl) ?_
                simp -dsimp
                first
                  | refine CallG.by (hf') ?_
                  | refine CallGE.by (hf') ?_
                  | refine CallGB.by (hf') ?_
                simp -dsimp
                first
                  | refine CallG.by (hh2) ?_
                  | refine CallGE.by (hh2) ?_
                  | refine CallGB.by (hh2) ?_
                simp -dsimp
                simp -dsimp [hn]
                first
                  | refine CallG.by (ha) ?_
                  | refine CallGE.by (ha) ?_
                  | refine CallGB.by (ha) ?_
                simp -dsimp
                refine retP_c ?_
                simp -dsimp
              · have hpq := hag rfl rfl rfl (by omega)
                subst hpq
                first
                  | refine CallG.by (ho) ?_
                  | refine CallGE.by (ho) ?_
                  | refine CallGB.by (ho) ?_
                simp -dsimp
                first
                  | refine CallG.by (hde) ?_
                  | refine CallGE.by (hde) ?_
                  | refine CallGB.by (hde) ?_
                simp -dsimp
                refine wk_draw 8 [3] mixed (by kernel_rfl) ?_
                simp -dsimp
                first
                  | refine CallG.by (hf) ?_
                  | refine CallGE.by (hf) ?_
                  | refine CallGB.by (hf) ?_
                simp -dsimp
                first
                  | refine CallG.by (hh1) ?_
                  | refine CallGE.by (hh1) ?_
                  | refine CallGB.by (hh1) ?_
                simp -dsimp
                refine wk_draw 8 [3] mixed (by kernel_rfl) ?_
                simp -dsimp
                first
                  | refine CallG.by (hf') ?_
                  | refine CallGE.by (hf') ?_
                  | refine CallGB.by (hf') ?_
                simp -dsimp
                first
                  | refine CallG.by (hh2) ?_
                  | refine CallGE.by (hh2) ?_
                  | refine CallGB.by (hh2) ?_
                simp -dsimp
                simp -dsimp [hn, hww p]
                first
                  | refine CallG.by (ha) ?_
                  | refine CallGE.by (ha) ?_
                  | refine CallGB.by (ha) ?_
                simp -dsimp
                refine retP_c ?_
                simp -dsimp
      · rcases hc with ⟨rfl, _, rfl⟩ | rfl
        · skip
          simp -dsimp
          first
            | refine CallG.by (hf) ?_
            | refine CallGE.by (hf) ?_
            | refine CallGB.by (hf) ?_
          simp -dsimp
          first
            | refine CallG.by (hf') ?_
            | refine CallGE.by (hf') ?_
            | refine CallGB.by (hf') ?_
          simp -dsimp
          first
            | refine CallG.by (hw1) ?_
            | refine CallGE.by (hw1) ?_
            | refine CallGB.by (hw1) ?_
          simp -dsimp
          first
            | refine CallG.by (hf') ?_
            | refine CallGE.by (hf') ?_
            | refine CallGB.by (hf') ?_
          simp -dsimp
          first
            | refine CallG.by (hf) ?_
            | refine CallGE.by (hf) ?_
            | refine CallGB.by (hf) ?_
          simp -dsimp
          first
            | refine CallG.by (hw2) ?_
            | refine CallGE.by (hw2) ?_
            | refine CallGB.by (hw2) ?_
          simp -dsimp
          first
            | refine CallG.by (hf) ?_
            | refine CallGE.by (hf) ?_
            | refine CallGB.by (hf) ?_
          simp -dsimp
          first
            | refine CallG.by (hf') ?_
            | refine CallGE.by (hf') ?_
            | refine CallGB.by (hf') ?_
          simp -dsimp
          first
            | refine CallG.by (hte) ?_
            | refine CallGE.by (hte) ?_
            | refine CallGB.by (hte) ?_
          simp -dsimp [h0]
          first
            | refine CallG.by (hf) ?_
            | refine CallGE.by (hf) ?_
            | refine CallGB.by (hf) ?_
          simp -dsimp
          first
            | refine CallG.by (hf') ?_
            | refine CallGE.by (hf') ?_
            | refine CallGB.by (hf') ?_
          simp -dsimp
          first
            | refine CallG.by (hsm) ?_
            | refine CallGE.by (hsm) ?_
            | refine CallGB.by (hsm) ?_
          simp -dsimp
          first
            | refine CallG.by (hf) ?_
            | refine CallGE.by (hf) ?_
            | refine CallGB.by (hf) ?_
          simp -dsimp
          first
            | refine CallG.by (hf') ?_
            | refine CallGE.by (hf') ?_
            | refine CallGB.by (hf') ?_
          simp -dsimp
          first
            | refine CallG.by (hal) ?_
            | refine CallGE.by (hal) ?_
            | refine CallGB.by (hal) ?_
          simp -dsimp
          cases fo with
          | false =>
            simp only [Bool.false_and, Bool.false_eq_true, if_false] at hde hh1 hh2
            first
              | refine CallG.by (ho) ?_
              | refine CallGE.by (ho) ?_
              | refine CallGB.by (ho) ?_
            simp -dsimp
            first
              | refine CallG.by (hde) ?_
              | refine CallGE.by (hde) ?_
              | refine CallGB.by (hde) ?_
            simp -dsimp
            refine wk_draw 8 [3] mixed (by kernel_rfl) ?_
            simp -dsimp
            first
              | refine CallG.by (hf) ?_
              | refine CallGE.by (hf) ?_
              | refine CallGB.by (hf) ?_
            simp -dsimp
            first
              | refine CallG.by (hh1) ?_
              | refine CallGE.by (hh1) ?_
              | refine CallGB.by (hh1) ?_
            simp -dsimp
            refine wk_draw 8 [3] mixed (by kernel_rfl) ?_
            simp -dsimp
            first
              | refine CallG.by (hf') ?_
              | refine CallGE.by (hf') ?_
              | refine CallGB.by (hf') ?_
            simp -dsimp
            first
              | refine CallG.by (hh2) ?_
              | refine CallGE.by (hh2) ?_
              | refine CallGB.by (hh2) ?_
            simp -dsimp
            first
              | refine CallG.by (ha) ?_
              | refine CallGE.by (ha) ?_
              | refine CallGB.by (ha) ?_
            simp -dsimp
            refine retP_c ?_
            simp -dsimp
          | true =>
            simp only [Bool.true_and, if_true] at hde hh1 hh2
            cases cl with
            | false =>
              simp only [Bool.false_eq_true, if_false] at hh1 hh2
              first
                | refine CallG.by (ho) ?_
                | refine CallGE.by (ho) ?_
                | refine CallGB.by (ho) ?_
              simp -dsimp
              first
                | refine CallG.by (hde) ?_
                | refine CallGE.by (hde) ?_
                | refine CallGB.by (hde) ?_
              simp -dsimp
              refine wk_draw 8 [3] mixed (by kernel_rfl) ?_
              simp -dsimp
              first
                | refine CallG.by (hf) ?_
                | refine CallGE.by (hf) ?_
                | refine CallGB.by (hf) ?_
              simp -dsimp
              first
                | refine CallG.by (hh1) ?_
                | refine CallGE.by (hh1) ?_
                | refine CallGB.by (hh1) ?_
              simp -dsimp
              refine wk_draw 8 [3] mixed (by kernel_rfl) ?_
              simp -dsimp
              first
                | refine CallG.by (hf') ?_
                | refine CallGE.by (hf') ?_
                | refine CallGB.by (hf') ?_
              simp -dsimp
              first
                | refine CallG.by (hh2) ?_
                | refine CallGE.by (hh2) ?_
                | refine CallGB.by (hh2) ?_
              simp -dsimp
              first
                | refine CallG.by (ha) ?_
                | refine CallGE.by (ha) ?_
                | refine CallGB.by (ha) ?_
              simp -dsimp
              refine retP_c ?_
              simp -dsimp
            | true =>
              simp only [if_true] at hh1 hh2
              by_cases hn : k < (D : Int)
              · skip
                first
                  | refine CallG.by (ho) ?_
                  | refine CallGE.by (ho) ?_
                  | refine CallGB.by (ho) ?_
                simp -dsimp
                first
                  | refine CallG.by (hde) ?_
                  | refine CallGE.by (hde) ?_
                  | refine CallGB.by (hde) ?_
                simp -dsimp
                refine wk_draw 8 [3] mixed (by kernel_rfl) ?_
                simp -dsimp
                first
                  | refine CallG.by (hf) ?_
                  | refine CallGE.by (hf) ?_
                  | refine CallGB.by (hf) ?_
                simp -dsimp
                first
                  | refine CallG.by (hh1) ?_
                  | refine CallGE.by (hh1) ?_
                  | refine CallGB.by (hh1) ?_
                simp -dsimp
                refine wk_draw 8 [3] mixed (by kernel_rfl) ?_
                simp -dsimp
                first
                  | refine CallG.by (hf') ?_
                  | refine CallGE.by (hf') ?_
                  | refine CallGB.by (hf') ?_
                simp -dsimp
                first
                  | refine CallG.by (hh2) ?_
                  | refine CallGE.by (hh2) ?_
                  | refine CallGB.by (hh2) ?_
                simp -dsimp
                simp -dsimp [hn]
                first
                  | refine CallG.by (ha) ?_
                  | refine CallGE.by (ha) ?_
                  | refine CallGB.by (ha) ?_
                simp -dsimp
                refine retP_c ?_
                simp -dsimp
              · have hpq := hag rfl rfl rfl (by omega)
                subst hpq
                first
                  | refine CallG.by (ho) ?_
                  | refine CallGE.by (ho) ?_
                  | refine CallGB.by (ho) ?_
                simp -dsimp
                first
                  | refine CallG.by (hde) ?_
                  | refine CallGE.by (hde) ?_
                  | refine CallGB.by (hde) ?_
                simp -dsimp
                refine wk_draw 8 [3] mixed (by kernel_rfl) ?_
                simp -dsimp
                first
                  | refine CallG.by (hf) ?_
                  | refine CallGE.by (hf) ?_
                  | refine CallGB.by (hf) ?_
                simp -dsimp
                first
                  | refine CallG.by (hh1) ?_
                  | refine CallGE.by (hh1) ?_
                  | refine CallGB.by (hh1) ?_
                simp -dsimp
                refine wk_draw 8 [3] mixed (by kernel_rfl) ?_
                simp -dsimp
                first
                  | refine CallG.by (hf') ?_
                  | refine CallGE.by (hf') ?_
                  | refine CallGB.by (hf') ?_
                simp -dsimp
                first
                  | refine CallG.by (hh2) ?_
                  | refine CallGE.by (hh2) ?_
                  | refine CallGB.by (hh2) ?_
                simp -dsimp
                simp -dsimp [hn, hww p]
                first
                  | refine CallG.by (ha) ?_
                  | refine CallGE.by (ha) ?_
                  | refine CallGB.by (ha) ?_
                simp -dsimp
                refine retP_c ?_
                simp -dsimp
        · skip
          simp -dsimp
          first
            | refine CallG.by (hf) ?_
            | refine CallGE.by (hf) ?_
            | refine CallGB.by (hf) ?_
          simp -dsimp
          first
            | refine CallG.by (hf') ?_
            | refine CallGE.by (hf') ?_
            | refine CallGB.by (hf') ?_
          simp -dsimp
          first
            | refine CallG.by (hw1) ?_
            | refine CallGE.by (hw1) ?_
            | refine CallGB.by (hw1) ?_
          simp -dsimp
          first
            | refine CallG.by (hf') ?_
            | refine CallGE.by (hf') ?_
            | refine CallGB.by (hf') ?_
          simp -dsimp
          first
            | refine CallG.by (hf) ?_
            | refine CallGE.by (hf) ?_
            | refine CallGB.by (hf) ?_
          simp -dsimp
          first
            | refine CallG.by (hw2) ?_
            | refine CallGE.by (hw2) ?_
            | refine CallGB.by (hw2) ?_
          simp -dsimp
          first
            | refine CallG.by (hf) ?_
            | refine CallGE.by (hf) ?_
            | refine CallGB.by (hf) ?_
          simp -dsimp
          first
            | refine CallG.by (hf') ?_
            | refine CallGE.by (hf') ?_
            | refine CallGB.by (hf') ?_
          simp -dsimp
          first
            | refine CallG.by (hte) ?_
            | refine CallGE.by (hte) ?_
            | refine CallGB.by (hte) ?_
          simp -dsimp [h0]
          first
            | refine CallG.by (hf) ?_
            | refine CallGE.by (hf) ?_
            | refine CallGB.by (hf) ?_
          simp -dsimp
          first
            | refine CallG.by (hf') ?_
            | refine CallGE.by (hf') ?_
            | refine CallGB.by (hf') ?_
          simp -dsimp
          first
            | refine CallG.by (hsm) ?_
            | refine CallGE.by (hsm) ?_
            | refine CallGB.by (hsm) ?_
          simp -dsimp
          cases fo with
          | false =>
            simp only [Bool.false_and, Bool.false_eq_true, if_false] at hde hh1 hh2
            first
              | refine CallG.by (ho) ?_
              | refine CallGE.by (ho) ?_
              | refine CallGB.by (ho) ?_
            simp -dsimp
            first
              | refine CallG.by (hde) ?_
              | refine CallGE.by (hde) ?_
              | refine CallGB.by (hde) ?_
            simp -dsimp
            refine wk_draw 8 [3] mixed (by kernel_rfl) ?_
            simp -dsimp
            first
              | refine CallG.by (hf) ?_
              | refine CallGE.by (hf) ?_
              | refine CallGB.by (hf) ?_
            simp -dsimp
            first
              | refine CallG.by (hh1) ?_
              | refine CallGE.by (hh1) ?_
              | refine CallGB.by (hh1) ?_
            simp -dsimp
            refine wk_draw 8 [3] mixed (by kernel_rfl) ?_
            simp -dsimp
            first
              | refine CallG.by (hf') ?_
              | refine CallGE.by (hf') ?_
              | refine CallGB.by (hf') ?_
            simp -dsimp
            first
              | refine CallG.by (hh2) ?_
              | refine CallGE.by (hh2) ?_
              | refine CallGB.by (hh2) ?_
            simp -dsimp
            first
              | refine CallG.by (ha) ?_
              | refine CallGE.by (ha) ?_
              | refine CallGB.by (ha) ?_
            simp -dsimp
            refine retP_c ?_
            simp -dsimp
          | true =>
            simp only [Bool.true_and, if_true] at hde hh1 hh2
            cases cl with
            | false =>
              simp only [Bool.false_eq_true, if_false] at hh1 hh2
              first
                | refine CallG.by (ho) ?_
                | refine CallGE.by (ho) ?_
                | refine CallGB.by (ho) ?_
              simp -dsimp
              first
                | refine CallG.by (hde) ?_
                | refine CallGE.by (hde) ?_
                | refine CallGB.by (hde) ?_
              simp -dsimp
              refine wk_draw 8 [3] mixed (by kernel_rfl) ?_
              simp -dsimp
              first
                | refine CallG.by (hf) ?_
                | refine CallGE.by (hf) ?_
                | refine CallGB.by (hf) ?_
              simp -dsimp
              first
                | refine CallG.by (hh1) ?_
                | refine CallGE.by (hh1) ?_
                | refine CallGB.by (hh1) ?_
              simp -dsimp
              refine wk_draw 8 [3] mixed (by kernel_rfl) ?_
              simp -dsimp
              first
                | refine CallG.by (hf') ?_
                | refine CallGE.by (hf') ?_
                | refine CallGB.by (hf') ?_
              simp -dsimp
              first
                | refine CallG.by (hh2) ?_
                | refine CallGE.by (hh2) ?_
                | refine CallGB.by (hh2) ?_
              simp -dsimp
              first
                | refine CallG.by (ha) ?_
                | refine CallGE.by (ha) ?_
                | refine CallGB.by (ha) ?_
              simp -dsimp
              refine retP_c ?_
              simp -dsimp
            | true =>
              simp only [if_true] at hh1 hh2
              by_cases hn : k < (D : Int)
              · skip
                first
                  | refine CallG.by (ho) ?_
                  | refine CallGE.by (ho) ?_
                  | refine CallGB.by (ho) ?_
                simp -dsimp
                first
                  | refine CallG.by (hde) ?_
                  | refine CallGE.by (hde) ?_
                  | refine CallGB.by (hde) ?_
                simp -dsimp
                refine wk_draw 8 [3] mixed (by kernel_rfl) ?_
                simp -dsimp
                first
                  | refine CallG.by (hf) ?_
                  | refine CallGE.by (hf) ?_
                  | refine CallGB.by (hf) ?_
                simp -dsimp
                first
                  | refine CallG.by (hh1) ?_
                  | refine CallGE.by (hh1) ?_
                  | refine CallGB.by (hh1) ?_
                simp -dsimp
                refine wk_draw 8 [3] mixed (by kernel_rfl) ?_
                simp -dsimp
                first
                  | refine CallG.by (hf') ?_
                  | refine CallGE.by (hf') ?_
                  | refine CallGB.by (hf') ?_
                simp -dsimp
                first
                  | refine CallG.by (hh2) ?_
                  | refine CallGE.by (hh2) ?_
                  | refine CallGB.by (hh2) ?_
                simp -dsimp
                simp -dsimp [hn]
                first
                  | refine CallG.by (ha) ?_
                  | refine CallGE.by (ha) ?_
                  | refine CallGB.by (ha) ?_
                simp -dsimp
                refine retP_c ?_
                simp -dsimp
              · have hpq := hag rfl rfl rfl (by omega)
                subst hpq
                first
                  | refine CallG.by (ho) ?_
                  | refine CallGE.by (ho) ?_
                  | refine CallGB.by (ho) ?_
                simp -dsimp
                first
                  | refine CallG.by (hde) ?_
                  | refine CallGE.by (hde) ?_
                  | refine CallGB.by (hde) ?_
                simp -dsimp
                refine wk_draw 8 [3] mixed (by kernel_rfl) ?_
                simp -dsimp
                first
                  | refine CallG.by (hf) ?_
                  | refine CallGE.by (hf) ?_
                  | refine CallGB.by (hf) ?_
                simp -dsimp
                first
                  | refine CallG.by (hh1) ?_
                  | refine CallGE.by (hh1) ?_
                  | refine CallGB.by (hh1) ?_
                simp -dsimp
                refine wk_draw 8 [3] mixed (by kernel_rfl) ?_
                simp -dsimp
                first
                  | refine CallG.by (hf') ?_
                  | refine CallGE.by (hf') ?_
                  | refine CallGB.by (hf') ?_
                simp -dsimp
                first
                  | refine CallG.by (hh2) ?_
                  | refine CallGE.by (hh2) ?_
                  | refine CallGB.by (hh2) ?_
                simp -dsimp
                simp -dsimp [hn, hww p]
                first
                  | refine CallG.by (ha) ?_
                  | refine CallGE.by (ha) ?_
                  | refine CallGB.by (ha) ?_
                simp -dsimp
                refine retP_c ?_
                simp -dsimp
end Go.Proofs.YtnikonhkbldnnaaGreatDoor
