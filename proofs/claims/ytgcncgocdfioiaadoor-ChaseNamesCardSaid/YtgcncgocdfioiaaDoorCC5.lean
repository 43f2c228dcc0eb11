import Derived.Test.YtgcncgocdfioiaaDoorCC4
/- CC5: Apart. -/
set_option linter.unusedVariables false
set_option linter.unusedSimpArgs false
set_option maxRecDepth 20000
namespace Go.Proofs.YtgcncgocdfioiaaDoor
open Go Go.PS
attribute [-simp] isKeyK List.map_take
def sgl (s : Nat) : Bool := (s &&& (s - 1)) == 0
theorem single_spec (s : Nat) (h : s < 256) : PCall Tryd.prog 76 [eI s] (pB (sgl s)) [] := by
  refine pcall_wp _ Tryd.func76 rfl (by kernel_rfl) rfl ?_
  have hF : sgl s = ((s &&& (s - 1)) == 0) := rfl
  rcases Nat.eq_zero_or_pos s with h0 | h0
  · subst h0
    have h1 : andI ((0 : Nat) : Int) (IntKind.i64.wrap (((0 : Nat) : Int) - 1)) = 0 := by decide
    generalize ((0 : Nat) : Int) = z at *
    simp -dsimp [h1]
    refine retP_c ?_
    simp -dsimp [hF]
  · have h1 := pop1 s h h0
    have h2 : (((s &&& (s - 1) : Nat) : Int) == 0) = sgl s := by rw [hF, Bool.eq_iff_iff]; simp
    simp -dsimp [h1]
    refine retP_c ?_
    simp -dsimp [h2]
/-- The first order that takes a set apart. -/
def apL (t : List Nat) (s : Nat) : List Nat := match (bitsL s).find? (fun v => corF t v s) with
  | none => [tz s]
  | some v => v :: if dif s (2 ^ v) < s then apL t (dif s (2 ^ v)) else []
termination_by s
theorem sgl_tz {s : Nat} (h0 : 0 < s) (h : s < 256) (hs : sgl s = true) : bitsL s = [tz s] := by
  have h1 := (tz_get h0 h).2
  have h2 : s &&& (s - 1) = 0 := by simpa [sgl] using hs
  rw [h2] at h1
  exact h1
theorem sgl_none {t : List Nat} {s : Nat} (h0 : 0 < s) (h : s < 256) (hs : sgl s = true) : (bitsL s).find? (fun v => corF t v s) = none := by
  have h1 := sgl_tz h0 h hs
  rw [h1]
  simp [corF, h1, covF]
theorem find_pos {s v : Nat} {p : Nat → Bool} (h : s < 256) (hf : (bitsL s).find? p = some v) : s.testBit v = true ∧ p v = true ∧ dif s (2 ^ v) < s := by
  have h1 := List.mem_of_find?_eq_some hf
  have h2 := (bits_mem h).1 h1
  exact ⟨h2, List.find?_some hf, dif_lt' h h2⟩
theorem cor_pos {t : List Nat} {s v : Nat} (h : s < 256) (hv : s.testBit v = true) (hc : corF t v s = true) : dif s (2 ^ v) ≠ 0 := by
  simp only [corF, List.any_eq_true, covF, Bool.and_eq_true, decide_eq_true_eq] at hc
  obtain ⟨u, hu, hne, _⟩ := hc
  intro e
  have h1 := dif_bit h (2 ^ v) u
  rw [e, (bits_mem h).1 hu, two_bit, decide_eq_false (Ne.symm hne)] at h1
  simp at h1
def apartF (g : List Int) : TL := if validG g then (if sgl (coreS (townOf g) (2 ^ g.length - 1)) then .tup [eNs (apL (townOf g) (2 ^ g.length - 1)), eI 0] else .tup [.v (.slice none 0 0), eI 5]) else .tup [.v (.slice none 0 0), eI 2]
theorem core_lt {t : List Nat} (ht : Twn t) : ∀ s, s < 2 ^ t.length → coreS t s < 2 ^ t.length
  | s, hs => by
    rw [coreS]
    split
    · exact hs
    · split
      · rename_i h
        exact core_lt ht _ (dif_sub ht hs _)
      · exact hs
termination_by s => s
theorem apart_spec (g : List Int) : PCall Tryd.prog 42 [eIs g] (.t .fz (apartF g)) [] := by
  refine pcall_wp _ Tryd.func42 rfl (by kernel_rfl) rfl ?_
  have hr := read_spec g
  have hF : apartF g = if validG g then (if sgl (coreS (townOf g) (2 ^ g.length - 1)) then .tup [eNs (apL (townOf g) (2 ^ g.length - 1)), eI 0] else .tup [.v (.slice none 0 0), eI 5]) else .tup [.v (.slice none 0 0), eI 2] := rfl
  cases hv : validG g with
  | false =>
    obtain ⟨X, hX⟩ := read_bad hv
    rw [hX] at hr
    rw [hv, if_neg (by simp)] at hF
    simp -dsimp
    first
      | refine CallG.by (hr) ?_
      | refine CallGE.by (hr) ?_
      | refine CallGB.by (hr) ?_
    simp -dsimp
    refine retP_c ?_
    simp -dsimp [hF]
  | true =>
    rw [read_ok hv] at hr
    rw [hv, if_pos rfl] at hF
    have ht := valid_town hv
    have hl : (townOf g).length = g.length := town_len g
    have hall := all_spec (townOf g) ht
    have hcore := core_spec (townOf g) ht
    rw [← hl] at hF
    have hg1 : 1 ≤ (townOf g).length := ht.1
    have hN : 2 ^ (townOf g).length ≤ 2 ^ 8 := Nat.pow_le_pow_right (by decide) ht.2.1
    have hN2 : 2 ≤ 2 ^ (townOf g).length := Nat.pow_le_pow_right (n := 2) (by decide) ht.1
    generalize townOf g = t at *
    have hc8 : coreS t (2 ^ t.length - 1) < 256 := Nat.lt_of_lt_of_le (core_lt ht _ (by omega)) hN
    have hsg := single_spec _ hc8
    cases hcs : sgl (coreS t (2 ^ t.length - 1)) with
    | false =>
      rw [hcs, if_neg (by simp)] at hF
      rw [hcs] at hsg
      generalize coreS t (2 ^ t.length - 1) = C at *
      simp -dsimp
      first
        | refine CallG.by (hr) ?_
        | refine CallGE.by (hr) ?_
        | refine CallGB.by (hr) ?_
      simp -dsimp
      first
        | refine CallG.by (hcore) ?_
        | refine CallGE.by (hcore) ?_
        | refine CallGB.by (hcore) ?_
      simp -dsimp
      first
        | refine CallG.by (hsg) ?_
        | refine CallGE.by (hsg) ?_
        | refine CallGB.by (hsg) ?_
      simp -dsimp
      refine retP_c ?_
      simp -dsimp [hF]
    | true =>
      rw [hcs, if_pos rfl] at hF
      rw [hcs] at hsg
      obtain ⟨C, hC⟩ : ∃ C, C = coreS t (2 ^ t.length - 1) := ⟨_, rfl⟩
      rw [← hC] at hcore hsg hcs
      obtain ⟨A, hA⟩ : ∃ A, A = apL t (2 ^ t.length - 1) := ⟨_, rfl⟩
      rw [← hA] at hF
      obtain ⟨N, hNe⟩ : ∃ N, N = 2 ^ t.length - 1 := ⟨_, rfl⟩
      rw [← hNe] at hall hC hA
      have hNlt : N < 2 ^ t.length := by omega
      simp -dsimp
      first
        | refine CallG.by (hr) ?_
        | refine CallGE.by (hr) ?_
        | refine CallGB.by (hr) ?_
      simp -dsimp
      first
        | refine CallG.by (hcore) ?_
        | refine CallGE.by (hcore) ?_
        | refine CallGB.by (hcore) ?_
      simp -dsimp
      first
        | refine CallG.by (hsg) ?_
        | refine CallGE.by (hsg) ?_
        | refine CallGB.by (hsg) ?_
      simp -dsimp
      first
        | refine CallG.by (hall) ?_
        | refine CallGE.by (hall) ?_
        | refine CallGB.by (hall) ?_
      simp -dsimp
      refine lg_adoptT 6 6 3 1 (by simp; rfl) (by simp) ?_
      refine wk_loop (fun p : Nat × List Nat => ⟨[(4, .t .fz (eNs t)), (6, .osl 6), (7, pI p.1)], [(6, .row 3 1 .fz ((iL p.2).map cI))]⟩)
        (fun p => p.1 < 2 ^ t.length ∧ p.1 ≠ 0 ∧ coreS t p.1 = C ∧ p.2.length + 2 * p.1 ≤ 600 ∧ (if sgl p.1 then (p.2 = A ∨ (t.length = 1 ∧ p.2 = [])) else p.2 ++ apL t p.1 = A)) (fun p => p.1) (N, [])
        (le_of (by simp) (by simp)) ⟨hNlt, by omega, hC.symm, by simp; omega, ?_⟩ fun ⟨s, l⟩ ⟨hs, hs0, hsC, hsl, hsA⟩ => ?_
      · split
        · rename_i h
          right
          refine ⟨?_, rfl⟩
          have h3 := sgl_tz (by omega) (sub_lt ht hNlt) h
          rcases Nat.lt_or_ge t.length 2 with h4 | h4
          · have := ht.1; omega
          · have m0 : 0 ∈ bitsL N := (bits_mem (sub_lt ht hNlt)).2 (by rw [hNe, Nat.testBit_two_pow_sub_one]; simp; omega)
            have m1 : 1 ∈ bitsL N := (bits_mem (sub_lt ht hNlt)).2 (by rw [hNe, Nat.testBit_two_pow_sub_one]; simp; omega)
            rw [h3] at m0 m1
            simp at m0 m1
            omega
        · rw [hA]; rfl
      dsimp only at hs hs0 hsC hsl hsA
      have h8 := sub_lt ht hs
      have hss := single_spec s h8
      simp -dsimp
      first
        | refine CallG.by (hss) ?_
        | refine CallGE.by (hss) ?_
        | refine CallGB.by (hss) ?_
      cases hsg2 : sgl s with
      | true =>
        rw [hsg2, if_pos rfl] at hsA
        simp -dsimp
        by_cases h1 : t.length = 1
        · have e1 : N = 1 := by rw [hNe, h1]
          have hA1 : A = [0] := by
            rw [hA, e1, apL]
            have : (bitsL 1).find? (fun v => corF t v 1) = none := sgl_none (by decide) (by decide) (by decide)
            rw [this]
            show [tz 1] = [0]
            decide
          have h1' : ((t.length : Int) == 1) = true := by simp; omega
          simp -dsimp [h1']
          refine retP_c ?_
          simp -dsimp [hF, hA1]
        · have h1' : ((t.length : Int) == 1) = false := by simp; omega
          have hlA : l = A := hsA.elim id (fun h => absurd h.1 h1)
          simp -dsimp [h1']
          refine retP_c ?_
          simp -dsimp [hF, hlA]
      | false =>
        rw [hsg2, if_neg (by simp)] at hsA
        -- there is a corner
        have hfind : ∃ v, (bitsL s).find? (fun v => corF t v s) = some v := by
          cases hf : (bitsL s).find? (fun v => corF t v s) with
          | some v => exact ⟨v, rfl⟩
          | none =>
            rw [coreS, hf] at hsC
            simp only at hsC
            rw [hsC, hcs] at hsg2
            cases hsg2
        obtain ⟨v, hf⟩ := hfind
        obtain ⟨hvs, hvc, hvl⟩ := find_pos h8 hf
        have hC2 : coreS t (dif s (2 ^ v)) = C := by
          rw [coreS, hf] at hsC
          simpa [hvl] using hsC
        have hA2 : apL t s = v :: apL t (dif s (2 ^ v)) := by
          rw [apL, hf]
          simp [hvl]
        have hnz := cor_pos h8 hvs hvc
        have hv8 : v < t.length := node_lt hs ((bits_mem h8).2 hvs)
        have hd8 : dif s (2 ^ v) < 256 := dif_lt h8 _
        have hnd := nodes_spec s h8
        have hsd := single_spec _ hd8
        have hbl := bits_len s
        -- the first corner
        have hidx := idxP_find (fun v => corF t v s) (bitsL s) 0
        rw [hf] at hidx
        obtain ⟨k, hk, hk1, hk2⟩ : ∃ k : Nat, ∃ h : k < (bitsL s).length, idxP (fun v => corF t v s) (bitsL s) 0 = (k : Int) ∧ (bitsL s)[k] = v := by
          rcases hidx with ⟨h, _⟩ | ⟨i, hi, h1, h2⟩
          · cases h
          · exact ⟨i, hi, by rw [h1]; simp, by simpa using h2.symm⟩
        simp -dsimp
        first
          | refine CallG.by (hnd) ?_
          | refine CallGE.by (hnd) ?_
          | refine CallGB.by (hnd) ?_
        simp -dsimp
        refine wk_loop (fun i : Nat => ⟨[(29, pI i), (28, pI (bitsL s).length), (27, .t .fz (eNs (bitsL s))), (4, .t .fz (eNs t)), (6, .osl 6), (7, pI s)], [(6, .row 3 1 .fz ((iL l).map cI))]⟩)
          (fun i => i ≤ k ∧ idxP (fun v => corF t v s) (bitsL s) 0 = idxP (fun v => corF t v s) ((bitsL s).drop i) i) (fun i => (bitsL s).length - i) 0
          (le_of (by simp) (by simp)) ⟨by omega, rfl⟩ fun i ⟨hi, hix⟩ => ?_
        have hil' : i < (bitsL s).length := by omega
        have hil : (i : Int) < (bitsL s).length := by omega
        have hw := wr (n := (i : Int) + 1) (by omega) (by omega)
        have qi := iL_at hil'
        have hg0 := idxP_drop (fun v => corF t v s) (bitsL s) i hil'
        have hgd : (bitsL s).getD i 0 = (bitsL s)[i] := by simp [List.getD_eq_getElem?_getD, hil']
        rw [hgd] at qi
        have hxm := List.getElem_mem hil'
        have hxn := node_lt hs hxm
        have hcsp := corner_spec t ht (bitsL s)[i] s hxn hs
        have hik : corF t (bitsL s)[i] s = true → i = k := by
          intro h
          rw [hix, hg0, if_pos h] at hk1
          omega
        have hki : i = k → (bitsL s)[i] = v := by intro e; subst e; exact hk2
        generalize (bitsL s)[i] = x at *
        have hx8 : x < 8 := by have := ht.2.1; omega
        have hsa := shl1 x (by omega)
        have hp2 : 2 ^ x < 256 := Nat.lt_of_lt_of_le (Nat.pow_lt_pow_right (by decide) hx8) (by decide)
        have han := andnI_nat s (2 ^ x) h8 hp2
        have hbd : (l.length + 1) * 8 ≤ 140737488355328 := by omega
        have hbd2 : (l.length + 1 + 1) * 8 ≤ 140737488355328 := by omega
        simp -dsimp [hil, qi]
        first
          | refine CallG.by (hcsp) ?_
          | refine CallGE.by (hcsp) ?_
          | refine CallGB.by (hcsp) ?_
        cases hcx : corF t x s with
        | false =>
          rw [hcx] at hg0
          have hne : i ≠ k := fun e => by
            rw [hki e, hvc] at hcx
            cases hcx
          simp -dsimp
          refine LoopP_next (i + 1) (le_of (by simp [hw]) (by simp)) ⟨by omega, ?_⟩ (by omega)
          rw [hix, hg0]
          rfl
        | true =>
          have e := hki (hik hcx)
          subst e
          obtain ⟨d, hd⟩ : ∃ d, d = dif s (2 ^ x) := ⟨_, rfl⟩
          rw [← hd] at hC2 hA2 hnz hd8 hsd han hvl
          have hdlt : d < 2 ^ t.length := by rw [hd]; exact dif_sub ht hs _
          have hu : IntKind.u64.wrap (d : Int) = d := by
            rw [IntKind.wrap_u64]
            omega
          generalize 2 ^ x = bx at *
          simp -dsimp [hbd, hsa, han]
          first
            | refine CallG.by (hsd) ?_
            | refine CallGE.by (hsd) ?_
            | refine CallGB.by (hsd) ?_
          cases hds : sgl d with
          | false =>
            simp -dsimp
            refine LoopP_next (d, l ++ [x]) (le_of (by simp) (by simp)) ⟨hdlt, hnz, hC2, by simp; omega, ?_⟩ hvl
            dsimp only
            rw [hds, if_neg (by simp), List.append_assoc, List.singleton_append, ← hA2, hsA]
          | true =>
            have htz := tz_spec d (by omega) hd8
            have hlast : apL t d = [tz d] := by
              rw [apL, sgl_none (by omega) hd8 hds]
            simp -dsimp [hu]
            first
              | refine CallG.by (htz) ?_
              | refine CallGE.by (htz) ?_
              | refine CallGB.by (htz) ?_
            simp -dsimp [hbd2]
            refine LoopP_next (d, l ++ [x] ++ [tz d]) (le_of (by simp) (by simp)) ⟨hdlt, hnz, hC2, by simp; omega, ?_⟩ hvl
            dsimp only
            rw [hds, if_pos rfl]
            left
            rw [List.append_assoc, List.singleton_append, ← hlast, ← hA2, hsA]
end Go.Proofs.YtgcncgocdfioiaaDoor
