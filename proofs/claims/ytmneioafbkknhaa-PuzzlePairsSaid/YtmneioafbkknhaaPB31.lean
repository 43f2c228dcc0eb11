import Derived.Test.YtmneioafbkknhaaPB30
/- PB31: Project of the program. -/
set_option linter.unusedVariables false
set_option linter.unusedSimpArgs false
set_option maxRecDepth 20000
namespace Go.Proofs.Ytmneioafbkknhaa
open Go Go.PS
attribute [-simp] List.map_take
theorem mem_compact (zs : List Int) (x : Int) : x ∈ Lib.compact zs ↔ x ∈ zs := by
  simp only [Lib.compact, Lib.compactUpTo, List.mem_map, List.mem_filter, List.mem_range]
  constructor
  · rintro ⟨j, ⟨hj, _⟩, rfl⟩
    have : zs.toArray[j]! = zs[j] := by simp [hj]
    rw [this]
    exact List.getElem_mem hj
  · intro hx
    obtain ⟨i, hi, rfl⟩ := List.getElem_of_mem hx
    have key : ∀ i, (hi : i < zs.length) → ∃ j, (j < zs.length ∧ Lib.keeps zs.toArray j = true) ∧ zs.toArray[j]! = zs[i] := by
      intro i
      induction i with
      | zero =>
        intro hi
        exact ⟨0, ⟨hi, by simp [Lib.keeps]⟩, by simp [hi]⟩
      | succ i ih =>
        intro hi
        by_cases h : zs.toArray[i + 1]! = zs.toArray[i]!
        · obtain ⟨j, h1, h2⟩ := ih (by omega)
          refine ⟨j, h1, h2.trans ?_⟩
          have e1 : zs.toArray[i + 1]! = zs[i + 1] := by simp [hi]
          have e2 : zs.toArray[i]! = zs[i] := by simp [show i < zs.length by omega]
          rw [← e1, h, e2]
        · exact ⟨i + 1, ⟨hi, by simp only [Lib.keeps, Nat.add_sub_cancel]; exact decide_eq_true (.inr h)⟩, by simp [hi]⟩
    exact key i hi
theorem compact_asc {zs : List Int} (h : zs.Pairwise (· ≤ ·)) : Asc (Lib.compact zs) := by
  rw [Asc, Lib.compact, Lib.compactUpTo, List.pairwise_map, List.pairwise_filter]
  refine List.Pairwise.imp_of_mem (fun {a b} ha hb hab => ?_) List.pairwise_lt_range
  intro _ hk
  have hb' : b < zs.length := List.mem_range.1 hb
  simp only [Lib.keeps, decide_eq_true_eq] at hk
  have hne := hk.resolve_left (by omega)
  rw [List.pairwise_iff_getElem] at h
  have e1 : zs.toArray[b]! = zs[b] := by simp [hb']
  have e2 : zs.toArray[b - 1]! = zs[b - 1] := by simp [show b - 1 < zs.length by omega]
  have e3 : zs.toArray[a]! = zs[a] := by simp [show a < zs.length by omega]
  rw [e1, e2] at hne
  rw [e1, e3]
  have h1 := h (b - 1) b (by omega) hb' (by omega)
  rcases Nat.lt_or_ge a (b - 1) with hlt | hge
  · have h2 := h a (b - 1) (by omega) (by omega) hlt
    omega
  · have : a = b - 1 := by omega
    subst this
    omega
theorem sortI_asc (xs : List Int) : (sortI xs).Pairwise (· ≤ ·) :=
  (List.pairwise_mergeSort (fun a b c h1 h2 => by simp at h1 h2 ⊢; omega) (fun a b => by simp; omega) xs : (sortI xs).Pairwise (fun a b => decide (a ≤ b) = true)).imp fun h => by simpa using h
theorem mem_sortI (xs : List Int) (x : Int) : x ∈ sortI xs ↔ x ∈ xs := (List.mergeSort_perm xs _).mem_iff
/-- Sorted, each once: the rows of a set. -/
theorem uniq_law {xs : List Int} (h : ∀ x ∈ xs, InN 3 x) : Lib.compact (sortI xs) = bitsL (setOf xs 0) 8 := by
  refine asc_eq (compact_asc (sortI_asc xs)) (asc_bits _ _) fun x => ?_
  rw [mem_compact, mem_sortI, mem_bits]
  have h0 : ∀ x ∈ xs, 0 ≤ x := fun x hx => by obtain ⟨k, e, _⟩ := h x hx; omega
  constructor
  · intro hx
    obtain ⟨k, rfl, hk⟩ := h x hx
    exact ⟨k, rfl, by omega, by rw [setOf_bit _ _ _ h0]; simp [hx]⟩
  · rintro ⟨j, rfl, hj, hb⟩
    rw [setOf_bit _ _ _ h0] at hb
    simpa using hb
theorem rowF_in (s : Nat) (hs : s < 9223372036854775808) : ∀ (vs : List Int) (i : Nat) (out : Int), i + vs.length ≤ 62 → (∀ v ∈ vs, 0 ≤ v ∧ v ≤ 64) → InN i out → InN (i + vs.length) (rowF s vs i out)
  | [], i, out, _, _, h => h
  | v :: vs, i, out, hi, hv, h => by
    simp only [List.length_cons] at hi
    obtain ⟨h1, h2⟩ := hv v (by simp)
    have hst : InN (i + 1) (orI out (shlI (andI (shrI s v.toNat) 1) i)) := by
      refine inN_or (by omega) (inN_mono (by omega) h) ?_
      rw [and1 s hs v.toNat (by omega)]
      split
      · rw [shl1 i (by omega)]
        exact ⟨_, rfl, Nat.pow_lt_pow_right (by decide) (by omega)⟩
      · refine ⟨0, ?_, Nat.pow_pos (by decide)⟩
        simp [shlI]
        exact wr (by omega) (by omega)
    have := rowF_in s hs vs (i + 1) _ (by omega) (fun v hv' => hv v (by simp [hv'])) hst
    rw [show i + (v :: vs).length = i + 1 + vs.length by simp; omega]
    exact this
/-- Are these variables of the puzzle? -/
def okV (p : Pz) (vs : List Int) : Bool := goodP p && decide (1 ≤ vs.length) && decide (vs.length ≤ 3) && vs.all (goodV p)
def projL (p : Pz) (vs : List Int) : List Int := (allS p).map fun s => rowF s vs 0 0
def projT (p : Pz) (vs : List Int) : TL := if okV p vs then (if (allS p).isEmpty then .tup [.agg [eI 0, .v (.slice none 0 0)], eI 4] else .tup [eRl ⟨vs.length, Lib.compact (sortI (projL p vs))⟩, eI 0]) else .tup [.agg [eI 0, .v (.slice none 0 0)], eI 2]
theorem allS_nat {p : Pz} {s : Int} (hs : s ∈ allS p) : ∃ k : Nat, s = k ∧ k < 2 ^ p.vars.toNat := by
  simp only [allS, solsF, List.mem_filter, List.mem_map, List.mem_range] at hs
  obtain ⟨⟨k, hk, rfl⟩, _⟩ := hs
  exact ⟨k, rfl, hk⟩
theorem okV_bad {p : Pz} {vs : List Int} (h : okV p vs = false) : projT p vs = .tup [.agg [eI 0, .v (.slice none 0 0)], eI 2] := by
  rw [projT, h]
  rfl
theorem projL_len (p : Pz) (vs : List Int) : (projL p vs).length = (allS p).length := by simp [projL]
theorem projL_take (p : Pz) (vs : List Int) (i : Nat) (h : i < (allS p).length) : (projL p vs).take (i + 1) = (projL p vs).take i ++ [rowF (allS p)[i] vs 0 0] := by
  rw [List.take_add_one, List.getElem?_eq_getElem (by rw [projL_len]; exact h)]
  simp [projL]
theorem allS_len {p : Pz} (hv : p.vars ≤ 8) : (allS p).length ≤ 256 := by
  have h := solsF_len p (maskI p.cons.length) (2 ^ p.vars.toNat)
  have hN : 2 ^ p.vars.toNat ≤ 2 ^ 8 := Nat.pow_le_pow_right (by decide) (by omega)
  rw [← allS] at h
  omega
theorem project_spec (p : Pz) (vs : List Int) : PCall Try.prog 44 [ePz p, eIs vs] (.t .ro (projT p vs)) [] := by
  refine pcall_wpT Try.func44 rfl (by kernel_rfl) ?_
  simp -dsimp
  refine wk_draw 23 [1, 5, 10, 15] mixed (by kernel_rfl) ?_
  simp -dsimp
  first
    | refine CallG.by (pvalid_spec p) ?_
    | refine CallGE.by (pvalid_spec p) ?_
    | refine CallGB.by (pvalid_spec p) ?_
  cases hv : goodP p with
  | false =>
    simp -dsimp
    refine retT_c ?_
    simp -dsimp [projT, okV, hv]
  | true =>
    have hg := hv
    simp only [goodP, Bool.and_eq_true, decide_eq_true_eq] at hg
    obtain ⟨⟨⟨⟨⟨g1, g2⟩, g3⟩, g4⟩, g5⟩, g6⟩ := hg
    have hok := okC_of g6
    by_cases l1 : (vs.length : Int) < 1
    · have hb : okV p vs = false := by
        have : ¬ 1 ≤ vs.length := by omega
        simp [okV, hv, this]
      simp -dsimp [l1]
      refine retT_c ?_
      simp -dsimp [okV_bad hb]
    by_cases l3 : 3 < (vs.length : Int)
    · have hb : okV p vs = false := by
        have : ¬ vs.length ≤ 3 := by omega
        simp [okV, hv, this]
      simp -dsimp [l1, l3]
      refine retT_c ?_
      simp -dsimp [okV_bad hb]
    have hn0 : 0 < vs.length := by omega
    by_cases m0 : minL vs < 0
    · have hb : okV p vs = false := by
        obtain ⟨v, h1, h2⟩ := (minL_lt vs 0 hn0).1 m0
        have : vs.all (goodV p) = false := by
          rw [List.all_eq_false]
          exact ⟨v, h1, by simp [goodV]; omega⟩
        simp [okV, this]
      simp -dsimp [l1, l3]
      first
        | refine CallG.by (min_spec vs hn0) ?_
        | refine CallGE.by (min_spec vs hn0) ?_
        | refine CallGB.by (min_spec vs hn0) ?_
      simp -dsimp [m0]
      refine retT_c ?_
      simp -dsimp [okV_bad hb]
    by_cases mx : p.vars ≤ maxL vs
    · have hb : okV p vs = false := by
        obtain ⟨v, h1, h2⟩ := (maxL_ge vs p.vars hn0).1 mx
        have : vs.all (goodV p) = false := by
          rw [List.all_eq_false]
          exact ⟨v, h1, by simp [goodV]; omega⟩
        simp [okV, this]
      simp -dsimp [l1, l3]
      first
        | refine CallG.by (min_spec vs hn0) ?_
        | refine CallGE.by (min_spec vs hn0) ?_
        | refine CallGB.by (min_spec vs hn0) ?_
      simp -dsimp [m0]
      first
        | refine CallG.by (max_spec vs hn0) ?_
        | refine CallGE.by (max_spec vs hn0) ?_
        | refine CallGB.by (max_spec vs hn0) ?_
      simp -dsimp [mx]
      refine retT_c ?_
      simp -dsimp [okV_bad hb]
    have hall : ∀ v ∈ vs, 0 ≤ v ∧ v < p.vars := by
      intro v hm
      refine ⟨?_, ?_⟩
      · by_cases h : v < 0
        · exact absurd ((minL_lt vs 0 hn0).2 ⟨v, hm, h⟩) m0
        · omega
      · by_cases h : v < p.vars
        · exact h
        · exact absurd ((maxL_ge vs p.vars hn0).2 ⟨v, hm, by omega⟩) mx
    have hokv : okV p vs = true := by
      have : vs.all (goodV p) = true := by
        rw [List.all_eq_true]
        intro v hm
        simp [goodV, hall v hm]
      simp only [okV, hv, this, Bool.and_true, Bool.true_and, Bool.and_eq_true, decide_eq_true_eq]
      omega
    have hF : projT p vs = if (allS p).isEmpty then .tup [.agg [eI 0, .v (.slice none 0 0)], eI 4] else .tup [eRl ⟨vs.length, Lib.compact (sortI (projL p vs))⟩, eI 0] := by rw [projT, hokv, if_pos rfl]
    simp -dsimp [l1, l3]
    first
      | refine CallG.by (min_spec vs hn0) ?_
      | refine CallGE.by (min_spec vs hn0) ?_
      | refine CallGB.by (min_spec vs hn0) ?_
    simp -dsimp [m0]
    first
      | refine CallG.by (max_spec vs hn0) ?_
      | refine CallGE.by (max_spec vs hn0) ?_
      | refine CallGB.by (max_spec vs hn0) ?_
    simp -dsimp [mx]
    refine wk_draw 6 [] mixed (by kernel_rfl) ?_
    simp -dsimp
    first
      | refine CallG.by (every_spec p) ?_
      | refine CallGE.by (every_spec p) ?_
      | refine CallGB.by (every_spec p) ?_
    simp -dsimp
    first
      | refine CallG.by (psols_spec p (maskI p.cons.length) hok (by omega) g2) ?_
      | refine CallGE.by (psols_spec p (maskI p.cons.length) hok (by omega) g2) ?_
      | refine CallGB.by (psols_spec p (maskI p.cons.length) hok (by omega) g2) ?_
    rw [← allS]
    have hlen := allS_len g2
    simp -dsimp
    refine lg_adoptM 6 1 120 3 1 rfl rfl (by simp) (by simp) ?_
    refine wk_loop (fun i : Nat => ⟨[(43, pI i), (42, pI (allS p).length), (41, .t .fz (eIs (allS p))), (6, .ptr 6 0), (1, .t .ro (eIs vs)), (4, .ptr 4 0)], [(120, .row 3 1 .fz (((projL p vs).take i).map cI)), (6, .blk 48 [pI vs.length, .osl 120]), (4, .blk 48 [.t .fz (eI 0), .t .fz (.v (.slice none 0 0))])]⟩) (fun i => i ≤ (allS p).length) (fun i => (allS p).length - i) 0
      (le_of (by simp) (by simp)) (by simp) fun i hi => ?_
    simp -dsimp
    refine condX_dec (fun h => ?_) (fun h => ?_)
    · have hw := wr (n := (i : Int) + 1) (by omega) (by omega)
      have hb : (min i (projL p vs).length + 1) * 8 ≤ 140737488355328 := by omega
      have htk := projL_take p vs i h
      simp -dsimp [h]
      refine wk_draw 6 [4, 5] mixed (by kernel_rfl) ?_
      simp -dsimp
      first
        | refine CallG.by (prow_spec vs (allS p)[i] (fun v hm => (hall v hm).1)) ?_
        | refine CallGE.by (prow_spec vs (allS p)[i] (fun v hm => (hall v hm).1)) ?_
        | refine CallGB.by (prow_spec vs (allS p)[i] (fun v hm => (hall v hm).1)) ?_
      simp -dsimp [hb, hw]
      exact LoopP_next (i + 1) (le_of (by simp [htk]) (by simp [htk])) h (by omega)
    have : i = (allS p).length := by omega
    subst this
    rw [← projL_len p vs, List.take_length]
    have hpl := projL_len p vs
    cases hA : (allS p).isEmpty with
    | true =>
      rw [hA, if_pos rfl] at hF
      have : projL p vs = [] := by
        rw [List.isEmpty_iff] at hA
        simp [projL, hA]
      rw [this]
      simp -dsimp
      refine retT_c ?_
      simp -dsimp [hF]
    | false =>
      rw [hA, if_neg (by simp)] at hF
      have hne : projL p vs ≠ [] := by
        intro h
        rw [List.isEmpty_eq_false_iff, ← List.length_pos_iff] at hA
        rw [h] at hpl
        simp at hpl
        omega
      have hpos : 0 < (projL p vs).length := List.length_pos_iff.2 hne
      have h0 : (((projL p vs).length : Int) == 0) = false := by simp; exact hne
      have hsn : sortI (projL p vs) ≠ [] := by
        intro h
        have := (List.mergeSort_perm (projL p vs) fun a b => decide (a ≤ b)).length_eq
        rw [← sortI, h] at this
        simp at this
        omega
      simp -dsimp [h0]
      first
        | refine CallG.on (g := [(120, 1000011)]) (sort_spec (projL p vs) hne) (by decide) (by simp) (by simp) (by simp [Sg.bk]) ?_
        | refine CallN.on (g := [(120, 1000011)]) (sort_spec (projL p vs) hne) (by decide) (by simp) (by simp) (by simp [Sg.bk]) ?_
        | refine CallGB.on (g := [(120, 1000011)]) (sort_spec (projL p vs) hne) (by decide) (by simp) (by simp) (by simp [Sg.bk]) ?_
      simp -dsimp
      first
        | refine CallG.on (g := [(120, 1001)]) (compact_spec (sortI (projL p vs)) hsn) (by decide) (by simp) (by simp) (by simp [Sg.bk]) ?_
        | refine CallN.on (g := [(120, 1001)]) (compact_spec (sortI (projL p vs)) hsn) (by decide) (by simp) (by simp) (by simp [Sg.bk]) ?_
        | refine CallGB.on (g := [(120, 1001)]) (compact_spec (sortI (projL p vs)) hsn) (by decide) (by simp) (by simp) (by simp [Sg.bk]) ?_
      simp -dsimp
      refine retT_c ?_
      simp -dsimp [hF]
end Go.Proofs.Ytmneioafbkknhaa
