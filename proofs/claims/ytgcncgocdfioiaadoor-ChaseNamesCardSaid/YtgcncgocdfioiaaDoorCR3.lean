import Derived.Test.YtgcncgocdfioiaaDoorCR2
/- CR3: the reference: Core, Apart. -/
set_option linter.unusedVariables false
set_option linter.unusedSimpArgs false
set_option maxRecDepth 20000
namespace Go.Proofs.YtgcncgocdfioiaaDoor
open Go Go.PS
attribute [-simp] isKeyK List.map_take
theorem bits_sorted (s : Nat) : (bitsL s).Pairwise (· < ·) := List.pairwise_lt_range.filter _
/-- The first corner. -/
theorem find_first {s v : Nat} (hs : s < 256) {p : Nat → Bool} (hv : s.testBit v = true) (hp : p v = true) (hno : ∀ x, x < v → s.testBit x = true → p x = false) : (bitsL s).find? p = some v := by
  cases hf : (bitsL s).find? p with
  | none => exact absurd hp (by simpa using List.find?_eq_none.1 hf v ((bits_mem hs).2 hv))
  | some w =>
    obtain ⟨h1, as', bs', h2, h3⟩ := List.find?_eq_some_iff_append.1 hf
    have hw := (bits_mem hs).1 (List.mem_of_find?_eq_some hf)
    have hvm := (bits_mem hs).2 hv
    have hso := bits_sorted s
    rw [h2] at hvm hso
    rcases List.mem_append.1 hvm with h4 | h4
    · have := h3 v h4
      rw [hp] at this
      cases this
    · rcases List.mem_cons.1 h4 with rfl | h4
      · rfl
      · rw [List.pairwise_append, List.pairwise_cons] at hso
        have hlt := hso.2.1.1 v h4
        rw [hno w hlt hw] at h1
        cases h1
theorem find_none {s n : Nat} (hs : s < 2 ^ n) (h8 : s < 256) {p : Nat → Bool} (hno : ∀ x, x < n → s.testBit x = true → p x = false) : (bitsL s).find? p = none := by
  rw [List.find?_eq_none]
  intro x hx
  have := (bits_mem h8).1 hx
  rw [hno x (bX_lt hs this) this]
  simp
theorem rcore_spec (g : List Int) (hg : isgB g = true) : PCall Tryd.prog 48 [eIs g] (pI (coreS (townOf g) (2 ^ g.length - 1) : Nat)) [] := by
  obtain ⟨ht, hl, _⟩ := isg_facts hg
  refine pcall_wp _ Tryd.func48 rfl (by kernel_rfl) rfl ?_
  have hcor := fun s v hs hv => rcor_spec g hg s v hs hv
  rw [← hl] at hcor ⊢
  have hp : 2 ≤ 2 ^ (townOf g).length := Nat.pow_le_pow_right (n := 2) (by decide) ht.1
  have hlI : (g.length : Int) = (townOf g).length := by omega
  generalize townOf g = t at *
  have h8 := ht.2.1
  have hN8 : 2 ^ t.length ≤ 2 ^ 8 := Nat.pow_le_pow_right (by decide) h8
  have hsh := shl1 t.length (by omega)
  obtain ⟨N, hN⟩ : ∃ N, N = 2 ^ t.length := ⟨_, rfl⟩
  rw [← hN] at hp hN8 hsh ⊢
  have hwN := wr (n := (N : Int) - 1) (by omega) (by omega)
  have he : (N : Int) - 1 = ((N - 1 : Nat) : Int) := by omega
  rw [he] at hwN
  obtain ⟨C, hC⟩ : ∃ C, C = coreS t (N - 1) := ⟨_, rfl⟩
  rw [← hC]
  simp -dsimp [hsh, he, hwN, hlI]
  refine wk_loop (fun p : Nat × Bool => ⟨[(3, pI p.1), (4, pB p.2), (0, .t .ro (eIs g))], []⟩)
    (fun p => p.1 < N ∧ coreS t p.1 = C ∧ (p.2 = false → p.1 = C)) (fun p => 2 * p.1 + p.2.toNat) (N - 1, true)
    (le_of (by simp) (by simp)) ⟨by simp only; omega, hC.symm, by simp⟩ fun ⟨s, ag⟩ ⟨hs, hsC, hend⟩ => ?_
  dsimp only at hs hsC hend
  cases ag with
  | false =>
    have e := hend rfl
    subst e
    simp -dsimp
    refine retP_c ?_
    simp -dsimp
  | true =>
    clear hend
    have hs8 : s < 256 := by omega
    have hsN : s < 2 ^ t.length := by omega
    simp -dsimp [hlI]
    refine wk_loop (fun p : Nat × Nat × Bool => ⟨[(13, pI p.1), (12, pI t.length), (3, pI p.2.1), (4, pB p.2.2), (0, .t .ro (eIs g))], []⟩)
      (fun p => p.1 ≤ t.length ∧ (p.2.2 = false → p.2.1 = s ∧ ∀ x, x < p.1 → s.testBit x = true → corF t x s = false) ∧ (p.2.2 = true → p.2.1 < s ∧ coreS t p.2.1 = C)) (fun p => t.length - p.1) (0, s, false)
      (le_of (by simp) (by simp)) ⟨by simp, fun _ => ⟨rfl, fun x hx => by omega⟩, by simp⟩ fun ⟨v, s', ag⟩ ⟨hv, h1, h2⟩ => ?_
    dsimp only at hv h1 h2
    simp -dsimp
    refine condX_dec (fun h => ?_) (fun h => ?_)
    · have hw := wr (n := (v : Int) + 1) (by omega) (by omega)
      cases ag with
      | true =>
        simp -dsimp
        refine LoopP_next (v + 1, s', true) (le_of (by simp [hw]) (by simp)) ⟨h, by simp, fun _ => h2 rfl⟩ (by simp only; omega)
      | false =>
        obtain ⟨e, hno⟩ := h1 rfl
        subst e
        have hv0 : (0 : Int) ≤ (v : Int) := by omega
        have hbit := and1 s' (by omega) v (by omega)
        have hcr := hcor s' v hs8 h
        cases c1 : s'.testBit v with
        | false =>
          rw [c1] at hbit
          simp -dsimp [hv0, hbit]
          refine LoopP_next (v + 1, s', false) (le_of (by simp [hw]) (by simp)) ⟨h, fun _ => ⟨rfl, fun x hx hb => ?_⟩, by simp⟩ (by simp only; omega)
          rcases Nat.lt_or_ge x v with h5 | h5
          · exact hno x h5 hb
          · have : x = v := by omega
            subst this
            rw [c1] at hb
            cases hb
        | true =>
          rw [c1] at hbit
          rw [rcor_in ht hsN c1] at hcr
          simp -dsimp [hv0, hbit]
          first
            | refine CallG.by (hcr) ?_
            | refine CallGE.by (hcr) ?_
            | refine CallGB.by (hcr) ?_
          cases c2 : corF t v s' with
          | false =>
            simp -dsimp
            refine LoopP_next (v + 1, s', false) (le_of (by simp [hw]) (by simp)) ⟨h, fun _ => ⟨rfl, fun x hx hb => ?_⟩, by simp⟩ (by simp only; omega)
            rcases Nat.lt_or_ge x v with h5 | h5
            · exact hno x h5 hb
            · have : x = v := by omega
              subst this
              exact c2
          | true =>
            have hf := find_first hs8 (p := fun v => corF t v s') c1 c2 hno
            have hlt := dif_lt' hs8 c1
            have hC2 : coreS t (dif s' (2 ^ v)) = C := by
              rw [coreS, hf] at hsC
              simpa [hlt] using hsC
            have hsa := shl1 v (by omega)
            have hp2 : 2 ^ v < 256 := Nat.lt_of_lt_of_le (Nat.pow_lt_pow_right (by decide) (show v < 8 by omega)) (by decide)
            have han := andnI_nat s' (2 ^ v) hs8 hp2
            generalize dif s' (2 ^ v) = d at *
            generalize 2 ^ v = bv at *
            simp -dsimp [hv0, hsa, han]
            refine LoopP_next (v + 1, d, true) (le_of (by simp [hw]) (by simp)) ⟨h, by simp, fun _ => ⟨hlt, hC2⟩⟩ (by simp only; omega)
    · have hv' : v = t.length := by omega
      subst hv'
      cases ag with
      | true =>
        obtain ⟨h3, h4⟩ := h2 rfl
        simp -dsimp
        refine LoopP_next (s', true) (le_of (by simp) (by simp)) ⟨by simp only; omega, h4, by simp⟩ (by simp only; omega)
      | false =>
        obtain ⟨e, hno⟩ := h1 rfl
        subst e
        have hf := find_none hsN hs8 (p := fun v => corF t v s') hno
        have hsC2 := hsC
        rw [coreS, hf] at hsC2
        simp -dsimp
        refine LoopP_next (s', false) (le_of (by simp) (by simp)) ⟨hs, hsC, fun _ => hsC2⟩ (by simp)
/-- Whichever corner is taken away: what is left can be taken apart, if the whole can. -/
theorem sgl_cw {t : List Nat} (ht : Twn t) (hr : ∀ x, vT t x → rT t x x) (hsy : ∀ x y, vT t x → vT t y → rT t x y → rT t y x) {s : Nat} (hs : s < 2 ^ t.length) (h0 : s ≠ 0) : sgl (coreS t s) = true ↔ Cw (bX s) (rT t) false := by
  obtain ⟨hco, hno⟩ := core_ok ht hr hsy s hs h0
  have h8 := sub_lt ht hco.lt
  rw [hco.cw false]
  generalize coreS t s = c at *
  have hr' : ∀ x, bX c x → rT t x x := fun x hx => hr x (bX_lt hco.lt hx)
  have hs' : ∀ x y, bX c x → bX c y → rT t x y → rT t y x := fun x y hx hy => hsy x y (bX_lt hco.lt hx) (bX_lt hco.lt hy)
  constructor
  · intro h1
    have h2 := (sgl_iff hco.pos h8).1 h1
    have h3 := nz_bit hco.pos h8
    exact ⟨tz c, tz c, h3, h3, .inr rfl, 0, fun x hx => .inl (h2 x hx)⟩
  · intro h1
    cases h2 : sgl c with
    | true => rfl
    | false => exact absurd h1 (Cw.none hr' hs' hno (two_nodes hco.pos h8 h2))
theorem sgl_conf {t : List Nat} (ht : Twn t) (hr : ∀ x, vT t x → rT t x x) (hsy : ∀ x y, vT t x → vT t y → rT t x y → rT t y x) {s v : Nat} (hs : s < 2 ^ t.length) (hv : s.testBit v = true) (hc : corF t v s = true) : sgl (coreS t (dif s (2 ^ v))) = sgl (coreS t s) := by
  have h8 := sub_lt ht hs
  have h0 : s ≠ 0 := fun e => by rw [e] at hv; simp at hv
  have hd0 := cor_pos h8 hv hc
  obtain ⟨u, hu⟩ := (corF_iff ht hs hv).1 hc
  have hr' : ∀ x, bX s x → rT t x x := fun x hx => hr x (bX_lt hs hx)
  have hs' : ∀ x y, bX s x → bX s y → rT t x y → rT t y x := fun x y hx hy => hsy x y (bX_lt hs hx) (bX_lt hs hy)
  rw [Bool.eq_iff_iff, sgl_cw ht hr hsy hs h0, sgl_cw ht hr hsy (dif_sub ht hs _) hd0, Cw.corner hr' hs' hu]
  exact cw_congr fun x => bX_dif h8
theorem sgl_pow_all : (List.range 256).all (fun s => s == 0 || (!sgl s || s == 2 ^ tz s)) = true := by kernel_rfl
theorem sgl_pow {s : Nat} (h0 : s ≠ 0) (h8 : s < 256) (h : sgl s = true) : s = 2 ^ tz s := by
  have := List.all_eq_true.1 sgl_pow_all s (List.mem_range.2 h8)
  rw [h] at this
  simpa [h0] using this
theorem map_leaf (l : List Int) : (l.map cI).all (fun e => e.all TL.leaf) = true := by
  rw [List.all_eq_true]
  intro e he
  obtain ⟨x, _, rfl⟩ := List.mem_map.1 he
  rfl
def apR (t : List Nat) (s : Nat) (begun : List Int) : TL := if sgl (coreS t s) then eIs (begun ++ iL (apL t s)) else .v (.slice none 0 0)
theorem apL_ne (t : List Nat) (s : Nat) : ∃ x l, apL t s = x :: l := by
  rw [apL]
  split
  · exact ⟨_, _, rfl⟩
  · exact ⟨_, _, rfl⟩
theorem rapart_spec (g : List Int) (hv : validG g = true) : ∀ (s : Nat) (begun : List Int), s < 2 ^ g.length → s ≠ 0 → begun.length + s ≤ 600 → PCall Tryd.prog 81 [eIs g, eI s, eIs begun] (.t .ro (apR (townOf g) s begun)) []
  | s, begun, hs, hs0, hbl => by
    have hg := valid_isg hv
    obtain ⟨ht, hr, hsy, _⟩ := valid_facts hv
    obtain ⟨_, hl, _⟩ := isg_facts hg
    have ih := fun d (hd : d < s) b h1 h2 h3 => rapart_spec g hv d b h1 h2 h3
    refine pcall_wpT Tryd.func81 rfl (by kernel_rfl) ?_
    have hcor := fun s v hs hv => rcor_spec g hg s v hs hv
    have hlI : (g.length : Int) = (townOf g).length := by omega
    rw [← hl] at hcor hs ih
    have hF : apR (townOf g) s begun = if sgl (coreS (townOf g) s) then eIs (begun ++ iL (apL (townOf g) s)) else .v (.slice none 0 0) := rfl
    have hcf := fun v => sgl_conf ht hr hsy (s := s) (v := v) hs
    have hRd : ∀ d b, apR (townOf g) d b = if sgl (coreS (townOf g) d) then eIs (b ++ iL (apL (townOf g) d)) else .v (.slice none 0 0) := fun _ _ => rfl
    generalize townOf g = t at *
    have h8 := ht.2.1
    have hs8 := sub_lt ht hs
    have h1 : andI (s : Int) (IntKind.i64.wrap ((s : Int) - 1)) = ((s &&& (s - 1) : Nat) : Int) := pop1 s hs8 (by omega)
    have h2 : (((s &&& (s - 1) : Nat) : Int) == 0) = sgl s := by rw [Bool.eq_iff_iff]; simp [sgl]
    have hbd : (begun.length + 1) * 8 ≤ 140737488355328 := by omega
    have hlf := map_leaf begun
    cases hsg : sgl s with
    | true =>
      rw [hsg] at h2
      have hpw := sgl_pow hs0 hs8 hsg
      have hcs : coreS t s = s := by rw [coreS, sgl_none (by omega) hs8 hsg]
      have hap : apL t s = [tz s] := by rw [apL, sgl_none (by omega) hs8 hsg]
      rw [hcs, hsg, if_pos rfl, hap] at hF
      have htn : tz s < t.length := bX_lt hs (nz_bit hs0 hs8)
      generalize tz s = z at *
      simp -dsimp [h1, h2, hlI]
      refine wk_loop (fun i : Nat => ⟨[(17, pI i), (16, pI t.length), (0, .t .ro (eIs g)), (1, .t .ro (eI s)), (2, .t .ro (eIs begun))], []⟩)
        (fun i => i ≤ z) (fun i => t.length - i) 0
        (le_of (by simp) (by simp)) (by omega) fun i hi => ?_
      have hil : i < t.length := by omega
      have hw := wr (n := (i : Int) + 1) (by omega) (by omega)
      have hi0 : (0 : Int) ≤ (i : Int) := by omega
      have hsa := shl1 i (by omega)
      obtain ⟨bi, hbi⟩ : ∃ b, b = 2 ^ i := ⟨_, rfl⟩
      rw [← hbi] at hsa
      simp -dsimp [hil, hi0, hsa]
      by_cases e : i = z
      · subst e
        have hq : ((s : Int) == (bi : Int)) = true := by rw [hbi, ← hpw]; simp
        cases begun with
        | nil =>
          simp -dsimp [hq]
          refine retT_c ?_
          simp -dsimp [hF]
        | cons b bs =>
          have hlen : (0 : Int) ≤ (bs.length : Int) + 1 := by omega
          have htk : List.take bs.length (bs.map cI) = bs.map cI := List.take_of_length_le (by simp)
          have hbd' : (bs.length + 1 + 1) * 8 ≤ 140737488355328 := hbd
          have hlf' := map_leaf bs
          simp -dsimp [hq, hlen, htk, hbd', hlf', TL.leaf]
          refine retT_c ?_
          simp -dsimp [hF]
      · have hq : ((s : Int) == (bi : Int)) = false := by
          have : 2 ^ i < 2 ^ z := Nat.pow_lt_pow_right (by decide) (by omega)
          simp
          omega
        simp -dsimp [hq]
        refine LoopP_next (i + 1) (le_of (by simp [hw]) (by simp)) (by omega) (by omega)
    | false =>
      rw [hsg] at h2
      simp -dsimp [h1, h2, hlI]
      refine wk_loop (fun v : Nat => ⟨[(36, pI v), (35, pI t.length), (0, .t .ro (eIs g)), (1, .t .ro (eI s)), (2, .t .ro (eIs begun))], []⟩)
        (fun v => v ≤ t.length ∧ (sgl (coreS t s) = true → ∀ x, x < v → s.testBit x = true → corF t x s = false)) (fun v => t.length - v) 0
        (le_of (by simp) (by simp)) ⟨by omega, fun _ x hx => by omega⟩ fun v ⟨hvn, hJ⟩ => ?_
      simp -dsimp
      refine condX_dec (fun h => ?_) (fun h => ?_)
      · have hw := wr (n := (v : Int) + 1) (by omega) (by omega)
        have hv0 : (0 : Int) ≤ (v : Int) := by omega
        have hbit := and1 s (by omega) v (by omega)
        have hcr := hcor s v hs8 h
        have hno : (s.testBit v = true → corF t v s = false) → sgl (coreS t s) = true → ∀ x, x < v + 1 → s.testBit x = true → corF t x s = false := by
          intro h1 h2 x hx hb
          rcases Nat.lt_or_ge x v with h5 | h5
          · exact hJ h2 x h5 hb
          · have : x = v := by omega
            subst this
            exact h1 hb
        cases c1 : s.testBit v with
        | false =>
          rw [c1] at hbit
          simp -dsimp [hv0, hbit]
          refine LoopP_next (v + 1) (le_of (by simp [hw]) (by simp)) ⟨h, hno (fun hb => by rw [c1] at hb; cases hb)⟩ (by omega)
        | true =>
          rw [c1] at hbit
          rw [rcor_in ht hs c1] at hcr
          simp -dsimp [hv0, hbit]
          first
            | refine CallG.by (hcr) ?_
            | refine CallGE.by (hcr) ?_
            | refine CallGB.by (hcr) ?_
          cases c2 : corF t v s with
          | false =>
            simp -dsimp
            refine LoopP_next (v + 1) (le_of (by simp [hw]) (by simp)) ⟨h, hno (fun _ => c2)⟩ (by omega)
          | true =>
            have hlt := dif_lt' hs8 c1
            have hd0 := cor_pos hs8 c1 c2
            have hdN := dif_sub ht hs (2 ^ v)
            have hcf := hcf v c1 c2
            have hsa := shl1 v (by omega)
            have hp2 : 2 ^ v < 256 := Nat.lt_of_lt_of_le (Nat.pow_lt_pow_right (by decide) (show v < 8 by omega)) (by decide)
            have han := andnI_nat s (2 ^ v) hs8 hp2
            have hap : sgl (coreS t s) = true → apL t s = v :: apL t (dif s (2 ^ v)) := by
              intro h2
              rw [apL, find_first hs8 (p := fun v => corF t v s) c1 c2 (hJ h2)]
              simp [hlt]
            have hrec := ih (dif s (2 ^ v)) hlt (begun ++ [(v : Int)]) hdN hd0 (by simp; omega)
            rw [hRd] at hrec
            obtain ⟨x0, l0, hx0⟩ := apL_ne t (dif s (2 ^ v))
            generalize dif s (2 ^ v) = d at *
            generalize 2 ^ v = bv at *
            simp -dsimp
            refine wk_draw 14 [12, 13] mixed (by kernel_rfl) ?_
            cases begun with
            | nil =>
              simp -dsimp [hv0, hsa, han]
              cases hsc : sgl (coreS t s) with
              | true =>
                have hap := hap hsc
                rw [hcf, hsc, if_pos rfl] at hrec
                rw [hsc, if_pos rfl, hap, iL_cons] at hF
                simp only [eIs, List.nil_append, List.cons_append, List.append_assoc, List.map_cons, List.map_append, List.map_nil, cI] at hrec hF
                first
                  | refine CallG.frz [63] ?_
                  | refine CallN.frz [63] ?_
                simp -dsimp
                first
                  | refine CallG.by (hrec) ?_
                  | refine CallGE.by (hrec) ?_
                  | refine CallGB.by (hrec) ?_
                simp -dsimp
                refine retT_c ?_
                simp -dsimp [hF]
              | false =>
                rw [hcf, hsc, if_neg (by simp)] at hrec
                simp only [eIs, List.nil_append, List.cons_append, List.append_assoc, List.map_cons, List.map_append, List.map_nil, cI] at hrec
                first
                  | refine CallG.frz [63] ?_
                  | refine CallN.frz [63] ?_
                simp -dsimp
                first
                  | refine CallG.by (hrec) ?_
                  | refine CallGE.by (hrec) ?_
                  | refine CallGB.by (hrec) ?_
                simp -dsimp
                refine LoopP_next (v + 1) (le_of (by simp [hw]) (by simp)) ⟨h, fun h2 => ?_⟩ (by omega)
                cases h2
            | cons b bs =>
              have hlen : (0 : Int) ≤ (bs.length : Int) + 1 := by omega
              have htk : List.take bs.length (bs.map cI) = bs.map cI := List.take_of_length_le (by simp)
              have hbd' : (bs.length + 1 + 1) * 8 ≤ 140737488355328 := hbd
              have hlf' := map_leaf bs
              simp -dsimp [hv0, hsa, han, hlen, htk, hbd', hlf', TL.leaf]
              cases hsc : sgl (coreS t s) with
              | true =>
                have hap := hap hsc
                rw [hcf, hsc, if_pos rfl] at hrec
                rw [hsc, if_pos rfl, hap, iL_cons] at hF
                simp only [eIs, List.nil_append, List.cons_append, List.append_assoc, List.map_cons, List.map_append, List.map_nil, cI] at hrec hF
                first
                  | refine CallG.frz [63] ?_
                  | refine CallN.frz [63] ?_
                simp -dsimp
                first
                  | refine CallG.by (hrec) ?_
                  | refine CallGE.by (hrec) ?_
                  | refine CallGB.by (hrec) ?_
                simp -dsimp
                refine retT_c ?_
                simp -dsimp [hF]
              | false =>
                rw [hcf, hsc, if_neg (by simp)] at hrec
                simp only [eIs, List.nil_append, List.cons_append, List.append_assoc, List.map_cons, List.map_append, List.map_nil, cI] at hrec
                first
                  | refine CallG.frz [63] ?_
                  | refine CallN.frz [63] ?_
                simp -dsimp
                first
                  | refine CallG.by (hrec) ?_
                  | refine CallGE.by (hrec) ?_
                  | refine CallGB.by (hrec) ?_
                simp -dsimp
                refine LoopP_next (v + 1) (le_of (by simp [hw]) (by simp)) ⟨h, fun h2 => ?_⟩ (by omega)
                cases h2
      · have hv' : v = t.length := by omega
        subst hv'
        have hnc : sgl (coreS t s) = false := by
          cases h2 : sgl (coreS t s) with
          | false => rfl
          | true =>
            have hf := find_none hs hs8 (p := fun v => corF t v s) (hJ h2)
            rw [coreS, hf] at h2
            simp only at h2
            rw [hsg] at h2
            cases h2
        rw [hnc, if_neg (by simp)] at hF
        simp -dsimp
        refine retT_c ?_
        simp -dsimp [hF]
termination_by s => s
/-- An argument that says more. -/
theorem pcall_args {P : Program} {f : Nat} {args args' : List TL} {r : PV} {Mr : List (Nat × Res)} (h : PCall P f args r Mr) (hl : args'.length = args.length)
    (ha : ∀ (w : World) (S : Nat → Prop) (i : Nat) (x : TL) (v : Value), args[i]? = some x → (∀ y, args'[i]? = some y → TRep w S y v) → TRep w S x v) : PCall P f args' r Mr := by
  refine ⟨h.1, fun w S vals hG hS hv hr => h.2 w S vals hG hS (by omega) fun i x hx => ha w S i x _ hx fun y hy => hr i y hy⟩
def rapF (g : List Int) : TL := if sgl (coreS (townOf g) (2 ^ g.length - 1)) then .tup [eNs (apL (townOf g) (2 ^ g.length - 1)), eI 0] else .tup [.v (.slice none 0 0), eI 5]
theorem rapartP_spec (g : List Int) (hv : validG g = true) : PCall Tryd.prog 45 [eIs g] (.t .ro (rapF g)) [] := by
  have hg := valid_isg hv
  obtain ⟨ht, hl, _⟩ := isg_facts hg
  refine pcall_wpT Tryd.func45 rfl (by kernel_rfl) ?_
  have hp : 2 ≤ 2 ^ g.length := by rw [← hl]; exact Nat.pow_le_pow_right (n := 2) (by decide) ht.1
  have hN8 : 2 ^ g.length ≤ 2 ^ 8 := Nat.pow_le_pow_right (by decide) (by have := ht.2.1; omega)
  have h0 := rapart_spec g hv (2 ^ g.length - 1) [] (by omega) (by omega) (by simp; omega)
  have h1 : PCall Tryd.prog 81 [eIs g, eI (2 ^ g.length - 1 : Nat), .v (.slice none 0 0)] (.t .ro (apR (townOf g) (2 ^ g.length - 1) [])) [] := by
    refine pcall_args h0 rfl fun w S i x v hx hy => ?_
    match i, hx with
    | 0, hx => exact hy x hx
    | 1, hx => exact hy x hx
    | 2, hx =>
      simp only [eIs, List.getElem?_cons_succ, List.getElem?_cons_zero, Option.some.injEq] at hx
      subst hx
      exact nil_any' w S v (hy _ rfl)
    | i + 3, hx => simp at hx
  clear h0
  have hF : rapF g = if sgl (coreS (townOf g) (2 ^ g.length - 1)) then .tup [eNs (apL (townOf g) (2 ^ g.length - 1)), eI 0] else .tup [.v (.slice none 0 0), eI 5] := rfl
  have hR : apR (townOf g) (2 ^ g.length - 1) [] = if sgl (coreS (townOf g) (2 ^ g.length - 1)) then eNs (apL (townOf g) (2 ^ g.length - 1)) else .v (.slice none 0 0) := rfl
  rw [hR] at h1
  clear hR
  obtain ⟨x0, l0, hx0⟩ := apL_ne (townOf g) (2 ^ g.length - 1)
  rw [hx0] at h1 hF
  have hsh := shl1 g.length (by have := ht.2.1; omega)
  generalize sgl (coreS (townOf g) (2 ^ g.length - 1)) = b at *
  generalize 2 ^ g.length = N at *
  have hwN := wr (n := (N : Int) - 1) (by omega) (by omega)
  have he : (N : Int) - 1 = ((N - 1 : Nat) : Int) := by omega
  rw [he] at hwN
  cases b with
  | true =>
    rw [if_pos rfl] at h1 hF
    simp -dsimp [hsh, he, hwN]
    first
      | refine CallG.by (h1) ?_
      | refine CallGE.by (h1) ?_
      | refine CallGB.by (h1) ?_
    simp -dsimp
    refine retT_c ?_
    simp -dsimp [hF]
  | false =>
    rw [if_neg (by simp)] at h1 hF
    simp -dsimp [hsh, he, hwN]
    first
      | refine CallG.by (h1) ?_
      | refine CallGE.by (h1) ?_
      | refine CallGB.by (h1) ?_
    simp -dsimp
    refine retT_c ?_
    simp -dsimp [hF]
end Go.Proofs.YtgcncgocdfioiaaDoor
