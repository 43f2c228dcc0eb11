import Derived.Test.YtgcncgocdfioiaaDoorCL9
/- CL10: the law of ChaseNames. -/
set_option linter.unusedVariables false
set_option linter.unusedSimpArgs false
set_option maxRecDepth 20000
namespace Go.Proofs.YtgcncgocdfioiaaDoor
open Go Go.PS
attribute [-simp] isKeyK List.map_take
def isP (p x : Pr) : Bool := ((p.1 : Int) == x.1) && ((p.2 : Int) == x.2)
theorem isP_iff {p x : Pr} : isP p x = true ↔ x = p := by
  simp only [isP, Bool.and_eq_true, beq_iff_eq]
  constructor
  · rintro ⟨h1, h2⟩
    exact Prod.ext (by omega) (by omega)
  · rintro rfl
    exact ⟨rfl, rfl⟩
theorem idx75_spec (l : List Pr) (p : Pr) : PCall Tryd.prog 75 [ePrs l, .agg (cPr p)] (pI (idxP (isP p) l 0)) [] := by
  refine pcall_sl 0 rfl call75 fun hlen => ?_
  simp only [List.length_map] at hlen
  obtain ⟨a, b⟩ := p
  refine pcall_wp _ Tryd.func75 rfl (by kernel_rfl) rfl ?_
  simp -dsimp
  refine wk_loop (fun i : Nat => ⟨[(8, pI i), (7, pI l.length), (0, .t .ro (ePrs l)), (3, .ptr 3 0)], [(3, .blk 30 [.t .ro (eI a), .t .ro (eI b)])]⟩) (fun i => i ≤ l.length ∧ idxP (isP (a, b)) l 0 = idxP (isP (a, b)) (l.drop i) i) (fun i => l.length - i) 0
    (le_of (by simp) (by simp)) (by simp) fun i ⟨hi, hidx⟩ => ?_
  simp -dsimp
  refine condX_dec (fun h => ?_) (fun h => ?_)
  · have hs := idxP_drop (isP (a, b)) l i h
    have hw := wr (n := (i : Int) + 1) (by omega) (by omega)
    have hil : (i : Int) < l.length := by omega
    have hq := gP (l := l) h
    have hgd : l[i] = l.getD i (0, 0) := by simp [List.getD_eq_getElem?_getD, h]
    rw [hgd] at hs
    generalize l.getD i (0, 0) = x at hs hq
    obtain ⟨x1, x2⟩ := x
    have hp : isP (a, b) (x1, x2) = (((a : Int) == x1) && ((b : Int) == x2)) := rfl
    simp -dsimp
    refine wk_draw 5 [] mixed (by kernel_rfl) ?_
    cases c1 : ((a : Int) == x1)
    · rw [c1] at hp
      rw [hp, Bool.false_and] at hs
      simp -dsimp [hil, hq, c1]
      refine LoopP_next (i + 1) (le_of (by simp [hw]) (by simp)) ⟨h, ?_⟩ (by omega)
      rw [hidx, hs]
      rfl
    · cases c2 : ((b : Int) == x2)
      · rw [c1, c2] at hp
        rw [hp] at hs
        simp -dsimp [hil, hq, c1, c2]
        refine LoopP_next (i + 1) (le_of (by simp [hw]) (by simp)) ⟨h, ?_⟩ (by omega)
        rw [hidx, hs]
        rfl
      · rw [c1, c2] at hp
        rw [hp] at hs
        simp -dsimp [hil, hq, c1, c2]
        refine retP_c ?_
        simp -dsimp
        rw [hidx, hs]
        rfl
  · have : i = l.length := by omega
    simp -dsimp
    refine retP_c ?_
    simp -dsimp [hidx, this, idxP]
theorem has41_spec (l : List Pr) (p : Pr) (hp : p ∈ l) : PCall Tryd.prog 41 [ePrs l, .agg (cPr p)] (pB true) [] := by
  have h := idx75_spec l p
  have ha := idxP_any (isP p) l 0
  have : l.any (isP p) = true := List.any_eq_true.2 ⟨p, hp, isP_iff.2 rfl⟩
  rw [this, decide_eq_true_iff] at ha
  obtain ⟨a, b⟩ := p
  refine pcall_wp _ Tryd.func41 rfl (by kernel_rfl) rfl ?_
  generalize idxP (isP (a, b)) l 0 = i at *
  simp -dsimp
  first
    | refine CallG.by (h) ?_
    | refine CallGE.by (h) ?_
    | refine CallGB.by (h) ?_
  simp -dsimp [ha]
  refine retP_c ?_
  simp -dsimp [ha]
theorem shl0 (n : Nat) : shlI 0 n = 0 := by
  rw [shlI, Int.zero_mul]
  decide
set_option maxHeartbeats 1000000 in
theorem names_true (g : List Int) (by0 : Int) : PCall Tryd.prog 11 [eIs g, eI by0] (pB true) [] := by
  refine pcall_sl 0 rfl call11 fun hlen => ?_
  simp only [List.length_map] at hlen
  refine pcall_wp _ Tryd.func11 rfl (by kernel_rfl) rfl ?_
  have hf := few_spec g
  have ha := awake_spec
  have hvs := valid_spec g
  obtain ⟨t1, t2⟩ := take_valid g
  cases hv : validG g with
  | false =>
    rw [hv] at hvs
    simp -dsimp
    first
      | refine CallG.by (hvs) ?_
      | refine CallGE.by (hvs) ?_
      | refine CallGB.by (hvs) ?_
    simp -dsimp
    first
      | refine CallG.by (ha) ?_
      | refine CallGE.by (ha) ?_
      | refine CallGB.by (ha) ?_
    simp -dsimp
    refine retP_c ?_
    simp -dsimp
  | true =>
    rw [hv] at hvs
    rw [t2 hv] at hf
    have hg := valid_isg hv
    obtain ⟨ht, hl, hrow⟩ := isg_facts hg
    have h8 := (valid_at hv).2.1
    have h1n := (valid_at hv).1
    have hN8 : 2 ^ g.length ≤ 2 ^ 8 := Nat.pow_le_pow_right (by decide) h8
    obtain ⟨by', hby, hb⟩ := toF_nat' (n := g.length) (by omega) (by omega) by0
    have hsame := names_ok hv hb
    have hrset := fun {i j} hi hj => rowsL_set (i := i) (j := j) hb hi hj
    have hrz := rowsL_zero g by'
    have hnm : namesL g by' = rowsL g by' g.length 0 := rfl
    have hrl : ∀ i j, (rowsL g by' i j).length = g.length := fun i j => by simp [rowsL]
    have hcond : ¬ IntKind.u64.wrap (g.length : Int) = 0 := by
      rw [IntKind.wrap_u64]
      omega
    have hz : ¬ g = [] := fun e => by rw [e] at h1n; simp at h1n
    have hn0 : (0 : Int) ≤ g.length := by omega
    have hcap : (g.length : Int) ≤ 140737488355328 := by omega
    have hcap2 : 8 * (g.length : Int) ≤ 281474976710656 := by omega
    have hrot : ∀ x : Nat, x < g.length → IntKind.i64.wrap ((x : Int) + by') = (x : Int) + by' := fun x hx => wr (by omega) (by omega)
    have hmod : ∀ x : Nat, Int.tmod ((x : Int) + by') (g.length : Int) = ((rotN g.length by' x : Nat) : Int) := fun x => by
      rw [show (x : Int) + by' = ((x + by' : Nat) : Int) by omega]
      rfl
    simp -dsimp
    first
      | refine CallG.by (hvs) ?_
      | refine CallGE.by (hvs) ?_
      | refine CallGB.by (hvs) ?_
    simp -dsimp [hcond, hby]
    simp -dsimp [hn0, hcap, hcap2]
    refine wk_loop (fun i : Nat => ⟨[(41, pI i), (40, pI g.length), (39, .t .ro (eIs g)), (6, .osl 38), (1, pI by'), (5, pI g.length), (0, .t .ro (eIs g))], [(38, .row 3 1 .fz ((iL (rowsL g by' i 0)).map cI))]⟩)
      (fun i => i ≤ g.length) (fun i => g.length - i) 0
      (le_of (by simp) (by rw [hrz]; simp [iL])) (by simp) fun i hi => ?_
    simp -dsimp
    refine condX_dec (fun h => ?_) (fun h => ?_)
    · have hw := wr (n := (i : Int) + 1) (by omega) (by omega)
      have hil : (i : Int) < g.length := by omega
      have hx := at_ (l := g) h
      obtain ⟨m, hm, hmlt, _⟩ := hrow i h
      rw [hm] at hx
      have hrs := fun j hj => hrset (i := i) (j := j) h hj
      have hnx := rowsL_next (g := g) (by' := by') (i := i)
      have hsi := rotN_lt (n := g.length) (by' := by') (x := i) (by omega)
      have hri := hrot i h
      have hmi := hmod i
      rw [hm, Int.toNat_natCast] at hrs
      generalize hsg : rotN g.length by' i = si at *
      simp -dsimp [hil, hx]
      refine wk_loop (fun j : Nat => ⟨[(7, pI i), (8, .t .ro (eI m)), (47, pI j), (46, pI g.length), (41, pI i), (40, pI g.length), (39, .t .ro (eIs g)), (6, .osl 38), (1, pI by'), (5, pI g.length), (0, .t .ro (eIs g))], [(38, .row 3 1 .fz ((iL (rowsL g by' i j)).map cI))]⟩)
        (fun j => j ≤ g.length) (fun j => g.length - j) 0
        (le_of (by simp) (by simp)) (by omega) fun j hj => ?_
      simp -dsimp
      refine condX_dec (fun h' => ?_) (fun h' => ?_)
      · have hwj := wr (n := (j : Int) + 1) (by omega) (by omega)
        obtain ⟨hg1, hg2⟩ := hrs j h'
        have hj0 : (0 : Int) ≤ (j : Int) := by omega
        have hbit := and1 m (by omega) j (by omega)
        have hsj := rotN_lt (n := g.length) (by' := by') (x := j) (by omega)
        have hrj := hrot j h'
        have hmj := hmod j
        have hR : rotM g.length by' m (j + 1) = rotM g.length by' m j ||| if m.testBit j then 2 ^ rotN g.length by' j else 0 := rfl
        have hRl := rotM_lt (n := g.length) (by' := by') (m := m) (by omega) j
        have hRl2 := rotM_lt (n := g.length) (by' := by') (m := m) (by omega) (j + 1)
        have hlr := hrl i j
        generalize hsj2 : rotN g.length by' j = sj at *
        have hsa := shl1 sj (by omega)
        have hp2 : 2 ^ sj < 256 := Nat.lt_of_lt_of_le (Nat.pow_lt_pow_right (by decide) (show sj < 8 by omega)) (by decide)
        have hsj0 : (0 : Int) ≤ (sj : Int) := by omega
        have hsiI : (si : Int) < g.length := by omega
        generalize rotM g.length by' m j = R0 at *
        generalize rotM g.length by' m (j + 1) = R1 at *
        have hget : (iL (rowsL g by' i j))[si]? = some (R0 : Int) := by
          rw [iL_at (by omega), hg1]
        have hgl : (iL (rowsL g by' i j)).length = g.length := by simp [hlr]
        have hset : (iL (rowsL g by' i j)).set si (R1 : Int) = iL (rowsL g by' i (j + 1)) := by
          rw [← hg2]
          simp only [iL, List.map_set]
        simp -dsimp
        refine wk_draw 18 [] mixed (by kernel_rfl) ?_
        have hgetE : ∀ h, (iL (rowsL g by' i j))[si]'h = (R0 : Int) := fun h => by
          have := List.getElem?_eq_some_iff.1 hget
          exact this.2
        have hsetM : ((iL (rowsL g by' i j)).map cI).set si [eI (R1 : Int)] = (iL (rowsL g by' i (j + 1))).map cI := by
          rw [← hset, List.map_set]
          rfl
        cases hb2 : m.testBit j with
        | false =>
          rw [hb2] at hbit hR
          rw [if_neg (by simp)] at hR
          have ho : orI (R0 : Int) 0 = (R1 : Int) := by
            have := orI_nat R0 0 (by omega) (by omega)
            rw [hR, ← this]
            rfl
          have hsh0 := shl0 sj
          have hw0 : IntKind.i64.wrap 0 = 0 := by decide
          simp -dsimp [hri, hmi, hz, hgl, hlr, hsi, hsiI, hgetE, hrj, hmj, hsj0, hj0, hbit, hsh0, ho, hw0]
          refine LoopP_next (j + 1) (le_of (by simp [hwj]) (by simp [← hsetM])) h' (by omega)
        | true =>
          rw [hb2, if_pos rfl] at hR
          rw [hb2] at hbit
          have ho := orI_nat R0 (2 ^ sj) (by omega) (by omega)
          rw [← hR] at ho
          generalize 2 ^ sj = bs at *
          simp -dsimp [hri, hmi, hz, hgl, hlr, hsi, hsiI, hgetE, hrj, hmj, hsj0, hj0, hbit, hsa, ho]
          refine LoopP_next (j + 1) (le_of (by simp [hwj]) (by simp [← hsetM])) h' (by omega)
      · have hj' : j = g.length := by omega
        rw [hj', hnx]
        simp -dsimp
        refine LoopP_next (i + 1) (le_of (by simp [hw]) (by simp)) h (by omega)
    · have hi' : i = g.length := by omega
      rw [hi', ← hnm]
      simp -dsimp
      refine lg_frz [38] ?_
      obtain ⟨h, hh⟩ : ∃ h, h = iL (namesL g by') := ⟨_, rfl⟩
      rw [← hh] at hsame
      have hhl := hsame.len
      have hcln := clone23_spec h (by omega)
      have hvh := hsame.valid
      have hkk : ∀ k : Int, (k = 1 ∨ k = 2) → ∃ x e : Int, roundsF g k = .tup [eI x, eI e] ∧ roundsF h k = .tup [eI x, eI e] := fun k hk => by
        have hko : ((k == 1) || (k == 2)) = true := by simpa using hk
        rw [hsame.rounds hv hb hko, rounds_ok (by rw [okG, hv, hko]; rfl)]
        split
        · exact ⟨_, _, rfl, rfl⟩
        · exact ⟨_, _, rfl, rfl⟩
      have hr1 := fun k => rounds_spec g k
      have hr2 := fun k => rounds_spec h k
      have hco1 := coreP_spec g
      have hco2 := coreP_spec h
      rw [coreF, hv, if_pos rfl] at hco1
      rw [coreF, hvh, if_pos rfl] at hco2
      obtain ⟨R1, R2⟩ := hsame.ret hb
      have hce := Nat.le_antisymm (core_le hv hvh R1) (core_le hvh hv R2)
      have hlt : ∀ {f : List Int}, validG f = true → coreS (townOf f) (2 ^ f.length - 1) < 256 := fun {f} hf => by
        obtain ⟨ht, hr, hs, _⟩ := valid_facts hf
        have hp : 2 ≤ 2 ^ (townOf f).length := Nat.pow_le_pow_right (n := 2) (by decide) ht.1
        have := (core_ok ht hr hs (2 ^ (townOf f).length - 1) (by omega) (by omega)).1.lt
        rw [town_len f] at this
        exact sub_lt ht (by rw [town_len f]; exact this)
      have hsz1 := size_spec _ (hlt hv)
      have hsz2 := size_spec _ (hlt hvh)
      rw [← hce] at hsz2
      obtain ⟨hcl, hcm⟩ := hsame.cors hv hb
      have hcor : ∀ {f : List Int}, validG f = true → PCall Tryd.prog 21 [eIs f, eI (2 ^ f.length - 1 : Nat)] (.t .fz (.tup [ePrs (corL (townOf f) (2 ^ f.length - 1)), eI 0])) [] := fun {f} hf => by
        have h1 := corners_spec f (2 ^ f.length - 1 : Nat)
        have hp : 0 < 2 ^ f.length := Nat.pow_pos (by decide)
        have ho : cornersOk f (2 ^ f.length - 1 : Nat) = true := by rw [cornersOk, hf, Bool.true_and, decide_eq_true_eq]; omega
        rw [cornersF, ho, if_pos rfl, Int.toNat_natCast] at h1
        exact h1
      have hc1 := hcor hv
      have hc2 := hcor hvh
      have hcb : ∀ q ∈ corL (townOf g) (2 ^ g.length - 1), q.1 < g.length ∧ q.2 < g.length := fun q hq => by
        have := corL_cov hv hq
        have h1 := this.2.1
        have h2 := this.2.2.1
        simp only [vT, hl] at h1 h2
        exact ⟨h2, h1⟩
      have hCl : (corL (townOf g) (2 ^ g.length - 1)).length ≤ 100000 := by
        have h3 := pairsTo_len (bitsL (2 ^ g.length - 1)) (bitsL (2 ^ g.length - 1)) (fun v u => covF (townOf g) u v (2 ^ g.length - 1)) (bitsL (2 ^ g.length - 1)).length 0
        rw [pairsTo_all] at h3
        have h4 := bits_len (2 ^ g.length - 1)
        have h5 : (bitsL (2 ^ g.length - 1)).length * (bitsL (2 ^ g.length - 1)).length ≤ 8 * 8 := Nat.mul_le_mul h4 h4
        rw [corL]
        omega
      rw [hhl] at hc2 hcl hcm hco2 hsz2
      have hsh := shl1 g.length (by omega)
      have hp : 0 < 2 ^ g.length := Nat.pow_pos (by decide)
      generalize corL (townOf g) (2 ^ g.length - 1) = C1 at *
      generalize corL (townOf h) (2 ^ g.length - 1) = C2 at *
      generalize coreS (townOf g) (2 ^ g.length - 1) = k1 at *
      generalize coreS (townOf h) (2 ^ g.length - 1) = k2 at *
      generalize (bitsL k1).length = sz at *
      generalize 2 ^ g.length = N at *
      have hwN := wr (n := (N : Int) - 1) (by omega) (by omega)
      have heN : (N : Int) - 1 = ((N - 1 : Nat) : Int) := by omega
      rw [heN] at hwN
      refine wk_loop (fun i : Nat => ⟨[(10, pI i), (6, .t .fz (eIs h)), (1, pI by'), (5, pI g.length), (0, .t .ro (eIs g))], []⟩)
        (fun i => 1 ≤ i ∧ i ≤ 3) (fun i => 3 - i) 1
        (le_of (by simp [hh]) (by simp)) (by omega) fun i ⟨hi1, hi⟩ => ?_
      simp -dsimp
      by_cases hi3 : (i : Int) ≤ 2
      · have hwi := wr (n := (i : Int) + 1) (by omega) (by omega)
        obtain ⟨x, e, e1, e2⟩ := hkk i (by omega)
        have hr1 := hr1 i
        have hr2 := hr2 i
        rw [e1] at hr1
        rw [e2] at hr2
        have hee : (e != e) = false := by simp
        have hxx : (x != x) = false := by simp
        simp -dsimp [hi3]
        first
          | refine CallG.by (hf) ?_
          | refine CallGE.by (hf) ?_
          | refine CallGB.by (hf) ?_
        simp -dsimp
        first
          | refine CallG.by (hr1) ?_
          | refine CallGE.by (hr1) ?_
          | refine CallGB.by (hr1) ?_
        simp -dsimp
        first
          | refine CallG.by (hcln) ?_
          | refine CallGE.by (hcln) ?_
          | refine CallGB.by (hcln) ?_
        simp -dsimp
        first
          | refine CallG.by (hr2) ?_
          | refine CallGE.by (hr2) ?_
          | refine CallGB.by (hr2) ?_
        simp -dsimp [hee, hxx]
        refine LoopP_next (i + 1) (le_of (by simp [hwi]) (by simp)) (by omega) (by omega)
      · have hss : ((sz : Int) != (sz : Int)) = false := by simp
        have hll : ((C1.length : Int) != (C2.length : Int)) = false := by rw [hcl]; simp
        simp -dsimp [hi3]
        first
          | refine CallG.by (hf) ?_
          | refine CallGE.by (hf) ?_
          | refine CallGB.by (hf) ?_
        simp -dsimp
        first
          | refine CallG.by (hco1) ?_
          | refine CallGE.by (hco1) ?_
          | refine CallGB.by (hco1) ?_
        simp -dsimp
        first
          | refine CallG.by (hcln) ?_
          | refine CallGE.by (hcln) ?_
          | refine CallGB.by (hcln) ?_
        simp -dsimp
        first
          | refine CallG.by (hco2) ?_
          | refine CallGE.by (hco2) ?_
          | refine CallGB.by (hco2) ?_
        simp -dsimp
        refine wk_draw 10 [5] mixed (by kernel_rfl) ?_
        simp -dsimp
        first
          | refine CallG.by (hf) ?_
          | refine CallGE.by (hf) ?_
          | refine CallGB.by (hf) ?_
        simp -dsimp [hsh, heN, hwN]
        first
          | refine CallG.by (hc1) ?_
          | refine CallGE.by (hc1) ?_
          | refine CallGB.by (hc1) ?_
        simp -dsimp
        refine wk_draw 10 [5] mixed (by kernel_rfl) ?_
        simp -dsimp
        first
          | refine CallG.by (hcln) ?_
          | refine CallGE.by (hcln) ?_
          | refine CallGB.by (hcln) ?_
        simp -dsimp [hsh, heN, hwN]
        first
          | refine CallG.by (hc2) ?_
          | refine CallGE.by (hc2) ?_
          | refine CallGB.by (hc2) ?_
        simp -dsimp
        first
          | refine CallG.by (hsz1) ?_
          | refine CallGE.by (hsz1) ?_
          | refine CallGB.by (hsz1) ?_
        simp -dsimp
        first
          | refine CallG.by (hsz2) ?_
          | refine CallGE.by (hsz2) ?_
          | refine CallGB.by (hsz2) ?_
        simp -dsimp [hss, hll]
        refine wk_loop (fun i : Nat => ⟨[(158, pI i), (157, pI C1.length), (156, .t .fz (ePrs C1)), (21, .t .fz (ePrs C2)), (1, pI by'), (5, pI g.length)], []⟩)
          (fun i => i ≤ C1.length) (fun i => C1.length - i) 0
          (le_of (by simp) (by simp)) (by omega) fun i hi => ?_
        simp -dsimp
        refine condX_dec (fun h' => ?_) (fun h' => ?_)
        · have hw := wr (n := (i : Int) + 1) (by omega) (by omega)
          have hil : (i : Int) < C1.length := by omega
          have hq := gP (l := C1) h'
          have hqm : C1.getD i (0, 0) ∈ C1 := mem_gPr h'
          generalize C1.getD i (0, 0) = q at hq hqm
          obtain ⟨b1, b2⟩ := hcb q hqm
          have hin := has41_spec C2 _ (hcm q hqm)
          have m1 := hmod q.1
          have m2 := hmod q.2
          have r1 := hrot q.1 b1
          have r2 := hrot q.2 b2
          generalize rotN g.length by' q.1 = s1 at *
          generalize rotN g.length by' q.2 = s2 at *
          simp -dsimp [hil, hq]
          refine wk_draw 14 [] mixed (by kernel_rfl) ?_
          simp -dsimp [r1, m1, r2, m2, hz]
          first
            | refine CallG.by (hin) ?_
            | refine CallGE.by (hin) ?_
            | refine CallGB.by (hin) ?_
          simp -dsimp
          refine LoopP_next (i + 1) (le_of (by simp [hw]) (by simp)) h' (by omega)
        · simp -dsimp
          first
            | refine CallG.by (ha) ?_
            | refine CallGE.by (ha) ?_
            | refine CallGB.by (ha) ?_
          simp -dsimp
          refine retP_c ?_
          simp -dsimp
end Go.Proofs.YtgcncgocdfioiaaDoor
