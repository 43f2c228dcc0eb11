import Derived.Test.YtfcbmcmkakceaaaDoorLB20
import Derived.Test.YtfcbmcmkakceaaaDoorLR6
import Derived.Test.YtfcbmcmkakceaaaDoorLWA
/- LL2: the laws of LikeMaps, LikeUnions, LikeTrees. -/
set_option linter.unusedVariables false
set_option linter.unusedSimpArgs false
set_option maxRecDepth 20000
namespace Go.Proofs.YtfcbmcmkakceaaaDoor
open Go Go.PS
attribute [-simp] isKeyK List.map_take
theorem maps_true (t g : List Int) : PCall Tryd.prog 6 [eIs t, eIs g] (pB true) [] := by
  refine pcall_wp _ Tryd.func6 rfl (by kernel_rfl) rfl ?_
  have hf := few_spec t
  have hf' := few_spec g
  have hm := maps_spec (t.take 10) (g.take 10)
  have htw := two_spec t g
  have haw := awake_spec
  obtain ⟨t1, t2⟩ := take_isg t
  obtain ⟨t1', t2'⟩ := take_isg g
  rw [mapsF, t1, t1'] at hm
  cases hb : isgB t && isgB g with
  | false =>
    rw [hb] at hm htw
    simp only [Bool.false_eq_true, if_false] at hm
    simp -dsimp
    first
      | refine CallG.by (hf) ?_
      | refine CallGE.by (hf) ?_
      | refine CallGB.by (hf) ?_
    simp -dsimp
    first
      | refine CallG.by (hf') ?_
      | refine CallGE.by (hf') ?_
      | refine CallGB.by (hf') ?_
    simp -dsimp
    first
      | refine CallG.by (hm) ?_
      | refine CallGE.by (hm) ?_
      | refine CallGB.by (hm) ?_
    simp -dsimp
    first
      | refine CallG.by (htw) ?_
      | refine CallGE.by (htw) ?_
      | refine CallGB.by (htw) ?_
    simp -dsimp
    first
      | refine CallG.by (haw) ?_
      | refine CallGE.by (haw) ?_
      | refine CallGB.by (haw) ?_
    simp -dsimp
    refine retP_c ?_
    simp -dsimp
  | true =>
    rw [hb] at hm htw
    rw [Bool.and_eq_true] at hb
    rw [t2 hb.1, t2' hb.2] at hm
    rw [t2 hb.1] at hf
    rw [t2' hb.2] at hf'
    simp only [if_true] at hm
    have hr := rMaps_spec t g hb.1 hb.2
    generalize mapsN (townOf t) (townOf g) t.length [] = m at *
    have hmm : ((m : Int) == (m : Int)) = true := by simp
    simp -dsimp
    first
      | refine CallG.by (hf) ?_
      | refine CallGE.by (hf) ?_
      | refine CallGB.by (hf) ?_
    simp -dsimp
    first
      | refine CallG.by (hf') ?_
      | refine CallGE.by (hf') ?_
      | refine CallGB.by (hf') ?_
    simp -dsimp
    first
      | refine CallG.by (hm) ?_
      | refine CallGE.by (hm) ?_
      | refine CallGB.by (hm) ?_
    simp -dsimp
    first
      | refine CallG.by (htw) ?_
      | refine CallGE.by (htw) ?_
      | refine CallGB.by (htw) ?_
    simp -dsimp
    first
      | refine CallG.by (hr) ?_
      | refine CallGE.by (hr) ?_
      | refine CallGB.by (hr) ?_
    simp -dsimp [hmm]
    first
      | refine CallG.by (haw) ?_
      | refine CallGE.by (haw) ?_
      | refine CallGB.by (haw) ?_
    simp -dsimp
    refine retP_c ?_
    simp -dsimp
theorem tow_isg {t : List Nat} (ht : Tow 6 t) : isgB (iL t) = true ∧ townOf (iL t) = t := by
  have hp := ht.pos
  have hl := ht.le
  have h64 : 2 ^ t.length ≤ 2 ^ 6 := Nat.pow_le_pow_right (by decide) hl
  have hget : ∀ i, i < t.length → (iL t).getD i 0 = ((t.getD i 0 : Nat) : Int) := fun i hi => by
    simp [iL, List.getD_eq_getElem?_getD, hi]
  constructor
  · rw [isgB, decide_eq_true (by simp; omega), Bool.true_and, graphB, List.all_eq_true]
    intro i hi
    have hi := List.mem_range.1 hi
    rw [iL_length] at hi
    have h1 := ht.get i
    rw [rowB, Bool.and_eq_true, List.all_eq_true]
    constructor
    · rw [rowA, hget i hi, iL_length, and1_bit _ i (by omega) (by omega), ht.irr i hi]
      have a1 : ¬ ((t.getD i 0 : Nat) : Int) < 0 := by omega
      have a2 : ¬ ((2 ^ t.length : Nat) : Int) ≤ ((t.getD i 0 : Nat) : Int) := by omega
      rw [decide_eq_false a1, decide_eq_false a2]
      rfl
    · intro j hj
      have hj := List.mem_range.1 hj
      rw [iL_length] at hj
      have h2 := ht.get j
      rw [cellB, hget i hi, hget j hj, and1_bit _ j (by omega) (by omega), and1_bit _ i (by omega) (by omega), ht.sym i j hi hj]
      simp
  · unfold townOf iL
    rw [List.map_map]
    have : (Int.toNat ∘ fun (x : Nat) => (x : Int)) = id := funext fun x => by simp
    rw [this, List.map_id]
theorem clone32_row (xs : List Int) (hb : xs.length * 8 ≤ 140737488355328) : PCall Tryd.prog 32 [eIs xs] (.osl 0) [(0, .row 3 1 .ro (xs.map cI))] := by
  refine pcall_any 0 rfl call32 (fun h => ?_) ?_
  · simp at h
    subst h
    refine pcall_nilrow (k := .fz) ?_
    refine pcall_wp _ Tryd.func32 rfl (by kernel_rfl) rfl ?_
    simp -dsimp
    refine retP_c ?_
    simp -dsimp
  · refine pcall_wp _ Tryd.func32 rfl (by kernel_rfl) rfl ?_
    simp -dsimp [hb]
    exact retP_own 5 (by simp; rfl) (by simp) (by simp) (by simp) (by simp)
theorem clone32_fz (xs : List Int) (hb : xs.length * 8 ≤ 140737488355328) : PCall Tryd.prog 32 [eIs xs] (.t .fz (eIs xs)) [] :=
  pcall_fzrow (clone32_row xs hb) (cI_flat xs)
theorem few_row (xs : List Int) (h : xs.length ≤ 10) : PCall Tryd.prog 17 [eIs xs] (.osl 0) [(0, .row 3 1 .ro (xs.map cI))] := by
  refine pcall_wp _ Tryd.func17 rfl (by kernel_rfl) rfl ?_
  have hm : (if 10 < (xs.length : Int) then (10 : Int) else (xs.length : Int)) = (xs.length : Int) := by
    split <;> omega
  have h2 : (0 : Int) ≤ (xs.length : Int) := by omega
  have ht : List.take xs.length (List.map cI xs) = List.map cI xs := List.take_of_length_le (by simp)
  simp -dsimp [hm, h2, ht]
  first
    | refine CallG.by (clone32_row xs (by omega)) ?_
    | refine CallGE.by (clone32_row xs (by omega)) ?_
    | refine CallGB.by (clone32_row xs (by omega)) ?_
  simp -dsimp
  exact retP_own 8 (by simp; rfl) (by simp) (by simp) (by simp) (by simp)
theorem unions_law (s t g : List Int) : PCall Tryd.prog 8 [eIs s, eIs t, eIs g] (pB true) [] := by
  refine pcall_sl 0 rfl call8 fun hl0 => ?_
  refine pcall_sl 1 rfl call8 fun hl1 => ?_
  simp only [List.length_map] at hl0 hl1
  refine pcall_wp _ Tryd.func8 rfl (by kernel_rfl) rfl ?_
  have htw := two_spec s t
  have hv := valid_spec g
  have haw := awake_spec
  have hwl := wr (n := (s.length : Int) + t.length) (by omega) (by omega)
  cases hb : isgB s && isgB t with
  | false =>
    rw [hb] at htw
    simp -dsimp
    first
      | refine CallG.by (htw) ?_
      | refine CallGE.by (htw) ?_
      | refine CallGB.by (htw) ?_
    simp -dsimp
    first
      | refine CallG.by (haw) ?_
      | refine CallGE.by (haw) ?_
      | refine CallGB.by (haw) ?_
    simp -dsimp
    refine retP_c ?_
    simp -dsimp
  | true =>
    rw [hb] at htw
    cases hg : isgB g with
    | false =>
      rw [hg] at hv
      simp -dsimp
      first
        | refine CallG.by (htw) ?_
        | refine CallGE.by (htw) ?_
        | refine CallGB.by (htw) ?_
      simp -dsimp
      first
        | refine CallG.by (hv) ?_
        | refine CallGE.by (hv) ?_
        | refine CallGB.by (hv) ?_
      simp -dsimp
      first
        | refine CallG.by (haw) ?_
        | refine CallGE.by (haw) ?_
        | refine CallGB.by (haw) ?_
      simp -dsimp
      refine retP_c ?_
      simp -dsimp
    | true =>
      rw [hg] at hv
      by_cases h6 : (6 : Int) < (s.length : Int) + t.length
      · simp -dsimp
        first
          | refine CallG.by (htw) ?_
          | refine CallGE.by (htw) ?_
          | refine CallGB.by (htw) ?_
        simp -dsimp
        first
          | refine CallG.by (hv) ?_
          | refine CallGE.by (hv) ?_
          | refine CallGB.by (hv) ?_
        simp -dsimp [hwl, h6]
        first
          | refine CallG.by (haw) ?_
          | refine CallGE.by (haw) ?_
          | refine CallGB.by (haw) ?_
        simp -dsimp
        refine retP_c ?_
        simp -dsimp
      rw [Bool.and_eq_true] at hb
      have hts := town_tow hb.1
      have htt := town_tow hb.2
      have hlen : (townOf s).length + (townOf t).length ≤ 6 := by rw [town_len, town_len]; omega
      have hbt := bes_tow hts htt hlen
      obtain ⟨hu1, hu2⟩ := tow_isg hbt
      have hun := unions_true (townOf s) (townOf t) (townOf g)
      have hbl := bes_len (townOf s) (townOf t)
      have e1 : iL (townOf s) = s := town_back hb.1
      have e2 : iL (townOf t) = t := town_back hb.2
      have hfr := few_row s (by omega)
      have hfs := few_spec s
      have hft := few_spec t
      have hfg := few_spec g
      rw [(take_isg s).2 hb.1] at hfs
      rw [(take_isg t).2 hb.2] at hft
      rw [(take_isg g).2 hg] at hfg
      have m1 := maps_spec s g
      have m2 := maps_spec t g
      have m3 := maps_spec (iL (besN (townOf s) (townOf t))) g
      rw [mapsF, hb.1, hg] at m1
      rw [mapsF, hb.2, hg] at m2
      rw [mapsF, hu1, hg, hu2, iL_length] at m3
      simp only [Bool.and_self, if_true] at m1 m2 m3
      rw [town_len, town_len] at hun
      have b1 := maps_le (townOf s) (townOf g) (town_tow hg).le s.length []
      have b2 := maps_le (townOf t) (townOf g) (town_tow hg).le t.length []
      have p1 : 6 ^ s.length ≤ 6 ^ 6 := Nat.pow_le_pow_right (by decide) (by omega)
      have p2 : 6 ^ t.length ≤ 6 ^ 6 := Nat.pow_le_pow_right (by decide) (by omega)
      generalize mapsN (townOf s) (townOf g) s.length [] = a at *
      generalize mapsN (townOf t) (townOf g) t.length [] = b at *
      generalize mapsN (besN (townOf s) (townOf t)) (townOf g) (besN (townOf s) (townOf t)).length [] = c at *
      have hab : a * b ≤ 6 ^ 6 * 6 ^ 6 := Nat.mul_le_mul (Nat.le_trans b1 p1) (Nat.le_trans b2 p2)
      have hwm := wr (n := (a : Int) * b) (by rw [← Int.natCast_mul]; omega) (by rw [← Int.natCast_mul]; omega)
      have hcc : ((c : Int) == (a : Int) * b) = true := by
        rw [beq_iff_eq, hun, Int.natCast_mul]
      have hw6 : ∀ i : Nat, i ≤ 6 → IntKind.i64.wrap ((i : Int) + 1) = (i : Int) + 1 := fun i hi => wr (by omega) (by omega)
      have h64 : 2 ^ (townOf t).length ≤ 2 ^ 6 := Nat.pow_le_pow_right (by decide) htt.le
      have hx64 : ∀ x ∈ townOf t, x < 64 := fun x hx => Nat.lt_of_lt_of_le (htt.lt x hx) h64
      have hF : besN (townOf s) (townOf t) = townOf s ++ (townOf t).map (· <<< (townOf s).length) := rfl
      rw [hF] at m3
      clear hF
      have hsl : s.length = (townOf s).length := (town_len s).symm
      have htl : t.length = (townOf t).length := (town_len t).symm
      rw [← e1] at hfr hfs m1
      rw [← e2] at hft m2
      rw [← e1, ← e2] at htw
      rw [← e1, ← e2]
      rw [hsl, htl] at hwl h6
      generalize townOf s = S at *
      generalize townOf t = T at *
      simp -dsimp
      first
        | refine CallG.by (htw) ?_
        | refine CallGE.by (htw) ?_
        | refine CallGB.by (htw) ?_
      simp -dsimp
      first
        | refine CallG.by (hv) ?_
        | refine CallGE.by (hv) ?_
        | refine CallGB.by (hv) ?_
      simp -dsimp [hwl, h6]
      first
        | refine CallG.by (hfr) ?_
        | refine CallGE.by (hfr) ?_
        | refine CallGB.by (hfr) ?_
      simp -dsimp
      refine wk_loop (fun i : Nat => ⟨[(38, pI i), (37, pI T.length), (36, .t .ro (eNs T)), (7, .osl 35), (0, .t .ro (eNs S)), (1, .t .ro (eNs T)), (2, .t .ro (eIs g))], [(35, .row 3 1 .ro ((iL (S ++ (T.take i).map (· <<< S.length))).map cI))]⟩)
        (fun i => i ≤ T.length) (fun i => T.length - i) 0
        (le_of (by simp) (by simp)) (by omega) fun i hi => ?_
      simp -dsimp
      refine condX_dec (fun hx => ?_) (fun hx => ?_)
      · have q1 := iL_at (l := T) (i := i) hx
        have hm := hx64 _ (getD_mem hx)
        have hw := hw6 i (by omega)
        have ht1 : T.take (i + 1) = T.take i ++ [T.getD i 0] := take_at hx
        generalize T.getD i 0 = x at q1 hm ht1
        have hsh := shl_nat x S.length (by omega) hm
        have i1 : (i : Int) < T.length := by omega
        have i5 : (0 : Int) ≤ i := by omega
        have hbb : (S.length + min i T.length + 1) * 8 ≤ 140737488355328 := by omega
        simp -dsimp [i1, i5, q1, hsh, hbb]
        refine LoopP_next (i + 1) (le_of (by simp [hw, ht1]) (by simp [ht1])) (by omega) (by omega)
      · have hi' : i = T.length := by omega
        subst hi'
        rw [List.take_length]
        simp only [eIs, iL_append, List.map_append] at m3
        simp -dsimp
        first
          | refine CallG.by (hfs) ?_
          | refine CallGE.by (hfs) ?_
          | refine CallGB.by (hfs) ?_
        simp -dsimp
        first
          | refine CallG.by (hfg) ?_
          | refine CallGE.by (hfg) ?_
          | refine CallGB.by (hfg) ?_
        simp -dsimp
        first
          | refine CallG.by (m1) ?_
          | refine CallGE.by (m1) ?_
          | refine CallGB.by (m1) ?_
        simp -dsimp
        first
          | refine CallG.by (hft) ?_
          | refine CallGE.by (hft) ?_
          | refine CallGB.by (hft) ?_
        simp -dsimp
        first
          | refine CallG.by (hfg) ?_
          | refine CallGE.by (hfg) ?_
          | refine CallGB.by (hfg) ?_
        simp -dsimp
        first
          | refine CallG.by (m2) ?_
          | refine CallGE.by (m2) ?_
          | refine CallGB.by (m2) ?_
        simp -dsimp
        first
          | refine CallG.by (hfg) ?_
          | refine CallGE.by (hfg) ?_
          | refine CallGB.by (hfg) ?_
        simp -dsimp
        first
          | refine CallG.by (m3) ?_
          | refine CallGE.by (m3) ?_
          | refine CallGB.by (m3) ?_
        simp -dsimp [hwm, hcc]
        first
          | refine CallG.by (haw) ?_
          | refine CallGE.by (haw) ?_
          | refine CallGB.by (haw) ?_
        simp -dsimp
        refine retP_c ?_
        simp -dsimp
theorem trees_law (g h : List Int) (parents : List Int) : PCall Tryd.prog 7 [eIs g, eIs h, eIs parents] (pB true) [] := by
  refine pcall_sl 2 rfl call7 fun hlen => ?_
  simp only [List.length_map] at hlen
  refine pcall_wp _ Tryd.func7 rfl (by kernel_rfl) rfl ?_
  have hf := few_spec g
  have hf' := few_spec h
  have hal := alike_spec (g.take 10) (h.take 10)
  have haw := awake_spec
  obtain ⟨t1, t2⟩ := take_isg g
  obtain ⟨t1', t2'⟩ := take_isg h
  rw [alkF, t1, t1'] at hal
  cases hb : isgB g && isgB h with
  | false =>
    rw [hb] at hal
    simp only [Bool.false_eq_true, if_false] at hal
    simp -dsimp
    first
      | refine CallG.by (hf) ?_
      | refine CallGE.by (hf) ?_
      | refine CallGB.by (hf) ?_
    simp -dsimp
    first
      | refine CallG.by (hf') ?_
      | refine CallGE.by (hf') ?_
      | refine CallGB.by (hf') ?_
    simp -dsimp
    first
      | refine CallG.by (hal) ?_
      | refine CallGE.by (hal) ?_
      | refine CallGB.by (hal) ?_
    simp -dsimp
    first
      | refine CallG.by (haw) ?_
      | refine CallGE.by (haw) ?_
      | refine CallGB.by (haw) ?_
    simp -dsimp
    refine retP_c ?_
    simp -dsimp
  | true =>
    rw [hb] at hal
    rw [Bool.and_eq_true] at hb
    rw [t2 hb.1, t2' hb.2] at hal
    rw [t2 hb.1] at hf
    rw [t2' hb.2] at hf'
    simp only [if_true] at hal
    cases hlk : likeN (townOf g) (townOf h) with
    | false =>
      rw [hlk] at hal
      simp -dsimp
      first
        | refine CallG.by (hf) ?_
        | refine CallGE.by (hf) ?_
        | refine CallGB.by (hf) ?_
      simp -dsimp
      first
        | refine CallG.by (hf') ?_
        | refine CallGE.by (hf') ?_
        | refine CallGB.by (hf') ?_
      simp -dsimp
      first
        | refine CallG.by (hal) ?_
        | refine CallGE.by (hal) ?_
        | refine CallGB.by (hal) ?_
      simp -dsimp
      first
        | refine CallG.by (haw) ?_
        | refine CallGE.by (haw) ?_
        | refine CallGB.by (haw) ?_
      simp -dsimp
      refine retP_c ?_
      simp -dsimp
    | true =>
      rw [hlk] at hal
      simp -dsimp
      first
        | refine CallG.by (hf) ?_
        | refine CallGE.by (hf) ?_
        | refine CallGB.by (hf) ?_
      simp -dsimp
      first
        | refine CallG.by (hf') ?_
        | refine CallGE.by (hf') ?_
        | refine CallGB.by (hf') ?_
      simp -dsimp
      first
        | refine CallG.by (hal) ?_
        | refine CallGE.by (hal) ?_
        | refine CallGB.by (hal) ?_
      simp -dsimp
      refine wk_loop (fun p : Nat × List Nat => ⟨[(41, pI p.1), (40, pI parents.length), (39, .t .ro (eIs parents)), (9, .osl 38), (0, .t .ro (eIs g)), (1, .t .ro (eIs h))], [(38, .row 3 1 .fz ((iL p.2).map cI))]⟩)
        (fun p => p.1 ≤ parents.length ∧ Tow 6 p.2 ∧ p.2.length = min p.1 5 + 1 ∧ ∃ par, Tre p.2 par) (fun p => parents.length - p.1) (0, [0])
        (le_of (by simp) (by simp [cI])) ⟨by simp, one_tow, by simp, _, one_tre⟩ fun ⟨i, T⟩ ⟨hi, hT, hTl, par, hpar⟩ => ?_
      dsimp only at hi hT hTl hpar
      simp -dsimp
      refine condX_dec (fun hx => ?_) (fun hx => ?_)
      · have hw := wr (n := (i : Int) + 1) (by omega) (by omega)
        have q1 := at_ (l := parents) (i := i) hx
        have i1 : (i : Int) < parents.length := by omega
        have i5 : (0 : Int) ≤ i := by omega
        generalize parents.getD i 0 = x at q1
        by_cases h5 : (i : Int) < 5
        · have hul : IntKind.u64.wrap (T.length : Int) = T.length := by
            rw [IntKind.wrap_u64]
            omega
          have hux : 0 ≤ IntKind.u64.wrap x ∧ IntKind.u64.wrap x < 18446744073709551616 := by
            rw [IntKind.wrap_u64]
            omega
          generalize hue : IntKind.u64.wrap x = ux at hux
          obtain ⟨p, hp⟩ : ∃ p : Nat, ux.tmod (T.length : Int) = p := ⟨(ux.tmod T.length).toNat, by
            have := Int.tmod_nonneg (T.length : Int) hux.1
            omega⟩
          have hpl : p < T.length := by
            have := Int.tmod_lt_of_pos ux (show (0 : Int) < T.length by omega)
            omega
          have hne : T ≠ [] := by
            intro e
            rw [e] at hTl
            simp at hTl
          have hwp := wr (n := (p : Int)) (by omega) (by omega)
          have hsp := shl1 p (by omega)
          have hsm := shl1 T.length (by omega)
          have hTp := hT.get p
          have h64 : 2 ^ T.length ≤ 2 ^ 6 := Nat.pow_le_pow_right (by decide) hT.le
          have h64p : 2 ^ p ≤ 2 ^ 6 := Nat.pow_le_pow_right (by decide) (by omega)
          have hor := orI_nat (T.getD p 0) (2 ^ T.length) (by omega) (by omega)
          have q2 := iL_at (l := T) (i := p) hpl
          have hat := add_tow hT hpl (by omega)
          have hatr := add_tre hT hpl hpar
          have hal2 := add_len T p
          have haN : addN T p = T.set p (T.getD p 0 ||| 2 ^ T.length) ++ [2 ^ p] := rfl
          generalize T.getD p 0 ||| 2 ^ T.length = y at hor haN
          generalize T.getD p 0 = z at *
          generalize 2 ^ T.length = N at *
          generalize 2 ^ p = N2 at *
          have hwl := wr (n := (T.length : Int) + 1 - 1) (by omega) (by omega)
          have hel : (T.length : Int) + 1 - 1 = T.length := by omega
          rw [hel] at hwl
          have j1 : (p : Int) < T.length + 1 := by omega
          have j2 : (0 : Int) ≤ p := by omega
          have j3 : p < T.length + 1 := by omega
          have hbb : (T.length + 1) * 8 ≤ 140737488355328 := by omega
          have hset : List.map cI (iL (addN T p)) = (List.map cI (iL T)).set p [eI y] ++ [[eI N2]] := by
            rw [haN, iL_append, iL_set, List.map_append, List.map_set]
            rfl
          have q2' : ∀ hh : p < (iL T).length, (iL T)[p]'hh = (z : Int) := fun hh => by
            rw [List.getElem?_eq_getElem hh] at q2
            exact Option.some.inj q2
          simp -dsimp [i1, i5, q1, h5, hul, hue, hp, hne, hwp, hsp, hbb]
          refine wk_draw 8 [] mixed (by kernel_rfl) ?_
          simp -dsimp [hel, hwl, hsm, j1, j2, j3, hpl, q2, hor]
          refine LoopP_next (i + 1, addN T p) (le_of (by simp [hw]) (by simp [hset, q2', hor])) ⟨by simp only; omega, hat, by simp only; omega, _, hatr⟩ (by simp only; omega)
        · simp -dsimp [i1, i5, q1, h5]
          refine LoopP_next (i + 1, T) (le_of (by simp [hw]) (by simp)) ⟨by simp only; omega, hT, by simp only; omega, par, hpar⟩ (by simp only; omega)
      · have htr := trees_true hpar hT.pos (town_tow hb.1) (town_tow hb.2) hlk
        obtain ⟨hu1, hu2⟩ := tow_isg hT
        have m1 := maps_spec (iL T) g
        have m2 := maps_spec (iL T) h
        rw [mapsF, hu1, hb.1, hu2, iL_length] at m1
        rw [mapsF, hu1, hb.2, hu2, iL_length] at m2
        simp only [Bool.and_self, if_true] at m1 m2
        rw [← htr] at m2
        have hTle := hT.le
        have hcl := clone32_fz (iL T) (by simp; omega)
        generalize mapsN T (townOf g) T.length [] = m at *
        have hmm : ((m : Int) == (m : Int)) = true := by simp
        simp -dsimp
        first
          | refine CallG.by (hcl) ?_
          | refine CallGE.by (hcl) ?_
          | refine CallGB.by (hcl) ?_
        simp -dsimp
        first
          | refine CallG.by (hf) ?_
          | refine CallGE.by (hf) ?_
          | refine CallGB.by (hf) ?_
        simp -dsimp
        first
          | refine CallG.by (m1) ?_
          | refine CallGE.by (m1) ?_
          | refine CallGB.by (m1) ?_
        simp -dsimp
        first
          | refine CallG.by (hf') ?_
          | refine CallGE.by (hf') ?_
          | refine CallGB.by (hf') ?_
        simp -dsimp
        first
          | refine CallG.by (m2) ?_
          | refine CallGE.by (m2) ?_
          | refine CallGB.by (m2) ?_
        simp -dsimp [hmm]
        first
          | refine CallG.by (haw) ?_
          | refine CallGE.by (haw) ?_
          | refine CallGB.by (haw) ?_
        simp -dsimp
        refine retP_c ?_
        simp -dsimp
end Go.Proofs.YtfcbmcmkakceaaaDoor
