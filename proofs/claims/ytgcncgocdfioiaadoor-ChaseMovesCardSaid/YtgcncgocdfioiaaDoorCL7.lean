import Derived.Test.YtgcncgocdfioiaaDoorCL6
import Derived.Test.YtgcncgocdfioiaaDoorCW7
/- CL7: the law of ChaseMoves. -/
set_option linter.unusedVariables false
set_option linter.unusedSimpArgs false
set_option maxRecDepth 20000
namespace Go.Proofs.YtgcncgocdfioiaaDoor
open Go Go.PS
attribute [-simp] isKeyK List.map_take
def dag87 : List (List Bool × List Nat) := [([false, false, false, false, false, false, false, false, false, false, false, false], [0, 2, 3, 9]), ([true, false, false, false, false, false, false, false, false, false, false, false], [1, 2, 3, 9]), ([true, true, false, false, false, false, false, false, false, false, false, false], [2, 3, 9]), ([true, true, true, false, false, false, false, false, false, false, false, false], [3, 9]), ([true, true, true, true, false, false, false, false, false, false, false, false], [4, 9]), ([true, true, true, true, true, false, false, false, false, false, false, false], [5, 9]), ([true, true, true, true, true, true, false, false, false, false, false, false], [6, 9]), ([true, true, true, true, true, true, true, false, false, false, false, false], [7, 8, 9]), ([true, true, true, true, true, true, true, true, false, false, false, false], [8, 9]), ([true, true, true, true, true, true, true, true, true, false, false, false], [9]), ([true, true, true, true, true, true, true, true, true, true, false, false], [10]), ([true, true, true, true, true, true, true, true, true, true, true, false], [11]), ([true, true, true, true, true, true, true, true, true, true, true, true], []), ([true, true, true, true, true, true, true, true, false, true, false, false], [8, 10]), ([true, true, true, true, true, true, true, true, false, true, true, false], [8]), ([true, true, true, true, true, true, true, false, true, false, false, false], [7, 9]), ([true, true, true, true, true, true, true, false, true, true, false, false], [7]), ([true, true, true, true, true, true, true, false, false, true, false, false], [7, 8]), ([true, true, true, true, true, true, false, false, false, true, false, false], [6]), ([true, true, true, true, true, false, false, false, false, true, false, false], [5]), ([true, true, true, true, false, false, false, false, false, true, false, false], [4]), ([true, true, true, false, false, false, false, false, false, true, false, false], [3]), ([true, true, false, true, false, false, false, false, false, false, false, false], [2, 4, 9]), ([true, true, false, true, true, false, false, false, false, false, false, false], [2, 9]), ([true, true, false, true, true, false, false, false, false, true, false, false], [2]), ([true, true, false, true, false, false, false, false, false, true, false, false], [2, 4]), ([true, true, false, false, false, false, false, false, false, true, false, false], [2, 3]), ([true, false, true, false, false, false, false, false, false, false, false, false], [1, 3, 9]), ([true, false, true, true, false, false, false, false, false, false, false, false], [1, 9]), ([true, false, true, true, false, false, false, false, false, true, false, false], [1]), ([true, false, true, false, false, false, false, false, false, true, false, false], [1, 3]), ([true, false, false, true, false, false, false, false, false, false, false, false], [1, 2, 9]), ([true, false, false, true, false, false, false, false, false, true, false, false], [1, 2]), ([true, false, false, false, false, false, false, false, false, true, false, false], [1, 2, 3]), ([false, false, true, false, false, false, false, false, false, false, false, false], [0, 3, 9]), ([false, false, true, true, false, false, false, false, false, false, false, false], [0, 9]), ([false, false, true, true, false, false, false, false, false, true, false, false], [0]), ([false, false, true, false, false, false, false, false, false, true, false, false], [0, 3]), ([false, false, false, true, false, false, false, false, false, false, false, false], [0, 2, 9]), ([false, false, false, true, false, false, false, false, false, true, false, false], [0, 2]), ([false, false, false, false, false, false, false, false, false, true, false, false], [0, 2, 3])]
def dag816 : List (List Bool × List Nat) := [([false, false, false, false, false, false, false, false], [0, 2]), ([true, false, false, false, false, false, false, false], [1, 2]), ([true, true, false, false, false, false, false, false], [2, 4]), ([true, true, true, false, false, false, false, false], [3, 4]), ([true, true, true, true, false, false, false, false], [4]), ([true, true, true, true, true, false, false, false], [5]), ([true, true, true, true, true, true, false, false], [6]), ([true, true, true, true, true, true, true, false], [7]), ([true, true, true, true, true, true, true, true], []), ([true, true, true, false, true, false, false, false], [3, 5]), ([true, true, true, false, true, true, false, false], [3]), ([true, true, false, false, true, false, false, false], [2, 5]), ([true, true, false, false, true, true, false, false], [2]), ([true, false, true, false, false, false, false, false], [1, 3]), ([true, false, true, true, false, false, false, false], [1]), ([false, false, true, false, false, false, false, false], [0, 3]), ([false, false, true, true, false, false, false, false], [0])]
theorem playGo_bound {t : List Nat} {two : Bool} : ∀ (r : Nat) (L : List (Pl × Nat)) (O : List Pl) (p : Pl) (m : Nat), (playGo t two r L O).lookup p = some m → L.lookup p = some m ∨ m < r + O.length
  | r, L, O, p, m, h => by
    rw [playGo] at h
    split at h
    · exact .inl h
    · rename_i hd
      have hlt := leftF_lt hd
      rcases playGo_bound (r + 1) _ _ p m h with h1 | h1
      · rw [lookup_append, lookup_map] at h1
        cases hl : L.lookup p with
        | some r' => rw [hl] at h1; exact .inl h1
        | none =>
          rw [hl] at h1
          simp only [Option.none_or] at h1
          split at h1
          · cases h1
            right
            omega
          · cases h1
      · right
        omega
termination_by _ _ O => O.length
theorem teams1_len (n : Nat) : (teamsL n false).length ≤ n := by
  have h1 : (teamsL n false).length = ((teamsL n false).map (·.1)).length := by simp
  rw [h1]
  have h2 : ((teamsL n false).map (·.1)).Nodup := by
    rw [List.Nodup, List.pairwise_map]
    refine ((teams_nodup n false).imp_of_mem ?_)
    intro a b ha hb hab e
    rw [teams_mem] at ha hb
    have h3 := ha.2.2.elim (fun h => by cases h) id
    have h4 := hb.2.2.elim (fun h => by cases h) id
    exact hab (Prod.ext e (by rw [← h3, ← h4, e]))
  have := sub_len h2 (l2 := List.range n) (by
    intro x hx
    obtain ⟨q, hq, rfl⟩ := List.mem_map.1 hx
    rw [teams_mem] at hq
    rw [List.mem_range]
    omega)
  simpa using this
theorem flat_len {n : Nat} : ∀ T : List Pr, (T.flatMap fun q => (List.range n).map fun c => ((q.1, q.2, c) : Pl)).length = T.length * n
  | [] => by simp
  | q :: T => by
    rw [List.flatMap_cons, List.length_append, flat_len T]
    simp [Nat.add_mul]
    omega
/-- No rank is above 64. -/
theorem rk_bound {g : List Int} (hv : validG g = true) (k : Int) {p : Pl} (hp : GPl g.length (k == 2) p) : rkI (rksF g k) p ≤ 64 := by
  obtain ⟨ht, hr, hs, hc⟩ := valid_facts hv
  have hl := town_len g
  have h8 := (valid_at hv).2.1
  cases hk : (k == 2) with
  | true =>
    obtain ⟨h1, h2, h3, _⟩ := id hp
    have hw := sweeps34 (n := (townOf g).length) (by omega) hr hs hc (a := p.1) (b := p.2.1) (c := p.2.2) (by omega) (by omega) (by omega)
    have hp' : GPl (townOf g).length true p := by rw [hl, ← hk]; exact hp
    have := ((play_ok ht true).win hp' 34).1 hw
    rw [rksF, hk]
    omega
  | false =>
    rw [rksF, hk, rkI]
    cases hlk : (playF (townOf g) false).lookup p with
    | none => simp
    | some m =>
      simp only
      rw [playF, hl] at hlk
      rcases playGo_bound _ _ _ _ _ hlk with h1 | h1
      · rw [iniL, lookup_map] at h1
        split at h1
        · cases h1; simp
        · cases h1
      · have h2 := List.length_filter_le (fun p => !cB p) (allPl g.length false)
        have h3 : (allPl g.length false).length = (teamsL g.length false).length * g.length := flat_len _
        have h4 := teams1_len g.length
        have h5 : (teamsL g.length false).length * g.length ≤ 8 * 8 := Nat.mul_le_mul (by omega) h8
        rw [iniO] at h1
        omega
/-- A move that keeps to the rank. -/
theorem move_step {g : List Int} (hv : validG g = true) (k : Int) {p : Pl} (hp : GPl g.length (k == 2) p) (hr : 1 ≤ rkI (rksF g k) p) : cB p = false ∧ ∃ q : Pr, moveQ (townOf g) (k == 2) (rksF g k) p = some q ∧ q.1 ≤ q.2 ∧ q.2 < g.length ∧ ((k == 2) = true ∨ q.1 = q.2) ∧
    ((rT (townOf g) p.1 q.1 ∧ rT (townOf g) p.2.1 q.2) ∨ (rT (townOf g) p.1 q.2 ∧ rT (townOf g) p.2.1 q.1)) ∧ (cB (q.1, q.2, p.2.2) = true ∨ ∀ x, x < g.length → rT (townOf g) p.2.2 x → 0 ≤ rkI (rksF g k) (q.1, q.2, x) ∧ rkI (rksF g k) (q.1, q.2, x) < rkI (rksF g k) p) := by
  obtain ⟨ht, hrf, hs, hc⟩ := valid_facts hv
  have hl := town_len g
  have hp' : GPl (townOf g).length (k == 2) p := by rw [hl]; exact hp
  have hend := play_ok ht (k == 2)
  have hL : rksF g k = playF (townOf g) (k == 2) := rfl
  rw [← hL] at hend
  generalize rksF g k = L at *
  have hwin := fun m => hend.win hp' m
  have hc8 := ht.2.2 _ (getD_mem (l := townOf g) (i := p.2.2) hp'.2.2.1)
  have hcl := sub_lt ht hc8
  have hncB : cB p = false := by
    cases h : cB p with
    | false => rfl
    | true =>
      have := (hwin 0).1 (cB_iff.1 h)
      omega
  refine ⟨hncB, ?_⟩
  obtain ⟨m, hm⟩ : ∃ m : Nat, rkI L p = (m : Int) + 1 := ⟨(rkI L p - 1).toNat, by omega⟩
  have hW : WinT (townOf g) (k == 2) (m + 1) p.1 p.2.1 p.2.2 := (hwin (m + 1)).2 ⟨by omega, by omega⟩
  have hnW : ¬ WinT (townOf g) (k == 2) m p.1 p.2.1 p.2.2 := fun h => by
    have := (hwin m).1 h
    omega
  have hex : ∃ q ∈ movesL (townOf g) (k == 2) p.1 p.2.1, keepB (townOf g) L p.2.2 (rkI L p) q = true := by
    rcases hW with hW | ⟨a', b', h1, h2, h3, h4, h5, hW⟩
    · exact absurd hW hnW
    · have key : ∀ x y, x ≤ y → y < (townOf g).length → ((k == 2) = true ∨ x = y) → (p.2.2 = x ∨ p.2.2 = y ∨ ∀ c', vT (townOf g) c' → rT (townOf g) p.2.2 c' → WinT (townOf g) (k == 2) m x y c') → keepB (townOf g) L p.2.2 (rkI L p) (x, y) = true := by
        intro x y hxy hy hxk hW
        rw [keep_eq hr, Bool.or_eq_true, List.all_eq_true]
        rcases hW with e | e | hW
        · left; exact cB_iff.2 (.inl e)
        · left; exact cB_iff.2 (.inr e)
        · right
          intro z hz
          have hzn := node_lt hc8 hz
          have hz2 := (bits_mem hcl).1 hz
          have := (hend.win (p := (x, y, z)) ⟨hxy, hy, hzn, hxk⟩ m).1 (hW z hzn hz2)
          rw [kpB, Bool.and_eq_true, decide_eq_true_iff, decide_eq_true_iff]
          exact ⟨this.1, by have h9 := this.2; simp only at h9 ⊢; omega⟩
      rcases Nat.le_total a' b' with hab | hab
      · exact ⟨(a', b'), moves_mem.2 ⟨h1, h2, hab, .inl ⟨h3, h4⟩, h5⟩, key a' b' hab h2 h5 hW⟩
      · refine ⟨(b', a'), moves_mem.2 ⟨h2, h1, hab, .inr ⟨h3, h4⟩, h5.imp id Eq.symm⟩, key b' a' hab h1 (h5.imp id Eq.symm) ?_⟩
        rcases hW with e | e | hW
        · exact .inr (.inl e)
        · exact .inl e
        · exact .inr (.inr fun c' q1 q2 => (hW c' q1 q2).swap)
  rw [moveQ]
  cases hf : (movesL (townOf g) (k == 2) p.1 p.2.1).find? (keepB (townOf g) L p.2.2 (rkI L p)) with
  | none =>
    obtain ⟨q, hq, hk⟩ := hex
    exact absurd hk (List.find?_eq_none.1 hf q hq)
  | some q =>
    have hqm := List.mem_of_find?_eq_some hf
    have hk := List.find?_some hf
    rw [moves_mem, hl] at hqm
    obtain ⟨h1, h2, h3, h4, h5⟩ := hqm
    rw [keep_eq hr, Bool.or_eq_true, List.all_eq_true] at hk
    refine ⟨q, rfl, h3, h2, h5, h4, hk.imp id fun h x hx hrx => ?_⟩
    have := h x ((bits_mem hcl).2 hrx)
    rw [kpB, Bool.and_eq_true, decide_eq_true_iff, decide_eq_true_iff] at this
    exact this
theorem move_none {g : List Int} {k : Int} {p : Pl} (hr : rkI (rksF g k) p < 1) : moveQ (townOf g) (k == 2) (rksF g k) p = none := by
  rw [moveQ, List.find?_eq_none]
  intro q _
  rw [keepB]
  cases afterF (townOf g) (rksF g k) q.1 q.2 p.2.2 with
  | none => simp
  | some w => simp; omega
theorem rk_zero {g : List Int} (hv : validG g = true) (k : Int) {p : Pl} (hp : GPl g.length (k == 2) p) (hr : rkI (rksF g k) p < 1) : cB p = (rkI (rksF g k) p == 0) := by
  have ht := valid_town hv
  have hp' : GPl (townOf g).length (k == 2) p := by rw [town_len]; exact hp
  have h := (play_ok ht (k == 2)).win hp' 0
  have hL : rksF g k = playF (townOf g) (k == 2) := rfl
  rw [← hL] at h
  rw [Bool.eq_iff_iff, cB_iff, beq_iff_eq]
  constructor
  · intro hc
    have := h.1 hc
    omega
  · intro hc
    exact h.2 ⟨by omega, by omega⟩
/-- Two nodes are not beside each other. -/
theorem far_spec (g : List Int) (hv : validG g = true) (x y : Nat) (hx : x < g.length) (hy : y < g.length) : PCall Tryd.prog 34 [eI x, eI y, .rp [eIs g] 0] (pB (!((townOf g).getD x 0).testBit y)) [] := by
  obtain ⟨ht, hl, hrow⟩ := isg_facts (valid_isg hv)
  obtain ⟨m, hm, hmlt, htv⟩ := hrow x hx
  have h8 := ht.2.1
  have hN : 2 ^ g.length ≤ 2 ^ 8 := Nat.pow_le_pow_right (by decide) (by omega)
  refine pcall_wp _ Tryd.func34 rfl (by kernel_rfl) rfl ?_
  have hxg := at_ (l := g) hx
  rw [hm] at hxg
  have hil : (x : Int) < g.length := by omega
  have hs := shl1 x (by omega)
  have hp2 : 2 ^ x < 256 := Nat.lt_of_lt_of_le (Nat.pow_lt_pow_right (by decide) (show x < 8 by omega)) (by decide)
  have ho := orI_nat m (2 ^ x) (by omega) (by omega)
  have ho8 : m ||| 2 ^ x < 2 ^ 8 := Nat.or_lt_two_pow (by omega) hp2
  have hb := and1 (m ||| 2 ^ x) (by omega) y (by omega)
  have hy0 : (0 : Int) ≤ y := by omega
  rw [htv]
  generalize m ||| 2 ^ x = z at *
  generalize 2 ^ x = b at *
  simp -dsimp
  refine wk_draw 8 [] mixed (by kernel_rfl) ?_
  cases hc : z.testBit y
  · rw [hc] at hb
    simp -dsimp [hil, hxg, hs, ho, hy0, hb]
    refine retP_c ?_
    simp -dsimp
  · rw [hc] at hb
    simp -dsimp [hil, hxg, hs, ho, hy0, hb]
    refine retP_c ?_
    simp -dsimp
/-- What is asked of a flight. -/
def toF (n : Nat) (f : Int) : Int := IntKind.i64.wrap (Int.tmod (IntKind.u64.wrap f) (IntKind.u64.wrap n))
theorem toF_nat {n : Nat} (h1 : 1 ≤ n) (h8 : n ≤ 8) (f : Int) : ∃ m : Nat, toF n f = m ∧ m < n := by
  have h2 : IntKind.u64.wrap (n : Int) = n := by rw [IntKind.wrap_u64]; omega
  have h3 : 0 ≤ IntKind.u64.wrap f := by rw [IntKind.wrap_u64]; omega
  obtain ⟨x, hx⟩ : ∃ x : Nat, IntKind.u64.wrap f = x := ⟨(IntKind.u64.wrap f).toNat, by omega⟩
  have h4 : Int.tmod (x : Int) (n : Int) = ((x % n : Nat) : Int) := rfl
  have h5 : x % n < n := Nat.mod_lt _ (by omega)
  refine ⟨x % n, ?_, h5⟩
  rw [toF, h2, hx, h4, wr (by omega) (by omega)]
set_option maxHeartbeats 4000000 in
theorem moves_true (g : List Int) (k : Int) (p : P3) (fl : List Int) : PCall Tryd.prog 8 [eIs g, eI k, .agg (cP3 p), eIs fl] (pB true) [] := by
  refine pcall_sl 3 rfl call8 fun hlen => ?_
  simp only [List.length_map] at hlen
  refine pcall_wp _ Tryd.func8 rfl (by kernel_rfl) rfl ?_
  have hf := few_spec g
  have ha := awake_spec
  have hpl := fun p => place28_spec p
  obtain ⟨t1, t2⟩ := take_valid g
  have hrk := fun p : P3 => rankP_spec (g.take 13) k p.1 p.2.1 p.2.2
  have hmv := fun p : P3 => moveP_spec (g.take 13) k p.1 p.2.1 p.2.2
  have hfi := fine_spec g k p
  have hft := fun p => fine_take g k p
  cases hfb : fineB g k p with
  | false =>
    rw [hfb] at hfi
    have hrkp := hrk p
    rw [rankF, hft p, hfb, if_neg (by simp)] at hrkp
    have hplp := hpl p
    obtain ⟨a, b, c⟩ := p
    generalize g.take 13 = h at *
    simp -dsimp
    refine wk_draw 10 [4, 5] mixed (by kernel_rfl) ?_
    simp -dsimp
    first
      | refine CallG.by (hf) ?_
      | refine CallGE.by (hf) ?_
      | refine CallGB.by (hf) ?_
    simp -dsimp
    first
      | refine CallG.by (hplp) ?_
      | refine CallGE.by (hplp) ?_
      | refine CallGB.by (hplp) ?_
    simp -dsimp
    first
      | refine CallG.by (hrkp) ?_
      | refine CallGE.by (hrkp) ?_
      | refine CallGB.by (hrkp) ?_
    simp -dsimp
    first
      | refine CallG.by (ha) ?_
      | refine CallGE.by (ha) ?_
      | refine CallGB.by (ha) ?_
    simp -dsimp
    refine retP_c ?_
    simp -dsimp
  | true =>
    rw [hfb] at hfi
    have hfb' := hfb
    simp only [fineB, Bool.and_eq_true] at hfb'
    obtain ⟨ho, hok⟩ := hfb'
    have hv := ok_valid ho
    rw [t2 hv] at hf hrk hmv hft
    clear t1 t2
    obtain ⟨ha', hb', hc', hG⟩ := okPl_nat hok
    have h8 := (valid_at hv).2.1
    have h1n := (valid_at hv).1
    -- the calls at a place
    have hR : ∀ q : Pl, GPl g.length (k == 2) q → PCall Tryd.prog 27 [eIs g, eI k, .agg [eI q.1, eI q.2.1, eI q.2.2]] (.t .fz (.tup [eI (rkI (rksF g k) q), eI 0])) [] := fun q hq => by
      have h1 := hrk (up q)
      have h2 : okPl g.length k (up q).1 (up q).2.1 (up q).2.2 = true := okPl_iff.2 hq
      have h3 : ((up q).1.toNat, (up q).2.1.toNat, (up q).2.2.toNat) = q := nP_up q
      rw [rankF, ho, h2, h3] at h1
      exact h1
    have hM : ∀ q : Pl, GPl g.length (k == 2) q → PCall Tryd.prog 29 [eIs g, eI k, .agg [eI q.1, eI q.2.1, eI q.2.2]] (.t .fz (match moveQ (townOf g) (k == 2) (rksF g k) q with
        | some q => .tup [.agg (cPr q), eI 0]
        | none => .tup [.agg [eI 0, eI 0], eI 4])) [] := fun q hq => by
      have h1 := hmv (up q)
      have h2 : okPl g.length k (up q).1 (up q).2.1 (up q).2.2 = true := okPl_iff.2 hq
      have h3 : ((up q).1.toNat, (up q).2.1.toNat, (up q).2.2.toNat) = q := nP_up q
      rw [moveF, ho, h2, h3] at h1
      exact h1
    have hP : ∀ q : Pl, PCall Tryd.prog 28 [.agg [eI q.1, eI q.2.1, eI q.2.2]] (.t .fz (.agg [eI q.1, eI q.2.1, eI q.2.2])) [] := fun q => hpl (up q)
    have hfar := fun x y => far_spec g hv x y
    have hstep := fun {q : Pl} (hq : GPl g.length (k == 2) q) => move_step hv k hq
    have hnone := fun {q : Pl} => move_none (g := g) (k := k) (p := q)
    have hzero := fun {q : Pl} (hq : GPl g.length (k == 2) q) => rk_zero hv k hq
    have hbound := rk_bound hv k hG
    have hto := toF_nat h1n h8
    have htoF : ∀ f : Int, toF g.length f = IntKind.i64.wrap (Int.tmod (IntKind.u64.wrap f) (IntKind.u64.wrap g.length)) := fun _ => rfl
    obtain ⟨pa, pb, pc⟩ := p
    simp only at hG hbound ha' hb' hc' hfi
    generalize pa.toNat = a0 at *
    generalize pb.toNat = b0 at *
    generalize pc.toNat = c0 at *
    subst ha' hb' hc'
    have hR0 := hR (a0, b0, c0) hG
    have hP0 := hP (a0, b0, c0)
    simp only at hR0 hP0
    generalize rksF g k = L at *
    clear hrk hmv hpl
    simp -dsimp
    refine wk_draw 10 [4, 5] mixed (by kernel_rfl) ?_
    simp -dsimp
    first
      | refine CallG.by (hf) ?_
      | refine CallGE.by (hf) ?_
      | refine CallGB.by (hf) ?_
    simp -dsimp
    first
      | refine CallG.by (hP0) ?_
      | refine CallGE.by (hP0) ?_
      | refine CallGB.by (hP0) ?_
    simp -dsimp
    first
      | refine CallG.by (hR0) ?_
      | refine CallGE.by (hR0) ?_
      | refine CallGB.by (hR0) ?_
    simp -dsimp
    first
      | refine CallG.by (hfi) ?_
      | refine CallGE.by (hfi) ?_
      | refine CallGB.by (hfi) ?_
    simp -dsimp
    refine wk_loop (fun s : Nat × (Nat × Nat × Nat) × (Kind × Kind × Kind) × Int => ⟨[(41, pI s.1), (9, .t .fz (eI s.2.2.2)), (4, .ptr 4 0), (6, .ptr 6 0), (1, .t .ro (eI k)), (3, .t .ro (eIs fl))],
        [(6, .blk 48 [.t s.2.2.1.1 (eI s.2.1.1), .t s.2.2.1.2.1 (eI s.2.1.2.1), .t s.2.2.1.2.2 (eI s.2.1.2.2)]), (4, .blk 23 [.t .ro (eIs g)])]⟩)
      (fun s => s.1 ≤ 70 ∧ GPl g.length (k == 2) s.2.1 ∧ s.2.2.2 = rkI L s.2.1 ∧ (s.1 = 0 ∨ 0 ≤ s.2.2.2) ∧ s.2.2.2 + s.1 ≤ 64) (fun s => 70 - s.1) (0, (a0, b0, c0), (.ro, .ro, .ro), rkI L (a0, b0, c0))
      (le_of (by simp) (by simp)) ⟨by simp, hG, rfl, .inl rfl, by simpa using hbound⟩ fun ⟨i, ⟨a, b, c⟩, ⟨ka, kb, kc⟩, n⟩ ⟨hi, hGp, hn, hpos, hsum⟩ => ?_
    dsimp only at hi hGp hn hpos hsum
    simp -dsimp
    have hMp := hM (a, b, c) hGp
    have hPp := hP (a, b, c)
    simp only at hMp hPp
    have hw := wr (n := (i : Int) + 1) (by omega) (by omega)
    by_cases h70 : (i : Int) < 70
    rotate_left
    · exfalso
      have : i = 70 := by omega
      omega
    have hmq : ∃ (x y : Nat) (e : Int), PCall Tryd.prog 29 [eIs g, eI k, .agg [eI a, eI b, eI c]] (.t .fz (.tup [.agg [eI x, eI y], eI e])) [] ∧
        ((n < 1 ∧ e = 4 ∧ cB (a, b, c) = (n == 0)) ∨ (¬ n < 1 ∧ e = 0 ∧ cB (a, b, c) = false ∧ x ≤ y ∧ y < g.length ∧ ((k == 2) = true ∨ x = y) ∧
          ((rT (townOf g) a x ∧ rT (townOf g) b y) ∨ (rT (townOf g) a y ∧ rT (townOf g) b x)) ∧ (cB (x, y, c) = true ∨ ∀ z, z < g.length → rT (townOf g) c z → 0 ≤ rkI L (x, y, z) ∧ rkI L (x, y, z) < n))) := by
      by_cases hn1 : n < 1
      · have h1 := hnone (q := (a, b, c)) (by rw [← hn]; exact hn1)
        have h2 := hzero hGp (by rw [← hn]; exact hn1)
        rw [h1] at hMp
        rw [← hn] at h2
        exact ⟨0, 0, 4, hMp, .inl ⟨hn1, rfl, h2⟩⟩
      · obtain ⟨h1, q, h2, h3, h4, h5, h6, h7⟩ := hstep hGp (by rw [← hn]; omega)
        rw [h2] at hMp
        rw [← hn] at h7
        exact ⟨q.1, q.2, 0, hMp, .inr ⟨hn1, rfl, h1, h3, h4, h5, h6, h7⟩⟩
    clear hMp
    obtain ⟨x, y, e, hMp, hcase⟩ := hmq
    simp -dsimp [h70]
    refine wk_dag (fun bs => ⟨dagT [(45, .t .ro (eIs g)), (46, .t .ro (eIs g)), (47, .t .ro (eI k)), (48, .agg [.t ka (eI a), .t kb (eI b), .t kc (eI c)]), (49, .t .fz (.agg [eI a, eI b, eI c])), (50, .t .fz (.tup [.agg [eI x, eI y], eI e])), (44, .t .fz (.tup [.agg [eI x, eI y], eI e])), (51, .t .fz (.agg [eI x, eI y])), (52, .t .fz (eI e)), (12, .ptr 12 0), (2000, .undef), (13, .t .fz (eI e))] bs ++ [(11, pI i), (41, pI i), (9, .t .fz (eI n)), (4, .ptr 4 0), (6, .ptr 6 0), (1, .t .ro (eI k)), (3, .t .ro (eIs fl))],
        (if bs.getD 10 false then [(12, .blk 30 [.t .fz (eI x), .t .fz (eI y)])] else if bs.getD 9 false then [(12, .blk 30 [.t .fz (eI 0), .t .fz (eI 0)])] else []) ++ [(6, .blk 48 [.t ka (eI a), .t kb (eI b), .t kc (eI c)]), (4, .blk 23 [.t .ro (eIs g)])]⟩) dag87 mixed (by kernel_rfl) (le_of (by simp) (by simp)) ?_ ?_
    · unfold dag87
      simp -dsimp
      repeat' first
        | exact le_of (by simp) (by simp)
        | apply And.intro
        | (refine CallG.by hf ?_
           simp -dsimp)
        | (refine CallG.by hPp ?_
           simp -dsimp)
        | (refine CallG.by hMp ?_
           simp -dsimp)
    · rcases hcase with ⟨hn1, rfl, hcb⟩ | ⟨hn1, rfl, hcb, hxy, hyn, hxk, h6, h7⟩
      · have hcz : ((c : Int) == a) = decide (c = a) := by rw [Bool.eq_iff_iff]; simp; omega
        have hcy : ((c : Int) == b) = decide (c = b) := by rw [Bool.eq_iff_iff]; simp; omega
        have hcd : cB (a, b, c) = (decide (c = a) || decide (c = b)) := rfl
        rw [hcb] at hcd
        cases d1 : decide (c = a) with
        | true =>
          rw [d1] at hcz hcd
          have hz : (n == 0) = true := hcd
          simp -dsimp [hcz, hn1, hz]
          first
            | refine CallG.by (ha) ?_
            | refine CallGE.by (ha) ?_
            | refine CallGB.by (ha) ?_
          simp -dsimp
          refine retP_c ?_
          simp -dsimp
        | false =>
          rw [d1] at hcz hcd
          cases d2 : decide (c = b) with
          | true =>
            rw [d2] at hcy hcd
            have hz : (n == 0) = true := hcd
            simp -dsimp [hcz, hcy, hn1, hz]
            first
              | refine CallG.by (ha) ?_
              | refine CallGE.by (ha) ?_
              | refine CallGB.by (ha) ?_
            simp -dsimp
            refine retP_c ?_
            simp -dsimp
          | false =>
            rw [d2] at hcy hcd
            have hz : (n == 0) = false := hcd
            simp -dsimp [hcz, hcy, hn1, hz]
            first
              | refine CallG.by (ha) ?_
              | refine CallGE.by (ha) ?_
              | refine CallGB.by (ha) ?_
            simp -dsimp
            refine retP_c ?_
            simp -dsimp
      · obtain ⟨gp1, gp2, gp3, gp4⟩ := id hGp
        simp only at gp1 gp2 gp3
        have hcd : cB (a, b, c) = (decide (c = a) || decide (c = b)) := rfl
        rw [hcb] at hcd
        have hcd := hcd.symm
        rw [Bool.or_eq_false_iff, decide_eq_false_iff_not, decide_eq_false_iff_not] at hcd
        have d1 : ((c : Int) == a) = false := by simp; omega
        have d2 : ((c : Int) == b) = false := by simp; omega
        have x0 : ¬ (x : Int) < 0 := by omega
        have x1 : ¬ (y : Int) < x := by omega
        have x2 : ¬ (g.length : Int) ≤ y := by omega
        have han : a < g.length := by omega
        have hbn : b < g.length := by omega
        have hcn : c < g.length := gp3
        have hxn : x < g.length := by omega
        have f1 := hfar a x han hxn
        have f2 := hfar b y hbn hyn
        have f3 := hfar a y han hyn
        have f4 := hfar b x hbn hxn
        have hcc : rT (townOf g) c c := slf_town g c (by rw [town_len]; exact hcn)
        have hrlt : ∀ {z : Nat}, rT (townOf g) c z → z < g.length := fun {z} hz => by
          have := rT_lt (valid_town hv) (a := c) (by rw [town_len]; exact hcn) hz
          rw [town_len] at this
          exact this
        have hcB3 : cB (x, y, c) = true → ((c : Int) == x) = true ∨ (((c : Int) == x) = false ∧ ((c : Int) == y) = true) := fun h => by
          rw [cB_iff] at h
          simp only at h
          by_cases e : c = x
          · left; simp; omega
          · right
            exact ⟨by simp; omega, by simp; omega⟩
        have hcB4 : cB (x, y, c) = false → ((c : Int) == x) = false ∧ ((c : Int) == y) = false := fun h => by
          rw [cB_false] at h
          simp only at h
          exact ⟨by simp; omega, by simp; omega⟩
        cases b1 : ((townOf g).getD a 0).testBit x with
        | true =>
          rw [b1] at f1
          cases b2 : ((townOf g).getD b 0).testBit y with
          | true =>
            rw [b2] at f2
            simp -dsimp [d1, d2, hn1, x0, x1, x2]
            first
              | refine CallG.by (f1) ?_
              | refine CallGE.by (f1) ?_
              | refine CallGB.by (f1) ?_
            simp -dsimp
            first
              | refine CallG.by (f2) ?_
              | refine CallGE.by (f2) ?_
              | refine CallGB.by (f2) ?_
            simp -dsimp
            refine wk_dag (fun bs => ⟨dagT [(133, .ptr 12 0), (134, .t .fz (eI x)), (135, .ptr 12 1), (136, .t .fz (eI y)), (137, .ptr 6 0), (2000, .undef), (138, .ptr 6 1), (2001, .undef)] bs ++ [(15, .clo 34 [.ptr 4 0]), (12, .ptr 12 0), (11, pI i), (41, pI i), (9, .t .fz (eI n)), (4, .ptr 4 0), (6, .ptr 6 0), (1, .t .ro (eI k)), (3, .t .ro (eIs fl))],
                [(6, .blk 48 [if bs.getD 5 false then .t .fz (eI x) else .t ka (eI a), if bs.getD 7 false then .t .fz (eI y) else .t kb (eI b), .t kc (eI c)]), (12, .blk 30 [.t .fz (eI x), .t .fz (eI y)]), (4, .blk 23 [.t .ro (eIs g)])]⟩) dag816 mixed (by kernel_rfl) (le_of (by simp) (by simp)) ?_ ?_
            · unfold dag816
              simp -dsimp
              repeat' first
                | exact le_of (by simp) (by simp)
                | apply And.intro
            · simp -dsimp
              cases hc3 : cB (x, y, c) with
              | true =>
                rcases hcB3 hc3 with e1 | ⟨e1, e2⟩
                · simp -dsimp [e1]
                  first
                    | refine CallG.by (ha) ?_
                    | refine CallGE.by (ha) ?_
                    | refine CallGB.by (ha) ?_
                  simp -dsimp
                  refine retP_c ?_
                  simp -dsimp
                · simp -dsimp [e1, e2]
                  first
                    | refine CallG.by (ha) ?_
                    | refine CallGE.by (ha) ?_
                    | refine CallGB.by (ha) ?_
                  simp -dsimp
                  refine retP_c ?_
                  simp -dsimp
              | false =>
                obtain ⟨e1, e2⟩ := hcB4 hc3
                have hin := h7.resolve_left (by rw [hc3]; simp)
                have hin : ∀ z, rT (townOf g) c z → z < g.length ∧ (0 ≤ rkI L (x, y, z) ∧ rkI L (x, y, z) < n) := fun z hz => ⟨hrlt hz, hin z (hrlt hz) hz⟩
                by_cases hfl : (i : Int) < fl.length
                · have qi := at_ (l := fl) (i := i) (by omega)
                  obtain ⟨m, hm, hmn⟩ := hto (fl.getD i 0)
                  have htf := htoF (fl.getD i 0)
                  rw [hm] at htf
                  generalize fl.getD i 0 = fi at *
                  have hfm := hfar c m hcn hmn
                  have hcond : ¬ IntKind.u64.wrap (g.length : Int) = 0 := by
                    rw [IntKind.wrap_u64]
                    omega
                  simp -dsimp [e1, e2, hfl]
                  refine wk_draw 8 [6] mixed (by kernel_rfl) ?_
                  simp -dsimp [qi, hfl, hcond, ← htf]
                  first
                    | refine CallG.by (hfm) ?_
                    | refine CallGE.by (hfm) ?_
                    | refine CallGB.by (hfm) ?_
                  cases hcm : ((townOf g).getD c 0).testBit m with
                  | true =>
                    have hqz := hin m hcm
                    have hGz : GPl g.length (k == 2) (x, y, m) := ⟨hxy, hyn, hqz.1, hxk⟩
                    have hRz := hR (x, y, m) hGz
                    have hPz := hP (x, y, m)
                    simp only at hRz hPz
                    have hq2 := hqz.2
                    generalize hnow : rkI L (x, y, m) = now at *
                    have n1 : ¬ now < 0 := by omega
                    have n2 : ¬ n ≤ now := by omega
                    simp -dsimp
                    refine wk_draw 10 [4, 5] mixed (by kernel_rfl) ?_
                    simp -dsimp
                    first
                      | refine CallG.by (hf) ?_
                      | refine CallGE.by (hf) ?_
                      | refine CallGB.by (hf) ?_
                    simp -dsimp
                    first
                      | refine CallG.by (hPz) ?_
                      | refine CallGE.by (hPz) ?_
                      | refine CallGB.by (hPz) ?_
                    simp -dsimp
                    first
                      | refine CallG.by (hRz) ?_
                      | refine CallGE.by (hRz) ?_
                      | refine CallGB.by (hRz) ?_
                    simp -dsimp [n1, n2]
                    exact LoopP_next (i + 1, (x, y, m), (.fz, .fz, .fz), now) (le_of (by simp [hw]) (by simp)) ⟨by simp only; omega, hGz, hnow.symm, .inr (by simp only; omega), by simp only; omega⟩ (by simp only; omega)
                  | false =>
                    have hqz := hin c hcc
                    have hGz : GPl g.length (k == 2) (x, y, c) := ⟨hxy, hyn, hqz.1, hxk⟩
                    have hRz := hR (x, y, c) hGz
                    have hPz := hP (x, y, c)
                    simp only at hRz hPz
                    have hq2 := hqz.2
                    generalize hnow : rkI L (x, y, c) = now at *
                    have n1 : ¬ now < 0 := by omega
                    have n2 : ¬ n ≤ now := by omega
                    simp -dsimp
                    refine wk_draw 10 [4, 5] mixed (by kernel_rfl) ?_
                    simp -dsimp
                    first
                      | refine CallG.by (hf) ?_
                      | refine CallGE.by (hf) ?_
                      | refine CallGB.by (hf) ?_
                    simp -dsimp
                    first
                      | refine CallG.by (hPz) ?_
                      | refine CallGE.by (hPz) ?_
                      | refine CallGB.by (hPz) ?_
                    simp -dsimp
                    first
                      | refine CallG.by (hRz) ?_
                      | refine CallGE.by (hRz) ?_
                      | refine CallGB.by (hRz) ?_
                    simp -dsimp [n1, n2]
                    exact LoopP_next (i + 1, (x, y, c), (.fz, .fz, kc), now) (le_of (by simp [hw]) (by simp)) ⟨by simp only; omega, hGz, hnow.symm, .inr (by simp only; omega), by simp only; omega⟩ (by simp only; omega)
                · simp -dsimp [e1, e2, hfl]
                  have hqz := hin c hcc
                  have hGz : GPl g.length (k == 2) (x, y, c) := ⟨hxy, hyn, hqz.1, hxk⟩
                  have hRz := hR (x, y, c) hGz
                  have hPz := hP (x, y, c)
                  simp only at hRz hPz
                  have hq2 := hqz.2
                  generalize hnow : rkI L (x, y, c) = now at *
                  have n1 : ¬ now < 0 := by omega
                  have n2 : ¬ n ≤ now := by omega
                  skip
                  refine wk_draw 10 [4, 5] mixed (by kernel_rfl) ?_
                  simp -dsimp
                  first
                    | refine CallG.by (hf) ?_
                    | refine CallGE.by (hf) ?_
                    | refine CallGB.by (hf) ?_
                  simp -dsimp
                  first
                    | refine CallG.by (hPz) ?_
                    | refine CallGE.by (hPz) ?_
                    | refine CallGB.by (hPz) ?_
                  simp -dsimp
                  first
                    | refine CallG.by (hRz) ?_
                    | refine CallGE.by (hRz) ?_
                    | refine CallGB.by (hRz) ?_
                  simp -dsimp [n1, n2]
                  exact LoopP_next (i + 1, (x, y, c), (.fz, .fz, kc), now) (le_of (by simp [hw]) (by simp)) ⟨by simp only; omega, hGz, hnow.symm, .inr (by simp only; omega), by simp only; omega⟩ (by simp only; omega)
          | false =>
            rw [b2] at f2
            obtain ⟨b3, b4⟩ := h6.resolve_left (fun h => by have := h.2; rw [rT, b2] at this; cases this)
            rw [rT] at b3 b4
            rw [b3] at f3
            rw [b4] at f4
            simp -dsimp [d1, d2, hn1, x0, x1, x2]
            first
              | refine CallG.by (f1) ?_
              | refine CallGE.by (f1) ?_
              | refine CallGB.by (f1) ?_
            simp -dsimp
            first
              | refine CallG.by (f2) ?_
              | refine CallGE.by (f2) ?_
              | refine CallGB.by (f2) ?_
            simp -dsimp
            first
              | refine CallG.by (f3) ?_
              | refine CallGE.by (f3) ?_
              | refine CallGB.by (f3) ?_
            simp -dsimp
            first
              | refine CallG.by (f4) ?_
              | refine CallGE.by (f4) ?_
              | refine CallGB.by (f4) ?_
            simp -dsimp
            refine wk_dag (fun bs => ⟨dagT [(133, .ptr 12 0), (134, .t .fz (eI x)), (135, .ptr 12 1), (136, .t .fz (eI y)), (137, .ptr 6 0), (2000, .undef), (138, .ptr 6 1), (2001, .undef)] bs ++ [(15, .clo 34 [.ptr 4 0]), (12, .ptr 12 0), (11, pI i), (41, pI i), (9, .t .fz (eI n)), (4, .ptr 4 0), (6, .ptr 6 0), (1, .t .ro (eI k)), (3, .t .ro (eIs fl))],
                [(6, .blk 48 [if bs.getD 5 false then .t .fz (eI x) else .t ka (eI a), if bs.getD 7 false then .t .fz (eI y) else .t kb (eI b), .t kc (eI c)]), (12, .blk 30 [.t .fz (eI x), .t .fz (eI y)]), (4, .blk 23 [.t .ro (eIs g)])]⟩) dag816 mixed (by kernel_rfl) (le_of (by simp) (by simp)) ?_ ?_
            · unfold dag816
              simp -dsimp
              repeat' first
                | exact le_of (by simp) (by simp)
                | apply And.intro
            · simp -dsimp
              cases hc3 : cB (x, y, c) with
              | true =>
                rcases hcB3 hc3 with e1 | ⟨e1, e2⟩
                · simp -dsimp [e1]
                  first
                    | refine CallG.by (ha) ?_
                    | refine CallGE.by (ha) ?_
                    | refine CallGB.by (ha) ?_
                  simp -dsimp
                  refine retP_c ?_
                  simp -dsimp
                · simp -dsimp [e1, e2]
                  first
                    | refine CallG.by (ha) ?_
                    | refine CallGE.by (ha) ?_
                    | refine CallGB.by (ha) ?_
                  simp -dsimp
                  refine retP_c ?_
                  simp -dsimp
              | false =>
                obtain ⟨e1, e2⟩ := hcB4 hc3
                have hin := h7.resolve_left (by rw [hc3]; simp)
                have hin : ∀ z, rT (townOf g) c z → z < g.length ∧ (0 ≤ rkI L (x, y, z) ∧ rkI L (x, y, z) < n) := fun z hz => ⟨hrlt hz, hin z (hrlt hz) hz⟩
                by_cases hfl : (i : Int) < fl.length
                · have qi := at_ (l := fl) (i := i) (by omega)
                  obtain ⟨m, hm, hmn⟩ := hto (fl.getD i 0)
                  have htf := htoF (fl.getD i 0)
                  rw [hm] at htf
                  generalize fl.getD i 0 = fi at *
                  have hfm := hfar c m hcn hmn
                  have hcond : ¬ IntKind.u64.wrap (g.length : Int) = 0 := by
                    rw [IntKind.wrap_u64]
                    omega
                  simp -dsimp [e1, e2, hfl]
                  refine wk_draw 8 [6] mixed (by kernel_rfl) ?_
                  simp -dsimp [qi, hfl, hcond, ← htf]
                  first
                    | refine CallG.by (hfm) ?_
                    | refine CallGE.by (hfm) ?_
                    | refine CallGB.by (hfm) ?_
                  cases hcm : ((townOf g).getD c 0).testBit m with
                  | true =>
                    have hqz := hin m hcm
                    have hGz : GPl g.length (k == 2) (x, y, m) := ⟨hxy, hyn, hqz.1, hxk⟩
                    have hRz := hR (x, y, m) hGz
                    have hPz := hP (x, y, m)
                    simp only at hRz hPz
                    have hq2 := hqz.2
                    generalize hnow : rkI L (x, y, m) = now at *
                    have n1 : ¬ now < 0 := by omega
                    have n2 : ¬ n ≤ now := by omega
                    simp -dsimp
                    refine wk_draw 10 [4, 5] mixed (by kernel_rfl) ?_
                    simp -dsimp
                    first
                      | refine CallG.by (hf) ?_
                      | refine CallGE.by (hf) ?_
                      | refine CallGB.by (hf) ?_
                    simp -dsimp
                    first
                      | refine CallG.by (hPz) ?_
                      | refine CallGE.by (hPz) ?_
                      | refine CallGB.by (hPz) ?_
                    simp -dsimp
                    first
                      | refine CallG.by (hRz) ?_
                      | refine CallGE.by (hRz) ?_
                      | refine CallGB.by (hRz) ?_
                    simp -dsimp [n1, n2]
                    exact LoopP_next (i + 1, (x, y, m), (.fz, .fz, .fz), now) (le_of (by simp [hw]) (by simp)) ⟨by simp only; omega, hGz, hnow.symm, .inr (by simp only; omega), by simp only; omega⟩ (by simp only; omega)
                  | false =>
                    have hqz := hin c hcc
                    have hGz : GPl g.length (k == 2) (x, y, c) := ⟨hxy, hyn, hqz.1, hxk⟩
                    have hRz := hR (x, y, c) hGz
                    have hPz := hP (x, y, c)
                    simp only at hRz hPz
                    have hq2 := hqz.2
                    generalize hnow : rkI L (x, y, c) = now at *
                    have n1 : ¬ now < 0 := by omega
                    have n2 : ¬ n ≤ now := by omega
                    simp -dsimp
                    refine wk_draw 10 [4, 5] mixed (by kernel_rfl) ?_
                    simp -dsimp
                    first
                      | refine CallG.by (hf) ?_
                      | refine CallGE.by (hf) ?_
                      | refine CallGB.by (hf) ?_
                    simp -dsimp
                    first
                      | refine CallG.by (hPz) ?_
                      | refine CallGE.by (hPz) ?_
                      | refine CallGB.by (hPz) ?_
                    simp -dsimp
                    first
                      | refine CallG.by (hRz) ?_
                      | refine CallGE.by (hRz) ?_
                      | refine CallGB.by (hRz) ?_
                    simp -dsimp [n1, n2]
                    exact LoopP_next (i + 1, (x, y, c), (.fz, .fz, kc), now) (le_of (by simp [hw]) (by simp)) ⟨by simp only; omega, hGz, hnow.symm, .inr (by simp only; omega), by simp only; omega⟩ (by simp only; omega)
                · simp -dsimp [e1, e2, hfl]
                  have hqz := hin c hcc
                  have hGz : GPl g.length (k == 2) (x, y, c) := ⟨hxy, hyn, hqz.1, hxk⟩
                  have hRz := hR (x, y, c) hGz
                  have hPz := hP (x, y, c)
                  simp only at hRz hPz
                  have hq2 := hqz.2
                  generalize hnow : rkI L (x, y, c) = now at *
                  have n1 : ¬ now < 0 := by omega
                  have n2 : ¬ n ≤ now := by omega
                  skip
                  refine wk_draw 10 [4, 5] mixed (by kernel_rfl) ?_
                  simp -dsimp
                  first
                    | refine CallG.by (hf) ?_
                    | refine CallGE.by (hf) ?_
                    | refine CallGB.by (hf) ?_
                  simp -dsimp
                  first
                    | refine CallG.by (hPz) ?_
                    | refine CallGE.by (hPz) ?_
                    | refine CallGB.by (hPz) ?_
                  simp -dsimp
                  first
                    | refine CallG.by (hRz) ?_
                    | refine CallGE.by (hRz) ?_
                    | refine CallGB.by (hRz) ?_
                  simp -dsimp [n1, n2]
                  exact LoopP_next (i + 1, (x, y, c), (.fz, .fz, kc), now) (le_of (by simp [hw]) (by simp)) ⟨by simp only; omega, hGz, hnow.symm, .inr (by simp only; omega), by simp only; omega⟩ (by simp only; omega)
        | false =>
          rw [b1] at f1
          obtain ⟨b3, b4⟩ := h6.resolve_left (fun h => by have := h.1; rw [rT, b1] at this; cases this)
          rw [rT] at b3 b4
          rw [b3] at f3
          rw [b4] at f4
          simp -dsimp [d1, d2, hn1, x0, x1, x2]
          first
            | refine CallG.by (f1) ?_
            | refine CallGE.by (f1) ?_
            | refine CallGB.by (f1) ?_
          simp -dsimp
          first
            | refine CallG.by (f3) ?_
            | refine CallGE.by (f3) ?_
            | refine CallGB.by (f3) ?_
          simp -dsimp
          first
            | refine CallG.by (f4) ?_
            | refine CallGE.by (f4) ?_
            | refine CallGB.by (f4) ?_
          simp -dsimp
          refine wk_dag (fun bs => ⟨dagT [(133, .ptr 12 0), (134, .t .fz (eI x)), (135, .ptr 12 1), (136, .t .fz (eI y)), (137, .ptr 6 0), (2000, .undef), (138, .ptr 6 1), (2001, .undef)] bs ++ [(15, .clo 34 [.ptr 4 0]), (12, .ptr 12 0), (11, pI i), (41, pI i), (9, .t .fz (eI n)), (4, .ptr 4 0), (6, .ptr 6 0), (1, .t .ro (eI k)), (3, .t .ro (eIs fl))],
              [(6, .blk 48 [if bs.getD 5 false then .t .fz (eI x) else .t ka (eI a), if bs.getD 7 false then .t .fz (eI y) else .t kb (eI b), .t kc (eI c)]), (12, .blk 30 [.t .fz (eI x), .t .fz (eI y)]), (4, .blk 23 [.t .ro (eIs g)])]⟩) dag816 mixed (by kernel_rfl) (le_of (by simp) (by simp)) ?_ ?_
          · unfold dag816
            simp -dsimp
            repeat' first
              | exact le_of (by simp) (by simp)
              | apply And.intro
          · simp -dsimp
            cases hc3 : cB (x, y, c) with
            | true =>
              rcases hcB3 hc3 with e1 | ⟨e1, e2⟩
              · simp -dsimp [e1]
                first
                  | refine CallG.by (ha) ?_
                  | refine CallGE.by (ha) ?_
                  | refine CallGB.by (ha) ?_
                simp -dsimp
                refine retP_c ?_
                simp -dsimp
              · simp -dsimp [e1, e2]
                first
                  | refine CallG.by (ha) ?_
                  | refine CallGE.by (ha) ?_
                  | refine CallGB.by (ha) ?_
                simp -dsimp
                refine retP_c ?_
                simp -dsimp
            | false =>
              obtain ⟨e1, e2⟩ := hcB4 hc3
              have hin := h7.resolve_left (by rw [hc3]; simp)
              have hin : ∀ z, rT (townOf g) c z → z < g.length ∧ (0 ≤ rkI L (x, y, z) ∧ rkI L (x, y, z) < n) := fun z hz => ⟨hrlt hz, hin z (hrlt hz) hz⟩
              by_cases hfl : (i : Int) < fl.length
              · have qi := at_ (l := fl) (i := i) (by omega)
                obtain ⟨m, hm, hmn⟩ := hto (fl.getD i 0)
                have htf := htoF (fl.getD i 0)
                rw [hm] at htf
                generalize fl.getD i 0 = fi at *
                have hfm := hfar c m hcn hmn
                have hcond : ¬ IntKind.u64.wrap (g.length : Int) = 0 := by
                  rw [IntKind.wrap_u64]
                  omega
                simp -dsimp [e1, e2, hfl]
                refine wk_draw 8 [6] mixed (by kernel_rfl) ?_
                simp -dsimp [qi, hfl, hcond, ← htf]
                first
                  | refine CallG.by (hfm) ?_
                  | refine CallGE.by (hfm) ?_
                  | refine CallGB.by (hfm) ?_
                cases hcm : ((townOf g).getD c 0).testBit m with
                | true =>
                  have hqz := hin m hcm
                  have hGz : GPl g.length (k == 2) (x, y, m) := ⟨hxy, hyn, hqz.1, hxk⟩
                  have hRz := hR (x, y, m) hGz
                  have hPz := hP (x, y, m)
                  simp only at hRz hPz
                  have hq2 := hqz.2
                  generalize hnow : rkI L (x, y, m) = now at *
                  have n1 : ¬ now < 0 := by omega
                  have n2 : ¬ n ≤ now := by omega
                  simp -dsimp
                  refine wk_draw 10 [4, 5] mixed (by kernel_rfl) ?_
                  simp -dsimp
                  first
                    | refine CallG.by (hf) ?_
                    | refine CallGE.by (hf) ?_
                    | refine CallGB.by (hf) ?_
                  simp -dsimp
                  first
                    | refine CallG.by (hPz) ?_
                    | refine CallGE.by (hPz) ?_
                    | refine CallGB.by (hPz) ?_
                  simp -dsimp
                  first
                    | refine CallG.by (hRz) ?_
                    | refine CallGE.by (hRz) ?_
                    | refine CallGB.by (hRz) ?_
                  simp -dsimp [n1, n2]
                  exact LoopP_next (i + 1, (x, y, m), (.fz, .fz, .fz), now) (le_of (by simp [hw]) (by simp)) ⟨by simp only; omega, hGz, hnow.symm, .inr (by simp only; omega), by simp only; omega⟩ (by simp only; omega)
                | false =>
                  have hqz := hin c hcc
                  have hGz : GPl g.length (k == 2) (x, y, c) := ⟨hxy, hyn, hqz.1, hxk⟩
                  have hRz := hR (x, y, c) hGz
                  have hPz := hP (x, y, c)
                  simp only at hRz hPz
                  have hq2 := hqz.2
                  generalize hnow : rkI L (x, y, c) = now at *
                  have n1 : ¬ now < 0 := by omega
                  have n2 : ¬ n ≤ now := by omega
                  simp -dsimp
                  refine wk_draw 10 [4, 5] mixed (by kernel_rfl) ?_
                  simp -dsimp
                  first
                    | refine CallG.by (hf) ?_
                    | refine CallGE.by (hf) ?_
                    | refine CallGB.by (hf) ?_
                  simp -dsimp
                  first
                    | refine CallG.by (hPz) ?_
                    | refine CallGE.by (hPz) ?_
                    | refine CallGB.by (hPz) ?_
                  simp -dsimp
                  first
                    | refine CallG.by (hRz) ?_
                    | refine CallGE.by (hRz) ?_
                    | refine CallGB.by (hRz) ?_
                  simp -dsimp [n1, n2]
                  exact LoopP_next (i + 1, (x, y, c), (.fz, .fz, kc), now) (le_of (by simp [hw]) (by simp)) ⟨by simp only; omega, hGz, hnow.symm, .inr (by simp only; omega), by simp only; omega⟩ (by simp only; omega)
              · simp -dsimp [e1, e2, hfl]
                have hqz := hin c hcc
                have hGz : GPl g.length (k == 2) (x, y, c) := ⟨hxy, hyn, hqz.1, hxk⟩
                have hRz := hR (x, y, c) hGz
                have hPz := hP (x, y, c)
                simp only at hRz hPz
                have hq2 := hqz.2
                generalize hnow : rkI L (x, y, c) = now at *
                have n1 : ¬ now < 0 := by omega
                have n2 : ¬ n ≤ now := by omega
                skip
                refine wk_draw 10 [4, 5] mixed (by kernel_rfl) ?_
                simp -dsimp
                first
                  | refine CallG.by (hf) ?_
                  | refine CallGE.by (hf) ?_
                  | refine CallGB.by (hf) ?_
                simp -dsimp
                first
                  | refine CallG.by (hPz) ?_
                  | refine CallGE.by (hPz) ?_
                  | refine CallGB.by (hPz) ?_
                simp -dsimp
                first
                  | refine CallG.by (hRz) ?_
                  | refine CallGE.by (hRz) ?_
                  | refine CallGB.by (hRz) ?_
                simp -dsimp [n1, n2]
                exact LoopP_next (i + 1, (x, y, c), (.fz, .fz, kc), now) (le_of (by simp [hw]) (by simp)) ⟨by simp only; omega, hGz, hnow.symm, .inr (by simp only; omega), by simp only; omega⟩ (by simp only; omega)
end Go.Proofs.YtgcncgocdfioiaaDoor
