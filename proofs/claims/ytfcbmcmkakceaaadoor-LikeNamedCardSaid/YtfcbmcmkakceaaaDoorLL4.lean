import Derived.Test.YtfcbmcmkakceaaaDoorLL3
/- LL4: the law of LikeNamed. -/
set_option linter.unusedVariables false
set_option linter.unusedSimpArgs false
set_option maxRecDepth 20000
namespace Go.Proofs.YtfcbmcmkakceaaaDoor
open Go Go.PS
attribute [-simp] isKeyK List.map_take
theorem rotS_lt (s b n : Nat) : rotS s b n < 2 ^ n := by
  unfold rotS
  have h1 : ((s <<< b) ||| (s >>> (n - b))) &&& (2 ^ n - 1) ≤ 2 ^ n - 1 := Nat.and_le_right
  have h2 := Nat.two_pow_pos n
  omega
theorem getD_set {l : List Nat} {i : Nat} (x : Nat) (hi : i < l.length) (j : Nat) : (l.set i x).getD j 0 = if j = i then x else l.getD j 0 := by
  rw [List.getD_eq_getElem?_getD, List.getElem?_set]
  by_cases e : i = j
  · subst e
    simp [hi]
  · have e' : ¬ j = i := fun h => e h.symm
    simp [e, e', List.getD_eq_getElem?_getD]
theorem named_law (g : List Int) (by_ : Int) : PCall Tryd.prog 9 [eIs g, eI by_] (pB true) [] := by
  refine pcall_wp _ Tryd.func9 rfl (by kernel_rfl) rfl ?_
  have hv := valid_spec g
  have haw := awake_spec
  cases hg : isgB g with
  | false =>
    rw [hg] at hv
    simp -dsimp
    first
      | refine CallG.by (hv) ?_
      | refine CallGE.by (hv) ?_
      | refine CallGB.by (hv) ?_
    simp -dsimp
    first
      | refine CallG.by (haw) ?_
      | refine CallGE.by (haw) ?_
      | refine CallGB.by (haw) ?_
    simp -dsimp
    refine retP_c ?_
    simp -dsimp
  | true =>
    rw [hg] at hv
    have hf := few_spec g
    rw [(take_isg g).2 hg] at hf
    have hT := town_tow hg
    have hTl := town_len g
    have h6 := hT.le
    have hp := hT.pos
    have hgl : g.length ≤ 6 := by omega
    have hul : IntKind.u64.wrap (g.length : Int) = g.length := by
      rw [IntKind.wrap_u64]
      omega
    have hux : 0 ≤ IntKind.u64.wrap by_ ∧ IntKind.u64.wrap by_ < 18446744073709551616 := by
      rw [IntKind.wrap_u64]
      omega
    generalize hue : IntKind.u64.wrap by_ = ux at hux
    obtain ⟨b, hb⟩ : ∃ b : Nat, ux.tmod (g.length : Int) = b := ⟨(ux.tmod g.length).toNat, by
      have := Int.tmod_nonneg (g.length : Int) hux.1
      omega⟩
    have hbl : b < g.length := by
      have := Int.tmod_lt_of_pos ux (show (0 : Int) < g.length by omega)
      omega
    have hne : g ≠ [] := by
      intro e
      rw [e] at hbl
      simp at hbl
    have hne0 : ¬ g.length = 0 := by omega
    have hwb := wr (n := (b : Int)) (by omega) (by omega)
    have hb1 : (g.length : Int) ≤ 140737488355328 := by omega
    have hb2 : 8 * (g.length : Int) ≤ 281474976710656 := by omega
    have hz : (iL (List.replicate g.length 0)).map cI = List.replicate g.length [eI 0] := by simp [iL, cI]
    have h64 : 2 ^ g.length ≤ 2 ^ 6 := Nat.pow_le_pow_right (by decide) hgl
    have hpos := Nat.two_pow_pos g.length
    have hsh := shl1 g.length (by omega)
    have hws := wr (n := ((2 ^ g.length : Nat) : Int) - 1) (by omega) (by omega)
    have hes : ((2 ^ g.length : Nat) : Int) - 1 = ((2 ^ g.length - 1 : Nat) : Int) := by omega
    rw [hes] at hws
    obtain ⟨M, hM⟩ : ∃ M, M = 2 ^ g.length - 1 := ⟨_, rfl⟩
    obtain ⟨N, hN⟩ : ∃ N, N = 2 ^ g.length := ⟨_, rfl⟩
    rw [← hM] at hws hes
    rw [← hN] at hsh hes
    have hwd := wr (n := (g.length : Int) - b) (by omega) (by omega)
    have hed : (g.length : Int) - b = ((g.length - b : Nat) : Int) := by omega
    rw [hed] at hwd
    simp -dsimp
    first
      | refine CallG.by (hv) ?_
      | refine CallGE.by (hv) ?_
      | refine CallGB.by (hv) ?_
    simp -dsimp [hul, hue, hb, hne, hne0, hwb, hb1, hb2]
    refine wk_loop (fun p : Nat × List Nat => ⟨[(34, pI p.1), (33, pI g.length), (32, .t .ro (eIs g)), (6, .osl 31), (5, pI g.length), (0, .t .ro (eIs g)), (1, pI b)], [(31, .row 3 1 .fz ((iL p.2).map cI))]⟩)
      (fun p => p.1 ≤ g.length ∧ p.2.length = g.length ∧ ∀ k, k < p.1 → p.2.getD ((k + b) % g.length) 0 = rotS ((townOf g).getD k 0) b g.length) (fun p => g.length - p.1) (0, List.replicate g.length 0)
      (le_of (by simp) (by simp [hz])) ⟨by simp, by simp, fun k hk => by simp at hk⟩ fun ⟨i, H⟩ ⟨hi, hHl, hH⟩ => ?_
    dsimp only at hi hHl hH
    simp -dsimp
    refine condX_dec (fun hx => ?_) (fun hx => ?_)
    · have hw := wr (n := (i : Int) + 1) (by omega) (by omega)
      have hxT : i < (townOf g).length := by omega
      have q1 := iL_at (l := townOf g) (i := i) hxT
      rw [town_back hg] at q1
      have hti := hT.get i
      have hst : ∀ k, k < i + 1 → (H.set ((i + b) % g.length) (rotS ((townOf g).getD i 0) b g.length)).getD ((k + b) % g.length) 0 = rotS ((townOf g).getD k 0) b g.length := fun k hk => by
        have hlt : (i + b) % g.length < H.length := by rw [hHl]; exact Nat.mod_lt _ (by omega)
        rw [getD_set _ hlt]
        split
        · rename_i e
          rw [rot_inj (by omega) hx hbl e]
        · rename_i e
          have : k ≠ i := fun h => e (by rw [h])
          exact hH k (by omega)
      rw [hTl] at hti
      generalize (townOf g).getD i 0 = s at q1 hti hst
      have hwa := wr (n := (i : Int) + b) (by omega) (by omega)
      have hmod : ((i : Int) + b).tmod (g.length : Int) = (((i + b) % g.length : Nat) : Int) := by
        rw [← Int.natCast_add, Int.ofNat_tmod]
      have hml : (i + b) % g.length < g.length := Nat.mod_lt _ (by omega)
      have hs1 := shl_nat s b (by omega) (by omega)
      have hs2 := shrI_nat s (g.length - b) (by omega)
      have hle1 : s <<< b ≤ 64 * 64 := by
        rw [Nat.shiftLeft_eq]
        have : 2 ^ b ≤ 2 ^ 6 := Nat.pow_le_pow_right (by decide) (by omega)
        exact Nat.mul_le_mul (by omega) (by omega)
      have hle2 : s >>> (g.length - b) ≤ s := by
        rw [Nat.shiftRight_eq_div_pow]
        exact Nat.div_le_self _ _
      have hor := orI_nat (s <<< b) (s >>> (g.length - b)) (by omega) (by omega)
      have hol : s <<< b ||| s >>> (g.length - b) < 2 ^ 13 := Nat.or_lt_two_pow (by omega) (by omega)
      have han := andI_nat (s <<< b ||| s >>> (g.length - b)) M (by omega) (by omega)
      have hrot : rotS s b g.length = (s <<< b ||| s >>> (g.length - b)) &&& M := by rw [hM]; rfl
      rw [← hrot] at han
      generalize rotS s b g.length = R at *
      generalize s <<< b ||| s >>> (g.length - b) = Z at *
      generalize s <<< b = Z1 at *
      generalize s >>> (g.length - b) = Z2 at *
      generalize (i + b) % g.length = j at *
      have i1 : (i : Int) < g.length := by omega
      have i5 : (0 : Int) ≤ i := by omega
      have j1 : (j : Int) < H.length := by omega
      have j2 : j < H.length := by omega
      have j5 : (0 : Int) ≤ j := by omega
      have d5 : (0 : Int) ≤ ((g.length - b : Nat) : Int) := by omega
      have hset : List.map cI (iL (H.set j R)) = (List.map cI (iL H)).set j [eI R] := by
        rw [iL_set, List.map_set]
        rfl
      simp -dsimp [i1, i5, q1]
      refine wk_draw 19 [] mixed (by kernel_rfl) ?_
      simp -dsimp [hwa, hmod, hne, hs1, hed, hwd, hs2, hor, hsh, hes, hws, han, j1, j2, j5, d5]
      refine LoopP_next (i + 1, H.set j R) (le_of (by simp [hw]) (by simp [hset])) ⟨by simp only; omega, by simp [hHl], hst⟩ (by simp only; omega)
    · have hi' : i = g.length := by omega
      subst hi'
      have hr : Rot (townOf g) H b := ⟨by omega, fun k hk => by rw [hTl] at hk ⊢; exact hH k hk⟩
      have hbT : b < (townOf g).length := by omega
      have hHt := rot_tow hT hbT hr
      have hiso := rot_iso hT hbT hr
      obtain ⟨u1, u2⟩ := tow_isg hHt
      obtain ⟨hcol, hrounds⟩ := hiso.colN hT hHt (by omega)
      have hmem := (names_iso hT hHt).2 hiso
      have hcl := clone32_fz (iL H) (by simp; omega)
      have r1 := refine_spec g
      have r2 := refine_spec (iL H)
      have r3 := same_spec g (iL H)
      rw [refF, hg] at r1
      rw [refF, u1, u2] at r2
      rw [sameF, hg, u1, u2] at r3
      have la := (colN_full (townOf g)).1
      have lb := (colN_full H).1
      obtain ⟨l, hl⟩ : ∃ l, (namesOf (townOf g) H).head? = some l := by
        cases hn : namesOf (townOf g) H with
        | nil => rw [hn] at hmem; cases hmem
        | cons y ys => exact ⟨y, rfl⟩
      have hli := (names_iso hT hHt).1 (List.mem_of_mem_head? hl)
      obtain ⟨hcol2, _⟩ := hli.colN hT hHt (by omega)
      have hll := hli.len
      have hlt := hli.lt
      rw [hl] at r3
      simp only [Bool.and_self, if_true] at r1 r2 r3
      rw [hrounds] at r2
      have hcolb : ∀ v, v < g.length → (colN H).1.getD ((v + b) % g.length) 0 = (colN (townOf g)).1.getD v 0 := fun v hv => by
        have := hcol v (by omega)
        rw [rotL_get (by omega), hTl] at this
        exact this
      have hcoll : ∀ v, v < g.length → (colN H).1.getD (l.getD v 0) 0 = (colN (townOf g)).1.getD v 0 := fun v hv => hcol2 v (by omega)
      generalize (colN (townOf g)).1 = A at *
      generalize (colN (townOf g)).2 = ra at *
      generalize (colN H).1 = B at *
      have e0 : ((ra : Int) != (ra : Int)) = false := by simp
      have e1 : ((A.length : Int) != (g.length : Int)) = false := by rw [bne_eq_false_iff_eq]; omega
      have e2 : ((B.length : Int) != (g.length : Int)) = false := by rw [bne_eq_false_iff_eq]; omega
      have e3 : ((l.length : Int) != (g.length : Int)) = false := by rw [bne_eq_false_iff_eq]; omega
      simp -dsimp
      first
        | refine CallG.by (hf) ?_
        | refine CallGE.by (hf) ?_
        | refine CallGB.by (hf) ?_
      simp -dsimp
      first
        | refine CallG.by (r1) ?_
        | refine CallGE.by (r1) ?_
        | refine CallGB.by (r1) ?_
      simp -dsimp
      first
        | refine CallG.by (hcl) ?_
        | refine CallGE.by (hcl) ?_
        | refine CallGB.by (hcl) ?_
      simp -dsimp
      first
        | refine CallG.by (r2) ?_
        | refine CallGE.by (r2) ?_
        | refine CallGB.by (r2) ?_
      simp -dsimp
      first
        | refine CallG.by (hf) ?_
        | refine CallGE.by (hf) ?_
        | refine CallGB.by (hf) ?_
      simp -dsimp
      first
        | refine CallG.by (hcl) ?_
        | refine CallGE.by (hcl) ?_
        | refine CallGB.by (hcl) ?_
      simp -dsimp
      first
        | refine CallG.by (r3) ?_
        | refine CallGE.by (r3) ?_
        | refine CallGB.by (r3) ?_
      simp -dsimp [e0, e1, e2, e3]
      refine wk_loop (fun v : Nat => ⟨[(116, pI v), (115, pI g.length), (12, .t .fz (eNs B)), (9, .t .fz (eNs A)), (15, .t .fz (eNs l)), (5, pI g.length), (1, pI b)], []⟩)
        (fun v => v ≤ g.length) (fun v => g.length - v) 0
        (le_of (by simp) (by simp)) (by omega) fun v hvl => ?_
      simp -dsimp
      refine condX_dec (fun hy => ?_) (fun hy => ?_)
      · have hw := wr (n := (v : Int) + 1) (by omega) (by omega)
        have hwa := wr (n := (v : Int) + b) (by omega) (by omega)
        have hmod : ((v : Int) + b).tmod (g.length : Int) = (((v + b) % g.length : Nat) : Int) := by
          rw [← Int.natCast_add, Int.ofNat_tmod]
        have hml : (v + b) % g.length < g.length := Nat.mod_lt _ (by omega)
        have p1 := iL_at (l := B) (i := (v + b) % g.length) (by omega)
        have p2 := iL_at (l := A) (i := v) (by omega)
        have p3 := iL_at (l := l) (i := v) (by omega)
        have hlv := hlt v (by omega)
        have p4 := iL_at (l := B) (i := l.getD v 0) (by omega)
        rw [hcolb v hy] at p1
        rw [hcoll v hy] at p4
        generalize A.getD v 0 = a at *
        generalize (v + b) % g.length = j at *
        generalize l.getD v 0 = z at *
        have k1 : (j : Int) < B.length := by omega
        have k2 : (v : Int) < A.length := by omega
        have k3 : (v : Int) < l.length := by omega
        have k4 : (z : Int) < B.length := by omega
        have k5 : (0 : Int) ≤ j := by omega
        have k6 : (0 : Int) ≤ v := by omega
        have k7 : (0 : Int) ≤ z := by omega
        have k8 : ¬ (z : Int) < 0 := by omega
        have k9 : ¬ (g.length : Int) ≤ z := by omega
        have k10 : ¬ g.length ≤ z := by omega
        have ea : ((a : Int) != (a : Int)) = false := by simp
        simp -dsimp
        refine wk_draw 40 [] mixed (by kernel_rfl) ?_
        simp -dsimp [hwa, hmod, hne, k1, k2, k3, k4, k5, k6, k7, k8, k9, k10, p1, p2, p3, p4, ea]
        refine LoopP_next (v + 1) (le_of (by simp [hw]) (by simp)) (by omega) (by omega)
      · simp -dsimp
        first
          | refine CallG.by (haw) ?_
          | refine CallGE.by (haw) ?_
          | refine CallGB.by (haw) ?_
        simp -dsimp
        refine retP_c ?_
        simp -dsimp
end Go.Proofs.YtfcbmcmkakceaaaDoor
