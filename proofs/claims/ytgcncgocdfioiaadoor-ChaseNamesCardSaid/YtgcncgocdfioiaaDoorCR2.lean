import Derived.Test.YtgcncgocdfioiaaDoorCR1
import Derived.Test.YtgcncgocdfioiaaDoorCW5
/- CR2: the reference: corners, orders, cores. -/
set_option linter.unusedVariables false
set_option linter.unusedSimpArgs false
set_option maxRecDepth 20000
namespace Go.Proofs.YtgcncgocdfioiaaDoor
open Go Go.PS
attribute [-simp] isKeyK List.map_take
theorem isg_facts {g : List Int} (hg : isgB g = true) : Twn (townOf g) ∧ (townOf g).length = g.length ∧ ∀ i, i < g.length → ∃ m : Nat, g.getD i 0 = m ∧ m < 2 ^ g.length ∧ (townOf g).getD i 0 = m ||| 2 ^ i := by
  simp only [isgB, Bool.and_eq_true, decide_eq_true_eq] at hg
  obtain ⟨⟨g1, g8⟩, hg⟩ := hg
  refine ⟨town_ok g1 g8 hg, town_len g, fun i hi => ?_⟩
  have := List.all_eq_true.1 hg i (List.mem_range.2 hi)
  simp only [rowB, Bool.and_eq_true] at this
  have h1 := rowA_lt this.1
  exact ⟨(g.getD i 0).toNat, by omega, by omega, town_get g i hi⟩
theorem valid_isg {g : List Int} (h : validG g = true) : isgB g = true := by
  rw [validG] at h
  simp only [Bool.and_eq_true] at h
  rw [isgB, h.1, h.2.1]
  rfl
theorem reach_spec (g : List Int) (hg : isgB g = true) (v : Nat) (hv : v < g.length) : PCall Tryd.prog 85 [eIs g, eI v] (pI ((townOf g).getD v 0 : Nat)) [] := by
  obtain ⟨ht, hl, hrow⟩ := isg_facts hg
  obtain ⟨m, hm, hmlt, htv⟩ := hrow v hv
  have h8 := ht.2.1
  have hN : 2 ^ g.length ≤ 2 ^ 8 := Nat.pow_le_pow_right (by decide) (by omega)
  refine pcall_wp _ Tryd.func85 rfl (by kernel_rfl) rfl ?_
  have hx := at_ (l := g) hv
  rw [hm] at hx
  have hil : (v : Int) < g.length := by omega
  have hs := shl1 v (by omega)
  have hp2 : 2 ^ v < 256 := Nat.lt_of_lt_of_le (Nat.pow_lt_pow_right (by decide) (show v < 8 by omega)) (by decide)
  have ho := orI_nat m (2 ^ v) (by omega) (by omega)
  rw [htv]
  generalize 2 ^ v = b at *
  simp -dsimp
  refine wk_draw 6 [] mixed (by kernel_rfl) ?_
  simp -dsimp [hil, hx, hs, ho]
  refine retP_c ?_
  simp -dsimp
/-- The reference's cover. -/
def rcov (t : List Nat) (s v u : Nat) : Bool := decide (u ≠ v) && (s.testBit v && (s.testBit u && (dif (t.getD v 0 &&& s) (t.getD u 0) == 0)))
theorem rcov_eq (t : List Nat) (s v u : Nat) : rcov t s v u = (s.testBit v && (s.testBit u && covF t u v s)) := by
  unfold rcov covF
  cases s.testBit v <;> cases s.testBit u <;> simp
theorem rcov_spec (g : List Int) (hg : isgB g = true) (s v u : Nat) (hs : s < 256) (hv : v < g.length) (hu : u < g.length) : PCall Tryd.prog 69 [eIs g, eI s, eI v, eI u] (pB (rcov (townOf g) s v u)) [] := by
  obtain ⟨ht, hl, _⟩ := isg_facts hg
  have h8 := ht.2.1
  refine pcall_wp _ Tryd.func69 rfl (by kernel_rfl) rfl ?_
  have hF : rcov (townOf g) s v u = (((u : Int) != v) && (s.testBit v && (s.testBit u && (((dif ((townOf g).getD v 0 &&& s) ((townOf g).getD u 0) : Nat) : Int) == 0)))) := by
    have a1 : ((u : Int) != v) = decide (u ≠ v) := by rw [Bool.eq_iff_iff]; simp; omega
    have a2 : ∀ n : Nat, ((n : Int) == 0) = (n == 0) := fun n => by rw [Bool.eq_iff_iff]; simp
    rw [a1, a2]
    rfl
  have r1 := reach_spec g hg v hv
  have r2 := reach_spec g hg u hu
  have t1 := ht.lt _ (getD_mem (l := townOf g) (i := u) (by omega))
  have t2 := ht.lt _ (getD_mem (l := townOf g) (i := v) (by omega))
  have b1 := and1 s (by omega) v (by omega)
  have b2 := and1 s (by omega) u (by omega)
  generalize (townOf g).getD u 0 = tu at *
  generalize (townOf g).getD v 0 = tv at *
  have h3 : tv &&& s < 256 := Nat.lt_of_le_of_lt Nat.and_le_left t2
  have e1 := andI_nat tv s (by omega) (by omega)
  have e2 := andnI_nat (tv &&& s) tu h3 t1
  have hv0 : (0 : Int) ≤ v := by omega
  have hu0 : (0 : Int) ≤ u := by omega
  cases hb : ((u : Int) != v)
  · rw [hb] at hF
    simp -dsimp [hb]
    refine retP_c ?_
    simp -dsimp [hF]
  rw [hb] at hF
  cases c1 : s.testBit v
  · rw [c1] at hF b1
    simp -dsimp [hb, hv0, b1]
    refine retP_c ?_
    simp -dsimp [hF]
  rw [c1] at hF b1
  cases c2 : s.testBit u
  · rw [c2] at hF b2
    simp -dsimp [hb, hv0, b1, hu0, b2]
    refine retP_c ?_
    simp -dsimp [hF]
  rw [c2] at hF b2
  simp -dsimp [hb, hv0, b1, hu0, b2]
  first
    | refine CallG.by (r1) ?_
    | refine CallGE.by (r1) ?_
    | refine CallGB.by (r1) ?_
  simp -dsimp [e1]
  first
    | refine CallG.by (r2) ?_
    | refine CallGE.by (r2) ?_
    | refine CallGB.by (r2) ?_
  simp -dsimp [e2]
  refine retP_c ?_
  simp -dsimp [hF]
def rcor (t : List Nat) (s v : Nat) : Bool := (List.range t.length).any (rcov t s v)
theorem any_range_at {n : Nat} (f : Nat → Bool) (i : Nat) (h : i < n) : ((List.range n).drop i).any f = (f i || ((List.range n).drop (i + 1)).any f) := by
  rw [List.drop_eq_getElem_cons (by simpa using h)]
  simp
theorem rcor_spec (g : List Int) (hg : isgB g = true) (s v : Nat) (hs : s < 256) (hv : v < g.length) : PCall Tryd.prog 82 [eIs g, eI s, eI v] (pB (rcor (townOf g) s v)) [] := by
  obtain ⟨ht, hl, _⟩ := isg_facts hg
  have h8 := ht.2.1
  refine pcall_wp _ Tryd.func82 rfl (by kernel_rfl) rfl ?_
  have hc := fun u hu => rcov_spec g hg s v u hs hv hu
  have hF : rcor (townOf g) s v = (List.range g.length).any (rcov (townOf g) s v) := by rw [rcor, hl]
  generalize rcov (townOf g) s v = f at *
  simp -dsimp
  refine wk_loop (fun i : Nat => ⟨[(10, pI i), (9, pI g.length), (0, .t .ro (eIs g)), (1, .t .ro (eI s)), (2, .t .ro (eI v))], []⟩)
    (fun i => i ≤ g.length ∧ rcor (townOf g) s v = ((List.range g.length).drop i).any f) (fun i => g.length - i) 0
    (le_of (by simp) (by simp)) ⟨by omega, by simpa using hF⟩ fun i ⟨hi, hr⟩ => ?_
  simp -dsimp
  refine condX_dec (fun h => ?_) (fun h => ?_)
  · have hw := wr (n := (i : Int) + 1) (by omega) (by omega)
    have hci := hc i h
    rw [any_range_at f i h] at hr
    generalize f i = b at *
    simp -dsimp
    first
      | refine CallG.by (hci) ?_
      | refine CallGE.by (hci) ?_
      | refine CallGB.by (hci) ?_
    cases b with
    | true =>
      simp -dsimp
      refine retP_c ?_
      simp -dsimp [hr]
    | false =>
      simp -dsimp
      refine LoopP_next (i + 1) (le_of (by simp [hw]) (by simp)) ⟨h, by simpa using hr⟩ (by omega)
  · have hi' : i = g.length := by omega
    rw [hi', List.drop_of_length_le (by simp), List.any_nil] at hr
    simp -dsimp
    refine retP_c ?_
    simp -dsimp [hr]
theorem bits_range {t : List Nat} (ht : Twn t) {s : Nat} (hs : s < 2 ^ t.length) : bitsL s = (List.range t.length).filter s.testBit := by
  have h8 := ht.2.1
  have e : List.range 8 = List.range t.length ++ (List.range (8 - t.length)).map (t.length + ·) := by
    rw [← List.range_add]
    congr 1
    omega
  rw [bitsL, e, List.filter_append]
  have : ((List.range (8 - t.length)).map (t.length + ·)).filter s.testBit = [] := by
    rw [List.filter_eq_nil_iff]
    intro x hx
    obtain ⟨y, _, rfl⟩ := List.mem_map.1 hx
    rw [Nat.testBit_lt_two_pow (Nat.lt_of_lt_of_le hs (Nat.pow_le_pow_right (by decide) (by omega)))]
    simp
  rw [this, List.append_nil]
theorem rcor_in {t : List Nat} (ht : Twn t) {s v : Nat} (hs : s < 2 ^ t.length) (hv : s.testBit v = true) : rcor t s v = corF t v s := by
  rw [rcor, corF, bits_range ht hs, List.any_filter]
  congr 1
  funext u
  rw [rcov_eq, hv, Bool.true_and]
theorem rcor_out {t : List Nat} {s v : Nat} (hv : s.testBit v = false) : rcor t s v = false := by
  rw [rcor, List.any_eq_false]
  intro u _
  rw [rcov_eq, hv]
  simp
theorem corL_ref {t : List Nat} (ht : Twn t) {s : Nat} (hs : s < 2 ^ t.length) : corL t s = prs t.length (rcov t s) := by
  rw [corL, pairsOf, bits_range ht hs, prs]
  have key : ∀ A B : List Nat, (A.filter s.testBit).flatMap (fun x => ((B.filter s.testBit).filter fun u => covF t u x s).map fun y => (x, y)) = A.flatMap fun a => (B.filter (rcov t s a)).map fun b => (a, b) := by
    intro A B
    induction A with
    | nil => rfl
    | cons a A ih =>
      rw [List.flatMap_cons, ← ih]
      cases h : s.testBit a with
      | true =>
        rw [List.filter_cons_of_pos h, List.flatMap_cons, List.filter_filter]
        congr 3
        funext u
        rw [rcov_eq, h, Bool.true_and, Bool.and_comm]
      | false =>
        rw [List.filter_cons_of_neg (by simp [h])]
        have : B.filter (rcov t s a) = [] := by
          rw [List.filter_eq_nil_iff]
          intro u _
          rw [rcov_eq, h]
          simp
        rw [this]
        rfl
  exact key _ _
theorem rcorners_spec (g : List Int) (hg : isgB g = true) (s : Nat) (hs : s < 256) : PCall Tryd.prog 36 [eIs g, eI s] (.t .fz (ePrs (prs g.length (rcov (townOf g) s)))) [] := by
  obtain ⟨ht, hl, _⟩ := isg_facts hg
  have h8 := ht.2.1
  refine pcall_wp _ Tryd.func36 rfl (by kernel_rfl) rfl ?_
  have hc := fun v u hv hu => rcov_spec g hg s v u hs hv hu
  generalize rcov (townOf g) s = f at *
  simp -dsimp
  refine lg_adoptT 5 5 30 2 (by simp; rfl) (by simp) ?_
  refine wk_loop (fun i : Nat => ⟨[(10, pI i), (9, pI g.length), (5, .osl 5), (0, .t .ro (eIs g)), (1, .t .ro (eI s))], [(5, .row 30 2 .fz ((prsTo g.length f i 0).map cPr))]⟩)
    (fun i => i ≤ g.length) (fun i => g.length - i) 0
    (le_of (by simp) (by simp [prsTo])) (by simp) fun i hi => ?_
  simp -dsimp
  refine condX_dec (fun h => ?_) (fun h => ?_)
  · have hw := wr (n := (i : Int) + 1) (by omega) (by omega)
    simp -dsimp
    refine wk_loop (fun b : Nat => ⟨[(6, pI i), (15, pI b), (14, pI g.length), (10, pI i), (9, pI g.length), (5, .osl 5), (0, .t .ro (eIs g)), (1, .t .ro (eI s))], [(5, .row 30 2 .fz ((prsTo g.length f i b).map cPr))]⟩)
      (fun b => b ≤ g.length) (fun b => g.length - b) 0
      (le_of (by simp) (by simp)) (by omega) fun b hb => ?_
    simp -dsimp
    refine condX_dec (fun h' => ?_) (fun h' => ?_)
    · have hwb := wr (n := (b : Int) + 1) (by omega) (by omega)
      have hS := prsTo_succ g.length f i b
      have hlen := prsTo_len g.length f i b
      have hm : i * g.length ≤ 8 * 8 := Nat.mul_le_mul (by omega) (by omega)
      have hbd : ((prsTo g.length f i b).length + 1) * 16 ≤ 140737488355328 := by omega
      have hcb := hc i b h h'
      generalize f i b = y at *
      simp -dsimp
      first
        | refine CallG.by (hcb) ?_
        | refine CallGE.by (hcb) ?_
        | refine CallGB.by (hcb) ?_
      cases y with
      | true =>
        rw [if_pos rfl] at hS
        simp -dsimp [hbd]
        refine LoopP_next (b + 1) (le_of (by simp [hwb]) (by simp [hS])) h' (by omega)
      | false =>
        rw [if_neg (by simp), List.append_nil] at hS
        simp -dsimp
        refine LoopP_next (b + 1) (le_of (by simp [hwb]) (by simp [hS])) h' (by omega)
    · have hb' : b = g.length := by omega
      have hR := prsTo_row g.length f i 0 (fun _ h => by omega)
      subst hb'
      simp -dsimp
      refine LoopP_next (i + 1) (le_of (by simp [hw]) (by simp [hR])) (by omega) (by omega)
  · have hi' : i = g.length := by omega
    have hA := prsTo_all g.length f
    subst hi'
    simp -dsimp
    rw [← hA]
    refine retP_c ?_
    simp -dsimp
theorem sgl_all : (List.range 256).all (fun s => sgl s == (bitsL s).length.ble 1) = true := by kernel_rfl
theorem sgl_len {s : Nat} (h : s < 256) : sgl s = decide ((bitsL s).length ≤ 1) := by
  have := List.all_eq_true.1 sgl_all s (List.mem_range.2 h)
  simp only [beq_iff_eq] at this
  rw [this, Bool.eq_iff_iff]
  simp
theorem takes_spec (g l : List Int) (hg : isgB g = true) : PCall Tryd.prog 47 [eIs g, eIs l] (pB (decide (l.length = g.length) && chkGo (townOf g) l (2 ^ g.length - 1))) [] := by
  refine pcall_sl 1 rfl call47 fun hlen => ?_
  simp only [List.length_map] at hlen
  obtain ⟨ht, hl, _⟩ := isg_facts hg
  refine pcall_wp _ Tryd.func47 rfl (by kernel_rfl) rfl ?_
  have hcor := fun s v hs hv => rcor_spec g hg s v hs hv
  rw [← hl] at hcor ⊢
  have hp : 2 ≤ 2 ^ (townOf g).length := Nat.pow_le_pow_right (n := 2) (by decide) ht.1
  have hfl := full_len (townOf g).length (by have := ht.2.1; omega)
  have hlI : (g.length : Int) = (townOf g).length := by omega
  generalize townOf g = t at *
  have h8 := ht.2.1
  have hN8 : 2 ^ t.length ≤ 2 ^ 8 := Nat.pow_le_pow_right (by decide) h8
  have hsh := shl1 t.length (by omega)
  obtain ⟨N, hN⟩ : ∃ N, N = 2 ^ t.length := ⟨_, rfl⟩
  rw [← hN] at hp hfl hN8 hsh ⊢
  have hwN := wr (n := (N : Int) - 1) (by omega) (by omega)
  have he : (N : Int) - 1 = ((N - 1 : Nat) : Int) := by omega
  rw [he] at hwN
  have hw1 := wr (n := (t.length : Int) - 1) (by omega) (by omega)
  by_cases hlt : l.length = t.length
  · rw [decide_eq_true hlt, Bool.true_and]
    have hne : ((l.length : Int) != (t.length : Int)) = false := by simp [hlt]
    simp -dsimp [hsh, he, hwN, hlI, hne]
    refine wk_loop (fun p : Nat × Nat => ⟨[(19, pI p.1), (18, pI l.length), (17, .t .ro (eIs l)), (0, .t .ro (eIs g)), (5, pI p.2)], []⟩)
      (fun p => p.1 ≤ l.length ∧ p.2 < N ∧ (bitsL p.2).length + p.1 = t.length ∧ chkGo t l (N - 1) = chkGo t (l.drop p.1) p.2) (fun p => l.length - p.1) (0, N - 1)
      (le_of (by simp) (by simp)) ⟨by simp, by simp only; omega, by simp only; omega, by simp⟩ fun ⟨i, s⟩ ⟨hi, hs, hbl, hgo⟩ => ?_
    dsimp only at hi hs hbl hgo
    simp -dsimp
    refine condX_dec (fun h => ?_) (fun h => ?_)
    · have hw := wr (n := (i : Int) + 1) (by omega) (by omega)
      have hil : (i : Int) < l.length := by omega
      have qi := at_ h
      rw [chk_at t l i s h] at hgo
      generalize l.getD i 0 = v at qi hgo
      have hs8 : s < 256 := by omega
      have hsN : s < 2 ^ t.length := by omega
      have hsg : sgl s = decide (¬ ((i : Int) < (t.length : Int) - 1)) := by
        rw [sgl_len hs8, Bool.eq_iff_iff]
        simp
        omega
      by_cases hv0 : v < 0
      · rw [decide_eq_false (by omega), Bool.false_and] at hgo
        simp -dsimp [hil, qi, hv0]
        refine retP_c ?_
        simp -dsimp [hgo]
      by_cases hvn : (t.length : Int) ≤ v
      · rw [decide_eq_false (by omega), Bool.false_and] at hgo
        simp -dsimp [hil, qi, hv0, hlI, hvn]
        refine retP_c ?_
        simp -dsimp [hgo]
      rw [decide_eq_true (by omega), Bool.true_and] at hgo
      obtain ⟨m, rfl⟩ : ∃ m : Nat, v = m := ⟨v.toNat, by omega⟩
      rw [Int.toNat_natCast] at hgo
      have hm : m < t.length := by omega
      have hm0 : (0 : Int) ≤ (m : Int) := by omega
      have hbit := and1 s (by omega) m (by omega)
      have hcr := hcor s m hs8 hm
      have hsa := shl1 m (by omega)
      have hp2 : 2 ^ m < 256 := Nat.lt_of_lt_of_le (Nat.pow_lt_pow_right (by decide) (show m < 8 by omega)) (by decide)
      have han := andnI_nat s (2 ^ m) hs8 hp2
      have hd := dif_sub ht hsN (2 ^ m)
      have hdl := fun h => dif_len (v := m) hs8 h
      have hin := fun h => rcor_in (v := m) ht hsN h
      generalize dif s (2 ^ m) = d at *
      generalize 2 ^ m = bm at *
      cases c1 : s.testBit m with
      | false =>
        rw [c1] at hbit hgo
        simp -dsimp [hil, qi, hv0, hlI, hvn, hm0, hbit]
        refine retP_c ?_
        simp -dsimp [hgo]
      | true =>
        rw [c1] at hbit hgo
        rw [hin c1] at hcr
        have hdl := hdl c1
        have hnext : ((sgl s || corF t m s) && chkGo t (l.drop (i + 1)) d) = chkGo t l (N - 1) := by rw [hgo]; simp
        by_cases c2 : (i : Int) < (t.length : Int) - 1
        · rw [decide_eq_false (by simpa using c2)] at hsg
          rw [hsg] at hnext
          simp -dsimp [hil, qi, hv0, hlI, hvn, hm0, hbit, hw1, c2]
          first
            | refine CallG.by (hcr) ?_
            | refine CallGE.by (hcr) ?_
            | refine CallGB.by (hcr) ?_
          cases c3 : corF t m s with
          | true =>
            rw [c3] at hnext
            simp -dsimp [hm0, hsa, han]
            refine LoopP_next (i + 1, d) (le_of (by simp [hw]) (by simp)) ⟨h, by simp only; omega, by simp only; omega, by simpa using hnext.symm⟩ (by simp only; omega)
          | false =>
            rw [c3] at hnext
            have hno : chkGo t l (N - 1) = false := by rw [← hnext]; rfl
            simp -dsimp
            refine retP_c ?_
            simp -dsimp [hno]
        · rw [decide_eq_true c2] at hsg
          rw [hsg] at hnext
          simp -dsimp [hil, qi, hv0, hlI, hvn, hm0, hbit, hw1, c2]
          simp -dsimp [hm0, hsa, han]
          refine LoopP_next (i + 1, d) (le_of (by simp [hw]) (by simp)) ⟨h, by simp only; omega, by simp only; omega, by simpa using hnext.symm⟩ (by simp only; omega)
    · have hi' : i = l.length := by omega
      subst hi'
      rw [List.drop_length, chkGo] at hgo
      simp -dsimp
      refine retP_c ?_
      simp -dsimp [hgo]
  · rw [decide_eq_false hlt, Bool.false_and]
    have hne : ((l.length : Int) != (t.length : Int)) = true := by simp; omega
    simp -dsimp [hsh, he, hwN, hlI, hne]
    refine retP_c ?_
    simp -dsimp
end Go.Proofs.YtgcncgocdfioiaaDoor
