import Derived.Test.YtgcncgocdfioiaaDoorCR3
/- CL4: equal slices; the laws of ChaseCorners and ChaseApart. -/
set_option linter.unusedVariables false
set_option linter.unusedSimpArgs false
set_option maxRecDepth 20000
namespace Go.Proofs.YtgcncgocdfioiaaDoor
open Go Go.PS
attribute [-simp] isKeyK List.map_take
theorem eqI_nil : PCall Tryd.prog 46 [.v (.slice none 0 0), .v (.slice none 0 0)] (pB true) [] := by
  refine pcall_wp _ Tryd.func46 rfl (by kernel_rfl) rfl ?_
  simp -dsimp
  refine wk_loop (fun i : Unit => ⟨[(13, pI 0), (12, pI 0)], []⟩)
    (fun _ => True) (fun _ => 0) () (le_of (by simp) (by simp)) trivial fun _ _ => ?_
  simp -dsimp
  refine retP_c ?_
  simp -dsimp
theorem eqI_spec (l : List Int) : PCall Tryd.prog 46 [eIs l, eIs l] (pB true) [] := by
  refine pcall_sl 0 rfl call46 fun hlen => ?_
  simp only [List.length_map] at hlen
  refine pcall_wp _ Tryd.func46 rfl (by kernel_rfl) rfl ?_
  have hne : ((l.length : Int) != (l.length : Int)) = false := by simp
  simp -dsimp [hne]
  refine wk_loop (fun i : Nat => ⟨[(13, pI i), (12, pI l.length), (0, .t .ro (eIs l)), (1, .t .ro (eIs l))], []⟩)
    (fun i => i ≤ l.length) (fun i => l.length - i) 0
    (le_of (by simp) (by simp)) (by omega) fun i hi => ?_
  simp -dsimp
  refine condX_dec (fun h => ?_) (fun h => ?_)
  · have hw := wr (n := (i : Int) + 1) (by omega) (by omega)
    have hil : (i : Int) < l.length := by omega
    have qi := at_ h
    generalize l.getD i 0 = v at qi
    have hv : (v != v) = false := by simp
    simp -dsimp
    refine wk_draw 8 [] mixed (by kernel_rfl) ?_
    simp -dsimp [hil, qi, hv]
    refine LoopP_next (i + 1) (le_of (by simp [hw]) (by simp)) h (by omega)
  · simp -dsimp
    refine retP_c ?_
    simp -dsimp
theorem eqP_spec (l : List Pr) : PCall Tryd.prog 35 [ePrs l, ePrs l] (pB true) [] := by
  refine pcall_sl 0 rfl call35 fun hlen => ?_
  simp only [List.length_map] at hlen
  refine pcall_wp _ Tryd.func35 rfl (by kernel_rfl) rfl ?_
  have hne : ((l.length : Int) != (l.length : Int)) = false := by simp
  simp -dsimp [hne]
  refine wk_loop (fun i : Nat => ⟨[(13, pI i), (12, pI l.length), (0, .t .ro (ePrs l)), (1, .t .ro (ePrs l))], []⟩)
    (fun i => i ≤ l.length) (fun i => l.length - i) 0
    (le_of (by simp) (by simp)) (by omega) fun i hi => ?_
  simp -dsimp
  refine condX_dec (fun h => ?_) (fun h => ?_)
  · have hw := wr (n := (i : Int) + 1) (by omega) (by omega)
    have hil : (i : Int) < l.length := by omega
    have qi := gP (l := l) h
    generalize l.getD i (0, 0) = v at qi
    obtain ⟨a, b⟩ := v
    simp -dsimp
    refine wk_draw 8 [] mixed (by kernel_rfl) ?_
    simp -dsimp [hil, qi]
    refine LoopP_next (i + 1) (le_of (by simp [hw]) (by simp)) h (by omega)
  · simp -dsimp
    refine retP_c ?_
    simp -dsimp
/-- A copy of the beginning is valid exactly if the graph is, and is it then. -/
theorem take_valid (g : List Int) : validG (g.take 13) = validG g ∧ (validG g = true → g.take 13 = g) := by
  by_cases h : g.length ≤ 13
  · rw [List.take_of_length_le h]
    exact ⟨rfl, fun _ => rfl⟩
  · have h1 : validG g = false := by
      rw [validG, decide_eq_false (by omega), Bool.false_and]
    have h2 : validG (g.take 13) = false := by
      rw [validG, decide_eq_false (by simp; omega), Bool.false_and]
    rw [h1, h2]
    exact ⟨rfl, fun h => by cases h⟩
theorem corners_true (g : List Int) (set : Int) : PCall Tryd.prog 9 [eIs g, eI set] (pB true) [] := by
  refine pcall_wp _ Tryd.func9 rfl (by kernel_rfl) rfl ?_
  have hf := few_spec g
  have ha := awake_spec
  obtain ⟨t1, t2⟩ := take_valid g
  have hco := corners_spec (g.take 13) set
  have hvs := valid_spec g
  cases hv : validG g with
  | false =>
    rw [hv] at hvs t1
    rw [cornersF, cornersOk, t1, Bool.false_and, if_neg (by simp)] at hco
    generalize g.take 13 = h at *
    simp -dsimp
    first
      | refine CallG.by (hf) ?_
      | refine CallGE.by (hf) ?_
      | refine CallGB.by (hf) ?_
    simp -dsimp
    first
      | refine CallG.by (hco) ?_
      | refine CallGE.by (hco) ?_
      | refine CallGB.by (hco) ?_
    simp -dsimp
    first
      | refine CallG.by (hvs) ?_
      | refine CallGE.by (hvs) ?_
      | refine CallGB.by (hvs) ?_
    simp -dsimp
    first
      | refine CallG.by (ha) ?_
      | refine CallGE.by (ha) ?_
      | refine CallGB.by (ha) ?_
    simp -dsimp
    refine retP_c ?_
    simp -dsimp
  | true =>
    rw [hv] at hvs
    rw [t2 hv] at hf hco
    have hg := valid_isg hv
    obtain ⟨ht, hl, _⟩ := isg_facts hg
    have hN8 : 2 ^ g.length ≤ 2 ^ 8 := Nat.pow_le_pow_right (by decide) (by have := ht.2.1; omega)
    have hp : 2 ≤ 2 ^ g.length := by rw [← hl]; exact Nat.pow_le_pow_right (n := 2) (by decide) ht.1
    have hsh := shl1 g.length (by have := ht.2.1; omega)
    by_cases c1 : set < 0
    · have ho : cornersOk g set = false := by rw [cornersOk, hv, decide_eq_false (by omega)]; rfl
      rw [cornersF, ho, if_neg (by simp)] at hco
      simp -dsimp
      first
        | refine CallG.by (hf) ?_
        | refine CallGE.by (hf) ?_
        | refine CallGB.by (hf) ?_
      simp -dsimp
      first
        | refine CallG.by (hco) ?_
        | refine CallGE.by (hco) ?_
        | refine CallGB.by (hco) ?_
      simp -dsimp
      first
        | refine CallG.by (hvs) ?_
        | refine CallGE.by (hvs) ?_
        | refine CallGB.by (hvs) ?_
      simp -dsimp [c1]
      first
        | refine CallG.by (ha) ?_
        | refine CallGE.by (ha) ?_
        | refine CallGB.by (ha) ?_
      simp -dsimp
      refine retP_c ?_
      simp -dsimp
    by_cases c2 : ((2 ^ g.length : Nat) : Int) ≤ set
    · have ho : cornersOk g set = false := by rw [cornersOk, hv, decide_eq_false (by omega)]; rfl
      rw [cornersF, ho, if_neg (by simp)] at hco
      generalize 2 ^ g.length = N at *
      simp -dsimp
      first
        | refine CallG.by (hf) ?_
        | refine CallGE.by (hf) ?_
        | refine CallGB.by (hf) ?_
      simp -dsimp
      first
        | refine CallG.by (hco) ?_
        | refine CallGE.by (hco) ?_
        | refine CallGB.by (hco) ?_
      simp -dsimp
      first
        | refine CallG.by (hvs) ?_
        | refine CallGE.by (hvs) ?_
        | refine CallGB.by (hvs) ?_
      simp -dsimp [c1, hsh, c2]
      first
        | refine CallG.by (ha) ?_
        | refine CallGE.by (ha) ?_
        | refine CallGB.by (ha) ?_
      simp -dsimp
      refine retP_c ?_
      simp -dsimp
    have ho : cornersOk g set = true := by rw [cornersOk, hv, decide_eq_true (by omega)]; rfl
    obtain ⟨s, rfl⟩ : ∃ s : Nat, set = s := ⟨set.toNat, by omega⟩
    rw [cornersF, ho, if_pos rfl, Int.toNat_natCast, corL_ref ht (by rw [hl]; omega), hl] at hco
    have hrc := rcorners_spec g hg s (by omega)
    generalize prs g.length (rcov (townOf g) s) = L at *
    have heq := eqP_spec L
    generalize 2 ^ g.length = N at *
    simp -dsimp
    first
      | refine CallG.by (hf) ?_
      | refine CallGE.by (hf) ?_
      | refine CallGB.by (hf) ?_
    simp -dsimp
    first
      | refine CallG.by (hco) ?_
      | refine CallGE.by (hco) ?_
      | refine CallGB.by (hco) ?_
    simp -dsimp
    first
      | refine CallG.by (hvs) ?_
      | refine CallGE.by (hvs) ?_
      | refine CallGB.by (hvs) ?_
    simp -dsimp [c1, hsh, c2]
    first
      | refine CallG.by (hrc) ?_
      | refine CallGE.by (hrc) ?_
      | refine CallGB.by (hrc) ?_
    simp -dsimp
    first
      | refine CallG.by (heq) ?_
      | refine CallGE.by (heq) ?_
      | refine CallGB.by (heq) ?_
    simp -dsimp
    first
      | refine CallG.by (ha) ?_
      | refine CallGE.by (ha) ?_
      | refine CallGB.by (ha) ?_
    simp -dsimp
    refine retP_c ?_
    simp -dsimp
theorem chk_take {t : List Nat} (l : List Int) (h8 : t.length ≤ 8) (s : Nat) : (decide ((l.take 13).length = t.length) && chkGo t (l.take 13) s) = (decide (l.length = t.length) && chkGo t l s) := by
  by_cases h : l.length ≤ 13
  · rw [List.take_of_length_le h]
  · rw [decide_eq_false (by simp; omega), decide_eq_false (by omega)]
    rfl
theorem apart_true (g l : List Int) : PCall Tryd.prog 13 [eIs g, eIs l] (pB true) [] := by
  refine pcall_wp _ Tryd.func13 rfl (by kernel_rfl) rfl ?_
  have hf := few_spec g
  have ha := awake_spec
  have hls := list_spec l
  obtain ⟨t1, t2⟩ := take_valid g
  have hap := apart_spec (g.take 13)
  have hck := checkApart_spec (g.take 13) (l.take 13)
  have hco := coreP_spec (g.take 13)
  have hvs := valid_spec g
  cases hv : validG g with
  | false =>
    rw [hv] at hvs t1
    rw [apartF, t1, if_neg (by simp)] at hap
    rw [chkF, t1, if_neg (by simp)] at hck
    rw [coreF, t1, if_neg (by simp)] at hco
    generalize g.take 13 = h at *
    generalize l.take 13 = l' at *
    simp -dsimp
    first
      | refine CallG.by (hf) ?_
      | refine CallGE.by (hf) ?_
      | refine CallGB.by (hf) ?_
    simp -dsimp
    first
      | refine CallG.by (hap) ?_
      | refine CallGE.by (hap) ?_
      | refine CallGB.by (hap) ?_
    simp -dsimp
    first
      | refine CallG.by (hf) ?_
      | refine CallGE.by (hf) ?_
      | refine CallGB.by (hf) ?_
    simp -dsimp
    first
      | refine CallG.by (hls) ?_
      | refine CallGE.by (hls) ?_
      | refine CallGB.by (hls) ?_
    simp -dsimp
    first
      | refine CallG.by (hck) ?_
      | refine CallGE.by (hck) ?_
      | refine CallGB.by (hck) ?_
    simp -dsimp
    first
      | refine CallG.by (hf) ?_
      | refine CallGE.by (hf) ?_
      | refine CallGB.by (hf) ?_
    simp -dsimp
    first
      | refine CallG.by (hco) ?_
      | refine CallGE.by (hco) ?_
      | refine CallGB.by (hco) ?_
    simp -dsimp
    first
      | refine CallG.by (hvs) ?_
      | refine CallGE.by (hvs) ?_
      | refine CallGB.by (hvs) ?_
    simp -dsimp
    first
      | refine CallG.by (ha) ?_
      | refine CallGE.by (ha) ?_
      | refine CallGB.by (ha) ?_
    simp -dsimp
    refine retP_c ?_
    simp -dsimp
  | true =>
    rw [hv] at hvs
    rw [t2 hv] at hf hap hck hco
    have hg := valid_isg hv
    obtain ⟨ht, hl, _⟩ := isg_facts hg
    have htk := takes_spec g l hg
    have hrc := rcore_spec g hg
    have hra := rapartP_spec g hv
    have hcl := chk_take l ht.2.1 (2 ^ g.length - 1)
    rw [hl] at hcl
    rw [chkF, hv, if_pos rfl, hcl] at hck
    rw [apartF, hv, if_pos rfl] at hap
    rw [coreF, hv, if_pos rfl] at hco
    rw [rapF] at hra
    generalize (decide (l.length = g.length) && chkGo (townOf g) l (2 ^ g.length - 1)) = b at *
    generalize coreS (townOf g) (2 ^ g.length - 1) = c at *
    generalize apL (townOf g) (2 ^ g.length - 1) = A at *
    generalize l.take 13 = l' at *
    cases hsg : sgl c with
    | true =>
      rw [hsg, if_pos rfl] at hap hra
      have heq := eqI_spec (iL A)
      simp -dsimp
      first
        | refine CallG.by (hf) ?_
        | refine CallGE.by (hf) ?_
        | refine CallGB.by (hf) ?_
      simp -dsimp
      first
        | refine CallG.by (hap) ?_
        | refine CallGE.by (hap) ?_
        | refine CallGB.by (hap) ?_
      simp -dsimp
      first
        | refine CallG.by (hf) ?_
        | refine CallGE.by (hf) ?_
        | refine CallGB.by (hf) ?_
      simp -dsimp
      first
        | refine CallG.by (hls) ?_
        | refine CallGE.by (hls) ?_
        | refine CallGB.by (hls) ?_
      simp -dsimp
      first
        | refine CallG.by (hck) ?_
        | refine CallGE.by (hck) ?_
        | refine CallGB.by (hck) ?_
      simp -dsimp
      first
        | refine CallG.by (hf) ?_
        | refine CallGE.by (hf) ?_
        | refine CallGB.by (hf) ?_
      simp -dsimp
      first
        | refine CallG.by (hco) ?_
        | refine CallGE.by (hco) ?_
        | refine CallGB.by (hco) ?_
      simp -dsimp
      first
        | refine CallG.by (hvs) ?_
        | refine CallGE.by (hvs) ?_
        | refine CallGB.by (hvs) ?_
      simp -dsimp
      first
        | refine CallG.by (hra) ?_
        | refine CallGE.by (hra) ?_
        | refine CallGB.by (hra) ?_
      simp -dsimp
      first
        | refine CallG.by (heq) ?_
        | refine CallGE.by (heq) ?_
        | refine CallGB.by (heq) ?_
      simp -dsimp
      first
        | refine CallG.by (htk) ?_
        | refine CallGE.by (htk) ?_
        | refine CallGB.by (htk) ?_
      simp -dsimp
      first
        | refine CallG.by (hrc) ?_
        | refine CallGE.by (hrc) ?_
        | refine CallGB.by (hrc) ?_
      simp -dsimp
      first
        | refine CallG.by (ha) ?_
        | refine CallGE.by (ha) ?_
        | refine CallGB.by (ha) ?_
      simp -dsimp
      refine retP_c ?_
      simp -dsimp
    | false =>
      rw [hsg, if_neg (by simp)] at hap hra
      have heq := eqI_nil
      simp -dsimp
      first
        | refine CallG.by (hf) ?_
        | refine CallGE.by (hf) ?_
        | refine CallGB.by (hf) ?_
      simp -dsimp
      first
        | refine CallG.by (hap) ?_
        | refine CallGE.by (hap) ?_
        | refine CallGB.by (hap) ?_
      simp -dsimp
      first
        | refine CallG.by (hf) ?_
        | refine CallGE.by (hf) ?_
        | refine CallGB.by (hf) ?_
      simp -dsimp
      first
        | refine CallG.by (hls) ?_
        | refine CallGE.by (hls) ?_
        | refine CallGB.by (hls) ?_
      simp -dsimp
      first
        | refine CallG.by (hck) ?_
        | refine CallGE.by (hck) ?_
        | refine CallGB.by (hck) ?_
      simp -dsimp
      first
        | refine CallG.by (hf) ?_
        | refine CallGE.by (hf) ?_
        | refine CallGB.by (hf) ?_
      simp -dsimp
      first
        | refine CallG.by (hco) ?_
        | refine CallGE.by (hco) ?_
        | refine CallGB.by (hco) ?_
      simp -dsimp
      first
        | refine CallG.by (hvs) ?_
        | refine CallGE.by (hvs) ?_
        | refine CallGB.by (hvs) ?_
      simp -dsimp
      first
        | refine CallG.by (hra) ?_
        | refine CallGE.by (hra) ?_
        | refine CallGB.by (hra) ?_
      simp -dsimp
      first
        | refine CallG.by (heq) ?_
        | refine CallGE.by (heq) ?_
        | refine CallGB.by (heq) ?_
      simp -dsimp
      first
        | refine CallG.by (htk) ?_
        | refine CallGE.by (htk) ?_
        | refine CallGB.by (htk) ?_
      simp -dsimp
      first
        | refine CallG.by (hrc) ?_
        | refine CallGE.by (hrc) ?_
        | refine CallGB.by (hrc) ?_
      simp -dsimp
      first
        | refine CallG.by (ha) ?_
        | refine CallGE.by (ha) ?_
        | refine CallGB.by (ha) ?_
      simp -dsimp
      refine retP_c ?_
      simp -dsimp
end Go.Proofs.YtgcncgocdfioiaaDoor
