import Derived.Test.YtnikonhkbldnnaaGreatDoorLB26
import Derived.Test.YtnikonhkbldnnaaGreatDoorPSF
/- LB27: CheckFraction, Fraction. -/
set_option linter.unusedVariables false
set_option linter.unusedSimpArgs false
set_option maxRecDepth 20000
namespace Go.Proofs.YtnikonhkbldnnaaGreatDoor
open Go Go.PS
attribute [-simp] isKeyK List.map_take
def cfF (g h : List Int) (X : List (List (Int × Int))) : TL := if isgB g && isgB h then .tup [eB (chkX (townOf g) (townOf h) X), eI 0] else .tup [eB false, eI 2]
theorem checkF_spec (g h : List Int) (X : List (List (Int × Int))) : PCall Tryz.prog 10 [eIs g, eIs h, eFss X] (.t .fz (cfF g h X)) [] := by
  have hbo := both_spec g h
  refine pcall_wp _ Tryz.func10 rfl (by kernel_rfl) rfl ?_
  rw [bothF] at hbo
  have hF : cfF g h X = if isgB g && isgB h then .tup [eB (chkX (townOf g) (townOf h) X), eI 0] else .tup [eB false, eI 2] := rfl
  have hv : isgB g = true → isgB h = true → PCall Tryz.prog 38 [.agg [eIs g, eIs h, eFss X]] (pB (validX (townOf g).length (townOf h).length X)) [] := fun h1 h2 => by
    have := mvalid_spec (townOf g) (townOf h) X
    rw [show eNs (townOf g) = eIs g by rw [eNs, town_back h1], show eNs (townOf h) = eIs h by rw [eNs, town_back h2]] at this
    exact this
  have hr : isgB g = true → isgB h = true → validX (townOf g).length (townOf h).length X = true → PCall Tryz.prog 39 [.agg [eIs g, eIs h, eFss X]] (pB (rightX (townOf g) (townOf h) X)) [] := fun h1 h2 h3 => by
    have := right_spec (townOf g) (townOf h) X (town_tow h1) (town_tow h2) h3
    rw [show eNs (townOf g) = eIs g by rw [eNs, town_back h1], show eNs (townOf h) = eIs h by rw [eNs, town_back h2]] at this
    exact this
  have hc : chkX (townOf g) (townOf h) X = (validX (townOf g).length (townOf h).length X && rightX (townOf g) (townOf h) X) := rfl
  generalize chkX (townOf g) (townOf h) X = c at *
  generalize validX (townOf g).length (townOf h).length X = v at *
  generalize rightX (townOf g) (townOf h) X = r at *
  cases hg : isgB g <;> cases hh : isgB h
  all_goals
    rw [hg, hh] at hbo hF
    simp only [if_true, Bool.false_eq_true, if_false, Bool.and_true, Bool.and_false, Bool.true_and, Bool.false_and, Bool.and_self, nilT] at hbo hF
  · simp -dsimp
    first
      | refine CallG.by (hbo) ?_
      | refine CallGE.by (hbo) ?_
      | refine CallGB.by (hbo) ?_
    simp -dsimp
    refine retP_c ?_
    simp -dsimp [hF]
  · simp -dsimp
    first
      | refine CallG.by (hbo) ?_
      | refine CallGE.by (hbo) ?_
      | refine CallGB.by (hbo) ?_
    simp -dsimp
    refine retP_c ?_
    simp -dsimp [hF]
  · simp -dsimp
    first
      | refine CallG.by (hbo) ?_
      | refine CallGE.by (hbo) ?_
      | refine CallGB.by (hbo) ?_
    simp -dsimp
    refine retP_c ?_
    simp -dsimp [hF]
  · have hv' := hv hg hh
    simp -dsimp
    first
      | refine CallG.by (hbo) ?_
      | refine CallGE.by (hbo) ?_
      | refine CallGB.by (hbo) ?_
    simp -dsimp
    first
      | refine CallG.by (hv') ?_
      | refine CallGE.by (hv') ?_
      | refine CallGB.by (hv') ?_
    cases hvv : v
    · rw [hvv, Bool.false_and] at hc
      simp -dsimp
      refine retP_c ?_
      simp -dsimp [hF, hc]
    · have hr' := hr hg hh hvv
      rw [hvv, Bool.true_and] at hc
      simp -dsimp
      first
        | refine CallG.by (hr') ?_
        | refine CallGE.by (hr') ?_
        | refine CallGB.by (hr') ?_
      simp -dsimp
      refine retP_c ?_
      simp -dsimp [hF, hc]
theorem cFr_flat (l : List (Int × Int)) : ∀ e ∈ l.map cFr, ∀ x ∈ e, ∃ v, x = TL.v v := by
  intro e he x hx
  obtain ⟨q, _, rfl⟩ := List.mem_map.1 he
  simp only [cFr, List.mem_cons, List.not_mem_nil, or_false] at hx
  rcases hx with rfl | rfl <;> exact ⟨_, rfl⟩
/-- The matrix, for colours. -/
def elF (x y : List Nat) (i j : Nat) : Int × Int := if x.getD i 0 = y.getD j 0 then (1, ((x.count (x.getD i 0) : Nat) : Int)) else (0, 1)
theorem frX_el (A B : List Nat) : frX A B = (List.range A.length).map fun i => (List.range B.length).map (elF (shN A B).1 (shN A B).2 i) := rfl
theorem range_snoc {α : Type} (f : Nat → α) (j : Nat) : (List.range (j + 1)).map f = (List.range j).map f ++ [f j] := by rw [List.range_succ, List.map_append]; rfl
theorem fraction_ok (g h : List Int) (hg : isgB g = true) (hh : isgB h = true) (hk : likeN (townOf g) (townOf h) = true) :
    PCall Tryz.prog 8 [eIs g, eIs h] (.t .fz (.tup [eFss (frX (townOf g) (townOf h)), eI 0])) [] := by
  have hbo := both_spec g h
  rw [bothF, hg, hh] at hbo
  simp only [if_true, Bool.and_self] at hbo
  have tA := town_tow hg
  have tB := town_tow hh
  have hsh := shades_spec (townOf g) (townOf h) tA tB
  rw [show eNs (townOf g) = eIs g by rw [eNs, town_back hg], show eNs (townOf h) = eIs h by rw [eNs, town_back hh], hk] at hsh
  have hX := frX_el (townOf g) (townOf h)
  have hsl := sh_len (townOf g) (townOf h)
  have hgl := town_len g
  have hhl := town_len h
  have g6 := tA.le
  have h6 := tB.le
  have g1 := tA.pos
  have hx12 : ∀ c ∈ (shN (townOf g) (townOf h)).1, c < 13 := fun c hc => by
    have h1 := full_le (colN_full (besN (townOf g) (townOf h)))
    rw [bes_len] at h1
    have h2 := most_lt (List.mem_of_mem_take hc)
    omega
  generalize frX (townOf g) (townOf h) = X at *
  generalize (shN (townOf g) (townOf h)).1 = x at *
  generalize (shN (townOf g) (townOf h)).2 = y at *
  generalize townOf g = A at *
  generalize townOf h = B at *
  obtain ⟨hxl, hyl⟩ := hsl
  have hlt : ∀ c ∈ x, c < mostN x := fun c hc => most_lt hc
  have hm13 : mostN x ≤ 13 := most_le hx12
  have hmx := max_spec x (by intro e; rw [e] at hxl; simp at hxl; omega) fun c hc => by have := hx12 c hc; omega
  have hty := tally_spec x (mostN x) (by omega) hlt (by omega)
  have htl := tly_len x (mostN x)
  have htg : ∀ c, c ∈ x → (tlyN x (mostN x)).getD c 0 = x.count c := fun c hc => tly_get x (hlt c hc)
  generalize tlyN x (mostN x) = T at *
  generalize mostN x = m at *
  have he : (m : Int) - 1 + 1 = m := by omega
  have hwm := wr (n := (m : Int)) (by omega) (by omega)
  obtain ⟨f, hf⟩ : ∃ f : Nat → Nat → Int × Int, f = elF x y := ⟨_, rfl⟩
  obtain ⟨R, hR⟩ : ∃ R : Nat → List (Int × Int), R = fun i => (List.range B.length).map (f i) := ⟨_, rfl⟩
  have hXR : X = (List.range A.length).map R := by rw [hX, hR, hf]
  refine pcall_wpS [23] Tryz.func8 rfl (by kernel_rfl) ?_
  simp -dsimp
  first
    | refine CallG.by (hbo) ?_
    | refine CallGE.by (hbo) ?_
    | refine CallGB.by (hbo) ?_
  simp -dsimp
  first
    | refine CallG.by (hsh) ?_
    | refine CallGE.by (hsh) ?_
    | refine CallGB.by (hsh) ?_
  simp -dsimp
  first
    | refine CallG.by (hmx) ?_
    | refine CallGE.by (hmx) ?_
    | refine CallGB.by (hmx) ?_
  simp -dsimp [he, hwm]
  first
    | refine CallG.by (hty) ?_
    | refine CallGE.by (hty) ?_
    | refine CallGB.by (hty) ?_
  simp -dsimp
  refine lg_adoptT 13 13 73 1 (by simp; rfl) (by simp) ?_
  refine wk_loopS [21] (fun i : Nat => ⟨[(43, pI i), (42, pI A.length), (13, .osl 13), (12, .t .fz (eNs T)), (10, .t .fz (eNs y)), (9, .t .fz (eNs x)), (7, .t .ro (eIs h))],
      [(13, .row 73 1 .fz (((List.range i).map R).map fun r => [eFs r]))]⟩)
    (fun i => i ≤ A.length) (fun i => A.length - i) 0
    (le_of (by simp [hgl]) (by simp)) (by simp) fun i hi => ?_
  simp -dsimp
  refine condX_dec (fun hx => ?_) (fun hx => ?_)
  · have hx' : i < A.length := by omega
    have hwi := wr (n := (i : Int) + 1) (by omega) (by omega)
    simp -dsimp
    refine lg_adoptT 15 15 75 2 (by simp; rfl) (by simp) ?_
    refine wk_loop (fun p : Kind × Nat => ⟨[(48, pI p.2), (47, pI B.length), (15, .osl 15), (14, pI i), (43, pI i), (42, pI A.length), (13, .osl 13), (12, .t .fz (eNs T)), (10, .t .fz (eNs y)), (9, .t .fz (eNs x)), (7, .t .ro (eIs h))],
        [(15, .row 75 2 p.1 (((List.range p.2).map (f i)).map cFr)), (13, .row 73 1 .fz (((List.range i).map R).map fun r => [eFs r]))]⟩)
      (fun p => p.2 ≤ B.length) (fun p => B.length - p.2) (.fz, 0)
      (le_of (by simp [hhl]) (by simp)) (by simp) fun ⟨kr, j⟩ hj => ?_
    dsimp only at hj
    simp -dsimp
    refine condX_dec (fun hy => ?_) (fun hy => ?_)
    · have hy' : j < B.length := by omega
      have hwj := wr (n := (j : Int) + 1) (by omega) (by omega)
      have hsn := range_snoc (f i) j
      have hfe : f i j = if x.getD i 0 = y.getD j 0 then (1, ((x.count (x.getD i 0) : Nat) : Int)) else (0, 1) := by rw [hf]; rfl
      have qx := iL_at (l := x) (i := i) (by omega)
      have qy := iL_at (l := y) (i := j) (by omega)
      have hmem : x.getD i 0 ∈ x := getD_mem (by omega)
      have hcT : x.getD i 0 < T.length := by rw [htl]; exact hlt _ hmem
      have qt := iL_at (l := T) (i := x.getD i 0) hcT
      rw [htg _ hmem] at qt
      have i1 : (i : Int) < x.length := by omega
      have i2 : (j : Int) < y.length := by omega
      have i3 : ((x.getD i 0 : Nat) : Int) < T.length := by omega
      have hbb : (j + 1) * 16 ≤ 140737488355328 := by omega
      generalize x.count (x.getD i 0) = c at *
      generalize x.getD i 0 = u at *
      generalize y.getD j 0 = v at *
      simp -dsimp [hy]
      refine wk_draw 8 [] mixed (by kernel_rfl) ?_
      simp -dsimp [i1, i2, qx, qy]
      refine condX_of (fun hc => ?_) (fun hc => ?_)
      · have huv : u = v := by
          rw [beq_iff_eq] at hc
          omega
        rw [if_pos huv] at hfe
        simp -dsimp [i1, i2, i3, qx, qt, hbb]
        refine LoopP_next (kr, j + 1) (le_of (by simp [hwj]) (by cases kr <;> simp [hsn, hfe])) (by simp only; omega) (by simp only; omega)
      · have huv : ¬ u = v := by
          rw [beq_eq_false_iff_ne] at hc
          omega
        rw [if_neg huv] at hfe
        simp -dsimp [hbb]
        refine LoopP_next (kr, j + 1) (le_of (by simp [hwj]) (by cases kr <;> simp [hsn, hfe])) (by simp only; omega) (by simp only; omega)
    · have hj' : j = B.length := by omega
      have hsn := range_snoc R i
      have hRi : (List.range j).map (f i) = R i := by rw [hR, hj']
      have hbb : (i + 1) * 24 ≤ 140737488355328 := by omega
      rw [show List.map (cFr ∘ f i) (List.range j) = (R i).map cFr by rw [← hRi, List.map_map]]
      have hfl := cFr_flat (R i)
      generalize hr : R i = r at *
      simp -dsimp
      refine stop_rowk 15 .fz (ty := 75) (sz := 2) (k := kr) (xs := r.map cFr) (by simp) hfl ?_
      refine stop_frz [15] ?_
      simp -dsimp
      refine stop_go ?_
      simp -dsimp [hbb]
      refine LoopP_next (i + 1) (le_of (by simp [hwi]) (by simp [List.range_succ, hr])) (by omega) (by omega)
  · have hi' : i = A.length := by omega
    rw [show List.map ((fun r => [TL.sl SF.any 2 (List.map cFr r)]) ∘ R) (List.range i) = X.map fun r => [TL.sl SF.any 2 (List.map cFr r)] by rw [hXR, hi', List.map_map]]
    simp -dsimp
    refine stop_frz [13] ?_
    simp -dsimp
    refine stop_go ?_
    simp -dsimp
    refine retP_c ?_
    simp -dsimp
end Go.Proofs.YtnikonhkbldnnaaGreatDoor
