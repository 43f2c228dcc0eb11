import Derived.Test.YtgcncgocdfioiaaDoorCC3
/- CC4: Corners. -/
set_option linter.unusedVariables false
set_option linter.unusedSimpArgs false
set_option maxRecDepth 20000
namespace Go.Proofs.YtgcncgocdfioiaaDoor
open Go Go.PS
attribute [-simp] isKeyK List.map_take
/-- Pairs of two lists. -/
def pairsOf (A B : List Nat) (f : Nat → Nat → Bool) : List Pr := A.flatMap fun x => (B.filter (f x)).map fun y => (x, y)
def pairsTo (A B : List Nat) (f : Nat → Nat → Bool) (i j : Nat) : List Pr := ((A.take i).flatMap fun x => (B.filter (f x)).map fun y => (x, y)) ++ ((B.take j).filter (f (A.getD i 0))).map fun y => (A.getD i 0, y)
theorem pairsTo_succ (A B : List Nat) (f : Nat → Nat → Bool) (i j : Nat) (hj : j < B.length) : pairsTo A B f i (j + 1) = pairsTo A B f i j ++ if f (A.getD i 0) (B.getD j 0) then [(A.getD i 0, B.getD j 0)] else [] := by
  have e : B.take (j + 1) = B.take j ++ [B.getD j 0] := by
    rw [List.take_add_one]
    simp [List.getD_eq_getElem?_getD, hj]
  simp only [pairsTo, e, List.filter_append, List.map_append, List.append_assoc]
  congr 2
  generalize A.getD i 0 = x
  generalize B.getD j 0 = y
  cases h : f x y <;> simp only [List.filter_cons, List.filter_nil, h] <;> simp
theorem pairsTo_row (A B : List Nat) (f : Nat → Nat → Bool) (i : Nat) (hi : i < A.length) : pairsTo A B f (i + 1) 0 = pairsTo A B f i B.length := by
  have e : A.take (i + 1) = A.take i ++ [A.getD i 0] := by
    rw [List.take_add_one]
    simp [List.getD_eq_getElem?_getD, hi]
  simp [pairsTo, e]
theorem pairsTo_len (A B : List Nat) (f : Nat → Nat → Bool) (i j : Nat) : (pairsTo A B f i j).length ≤ A.length * B.length + B.length := by
  simp only [pairsTo, List.length_append, List.length_map, List.length_flatMap]
  have h1 : ((B.take j).filter (f (A.getD i 0))).length ≤ B.length := Nat.le_trans (List.length_filter_le _ _) (by simp; omega)
  have h2 : ∀ L : List Nat, (L.map fun x => (B.filter (f x)).length).sum ≤ L.length * B.length := fun L => by
    induction L with
    | nil => simp
    | cons x L ih =>
      have := List.length_filter_le (f x) B
      simp only [List.map_cons, List.sum_cons, List.length_cons, Nat.add_mul, Nat.one_mul]
      omega
  have h3 := h2 (A.take i)
  have h4 : (A.take i).length * B.length ≤ A.length * B.length := Nat.mul_le_mul_right _ (by simp; omega)
  omega
theorem pairsTo_all (A B : List Nat) (f : Nat → Nat → Bool) : pairsTo A B f A.length 0 = pairsOf A B f := by simp [pairsTo, pairsOf]
theorem mem_getD {l : List Nat} {i : Nat} (h : i < l.length) : l.getD i 0 ∈ l := getD_mem h
/-- The corners of a set, with their covers. -/
def corL (t : List Nat) (s : Nat) : List Pr := pairsOf (bitsL s) (bitsL s) fun v u => covF t u v s
def cornersOk (g : List Int) (set : Int) : Bool := validG g && decide (0 ≤ set ∧ set ≤ (2 ^ g.length - 1 : Nat))
def cornersF (g : List Int) (set : Int) : TL := if cornersOk g set then .tup [ePrs (corL (townOf g) set.toNat), eI 0] else .tup [.v (.slice none 0 0), eI 2]
theorem corners_spec (g : List Int) (set : Int) : PCall Tryd.prog 21 [eIs g, eI set] (.t .fz (cornersF g set)) [] := by
  refine pcall_wp _ Tryd.func21 rfl (by kernel_rfl) rfl ?_
  have hr := read_spec g
  have hF : cornersF g set = if cornersOk g set then .tup [ePrs (corL (townOf g) set.toNat), eI 0] else .tup [.v (.slice none 0 0), eI 2] := rfl
  cases hv : validG g with
  | false =>
    obtain ⟨X, hX⟩ := read_bad hv
    rw [hX] at hr
    have ho : cornersOk g set = false := by rw [cornersOk, hv]; rfl
    rw [ho, if_neg (by simp)] at hF
    simp -dsimp
    first
      | refine CallG.by (hr) ?_
      | refine CallGE.by (hr) ?_
      | refine CallGB.by (hr) ?_
    simp -dsimp
    refine retP_c ?_
    simp -dsimp [hF]
  | true =>
    rw [read_ok hv] at hr
    have ht := valid_town hv
    have hall := all_spec (townOf g) ht
    have hl : (townOf g).length = g.length := town_len g
    rw [hl] at hall
    have hp : 0 < 2 ^ g.length := Nat.pow_pos (by decide)
    by_cases c1 : set < 0
    · have ho : cornersOk g set = false := by rw [cornersOk, hv, decide_eq_false (by omega)]; rfl
      rw [ho, if_neg (by simp)] at hF
      simp -dsimp
      first
        | refine CallG.by (hr) ?_
        | refine CallGE.by (hr) ?_
        | refine CallGB.by (hr) ?_
      simp -dsimp [c1]
      refine retP_c ?_
      simp -dsimp [hF]
    by_cases c2 : ((2 ^ g.length - 1 : Nat) : Int) < set
    · have ho : cornersOk g set = false := by rw [cornersOk, hv, decide_eq_false (by omega)]; rfl
      rw [ho, if_neg (by simp)] at hF
      generalize 2 ^ g.length - 1 = N at *
      simp -dsimp
      first
        | refine CallG.by (hr) ?_
        | refine CallGE.by (hr) ?_
        | refine CallGB.by (hr) ?_
      simp -dsimp [c1]
      first
        | refine CallG.by (hall) ?_
        | refine CallGE.by (hall) ?_
        | refine CallGB.by (hall) ?_
      simp -dsimp [c2]
      refine retP_c ?_
      simp -dsimp [hF]
    have ho : cornersOk g set = true := by rw [cornersOk, hv, decide_eq_true (by omega)]; rfl
    rw [ho, if_pos rfl] at hF
    obtain ⟨s, rfl⟩ : ∃ s : Nat, set = s := ⟨set.toNat, by omega⟩
    have hs : s < 2 ^ (townOf g).length := by rw [hl]; omega
    rw [Int.toNat_natCast] at hF
    have hC : corL (townOf g) s = pairsOf (bitsL s) (bitsL s) fun v u => covF (townOf g) u v s := rfl
    have h8 := sub_lt ht hs
    have hn := nodes_spec s h8
    have la := bits_len s
    have hin : ∀ i ∈ bitsL s, i < (townOf g).length := fun i hi => node_lt hs hi
    have hcov := fun u v hu hv => covers_spec (townOf g) u v s ht.lt hu hv h8
    generalize hA : bitsL s = A at *
    generalize hf : (fun v u => covF (townOf g) u v s) = f at *
    have hcov : ∀ u v, u ∈ A → v ∈ A → PCall Tryd.prog 57 [eNs (townOf g), eI u, eI v, eI s] (pB (f v u)) [] := fun u v hu hv => by
      rw [← hf]
      exact hcov u v (hin u hu) (hin v hv)
    generalize townOf g = t at *
    generalize 2 ^ g.length - 1 = N at *
    simp -dsimp
    first
      | refine CallG.by (hr) ?_
      | refine CallGE.by (hr) ?_
      | refine CallGB.by (hr) ?_
    simp -dsimp [c1]
    first
      | refine CallG.by (hall) ?_
      | refine CallGE.by (hall) ?_
      | refine CallGB.by (hall) ?_
    simp -dsimp [c2]
    first
      | refine CallG.by (hn) ?_
      | refine CallGE.by (hn) ?_
      | refine CallGB.by (hn) ?_
    simp -dsimp
    refine lg_adoptT 8 8 30 2 (by simp; rfl) (by simp) ?_
    refine wk_loop (fun i : Nat => ⟨[(33, pI i), (32, pI A.length), (31, .t .fz (eNs A)), (8, .osl 8), (6, .t .fz (eNs t)), (1, .t .ro (eI s))], [(8, .row 30 2 .fz ((pairsTo A A f i 0).map cPr))]⟩)
      (fun i => i ≤ A.length) (fun i => A.length - i) 0
      (le_of (by simp) (by simp [pairsTo])) (by simp) fun i hi => ?_
    simp -dsimp
    refine condX_dec (fun h => ?_) (fun h => ?_)
    · have hw := wr (n := (i : Int) + 1) (by omega) (by omega)
      have hil : (i : Int) < A.length := by omega
      have qi := iL_at h
      have hS := fun j hj => pairsTo_succ A A f i j hj
      have hRow := pairsTo_row A A f i h
      have hx := mem_getD h
      generalize A.getD i 0 = x at qi hS hx
      simp -dsimp [hil, qi]
      first
        | refine CallG.by (hn) ?_
        | refine CallGE.by (hn) ?_
        | refine CallGB.by (hn) ?_
      simp -dsimp
      refine wk_loop (fun j : Nat => ⟨[(10, .t .fz (eI x)), (40, pI j), (39, pI A.length), (38, .t .fz (eNs A)), (33, pI i), (32, pI A.length), (31, .t .fz (eNs A)), (8, .osl 8), (6, .t .fz (eNs t)), (1, .t .ro (eI s))], [(8, .row 30 2 .fz ((pairsTo A A f i j).map cPr))]⟩)
        (fun j => j ≤ A.length) (fun j => A.length - j) 0
        (le_of (by simp) (by simp)) (by simp) fun j hj => ?_
      simp -dsimp
      refine condX_dec (fun h' => ?_) (fun h' => ?_)
      · have hwj := wr (n := (j : Int) + 1) (by omega) (by omega)
        have hjl : (j : Int) < A.length := by omega
        have qj := iL_at h'
        have hS := hS j h'
        have hlen := pairsTo_len A A f i j
        have hm : A.length * A.length ≤ 8 * 8 := Nat.mul_le_mul la la
        have hbd : ((pairsTo A A f i j).length + 1) * 16 ≤ 140737488355328 := by omega
        have hy := mem_getD h'
        generalize A.getD j 0 = y at qj hS hy
        have hcv := hcov y x hy hx
        generalize f x y = b at *
        simp -dsimp [hjl, qj]
        first
          | refine CallG.by (hcv) ?_
          | refine CallGE.by (hcv) ?_
          | refine CallGB.by (hcv) ?_
        cases b with
        | true =>
          rw [if_pos rfl] at hS
          simp -dsimp [hbd]
          refine LoopP_next (j + 1) (le_of (by simp [hwj]) (by simp [hS])) h' (by omega)
        | false =>
          rw [if_neg (by simp)] at hS
          simp -dsimp
          refine LoopP_next (j + 1) (le_of (by simp [hwj]) (by simp [hS])) h' (by omega)
      · have hj' : j = A.length := by omega
        subst hj'
        simp -dsimp
        refine LoopP_next (i + 1) (le_of (by simp [hw]) (by simp [hRow])) h (by omega)
    · have hi' : i = A.length := by omega
      rw [hi', pairsTo_all, ← hC]
      simp -dsimp
      refine retP_c ?_
      simp -dsimp [hF]
end Go.Proofs.YtgcncgocdfioiaaDoor
