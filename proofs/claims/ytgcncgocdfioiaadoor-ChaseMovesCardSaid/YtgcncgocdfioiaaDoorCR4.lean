import Derived.Test.YtgcncgocdfioiaaDoorCR3
/- CR4: the reference: moves, flees, places; ranks in an array. -/
set_option linter.unusedVariables false
set_option linter.unusedSimpArgs false
set_option maxRecDepth 20000
namespace Go.Proofs.YtgcncgocdfioiaaDoor
open Go Go.PS
attribute [-simp] isKeyK List.map_take
def onC (c : Nat) (q : Pr) : Pl := (q.1, q.2, c)
theorem prsTo_diag {n : Nat} {f : Nat → Nat → Bool} (hf : ∀ a b, f a b = true → a ≤ b) (i : Nat) : prsTo n f i 0 = prsTo n f i i := by
  have : (List.range i).filter (f i) = [] := by
    rw [List.filter_eq_nil_iff]
    intro b hb h
    have := hf _ _ h
    have := List.mem_range.1 hb
    omega
  simp [prsTo, this]
theorem mvF_le {t : List Nat} {two : Bool} {a b x y : Nat} (h : mvF t two a b x y = true) : x ≤ y := by
  simp only [mvF, Bool.and_eq_true, decide_eq_true_eq] at h
  exact h.1.1
theorem rmoves_spec (g : List Int) (hg : isgB g = true) (k : Int) (p : Pl) (ha : p.1 < g.length) (hb : p.2.1 < g.length) : PCall Tryd.prog 62 [eIs g, eI k, .agg (cPl p)] (.t .fz (ePls ((movesL (townOf g) (k == 2) p.1 p.2.1).map (onC p.2.2)))) [] := by
  obtain ⟨ht, hl, _⟩ := isg_facts hg
  have h8 := ht.2.1
  obtain ⟨pa, pb, pc⟩ := p
  simp only at ha hb
  have r1 := reach_spec g hg pa ha
  have r2 := reach_spec g hg pb hb
  have t1 := ht.lt _ (getD_mem (l := townOf g) (i := pa) (by omega))
  have t2 := ht.lt _ (getD_mem (l := townOf g) (i := pb) (by omega))
  have hM : movesL (townOf g) (k == 2) pa pb = prs (townOf g).length (mvF (townOf g) (k == 2) pa pb) := rfl
  have hMv : ∀ x y, x ≤ y → mvF (townOf g) (k == 2) pa pb x y = ((((townOf g).getD pa 0).testBit x && ((townOf g).getD pb 0).testBit y || ((townOf g).getD pa 0).testBit y && ((townOf g).getD pb 0).testBit x) && ((k == 2) || ((x : Int) == (y : Int)))) := fun x y hxy => by
    have : (x == y) = ((x : Int) == (y : Int)) := by rw [Bool.eq_iff_iff]; simp; omega
    rw [mvF, decide_eq_true hxy, Bool.true_and, this]
  have hle : ∀ a b, mvF (townOf g) (k == 2) pa pb a b = true → a ≤ b := fun a b => mvF_le
  generalize mvF (townOf g) (k == 2) pa pb = f at *
  generalize (townOf g).getD pa 0 = ta at *
  generalize (townOf g).getD pb 0 = tb at *
  rw [hl] at hM
  rw [hM]
  clear hM
  refine pcall_wp _ Tryd.func62 rfl (by kernel_rfl) rfl ?_
  simp -dsimp
  refine lg_adoptT 7 7 48 3 (by simp; rfl) (by simp) ?_
  refine wk_loop (fun i : Nat => ⟨[(14, pI i), (13, pI g.length), (7, .osl 7), (5, .ptr 5 0), (0, .t .ro (eIs g)), (1, .t .ro (eI k))], [(7, .row 48 3 .fz ((prsTo g.length f i 0).map fun q => cPl (onC pc q))), (5, .blk 48 [.t .ro (eI pa), .t .ro (eI pb), .t .ro (eI pc)])]⟩)
    (fun i => i ≤ g.length) (fun i => g.length - i) 0
    (le_of (by simp) (by simp [prsTo])) (by simp) fun i hi => ?_
  simp -dsimp
  refine condX_dec (fun h => ?_) (fun h => ?_)
  · have hw := wr (n := (i : Int) + 1) (by omega) (by omega)
    simp -dsimp
    rw [prsTo_diag hle]
    refine wk_loop (fun b : Nat => ⟨[(8, pI i), (9, pI b), (14, pI i), (13, pI g.length), (7, .osl 7), (5, .ptr 5 0), (0, .t .ro (eIs g)), (1, .t .ro (eI k))], [(7, .row 48 3 .fz ((prsTo g.length f i b).map fun q => cPl (onC pc q))), (5, .blk 48 [.t .ro (eI pa), .t .ro (eI pb), .t .ro (eI pc)])]⟩)
      (fun b => i ≤ b ∧ b ≤ g.length) (fun b => g.length - b) i
      (le_of (by simp) (by simp)) ⟨by omega, hi⟩ fun b ⟨hb0, hb⟩ => ?_
    simp -dsimp
    refine condX_dec (fun h' => ?_) (fun h' => ?_)
    · have hwb := wr (n := (b : Int) + 1) (by omega) (by omega)
      have hS := prsTo_succ g.length f i b
      have hlen := prsTo_len g.length f i b
      have hm : i * g.length ≤ 8 * 8 := Nat.mul_le_mul (by omega) (by omega)
      have hbd : ((prsTo g.length f i b).length + 1) * 24 ≤ 140737488355328 := by omega
      have hT := hMv i b hb0
      have i0 : (0 : Int) ≤ (i : Int) := by omega
      have b0 : (0 : Int) ≤ (b : Int) := by omega
      have e1 := and1 ta (by omega) i (by omega)
      have e2 := and1 ta (by omega) b (by omega)
      have e3 := and1 tb (by omega) i (by omega)
      have e4 := and1 tb (by omega) b (by omega)
      have fin : ∀ y, f i b = y → (y = true → prsTo g.length f i (b + 1) = prsTo g.length f i b ++ [(i, b)]) ∧ (y = false → prsTo g.length f i (b + 1) = prsTo g.length f i b) := by
        intro y hy
        rw [hS, hy]
        cases y <;> simp
      obtain ⟨f1, f2⟩ := fin _ hT
      have hon : ∀ q : Pr, cPl (onC pc q) = [eI q.1, eI q.2, eI pc] := fun q => rfl
      simp -dsimp
      refine wk_draw 7 [] mixed (by kernel_rfl) ?_
      simp -dsimp
      first
        | refine CallG.by (r1) ?_
        | refine CallGE.by (r1) ?_
        | refine CallGB.by (r1) ?_
      simp -dsimp
      first
        | refine CallG.by (r2) ?_
        | refine CallGE.by (r2) ?_
        | refine CallGB.by (r2) ?_
      cases c1 : ta.testBit i with
      | false =>
        rw [c1] at e1
        cases c3 : ta.testBit b with
        | false =>
          rw [c3] at e2
          have hh := f2 (by rw [c1, c3]; simp)
          simp -dsimp [i0, b0, e1, e2]
          refine LoopP_next (b + 1) (le_of (by simp [hwb]) (by simp [hh, onC])) ⟨by omega, by omega⟩ (by omega)
        | true =>
          rw [c3] at e2
          cases c4 : tb.testBit i with
          | false =>
            rw [c4] at e3
            have hh := f2 (by rw [c1, c3, c4]; simp)
            simp -dsimp [i0, b0, e1, e2, e3]
            refine LoopP_next (b + 1) (le_of (by simp [hwb]) (by simp [hh, onC])) ⟨by omega, by omega⟩ (by omega)
          | true =>
            rw [c4] at e3
            cases c5 : (k == 2) with
            | false =>
              cases c6 : ((i : Int) == (b : Int)) with
              | false =>
                have hh := f2 (by rw [c1, c3, c4, c5, c6]; simp)
                simp -dsimp [i0, b0, e1, e2, e3, c5, c6]
                refine LoopP_next (b + 1) (le_of (by simp [hwb]) (by simp [hh, onC])) ⟨by omega, by omega⟩ (by omega)
              | true =>
                have hh := f1 (by rw [c1, c3, c4, c5, c6]; simp)
                simp -dsimp [i0, b0, e1, e2, e3, c5, c6, hbd]
                refine LoopP_next (b + 1) (le_of (by simp [hwb]) (by simp [hh, onC])) ⟨by omega, by omega⟩ (by omega)
            | true =>
              have hh := f1 (by rw [c1, c3, c4, c5]; simp)
              simp -dsimp [i0, b0, e1, e2, e3, c5, hbd]
              refine LoopP_next (b + 1) (le_of (by simp [hwb]) (by simp [hh, onC])) ⟨by omega, by omega⟩ (by omega)
      | true =>
        rw [c1] at e1
        cases c2 : tb.testBit b with
        | false =>
          rw [c2] at e4
          cases c3 : ta.testBit b with
          | false =>
            rw [c3] at e2
            have hh := f2 (by rw [c1, c2, c3]; simp)
            simp -dsimp [i0, b0, e1, e4, e2]
            refine LoopP_next (b + 1) (le_of (by simp [hwb]) (by simp [hh, onC])) ⟨by omega, by omega⟩ (by omega)
          | true =>
            rw [c3] at e2
            cases c4 : tb.testBit i with
            | false =>
              rw [c4] at e3
              have hh := f2 (by rw [c1, c2, c3, c4]; simp)
              simp -dsimp [i0, b0, e1, e4, e2, e3]
              refine LoopP_next (b + 1) (le_of (by simp [hwb]) (by simp [hh, onC])) ⟨by omega, by omega⟩ (by omega)
            | true =>
              rw [c4] at e3
              cases c5 : (k == 2) with
              | false =>
                cases c6 : ((i : Int) == (b : Int)) with
                | false =>
                  have hh := f2 (by rw [c1, c2, c3, c4, c5, c6]; simp)
                  simp -dsimp [i0, b0, e1, e4, e2, e3, c5, c6]
                  refine LoopP_next (b + 1) (le_of (by simp [hwb]) (by simp [hh, onC])) ⟨by omega, by omega⟩ (by omega)
                | true =>
                  have hh := f1 (by rw [c1, c2, c3, c4, c5, c6]; simp)
                  simp -dsimp [i0, b0, e1, e4, e2, e3, c5, c6, hbd]
                  refine LoopP_next (b + 1) (le_of (by simp [hwb]) (by simp [hh, onC])) ⟨by omega, by omega⟩ (by omega)
              | true =>
                have hh := f1 (by rw [c1, c2, c3, c4, c5]; simp)
                simp -dsimp [i0, b0, e1, e4, e2, e3, c5, hbd]
                refine LoopP_next (b + 1) (le_of (by simp [hwb]) (by simp [hh, onC])) ⟨by omega, by omega⟩ (by omega)
        | true =>
          rw [c2] at e4
          cases c5 : (k == 2) with
          | false =>
            cases c6 : ((i : Int) == (b : Int)) with
            | false =>
              have hh := f2 (by rw [c1, c2, c5, c6]; simp)
              simp -dsimp [i0, b0, e1, e4, c5, c6]
              refine LoopP_next (b + 1) (le_of (by simp [hwb]) (by simp [hh, onC])) ⟨by omega, by omega⟩ (by omega)
            | true =>
              have hh := f1 (by rw [c1, c2, c5, c6]; simp)
              simp -dsimp [i0, b0, e1, e4, c5, c6, hbd]
              refine LoopP_next (b + 1) (le_of (by simp [hwb]) (by simp [hh, onC])) ⟨by omega, by omega⟩ (by omega)
          | true =>
            have hh := f1 (by rw [c1, c2, c5]; simp)
            simp -dsimp [i0, b0, e1, e4, c5, hbd]
            refine LoopP_next (b + 1) (le_of (by simp [hwb]) (by simp [hh, onC])) ⟨by omega, by omega⟩ (by omega)
    · have hb' : b = g.length := by omega
      have hR := prsTo_row g.length f i 0 (fun _ h => by omega)
      subst hb'
      simp -dsimp
      refine LoopP_next (i + 1) (le_of (by simp [hw]) (by simp [hR])) (by omega) (by omega)
  · have hi' : i = g.length := by omega
    have hA := prsTo_all g.length f
    subst hi'
    simp -dsimp
    rw [← hA]
    refine retP_c ?_
    simp -dsimp
end Go.Proofs.YtgcncgocdfioiaaDoor
