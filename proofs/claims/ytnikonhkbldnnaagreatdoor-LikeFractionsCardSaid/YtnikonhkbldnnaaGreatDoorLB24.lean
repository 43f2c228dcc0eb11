import Derived.Test.YtnikonhkbldnnaaGreatDoorLB23
import Derived.Test.YtnikonhkbldnnaaGreatDoorLB19
/- LB24: valid. -/
set_option linter.unusedVariables false
set_option linter.unusedSimpArgs false
set_option maxRecDepth 20000
namespace Go.Proofs.YtnikonhkbldnnaaGreatDoor
open Go Go.PS
attribute [-simp] isKeyK List.map_take
/-- A fraction, a row, a matrix as trees. -/
@[simp] def cFr (q : Int × Int) : List TL := [eI q.1, eI q.2]
@[simp] def eFs (r : List (Int × Int)) : TL := .sl .any 2 (r.map cFr)
@[simp] def eFss (X : List (List (Int × Int))) : TL := .sl .any 1 (X.map fun r => [eFs r])
theorem gF {l : List (Int × Int)} {i : Nat} (h : i < l.length) : (l.map cFr)[i]? = some [eI (l.getD i (0, 0)).1, eI (l.getD i (0, 0)).2] := by
  simp [List.getD_eq_getElem?_getD, h]
theorem idxFr_spec (l : List (Int × Int)) (f : Nat) (caps : List TL) (g : Int × Int → Bool) (hf : ∀ r ∈ l, PCall Tryz.prog f (.agg [eI r.1, eI r.2] :: caps) (pB (g r)) []) :
    PCall Tryz.prog 102 [eFs l, .clo f caps] (pI (idxP g l 0)) [] := by
  refine pcall_sl 0 rfl call102 fun hlen => ?_
  simp only [List.length_map] at hlen
  refine pcall_wp _ Tryz.func102 rfl (by kernel_rfl) rfl ?_
  simp -dsimp
  refine wk_loop (fun i : Nat => ⟨[(8, pI i), (7, pI l.length), (0, .t .ro (eFs l)), (1, .t .ro (.clo f caps))], []⟩) (fun i => i ≤ l.length ∧ idxP g l 0 = idxP g (l.drop i) i) (fun i => l.length - i) 0
    (le_of (by simp) (by simp)) (by simp) fun i ⟨hi, hidx⟩ => ?_
  simp -dsimp
  refine condX_dec (fun h => ?_) (fun h => ?_)
  · have hs := idxP_drop g l i h
    have hw := wr (n := (i : Int) + 1) (by omega) (by omega)
    have hil : (i : Int) < l.length := by omega
    have hq := gF (l := l) h
    have hgd : l[i] = l.getD i (0, 0) := by simp [List.getD_eq_getElem?_getD, h]
    have hc := hf _ (List.getElem_mem h)
    rw [hgd] at hs hc
    generalize l.getD i (0, 0) = x at hs hq hc
    simp -dsimp [hil, hq]
    first
      | refine CallG.by (hc) ?_
      | refine CallGE.by (hc) ?_
      | refine CallGB.by (hc) ?_
    simp -dsimp
    refine condX_of (fun hc => ?_) (fun hc => ?_)
    · simp -dsimp
      refine retP_c ?_
      simp -dsimp
      rw [hidx, hs, if_pos hc]
    · simp -dsimp [hw]
      refine LoopP_next (i + 1) (le_of (by simp) (by simp)) ⟨h, ?_⟩ (by omega)
      rw [hidx, hs, if_neg (by simp [hc])]
  · have : i = l.length := by omega
    simp -dsimp
    refine retP_c ?_
    simp -dsimp [hidx, this, idxP]
theorem anyFr_spec (l : List (Int × Int)) (f : Nat) (caps : List TL) (g : Int × Int → Bool) (hf : ∀ r ∈ l, PCall Tryz.prog f (.agg [eI r.1, eI r.2] :: caps) (pB (g r)) []) :
    PCall Tryz.prog 73 [eFs l, .clo f caps] (pB (l.any g)) [] := by
  refine pcall_wp _ Tryz.func73 rfl (by kernel_rfl) rfl ?_
  simp -dsimp
  first
    | refine CallG.by (idxFr_spec l f caps g hf) ?_
    | refine CallGE.by (idxFr_spec l f caps g hf) ?_
    | refine CallGB.by (idxFr_spec l f caps g hf) ?_
  simp -dsimp [idxP_any]
  refine retP_c ?_
  simp -dsimp
theorem idxFs_spec (l : List (List (Int × Int))) (f : Nat) (caps : List TL) (g : List (Int × Int) → Bool) (hf : ∀ r ∈ l, PCall Tryz.prog f (eFs r :: caps) (pB (g r)) []) :
    PCall Tryz.prog 101 [eFss l, .clo f caps] (pI (idxP g l 0)) [] := by
  refine pcall_sl 0 rfl call101 fun hlen => ?_
  simp only [List.length_map] at hlen
  refine pcall_wp _ Tryz.func101 rfl (by kernel_rfl) rfl ?_
  simp -dsimp
  refine wk_loop (fun i : Nat => ⟨[(8, pI i), (7, pI l.length), (0, .t .ro (eFss l)), (1, .t .ro (.clo f caps))], []⟩) (fun i => i ≤ l.length ∧ idxP g l 0 = idxP g (l.drop i) i) (fun i => l.length - i) 0
    (le_of (by simp) (by simp)) (by simp) fun i ⟨hi, hidx⟩ => ?_
  simp -dsimp
  refine condX_dec (fun h => ?_) (fun h => ?_)
  · have hs := idxP_drop g l i h
    have hw := wr (n := (i : Int) + 1) (by omega) (by omega)
    have hil : (i : Int) < l.length := by omega
    have hq : (l.map fun r => [eFs r])[i]? = some [eFs l[i]] := by rw [List.getElem?_map, List.getElem?_eq_getElem h]; rfl
    have hc := hf _ (List.getElem_mem h)
    generalize l[i] = x at hs hq hc
    unfold eFs at hq hc
    simp -dsimp [hil, hq]
    first
      | refine CallG.by (hc) ?_
      | refine CallGE.by (hc) ?_
      | refine CallGB.by (hc) ?_
    simp -dsimp
    refine condX_of (fun hc => ?_) (fun hc => ?_)
    · simp -dsimp
      refine retP_c ?_
      simp -dsimp
      rw [hidx, hs, if_pos hc]
    · simp -dsimp [hw]
      refine LoopP_next (i + 1) (le_of (by simp) (by simp)) ⟨h, ?_⟩ (by omega)
      rw [hidx, hs, if_neg (by simp [hc])]
  · have : i = l.length := by omega
    simp -dsimp
    refine retP_c ?_
    simp -dsimp [hidx, this, idxP]
theorem anyFs_spec (l : List (List (Int × Int))) (f : Nat) (caps : List TL) (g : List (Int × Int) → Bool) (hf : ∀ r ∈ l, PCall Tryz.prog f (eFs r :: caps) (pB (g r)) []) :
    PCall Tryz.prog 71 [eFss l, .clo f caps] (pB (l.any g)) [] := by
  refine pcall_wp _ Tryz.func71 rfl (by kernel_rfl) rfl ?_
  simp -dsimp
  first
    | refine CallG.by (idxFs_spec l f caps g hf) ?_
    | refine CallGE.by (idxFs_spec l f caps g hf) ?_
    | refine CallGB.by (idxFs_spec l f caps g hf) ?_
  simp -dsimp [idxP_any]
  refine retP_c ?_
  simp -dsimp
/-- Is an element none? -/
theorem okI_spec (q : Int × Int) : PCall Tryz.prog 74 [.agg [eI q.1, eI q.2]] (pB (!okI q)) [] := by
  obtain ⟨n, d⟩ := q
  refine pcall_wp _ Tryz.func74 rfl (by kernel_rfl) rfl ?_
  have e : okI (n, d) = (decide (1 ≤ d) && (decide (d ≤ 60) && (decide (0 ≤ n) && (decide (n ≤ d) && (Nat.gcd n.toNat d.toNat == 1))))) := rfl
  by_cases h1 : d < 1
  · have e1 : okI (n, d) = false := by rw [e, decide_eq_false (by omega)]; rfl
    simp -dsimp [h1, e1]
    refine retP_c ?_
    simp -dsimp [e1]
  · by_cases h2 : 60 < d
    · have e1 : okI (n, d) = false := by rw [e, decide_eq_false (p := d ≤ 60) (by omega), Bool.false_and, Bool.and_false]
      simp -dsimp [h1, h2, e1]
      refine retP_c ?_
      simp -dsimp [e1]
    · by_cases h3 : n < 0
      · have e1 : okI (n, d) = false := by rw [e, decide_eq_false (p := 0 ≤ n) (by omega), Bool.false_and, Bool.and_false, Bool.and_false]
        simp -dsimp [h1, h2, h3, e1]
        refine retP_c ?_
        simp -dsimp [e1]
      · by_cases h4 : d < n
        · have e1 : okI (n, d) = false := by rw [e, decide_eq_false (p := n ≤ d) (by omega), Bool.false_and, Bool.and_false, Bool.and_false, Bool.and_false]
          simp -dsimp [h1, h2, h3, h4, e1]
          refine retP_c ?_
          simp -dsimp [e1]
        · have e1 : okI (n, d) = (Nat.gcd n.toNat d.toNat == 1) := by
            rw [e, decide_eq_true (p := 1 ≤ d) (by omega), decide_eq_true (p := d ≤ 60) (by omega), decide_eq_true (p := 0 ≤ n) (by omega), decide_eq_true (p := n ≤ d) (by omega)]
            rfl
          rw [e1]
          clear e e1
          obtain ⟨a, rfl⟩ : ∃ a : Nat, n = a := ⟨n.toNat, by omega⟩
          obtain ⟨b, rfl⟩ : ∃ b : Nat, d = b := ⟨d.toNat, by omega⟩
          rw [Int.toNat_natCast, Int.toNat_natCast]
          have hg := gcd_spec a b
          generalize Nat.gcd a b = k at *
          have h1' : ¬ b < 1 := by omega
          have h2' : ¬ 60 < b := by omega
          have h4' : ¬ b < a := by omega
          have h3' : ¬ (a : Int) < 0 := by omega
          simp -dsimp [h1, h2, h3, h4, h1', h2', h3', h4']
          first
            | refine CallG.by (hg) ?_
            | refine CallGE.by (hg) ?_
            | refine CallGB.by (hg) ?_
          simp -dsimp
          have ek : ((k : Int) != 1) = !(k == 1) := by
            rw [bne, Bool.not_inj_iff, Bool.eq_iff_iff]
            simp only [beq_iff_eq]
            omega
          refine retP_c ?_
          simp -dsimp [ek]
/-- Is a row none? -/
theorem rowI_spec (r : List (Int × Int)) (a b : List Nat) (X : List (List (Int × Int))) : PCall Tryz.prog 72 [eFs r, .rp [eNs a, eNs b, eFss X] 0] (pB (!(r.length == b.length && r.all okI))) [] := by
  have ha := anyFr_spec r 74 [] (fun q => !okI q) fun q _ => okI_spec q
  have hab : (r.any fun q => !okI q) = !r.all okI := by rw [List.not_all_eq_any_not]
  rw [hab] at ha
  refine pcall_wp _ Tryz.func72 rfl (by kernel_rfl) rfl ?_
  by_cases h : r.length = b.length
  · have h' : ((r.length : Int) != (b.length : Int)) = false := by simp [h]
    have h2 : (r.length == b.length) = true := by simp [h]
    rw [h2, Bool.true_and]
    simp -dsimp [h']
    first
      | refine CallG.by (ha) ?_
      | refine CallGE.by (ha) ?_
      | refine CallGB.by (ha) ?_
    simp -dsimp
    refine retP_c ?_
    simp -dsimp
  · have h' : ((r.length : Int) != (b.length : Int)) = true := by
      rw [bne_iff_ne]
      omega
    have h2 : (r.length == b.length) = false := by simp [h]
    rw [h2, Bool.false_and]
    simp -dsimp [h']
    refine retP_c ?_
    simp -dsimp
theorem mvalid_spec (a b : List Nat) (X : List (List (Int × Int))) : PCall Tryz.prog 38 [.agg [eNs a, eNs b, eFss X]] (pB (validX a.length b.length X)) [] := by
  have ha := anyFs_spec X 72 [.rp [eNs a, eNs b, eFss X] 0] (fun r => !(r.length == b.length && r.all okI)) fun r _ => rowI_spec r a b X
  have hab : (X.any fun r => !(r.length == b.length && r.all okI)) = !X.all (fun r => r.length == b.length && r.all okI) := by rw [List.not_all_eq_any_not]
  rw [hab] at ha
  unfold validX
  generalize X.all (fun r => r.length == b.length && r.all okI) = v at *
  refine pcall_wp _ Tryz.func38 rfl (by kernel_rfl) rfl ?_
  by_cases h1 : a.length = b.length
  · have h1' : ((a.length : Int) != (b.length : Int)) = false := by simp [h1]
    have h2 : (a.length == b.length) = true := by simp [h1]
    by_cases h3 : X.length = a.length
    · have h3' : ((X.length : Int) != (a.length : Int)) = false := by simp [h3]
      have h4 : (X.length == a.length) = true := by simp [h3]
      rw [h2, h4, Bool.true_and, Bool.true_and]
      simp -dsimp [h1', h3']
      first
        | refine CallG.by (ha) ?_
        | refine CallGE.by (ha) ?_
        | refine CallGB.by (ha) ?_
      simp -dsimp
      refine retP_c ?_
      simp -dsimp
    · have h3' : ((X.length : Int) != (a.length : Int)) = true := by
        rw [bne_iff_ne]
        omega
      have h4 : (X.length == a.length) = false := by simp [h3]
      rw [h2, h4, Bool.true_and, Bool.false_and]
      simp -dsimp [h1', h3']
      refine retP_c ?_
      simp -dsimp
  · have h1' : ((a.length : Int) != (b.length : Int)) = true := by
      rw [bne_iff_ne]
      omega
    have h2 : (a.length == b.length) = false := by simp [h1]
    rw [h2, Bool.false_and]
    simp -dsimp [h1']
    refine retP_c ?_
    simp -dsimp
end Go.Proofs.YtnikonhkbldnnaaGreatDoor
