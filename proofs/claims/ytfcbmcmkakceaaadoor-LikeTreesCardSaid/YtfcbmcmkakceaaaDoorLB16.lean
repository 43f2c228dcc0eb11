import Derived.Test.YtfcbmcmkakceaaaDoorLB15
/- LB16: slices.Max, different; towns side by side. -/
set_option linter.unusedVariables false
set_option linter.unusedSimpArgs false
set_option maxRecDepth 20000
namespace Go.Proofs.YtfcbmcmkakceaaaDoor
open Go Go.PS
attribute [-simp] isKeyK List.map_take
theorem most_snoc (l : List Nat) (x : Nat) : mostN (l ++ [x]) = max (mostN l) (x + 1) := by simp [mostN, List.foldl_append]
theorem take_at {l : List Nat} {i : Nat} (h : i < l.length) : l.take (i + 1) = l.take i ++ [l.getD i 0] := by
  rw [List.take_add_one]
  simp [List.getD_eq_getElem?_getD, h]
theorem max_spec (l : List Nat) (h0 : l ≠ []) (hb : ∀ x ∈ l, x < 1000000) : PCall Tryd.prog 78 [eNs l] (pI ((mostN l : Nat) - 1 : Int)) [] := by
  refine pcall_sl 0 rfl call78 fun hlen => ?_
  simp only [List.length_map, iL_length] at hlen
  have hpos : 0 < l.length := List.length_pos_iff.2 h0
  have q0 := iL_at (l := l) (i := 0) hpos
  have e1 : ((mostN (l.take 1) : Nat) : Int) - 1 = ((l.getD 0 0 : Nat) : Int) := by
    rw [take_at hpos, most_snoc]
    simp [mostN]
  refine pcall_wp _ Tryd.func78 rfl (by kernel_rfl) rfl ?_
  have hn1 : ¬ (l.length : Int) < 1 := by omega
  have hpI : (0 : Int) < l.length := by omega
  generalize l.getD 0 0 = x0 at q0 e1
  have q0' : ∀ hh : 0 < (iL l).length, (iL l)[0]'hh = (x0 : Int) := fun hh => by
    rw [List.getElem?_eq_getElem hh] at q0
    exact Option.some.inj q0
  simp -dsimp [hn1, hpI, hpos, q0, q0']
  refine wk_loop (fun p : Kind × Nat => ⟨[(3, .t p.1 (eI ((mostN (l.take p.2) : Nat) - 1 : Int))), (4, pI p.2), (0, .t .ro (eNs l)), (2, pI 0)], []⟩)
    (fun p => 1 ≤ p.2 ∧ p.2 ≤ l.length) (fun p => l.length - p.2) (.ro, 1)
    (le_of (by simp [e1, q0']) (by simp)) ⟨by simp, by simp only; omega⟩ fun ⟨k, i⟩ ⟨hi1, hi⟩ => ?_
  dsimp only at hi1 hi
  simp -dsimp
  refine condX_dec (fun h => ?_) (fun h => ?_)
  · have hw := wr (n := (i : Int) + 1) (by omega) (by omega)
    have q1 := iL_at (l := l) (i := i) h
    have hs : mostN (l.take (i + 1)) = max (mostN (l.take i)) (l.getD i 0 + 1) := by rw [take_at h, most_snoc]
    generalize l.getD i 0 = x at q1 hs
    have hm : (if ((mostN (l.take i) : Nat) - 1 : Int) < (x : Int) then (x : Int) else ((mostN (l.take i) : Nat) - 1 : Int)) = ((mostN (l.take (i + 1)) : Nat) - 1 : Int) := by
      rw [hs]
      split <;> omega
    have i1 : (i : Int) < l.length := by omega
    have i5 : (0 : Int) ≤ i := by omega
    simp -dsimp [i1, i5, q1, hm]
    refine LoopP_next (.fz, i + 1) (le_of (by simp [hw]) (by simp)) ⟨by simp only; omega, by simp only; omega⟩ (by simp only; omega)
  · have hi' : i = l.length := by omega
    subst hi'
    have ht : l.take l.length = l := List.take_length
    rw [ht]
    simp -dsimp
    refine retP_c ?_
    simp -dsimp
theorem diff_spec (l : List Nat) (h0 : l ≠ []) (hb : ∀ x ∈ l, x < 1000000) : PCall Tryd.prog 99 [eNs l] (pI (mostN l)) [] := by
  have h := max_spec l h0 hb
  have hm : mostN l ≤ 1000000 := most_le fun x hx => by have := hb x hx; omega
  refine pcall_wp _ Tryd.func99 rfl (by kernel_rfl) rfl ?_
  have hw := wr (n := (mostN l : Int)) (by omega) (by omega)
  have he : ((mostN l : Nat) : Int) - 1 + 1 = mostN l := by omega
  simp -dsimp
  first
    | refine CallG.by (h) ?_
    | refine CallGE.by (h) ?_
    | refine CallGB.by (h) ?_
  simp -dsimp [he, hw]
  refine retP_c ?_
  simp -dsimp
theorem shl_nat (s n : Nat) (hn : n ≤ 6) (hs : s < 64) : shlI (s : Int) n = ((s <<< n : Nat) : Int) := by
  have e : min n IntKind.i64.bits = n := by
    show min n 64 = n
    omega
  unfold shlI
  rw [e, Nat.shiftLeft_eq]
  have h2 : ((2 : Int) ^ n) = ((2 ^ n : Nat) : Int) := by simp
  have h3 : 2 ^ n ≤ 2 ^ 6 := Nat.pow_le_pow_right (by decide) hn
  have h4 : s * 2 ^ n ≤ 64 * 64 := Nat.mul_le_mul (by omega) (by omega)
  rw [h2, ← Int.natCast_mul]
  exact wr (by omega) (by omega)
theorem clone134_row (xs : List Int) (hb : xs.length * 8 ≤ 140737488355328) : PCall Tryd.prog 134 [eIs xs] (.osl 0) [(0, .row 3 1 .ro (xs.map cI))] := by
  refine pcall_any 0 rfl call134 (fun h => ?_) ?_
  · simp at h
    subst h
    refine pcall_nilrow (k := .fz) ?_
    refine pcall_wp _ Tryd.func134 rfl (by kernel_rfl) rfl ?_
    simp -dsimp
    refine retP_c ?_
    simp -dsimp
  · refine pcall_wp _ Tryd.func134 rfl (by kernel_rfl) rfl ?_
    simp -dsimp [hb]
    exact retP_own 5 (by simp; rfl) (by simp) (by simp) (by simp) (by simp)
theorem beside_spec (t h : List Nat) (ht : t.length ≤ 6) (hh : h.length ≤ 6) (hs : ∀ x ∈ h, x < 64) : PCall Tryd.prog 100 [eNs t, eNs h] (.t .ro (eNs (besN t h))) [] := by
  refine pcall_wpT Tryd.func100 rfl (by kernel_rfl) ?_
  have hc := clone134_row (iL t) (by simp; omega)
  have hw6 : ∀ i : Nat, i ≤ 6 → IntKind.i64.wrap ((i : Int) + 1) = (i : Int) + 1 := fun i hi => wr (by omega) (by omega)
  simp -dsimp
  first
    | refine CallG.by (hc) ?_
    | refine CallGE.by (hc) ?_
    | refine CallGB.by (hc) ?_
  simp -dsimp
  refine wk_loop (fun i : Nat => ⟨[(12, pI i), (11, pI h.length), (10, .t .ro (eNs h)), (5, .osl 9), (0, .t .ro (eNs t))], [(9, .row 3 1 .ro ((iL (t ++ (h.take i).map (· <<< t.length))).map cI))]⟩)
    (fun i => i ≤ h.length) (fun i => h.length - i) 0
    (le_of (by simp) (by simp)) (by omega) fun i hi => ?_
  simp -dsimp
  refine condX_dec (fun hx => ?_) (fun hx => ?_)
  · have q1 := iL_at (l := h) (i := i) hx
    have hm := hs _ (getD_mem hx)
    have hw := hw6 i (by omega)
    have ht1 : h.take (i + 1) = h.take i ++ [h.getD i 0] := take_at hx
    generalize h.getD i 0 = x at q1 hm ht1
    have hsh := shl_nat x t.length ht hm
    have i1 : (i : Int) < h.length := by omega
    have i5 : (0 : Int) ≤ i := by omega
    have hbb : (t.length + min i h.length + 1) * 8 ≤ 140737488355328 := by omega
    simp -dsimp [i1, i5, q1, hsh, hbb]
    refine LoopP_next (i + 1) (le_of (by simp [hw, ht1]) (by simp [ht1])) (by omega) (by omega)
  · have hi' : i = h.length := by omega
    subst hi'
    have hF : besN t h = t ++ h.map (· <<< t.length) := rfl
    simp -dsimp
    refine retT_c ?_
    simp -dsimp [hF]
end Go.Proofs.YtfcbmcmkakceaaaDoor
