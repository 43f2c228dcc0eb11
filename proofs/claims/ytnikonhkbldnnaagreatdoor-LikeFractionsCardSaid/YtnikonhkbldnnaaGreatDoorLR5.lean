import Derived.Test.YtnikonhkbldnnaaGreatDoorLR4
/- LR5: the reference's Refined and Alike; the law of LikeRefines. -/
set_option linter.unusedVariables false
set_option linter.unusedSimpArgs false
set_option maxRecDepth 20000
namespace Go.Proofs.YtnikonhkbldnnaaGreatDoor
open Go Go.PS
attribute [-simp] isKeyK List.map_take
/-- An array of numbers, in cells. -/
def cellsI (rs : List Int) : List PV := rs.map fun x => PV.t .fz (eI x)
@[simp] theorem cellsI_len (rs : List Int) : (cellsI rs).length = rs.length := by simp [cellsI]
theorem cellsI_get {rs : List Int} {i : Nat} (h : i < rs.length) : (cellsI rs)[i]? = some (PV.t .fz (eI (rs.getD i 0))) := by simp [cellsI, List.getD_eq_getElem?_getD, h]
@[simp] theorem cellsI_set (rs : List Int) (i : Nat) (v : Int) : (cellsI rs).set i (PV.t .fz (.v (.int .i64 v))) = cellsI (rs.set i v) := by
  simp only [cellsI, List.map_set]
@[simp] theorem cellsI_lend (f : PV → Option (Bool × TL)) (rs : List Int) (h : ∀ x : Int, f (.t .fz (eI x)) = some (false, eI x)) : optL f (cellsI rs) = some (false, rs.map eI) := by
  induction rs with
  | nil => rfl
  | cons x rs ih =>
    simp only [cellsI, List.map_cons, optL] at ih ⊢
    rw [ih, h]
    rfl
@[simp] theorem cellsI_frz (f : PV → Option (Kind × TL)) (rs : List Int) (h : ∀ x : Int, f (.t .fz (eI x)) = some (.fz, eI x)) : optK f (cellsI rs) = some (.fz, rs.map eI) := by
  induction rs with
  | nil => rfl
  | cons x rs ih =>
    simp only [cellsI, List.map_cons, optK] at ih ⊢
    rw [ih, h]
    rfl
@[simp] theorem cellsI_men (m : Nat) (rs : List Int) : PV.menL m (cellsI rs) = false := by
  induction rs with
  | nil => rfl
  | cons x rs ih =>
    simp only [cellsI, List.map_cons, PV.menL] at ih ⊢
    rw [ih]
    rfl
@[simp] theorem cellsI_kill (m : Nat) (rs : List Int) : (cellsI rs).map (fun x => if PV.men m x = true then PV.undef else x) = cellsI rs := by
  induction rs with
  | nil => rfl
  | cons x rs ih =>
    simp only [cellsI, List.map_cons] at ih ⊢
    rw [ih]
    rfl
@[simp] theorem vsP_cells (rs : List Int) : vsP (cellsI rs) = some (rs.map (Value.int .i64 ·)) := by
  induction rs with
  | nil => rfl
  | cons x rs ih =>
    simp only [cellsI, List.map_cons, vsP] at ih ⊢
    rw [ih]
    rfl
@[simp] theorem intsL_map (rs : List Int) : intsL (rs.map (Value.int .i64 ·)) = some rs := by
  induction rs with
  | nil => rfl
  | cons x rs ih =>
    simp only [List.map_cons, intsL]
    rw [ih]
    rfl
theorem rRefined_spec (t : List Nat) (hp : 1 ≤ t.length) (ht : t.length ≤ 12) (hs : ∀ x ∈ t, x < 2 ^ t.length) :
    PCall Tryz.prog 44 [eNs t] (.t .fz (.tup [eNs (colN t).1, eI ((colN t).2 : Nat)])) [] := by
  refine pcall_wp _ Tryz.func44 rfl (by kernel_rfl) rfl ?_
  have hb : (t.length : Int) ≤ 140737488355328 := by omega
  have hb2 : 8 * (t.length : Int) ≤ 281474976710656 := by omega
  have hz : (iL (List.replicate t.length 0)).map cI = List.replicate t.length [eI 0] := by simp [iL, cI]
  simp -dsimp [hb, hb2]
  refine lg_frz [9] ?_
  simp -dsimp
  refine wk_loop (fun p : List Nat × Nat => ⟨[(4, .t .fz (eNs p.1)), (5, pI p.2), (0, .t .ro (eNs t))], []⟩)
    (fun p => Full t.length p.1 ∧ colW t p.1 p.2 = colN t ∧ p.2 ≤ 12 - (t.length - mostN p.1)) (fun p => t.length - mostN p.1) (List.replicate t.length 0, 0)
    (le_of (by simp [hz]) (by simp)) ⟨full_zero _, rfl, by simp⟩ fun ⟨c, r⟩ ⟨hf, hc, hr⟩ => ?_
  dsimp only at hf hc hr
  have hf' := refN_full t c
  have h1 := most_mono hf
  have h2 := full_le hf'
  have h3 := full_le hf
  have hcl := hf.1
  have hre := rrefined_spec t c hcl ht hs
  have hd1 := most_rspec (refN t c) fun x hx => by
    have := most_lt hx
    omega
  have hd2 := most_rspec c fun x hx => by
    have := most_lt hx
    omega
  have hw := wr (n := (r : Int) + 1) (by omega) (by omega)
  have hstop := fun e => colW_stop (t := t) (c := c) (r := r) e
  have hgo := fun e => colW_go (r := r) hf e
  generalize refN t c = d at *
  simp -dsimp
  first
    | refine CallG.by (hre) ?_
    | refine CallGE.by (hre) ?_
    | refine CallGB.by (hre) ?_
  simp -dsimp
  first
    | refine CallG.by (hd1) ?_
    | refine CallGE.by (hd1) ?_
    | refine CallGB.by (hd1) ?_
  simp -dsimp
  first
    | refine CallG.by (hd2) ?_
    | refine CallGE.by (hd2) ?_
    | refine CallGB.by (hd2) ?_
  by_cases he : mostN d = mostN c
  · have hF := hstop he
    rw [hc] at hF
    have he' : mostN d ≤ mostN c := by omega
    simp -dsimp [he']
    refine retP_c ?_
    simp -dsimp [hF]
  · have he' : ¬ mostN d ≤ mostN c := by omega
    simp -dsimp [he']
    refine LoopP_next (d, r + 1) (le_of (by simp [hw]) (by simp)) ⟨hf', ?_, ?_⟩ ?_
    · simp only
      rw [← hgo he, hc]
    · simp only
      omega
    · simp only
      omega
/-- How much oftener each number occurs in one list than in the other one. -/
def difL (P M : List Nat) : List Int := (List.range 12).map fun q => (P.count q : Int) - (M.count q : Int)
theorem dif_len (P M : List Nat) : (difL P M).length = 12 := by simp [difL]
theorem dif_get (P M : List Nat) {q : Nat} (h : q < 12) : (difL P M).getD q 0 = (P.count q : Int) - (M.count q : Int) := by simp [difL, List.getD_eq_getElem?_getD, h]
theorem dif_snocP (P M : List Nat) {c : Nat} (h : c < 12) : (difL P M).set c ((P.count c : Int) - (M.count c : Int) + 1) = difL (P ++ [c]) M := by
  apply List.ext_getElem (by simp [dif_len])
  intro i h1 h2
  simp only [List.length_set, dif_len] at h1
  rw [List.getElem_set]
  simp only [difL, List.getElem_map, List.getElem_range, List.count_append, List.count_singleton]
  by_cases e : c = i
  · subst e
    simp
    omega
  · have e' : (c == i) = false := by simpa using e
    simp [e, e']
theorem dif_snocM (P M : List Nat) {c : Nat} (h : c < 12) : (difL P M).set c ((P.count c : Int) - (M.count c : Int) - 1) = difL P (M ++ [c]) := by
  apply List.ext_getElem (by simp [dif_len])
  intro i h1 h2
  simp only [List.length_set, dif_len] at h1
  rw [List.getElem_set]
  simp only [difL, List.getElem_map, List.getElem_range, List.count_append, List.count_singleton]
  by_cases e : c = i
  · subst e
    simp
    omega
  · have e' : (c == i) = false := by simpa using e
    simp [e, e']
theorem like_dif {t h : List Nat} (hm : mostN (colN (besN t h)).1 ≤ 12) : (difL (shN t h).1 (shN t h).2 == List.replicate 12 0) = likeN t h := by
  have hsub : ∀ q, ¬ q < mostN (colN (besN t h)).1 → (shN t h).1.count q = 0 ∧ (shN t h).2.count q = 0 := fun q hq => by
    constructor
    · refine List.count_eq_zero.2 fun hh => hq (most_lt (List.mem_of_mem_take hh))
    · refine List.count_eq_zero.2 fun hh => hq (most_lt (List.mem_of_mem_drop hh))
  rw [Bool.eq_iff_iff, beq_iff_eq]
  unfold likeN
  rw [List.all_eq_true]
  constructor
  · intro he q hq
    have hq' := List.mem_range.1 hq
    have := dif_get (shN t h).1 (shN t h).2 (q := q) (by omega)
    rw [he] at this
    rw [beq_iff_eq]
    have e0 : (List.replicate 12 (0 : Int)).getD q 0 = 0 := by
      rw [List.getD_eq_getElem?_getD, List.getElem?_replicate]
      split <;> rfl
    omega
  · intro he
    apply List.ext_getElem (by simp [dif_len])
    intro i h1 h2
    rw [dif_len] at h1
    simp only [difL, List.getElem_map, List.getElem_range, List.getElem_replicate]
    by_cases hq : i < mostN (colN (besN t h)).1
    · have := he i (List.mem_range.2 hq)
      rw [beq_iff_eq] at this
      omega
    · have := hsub i hq
      omega
@[simp] theorem eqT12 : eqT Tryz.prog 85 = some 12 := by kernel_rfl
theorem rep12 : List.replicate 12 (0 : Int) = [0, 0, 0, 0, 0, 0, 0, 0, 0, 0, 0, 0] := rfl
theorem ralike_spec (t h : List Nat) (ht : Tow 6 t) (hh : Tow 6 h) : PCall Tryz.prog 15 [eNs t, eNs h] (pB (likeN t h)) [] := by
  refine pcall_wp _ Tryz.func15 rfl (by kernel_rfl) rfl ?_
  have h6 := ht.le
  have h6' := hh.le
  have hp := ht.pos
  obtain ⟨hbl, hbs⟩ := bes_facts ht hh
  have h64 : 2 ^ h.length ≤ 2 ^ 6 := Nat.pow_le_pow_right (by decide) h6'
  have hbe := rboth_spec t h h6 h6' fun x hx => Nat.lt_of_lt_of_le (hh.lt x hx) h64
  have hco := rRefined_spec (besN t h) (by omega) (by omega) hbs
  have hfu := colN_full (besN t h)
  have hle := full_le hfu
  have hcl := hfu.1
  have hld := like_dif (t := t) (h := h) (by omega)
  have e1 : (shN t h).1 = (colN (besN t h)).1.take t.length := rfl
  have e2 : (shN t h).2 = (colN (besN t h)).1.drop t.length := rfl
  rw [e1, e2, rep12] at hld
  have hlt : ∀ x ∈ (colN (besN t h)).1, x < 12 := fun x hx => by
    have := most_lt hx
    omega
  clear e1 e2
  generalize likeN t h = b at *
  generalize (colN (besN t h)).1 = C at *
  generalize (colN (besN t h)).2 = r at *
  have hz : cellsI (difL [] []) = List.replicate 12 (PV.t .fz (eI 0)) := by kernel_rfl
  simp -dsimp
  first
    | refine CallG.by (hbe) ?_
    | refine CallGE.by (hbe) ?_
    | refine CallGB.by (hbe) ?_
  simp -dsimp
  first
    | refine CallG.by (hco) ?_
    | refine CallGE.by (hco) ?_
    | refine CallGB.by (hco) ?_
  simp -dsimp
  refine wk_loop (fun i : Nat => ⟨[(19, pI i), (18, pI C.length), (17, .t .fz (eNs C)), (7, .ptr 7 0), (0, .t .ro (eNs t))], [(7, .blk 85 (cellsI (difL ((C.take i).take t.length) ((C.take i).drop t.length))))]⟩)
    (fun i => i ≤ C.length) (fun i => C.length - i) 0
    (le_of (by simp) (by simp [hz])) (by omega) fun i hi => ?_
  simp -dsimp
  refine condX_dec (fun hy => ?_) (fun hy => ?_)
  · have hw := wr (n := (i : Int) + 1) (by omega) (by omega)
    have q1 := iL_at (l := C) (i := i) hy
    have hc := hlt _ (getD_mem hy)
    have hta := take_at hy
    have i1 : (i : Int) < C.length := by omega
    have i5 : (0 : Int) ≤ i := by omega
    have hcl1 : (C.take i).length = i := by simp; omega
    have hk1 : ((C.take i).take t.length).count (C.getD i 0) ≤ 1000 := Nat.le_trans List.count_le_length (by simp; omega)
    have hk2 : ((C.take i).drop t.length).count (C.getD i 0) ≤ 1000 := Nat.le_trans List.count_le_length (by simp; omega)
    have hget := dif_get ((C.take i).take t.length) ((C.take i).drop t.length) hc
    have hsP := dif_snocP ((C.take i).take t.length) ((C.take i).drop t.length) hc
    have hsM := dif_snocM ((C.take i).take t.length) ((C.take i).drop t.length) hc
    have hlen := dif_len ((C.take i).take t.length) ((C.take i).drop t.length)
    have hPn : i < t.length → (C.take (i + 1)).take t.length = (C.take i).take t.length ++ [C.getD i 0] ∧ (C.take (i + 1)).drop t.length = (C.take i).drop t.length := fun hlt2 => by
      rw [hta]
      constructor
      · rw [List.take_of_length_le (l := C.take i ++ [C.getD i 0]) (by simp; omega), List.take_of_length_le (l := C.take i) (by omega)]
      · rw [List.drop_of_length_le (l := C.take i ++ [C.getD i 0]) (by simp; omega), List.drop_of_length_le (l := C.take i) (by omega)]
    have hMn : ¬ i < t.length → (C.take (i + 1)).take t.length = (C.take i).take t.length ∧ (C.take (i + 1)).drop t.length = (C.take i).drop t.length ++ [C.getD i 0] := fun hlt2 => by
      rw [hta]
      constructor
      · rw [List.take_append_of_le_length (by omega)]
      · rw [List.drop_append_of_le_length (by omega)]
    generalize C.getD i 0 = c at *
    generalize (C.take i).take t.length = P at *
    generalize (C.take i).drop t.length = M at *
    have hx : -1000 ≤ (P.count c : Int) - (M.count c : Int) ∧ (P.count c : Int) - (M.count c : Int) ≤ 1000 := by omega
    generalize (P.count c : Int) - (M.count c : Int) = x at hget hsP hsM hx
    have hcl2 : c + 1 ≤ (difL P M).length := by omega
    have hwp := wr (n := x + 1) (by omega) (by omega)
    have hwm := wr (n := x - 1) (by omega) (by omega)
    have hcg := cellsI_get (rs := difL P M) (i := c) (by omega)
    rw [hget] at hcg
    have c1 : (c : Int) < 12 := by omega
    have c5 : (0 : Int) ≤ c := by omega
    by_cases hl : (i : Int) < t.length
    · obtain ⟨n1, n2⟩ := hPn (by omega)
      have hi2 : i < t.length := by omega
      simp -dsimp [i1, i5, q1, hl, hi2, c1, c5, hcg, hwp, hcl2]
      refine LoopP_next (i + 1) (le_of (by simp [hw]) (by simp [n1, n2, hsP])) (by omega) (by omega)
    · obtain ⟨n1, n2⟩ := hMn (by omega)
      have hi2 : ¬ i < t.length := by omega
      simp -dsimp [i1, i5, q1, hl, hi2, c1, c5, hcg, hwm, hcl2]
      refine LoopP_next (i + 1) (le_of (by simp [hw]) (by simp [n1, n2, hsM])) (by omega) (by omega)
  · have hi' : i = C.length := by omega
    subst hi'
    rw [List.take_length]
    have hlen := dif_len (C.take t.length) (C.drop t.length)
    generalize difL (C.take t.length) (C.drop t.length) = D at hld hlen
    have htk : List.take 12 (cellsI D) = cellsI D := List.take_of_length_le (by simp; omega)
    simp -dsimp [hlen, htk, hld]
    refine retP_c ?_
    simp -dsimp
end Go.Proofs.YtnikonhkbldnnaaGreatDoor
