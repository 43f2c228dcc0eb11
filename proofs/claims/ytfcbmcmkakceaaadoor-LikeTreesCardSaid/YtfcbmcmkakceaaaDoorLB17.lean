import Derived.Test.YtfcbmcmkakceaaaDoorLB16
import Derived.Test.YtfcbmcmkakceaaaDoorLB14
import Derived.Test.YtfcbmcmkakceaaaDoorPSF
/- LB17: the colours of the next round. -/
set_option linter.unusedVariables false
set_option linter.unusedSimpArgs false
set_option maxRecDepth 20000
namespace Go.Proofs.YtfcbmcmkakceaaaDoor
open Go Go.PS
attribute [-simp] isKeyK List.map_take
theorem cI_flat (l : List Int) : ∀ e ∈ l.map cI, ∀ x ∈ e, ∃ v, x = TL.v v := by
  intro e he x hx
  obtain ⟨n, _, rfl⟩ := List.mem_map.1 he
  simp [cI] at hx
  exact ⟨_, hx⟩
theorem clone128_row (L : List (List Nat)) (hb : L.length ≤ 1000) : PCall Tryd.prog 128 [.sl .any 2 (L.map eKd)] (.osl 0) [(0, .row 164 2 .ro (L.map eKd))] := by
  refine pcall_any 0 rfl call128 (fun h => ?_) ?_
  · simp at h
    subst h
    refine pcall_nilrow (k := .fz) ?_
    refine pcall_wp _ Tryd.func128 rfl (by kernel_rfl) rfl ?_
    simp -dsimp
    refine retP_c ?_
    simp -dsimp
  · have hb' : L.length * 32 ≤ 140737488355328 := by omega
    refine pcall_wp _ Tryd.func128 rfl (by kernel_rfl) rfl ?_
    simp -dsimp [hb']
    exact retP_own 5 (by simp; rfl) (by simp) (by simp) (by simp) (by simp)
def colAt (c : List Nat) (u : Nat) : Nat := c.getD u 0
theorem kdN_eq (t c : List Nat) (v : Nat) : kdN t c v = c.getD v 0 :: srtN ((ndN (t.getD v 0)).map (colAt c)) := rfl
theorem kds_take (t c : List Nat) {v : Nat} (h : v < t.length) : (List.range (v + 1)).map (kdN t c) = (List.range v).map (kdN t c) ++ [kdN t c v] := by rw [List.range_succ, List.map_append]; rfl
theorem cgoK_len : ∀ (l : List (List Nat)) (p : List Nat), (cgoK p l).length ≤ l.length
  | [], p => by simp [cgoK]
  | x :: l, p => by
    have := cgoK_len l x
    have := cgoK_len l p
    rw [cgoK]
    split <;> simp <;> omega
theorem cmpK_len (l : List (List Nat)) : (cmpK l).length ≤ l.length := by
  cases l with
  | nil => simp [cmpK]
  | cons x l =>
    have := cgoK_len l x
    simp [cmpK]
    omega
theorem refined_spec (t c : List Nat) (hc : c.length = t.length) (ht : t.length ≤ 12) (hs : ∀ x ∈ t, x < 2 ^ t.length) :
    PCall Tryd.prog 98 [eNs t, eNs c] (.t .fz (eNs (refN t c))) [] := by
  refine pcall_wpS [14] Tryd.func98 rfl (by kernel_rfl) ?_
  have h12 : 2 ^ t.length ≤ 2 ^ 12 := Nat.pow_le_pow_right (by decide) ht
  simp -dsimp
  refine lg_adoptT 5 5 164 2 (by simp; rfl) (by simp) ?_
  refine wk_loopS [11, 12] (fun p : Kind × Nat => ⟨[(19, pI p.2), (18, pI t.length), (17, .t .ro (eNs t)), (5, .osl 5), (0, .t .ro (eNs t)), (1, .t .ro (eNs c))], [(5, .row 164 2 p.1 (((List.range p.2).map (kdN t c)).map eKd))]⟩)
    (fun p => p.2 ≤ t.length) (fun p => t.length - p.2) (.fz, 0)
    (le_of (by simp) (by simp)) (by simp) fun ⟨kr, v⟩ hv => ?_
  dsimp only at hv
  simp -dsimp
  refine condX_dec (fun hx => ?_) (fun hx => ?_)
  · have hw := wr (n := (v : Int) + 1) (by omega) (by omega)
    have q1 := iL_at (l := t) (i := v) hx
    have q2 := iL_at (l := c) (i := v) (by omega)
    have hm := hs _ (getD_mem hx)
    have hkd := kdN_eq t c v
    have hkt := kds_take t c hx
    have hnlt : ∀ u ∈ ndN (t.getD v 0), u < c.length := fun u hu => by
      have hb := (bits_mem (s := t.getD v 0) (i := u) (by omega)).1 hu
      rcases Nat.lt_or_ge u c.length with h5 | h5
      · exact h5
      · rw [Nat.testBit_lt_two_pow (Nat.lt_of_lt_of_le hm (Nat.pow_le_pow_right (n := 2) (by decide) (by omega)))] at hb
        cases hb
    have hnl := bits_len (t.getD v 0)
    have hnd := nodes_spec (t.getD v 0) (by omega)
    generalize t.getD v 0 = s at q1 hkd hnlt hnl hnd
    generalize c.getD v 0 = own at q2 hkd
    generalize ndN s = L at hkd hnlt hnl hnd
    have i1 : (v : Int) < t.length := by omega
    have i2 : (v : Int) < c.length := by omega
    have i5 : (0 : Int) ≤ v := by omega
    simp -dsimp [i1, i2, i5, q1, q2]
    first
      | refine CallG.by (hnd) ?_
      | refine CallGE.by (hnd) ?_
      | refine CallGB.by (hnd) ?_
    simp -dsimp
    refine lg_adoptM 8 1 120 3 1 (by simp; exact ⟨rfl, rfl⟩) (by simp; rfl) (by simp) (by simp) ?_
    refine wk_loop (fun i : Nat => ⟨[(32, pI i), (31, pI L.length), (30, .t .fz (eNs L)), (8, .ptr 8 0), (19, pI v), (18, pI t.length), (17, .t .ro (eNs t)), (5, .osl 5), (0, .t .ro (eNs t)), (1, .t .ro (eNs c))],
        [(8, .blk 164 [.t .ro (eI own), .osl 120]), (120, .row 3 1 .fz ((iL ((L.take i).map (colAt c))).map cI)), (5, .row 164 2 kr (((List.range v).map (kdN t c)).map eKd))]⟩)
      (fun i => i ≤ L.length) (fun i => L.length - i) 0
      (le_of (by simp) (by simp)) (by simp) fun i hi => ?_
    simp -dsimp
    refine condX_dec (fun hy => ?_) (fun hy => ?_)
    · have hwi := wr (n := (i : Int) + 1) (by omega) (by omega)
      have r1 := iL_at (l := L) (i := i) hy
      have hlt := hnlt _ (getD_mem hy)
      have r2 := iL_at (l := c) (i := L.getD i 0) hlt
      have hta : (L.take (i + 1)).map (colAt c) = (L.take i).map (colAt c) ++ [c.getD (L.getD i 0) 0] := by
        rw [take_at hy, List.map_append]; rfl
      generalize L.getD i 0 = u at r1 hlt r2 hta
      generalize c.getD u 0 = q at r2 hta
      have j1 : (i : Int) < L.length := by omega
      have j2 : (u : Int) < c.length := by omega
      have j5 : (0 : Int) ≤ i := by omega
      have j6 : (0 : Int) ≤ u := by omega
      have hbb : (min i L.length + 1) * 8 ≤ 140737488355328 := by omega
      simp -dsimp [j1, j5, r1]
      refine wk_draw 7 [6] mixed (by kernel_rfl) ?_
      simp -dsimp [j2, j6, r2, hbb]
      refine LoopP_next (i + 1) (le_of (by simp [hwi]) (by simp [hta])) (by omega) (by omega)
    · have hi' : i = L.length := by omega
      subst hi'
      rw [List.take_length]
      have hso := sortI_spec (L.map (colAt c)) (by simp; exact hnl)
      simp -dsimp
      refine stop_rowk 120 .ro (ty := 3) (sz := 1) (k := .fz) (xs := (iL (L.map (colAt c))).map cI) (by simp) (cI_flat _) ?_
      refine stop_go ?_
      simp -dsimp
      refine CallG.onP (g := [(120, 1000011)]) hso (by decide) (by simp) (by simp) (by simp [Sg.bk]) fun r M' hP => ?_
      obtain ⟨rfl, rfl⟩ := hP
      simp -dsimp
      refine stop_frz [120] ?_
      simp -dsimp
      refine stop_go ?_
      have hbb : (v + 1) * 32 ≤ 140737488355328 := by omega
      simp -dsimp [hbb]
      refine LoopP_next (.ro, v + 1) (le_of (by simp [hw]) (by simp [hkt, hkd])) (by simp only; omega) (by simp only; omega)
  · have hv' : v = t.length := by omega
    subst hv'
    have hF : refN t c = (kdsN t c).map (rkL (kindsL (kdsN t c))) := rfl
    have hKl : (kdsN t c).length = t.length := by simp [kdsN]
    have hKn : ∀ x ∈ kdsN t c, x ≠ [] := fun x hx => by
      obtain ⟨u, _, rfl⟩ := List.mem_map.1 hx
      simp [kdN]
    rw [show List.map (eKd ∘ kdN t c) (List.range t.length) = (kdsN t c).map eKd by simp [kdsN]]
    generalize kdsN t c = K at hF hKl hKn
    have hS := kinds_ris K
    have hSm := kinds_mem K
    have hsk := sortK_spec K hKn (by omega)
    have hcl := clone128_row K (by omega)
    simp -dsimp
    refine stop_frz [5] ?_
    simp -dsimp
    refine stop_go ?_
    simp -dsimp
    first
      | refine CallG.by (hcl) ?_
      | refine CallGE.by (hcl) ?_
      | refine CallGB.by (hcl) ?_
    simp -dsimp
    refine CallG.onP (g := [(55, 1000011)]) hsk (by decide) (by simp) (by simp) (by simp [Sg.bk]) fun r M' hP => ?_
    obtain ⟨rfl, ys, hperm, hsd, rfl⟩ := hP
    have hyl := hperm.length_eq
    have hck := compactK_spec ys (fun x hx => hKn x (hperm.mem_iff.2 hx)) (by omega)
    have hcs := cmpK_kinds hperm hsd
    simp -dsimp
    refine CallG.onP (g := [(55, 1000011)]) hck (by decide) (by simp) (by simp) (by simp [Sg.bk]) fun r M' hP => ?_
    obtain ⟨zs, tl, rfl, hz, hr⟩ := hP
    have hzl := cmpK_len ys
    rw [← hz] at hzl
    rw [hcs] at hz
    subst hz
    generalize kindsL K = S at hF hS hSm hr hzl
    have hSl : S.length ≤ 100 := by omega
    have hbb : ∀ i, i < K.length → (min i K.length + 1) * 8 ≤ 140737488355328 := fun i hi => by omega
    have hwi : ∀ i, i < K.length → IntKind.i64.wrap ((i : Int) + 1) = (i : Int) + 1 := fun i hi => wr (by omega) (by omega)
    rcases hr with ⟨rfl, hz0⟩ | ⟨rfl, hz0⟩
    all_goals
      simp -dsimp
      refine lg_frz [55] ?_
      simp -dsimp [hz0]
      refine lg_adoptT 12 12 3 1 (by simp; rfl) (by simp) ?_
      refine wk_loop (fun i : Nat => ⟨[(62, pI i), (61, pI K.length), (60, .t kr (.sl .any 2 (K.map eKd))), (11, .t .ro (.sl .any 2 (S.map eKd))), (12, .osl 12)], [(12, .row 3 1 .fz ((iL ((K.take i).map (rkL S))).map cI))]⟩)
        (fun i => i ≤ K.length) (fun i => K.length - i) 0
        (le_of (by simp) (by simp)) (by omega) fun i hi => ?_
      simp -dsimp
      refine condX_dec (fun hy => ?_) (fun hy => ?_)
      · have hb := bsK_spec S K[i] hS (fun x hx => hKn x ((hSm x).1 hx)) ((hSm _).2 (List.getElem_mem hy)) hSl
        have hta : (K.take (i + 1)).map (rkL S) = (K.take i).map (rkL S) ++ [rkL S K[i]] := by
          rw [List.take_add_one, List.map_append]
          simp [hy]
        have h1 := hbb i hy
        have h2 := hwi i hy
        simp -dsimp [hy]
        first
          | refine CallG.by (hb) ?_
          | refine CallGE.by (hb) ?_
          | refine CallGB.by (hb) ?_
        simp -dsimp [h1]
        refine LoopP_next (i + 1) (le_of (by simp [h2]) (by simp [hta])) (by omega) (by omega)
      · have hi' : i = K.length := by omega
        subst hi'
        rw [List.take_length, ← hF]
        simp -dsimp
        refine retP_c ?_
        simp -dsimp
end Go.Proofs.YtfcbmcmkakceaaaDoor
