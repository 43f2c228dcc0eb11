import Derived.Test.YtfcbmcmkakceaaaDoorLB13
/- LB14: slices.CompactFunc of kinds. -/
set_option linter.unusedVariables false
set_option linter.unusedSimpArgs false
set_option maxRecDepth 20000
namespace Go.Proofs.YtfcbmcmkakceaaaDoor
open Go Go.PS
attribute [-simp] isKeyK List.map_take
theorem drop_gK {l : List (List Nat)} {i : Nat} (h : i < l.length) : l.drop i = gK l i :: l.drop (i + 1) := by
  rw [List.drop_eq_getElem_cons h]
  simp [gK, List.getD_eq_getElem?_getD, h]
theorem take_gK {l : List (List Nat)} {i : Nat} (h : i < l.length) : l.take (i + 1) = l.take i ++ [gK l i] := by
  rw [List.take_add_one]
  simp [gK, List.getD_eq_getElem?_getD, h]
def CmpPostK (l : List (List Nat)) (r : PV) (M : List (Nat × Res)) : Prop :=
  ∃ (zs : List (List Nat)) (tl : List (List TL)), M = [(1000011, .row 164 2 .ro (zs.map eKd ++ tl))] ∧ zs = cmpK l ∧ ((r = .osl 1000011 ∧ tl = []) ∨ (r = .osv 1000011 2 0 zs.length ∧ 0 < zs.length))
/-- Nothing, or one: it stays. -/
theorem compactK_few (l : List (List Nat)) (h2 : (l.length : Int) < 2) : ECallP Tryd.prog 131 [.osl 1000011, .clo 132 []] [(1000011, .row 164 2 .ro (l.map eKd))] (CmpPostK l) := by
  refine ecallP_wp Tryd.func131 rfl (by kernel_rfl) ?_
  simp -dsimp [h2]
  have hF : cmpK l = l := by
    match l, h2 with
    | [], _ => rfl
    | [x], _ => rfl
    | _ :: _ :: _, h => simp at h; omega
  exact retEP_c (.osl 1000011) [(1000011, .row 164 2 .ro (l.map eKd))] ⟨l, [], by simp, hF.symm, .inl ⟨rfl, rfl⟩⟩ (by simp) (by simp)
set_option maxHeartbeats 1000000 in
theorem compactK_spec (l : List (List Nat)) (hne : ∀ x ∈ l, x ≠ []) (hl : l.length ≤ 1000) : ECallP Tryd.prog 131 [.osl 1000011, .clo 132 []] [(1000011, .row 164 2 .ro (l.map eKd))] (CmpPostK l) := by
  by_cases h2 : (l.length : Int) < 2
  · exact compactK_few l h2
  refine ecallP_wp Tryd.func131 rfl (by kernel_rfl) ?_
  simp -dsimp [h2]
  refine wk_loop (fun p : Kind × Nat => ⟨[(5, .t p.1 (eI p.2)), (0, .osl 1000011), (1, .clo 132 [])], [(1000011, .row 164 2 .ro (l.map eKd))]⟩)
    (fun p => 1 ≤ p.2 ∧ p.2 ≤ l.length ∧ cmpK l = l.take p.2 ++ cgoK (gK l (p.2 - 1)) (l.drop p.2)) (fun p => l.length - p.2) (.fz, 1)
    (le_of (by simp) (by simp)) ⟨by simp, by simp only; omega, by
      cases l with
      | nil => simp at h2
      | cons x l => simp [cmpK, gK]⟩ fun ⟨kd, i⟩ ⟨hi1, hi, hr⟩ => ?_
  dsimp only at hi1 hi hr
  simp -dsimp
  refine condX_dec (fun h => ?_) (fun h => ?_)
  · have hw := wr (n := (i : Int) + 1) (by omega) (by omega)
    have he : (i : Int) - 1 = ((i - 1 : Nat) : Int) := by omega
    have hw1 := wr (n := ((i - 1 : Nat) : Int)) (by omega) (by omega)
    have h' : i - 1 < l.length := by omega
    have hi0 : ((i - 1 : Nat) : Int) < l.length := by omega
    have q1 : gK l i = l[i] := by simp [gK, List.getD_eq_getElem?_getD, h]
    have q2 : gK l (i - 1) = l[i - 1] := by simp [gK, List.getD_eq_getElem?_getD, h']
    rw [q2, drop_gK h, q1] at hr
    have hP := closure132 l[i] l[i - 1] (hne _ (List.getElem_mem h)) (hne _ (List.getElem_mem h'))
    simp -dsimp
    refine wk_draw 10 [] mixed (by kernel_rfl) ?_
    by_cases hq : l[i] = l[i - 1]
    · rw [decide_eq_true hq] at hP
      simp -dsimp [he, hw1, h, h', hi0]
      first
        | refine CallG.by (hP) ?_
        | refine CallGE.by (hP) ?_
        | refine CallGB.by (hP) ?_
      simp -dsimp [he, hw1, h, h', hi0]
      refine wk_loop (fun p : Kind × Nat × Nat × List (List Nat) => ⟨[(7, pI p.2.1), (6, .osv 1000011 2 i (l.length - i)), (5, .t p.1 (eI p.2.2.1)), (0, .osl 1000011), (1, .clo 132 [])], [(1000011, .row 164 2 .ro (p.2.2.2.map eKd))]⟩)
        (fun p => 1 ≤ p.2.1 ∧ i + p.2.1 ≤ l.length ∧ i ≤ p.2.2.1 ∧ p.2.2.1 + 1 ≤ i + p.2.1 ∧ p.2.2.2.length = l.length ∧ (∀ a, i + p.2.1 ≤ a + 1 → gK p.2.2.2 a = gK l a) ∧ cmpK l = p.2.2.2.take p.2.2.1 ++ cgoK (gK l (i + p.2.1 - 1)) (l.drop (i + p.2.1))) (fun p => l.length - (i + p.2.1)) (kd, 1, i, l)
        (le_of (by simp) (by simp)) ⟨by simp, by simp only; omega, by simp, by simp, rfl, fun a _ => rfl, by
          simp only [Nat.add_sub_cancel, q1]
          rw [hr, cgoK, if_pos hq]⟩ fun ⟨k3, j, c, zs⟩ ⟨hj1, hj, hc1, hc2, hzl, hza, hzr⟩ => ?_
      dsimp only at hj1 hj hc1 hc2 hzl hza hzr
      simp -dsimp
      refine condX_dec (fun hx => ?_) (fun hx => ?_)
      · have ha : i + j < l.length := by omega
        have hwj := wr (n := (j : Int) + 1) (by omega) (by omega)
        have hwc := wr (n := (c : Int) + 1) (by omega) (by omega)
        have hej : (j : Int) - 1 = ((j - 1 : Nat) : Int) := by omega
        have hwj1 := wr (n := ((j - 1 : Nat) : Int)) (by omega) (by omega)
        have z1 : i + j < zs.length := by omega
        have z2 : i + (j - 1) < zs.length := by omega
        have z0 : c < zs.length := by omega
        have zc : (c : Int) < zs.length := by omega
        have hv1 : j - 1 < l.length - i := by omega
        have hv3 : i + (l.length - i) ≤ zs.length := by omega
        have hz1 := hza (i + j) (by omega)
        have hz2 := hza (i + (j - 1)) (by omega)
        have r1 : gK zs (i + j) = zs[i + j] := by simp [gK, List.getD_eq_getElem?_getD, z1]
        have r2 : gK zs (i + (j - 1)) = zs[i + (j - 1)] := by simp [gK, List.getD_eq_getElem?_getD, z2]
        have m1 : zs[i + j] ∈ l := by
          rw [← r1, hz1]
          simp [gK, List.getD_eq_getElem?_getD, ha]
        have m2 : zs[i + (j - 1)] ∈ l := by
          have : i + (j - 1) < l.length := by omega
          rw [← r2, hz2]
          simp [gK, List.getD_eq_getElem?_getD, this]
        have hP2 := closure132 zs[i + j] zs[i + (j - 1)] (hne _ m1) (hne _ m2)
        have hzr2 : cmpK l = zs.take c ++ cgoK zs[i + (j - 1)] (zs[i + j] :: l.drop (i + (j + 1))) := by
          rw [hzr, drop_gK ha, ← r1, hz1, ← r2, hz2, show i + j - 1 = i + (j - 1) by omega]
          rfl
        simp -dsimp
        refine wk_draw 10 [] mixed (by kernel_rfl) ?_
        by_cases hq2 : zs[i + j] = zs[i + (j - 1)]
        · rw [decide_eq_true hq2] at hP2
          simp -dsimp [hx, hej, hwj1, z1, z2, hv1, hv3]
          first
            | refine CallG.by (hP2) ?_
            | refine CallGE.by (hP2) ?_
            | refine CallGB.by (hP2) ?_
          simp -dsimp
          refine LoopP_next (k3, j + 1, c, zs) (le_of (by simp [hwj]) (by simp)) ⟨by simp only; omega, by simp only; omega, hc1, by simp only; omega, hzl, fun a ha => hza a (by simp only at ha; omega), ?_⟩ (by simp only; omega)
          simp only
          rw [hzr2, cgoK, if_pos hq2, show i + (j + 1) - 1 = i + j by omega, ← hz1, r1]
        · rw [decide_eq_false hq2] at hP2
          simp -dsimp [hx, hej, hwj1, z1, z2, hv1, hv3, zc, z0]
          first
            | refine CallG.by (hP2) ?_
            | refine CallGE.by (hP2) ?_
            | refine CallGB.by (hP2) ?_
          simp -dsimp [hx, hej, hwj1, z1, z2, hv1, hv3, zc, z0]
          refine LoopP_next (.fz, j + 1, c + 1, zs.set c zs[i + j]) (le_of (by simp [hwj, hwc]) (by simp [List.map_set])) ⟨by simp only; omega, by simp only; omega, by simp only; omega, by simp only; omega, by simpa using hzl, fun a ha => ?_, ?_⟩ (by simp only; omega)
          · simp only at ha ⊢
            rw [← hza a (by omega)]
            simp [gK, List.getD_eq_getElem?_getD, List.getElem?_set_ne (show c ≠ a by omega)]
          · simp only
            have e1 : (zs.set c zs[i + j]).take (c + 1) = zs.take c ++ [zs[i + j]] := by
              rw [List.take_add_one, List.take_set_of_le (by omega)]
              simp [z0]
            rw [hzr2, cgoK, if_neg hq2, show i + (j + 1) - 1 = i + j by omega, ← hz1, r1, e1, List.append_assoc]
            rfl
      · have hjl : i + j = l.length := by omega
        have z0 : c < zs.length := by omega
        have zc : (c : Int) < zs.length := by omega
        have hc0 : (0 : Int) ≤ c := by omega
        have hcp : (0 : Int) < c := by omega
        have hfin : zs.take c = cmpK l := by rw [hzr, hjl, List.drop_length, cgoK, List.append_nil]
        have hsp : c + (zs.length - c) ≤ zs.length := by omega
        have hsp0 : 0 < zs.length - c := by omega
        obtain ⟨tl, htl⟩ : ∃ tl, tl = List.replicate (zs.length - c) [TL.v (Value.int IntKind.i64 0), TL.v (Value.slice none 0 0)] := ⟨_, rfl⟩
        have hlen : (zs.take c).length = c := by simp; omega
        have hrow : List.take c (List.map eKd zs) ++ (List.replicate (zs.length - c) [TL.v (Value.int IntKind.i64 0), TL.v (Value.slice none 0 0)] ++ List.drop (c + (zs.length - c)) (List.map eKd zs)) = (zs.take c).map eKd ++ tl := by
          rw [List.drop_eq_nil_of_le (by simp; omega), htl]
          simp [List.map_take]
        have htll : tl.length = zs.length - c := by rw [htl]; simp
        rw [hfin] at hrow hlen
        generalize hks : cmpK l = ks at hrow hlen
        have z4 : (c : Int) ≤ (ks.map eKd ++ tl).length := by simp; omega
        have hcn : 0 < c := by omega
        have z5 : c ≤ ks.length + tl.length := by omega
        have z6 : (c : Int) ≤ (ks.length : Int) + tl.length := by omega
        simp -dsimp [zc, z0, hc0, hcp, hsp, hsp0, hrow, z4, hcn, z5, z6]
        exact retEP_c (.osv 1000011 2 0 c) [(1000011, .row 164 2 .ro (ks.map eKd ++ tl))] ⟨ks, tl, rfl, hks.symm, .inr ⟨by rw [hlen], by omega⟩⟩ (by simp) (by simp)
    · rw [decide_eq_false hq] at hP
      simp -dsimp [he, hw1, h, h', hi0]
      first
        | refine CallG.by (hP) ?_
        | refine CallGE.by (hP) ?_
        | refine CallGB.by (hP) ?_
      simp -dsimp
      refine LoopP_next (.fz, i + 1) (le_of (by simp [hw]) (by simp)) ⟨by simp only; omega, by simp only; omega, ?_⟩ (by simp only; omega)
      have e1 : l.take (i + 1) = l.take i ++ [l[i]] := by rw [take_gK h, q1]
      simp only [Nat.add_sub_cancel, q1]
      rw [e1, hr, cgoK, if_neg hq, List.append_assoc]
      rfl
  · have hi' : i = l.length := by omega
    subst hi'
    have hF : cmpK l = l := by rw [hr, List.drop_length, cgoK, List.append_nil, List.take_length]
    simp -dsimp
    exact retEP_c (.osl 1000011) [(1000011, .row 164 2 .ro (l.map eKd))] ⟨l, [], by simp, hF.symm, .inl ⟨rfl, rfl⟩⟩ (by simp) (by simp)
end Go.Proofs.YtfcbmcmkakceaaaDoor
