import Derived.Test.YtgcncgocdfioiaaDoorCS1
/- CS2: slices.Compact of pairs. -/
set_option linter.unusedVariables false
set_option linter.unusedSimpArgs false
set_option maxRecDepth 20000
namespace Go.Proofs.YtgcncgocdfioiaaDoor
open Go Go.PS
abbrev Pr := Nat × Nat
/-- Neighbours that are equal: one of them. -/
def cgo (p : Pr) : List Pr → List Pr
  | [] => []
  | y :: l => if y = p then cgo y l else y :: cgo y l
def cmpF : List Pr → List Pr
  | [] => []
  | x :: l => x :: cgo x l
theorem gP {l : List Pr} {i : Nat} (h : i < l.length) : (l.map cPr)[i]? = some (cPr (l.getD i (0, 0))) := by simp [List.getD_eq_getElem?_getD, h]
theorem drop_gP {l : List Pr} {i : Nat} (h : i < l.length) : l.drop i = l.getD i (0, 0) :: l.drop (i + 1) := by
  rw [List.drop_eq_getElem_cons h]
  simp [List.getD_eq_getElem?_getD, h]
theorem take_gP {l : List Pr} {i : Nat} (h : i < l.length) : l.take (i + 1) = l.take i ++ [l.getD i (0, 0)] := by
  rw [List.take_add_one]
  simp [List.getD_eq_getElem?_getD, h]
theorem prEq (a b : Pr) : (((a.1 : Int) == b.1) && ((a.2 : Int) == b.2)) = decide (a = b) := by
  rw [Bool.eq_iff_iff]
  obtain ⟨a1, a2⟩ := a
  obtain ⟨b1, b2⟩ := b
  simp
  omega
def CmpPost (l : List Pr) (r : PV) (M : List (Nat × Res)) : Prop :=
  ∃ zs : List Pr, M = [(1000011, .row 30 2 .ro (zs.map cPr))] ∧ ((r = .osl 1000011 ∧ zs = cmpF l) ∨ ∃ k, 0 < k ∧ k ≤ zs.length ∧ r = .osv 1000011 2 0 k ∧ zs.take k = cmpF l)
theorem compact_spec (l : List Pr) (hl : l.length ≤ 100000) : ECallP Tryd.prog 91 [.osl 1000011] [(1000011, .row 30 2 .ro (l.map cPr))] (CmpPost l) := by
  refine ecallP_wp Tryd.func91 rfl (by kernel_rfl) ?_
  by_cases h2 : (l.length : Int) < 2
  · simp -dsimp [h2]
    have hF : cmpF l = l := by
      match l, h2 with
      | [], _ => rfl
      | [x], _ => rfl
      | _ :: _ :: _, h => simp at h; omega
    exact retEP_c (.osl 1000011) [(1000011, .row 30 2 .ro (l.map cPr))] ⟨l, rfl, .inl ⟨rfl, hF.symm⟩⟩ (by simp) (by simp)
  simp -dsimp [h2]
  refine wk_loop (fun p : Kind × Nat => ⟨[(3, .t p.1 (eI p.2)), (0, .osl 1000011)], [(1000011, .row 30 2 .ro (l.map cPr))]⟩)
    (fun p => 1 ≤ p.2 ∧ p.2 ≤ l.length ∧ cmpF l = l.take p.2 ++ cgo (l.getD (p.2 - 1) (0, 0)) (l.drop p.2)) (fun p => l.length - p.2) (.fz, 1)
    (le_of (by simp) (by simp)) ⟨by simp, by simp only; omega, by
      cases l with
      | nil => simp at h2
      | cons x l => simp [cmpF]⟩ fun ⟨kd, i⟩ ⟨hi1, hi, hr⟩ => ?_
  dsimp only at hi1 hi hr
  simp -dsimp
  refine condX_dec (fun h => ?_) (fun h => ?_)
  · have hw := wr (n := (i : Int) + 1) (by omega) (by omega)
    have he : (i : Int) - 1 = ((i - 1 : Nat) : Int) := by omega
    have hw1 := wr (n := ((i - 1 : Nat) : Int)) (by omega) (by omega)
    have h' : i - 1 < l.length := by omega
    have hi0 : ((i - 1 : Nat) : Int) < l.length := by omega
    have q1 : l.getD i (0, 0) = l[i] := by simp [List.getD_eq_getElem?_getD, h]
    have q2 : l.getD (i - 1) (0, 0) = l[i - 1] := by simp [List.getD_eq_getElem?_getD, h']
    rw [q2, drop_gP h, q1] at hr
    have hP := prEq l[i] l[i - 1]
    simp -dsimp
    refine wk_draw 9 [] mixed (by kernel_rfl) ?_
    cases hb : decide (l[i] = l[i - 1]) with
    | false =>
      rw [hb] at hP
      have hne : ¬ l[i] = l[i - 1] := by simpa using hb
      simp -dsimp [he, hw1, h, h', hi0, hP]
      refine LoopP_next (.fz, i + 1) (le_of (by simp [hw]) (by simp)) ⟨by simp only; omega, by simp only; omega, ?_⟩ (by simp only; omega)
      have e1 : l.take (i + 1) = l.take i ++ [l[i]] := by rw [take_gP h, q1]
      simp only [Nat.add_sub_cancel, q1]
      rw [e1, hr, cgo, if_neg hne, List.append_assoc]
      rfl
    | true =>
      rw [hb] at hP
      have heq : l[i] = l[i - 1] := by simpa using hb
      simp -dsimp [he, hw1, h, h', hi0, hP]
      refine wk_loop (fun p : Kind × Nat × Nat × List Pr => ⟨[(5, pI p.2.1), (4, .osv 1000011 2 i (l.length - i)), (3, .t p.1 (eI p.2.2.1)), (0, .osl 1000011)], [(1000011, .row 30 2 .ro (p.2.2.2.map cPr))]⟩)
        (fun p => 1 ≤ p.2.1 ∧ i + p.2.1 ≤ l.length ∧ i ≤ p.2.2.1 ∧ p.2.2.1 + 1 ≤ i + p.2.1 ∧ p.2.2.2.length = l.length ∧ (∀ a, i + p.2.1 ≤ a + 1 → p.2.2.2.getD a (0, 0) = l.getD a (0, 0)) ∧ cmpF l = p.2.2.2.take p.2.2.1 ++ cgo (l.getD (i + p.2.1 - 1) (0, 0)) (l.drop (i + p.2.1))) (fun p => l.length - (i + p.2.1)) (kd, 1, i, l)
        (le_of (by simp) (by simp)) ⟨by simp, by simp only; omega, by simp, by simp, rfl, fun a _ => rfl, by
          simp only [Nat.add_sub_cancel, q1]
          rw [hr, cgo, if_pos heq]⟩ fun ⟨k3, j, c, zs⟩ ⟨hj1, hj, hc1, hc2, hzl, hza, hzr⟩ => ?_
      dsimp only at hj1 hj hc1 hc2 hzl hza hzr
      simp -dsimp
      refine condX_dec (fun hx => ?_) (fun hx => ?_)
      · have ha : i + j < l.length := by omega
        have hwj := wr (n := (j : Int) + 1) (by omega) (by omega)
        have hwc := wr (n := (c : Int) + 1) (by omega) (by omega)
        have hej : (j : Int) - 1 = ((j - 1 : Nat) : Int) := by omega
        have hwj1 := wr (n := ((j - 1 : Nat) : Int)) (by omega) (by omega)
        have z1 : i + j < zs.length := by omega
        have z2 : i + (j - 1) < zs.length := by omega
        have z0 : c < zs.length := by omega
        have zc : (c : Int) < zs.length := by omega
        have hv1 : j - 1 < l.length - i := by omega
        have hv3 : i + (l.length - i) ≤ zs.length := by omega
        have hz1 := hza (i + j) (by omega)
        have hz2 := hza (i + (j - 1)) (by omega)
        have r1 : zs.getD (i + j) (0, 0) = zs[i + j] := by simp [List.getD_eq_getElem?_getD, z1]
        have r2 : zs.getD (i + (j - 1)) (0, 0) = zs[i + (j - 1)] := by simp [List.getD_eq_getElem?_getD, z2]
        have hP2 := prEq zs[i + j] zs[i + (j - 1)]
        have hN : (!((zs[i + j].1 : Int) == zs[i + (j - 1)].1) || !((zs[i + j].2 : Int) == zs[i + (j - 1)].2)) = !decide (zs[i + j] = zs[i + (j - 1)]) := by rw [← hP2, Bool.not_and]
        have hzr2 : cmpF l = zs.take c ++ cgo zs[i + (j - 1)] (zs[i + j] :: l.drop (i + (j + 1))) := by
          rw [hzr, drop_gP ha, ← r1, hz1, ← r2, hz2, show i + j - 1 = i + (j - 1) by omega]
          rfl
        simp -dsimp
        refine wk_draw 9 [] mixed (by kernel_rfl) ?_
        cases hb2 : decide (zs[i + j] = zs[i + (j - 1)]) with
        | true =>
          have hq : zs[i + j] = zs[i + (j - 1)] := by simpa using hb2
          rw [hb2] at hN
          simp -dsimp [hx, hej, hwj1, z1, z2, hv1, hv3, hN]
          refine LoopP_next (k3, j + 1, c, zs) (le_of (by simp [hwj]) (by simp)) ⟨by simp only; omega, by simp only; omega, hc1, by simp only; omega, hzl, fun a ha => hza a (by simp only at ha; omega), ?_⟩ (by simp only; omega)
          simp only
          rw [hzr2, cgo, if_pos hq, show i + (j + 1) - 1 = i + j by omega, ← hz1, r1]
        | false =>
          have hq : ¬ zs[i + j] = zs[i + (j - 1)] := by simpa using hb2
          rw [hb2] at hN
          simp -dsimp [hx, hej, hwj1, z1, z2, hv1, hv3, hN, zc, z0]
          refine LoopP_next (.fz, j + 1, c + 1, zs.set c zs[i + j]) (le_of (by simp [hwj, hwc]) (by simp [List.map_set])) ⟨by simp only; omega, by simp only; omega, by simp only; omega, by simp only; omega, by simpa using hzl, fun a ha => ?_, ?_⟩ (by simp only; omega)
          · simp only at ha ⊢
            rw [← hza a (by omega)]
            simp [List.getD_eq_getElem?_getD, List.getElem?_set_ne (show c ≠ a by omega)]
          · simp only
            have e1 : (zs.set c zs[i + j]).take (c + 1) = zs.take c ++ [zs[i + j]] := by
              rw [List.take_add_one, List.take_set_of_le (by omega)]
              simp [z0]
            rw [hzr2, cgo, if_neg hq, show i + (j + 1) - 1 = i + j by omega, ← hz1, r1, e1, List.append_assoc]
            rfl
      · have hjl : i + j = l.length := by omega
        have z0 : c < zs.length := by omega
        have zc : (c : Int) < zs.length := by omega
        have hc0 : (0 : Int) ≤ c := by omega
        have hcp : (0 : Int) < c := by omega
        have hfin : zs.take c = cmpF l := by rw [hzr, hjl, List.drop_length, cgo, List.append_nil]
        have hsp : c + (zs.length - c) ≤ zs.length := by omega
        have hsp0 : 0 < zs.length - c := by omega
        have hrow : List.take c (List.map cPr zs) ++ (List.replicate (zs.length - c) [TL.v (Value.int IntKind.i64 0), TL.v (Value.int IntKind.i64 0)] ++ List.drop (c + (zs.length - c)) (List.map cPr zs)) = (zs.take c ++ List.replicate (zs.length - c) (0, 0)).map cPr := by
          rw [List.drop_eq_nil_of_le (by simp; omega)]
          simp [List.map_take]
        have hlen2 : (zs.take c ++ List.replicate (zs.length - c) ((0, 0) : Pr)).length = zs.length := by simp; omega
        have htk : (zs.take c ++ List.replicate (zs.length - c) ((0, 0) : Pr)).take c = cmpF l := by rw [List.take_left' (by simp; omega), hfin]
        generalize zs.take c ++ List.replicate (zs.length - c) ((0, 0) : Pr) = zs2 at *
        have z3 : c ≤ zs2.length := by omega
        have z4 : (c : Int) ≤ zs2.length := by omega
        have hcn : 0 < c := by omega
        simp -dsimp [zc, z0, hc0, hcp, hsp, hsp0, hrow, z4, hcn]
        exact retEP_c (.osv 1000011 2 0 c) [(1000011, .row 30 2 .ro (zs2.map cPr))] ⟨zs2, rfl, .inr ⟨c, by omega, z3, rfl, htk⟩⟩ (by simp) (by simp)
  · have hi' : i = l.length := by omega
    subst hi'
    have hF : cmpF l = l := by rw [hr, List.drop_length, cgo, List.append_nil, List.take_length]
    simp -dsimp
    exact retEP_c (.osl 1000011) [(1000011, .row 30 2 .ro (l.map cPr))] ⟨l, rfl, .inl ⟨rfl, hF.symm⟩⟩ (by simp) (by simp)
/-- A row of numbers is of no-one's memory. -/
theorem ecallP_fz {P : Program} {f : Nat} {args : List PV} {M : List (Nat × Res)} {Post Post2 : PV → List (Nat × Res) → Prop} (m0 : Nat) (h : ECallP P f args M Post)
    (hP : ∀ r M', Post r M' → ∃ (ty sz : Nat) (xs : List (List TL)), M' = [(m0, .row ty sz .ro xs)] ∧ (∀ e ∈ xs, ∀ x ∈ e, ∃ v, x = .v v) ∧ Post2 r [(m0, .row ty sz .fz xs)]) : ECallP P f args M Post2 := by
  refine ⟨h.1, fun w S φ fp vals hH => (h.2 w S φ fp vals hH).mono ?_⟩
  rintro e w' ⟨v, φ', fp', r, M', hp, he, hB⟩
  obtain ⟨ty, sz, xs, rfl, hleaf, hp2⟩ := hP r M' hp
  refine ⟨v, φ', fp', r, _, hp2, he, hB.evo, fun m => ?_, hB.disj, hB.old, hB.fix, hB.val⟩
  have hr := hB.res m
  by_cases em : m0 = m
  · subst em
    simp only [getM, if_true] at hr ⊢
    obtain ⟨cells, h1, h2, h3, h4⟩ := hr
    refine ⟨cells, h1, h2, h3, fun i j e x he hx => ?_⟩
    obtain ⟨u, rfl⟩ := hleaf e (List.mem_of_getElem? he) x (List.mem_of_getElem? hx)
    have := tv_inv (h4 i j e (.v u) he hx)
    rw [this]
    exact .v _
  · simpa [getM, em] using hr
theorem leafP (l : List Pr) : ∀ e ∈ l.map cPr, ∀ x ∈ e, ∃ v, x = TL.v v := by
  intro e he x hx
  obtain ⟨p, _, rfl⟩ := List.mem_map.1 he
  simp at hx
  rcases hx with rfl | rfl <;> exact ⟨_, rfl⟩
theorem sortP_fz (xs : List Pr) (hx : xs ≠ []) :
    ECallP Tryd.prog 87 [.osl 1000011, .clo 88 []] [(1000011, .row 30 2 .ro (xs.map cPr))] fun r M' => r = .tup [] ∧ ∃ ys : List Pr, xs.Perm ys ∧ ys.Pairwise (fun a b => ltP b a = false) ∧ M' = [(1000011, .row 30 2 .fz (ys.map cPr))] :=
  ecallP_fz 1000011 (sortP_spec xs hx) fun r M' ⟨h1, ys, h2, h3, h4⟩ => ⟨30, 2, ys.map cPr, h4, leafP ys, h1, ys, h2, h3, rfl⟩
def CmpPost2 (l : List Pr) (r : PV) (M : List (Nat × Res)) : Prop :=
  ∃ zs : List Pr, M = [(1000011, .row 30 2 .fz (zs.map cPr))] ∧ ((r = .osl 1000011 ∧ zs = cmpF l) ∨ ∃ k, 0 < k ∧ k ≤ zs.length ∧ r = .osv 1000011 2 0 k ∧ zs.take k = cmpF l)
theorem compact_fz (l : List Pr) (hl : l.length ≤ 100000) : ECallP Tryd.prog 91 [.osl 1000011] [(1000011, .row 30 2 .ro (l.map cPr))] (CmpPost2 l) :=
  ecallP_fz 1000011 (compact_spec l hl) fun r M' ⟨zs, h1, h2⟩ => ⟨30, 2, zs.map cPr, h1, leafP zs, zs, rfl, h2⟩
end Go.Proofs.YtgcncgocdfioiaaDoor
