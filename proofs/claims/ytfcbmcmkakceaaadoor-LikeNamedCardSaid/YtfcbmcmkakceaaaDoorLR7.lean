import Derived.Test.YtfcbmcmkakceaaaDoorLR4
import Derived.Test.YtfcbmcmkakceaaaDoorLR6
import Derived.Test.YtfcbmcmkakceaaaDoorLB21
/- LR7: the reference's Same and Turns. -/
set_option linter.unusedVariables false
set_option linter.unusedSimpArgs false
set_option maxRecDepth 20000
namespace Go.Proofs.YtfcbmcmkakceaaaDoor
open Go Go.PS
attribute [-simp] isKeyK List.map_take
theorem rnames_spec (g h : List Nat) (hg : Tow 6 g) (hh : Tow 6 h) (hgl : g.length = h.length) : ∀ (f : Nat) (b : List Nat), b.length + f = g.length → (∀ u, u < b.length → b.getD u 0 < h.length) →
    PCall Tryd.prog 76 [eNs g, eNs h, eNs b] (.t .ro (.sl .any 1 ((namesN g h f b).map eR))) []
  | 0, b, hl, hb => by
    have e0 : ((g.length : Int) != (h.length : Int)) = false := by
      rw [bne_eq_false_iff_eq]
      omega
    have e1 : ((b.length : Int) == (g.length : Int)) = true := by
      rw [beq_iff_eq]
      omega
    have hN : namesN g h 0 b = [b] := rfl
    refine pcall_wpT Tryd.func76 rfl (by kernel_rfl) ?_
    rw [hN]
    simp -dsimp [e0, e1]
    refine retT_c ?_
    simp -dsimp
  | f + 1, b, hl, hb => by
    have hg6 := hg.le
    have hh6 := hh.le
    have e0 : ((g.length : Int) != (h.length : Int)) = false := by
      rw [bne_eq_false_iff_eq]
      omega
    have e1 : ((b.length : Int) == (g.length : Int)) = false := by
      rw [beq_eq_false_iff_ne]
      omega
    have h64 : 2 ^ g.length ≤ 2 ^ 6 := Nat.pow_le_pow_right (by decide) hg.le
    have h64' : 2 ^ h.length ≤ 2 ^ 6 := Nat.pow_le_pow_right (by decide) hh.le
    have hbl : b.length < g.length := by omega
    have q1 := iL_at (l := g) (i := b.length) hbl
    have hlt := hg.get b.length
    have i1 : (b.length : Int) < g.length := by omega
    have i5 : (0 : Int) ≤ b.length := by omega
    obtain ⟨G, hGf⟩ : ∃ G : Nat → List (List Nat), G = fun x => if fitS g h b x then namesN g h f (b ++ [x]) else [] := ⟨_, rfl⟩
    have hG : namesN g h (f + 1) b = (List.range h.length).flatMap G := by rw [hGf]; rfl
    have hGx : ∀ x, G x = if fitS g h b x then namesN g h f (b ++ [x]) else [] := fun x => by rw [hGf]
    clear hGf
    obtain ⟨N, hN⟩ : ∃ N : Nat → List (List Nat), ∀ x, N x = (List.range x).flatMap G := ⟨_, fun _ => rfl⟩
    have hN0 : N 0 = [] := hN 0
    have hNs : ∀ x, N (x + 1) = N x ++ G x := fun x => by rw [hN, hN]; simp [List.range_succ, List.flatMap_append]
    have hNl : ∀ x, (N x).length ≤ x * 6 ^ f := fun x => by
      induction x with
      | zero => rw [hN0]; simp
      | succ k ih =>
        rw [hNs, List.length_append, Nat.succ_mul, hGx]
        have h1 := names_le g h hh6 f (b ++ [k])
        split
        · omega
        · simp
          omega
    rw [hG, ← hN]
    clear hN hG
    have hp6 : 6 ^ f ≤ 6 ^ 6 := Nat.pow_le_pow_right (by decide) (by omega)
    refine pcall_wpT Tryd.func76 rfl (by kernel_rfl) ?_
    simp -dsimp [e0, e1]
    refine lg_adoptT 8 8 22 1 (by simp; rfl) (by simp) ?_
    refine wk_loop (fun p : Kind × Nat => ⟨[(28, pI p.2), (27, pI h.length), (8, .osl 8), (7, pI b.length), (0, .t .ro (eNs g)), (1, .t .ro (eNs h)), (2, .t .ro (eNs b))], [(8, .row 22 1 p.1 ((N p.2).map eR))]⟩)
      (fun p => p.2 ≤ h.length) (fun p => h.length - p.2) (.fz, 0) (le_of (by simp) (by simp [hN0])) (by simp) fun ⟨kr, x⟩ hx => ?_
    dsimp only at hx
    simp -dsimp
    refine condX_dec (fun hxl => ?_) (fun hxl => ?_)
    rotate_left
    · have hx' : x = h.length := by omega
      subst hx'
      simp -dsimp
      refine retT_c ?_
      simp -dsimp
    have hw := wr (n := (x : Int) + 1) (by omega) (by omega)
    have q2 := iL_at (l := h) (i := x) hxl
    have hhx := hh.get x
    have hsx := hNs x
    have hm1 := hNl x
    have hm3 : x * 6 ^ f ≤ 6 * 6 ^ 6 := Nat.mul_le_mul (by omega) hp6
    rw [hGx] at hsx
    have hnle := names_le g h hh6 f (b ++ [x])
    have ih := rnames_spec g h hg hh hgl f (b ++ [x]) (by simp; omega) (getD_snoc hb hxl)
    obtain ⟨F, hF⟩ : ∃ F : Nat → Bool, F = fun u => (b.getD u 0 != x) && (nbN g b.length u == nbN h x (b.getD u 0)) := ⟨_, rfl⟩
    have hfd : fitS g h b x = (List.range b.length).all F := by rw [hF]; rfl
    have hFu : ∀ u, F u = ((b.getD u 0 != x) && ((g.getD b.length 0).testBit u == (h.getD x 0).testBit (b.getD u 0))) := fun u => by rw [hF]; rfl
    clear hF
    have hb6 : ∀ u, u < b.length → b.getD u 0 < 6 := fun u hu => by have := hb u hu; omega
    generalize g.getD b.length 0 = tv at *
    generalize h.getD x 0 = gx at *
    have i2 : (x : Int) < h.length := by omega
    have i6 : (0 : Int) ≤ x := by omega
    simp -dsimp
    refine wk_loop (fun p : Kind × Nat => ⟨[(33, pI p.2), (32, pI b.length), (31, .t .ro (eNs b)), (10, .t p.1 (eB ((List.range p.2).all F))), (9, pI x), (28, pI x), (27, pI h.length), (8, .osl 8), (7, pI b.length), (0, .t .ro (eNs g)), (1, .t .ro (eNs h)), (2, .t .ro (eNs b))], [(8, .row 22 1 kr ((N x).map eR))]⟩)
      (fun p => p.2 ≤ b.length) (fun p => b.length - p.2) (.fz, 0) (le_of (by simp) (by simp)) (by simp) fun ⟨kd, u⟩ hu => ?_
    dsimp only at hu
    simp -dsimp
    refine condX_dec (fun hy => ?_) (fun hy => ?_)
    · have hwu := wr (n := (u : Int) + 1) (by omega) (by omega)
      have r1 := iL_at (l := b) (i := u) hy
      have hA := all_succ F u
      rw [hFu u] at hA
      have hy6 := hb6 u hy
      have b1 := and1_bit tv u (by omega) (by omega)
      have b2 := and1_bit gx (b.getD u 0) (by omega) (by omega)
      generalize b.getD u 0 = y at *
      generalize (List.range u).all F = ok at *
      have j1 : (u : Int) < b.length := by omega
      have j5 : (0 : Int) ≤ u := by omega
      have j6 : (0 : Int) ≤ y := by omega
      have r1' : ∀ hh : u < (iL b).length, (iL b)[u]'hh = (y : Int) := fun hh => by
        rw [List.getElem?_eq_getElem hh] at r1
        exact Option.some.inj r1
      have e3 : ((if tv.testBit u = true then (1 : Int) else 0) == if gx.testBit y = true then 1 else 0) = (tv.testBit u == gx.testBit y) := by cases tv.testBit u <;> cases gx.testBit y <;> rfl
      have e4 : (andI (shrI (tv : Int) u) 1 == andI (shrI (gx : Int) y) 1) = (tv.testBit u == gx.testBit y) := by rw [b1, b2, e3]
      have e5 : ((x : Int) != (y : Int)) = (y != x) := by rw [Bool.eq_iff_iff, bne_iff_ne, bne_iff_ne]; omega
      generalize (tv.testBit u == gx.testBit y) = q at *
      simp -dsimp [j1, j5, hy, r1, r1']
      refine wk_draw 21 [] mixed (by kernel_rfl) ?_
      cases ok with
      | false =>
        simp -dsimp
        refine LoopP_next (.fz, u + 1) (le_of (by simp [hwu, hA]) (by simp)) (by simp only; omega) (by simp only; omega)
      | true =>
        rw [Bool.true_and] at hA
        cases hyx : (y != x) with
        | false =>
          rw [hyx] at hA e5
          simp -dsimp [e5]
          refine LoopP_next (.fz, u + 1) (le_of (by simp [hwu, hA]) (by simp)) (by simp only; omega) (by simp only; omega)
        | true =>
          rw [hyx, Bool.true_and] at hA
          rw [hyx] at e5
          simp -dsimp [e5, i1, i5, q1, i2, i6, q2, j5, j6, e4]
          refine LoopP_next (.fz, u + 1) (le_of (by simp [hwu, hA]) (by simp)) (by simp only; omega) (by simp only; omega)
    · have hu' : u = b.length := by omega
      subst hu'
      rw [← hfd]
      cases hfx : fitS g h b x with
      | false =>
        rw [hfx] at hsx
        simp only [Bool.false_eq_true, if_false, List.append_nil] at hsx
        simp -dsimp
        exact LoopP_next (kr, x + 1) (le_of (by simp [hw]) (by simp [hsx])) (by simp only; omega) (by simp only; omega)
      | true =>
        rw [hfx] at hsx
        simp only [if_true] at hsx
        have hbb : (b.length + 1) * 8 ≤ 140737488355328 := by omega
        have hbz : ((N x).length + (namesN g h f (b ++ [x])).length) * 24 ≤ 140737488355328 := by omega
        generalize namesN g h f (b ++ [x]) = R at *
        cases b with
        | nil =>
          simp only [List.nil_append] at ih
          simp -dsimp
          first
            | refine CallG.frz [71, 72] ?_
            | refine CallN.frz [71, 72] ?_
          simp -dsimp
          first
            | refine CallG.by (ih) ?_
            | refine CallGE.by (ih) ?_
            | refine CallGB.by (ih) ?_
          simp -dsimp [hbz]
          exact LoopP_next (.ro, x + 1) (le_of (by simp [hw]) (by simp [hsx])) (by simp only; omega) (by simp only; omega)
        | cons z b =>
          simp only [List.length_cons] at hbb
          simp only [eNs, eIs, List.cons_append, iL_append, iL_cons, iL_nil, List.map_append, List.map_cons, List.map_nil] at ih
          have z1 : (0 : Int) ≤ (b.length : Int) + 1 := by omega
          have k1 : List.take b.length (List.map cI (iL b)) = List.map cI (iL b) := List.take_of_length_le (by simp)
          simp -dsimp [hbb, z1, k1]
          first
            | refine CallG.frz [71, 72] ?_
            | refine CallN.frz [71, 72] ?_
          simp -dsimp
          first
            | refine CallG.by (ih) ?_
            | refine CallGE.by (ih) ?_
            | refine CallGB.by (ih) ?_
          simp -dsimp [hbz]
          exact LoopP_next (.ro, x + 1) (le_of (by simp [hw]) (by simp [hsx])) (by simp only; omega) (by simp only; omega)
theorem rnames_top (g h : List Int) (hg : isgB g = true) (hh : isgB h = true) :
    (g.length = h.length → PCall Tryd.prog 76 [eIs g, eIs h, .v (.slice none 0 0)] (.t .ro (.sl .any 1 ((namesOf (townOf g) (townOf h)).map eR))) []) ∧
    (g.length ≠ h.length → PCall Tryd.prog 76 [eIs g, eIs h, .v (.slice none 0 0)] (.t .fz nilT) []) := by
  constructor
  · intro hl
    have h1 := rnames_spec (townOf g) (townOf h) (town_tow hg) (town_tow hh) (by rw [town_len, town_len, hl]) (townOf g).length [] (by simp) (fun u hu => by simp at hu)
    have h2 := nil_argR 2 h1 rfl
    simp only [List.set_cons_succ, List.set_cons_zero] at h2
    rw [show eNs (townOf g) = eIs g by rw [eNs, town_back hg], show eNs (townOf h) = eIs h by rw [eNs, town_back hh]] at h2
    rw [namesOf, if_pos (by rw [town_len, town_len, hl])]
    exact h2
  · intro hl
    have hne : ((g.length : Int) != (h.length : Int)) = true := by
      rw [bne_iff_ne]
      omega
    refine pcall_wp _ Tryd.func76 rfl (by kernel_rfl) rfl ?_
    simp -dsimp [hne]
    refine retP_c ?_
    simp -dsimp [nilT]
theorem rSame_spec (g h : List Int) (hg : isgB g = true) (hh : isgB h = true) : PCall Tryd.prog 36 [eIs g, eIs h] (.t .ro (match (namesOf (townOf g) (townOf h)).head? with
  | some l => .tup [eNs l, eI 0]
  | none => .tup [nilT, eI 4])) [] := by
  obtain ⟨h1, h2⟩ := rnames_top g h hg hh
  refine pcall_wpT Tryd.func36 rfl (by kernel_rfl) ?_
  by_cases hl : g.length = h.length
  · have h1 := h1 hl
    generalize namesOf (townOf g) (townOf h) = N at *
    cases N with
    | nil =>
      simp -dsimp
      first
        | refine CallG.by (h1) ?_
        | refine CallGE.by (h1) ?_
        | refine CallGB.by (h1) ?_
      simp -dsimp
      refine retT_c ?_
      simp -dsimp [nilT]
    | cons l ls =>
      have hne : (((ls.length : Int) + 1) == 0) = false := by
        rw [beq_eq_false_iff_ne]
        omega
      have hp : (0 : Int) < (ls.length : Int) + 1 := by omega
      simp -dsimp
      first
        | refine CallG.by (h1) ?_
        | refine CallGE.by (h1) ?_
        | refine CallGB.by (h1) ?_
      simp -dsimp [hne, hp]
      refine retT_c ?_
      simp -dsimp
  · have h2 := h2 hl
    have hN : namesOf (townOf g) (townOf h) = [] := by rw [namesOf, if_neg (by rw [town_len, town_len]; exact hl)]
    rw [hN]
    rw [nilT] at h2
    simp -dsimp
    first
      | refine CallG.by (h2) ?_
      | refine CallGE.by (h2) ?_
      | refine CallGB.by (h2) ?_
    simp -dsimp
    refine retT_c ?_
    simp -dsimp [nilT]
theorem rTurns_spec (g : List Int) (hg : isgB g = true) : PCall Tryd.prog 35 [eIs g] (pI (namesOf (townOf g) (townOf g)).length) [] := by
  have h1 := (rnames_top g g hg hg).1 rfl
  refine pcall_wp _ Tryd.func35 rfl (by kernel_rfl) rfl ?_
  generalize namesOf (townOf g) (townOf g) = N at *
  simp -dsimp
  first
    | refine CallG.by (h1) ?_
    | refine CallGE.by (h1) ?_
    | refine CallGB.by (h1) ?_
  simp -dsimp
  refine retP_c ?_
  simp -dsimp
end Go.Proofs.YtfcbmcmkakceaaaDoor
