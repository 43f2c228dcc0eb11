import Derived.Test.YtfcbmcmkakceaaaDoorLR2
import Derived.Test.YtfcbmcmkakceaaaDoorLB19
/- LR6: the reference's Maps. -/
set_option linter.unusedVariables false
set_option linter.unusedSimpArgs false
set_option maxRecDepth 20000
namespace Go.Proofs.YtfcbmcmkakceaaaDoor
open Go Go.PS
attribute [-simp] isKeyK List.map_take
theorem all_succ (p : Nat → Bool) (n : Nat) : (List.range (n + 1)).all p = ((List.range n).all p && p n) := by simp [List.range_succ]
theorem rmaps_spec (t g : List Nat) (ht : Tow 6 t) (hg : Tow 6 g) : ∀ (f : Nat) (b : List Nat), b.length + f = t.length → (∀ u, u < b.length → b.getD u 0 < g.length) →
    PCall Tryd.prog 72 [eNs t, eNs g, eNs b] (pI (mapsN t g f b)) []
  | 0, b, hl, hb => by
    have e1 : ((b.length : Int) == (t.length : Int)) = true := by
      rw [beq_iff_eq]
      omega
    refine pcall_wp _ Tryd.func72 rfl (by kernel_rfl) rfl ?_
    simp -dsimp [e1]
    refine retP_c ?_
    simp -dsimp [mapsN]
  | f + 1, b, hl, hb => by
    have ht6 := ht.le
    have hg6 := hg.le
    have e1 : ((b.length : Int) == (t.length : Int)) = false := by
      rw [beq_eq_false_iff_ne]
      omega
    obtain ⟨G, hGf⟩ : ∃ G : Nat → Nat, G = fun x => if fitN t g b x then mapsN t g f (b ++ [x]) else 0 := ⟨_, rfl⟩
    have hG : mapsN t g (f + 1) b = ((List.range g.length).map G).sum := by rw [hGf]; rfl
    generalize mapsN t g (f + 1) b = o at hG
    have h64 : 2 ^ t.length ≤ 2 ^ 6 := Nat.pow_le_pow_right (by decide) ht.le
    have h64' : 2 ^ g.length ≤ 2 ^ 6 := Nat.pow_le_pow_right (by decide) hg.le
    have hbl : b.length < t.length := by omega
    have q1 := iL_at (l := t) (i := b.length) hbl
    have hlt := ht.get b.length
    have i1 : (b.length : Int) < t.length := by omega
    have i5 : (0 : Int) ≤ b.length := by omega
    refine pcall_wp _ Tryd.func72 rfl (by kernel_rfl) rfl ?_
    simp -dsimp [e1]
    refine wk_loop (fun x : Nat => ⟨[(21, pI x), (20, pI g.length), (7, pI b.length), (8, pI (((List.range x).map G).sum : Nat)), (0, .t .ro (eNs t)), (1, .t .ro (eNs g)), (2, .t .ro (eNs b))], []⟩)
      (fun x => x ≤ g.length) (fun x => g.length - x) 0 (le_of (by simp) (by simp)) (by omega) fun x hx => ?_
    simp -dsimp
    refine condX_dec (fun h => ?_) (fun h => ?_)
    rotate_left
    · have hx' : x = g.length := by omega
      subst hx'
      rw [← hG]
      simp -dsimp
      refine retP_c ?_
      simp -dsimp
    have hw := wr (n := (x : Int) + 1) (by omega) (by omega)
    have q2 := iL_at (l := g) (i := x) h
    have hgx := hg.get x
    have hss : ((List.range (x + 1)).map G).sum = ((List.range x).map G).sum + if fitN t g b x then mapsN t g f (b ++ [x]) else 0 := by
      rw [sum_range_succ G x, hGf]
    have hle1 := maps_le t g hg6 f (b ++ [x])
    have hle3 : 6 ^ f ≤ 6 ^ 6 := Nat.pow_le_pow_right (by decide) (by omega)
    have hle2 : ((List.range x).map G).sum ≤ 6 * 6 ^ 6 := by
      rw [hGf]
      exact Nat.le_trans (maps_sum_le t g hg6 f b x) (Nat.mul_le_mul (by omega) hle3)
    have ih := rmaps_spec t g ht hg f (b ++ [x]) (by simp; omega) (getD_snoc hb h)
    obtain ⟨F, hF⟩ : ∃ F : Nat → Bool, F = fun u => !(nbN t b.length u) || nbN g (b.getD u 0) x := ⟨_, rfl⟩
    have hfd : fitN t g b x = (List.range b.length).all F := by rw [hF]; rfl
    have hstep : ∀ u, u < b.length → F u = (!((t.getD b.length 0).testBit u) || (g.getD x 0).testBit (b.getD u 0)) := fun u hu => by
      rw [hF]
      show (!(nbN t b.length u) || nbN g (b.getD u 0) x) = _
      rw [nb_sym hg (hb u hu) h]
      rfl
    clear hF
    have hbu : ∀ u, u < b.length → b.getD u 0 < 6 := fun u hu => by have := hb u hu; omega
    generalize fitN t g b x = fx at hss hfd
    clear hGf
    generalize ((List.range x).map G).sum = S at *
    generalize mapsN t g f (b ++ [x]) = m at *
    generalize t.getD b.length 0 = tv at *
    generalize g.getD x 0 = gx at *
    have i2 : (x : Int) < g.length := by omega
    have i6 : (0 : Int) ≤ x := by omega
    have hwm := wr (n := (S : Int) + m) (by omega) (by omega)
    simp -dsimp
    refine wk_loop (fun p : Kind × Nat => ⟨[(26, pI p.2), (25, pI b.length), (24, .t .ro (eNs b)), (10, .t p.1 (eB ((List.range p.2).all F))), (9, pI x), (21, pI x), (20, pI g.length), (7, pI b.length), (8, pI S), (0, .t .ro (eNs t)), (1, .t .ro (eNs g)), (2, .t .ro (eNs b))], []⟩)
      (fun p => p.2 ≤ b.length) (fun p => b.length - p.2) (.fz, 0) (le_of (by simp) (by simp)) (by simp) fun ⟨kd, u⟩ hu => ?_
    dsimp only at hu
    simp -dsimp
    refine condX_dec (fun hy => ?_) (fun hy => ?_)
    · have hwu := wr (n := (u : Int) + 1) (by omega) (by omega)
      have r1 := iL_at (l := b) (i := u) hy
      have hA := all_succ F u
      have hFu := hstep u hy
      have hb6 := hbu u hy
      have b1 := and1_bit tv u (by omega) (by omega)
      have b2 := and1_bit gx (b.getD u 0) (by omega) (by omega)
      generalize b.getD u 0 = y at *
      generalize (List.range u).all F = ok at *
      generalize F u = fu at *
      have j1 : (u : Int) < b.length := by omega
      have j5 : (0 : Int) ≤ u := by omega
      have j6 : (0 : Int) ≤ y := by omega
      cases ok with
      | false =>
        simp -dsimp [j1, j5, r1]
        refine LoopP_next (.fz, u + 1) (le_of (by simp [hwu, hA]) (by simp)) (by simp only; omega) (by simp only; omega)
      | true =>
        rw [Bool.true_and] at hA
        cases c1 : tv.testBit u with
        | false =>
          rw [c1] at b1 hFu
          simp only [Bool.not_false, Bool.true_or] at hFu
          simp -dsimp [j1, j5, r1, i1, i5, q1, b1]
          refine LoopP_next (.fz, u + 1) (le_of (by simp [hwu, hA, hFu]) (by simp)) (by simp only; omega) (by simp only; omega)
        | true =>
          rw [c1] at b1 hFu
          simp only [Bool.not_true, Bool.false_or] at hFu
          cases c2 : gx.testBit y
          all_goals
            rw [c2] at b2 hFu
            simp -dsimp [j1, j5, j6, r1, i1, i5, q1, b1, i2, i6, q2, b2]
            refine LoopP_next (.fz, u + 1) (le_of (by simp [hwu, hA, hFu]) (by simp)) (by simp only; omega) (by simp only; omega)
    · have hu' : u = b.length := by omega
      subst hu'
      rw [← hfd]
      cases fx with
      | false =>
        simp only [Bool.false_eq_true, if_false, Nat.add_zero] at hss
        simp -dsimp
        exact LoopP_next (x + 1) (le_of (by simp [hw, hss]) (by simp)) h (by omega)
      | true =>
        simp only [if_true] at hss
        have hbb : (b.length + 1) * 8 ≤ 140737488355328 := by omega
        cases b with
        | nil =>
          simp only [List.nil_append] at ih
          simp -dsimp
          first
            | refine CallG.by (ih) ?_
            | refine CallGE.by (ih) ?_
            | refine CallGB.by (ih) ?_
          simp -dsimp [hwm]
          exact LoopP_next (x + 1) (le_of (by simp [hw, hss]) (by simp)) h (by omega)
        | cons z b =>
          simp only [List.length_cons] at hbb
          simp only [eNs, eIs, List.cons_append, iL_append, iL_cons, iL_nil, List.map_append, List.map_cons, List.map_nil] at ih
          have z1 : (0 : Int) ≤ (b.length : Int) + 1 := by omega
          have k1 : List.take b.length (List.map cI (iL b)) = List.map cI (iL b) := List.take_of_length_le (by simp)
          simp -dsimp [hbb, z1, k1]
          first
            | refine CallG.by (ih) ?_
            | refine CallGE.by (ih) ?_
            | refine CallGB.by (ih) ?_
          simp -dsimp [hwm]
          exact LoopP_next (x + 1) (le_of (by simp [hw, hss]) (by simp)) h (by omega)
theorem nil_argR {P : Program} {f : Nat} {args : List TL} {r : PV} {Mr : List (Nat × Res)} (i : Nat) (h : PCall P f args r Mr) (hi : args[i]? = some (eNs [])) : PCall P f (args.set i (.v (.slice none 0 0))) r Mr :=
  pcall_arg i h hi fun w S v h => nil_any' w S v h
theorem rMaps_spec (t g : List Int) (ht : isgB t = true) (hg : isgB g = true) : PCall Tryd.prog 31 [eIs t, eIs g] (pI (mapsN (townOf t) (townOf g) t.length [])) [] := by
  have h := rmaps_spec (townOf t) (townOf g) (town_tow ht) (town_tow hg) t.length [] (by simp [town_len]) (fun u hu => by simp at hu)
  have h2 := nil_argR 2 h rfl
  simp only [List.set_cons_succ, List.set_cons_zero] at h2
  rw [show eNs (townOf t) = eIs t by rw [eNs, town_back ht], show eNs (townOf g) = eIs g by rw [eNs, town_back hg]] at h2
  refine pcall_wp _ Tryd.func31 rfl (by kernel_rfl) rfl ?_
  generalize mapsN (townOf t) (townOf g) t.length [] = m at *
  simp -dsimp
  first
    | refine CallG.by (h2) ?_
    | refine CallGE.by (h2) ?_
    | refine CallGB.by (h2) ?_
  simp -dsimp
  refine retP_c ?_
  simp -dsimp
end Go.Proofs.YtfcbmcmkakceaaaDoor
