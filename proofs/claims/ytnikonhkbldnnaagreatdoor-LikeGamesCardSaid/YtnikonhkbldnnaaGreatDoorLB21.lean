import Derived.Test.YtnikonhkbldnnaaGreatDoorLB19
/- LB21: renamings: closures that call themselves and others; Same, Turns. -/
set_option linter.unusedVariables false
set_option linter.unusedSimpArgs false
set_option maxRecDepth 20000
namespace Go.Proofs.YtnikonhkbldnnaaGreatDoor
open Go Go.PS
attribute [-simp] isKeyK List.map_take
theorem idxE_spec (l : List Int) (x : Int) : PCall Tryz.prog 117 [eIs l, eI x] (pI (idxP (fun y => x == y) l 0)) [] := by
  refine pcall_sl 0 rfl call117 fun hlen => ?_
  simp only [List.length_map] at hlen
  refine pcall_wp _ Tryz.func117 rfl (by kernel_rfl) rfl ?_
  simp -dsimp
  refine wk_loop (fun i : Nat => ⟨[(8, pI i), (7, pI l.length), (0, .t .ro (eIs l)), (1, .t .ro (eI x))], []⟩) (fun i => i ≤ l.length ∧ idxP (fun y => x == y) l 0 = idxP (fun y => x == y) (l.drop i) i) (fun i => l.length - i) 0
    (le_of (by simp) (by simp)) (by simp) fun i ⟨hi, hidx⟩ => ?_
  simp -dsimp
  refine condX_dec (fun h => ?_) (fun h => ?_)
  · have hs := idxP_drop (fun y => x == y) l i h
    have hw := wr (n := (i : Int) + 1) (by omega) (by omega)
    have q := at_ h
    have e : l[i] = l.getD i 0 := by simp [List.getD_eq_getElem?_getD, h]
    rw [e] at hs
    generalize l.getD i 0 = y at q hs
    have i1 : (i : Int) < l.length := by omega
    cases hc : (x == y)
    · simp only [hc, Bool.false_eq_true, if_false] at hs
      simp -dsimp [i1, q, hc]
      refine LoopP_next (i + 1) (le_of (by simp [hw]) (by simp)) ⟨h, ?_⟩ (by omega)
      rw [hidx, hs]
    · simp only [hc, if_true] at hs
      have hF : idxP (fun y => x == y) l 0 = i := by rw [hidx, hs]
      simp -dsimp [i1, q, hc]
      refine retP_c ?_
      simp -dsimp [hF]
  · have : i = l.length := by omega
    simp -dsimp
    refine retP_c ?_
    simp -dsimp [hidx, this, idxP]
theorem has_spec (b : List Nat) (x : Nat) : PCall Tryz.prog 94 [eNs b, eI x] (pB (b.contains x)) [] := by
  have h := idxE_spec (iL b) x
  have hF : decide (0 ≤ idxP (fun y => (x : Int) == y) (iL b) 0) = b.contains x := by
    rw [idxP_any, any_iL b (fun y => x == y) _ (fun u _ => by rw [Bool.eq_iff_iff]; simp; omega), Bool.eq_iff_iff, List.any_eq_true, List.contains_iff_mem]
    constructor
    · rintro ⟨y, hy, he⟩
      rw [beq_iff_eq] at he
      rw [he]
      exact hy
    · intro hx
      exact ⟨x, hx, by simp⟩
  generalize idxP (fun y => (x : Int) == y) (iL b) 0 = r at *
  refine pcall_wp _ Tryz.func94 rfl (by kernel_rfl) rfl ?_
  simp -dsimp
  first
    | refine CallG.by (h) ?_
    | refine CallGE.by (h) ?_
    | refine CallGB.by (h) ?_
  simp -dsimp [hF]
  refine retP_c ?_
  simp -dsimp
theorem clone59_fz (xs : List Int) (hb : xs.length * 8 ≤ 140737488355328) : PCall Tryz.prog 62 [eIs xs] (.t .fz (eIs xs)) [] :=
  pcall_fzrow (clone59_row xs hb) (fun e he x hx => by
    obtain ⟨n, _, rfl⟩ := List.mem_map.1 he
    simp [cI] at hx
    exact ⟨_, hx⟩)
theorem fitS_parts {g h b : List Nat} {x : Nat} (hg : Tow 6 g) (hh : Tow 6 h) (hb : b.length < g.length) (hbl : ∀ u, u < b.length → b.getD u 0 < h.length) (hx : x < h.length) :
    fitS g h b x = (!(b.contains x) && (List.range b.length).all fun u => nbN g u b.length == nbN h (b.getD u 0) x) := by
  rw [Bool.eq_iff_iff, fitS_iff, Bool.and_eq_true, Bool.not_eq_true', List.all_eq_true]
  constructor
  · intro hh2
    refine ⟨?_, fun u hu => ?_⟩
    · rw [Bool.eq_false_iff]
      intro hc
      rw [List.contains_iff_mem] at hc
      obtain ⟨u, hu, he⟩ := List.mem_iff_getElem.1 hc
      have := (hh2 u hu).1
      rw [List.getD_eq_getElem?_getD, List.getElem?_eq_getElem hu] at this
      exact this he
    · have hu := List.mem_range.1 hu
      rw [beq_iff_eq, nb_sym hg (by omega) hb, (hh2 u hu).2, nb_sym hh hx (hbl u hu)]
  · rintro ⟨h1, h2⟩ u hu
    refine ⟨fun e => ?_, ?_⟩
    · have : b.contains x = true := by
        rw [List.contains_iff_mem, ← e]
        exact getD_mem hu
      rw [this] at h1
      cases h1
    · have := h2 u (List.mem_range.2 hu)
      rw [beq_iff_eq] at this
      rw [nb_sym hg hb (by omega), this, nb_sym hh (hbl u hu) hx]
theorem names_le (g h : List Nat) (hh : h.length ≤ 6) : ∀ (f : Nat) (b : List Nat), (namesN g h f b).length ≤ 6 ^ f
  | 0, b => by simp [namesN]
  | f + 1, b => by
    rw [namesN, List.length_flatMap]
    have : ∀ n, ((List.range n).map fun x => (if fitS g h b x then namesN g h f (b ++ [x]) else []).length).sum ≤ n * 6 ^ f := by
      intro n
      induction n with
      | zero => simp
      | succ n ih =>
        rw [sum_range_succ, Nat.succ_mul]
        have h1 := names_le g h hh f (b ++ [n])
        split
        · omega
        · simp
          omega
    have h2 := this h.length
    rw [Nat.pow_succ]
    have h3 : h.length * 6 ^ f ≤ 6 * 6 ^ f := Nat.mul_le_mul_right _ hh
    omega
def lvN : Option (List Nat) → PV
  | none => .t .fz (.v (.slice none 0 0))
  | some x => .t .fz (eNs x)
@[simp] theorem lvN_none : lvN none = .t .fz (.v (.slice none 0 0)) := rfl
@[simp] theorem lvN_some (x : List Nat) : lvN (some x) = .t .fz (eNs x) := rfl
/-- What renamings' closure captured. -/
@[simp] def smM (g h b : List Nat) (o : Option (List Nat)) : List (Nat × Res) :=
  [(1000000, .blk 22 [.osl 1001]), (1001, .row 3 1 .ro ((iL b).map cI)), (1000001, .blk 66 [.t .ro (eNs g)]), (1000002, .blk 103 [.clo 61 [.ptr 1000009 0]]), (1000003, .blk 66 [.t .ro (eNs h)]),
    (1000004, .blk 33 [.clo 93 [.ptr 1000000 0, .ptr 1000001 0, .ptr 1000002 0, .ptr 1000003 0, .ptr 1000004 0]]), (1000009, .blk 22 [lvN o])]
theorem sameC_spec (b : List Nat) (hb : b.length ≤ 6) : ECall Tryz.prog 61 [.osl 1000010, .ptr 1000009 0] [(1000010, .row 3 1 .ro ((iL b).map cI)), (1000009, .blk 22 [lvN none])] (pB false)
    [(1000010, .row 3 1 .ro ((iL b).map cI)), (1000009, .blk 22 [lvN (some b)])] := by
  have hc := clone59_fz (iL b) (by simp; omega)
  refine ecall_wp Tryz.func61 rfl (by kernel_rfl) ?_
  simp -dsimp
  first
    | refine CallG.by (hc) ?_
    | refine CallGE.by (hc) ?_
    | refine CallGB.by (hc) ?_
  simp -dsimp
  refine retE_c (by simp -dsimp) (by simp)
theorem sameG_spec (g h : List Nat) (hg : Tow 6 g) (hh : Tow 6 h) : ∀ (f : Nat) (b : List Nat), b.length + f = g.length → (∀ u, u < b.length → b.getD u 0 < h.length) →
    ECall Tryz.prog 93 [.ptr 1000000 0, .ptr 1000001 0, .ptr 1000002 0, .ptr 1000003 0, .ptr 1000004 0] (smM g h b none) (pB (namesN g h f b).head?.isNone) (smM g h ((namesN g h f b).head?.getD b) (namesN g h f b).head?)
  | 0, b, hl, hb => by
    have hg6 := hg.le
    have e1 : ((b.length : Int) == (g.length : Int)) = true := by
      rw [beq_iff_eq]
      omega
    have hcb := sameC_spec b (by omega)
    have hN : namesN g h 0 b = [b] := rfl
    refine ecall_wp Tryz.func93 rfl (by kernel_rfl) ?_
    simp -dsimp [e1]
    first
      | refine CallG.on (g := [(1001, 1000010), (1000009, 1000009)]) (hcb) (by decide) (by simp) (by simp) (by simp [Sg.bk]) ?_
      | refine CallN.on (g := [(1001, 1000010), (1000009, 1000009)]) (hcb) (by decide) (by simp) (by simp) (by simp [Sg.bk]) ?_
      | refine CallGB.on (g := [(1001, 1000010), (1000009, 1000009)]) (hcb) (by decide) (by simp) (by simp) (by simp [Sg.bk]) ?_
    simp -dsimp [hN]
    refine retE_c (by simp -dsimp [hN]) (by simp [hN])
  | f + 1, b, hl, hb => by
    have hg6 := hg.le
    have hh6 := hh.le
    have h64 : 2 ^ g.length ≤ 2 ^ 6 := Nat.pow_le_pow_right (by decide) hg.le
    have h64' : 2 ^ h.length ≤ 2 ^ 6 := Nat.pow_le_pow_right (by decide) hh.le
    have e1 : ((b.length : Int) == (g.length : Int)) = false := by
      rw [beq_eq_false_iff_ne]
      omega
    have hbl : b.length < g.length := by omega
    obtain ⟨G, hGf⟩ : ∃ G : Nat → List (List Nat), G = fun x => if fitS g h b x then namesN g h f (b ++ [x]) else [] := ⟨_, rfl⟩
    have hG : namesN g h (f + 1) b = (List.range h.length).flatMap G := by rw [hGf]; rfl
    have hGx : ∀ x, G x = if fitS g h b x then namesN g h f (b ++ [x]) else [] := fun x => by rw [hGf]
    have hsucc : ∀ x, (List.range (x + 1)).flatMap G = (List.range x).flatMap G ++ G x := fun x => by simp [List.range_succ, List.flatMap_append]
    clear hGf
    generalize namesN g h (f + 1) b = N at hG
    refine ecall_wp Tryz.func93 rfl (by kernel_rfl) ?_
    simp -dsimp [e1]
    refine wk_loop (fun x : Nat => ⟨[(22, pI x), (21, pI h.length), (6, pI b.length), (0, .ptr 1000000 0), (1, .ptr 1000001 0), (2, .ptr 1000002 0), (3, .ptr 1000003 0), (4, .ptr 1000004 0)], smM g h b none⟩)
      (fun x => x ≤ h.length ∧ (List.range x).flatMap G = []) (fun x => h.length - x) 0 (le_of (by simp) (by simp)) ⟨by omega, rfl⟩ fun x ⟨hx, hJ⟩ => ?_
    simp -dsimp
    refine condX_dec (fun hxl => ?_) (fun hxl => ?_)
    rotate_left
    · have hx' : x = h.length := by omega
      subst hx'
      rw [hG, hJ]
      simp -dsimp
      refine retE_c (by simp -dsimp) (by simp)
    have hsx := hsucc x
    rw [hJ, List.nil_append, hGx] at hsx
    have hhead : ∀ l, (G x).head? = some l → N.head? = some l := fun l hl2 => by
      have e : List.range h.length = List.range x ++ (x :: (List.range (h.length - x - 1)).map (x + 1 + ·)) := by
        have h1 : h.length = x + (h.length - x) := by omega
        have h2 : h.length - x = (h.length - x - 1) + 1 := by omega
        conv => lhs; rw [h1, List.range_add]
        congr 1
        rw [h2, List.range_succ_eq_map, List.map_cons, List.map_map]
        congr 1
        simp only [Nat.add_sub_cancel]
        refine List.map_congr_left fun a _ => ?_
        show x + (a + 1) = x + 1 + a
        omega
      rw [hG, e, List.flatMap_append, hJ, List.nil_append, List.flatMap_cons]
      cases hGe : G x with
      | nil => rw [hGe] at hl2; cases hl2
      | cons y l' =>
        rw [hGe] at hl2
        exact hl2
    rw [hGx] at hhead
    have ih := sameG_spec g h hg hh f (b ++ [x]) (by simp; omega) (getD_snoc hb hxl)
    have hw := wr (n := (x : Int) + 1) (by omega) (by omega)
    have hhas := has_spec b x
    have hfit := fitS_parts hg hh hbl hb hxl
    obtain ⟨E, hE⟩ : ∃ E : Nat → Bool, E = fun u => nbN g u b.length == nbN h (b.getD u 0) x := ⟨_, rfl⟩
    rw [← hE] at hfit
    have hEu : ∀ u, E u = (nbN g u b.length == nbN h (b.getD u 0) x) := fun u => by rw [hE]
    clear hE
    have hle2 : (b.length : Int) ≤ (b.length : Int) + 1 := by omega
    have hb1 : (b.length + 1) * 8 ≤ 140737488355328 := by omega
    have hT : ∀ e : List TL, List.take b.length (List.map cI (iL b) ++ [e]) = List.map cI (iL b) := fun e => List.take_left' (by simp)
    have hi5 : (0 : Int) ≤ b.length := by omega
    generalize b.contains x = hs at hhas hfit
    simp -dsimp
    first
      | refine CallG.by (hhas) ?_
      | refine CallGE.by (hhas) ?_
      | refine CallGB.by (hhas) ?_
    simp -dsimp
    refine wk_loop (fun p : Kind × Nat => ⟨[(31, pI p.2), (30, pI b.length), (29, .osl 1001), (8, .t p.1 (eB (!hs && (List.range p.2).all E))), (7, pI x), (22, pI x), (21, pI h.length), (6, pI b.length), (0, .ptr 1000000 0), (1, .ptr 1000001 0), (2, .ptr 1000002 0), (3, .ptr 1000003 0), (4, .ptr 1000004 0)], smM g h b none⟩)
      (fun p => p.2 ≤ b.length) (fun p => b.length - p.2) (.fz, 0) (le_of (by simp) (by simp)) (by simp) fun ⟨kd, u⟩ hu => ?_
    dsimp only at hu
    simp -dsimp
    refine condX_dec (fun hy => ?_) (fun hy => ?_)
    · have hwu := wr (n := (u : Int) + 1) (by omega) (by omega)
      have r1 := iL_at (l := b) (i := u) hy
      have hA : (List.range (u + 1)).all E = ((List.range u).all E && E u) := by simp [List.range_succ]
      rw [hEu u] at hA
      have hbu := hb u hy
      have n1 := near_spec g u b.length (by omega) (by have := hg.get u; omega) (by omega)
      have n2 := near_spec h (b.getD u 0) x hbu (by have := hh.get (b.getD u 0); omega) (by omega)
      generalize b.getD u 0 = y at *
      generalize nbN g u b.length = p1 at *
      generalize nbN h y x = p2 at *
      have j1 : (u : Int) < b.length := by omega
      have j5 : (0 : Int) ≤ u := by omega
      generalize (List.range u).all E = al at *
      have r1' : ∀ hh : u < (iL b).length, (iL b)[u]'hh = (y : Int) := fun hh => by
        rw [List.getElem?_eq_getElem hh] at r1
        exact Option.some.inj r1
      simp -dsimp [j1, j5, hy, r1, r1']
      refine wk_drawZ 9 [5] [[], [], [], [], [], [], [41], [41], [41]] mixed (by kernel_rfl) ?_
      cases hst : (!hs && al) with
      | false =>
        have hn2 : (!hs && (al && (p1 == p2))) = false := by rw [← Bool.and_assoc, hst, Bool.false_and]
        simp -dsimp [hst]
        refine LoopP_next (.fz, u + 1) (le_of (by simp [hwu, hA, hn2]) (by simp)) (by simp only; omega) (by simp only; omega)
      | true =>
        have hn2 : (!hs && (al && (p1 == p2))) = (p1 == p2) := by rw [← Bool.and_assoc, hst, Bool.true_and]
        simp -dsimp [hst]
        first
          | refine CallG.by (n1) ?_
          | refine CallGE.by (n1) ?_
          | refine CallGB.by (n1) ?_
        simp -dsimp
        first
          | refine CallG.by (n2) ?_
          | refine CallGE.by (n2) ?_
          | refine CallGB.by (n2) ?_
        simp -dsimp
        refine LoopP_next (.fz, u + 1) (le_of (by simp [hwu, hA, hn2]) (by simp)) (by simp only; omega) (by simp only; omega)
    · have hu' : u = b.length := by omega
      subst hu'
      rw [← hfit]
      cases hfx : fitS g h b x with
      | false =>
        rw [hfx] at hsx
        simp only [Bool.false_eq_true, if_false] at hsx
        simp -dsimp
        exact LoopP_next (x + 1) (le_of (by simp [hw]) (by simp)) ⟨hxl, hsx⟩ (by omega)
      | true =>
        rw [hfx] at hsx hhead
        simp only [if_true] at hsx hhead
        simp only [smM, iL_append, iL_cons, iL_nil, List.map_append, List.map_cons, List.map_nil] at ih
        cases hnm : namesN g h f (b ++ [x]) with
        | nil =>
          rw [hnm] at ih hsx
          simp only [List.head?_nil, Option.isNone_none, Option.getD_none, iL_append, iL_cons, iL_nil, List.map_append, List.map_cons, List.map_nil] at ih
          simp -dsimp [hb1]
          first
            | refine CallG.on (g := [(1000000, 1000000), (1001, 1001), (1000001, 1000001), (1000002, 1000002), (1000003, 1000003), (1000004, 1000004), (1000009, 1000009)]) (ih) (by decide) (by simp) (by simp) (by simp [Sg.bk]) ?_
            | refine CallN.on (g := [(1000000, 1000000), (1001, 1001), (1000001, 1000001), (1000002, 1000002), (1000003, 1000003), (1000004, 1000004), (1000009, 1000009)]) (ih) (by decide) (by simp) (by simp) (by simp [Sg.bk]) ?_
            | refine CallGB.on (g := [(1000000, 1000000), (1001, 1001), (1000001, 1000001), (1000002, 1000002), (1000003, 1000003), (1000004, 1000004), (1000009, 1000009)]) (ih) (by decide) (by simp) (by simp) (by simp [Sg.bk]) ?_
          simp -dsimp [hle2, hT, hi5]
          exact LoopP_next (x + 1) (le_of (by simp [hw]) (by simp)) ⟨hxl, hsx⟩ (by omega)
        | cons l ls =>
          rw [hnm] at ih hhead
          have hN := hhead l rfl
          simp only [List.head?_cons, Option.isNone_some, Option.getD_some] at ih
          rw [hN]
          simp -dsimp [hb1]
          first
            | refine CallG.on (g := [(1000000, 1000000), (1001, 1001), (1000001, 1000001), (1000002, 1000002), (1000003, 1000003), (1000004, 1000004), (1000009, 1000009)]) (ih) (by decide) (by simp) (by simp) (by simp [Sg.bk]) ?_
            | refine CallN.on (g := [(1000000, 1000000), (1001, 1001), (1000001, 1000001), (1000002, 1000002), (1000003, 1000003), (1000004, 1000004), (1000009, 1000009)]) (ih) (by decide) (by simp) (by simp) (by simp [Sg.bk]) ?_
            | refine CallGB.on (g := [(1000000, 1000000), (1001, 1001), (1000001, 1000001), (1000002, 1000002), (1000003, 1000003), (1000004, 1000004), (1000009, 1000009)]) (ih) (by decide) (by simp) (by simp) (by simp [Sg.bk]) ?_
          simp -dsimp
          refine retE_c (by simp -dsimp) (by simp)
end Go.Proofs.YtnikonhkbldnnaaGreatDoor
