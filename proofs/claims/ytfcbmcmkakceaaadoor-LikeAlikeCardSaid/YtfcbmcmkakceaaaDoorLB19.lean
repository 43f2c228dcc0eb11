import Derived.Test.YtfcbmcmkakceaaaDoorLBB
import Derived.Test.YtfcbmcmkakceaaaDoorPSG
/- LB19: Maps: a closure that calls itself. -/
set_option linter.unusedVariables false
set_option linter.unusedSimpArgs false
set_option maxRecDepth 20000
namespace Go.Proofs.YtfcbmcmkakceaaaDoor
open Go Go.PS
attribute [-simp] isKeyK List.map_take
def idxP {α : Type} (g : α → Bool) : List α → Nat → Int
  | [], _ => -1
  | x :: xs, i => if g x then (i : Int) else idxP g xs (i + 1)
theorem idxP_drop {α : Type} (g : α → Bool) (xs : List α) (k : Nat) (h : k < xs.length) : idxP g (xs.drop k) k = if g xs[k] then (k : Int) else idxP g (xs.drop (k + 1)) (k + 1) := by
  rw [List.drop_eq_getElem_cons h]
  simp [idxP]
theorem idxP_any {α : Type} (g : α → Bool) (xs : List α) (k : Nat) : decide (0 ≤ idxP g xs k) = xs.any g := by
  induction xs generalizing k with
  | nil => simp [idxP]
  | cons x xs ih =>
    simp only [idxP, List.any_cons]
    by_cases h : g x = true
    · simp [h]
    · simpa [h] using ih (k + 1)
theorem idxF_spec (l : List Int) (f : Nat) (caps : List TL) (g : Int → Bool) (hf : ∀ r ∈ l, PCall Tryd.prog f (eI r :: caps) (pB (g r)) []) : PCall Tryd.prog 103 [eIs l, .clo f caps] (pI (idxP g l 0)) [] := by
  refine pcall_sl 0 rfl call103 fun hlen => ?_
  simp only [List.length_map] at hlen
  refine pcall_wp _ Tryd.func103 rfl (by kernel_rfl) rfl ?_
  simp -dsimp
  refine wk_loop (fun i : Nat => ⟨[(8, pI i), (7, pI l.length), (0, .t .ro (eIs l)), (1, .t .ro (.clo f caps))], []⟩) (fun i => i ≤ l.length ∧ idxP g l 0 = idxP g (l.drop i) i) (fun i => l.length - i) 0
    (le_of (by simp) (by simp)) (by simp) fun i ⟨hi, hidx⟩ => ?_
  simp -dsimp
  refine condX_dec (fun h => ?_) (fun h => ?_)
  · have hs := idxP_drop g l i h
    have hw := wr (n := (i : Int) + 1) (by omega) (by omega)
    simp -dsimp [h]
    first
      | refine CallG.by (hf _ (List.getElem_mem h)) ?_
      | refine CallGE.by (hf _ (List.getElem_mem h)) ?_
      | refine CallGB.by (hf _ (List.getElem_mem h)) ?_
    simp -dsimp [h]
    refine condX_of (fun hc => ?_) (fun hc => ?_)
    · simp -dsimp
      refine retP_c ?_
      simp -dsimp
      rw [hidx, hs, if_pos hc]
    · simp -dsimp [hw]
      refine LoopP_next (i + 1) (le_of (by simp) (by simp)) ⟨h, ?_⟩ (by omega)
      rw [hidx, hs, if_neg (by simp [hc])]
  · have : i = l.length := by omega
    simp -dsimp
    refine retP_c ?_
    simp -dsimp [hidx, this, idxP]
theorem anyF_spec (l : List Int) (f : Nat) (caps : List TL) (g : Int → Bool) (hf : ∀ r ∈ l, PCall Tryd.prog f (eI r :: caps) (pB (g r)) []) : PCall Tryd.prog 68 [eIs l, .clo f caps] (pB (l.any g)) [] := by
  refine pcall_wp _ Tryd.func68 rfl (by kernel_rfl) rfl ?_
  simp -dsimp
  first
    | refine CallG.by (idxF_spec l f caps g hf) ?_
    | refine CallGE.by (idxF_spec l f caps g hf) ?_
    | refine CallGB.by (idxF_spec l f caps g hf) ?_
  simp -dsimp [idxP_any]
  refine retP_c ?_
  simp -dsimp
/-- Is a node that is there no neighbour's neighbour? -/
theorem mapsC_spec (g b : List Nat) (hg : Tow 6 g) (u x : Nat) (hu : u < b.length) (hb : b.getD u 0 < g.length) (hx : x < g.length) :
    PCall Tryd.prog 70 [eI u, .rp [eNs g] 0, .rp [eNs b] 0, .rp [eI x] 0] (pB (!nbN g (b.getD u 0) x)) [] := by
  refine pcall_wp _ Tryd.func70 rfl (by kernel_rfl) rfl ?_
  have h64 : 2 ^ g.length ≤ 2 ^ 6 := Nat.pow_le_pow_right (by decide) hg.le
  have hn := near_spec g (b.getD u 0) x hb (by have := hg.get (b.getD u 0); omega) (by have := hg.le; omega)
  have q := iL_at (l := b) (i := u) hu
  have i1 : (u : Int) < b.length := by omega
  have i5 : (0 : Int) ≤ u := by omega
  generalize b.getD u 0 = y at *
  simp -dsimp
  refine wk_draw 6 [] mixed (by kernel_rfl) ?_
  simp -dsimp [i1, i5, q]
  first
    | refine CallG.by (hn) ?_
    | refine CallGE.by (hn) ?_
    | refine CallGB.by (hn) ?_
  simp -dsimp
  refine retP_c ?_
  simp -dsimp
/-- What the closure captured. -/
@[simp] def mpM (t g b : List Nat) : List (Nat × Res) :=
  [(1000000, .blk 22 [.osl 1001]), (1001, .row 3 1 .ro ((iL b).map cI)), (1000001, .blk 84 [.t .ro (eNs t)]), (1000002, .blk 84 [.t .ro (eNs g)]), (1000003, .blk 100 [.clo 67 [.ptr 1000000 0, .ptr 1000001 0, .ptr 1000002 0, .ptr 1000003 0]])]
@[simp] def mpS : Sg := [(1000000, 1000000), (1001, 1001), (1000001, 1000001), (1000002, 1000002), (1000003, 1000003)]
theorem maps_fit (t g b : List Nat) (ht : Tow 6 t) (hb : b.length < t.length) (x : Nat) :
    (ndN (t.getD b.length 0 &&& (2 ^ b.length - 1))).any (fun u => !nbN g (b.getD u 0) x) = !fitN t g b x := by
  have h64 : 2 ^ t.length ≤ 2 ^ 6 := Nat.pow_le_pow_right (by decide) ht.le
  have hl := ht.get b.length
  have hle := ht.le
  rw [Bool.eq_iff_iff, List.any_eq_true, Bool.not_eq_true', Bool.eq_false_iff]
  unfold fitN
  rw [ne_eq, List.all_eq_true, Classical.not_forall]
  have hand : t.getD b.length 0 &&& (2 ^ b.length - 1) < 4096 := Nat.lt_of_le_of_lt Nat.and_le_left (by omega)
  constructor
  · rintro ⟨u, hu, hn⟩
    have h1 := (bits_mem hand).1 hu
    rw [Nat.testBit_and, Nat.testBit_two_pow_sub_one, Bool.and_eq_true, decide_eq_true_eq] at h1
    refine ⟨u, ?_⟩
    rw [Classical.not_imp]
    refine ⟨List.mem_range.2 h1.2, ?_⟩
    have h2 : nbN t b.length u = true := h1.1
    simp only [Bool.not_eq_true'] at hn
    rw [h2, hn]
    decide
  · rintro ⟨u, hu⟩
    rw [Classical.not_imp] at hu
    obtain ⟨h1, h2⟩ := hu
    have h1 := List.mem_range.1 h1
    simp only [Bool.or_eq_true, Bool.not_eq_true', not_or, Bool.not_eq_false, Bool.not_eq_true] at h2
    refine ⟨u, (bits_mem hand).2 ?_, by simpa using h2.2⟩
    rw [Nat.testBit_and, Nat.testBit_two_pow_sub_one, Bool.and_eq_true, decide_eq_true_eq]
    exact ⟨h2.1, h1⟩
theorem any_iL (l : List Nat) (p : Nat → Bool) (q : Int → Bool) (h : ∀ u ∈ l, q (u : Int) = p u) : (iL l).any q = l.any p := by
  induction l with
  | nil => rfl
  | cons x l ih =>
    simp only [iL_cons, List.any_cons]
    rw [h x (by simp), ih fun u hu => h u (List.mem_cons_of_mem _ hu)]
theorem maps_le (t g : List Nat) (hg : g.length ≤ 6) : ∀ (f : Nat) (b : List Nat), mapsN t g f b ≤ 6 ^ f
  | 0, b => by simp [mapsN]
  | f + 1, b => by
    rw [mapsN]
    have : ∀ n, ((List.range n).map fun x => if fitN t g b x then mapsN t g f (b ++ [x]) else 0).sum ≤ n * 6 ^ f := by
      intro n
      induction n with
      | zero => simp
      | succ n ih =>
        rw [List.range_succ, List.map_append, List.sum_append, Nat.succ_mul]
        have h1 := maps_le t g hg f (b ++ [n])
        simp only [List.map_cons, List.map_nil, List.sum_cons, List.sum_nil, Nat.add_zero]
        split <;> omega
    have h2 := this g.length
    rw [Nat.pow_succ]
    have h3 : g.length * 6 ^ f ≤ 6 * 6 ^ f := Nat.mul_le_mul_right _ hg
    omega
theorem sum_range_succ (F : Nat → Nat) (n : Nat) : ((List.range (n + 1)).map F).sum = ((List.range n).map F).sum + F n := by
  rw [List.range_succ, List.map_append, List.sum_append]
  simp
theorem maps_sum_le (t g : List Nat) (hg : g.length ≤ 6) (f : Nat) (b : List Nat) : ∀ n, ((List.range n).map fun x => if fitN t g b x then mapsN t g f (b ++ [x]) else 0).sum ≤ n * 6 ^ f
  | 0 => by simp
  | n + 1 => by
    have ih := maps_sum_le t g hg f b n
    rw [sum_range_succ, Nat.succ_mul]
    have h1 := maps_le t g hg f (b ++ [n])
    split <;> omega
theorem mapsG_spec (t g : List Nat) (ht : Tow 6 t) (hg : Tow 6 g) : ∀ (f : Nat) (b : List Nat), b.length + f = t.length → (∀ u, u < b.length → b.getD u 0 < g.length) →
    ECall Tryd.prog 67 [.ptr 1000000 0, .ptr 1000001 0, .ptr 1000002 0, .ptr 1000003 0] (mpM t g b) (pI (mapsN t g f b)) (mpM t g b)
  | 0, b, hl, hb => by
    have e1 : ((b.length : Int) == (t.length : Int)) = true := by
      rw [beq_iff_eq]
      omega
    refine ecall_wp Tryd.func67 rfl (by kernel_rfl) ?_
    simp -dsimp [e1]
    refine retE_c (by simp -dsimp [mapsN]) (by simp [mapsN])
  | f + 1, b, hl, hb => by
    have ht6 := ht.le
    have hg6 := hg.le
    have e1 : ((b.length : Int) == (t.length : Int)) = false := by
      rw [beq_eq_false_iff_ne]
      omega
    have hG : mapsN t g (f + 1) b = ((List.range g.length).map fun x => if fitN t g b x then mapsN t g f (b ++ [x]) else 0).sum := rfl
    generalize mapsN t g (f + 1) b = o at hG
    have h64 : 2 ^ t.length ≤ 2 ^ 6 := Nat.pow_le_pow_right (by decide) ht.le
    have hbl : b.length < t.length := by omega
    have q1 := iL_at (l := t) (i := b.length) hbl
    have hlt := ht.get b.length
    have hand : t.getD b.length 0 &&& (2 ^ b.length - 1) < 4096 := Nat.lt_of_le_of_lt Nat.and_le_left (by omega)
    have hnd := nodes_spec (t.getD b.length 0 &&& (2 ^ b.length - 1)) hand
    have hfit := maps_fit t g b ht hbl
    have hmem : ∀ u ∈ ndN (t.getD b.length 0 &&& (2 ^ b.length - 1)), u < b.length := fun u hu => by
      have h1 := (bits_mem hand).1 hu
      rw [Nat.testBit_and, Nat.testBit_two_pow_sub_one, Bool.and_eq_true, decide_eq_true_eq] at h1
      exact h1.2
    have hp2 : 2 ^ b.length ≤ 2 ^ 6 := Nat.pow_le_pow_right (by decide) (by omega)
    have hpos := Nat.two_pow_pos b.length
    have hsh := shl1 b.length (by omega)
    have hws := wr (n := ((2 ^ b.length : Nat) : Int) - 1) (by omega) (by omega)
    have hes : ((2 ^ b.length : Nat) : Int) - 1 = ((2 ^ b.length - 1 : Nat) : Int) := by omega
    have han := andI_nat (t.getD b.length 0) (2 ^ b.length - 1) (by omega) (by omega)
    rw [hes] at hws
    obtain ⟨N, hNe⟩ : ∃ N, N = 2 ^ b.length := ⟨_, rfl⟩
    rw [← hNe] at hsh hes
    generalize t.getD b.length 0 &&& (2 ^ b.length - 1) = sx at *
    generalize t.getD b.length 0 = row at *
    simp only [← hNe] at hp2 hpos hws han hnd hfit hmem hand ⊢
    generalize N - 1 = mk at *
    refine ecall_wp Tryd.func67 rfl (by kernel_rfl) ?_
    simp -dsimp [e1]
    refine wk_loop (fun x : Nat => ⟨[(16, pI x), (15, pI g.length), (5, pI b.length), (6, pI (((List.range x).map fun x => if fitN t g b x then mapsN t g f (b ++ [x]) else 0).sum : Nat)), (0, .ptr 1000000 0), (1, .ptr 1000001 0), (2, .ptr 1000002 0), (3, .ptr 1000003 0)], mpM t g b⟩)
      (fun x => x ≤ g.length) (fun x => g.length - x) 0 (le_of (by simp) (by simp)) (by omega) fun x hx => ?_
    simp -dsimp
    refine condX_dec (fun h => ?_) (fun h => ?_)
    rotate_left
    · have hx' : x = g.length := by omega
      subst hx'
      rw [← hG]
      simp -dsimp
      refine retE_c (by simp -dsimp) (by simp)
    have hw := wr (n := (x : Int) + 1) (by omega) (by omega)
    have hany := anyF_spec (iL (ndN sx)) 70 [.rp [eNs g] 0, .rp [eNs b] 0, .rp [eI x] 0] (fun u => !nbN g (b.getD u.toNat 0) x) fun r hr => by
      obtain ⟨u, hu, rfl⟩ := List.mem_map.1 hr
      have hub := hmem u hu
      exact mapsC_spec g b hg u x hub (hb u hub) h
    rw [any_iL (ndN sx) (fun u => !nbN g (b.getD u 0) x) _ (fun u _ => by simp), hfit x] at hany
    have hss := sum_range_succ (fun x => if fitN t g b x then mapsN t g f (b ++ [x]) else 0) x
    have hle1 := maps_le t g hg6 f (b ++ [x])
    have hle3 : 6 ^ f ≤ 6 ^ 6 := Nat.pow_le_pow_right (by decide) (by omega)
    have hle2 : ((List.range x).map fun x => if fitN t g b x then mapsN t g f (b ++ [x]) else 0).sum ≤ 6 * 6 ^ 6 :=
      Nat.le_trans (maps_sum_le t g hg6 f b x) (Nat.mul_le_mul (by omega) hle3)
    have ih := mapsG_spec t g ht hg f (b ++ [x]) (by simp; omega) (getD_snoc hb h)
    have i1 : (b.length : Int) < t.length := by omega
    have i5 : (0 : Int) ≤ b.length := by omega
    generalize ((List.range x).map fun x => if fitN t g b x then mapsN t g f (b ++ [x]) else 0).sum = S at *
    generalize mapsN t g f (b ++ [x]) = m at *
    have hwm := wr (n := (S : Int) + m) (by omega) (by omega)
    have hb1 : (b.length + 1) * 8 ≤ 140737488355328 := by omega
    have hle2 : (b.length : Int) ≤ (b.length : Int) + 1 := by omega
    have hT : ∀ e : List TL, List.take b.length (List.map cI (iL b) ++ [e]) = List.map cI (iL b) := fun e => List.take_left' (by simp)
    simp -dsimp
    refine wk_drawZ 10 [8] [[], [], [], [], [], [], [], [], [], [27]] mixed (by kernel_rfl) ?_
    simp -dsimp [i1, i5, q1, hsh, hes, hws, han]
    first
      | refine CallG.by (hnd) ?_
      | refine CallGE.by (hnd) ?_
      | refine CallGB.by (hnd) ?_
    simp -dsimp
    first
      | refine CallG.by (hany) ?_
      | refine CallGE.by (hany) ?_
      | refine CallGB.by (hany) ?_
    cases hfx : fitN t g b x with
    | false =>
      rw [hfx] at hss
      simp only [Bool.false_eq_true, if_false, Nat.add_zero] at hss
      simp -dsimp
      exact LoopP_next (x + 1) (le_of (by simp [hw, hss]) (by simp)) h (by omega)
    | true =>
      rw [hfx] at hss
      simp only [if_true] at hss
      simp only [mpM, iL_append, iL_cons, iL_nil, List.map_append, List.map_cons, List.map_nil] at ih
      simp -dsimp [hb1]
      first
        | refine CallG.on (g := mpS) (ih) (by decide) (by simp) (by simp) (by simp [Sg.bk]) ?_
        | refine CallN.on (g := mpS) (ih) (by decide) (by simp) (by simp) (by simp [Sg.bk]) ?_
        | refine CallGB.on (g := mpS) (ih) (by decide) (by simp) (by simp) (by simp [Sg.bk]) ?_
      simp -dsimp [hwm, hle2, hT]
      exact LoopP_next (x + 1) (le_of (by simp [hw, hss]) (by simp)) h (by omega)
end Go.Proofs.YtfcbmcmkakceaaaDoor
