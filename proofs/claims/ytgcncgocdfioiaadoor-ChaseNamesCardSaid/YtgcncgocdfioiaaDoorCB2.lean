import Derived.Test.YtgcncgocdfioiaaDoorCB1
/- CB2: towns: covers, corners, core. -/
set_option linter.unusedVariables false
set_option linter.unusedSimpArgs false
set_option maxRecDepth 20000
namespace Go.Proofs.YtgcncgocdfioiaaDoor
open Go Go.PS
def dif (a b : Nat) : Nat := a &&& (255 ^^^ b)
def andnI (a b : Int) : Int := bits .andNot .i64 a b
@[simp] theorem andnI_fold (a b : Int) : bits .andNot .i64 a b = andnI a b := rfl
theorem dif_bit {a : Nat} (ha : a < 256) (b i : Nat) : (dif a b).testBit i = (a.testBit i && !b.testBit i) := by
  unfold dif
  rw [Nat.testBit_and, Nat.testBit_xor]
  rcases Nat.lt_or_ge i 8 with h | h
  · have : Nat.testBit 255 i = true := by
      have : (List.range 8).all (fun i => Nat.testBit 255 i) = true := by decide
      exact List.all_eq_true.1 this i (List.mem_range.2 h)
    rw [this]
    cases b.testBit i <;> simp
  · rw [Nat.testBit_lt_two_pow (i := i) (Nat.lt_of_lt_of_le ha (Nat.pow_le_pow_right (n := 2) (i := 8) (by decide) h))]
    simp
theorem dif_lt {a : Nat} (ha : a < 256) (b : Nat) : dif a b < 256 := by
  unfold dif
  exact Nat.lt_of_le_of_lt Nat.and_le_left ha
theorem andnI_nat (a b : Nat) (ha : a < 256) (hb : b < 256) : andnI (a : Int) (b : Int) = ((dif a b : Nat) : Int) := by
  have hx : dif a b < 256 := dif_lt ha b
  have h1 : (BitVec.ofInt 64 (a : Int)) = BitVec.ofNat 64 a := by rw [BitVec.ofInt_natCast]
  have h2 : (BitVec.ofInt 64 (b : Int)) = BitVec.ofNat 64 b := by rw [BitVec.ofInt_natCast]
  have h3 : (BitVec.ofNat 64 a &&& ~~~ BitVec.ofNat 64 b).toNat = dif a b := by
    rw [BitVec.toNat_and, BitVec.toNat_not, BitVec.toNat_ofNat, BitVec.toNat_ofNat, Nat.mod_eq_of_lt (by omega), Nat.mod_eq_of_lt (by omega)]
    apply Nat.eq_of_testBit_eq
    intro i
    rw [Nat.testBit_and, dif_bit ha, show 2 ^ 64 - 1 - b = 2 ^ 64 - (b + 1) by omega, Nat.testBit_two_pow_sub_succ (by omega)]
    rcases Nat.lt_or_ge i 64 with h | h
    · simp [h]
    · rw [Nat.testBit_lt_two_pow (i := i) (Nat.lt_of_lt_of_le (show a < 2 ^ 8 by omega) (Nat.pow_le_pow_right (n := 2) (i := 8) (by decide) (by omega)))]
      simp
  show IntKind.i64.wrap ((BitVec.ofInt 64 (a : Int) &&& ~~~ BitVec.ofInt 64 (b : Int)).toNat : Int) = _
  rw [h1, h2, h3, wr (by omega) (by omega)]
def covF (t : List Nat) (u v set : Nat) : Bool := decide (u ≠ v) && (dif (t.getD v 0 &&& set) (t.getD u 0) == 0)
theorem covers_spec (t : List Nat) (u v set : Nat) (ht : ∀ x ∈ t, x < 256) (hu : u < t.length) (hv : v < t.length) (hs : set < 256) : PCall Tryd.prog 57 [eNs t, eI u, eI v, eI set] (pB (covF t u v set)) [] := by
  refine pcall_wp _ Tryd.func57 rfl (by kernel_rfl) rfl ?_
  have h1 := ht _ (getD_mem hu)
  have h2 := ht _ (getD_mem hv)
  have q1 := iL_at hu
  have q2 := iL_at hv
  have hF : covF t u v set = (((u : Int) != v) && (((dif (t.getD v 0 &&& set) (t.getD u 0) : Nat) : Int) == 0)) := by
    have a1 : ((u : Int) != v) = decide (u ≠ v) := by rw [Bool.eq_iff_iff]; simp; omega
    have a2 : ∀ n : Nat, ((n : Int) == 0) = (n == 0) := fun n => by rw [Bool.eq_iff_iff]; simp
    rw [a1, a2]
    rfl
  generalize t.getD u 0 = tu at *
  generalize t.getD v 0 = tv at *
  have h3 : tv &&& set < 256 := Nat.lt_of_le_of_lt Nat.and_le_left h2
  have e1 := andI_nat tv set (by omega) (by omega)
  have e2 := andnI_nat (tv &&& set) tu h3 h1
  have hu' : (u : Int) < t.length := by omega
  have hv' : (v : Int) < t.length := by omega
  simp -dsimp
  refine wk_draw 14 [] mixed (by kernel_rfl) ?_
  cases hb : ((u : Int) != v)
  · simp -dsimp [hb]
    refine retP_c ?_
    simp -dsimp [hF, hb]
  · simp -dsimp [hb, hu', hv', q1, q2, e1, e2]
    refine retP_c ?_
    simp -dsimp [hF, hb]
/-- The first place at which a test holds. -/
def idxP {α : Type} (g : α → Bool) : List α → Nat → Int
  | [], _ => -1
  | x :: xs, i => if g x then (i : Int) else idxP g xs (i + 1)
theorem idxP_drop {α : Type} (g : α → Bool) (xs : List α) (k : Nat) (h : k < xs.length) : idxP g (xs.drop k) k = if g xs[k] then (k : Int) else idxP g (xs.drop (k + 1)) (k + 1) := by
  rw [List.drop_eq_getElem_cons h]
  simp [idxP]
theorem idxP_any {α : Type} (g : α → Bool) (xs : List α) (k : Nat) : decide (0 ≤ idxP g xs k) = xs.any g := by
  induction xs generalizing k with
  | nil => simp [idxP]
  | cons x xs ih =>
    simp only [idxP, List.any_cons]
    by_cases h : g x = true
    · simp [h]
    · simpa [h] using ih (k + 1)
theorem idxP_find {α : Type} (g : α → Bool) (xs : List α) (k : Nat) : (xs.find? g = none ∧ idxP g xs k = -1) ∨ ∃ i : Nat, ∃ h : i < xs.length, idxP g xs k = ((k + i : Nat) : Int) ∧ xs.find? g = some xs[i] := by
  induction xs generalizing k with
  | nil => simp [idxP]
  | cons x xs ih =>
    simp only [idxP, List.find?_cons]
    cases h : g x
    · rcases ih (k + 1) with ⟨h1, h2⟩ | ⟨i, hi, h1, h2⟩
      · exact .inl ⟨by simpa using h1, by simpa using h2⟩
      · exact .inr ⟨i + 1, by simpa using hi, by simp only [Bool.false_eq_true, if_false, h1]; omega, by simpa using h2⟩
    · exact .inr ⟨0, by simp, by simp, by simp⟩
theorem idxF_spec (l : List Int) (f : Nat) (caps : List TL) (g : Int → Bool) (hf : ∀ r ∈ l, PCall Tryd.prog f (eI r :: caps) (pB (g r)) []) : PCall Tryd.prog 92 [eIs l, .clo f caps] (pI (idxP g l 0)) [] := by
  refine pcall_sl 0 rfl call92 fun hlen => ?_
  simp only [List.length_map] at hlen
  refine pcall_wp _ Tryd.func92 rfl (by kernel_rfl) rfl ?_
  simp -dsimp
  refine wk_loop (fun i : Nat => ⟨[(8, pI i), (7, pI l.length), (0, .t .ro (eIs l)), (1, .t .ro (.clo f caps))], []⟩) (fun i => i ≤ l.length ∧ idxP g l 0 = idxP g (l.drop i) i) (fun i => l.length - i) 0
    (le_of (by simp) (by simp)) (by simp) fun i ⟨hi, hidx⟩ => ?_
  simp -dsimp
  refine condX_dec (fun h => ?_) (fun h => ?_)
  · have hs := idxP_drop g l i h
    have hw := wr (n := (i : Int) + 1) (by omega) (by omega)
    simp -dsimp [h]
    first
      | refine CallG.by (hf _ (List.getElem_mem h)) ?_
      | refine CallGE.by (hf _ (List.getElem_mem h)) ?_
      | refine CallGB.by (hf _ (List.getElem_mem h)) ?_
    simp -dsimp [h]
    refine condX_of (fun hc => ?_) (fun hc => ?_)
    · simp -dsimp
      refine retP_c ?_
      simp -dsimp
      rw [hidx, hs, if_pos hc]
    · simp -dsimp [hw]
      refine LoopP_next (i + 1) (le_of (by simp) (by simp)) ⟨h, ?_⟩ (by omega)
      rw [hidx, hs, if_neg (by simp [hc])]
  · have : i = l.length := by omega
    simp -dsimp
    refine retP_c ?_
    simp -dsimp [hidx, this, idxP]
theorem anyF_spec (l : List Int) (f : Nat) (caps : List TL) (g : Int → Bool) (hf : ∀ r ∈ l, PCall Tryd.prog f (eI r :: caps) (pB (g r)) []) : PCall Tryd.prog 72 [eIs l, .clo f caps] (pB (l.any g)) [] := by
  refine pcall_wp _ Tryd.func72 rfl (by kernel_rfl) rfl ?_
  simp -dsimp
  first
    | refine CallG.by (idxF_spec l f caps g hf) ?_
    | refine CallGE.by (idxF_spec l f caps g hf) ?_
    | refine CallGB.by (idxF_spec l f caps g hf) ?_
  simp -dsimp [idxP_any]
  refine retP_c ?_
  simp -dsimp
/-- Whether a node is a corner of a set. -/
def corF (t : List Nat) (v set : Nat) : Bool := (bitsL set).any fun u => covF t u v set
/-- A town of some size: sets of its nodes. -/
def Twn (t : List Nat) : Prop := 1 ≤ t.length ∧ t.length ≤ 8 ∧ ∀ x ∈ t, x < 2 ^ t.length
theorem Twn.lt {t : List Nat} (h : Twn t) : ∀ x ∈ t, x < 256 := fun x hx => Nat.lt_of_lt_of_le (h.2.2 x hx) (Nat.pow_le_pow_right (n := 2) (j := 8) (by decide) h.2.1)
theorem sub_lt {t : List Nat} (h : Twn t) {s : Nat} (hs : s < 2 ^ t.length) : s < 256 := Nat.lt_of_lt_of_le hs (Nat.pow_le_pow_right (n := 2) (j := 8) (by decide) h.2.1)
theorem node_lt {n s i : Nat} (hs : s < 2 ^ n) (hi : i ∈ bitsL s) : i < n := by
  simp only [bitsL, List.mem_filter, List.mem_range] at hi
  rcases Nat.lt_or_ge i n with h | h
  · exact h
  · rw [Nat.testBit_lt_two_pow (Nat.lt_of_lt_of_le hs (Nat.pow_le_pow_right (n := 2) (by decide) h))] at hi
    cases hi.2
theorem corner1_spec (t : List Nat) (ht : Twn t) (u v set : Nat) (hu : u < t.length) (hv : v < t.length) (hs : set < 2 ^ t.length) : PCall Tryd.prog 94 [eI u, .rp [eNs t] 0, .rp [eI v] 0, .rp [eI set] 0] (pB (covF t u v set)) [] := by
  refine pcall_wp _ Tryd.func94 rfl (by kernel_rfl) rfl ?_
  simp -dsimp
  first
    | refine CallG.by (covers_spec t u v set ht.lt hu hv (sub_lt ht hs)) ?_
    | refine CallGE.by (covers_spec t u v set ht.lt hu hv (sub_lt ht hs)) ?_
    | refine CallGB.by (covers_spec t u v set ht.lt hu hv (sub_lt ht hs)) ?_
  simp -dsimp
  refine retP_c ?_
  simp -dsimp
theorem iL_any (l : List Nat) (g : Nat → Bool) : (iL l).any (fun z => g z.toNat) = l.any g := by
  simp [iL, List.any_map, Function.comp_def]
theorem corner_spec (t : List Nat) (ht : Twn t) (v set : Nat) (hv : v < t.length) (hs : set < 2 ^ t.length) : PCall Tryd.prog 77 [eNs t, eI v, eI set] (pB (corF t v set)) [] := by
  refine pcall_wp _ Tryd.func77 rfl (by kernel_rfl) rfl ?_
  have hc := anyF_spec (iL (bitsL set)) 94 [.rp [eNs t] 0, .rp [eI v] 0, .rp [eI set] 0] (fun z => covF t z.toNat v set) (fun r hr => by
    obtain ⟨u, hu, rfl⟩ := List.mem_map.1 hr
    exact corner1_spec t ht u v set (node_lt hs hu) hv hs)
  rw [iL_any (bitsL set) (fun u => covF t u v set)] at hc
  simp -dsimp
  first
    | refine CallG.by (nodes_spec set (sub_lt ht hs)) ?_
    | refine CallGE.by (nodes_spec set (sub_lt ht hs)) ?_
    | refine CallGB.by (nodes_spec set (sub_lt ht hs)) ?_
  simp -dsimp
  first
    | refine CallG.by (hc) ?_
    | refine CallGE.by (hc) ?_
    | refine CallGB.by (hc) ?_
  simp -dsimp
  refine retP_c ?_
  simp -dsimp
  rfl
theorem all_spec (t : List Nat) (ht : Twn t) : PCall Tryd.prog 55 [eNs t] (pI (2 ^ t.length - 1 : Nat)) [] := by
  refine pcall_wp _ Tryd.func55 rfl (by kernel_rfl) rfl ?_
  have h2 := ht.2.1
  have hs := shl1 t.length (by omega)
  have hp : 0 < 2 ^ t.length := Nat.pow_pos (by decide)
  have hb : 2 ^ t.length ≤ 2 ^ 8 := Nat.pow_le_pow_right (by decide) h2
  generalize 2 ^ t.length = N at *
  have hw := wr (n := (N : Int) - 1) (by omega) (by omega)
  have he : (N : Int) - 1 = ((N - 1 : Nat) : Int) := by omega
  rw [he] at hw
  simp -dsimp
  refine retP_c ?_
  simp -dsimp [hs, he, hw]
theorem node_spec (t : List Nat) (v : Int) : PCall Tryd.prog 79 [eNs t, eI v] (pB (decide (0 ≤ v ∧ v < t.length))) [] := by
  refine pcall_wp _ Tryd.func79 rfl (by kernel_rfl) rfl ?_
  simp -dsimp
  refine condX_dec (fun h => ?_) (fun h => ?_)
  · simp -dsimp [h]
    refine retP_c ?_
    simp -dsimp [h]
  · simp -dsimp [h]
    refine retP_c ?_
    simp -dsimp [h]
end Go.Proofs.YtgcncgocdfioiaaDoor
