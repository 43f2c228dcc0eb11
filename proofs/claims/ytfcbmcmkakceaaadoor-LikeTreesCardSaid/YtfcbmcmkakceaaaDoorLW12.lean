import Derived.Test.YtfcbmcmkakceaaaDoorLW7
/- LW12: a fraction matrix of two towns: they are alike. Plain. -/
set_option linter.unusedVariables false
set_option linter.unusedSimpArgs false
namespace Go.Proofs.YtfcbmcmkakceaaaDoor
/-- A sum. -/
def sgm : Nat → (Nat → Int) → Int
  | 0, _ => 0
  | n + 1, f => sgm n f + f n
theorem sgm_congr {f g : Nat → Int} : ∀ {n : Nat}, (∀ k, k < n → f k = g k) → sgm n f = sgm n g
  | 0, _ => rfl
  | n + 1, h => by rw [sgm, sgm, sgm_congr fun k hk => h k (by omega), h n (by omega)]
theorem sgm_zero : ∀ n : Nat, sgm n (fun _ => 0) = 0
  | 0 => rfl
  | n + 1 => by rw [sgm, sgm_zero n]; rfl
theorem sgm_add (f g : Nat → Int) : ∀ n : Nat, sgm n (fun k => f k + g k) = sgm n f + sgm n g
  | 0 => rfl
  | n + 1 => by rw [sgm, sgm, sgm, sgm_add f g n]; omega
theorem sgm_sub (f g : Nat → Int) : ∀ n : Nat, sgm n (fun k => f k - g k) = sgm n f - sgm n g
  | 0 => rfl
  | n + 1 => by rw [sgm, sgm, sgm, sgm_sub f g n]; omega
theorem sgm_mul (c : Int) (f : Nat → Int) : ∀ n : Nat, sgm n (fun k => c * f k) = c * sgm n f
  | 0 => by simp [sgm]
  | n + 1 => by rw [sgm, sgm, sgm_mul c f n, Int.mul_add]
theorem sgm_mulr (c : Int) (f : Nat → Int) (n : Nat) : sgm n (fun k => f k * c) = sgm n f * c := by
  rw [Int.mul_comm, ← sgm_mul]
  exact sgm_congr fun k _ => Int.mul_comm _ _
theorem sgm_swap (f : Nat → Nat → Int) (m : Nat) : ∀ n : Nat, sgm n (fun i => sgm m (fun j => f i j)) = sgm m (fun j => sgm n (fun i => f i j))
  | 0 => by simp only [sgm]; exact (sgm_zero m).symm
  | n + 1 => by
    rw [sgm, sgm_swap f m n, ← sgm_add]
    exact sgm_congr fun j _ => rfl
theorem sgm_nonneg {f : Nat → Int} : ∀ {n : Nat}, (∀ k, k < n → 0 ≤ f k) → 0 ≤ sgm n f
  | 0, _ => Int.le_refl _
  | n + 1, h => by
    have := sgm_nonneg (n := n) fun k hk => h k (by omega)
    have := h n (by omega)
    rw [sgm]
    omega
theorem sgm_null {f : Nat → Int} : ∀ {n : Nat}, (∀ k, k < n → 0 ≤ f k) → sgm n f = 0 → ∀ k, k < n → f k = 0
  | n + 1, h, h0, k, hk => by
    have h1 := sgm_nonneg (n := n) fun k hk => h k (by omega)
    have h2 := h n (by omega)
    rw [sgm] at h0
    rcases Nat.lt_or_ge k n with h5 | h5
    · exact sgm_null (fun k hk => h k (by omega)) (by omega) k h5
    · rw [show k = n by omega]
      omega
/-- What a matrix of weights asks: sums of rows and columns, and that both towns' neighbours weigh the same. -/
structure Wgt (n : Nat) (A B a : Nat → Nat → Int) (L : Int) : Prop where
  pos : 0 < L
  nn : ∀ i j, i < n → j < n → 0 ≤ a i j
  row : ∀ i, i < n → sgm n (fun j => a i j) = L
  col : ∀ j, j < n → sgm n (fun i => a i j) = L
  com : ∀ i j, i < n → j < n → sgm n (fun k => A i k * a k j) = sgm n (fun k => a i k * B k j)
  symA : ∀ i j, i < n → j < n → A i j = A j i
  symB : ∀ i j, i < n → j < n → B i j = B j i
section
variable {n : Nat} {A B a : Nat → Nat → Int} {L : Int}
/-- Weights stay within classes. -/
def Blk (n : Nat) (a : Nat → Nat → Int) (e f : Nat → Int) : Prop := ∀ i j, i < n → j < n → a i j ≠ 0 → e i = f j
theorem blk_row (h : Wgt n A B a L) {e f : Nat → Int} (hb : Blk n a e f) {i : Nat} (hi : i < n) : sgm n (fun j => a i j * f j) = L * e i := by
  have : sgm n (fun j => a i j * f j) = sgm n (fun j => a i j * e i) := sgm_congr fun j hj => by
    by_cases h0 : a i j = 0
    · rw [h0, Int.zero_mul, Int.zero_mul]
    · rw [hb i j hi hj h0]
  rw [this, sgm_mulr, h.row i hi]
theorem blk_col (h : Wgt n A B a L) {e f : Nat → Int} (hb : Blk n a e f) {j : Nat} (hj : j < n) : sgm n (fun i => a i j * e i) = L * f j := by
  have : sgm n (fun i => a i j * e i) = sgm n (fun i => a i j * f j) := sgm_congr fun i hi => by
    by_cases h0 : a i j = 0
    · rw [h0, Int.zero_mul, Int.zero_mul]
    · rw [hb i j hi hj h0]
  rw [this, sgm_mulr, h.col j hj]
theorem blk_size (h : Wgt n A B a L) {e f : Nat → Int} (hb : Blk n a e f) : sgm n e = sgm n f := by
  have h1 : sgm n (fun i => L * e i) = L * sgm n e := sgm_mul _ _ _
  have h2 : sgm n (fun j => L * f j) = L * sgm n f := sgm_mul _ _ _
  have h3 : sgm n (fun i => L * e i) = sgm n (fun j => L * f j) := by
    rw [← sgm_congr fun i hi => blk_row h hb hi]
    rw [sgm_swap]
    refine sgm_congr fun j hj => ?_
    show sgm n (fun i => a i j * f j) = _
    rw [sgm_mulr, h.col j hj]
  have h4 : L * sgm n e = L * sgm n f := by rw [← h1, ← h2, h3]
  exact Int.eq_of_mul_eq_mul_left (by have := h.pos; omega) h4
/-- The neighbours in a class, of one town and of the other one. -/
theorem blk_next (h : Wgt n A B a L) {e f : Nat → Int} (hb : Blk n a e f) : Blk n a (fun i => sgm n fun k => A i k * e k) (fun j => sgm n fun k => B j k * f k) := by
  obtain ⟨u, hu⟩ : ∃ u : Nat → Int, u = fun i => sgm n fun k => A i k * e k := ⟨_, rfl⟩
  obtain ⟨v, hv⟩ : ∃ v : Nat → Int, v = fun j => sgm n fun k => B j k * f k := ⟨_, rfl⟩
  rw [← hu, ← hv]
  have h1 : ∀ i, i < n → L * u i = sgm n fun k => a i k * v k := fun i hi => by
    have e1 : L * u i = sgm n (fun k => A i k * (L * e k)) := by
      rw [hu, ← sgm_mul]
      exact sgm_congr fun k _ => Int.mul_left_comm _ _ _
    have e2 : sgm n (fun k => A i k * (L * e k)) = sgm n (fun k => sgm n fun j => A i k * (a k j * f j)) := sgm_congr fun k hk => by
      rw [← blk_row h hb hk, sgm_mul]
    have e3 : sgm n (fun j => sgm n fun k => A i k * (a k j * f j)) = sgm n (fun j => (sgm n fun k => a i k * B k j) * f j) := sgm_congr fun j hj => by
      rw [← h.com i j hi hj, ← sgm_mulr]
      exact sgm_congr fun k _ => (Int.mul_assoc _ _ _).symm
    have e4 : sgm n (fun j => (sgm n fun k => a i k * B k j) * f j) = sgm n (fun j => sgm n fun k => a i k * (B k j * f j)) := sgm_congr fun j hj => by
      rw [← sgm_mulr]
      exact sgm_congr fun k _ => Int.mul_assoc _ _ _
    rw [e1, e2, sgm_swap, e3, e4, sgm_swap]
    refine sgm_congr fun k hk => ?_
    show sgm n (fun j => a i k * (B k j * f j)) = _
    rw [sgm_mul, hv]
  have h2 : ∀ j, j < n → L * v j = sgm n fun k => a k j * u k := fun j hj => by
    have e1 : L * v j = sgm n (fun k => B j k * (L * f k)) := by
      rw [hv, ← sgm_mul]
      exact sgm_congr fun k _ => Int.mul_left_comm _ _ _
    have e2 : sgm n (fun k => B j k * (L * f k)) = sgm n (fun k => sgm n fun i => B j k * (a i k * e i)) := sgm_congr fun k hk => by
      rw [← blk_col h hb hk, sgm_mul]
    have e3 : sgm n (fun i => sgm n fun k => B j k * (a i k * e i)) = sgm n (fun i => (sgm n fun k => A i k * a k j) * e i) := sgm_congr fun i hi => by
      rw [h.com i j hi hj, ← sgm_mulr]
      refine sgm_congr fun k hk => ?_
      rw [h.symB j k hj hk, ← Int.mul_assoc, Int.mul_comm (B k j)]
    have e4 : sgm n (fun i => (sgm n fun k => A i k * a k j) * e i) = sgm n (fun i => sgm n fun k => a k j * (A k i * e i)) := sgm_congr fun i hi => by
      rw [← sgm_mulr]
      refine sgm_congr fun k hk => ?_
      rw [h.symA i k hi hk, ← Int.mul_assoc, Int.mul_comm (A k i)]
    rw [e1, e2, sgm_swap, e3, e4, sgm_swap]
    refine sgm_congr fun k hk => ?_
    show sgm n (fun i => a k j * (A k i * e i)) = _
    rw [sgm_mul, hu]
  have d0 : ∀ i j, i < n → j < n → 0 ≤ a i j * ((u i - v j) * (u i - v j)) := fun i j hi hj => by
    refine Int.mul_nonneg (h.nn i j hi hj) ?_
    rcases Int.le_total 0 (u i - v j) with h5 | h5
    · exact Int.mul_nonneg h5 h5
    · exact Int.mul_nonneg_of_nonpos_of_nonpos h5 h5
  have dx : ∀ i j, a i j * ((u i - v j) * (u i - v j)) = a i j * (u i * u i) + a i j * (v j * v j) - 2 * (u i * (a i j * v j)) := fun i j => by
    generalize a i j = x
    generalize u i = y
    generalize v j = z
    simp only [Int.mul_sub, Int.sub_mul]
    have t1 : x * (y * z) = y * (x * z) := Int.mul_left_comm _ _ _
    have t2 : x * (z * y) = y * (x * z) := by rw [Int.mul_comm z y]; exact Int.mul_left_comm _ _ _
    omega
  have s1 : sgm n (fun i => sgm n fun j => a i j * (u i * u i)) = L * sgm n (fun i => u i * u i) := by
    rw [← sgm_mul]
    refine sgm_congr fun i hi => ?_
    rw [sgm_mulr, h.row i hi]
  have s2 : sgm n (fun i => sgm n fun j => a i j * (v j * v j)) = L * sgm n (fun j => v j * v j) := by
    rw [← sgm_mul, sgm_swap]
    refine sgm_congr fun j hj => ?_
    show sgm n (fun i => a i j * (v j * v j)) = _
    rw [sgm_mulr, h.col j hj]
  have s3 : sgm n (fun i => sgm n fun j => u i * (a i j * v j)) = L * sgm n (fun i => u i * u i) := by
    rw [← sgm_mul]
    refine sgm_congr fun i hi => ?_
    rw [sgm_mul, ← h1 i hi]
    exact Int.mul_left_comm _ _ _
  have s4 : sgm n (fun i => sgm n fun j => u i * (a i j * v j)) = L * sgm n (fun j => v j * v j) := by
    rw [← sgm_mul, sgm_swap]
    refine sgm_congr fun j hj => ?_
    have : sgm n (fun i => u i * (a i j * v j)) = v j * sgm n (fun k => a k j * u k) := by
      rw [← sgm_mul]
      refine sgm_congr fun i _ => ?_
      rw [Int.mul_comm (v j), Int.mul_assoc, ← Int.mul_assoc (a i j), ← Int.mul_assoc, Int.mul_comm (u i)]
    show sgm n (fun i => u i * (a i j * v j)) = _
    rw [this, ← h2 j hj]
    exact Int.mul_left_comm _ _ _
  have D : sgm n (fun i => sgm n fun j => a i j * ((u i - v j) * (u i - v j))) = 0 := by
    have : sgm n (fun i => sgm n fun j => a i j * ((u i - v j) * (u i - v j))) = sgm n (fun i => sgm n (fun j => a i j * (u i * u i)) + sgm n (fun j => a i j * (v j * v j)) - 2 * sgm n (fun j => u i * (a i j * v j))) := sgm_congr fun i hi => by
      rw [← sgm_add, ← sgm_mul, ← sgm_sub]
      exact sgm_congr fun j _ => dx i j
    rw [this, sgm_sub, sgm_add, sgm_mul, s1, s2]
    omega
  intro i j hi hj h0
  have h5 := sgm_null (fun i hi => sgm_nonneg fun j hj => d0 i j hi hj) D i hi
  have h6 := sgm_null (fun j hj => d0 i j hi hj) h5 j hj
  rcases Int.mul_eq_zero.1 h6 with h7 | h7
  · exact (h0 h7).elim
  · have h8 := Int.mul_eq_zero.1 h7
    omega
end
/-- One if, and else nothing. -/
def ind (b : Bool) : Int := if b then 1 else 0
theorem sgm_count (p : Nat → Bool) : ∀ n : Nat, sgm n (fun k => ind (p k)) = ((List.range n).countP p : Nat)
  | 0 => rfl
  | n + 1 => by
    rw [sgm, sgm_count p n, List.range_succ, List.countP_append, List.countP_singleton, ind]
    split <;> simp_all
theorem ind_mul (a b : Bool) : ind a * ind b = ind (a && b) := by cases a <;> cases b <;> rfl
/-- How often a colour is among the neighbours. -/
theorem nd_count {n : Nat} {g : List Nat} (hg : Tow 6 g) (hn : g.length = n) (c : Nat → Nat) (q : Nat) {x : Nat} (hx : x < n) :
    (((ndN (g.getD x 0)).map c).count q : Int) = sgm n (fun k => ind (nbN g x k) * ind (c k == q)) := by
  have h6 := hg.le
  have h1 : (List.range n).filter (g.getD x 0).testBit = ndN (g.getD x 0) := nd_filter (by omega) (hn ▸ hg.get x)
  have : sgm n (fun k => ind (nbN g x k) * ind (c k == q)) = sgm n (fun k => ind (nbN g x k && (c k == q))) := sgm_congr fun k _ => ind_mul _ _
  rw [this, sgm_count, ← h1, List.count_eq_countP, List.countP_map, List.countP_filter]
  congr 2
  funext k
  simp [Function.comp, nbN, Bool.and_comm]
section
variable {g h : List Nat} {a : Nat → Nat → Int} {L : Int}
def BlkC (n : Nat) (a : Nat → Nat → Int) (C : List Nat) : Prop := ∀ i j, i < n → j < n → a i j ≠ 0 → C.getD i 0 = C.getD (n + j) 0
theorem blkC_blk {n : Nat} {C : List Nat} (hb : BlkC n a C) (q : Nat) : Blk n a (fun i => ind (C.getD i 0 == q)) (fun j => ind (C.getD (n + j) 0 == q)) := fun i j hi hj h0 => by
  show ind _ = ind _
  rw [hb i j hi hj h0]
theorem blkC_kd {n : Nat} (hg : Tow 6 g) (hh : Tow 6 h) (hn : g.length = n) (hm : h.length = n) (hw : Wgt n (fun i k => ind (nbN g i k)) (fun i k => ind (nbN h i k)) a L) {C : List Nat} (hb : BlkC n a C) {i j : Nat} (hi : i < n) (hj : j < n) (h0 : a i j ≠ 0) :
    kdN (besN g h) C i = kdN (besN g h) C (n + j) := by
  have hc := hb i j hi hj h0
  have h6 := hg.le
  have e1 : (besN g h).getD i 0 = g.getD i 0 := bes_left (by omega)
  have e2 : (besN g h).getD (n + j) 0 = h.getD j 0 <<< n := by
    have := bes_right (g := g) (h := h) (y := j) (by omega)
    rw [hn] at this
    exact this
  have h64 : 2 ^ h.length ≤ 2 ^ 6 := Nat.pow_le_pow_right (by decide) hh.le
  have e3 : ndN (h.getD j 0 <<< n) = (ndN (h.getD j 0)).map (n + ·) := nd_shift (by omega) (Nat.lt_of_lt_of_le (hh.get j) h64)
  rw [kdN, kdN, hc, e1, e2, e3]
  congr 1
  apply srt_perm
  rw [List.perm_iff_count]
  intro q
  have a1 := nd_count hg hn (fun u => C.getD u 0) q hi
  have a2 := nd_count hh hm (fun u => C.getD (n + u) 0) q hj
  have := blk_next hw (blkC_blk hb q) i j hi hj h0
  dsimp only at this
  rw [List.map_map]
  have e5 : ((fun u => C.getD u 0) ∘ fun x => n + x) = fun u => C.getD (n + u) 0 := rfl
  rw [e5]
  omega
theorem blkC_W {n : Nat} (hg : Tow 6 g) (hh : Tow 6 h) (hn : g.length = n) (hm : h.length = n) (hw : Wgt n (fun i k => ind (nbN g i k)) (fun i k => ind (nbN h i k)) a L) : ∀ {C : List Nat} {r : Nat}, Full (besN g h).length C → BlkC n a C → BlkC n a (colW (besN g h) C r).1 := by
  intro C
  generalize hk : (besN g h).length - mostN C = k
  induction k using Nat.strongRecOn generalizing C with
  | _ k ih =>
    intro r hf hb
    by_cases hq : mostN (refN (besN g h) C) = mostN C
    · rw [colW_stop hq]
      exact hb
    · rw [colW_go hf hq]
      have hf' := refN_full (besN g h) C
      have h1 := most_mono hf
      have h2 := full_le hf'
      refine ih _ (by omega) rfl hf' fun i j hi hj h0 => ?_
      have hl := bes_len g h
      rw [refN_get (by omega), refN_get (by omega), blkC_kd hg hh hn hm hw hb hi hj h0]
/-- Where there is a matrix of weights, the towns are alike. -/
theorem like_weights {n : Nat} (hg : Tow 6 g) (hh : Tow 6 h) (hn : g.length = n) (hm : h.length = n) (hw : Wgt n (fun i k => ind (nbN g i k)) (fun i k => ind (nbN h i k)) a L) : likeN g h = true := by
  have hb : BlkC n a (colN (besN g h)).1 := blkC_W hg hh hn hm hw (full_zero _) fun i j hi hj h0 => by rw [rep_get, rep_get]
  refine List.all_eq_true.2 fun q _ => ?_
  rw [beq_iff_eq]
  have hl := sh_len g h
  have h1 := blk_size hw (blkC_blk hb q)
  rw [sgm_count, sgm_count] at h1
  have e1 : (shN g h).1 = (List.range n).map fun x => (colN (besN g h)).1.getD x 0 := by
    rw [← map_getD (shN g h).1 n (by omega)]
    refine List.map_congr_left fun x hx => ?_
    exact sh_left (by have := List.mem_range.1 hx; omega)
  have e2 : (shN g h).2 = (List.range n).map fun x => (colN (besN g h)).1.getD (n + x) 0 := by
    rw [← map_getD (shN g h).2 n (by omega)]
    refine List.map_congr_left fun x hx => ?_
    rw [sh_right, hn]
  rw [e1, e2, List.count_eq_countP, List.count_eq_countP, List.countP_map, List.countP_map]
  have e3 : ∀ c : Nat → Nat, ((fun x => x == q) ∘ c) = fun x => c x == q := fun _ => rfl
  rw [e3, e3]
  omega
end
end Go.Proofs.YtfcbmcmkakceaaaDoor
