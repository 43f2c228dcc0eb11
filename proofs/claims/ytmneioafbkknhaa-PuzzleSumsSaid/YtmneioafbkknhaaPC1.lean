import Derived.Test.YtmneioafbkknhaaPB42
/- PC1: lines; sums modulo 2; lines are linear equations -/
set_option linter.unusedVariables false
set_option linter.unusedSimpArgs false
set_option maxRecDepth 20000
/- PB50: lines: a side, and the sum of a line. -/
namespace Go.Proofs.Ytmneioafbkknhaa
open Go Go.PS
attribute [-simp] List.map_take
@[simp] theorem f_sz140 : szT Try.prog 140 = some 1 := by kernel_rfl
@[simp] theorem f_ag140 : aggT Try.prog 140 = some false := by kernel_rfl
@[simp] theorem f_z140 : zT Try.prog 140 = some [.nilFunc] := by kernel_rfl
@[simp] theorem arT130 : arT Try.prog 130 = some (512, 1) := by kernel_rfl
structure Ln where
  cons : Int
  mask : Int
instance : Inhabited Ln := ⟨⟨0, 0⟩⟩
instance : Inhabited Cn := ⟨⟨0, []⟩⟩
@[simp] def cLn (l : Ln) : List TL := [eI l.cons, eI l.mask]
@[simp] def eLn (l : Ln) : TL := .agg (cLn l)
@[simp] def eLns (l : List Ln) : TL := .sl .any 2 (l.map cLn)
/-- The sum of three bits. -/
def par3 (x : Int) : Bool := (bt x 0 ^^ bt x 1) ^^ bt x 2
def sdB (mask row : Int) : Bool := par3 (andI row mask)
theorem par3_all : (List.range 8).all (fun k => andI (pop k : Nat) 1 == eb (par3 k)) = true := by kernel_rfl
theorem par3_pop {k : Nat} (hk : k < 8) : andI (pop k : Nat) 1 = eb (par3 k) := by
  simpa using List.all_eq_true.1 par3_all k (List.mem_range.2 hk)
theorem idxI_spec (l : List Int) (f : Nat) (caps : List TL) (g : Int → Bool) (hf : ∀ r ∈ l, PCall Try.prog f (eI r :: caps) (pB (g r)) []) : PCall Try.prog 136 [eIs l, .clo f caps] (pI (idxP g l 0)) [] := by
  refine pcall_sl 0 rfl call136 fun hlen => ?_
  simp only [List.length_map] at hlen
  refine pcall_wp _ Try.func136 rfl (by kernel_rfl) rfl ?_
  simp -dsimp
  refine wk_loop (fun i : Nat => ⟨[(8, pI i), (7, pI l.length), (0, .t .ro (eIs l)), (1, .t .ro (.clo f caps))], []⟩) (fun i => i ≤ l.length ∧ idxP g l 0 = idxP g (l.drop i) i) (fun i => l.length - i) 0
    (le_of (by simp) (by simp)) (by simp) fun i ⟨hi, hidx⟩ => ?_
  simp -dsimp
  refine condX_dec (fun h => ?_) (fun h => ?_)
  · have hs := idxP_drop g l i h
    have hw := wr (n := (i : Int) + 1) (by omega) (by omega)
    simp -dsimp [h]
    first
      | refine CallG.by (hf _ (List.getElem_mem h)) ?_
      | refine CallGE.by (hf _ (List.getElem_mem h)) ?_
      | refine CallGB.by (hf _ (List.getElem_mem h)) ?_
    simp -dsimp [h]
    refine condX_of (fun hc => ?_) (fun hc => ?_)
    · simp -dsimp
      refine retP_c ?_
      simp -dsimp
      rw [hidx, hs, if_pos hc]
    · simp -dsimp [hw]
      refine LoopP_next (i + 1) (le_of (by simp) (by simp)) ⟨h, ?_⟩ (by omega)
      rw [hidx, hs, if_neg (by simp [hc])]
  · have : i = l.length := by omega
    simp -dsimp
    refine retP_c ?_
    simp -dsimp [hidx, this, idxP]
theorem anyI_spec (l : List Int) (f : Nat) (caps : List TL) (g : Int → Bool) (hf : ∀ r ∈ l, PCall Try.prog f (eI r :: caps) (pB (g r)) []) : PCall Try.prog 117 [eIs l, .clo f caps] (pB (l.any g)) [] := by
  refine pcall_wp _ Try.func117 rfl (by kernel_rfl) rfl ?_
  simp -dsimp
  first
    | refine CallG.by (idxI_spec l f caps g hf) ?_
    | refine CallGE.by (idxI_spec l f caps g hf) ?_
    | refine CallGB.by (idxI_spec l f caps g hf) ?_
  simp -dsimp [idxP_any]
  refine retP_c ?_
  simp -dsimp
theorem side_spec (row c mask : Int) (hr : InN 3 row) (hm : InN 3 mask) : PCall Try.prog 116 [eI row, .rp [eI c, eI mask] 0] (pI (eb (sdB mask row))) [] := by
  refine pcall_wp _ Try.func116 rfl (by kernel_rfl) rfl ?_
  obtain ⟨k, hk, hk8⟩ := inN_and (by omega) hr hm
  have hp := par3_pop (k := k) (by omega)
  have hs : sdB mask row = par3 k := by rw [sdB, hk]
  have hu : IntKind.u64.wrap (k : Int) = k := by
    simp [IntKind.wrap, IntKind.bits, IntKind.signed]
    omega
  simp -dsimp [hk, hu]
  first
    | refine CallG.by (ones_spec k (by omega)) ?_
    | refine CallGE.by (ones_spec k (by omega)) ?_
    | refine CallGB.by (ones_spec k (by omega)) ?_
  simp -dsimp [hp]
  refine retP_c ?_
  simp -dsimp [hs]
theorem eb_ne (a b : Bool) : (eb a != eb b) = (a != b) := by cases a <;> cases b <;> rfl
theorem sides_spec (row c mask n : Int) (r0 : Int) (rows : List Int) (hr : InN 3 row) (h0 : InN 3 r0) (hm : InN 3 mask) : PCall Try.prog 118 [eI row, .rp [.clo 116 [.rp [eI c, eI mask] 0]] 0, .rp [eI n, eIs (r0 :: rows)] 0] (pB (sdB mask row != sdB mask r0)) [] := by
  refine pcall_wp _ Try.func118 rfl (by kernel_rfl) rfl ?_
  simp -dsimp
  refine wk_draw 8 [] mixed (by kernel_rfl) ?_
  simp -dsimp
  first
    | refine CallG.by (side_spec row c mask hr hm) ?_
    | refine CallGE.by (side_spec row c mask hr hm) ?_
    | refine CallGB.by (side_spec row c mask hr hm) ?_
  simp -dsimp
  first
    | refine CallG.by (side_spec r0 c mask h0 hm) ?_
    | refine CallGE.by (side_spec r0 c mask h0 hm) ?_
    | refine CallGB.by (side_spec r0 c mask h0 hm) ?_
  simp -dsimp [eb_ne]
  refine retP_c ?_
  simp -dsimp
/-- The Cons, and the Rel, of a line. -/
def conOf (p : Pz) (l : Ln) : Cn := p.cons.getD l.cons.toNat default
def r0Of (p : Pz) (l : Ln) : Int := (relOf p (conOf p l)).rows.getD 0 0
def lnOk (p : Pz) (l : Ln) : Bool := decide (0 ≤ l.cons) && decide (l.cons < p.cons.length) && decide (1 ≤ l.mask) && decide (l.mask < ((2 ^ (relOf p (conOf p l)).n.toNat : Nat) : Int)) && !(relOf p (conOf p l)).rows.any fun x => sdB l.mask x != sdB l.mask (r0Of p l)
def lineV (mask : Int) : List Int → Nat → Int → Int
  | [], _, out => out
  | v :: vs, i, out => lineV mask vs (i + 1) (xorI out (shlI (andI (shrI mask i) 1) v.toNat))
def lnV (p : Pz) (l : Ln) : Int := lineV l.mask (conOf p l).vars 0 0
def lnS (p : Pz) (l : Ln) : Bool := sdB l.mask (r0Of p l)
def lineT (p : Pz) (l : Ln) : TL := if lnOk p l then .tup [.agg [eI (lnV p l), eI (eb (lnS p l)), eI 0], eB true] else .tup [.agg [eI 0, eI 0, eI 0], eB false]
theorem line_spec (p : Pz) (l : Ln) (hg : goodP p = true) : PCall Try.prog 89 [ePz p, eLn l] (.t .ro (lineT p l)) [] := by
  refine pcall_wpT Try.func89 rfl (by kernel_rfl) ?_
  simp -dsimp
  have hv := hg
  simp only [goodP, Bool.and_eq_true, decide_eq_true_eq] at hv
  obtain ⟨⟨⟨⟨⟨g1, g2⟩, g3⟩, g4⟩, g5⟩, g6⟩ := hv
  have hbad : lnOk p l = false → lineT p l = .tup [.agg [eI 0, eI 0, eI 0], eB false] := fun h => by rw [lineT, h]; rfl
  refine condX_ndec (fun h1 => ?_) (fun h1 => ?_)
  rotate_left
  · have hT := hbad (by rw [lnOk, decide_eq_false (by omega : ¬ 0 ≤ l.cons)]; simp)
    simp -dsimp [h1]
    refine retT_c ?_
    simp -dsimp [hT]
  simp -dsimp [h1]
  refine condX_dec (fun h2 => ?_) (fun h2 => ?_)
  · have hT := hbad (by rw [lnOk, decide_eq_false (by omega : ¬ l.cons < p.cons.length)]; simp)
    simp -dsimp [h2]
    refine retT_c ?_
    simp -dsimp [hT]
  have hc0 : 0 ≤ l.cons := by omega
  have hcl : l.cons.toNat < p.cons.length := by omega
  have hcl' : l.cons < (p.cons.length : Int) := by omega
  have hco : conOf p l = p.cons[l.cons.toNat] := by rw [conOf]; exact getD_mem hcl
  obtain ⟨c, hc⟩ : ∃ c, c = p.cons[l.cons.toNat] := ⟨_, rfl⟩
  have hcm : c ∈ p.cons := by rw [hc]; exact List.getElem_mem hcl
  rw [← hc] at hco
  have hcI := consI hg hcm
  have hok := okC_of g6 c hcm
  have hrl : c.rel.toNat < p.rels.length := hok.2.1
  have hr0 : 0 ≤ c.rel := hok.1
  have hrl' : c.rel < (p.rels.length : Int) := by omega
  have hro : relOf p c = p.rels[c.rel.toNat] := getD_mem hrl
  obtain ⟨r, hr⟩ : ∃ r, r = p.rels[c.rel.toNat] := ⟨_, rfl⟩
  rw [← hr] at hro
  obtain ⟨n, hn⟩ : ∃ n : Nat, r.n = n := ⟨c.vars.length, by rw [← hro]; exact hcI.n.symm⟩
  have hcn : c.vars.length = n := by have := hcI.n; rw [hro, hn] at this; omega
  have hn3 : n ≤ 3 := by have := hcI.len; omega
  obtain ⟨x0, xs, hxs⟩ : ∃ x0 xs, r.rows = x0 :: xs := by
    have := hcI.good
    rw [hro, goodR_asc] at this
    cases hx : r.rows with
    | nil => rw [hx] at this; simp at this
    | cons x0 xs => exact ⟨x0, xs, rfl⟩
  have hrI : ∀ x ∈ r.rows, InN 3 x := by rw [← hro]; exact hcI.r3
  have hr0o : r0Of p l = x0 := by rw [r0Of, hco, hro, hxs]; rfl
  have hpw : shlI 1 n = ((2 ^ n : Nat) : Int) := shl1 n (by omega)
  have hn0 : (0 : Int) ≤ (n : Int) := by omega
  have hOk : lnOk p l = (decide (1 ≤ l.mask) && decide (l.mask < ((2 ^ n : Nat) : Int)) && !r.rows.any fun x => sdB l.mask x != sdB l.mask x0) := by
    rw [lnOk, hco, hro, hr0o, decide_eq_true hc0, decide_eq_true hcl', hn, Int.toNat_natCast]
    simp
  have hmk : 1 ≤ l.mask → l.mask < ((2 ^ n : Nat) : Int) → InN 3 l.mask := fun a b => by
    have : 2 ^ n ≤ 2 ^ 3 := Nat.pow_le_pow_right (by decide) hn3
    exact ⟨l.mask.toNat, by omega, by omega⟩
  simp -dsimp [h1, h2, hc0, hcl, hcl', ← hc, hr0, hrl, hrl', ← hr, hn]
  refine wk_draw 9 [] mixed (by kernel_rfl) ?_
  simp -dsimp [hn0, hpw, hn]
  generalize hN : 2 ^ n = N at *
  by_cases h3 : l.mask < 1
  · have hT := hbad (by rw [hOk, decide_eq_false (by omega : ¬ 1 ≤ l.mask)]; simp)
    simp -dsimp [h3]
    refine retT_c ?_
    simp -dsimp [hT]
  by_cases h4 : shlI 1 n ≤ l.mask
  · have hT := hbad (by rw [hOk, decide_eq_false (by omega : ¬ l.mask < (N : Int))]; simp)
    simp -dsimp [h3, h4]
    refine retT_c ?_
    simp -dsimp [hT]
  have hm3 := hmk (by omega) (by omega)
  simp -dsimp [h3, h4]
  rw [hxs]
  rw [hxs] at hrI hOk
  have h0I := hrI x0 (by simp)
  first
    | refine CallG.by (anyI_spec (x0 :: xs) 118 [.rp [.clo 116 [.rp [eI l.cons, eI l.mask] 0]] 0, .rp [eI n, eIs (x0 :: xs)] 0] (fun x => sdB l.mask x != sdB l.mask x0) (fun x hx => sides_spec x l.cons l.mask n x0 xs (hrI x hx) h0I hm3)) ?_
    | refine CallGE.by (anyI_spec (x0 :: xs) 118 [.rp [.clo 116 [.rp [eI l.cons, eI l.mask] 0]] 0, .rp [eI n, eIs (x0 :: xs)] 0] (fun x => sdB l.mask x != sdB l.mask x0) (fun x hx => sides_spec x l.cons l.mask n x0 xs (hrI x hx) h0I hm3)) ?_
    | refine CallGB.by (anyI_spec (x0 :: xs) 118 [.rp [.clo 116 [.rp [eI l.cons, eI l.mask] 0]] 0, .rp [eI n, eIs (x0 :: xs)] 0] (fun x => sdB l.mask x != sdB l.mask x0) (fun x hx => sides_spec x l.cons l.mask n x0 xs (hrI x hx) h0I hm3)) ?_
  rw [decide_eq_true (by omega : 1 ≤ l.mask), decide_eq_true (by omega : l.mask < (N : Int)), Bool.true_and, Bool.true_and] at hOk
  cases hA : (x0 :: xs).any fun x => sdB l.mask x != sdB l.mask x0 with
  | true =>
    have hT := hbad (by rw [hOk, hA]; rfl)
    simp -dsimp
    refine retT_c ?_
    simp -dsimp [hT]
  | false =>
    have hT : lineT p l = .tup [.agg [eI (lnV p l), eI (eb (lnS p l)), eI 0], eB true] := by rw [lineT, hOk, hA]; rfl
    have hS : lnS p l = sdB l.mask x0 := by rw [lnS, hr0o]
    have hVd : lnV p l = lineV l.mask c.vars 0 0 := by rw [lnV, hco]
    rw [hS, hVd] at hT
    simp -dsimp
    refine wk_draw 8 [7] mixed (by kernel_rfl) ?_
    simp -dsimp
    first
      | refine CallG.by (side_spec x0 l.cons l.mask h0I hm3) ?_
      | refine CallGE.by (side_spec x0 l.cons l.mask h0I hm3) ?_
      | refine CallGB.by (side_spec x0 l.cons l.mask h0I hm3) ?_
    simp -dsimp
    refine wk_loop (fun q : Nat × Int => ⟨[(64, pI q.1), (63, pI c.vars.length), (62, .t .ro (eIs c.vars)), (9, .ptr 9 0), (4, .ptr 4 0), (3, .ptr 3 0)], [(9, .blk 119 [.t .fz (eI q.2), .t .fz (eI (eb (sdB l.mask x0))), .t .fz (eI 0)]), (4, .blk 119 [.t .fz (eI 0), .t .fz (eI 0), .t .fz (eI 0)]), (3, .blk 123 [.t .ro (eI l.cons), .t .ro (eI l.mask)])]⟩)
      (fun q => q.1 ≤ c.vars.length ∧ lineV l.mask c.vars 0 0 = lineV l.mask (c.vars.drop q.1) q.1 q.2) (fun q => c.vars.length - q.1) (0, 0) (le_of (by simp) (by simp)) ⟨by simp, rfl⟩ fun ⟨i, v⟩ ⟨hi, hJ⟩ => ?_
    dsimp only at hi hJ
    simp -dsimp
    refine condX_dec (fun h => ?_) (fun h => ?_)
    rotate_left
    · have e : i = c.vars.length := by omega
      subst e
      rw [List.drop_length] at hJ
      rw [hJ] at hT
      simp -dsimp
      refine retT_c ?_
      simp -dsimp [hT, lineV]
    have hw := wr (n := (i : Int) + 1) (by omega) (by omega)
    have hi0 : (0 : Int) ≤ (i : Int) := by omega
    have hvi := hcI.var _ (List.getElem_mem h)
    have hv0 := hvi.1
    rw [List.drop_eq_getElem_cons h] at hJ
    simp -dsimp [h]
    refine wk_draw 9 [] mixed (by kernel_rfl) ?_
    simp -dsimp [hi0, hv0, hw]
    exact LoopP_next (i + 1, xorI v (shlI (andI (shrI l.mask i) 1) c.vars[i].toNat)) (le_of (by simp) (by simp)) ⟨h, hJ⟩ (by simp only; omega)
end Go.Proofs.Ytmneioafbkknhaa
/- PB51: lines of the reference: parity, Side, times; lines and own. -/
namespace Go.Proofs.Ytmneioafbkknhaa
open Go Go.PS
attribute [-simp] List.map_take
theorem par_all : (List.range 8).all (fun k => [false, true].all fun b => (xorI (eb b) (andI k 1) == eb (b ^^ (k : Nat).testBit 0)) && (shrI k 1 == ((k / 2 : Nat) : Int)) && (par3 k == (k.testBit 0 ^^ par3 ((k / 2 : Nat) : Int)))) = true := by kernel_rfl
theorem par_step {k : Nat} (hk : k < 8) (b : Bool) : xorI (eb b) (andI k 1) = eb (b ^^ k.testBit 0) ∧ shrI k 1 = ((k / 2 : Nat) : Int) ∧ par3 k = (k.testBit 0 ^^ par3 ((k / 2 : Nat) : Int)) := by
  have h := List.all_eq_true.1 (List.all_eq_true.1 par_all k (List.mem_range.2 hk)) b (by cases b <;> simp)
  simp only [Bool.and_eq_true, beq_iff_eq] at h
  exact ⟨h.1.1, h.1.2, h.2⟩
theorem parity_spec (x : Int) (hx : InN 3 x) : PCall Try.prog 120 [eI x] (pI (eb (par3 x))) [] := by
  obtain ⟨k0, rfl, hk0⟩ := hx
  refine pcall_wp _ Try.func120 rfl (by kernel_rfl) rfl ?_
  simp -dsimp
  refine wk_loop (fun q : Bool × Nat × Kind => ⟨[(0, .t q.2.2 (eI q.2.1)), (3, pI (eb q.1))], []⟩) (fun q => q.2.1 < 8 ∧ par3 k0 = (q.1 ^^ par3 q.2.1)) (fun q => q.2.1) (false, k0, .ro) (le_of (by simp [eb]) (by simp)) ⟨by simp only; omega, by simp⟩ fun ⟨b, k, kd⟩ ⟨hk, hJ⟩ => ?_
  dsimp only at hk hJ
  obtain ⟨s1, s2, s3⟩ := par_step hk b
  simp -dsimp
  refine condX_dec (fun h => ?_) (fun h => ?_)
  · simp -dsimp [s1, s2]
    refine LoopP_next ((b ^^ k.testBit 0), k / 2, .fz) (le_of (by simp) (by simp)) ⟨by simp only; omega, ?_⟩ (by simp only; omega)
    rw [hJ, s3]
    simp
  · have e : k = 0 := by omega
    subst e
    have : par3 k0 = b := by
      rw [hJ]
      have : par3 (0 : Nat) = false := by decide
      rw [this]
      simp
    simp -dsimp
    refine retP_c ?_
    simp -dsimp [this]
/-- What Side returns. -/
def sideT (p : Pz) (l : Ln) : TL := if lnOk p l then .tup [eI (eb (lnS p l)), eB true] else .tup [eI 0, eB false]
theorem rside_spec (p : Pz) (l : Ln) (hg : goodP p = true) : PCall Try.prog 92 [ePz p, eLn l] (.t .ro (sideT p l)) [] := by
  refine pcall_wpT Try.func92 rfl (by kernel_rfl) ?_
  simp -dsimp
  have hv := hg
  simp only [goodP, Bool.and_eq_true, decide_eq_true_eq] at hv
  obtain ⟨⟨⟨⟨⟨g1, g2⟩, g3⟩, g4⟩, g5⟩, g6⟩ := hv
  have hbad : lnOk p l = false → sideT p l = .tup [eI 0, eB false] := fun h => by rw [sideT, h]; rfl
  refine condX_ndec (fun h1 => ?_) (fun h1 => ?_)
  rotate_left
  · have hT := hbad (by rw [lnOk, decide_eq_false (by omega : ¬ 0 ≤ l.cons)]; simp)
    simp -dsimp [h1]
    refine retT_c ?_
    simp -dsimp [hT]
  simp -dsimp [h1]
  refine condX_dec (fun h2 => ?_) (fun h2 => ?_)
  · have hT := hbad (by rw [lnOk, decide_eq_false (by omega : ¬ l.cons < p.cons.length)]; simp)
    simp -dsimp [h2]
    refine retT_c ?_
    simp -dsimp [hT]
  have hc0 : 0 ≤ l.cons := by omega
  have hcl : l.cons.toNat < p.cons.length := by omega
  have hcl' : l.cons < (p.cons.length : Int) := by omega
  have hco : conOf p l = p.cons[l.cons.toNat] := by rw [conOf]; exact getD_mem hcl
  obtain ⟨c, hc⟩ : ∃ c, c = p.cons[l.cons.toNat] := ⟨_, rfl⟩
  have hcm : c ∈ p.cons := by rw [hc]; exact List.getElem_mem hcl
  rw [← hc] at hco
  have hcI := consI hg hcm
  have hok := okC_of g6 c hcm
  have hrl : c.rel.toNat < p.rels.length := hok.2.1
  have hr0 : 0 ≤ c.rel := hok.1
  have hrl' : c.rel < (p.rels.length : Int) := by omega
  have hro : relOf p c = p.rels[c.rel.toNat] := getD_mem hrl
  obtain ⟨r, hr⟩ : ∃ r, r = p.rels[c.rel.toNat] := ⟨_, rfl⟩
  rw [← hr] at hro
  obtain ⟨n, hn⟩ : ∃ n : Nat, r.n = n := ⟨c.vars.length, by rw [← hro]; exact hcI.n.symm⟩
  have hcn : c.vars.length = n := by have := hcI.n; rw [hro, hn] at this; omega
  have hn3 : n ≤ 3 := by have := hcI.len; omega
  obtain ⟨x0, xs, hxs⟩ : ∃ x0 xs, r.rows = x0 :: xs := by
    have := hcI.good
    rw [hro, goodR_asc] at this
    cases hx : r.rows with
    | nil => rw [hx] at this; simp at this
    | cons x0 xs => exact ⟨x0, xs, rfl⟩
  have hrI : ∀ x ∈ r.rows, InN 3 x := by rw [← hro]; exact hcI.r3
  have hrl8 : r.rows.length ≤ 8 := by rw [← hro]; exact goodR_len hcI.good
  have hr0o : r0Of p l = x0 := by rw [r0Of, hco, hro, hxs]; rfl
  have hpw : shlI 1 n = ((2 ^ n : Nat) : Int) := shl1 n (by omega)
  have hn0 : (0 : Int) ≤ (n : Int) := by omega
  have hOk : lnOk p l = (decide (1 ≤ l.mask) && decide (l.mask < ((2 ^ n : Nat) : Int)) && !r.rows.any fun x => sdB l.mask x != sdB l.mask x0) := by
    rw [lnOk, hco, hro, hr0o, decide_eq_true hc0, decide_eq_true hcl', hn, Int.toNat_natCast]
    simp
  have hmk : 1 ≤ l.mask → l.mask < ((2 ^ n : Nat) : Int) → InN 3 l.mask := fun a b => by
    have : 2 ^ n ≤ 2 ^ 3 := Nat.pow_le_pow_right (by decide) hn3
    exact ⟨l.mask.toNat, by omega, by omega⟩
  simp -dsimp [h1, h2, hc0, hcl, hcl', ← hc, hr0, hrl, hrl', ← hr, hn]
  refine wk_draw 12 [11] mixed (by kernel_rfl) ?_
  simp -dsimp [h1, h2, hc0, hcl, hcl', ← hc, hr0, hrl, hrl', ← hr, hn]
  refine wk_draw 9 [] mixed (by kernel_rfl) ?_
  simp -dsimp [hn0, hpw, hn]
  generalize hN : 2 ^ n = N at *
  by_cases h3 : l.mask < 1
  · have hT := hbad (by rw [hOk, decide_eq_false (by omega : ¬ 1 ≤ l.mask)]; simp)
    simp -dsimp [h3]
    refine retT_c ?_
    simp -dsimp [hT]
  by_cases h4 : shlI 1 n ≤ l.mask
  · have hT := hbad (by rw [hOk, decide_eq_false (by omega : ¬ l.mask < (N : Int))]; simp)
    simp -dsimp [h3, h4]
    refine retT_c ?_
    simp -dsimp [hT]
  have hm3 := hmk (by omega) (by omega)
  rw [decide_eq_true (by omega : 1 ≤ l.mask), decide_eq_true (by omega : l.mask < (N : Int)), Bool.true_and, Bool.true_and] at hOk
  have h0I := hrI x0 (by rw [hxs]; simp)
  have h0l : 0 < r.rows.length := by rw [hxs]; simp
  have h0g : r.rows[0] = x0 := by simp [hxs]
  have hS : lnS p l = sdB l.mask x0 := by rw [lnS, hr0o]
  simp -dsimp [h3, h4]
  refine wk_draw 6 [] mixed (by kernel_rfl) ?_
  simp -dsimp [h0l, h0g]
  first
    | refine CallG.by (parity_spec (andI x0 l.mask) (inN_and (by omega) h0I hm3)) ?_
    | refine CallGE.by (parity_spec (andI x0 l.mask) (inN_and (by omega) h0I hm3)) ?_
    | refine CallGB.by (parity_spec (andI x0 l.mask) (inN_and (by omega) h0I hm3)) ?_
  simp -dsimp
  refine wk_loop (fun i : Nat => ⟨[(54, pI i), (53, pI r.rows.length), (52, .t .ro (eIs r.rows)), (7, pI (eb (sdB l.mask x0))), (3, .ptr 3 0)], [(3, .blk 126 [.t .ro (eI l.cons), .t .ro (eI l.mask)])]⟩)
    (fun i => i ≤ r.rows.length ∧ (r.rows.any fun x => sdB l.mask x != sdB l.mask x0) = (r.rows.drop i).any fun x => sdB l.mask x != sdB l.mask x0) (fun i => r.rows.length - i) 0 (le_of (by simp [sdB]) (by simp)) ⟨by simp, rfl⟩ fun i ⟨hi, hJ⟩ => ?_
  simp -dsimp
  refine condX_dec (fun h => ?_) (fun h => ?_)
  rotate_left
  · have e : i = r.rows.length := by omega
    subst e
    rw [List.drop_length] at hJ
    have hT : sideT p l = .tup [eI (eb (sdB l.mask x0)), eB true] := by rw [sideT, hOk, hJ, hS]; rfl
    simp -dsimp
    refine retT_c ?_
    simp -dsimp [hT]
  have hw := wr (n := (i : Int) + 1) (by omega) (by omega)
  rw [List.drop_eq_getElem_cons h, List.any_cons] at hJ
  have hxI := hrI _ (List.getElem_mem h)
  simp -dsimp [h]
  first
    | refine CallG.by (parity_spec (andI r.rows[i] l.mask) (inN_and (by omega) hxI hm3)) ?_
    | refine CallGE.by (parity_spec (andI r.rows[i] l.mask) (inN_and (by omega) hxI hm3)) ?_
    | refine CallGB.by (parity_spec (andI r.rows[i] l.mask) (inN_and (by omega) hxI hm3)) ?_
  rw [← sdB]
  cases hne : sdB l.mask r.rows[i] != sdB l.mask x0 with
  | true =>
    rw [hne, Bool.true_or] at hJ
    have hT := hbad (by rw [hOk, hJ]; rfl)
    simp -dsimp [eb_ne, hne]
    refine retT_c ?_
    simp -dsimp [hT]
  | false =>
    rw [hne, Bool.false_or] at hJ
    simp -dsimp [eb_ne, hne, hw]
    exact LoopP_next (i + 1) (le_of (by simp) (by simp)) ⟨h, hJ⟩ (by omega)
theorem rtimes_spec (p : Pz) (l : Ln) (hg : goodP p = true) (hc0 : 0 ≤ l.cons) (hcl' : l.cons < (p.cons.length : Int)) : PCall Try.prog 93 [ePz p, eLn l] (pI (lnV p l)) [] := by
  refine pcall_wp _ Try.func93 rfl (by kernel_rfl) rfl ?_
  have hcl : l.cons.toNat < p.cons.length := by omega
  have hco : conOf p l = p.cons[l.cons.toNat] := by rw [conOf]; exact getD_mem hcl
  obtain ⟨c, hc⟩ : ∃ c, c = p.cons[l.cons.toNat] := ⟨_, rfl⟩
  have hcm : c ∈ p.cons := by rw [hc]; exact List.getElem_mem hcl
  rw [← hc] at hco
  have hcI := consI hg hcm
  have hln := hcI.len
  have hVd : lnV p l = lineV l.mask c.vars 0 0 := by rw [lnV, hco]
  simp -dsimp [hc0, hcl, hcl', ← hc]
  refine wk_loop (fun q : Nat × Int => ⟨[(16, pI q.1), (15, pI c.vars.length), (14, .t .ro (eIs c.vars)), (5, pI q.2), (3, .ptr 3 0)], [(3, .blk 126 [.t .ro (eI l.cons), .t .ro (eI l.mask)])]⟩)
    (fun q => q.1 ≤ c.vars.length ∧ lineV l.mask c.vars 0 0 = lineV l.mask (c.vars.drop q.1) q.1 q.2) (fun q => c.vars.length - q.1) (0, 0) (le_of (by simp) (by simp)) ⟨by simp, rfl⟩ fun ⟨i, v⟩ ⟨hi, hJ⟩ => ?_
  dsimp only at hi hJ
  simp -dsimp
  refine condX_dec (fun h => ?_) (fun h => ?_)
  rotate_left
  · have e : i = c.vars.length := by omega
    subst e
    rw [List.drop_length, lineV] at hJ
    rw [hJ] at hVd
    simp -dsimp
    refine retP_c ?_
    simp -dsimp [hVd]
  have hw := wr (n := (i : Int) + 1) (by omega) (by omega)
  have hi0 : (0 : Int) ≤ (i : Int) := by omega
  have hvi := hcI.var _ (List.getElem_mem h)
  have hv0 := hvi.1
  rw [List.drop_eq_getElem_cons h] at hJ
  simp -dsimp [h, hi0, hv0, hw]
  exact LoopP_next (i + 1, xorI v (shlI (andI (shrI l.mask i) 1) c.vars[i].toNat)) (le_of (by simp) (by simp)) ⟨h, hJ⟩ (by simp only; omega)
end Go.Proofs.Ytmneioafbkknhaa
/- PB52: lines, own, CheckOdd, IsOdd. -/
namespace Go.Proofs.Ytmneioafbkknhaa
open Go Go.PS
attribute [-simp] List.map_take
theorem take_snoc {α : Type} (l : List α) {i : Nat} (h : i < l.length) : l.take (i + 1) = l.take i ++ [l[i]] := by
  rw [List.take_add_one, List.getElem?_eq_getElem h]
  rfl
theorem lines_spec (l : List Ln) : PCall Try.prog 53 [eLns l] (.t .ro (eLns (l.take 42))) [] := by
  refine pcall_sl 0 rfl call53 fun hlen => ?_
  simp only [List.length_map] at hlen
  refine pcall_wpT Try.func53 rfl (by kernel_rfl) ?_
  simp -dsimp
  refine lg_adoptT 3 3 123 2 (by simp; rfl) (by simp) ?_
  refine wk_loop (fun i : Nat => ⟨[(8, pI i), (7, pI l.length), (6, .t .ro (eLns l)), (3, .osl 3)], [(3, .row 123 2 .fz (((l.take 42).take i).map cLn))]⟩) (fun i => i ≤ l.length) (fun i => l.length - i) 0 (le_of (by simp) (by simp)) (by simp) fun i hi => ?_
  simp -dsimp
  refine condX_dec (fun h => ?_) (fun h => ?_)
  rotate_left
  · have e : i = l.length := by omega
    have ht : (l.take 42).take i = l.take 42 := List.take_of_length_le (by simp; omega)
    rw [ht]
    simp -dsimp
    refine retT_c ?_
    simp -dsimp
  have hw := wr (n := (i : Int) + 1) (by omega) (by omega)
  simp -dsimp [h]
  refine condX_dec (fun c7 => ?_) (fun c7 => ?_)
  · have hlt : i < (l.take 42).length := by simp; omega
    have hb : (min i (min 42 l.length) + 1) * 16 ≤ 140737488355328 := by omega
    have hg : (l.take 42)[i] = l[i] := by simp
    simp -dsimp [c7, hb, hw]
    refine LoopP_next (i + 1) (le_of (by simp) (by simp [take_snoc _ hlt, hg])) h (by omega)
  · have ht : (l.take 42).take (i + 1) = (l.take 42).take i := by
      rw [List.take_take, List.take_take]
      congr 1
      omega
    simp -dsimp [c7, hw]
    refine LoopP_next (i + 1) (le_of (by simp) (by simp [ht])) h (by omega)
theorem own_spec (l : List Ln) (hl40 : l.length ≤ 40) : PCall Try.prog 56 [eLns l] (.t .ro (eLns l)) [] := by
  refine pcall_sl 0 rfl call56 fun hlen => ?_
  simp only [List.length_map] at hlen
  refine pcall_wpT Try.func56 rfl (by kernel_rfl) ?_
  simp -dsimp
  refine lg_adoptT 3 3 126 2 (by simp; rfl) (by simp) ?_
  refine wk_loop (fun i : Nat => ⟨[(8, pI i), (7, pI l.length), (6, .t .ro (eLns l)), (3, .osl 3)], [(3, .row 126 2 .fz ((l.take i).map cLn))]⟩) (fun i => i ≤ l.length) (fun i => l.length - i) 0 (le_of (by simp) (by simp)) (by simp) fun i hi => ?_
  simp -dsimp
  refine condX_dec (fun h => ?_) (fun h => ?_)
  rotate_left
  · have e : i = l.length := by omega
    have ht : l.take i = l := List.take_of_length_le (by omega)
    rw [ht]
    simp -dsimp
    refine retT_c ?_
    simp -dsimp
  have hw := wr (n := (i : Int) + 1) (by omega) (by omega)
  have hb : (min i l.length + 1) * 16 ≤ 140737488355328 := by omega
  have hsn : List.map cLn (List.take i l) ++ [[TL.v (Value.int IntKind.i64 l[i].cons), TL.v (Value.int IntKind.i64 l[i].mask)]] = List.map cLn (List.take (i + 1) l) := by
    rw [take_snoc _ h, List.map_append]
    rfl
  simp -dsimp [h, hb, hw]
  refine LoopP_next (i + 1) (le_of (by simp) (by simp [hsn])) h (by omega)
theorem xor_eb (a b : Bool) : xorI (eb a) (eb b) = eb (a ^^ b) := by cases a <;> cases b <;> decide
theorem eb_one (a : Bool) : (eb a == 1) = a := by cases a <;> rfl
def sumF (p : Pz) : List Ln → Int → Bool → Option (Int × Bool)
  | [], v, s => some (v, s)
  | l :: ls, v, s => if lnOk p l then sumF p ls (xorI v (lnV p l)) (s ^^ lnS p l) else none
def endF (o : Option (Int × Bool)) : Bool := match o with
  | some (v, s) => v == 0 && s
  | none => false
/-- Is it an odd proof? -/
def oddF (p : Pz) (l : List Ln) : Bool := decide (l.length ≤ 40) && endF (sumF p l 0 false)
theorem checkOdd_bad (p : Pz) (l : List Ln) (hg : goodP p = false) : PCall Try.prog 52 [ePz p, eLns l] (.t .fz (.tup [eB false, eI 2])) [] := by
  refine pcall_wp _ Try.func52 rfl (by kernel_rfl) rfl ?_
  simp -dsimp
  first
    | refine CallG.by (pvalid_spec p) ?_
    | refine CallGE.by (pvalid_spec p) ?_
    | refine CallGB.by (pvalid_spec p) ?_
  simp -dsimp [hg]
  refine retP_c ?_
  simp -dsimp
theorem checkOdd_spec (p : Pz) (l : List Ln) (hg : goodP p = true) : PCall Try.prog 52 [ePz p, eLns l] (.t .fz (.tup [eB (oddF p l), eI 0])) [] := by
  refine pcall_wp _ Try.func52 rfl (by kernel_rfl) rfl ?_
  simp -dsimp
  first
    | refine CallG.by (pvalid_spec p) ?_
    | refine CallGE.by (pvalid_spec p) ?_
    | refine CallGB.by (pvalid_spec p) ?_
  simp -dsimp [hg]
  refine condX_dec (fun h => ?_) (fun h => ?_)
  · have hF : oddF p l = false := by rw [oddF, decide_eq_false (by omega)]; rfl
    simp -dsimp [h]
    refine retP_c ?_
    simp -dsimp [hF]
  have hF : oddF p l = endF (sumF p l 0 false) := by rw [oddF, decide_eq_true (by omega), Bool.true_and]
  simp -dsimp [h]
  refine wk_loop (fun q : Nat × Int × Bool => ⟨[(20, pI q.1), (19, pI l.length), (18, .t .ro (eLns l)), (6, pI q.2.1), (7, pI (eb q.2.2)), (2, .ptr 2 0)], [(2, .blk 32 [.t .ro (eI p.vars), .t .ro (eRls p.rels), .t .ro (eCns p.cons)])]⟩)
    (fun q => q.1 ≤ l.length ∧ oddF p l = endF (sumF p (l.drop q.1) q.2.1 q.2.2)) (fun q => l.length - q.1) (0, 0, false) (le_of (by simp [eb]) (by simp)) ⟨by simp, by simpa using hF⟩ fun ⟨i, v, s⟩ ⟨hi, hJ⟩ => ?_
  dsimp only at hi hJ
  simp -dsimp
  refine condX_dec (fun hl => ?_) (fun hl => ?_)
  rotate_left
  · have e : i = l.length := by omega
    subst e
    rw [List.drop_length, sumF, endF] at hJ
    cases hv : v == 0 with
    | true =>
      rw [hv, Bool.true_and] at hJ
      simp -dsimp [hv, eb_one]
      refine retP_c ?_
      simp -dsimp [hJ]
    | false =>
      rw [hv, Bool.false_and] at hJ
      simp -dsimp [hv, eb_one]
      refine retP_c ?_
      simp -dsimp [hJ]
  have hw := wr (n := (i : Int) + 1) (by omega) (by omega)
  rw [List.drop_eq_getElem_cons hl, sumF] at hJ
  simp -dsimp [hl]
  first
    | refine CallG.by (line_spec p l[i] hg) ?_
    | refine CallGE.by (line_spec p l[i] hg) ?_
    | refine CallGB.by (line_spec p l[i] hg) ?_
  cases hok : lnOk p l[i] with
  | false =>
    rw [hok, if_neg (by simp), endF] at hJ
    rw [lineT, hok, if_neg (by simp)]
    simp -dsimp
    refine retP_c ?_
    simp -dsimp [hJ]
  | true =>
    rw [hok, if_pos rfl] at hJ
    rw [lineT, hok, if_pos rfl]
    simp -dsimp [xor_eb, hw]
    exact LoopP_next (i + 1, xorI v (lnV p l[i]), s ^^ lnS p l[i]) (le_of (by simp) (by simp)) ⟨hl, hJ⟩ (by simp only; omega)
theorem isOdd_spec (p : Pz) (l : List Ln) (hg : goodP p = true) : PCall Try.prog 54 [ePz p, eLns l] (pB (oddF p l)) [] := by
  refine pcall_sl 1 rfl call54 fun hlen => ?_
  simp only [List.length_map] at hlen
  refine pcall_wp _ Try.func54 rfl (by kernel_rfl) rfl ?_
  simp -dsimp
  refine wk_loop (fun q : Nat × Int × Bool => ⟨[(13, pI q.1), (12, pI l.length), (11, .t .ro (eLns l)), (1, .t .ro (eLns l)), (5, pI q.2.1), (6, pI (eb q.2.2)), (2, .ptr 2 0)], [(2, .blk 25 [.t .ro (eI p.vars), .t .ro (eRls p.rels), .t .ro (eCns p.cons)])]⟩)
    (fun q => q.1 ≤ l.length ∧ sumF p l 0 false = sumF p (l.drop q.1) q.2.1 q.2.2) (fun q => l.length - q.1) (0, 0, false) (le_of (by simp [eb]) (by simp)) ⟨by simp, by simp⟩ fun ⟨i, v, s⟩ ⟨hi, hJ⟩ => ?_
  dsimp only at hi hJ
  simp -dsimp
  refine condX_dec (fun hl => ?_) (fun hl => ?_)
  rotate_left
  · have e : i = l.length := by omega
    subst e
    rw [List.drop_length, sumF] at hJ
    have hF : oddF p l = (decide (l.length ≤ 40) && (v == 0 && s)) := by rw [oddF, hJ]; rfl
    simp -dsimp
    refine condX_dec (fun h4 => ?_) (fun h4 => ?_)
    · rw [decide_eq_true (by omega), Bool.true_and] at hF
      simp -dsimp [h4]
      refine condX_of (fun hv => ?_) (fun hv => ?_)
      · rw [hv, Bool.true_and] at hF
        simp -dsimp [hv, eb_one]
        refine retP_c ?_
        simp -dsimp [hF]
      · rw [hv, Bool.false_and] at hF
        simp -dsimp [hv, eb_one]
        refine retP_c ?_
        simp -dsimp [hF]
    · rw [decide_eq_false (by omega), Bool.false_and] at hF
      simp -dsimp [h4]
      refine retP_c ?_
      simp -dsimp [hF]
  have hw := wr (n := (i : Int) + 1) (by omega) (by omega)
  rw [List.drop_eq_getElem_cons hl, sumF] at hJ
  simp -dsimp [hl]
  first
    | refine CallG.by (rside_spec p l[i] hg) ?_
    | refine CallGE.by (rside_spec p l[i] hg) ?_
    | refine CallGB.by (rside_spec p l[i] hg) ?_
  cases hok : lnOk p l[i] with
  | false =>
    rw [hok, if_neg (by simp)] at hJ
    have hF : oddF p l = false := by rw [oddF, hJ, endF, Bool.and_false]
    rw [sideT, hok, if_neg (by simp)]
    simp -dsimp
    refine retP_c ?_
    simp -dsimp [hF]
  | true =>
    have hk := hok
    simp only [lnOk, Bool.and_eq_true, decide_eq_true_eq] at hk
    rw [hok, if_pos rfl] at hJ
    rw [sideT, hok, if_pos rfl]
    simp -dsimp
    first
      | refine CallG.by (rtimes_spec p l[i] hg hk.1.1.1.1 hk.1.1.1.2) ?_
      | refine CallGE.by (rtimes_spec p l[i] hg hk.1.1.1.1 hk.1.1.1.2) ?_
      | refine CallGB.by (rtimes_spec p l[i] hg hk.1.1.1.1 hk.1.1.1.2) ?_
    simp -dsimp [xor_eb, hw]
    exact LoopP_next (i + 1, xorI v (lnV p l[i]), s ^^ lnS p l[i]) (le_of (by simp) (by simp)) ⟨hl, hJ⟩ (by simp only; omega)
end Go.Proofs.Ytmneioafbkknhaa
/- PB53: sums modulo 2: what lines span, and what solves them. -/
namespace Go.Proofs.Ytmneioafbkknhaa
open Go Go.PS
abbrev V2 := Nat × Bool
def vx (a b : V2) : V2 := (a.1 ^^^ b.1, a.2 ^^ b.2)
theorem vx_comm (a b : V2) : vx a b = vx b a := by simp [vx, Nat.xor_comm, Bool.xor_comm]
theorem vx_assoc (a b c : V2) : vx (vx a b) c = vx a (vx b c) := by simp [vx, Nat.xor_assoc]
theorem vx_zero (a : V2) : vx a (0, false) = a := by simp [vx]
theorem vx_self (a : V2) : vx a a = (0, false) := by simp [vx]
inductive Spn (L : List V2) : V2 → Prop
  | zero : Spn L (0, false)
  | add {x y : V2} (h : Spn L x) (hy : y ∈ L) : Spn L (vx x y)
theorem Spn.of_mem {L : List V2} {y : V2} (h : y ∈ L) : Spn L y := by
  have := Spn.add Spn.zero h
  rwa [vx_comm, vx_zero] at this
theorem Spn.vx {L : List V2} {x y : V2} (hx : Spn L x) (hy : Spn L y) : Spn L (vx x y) := by
  induction hy with
  | zero => rwa [vx_zero]
  | add h hm ih =>
    rw [← vx_assoc]
    exact .add ih hm
theorem Spn.mono {L L' : List V2} (h : ∀ y ∈ L, Spn L' y) {x : V2} (hx : Spn L x) : Spn L' x := by
  induction hx with
  | zero => exact .zero
  | add _ hm ih => exact ih.vx (h _ hm)
/-- The sum of the bits that two sets have in common. -/
def dotK : Nat → Nat → Nat → Bool
  | 0, _, _ => false
  | k + 1, s, v => dotK k s v ^^ (s.testBit k && v.testBit k)
theorem dot_xor (s : Nat) (v v' : Nat) : ∀ k, dotK k s (v ^^^ v') = (dotK k s v ^^ dotK k s v')
  | 0 => rfl
  | k + 1 => by
    rw [dotK, dotK, dotK, dot_xor s v v' k, Nat.testBit_xor]
    cases dotK k s v <;> cases dotK k s v' <;> cases s.testBit k <;> cases v.testBit k <;> cases v'.testBit k <;> rfl
theorem dot_comm (s v : Nat) : ∀ k, dotK k s v = dotK k v s
  | 0 => rfl
  | k + 1 => by
    rw [dotK, dotK, dot_comm s v k, Bool.and_comm]
theorem dot_zero (s : Nat) : ∀ k, dotK k s 0 = false
  | 0 => rfl
  | k + 1 => by
    rw [dotK, dot_zero s k]
    simp
theorem dot_pow (v t : Nat) : ∀ k, dotK k (2 ^ t) v = (decide (t < k) && v.testBit t)
  | 0 => by simp [dotK]
  | k + 1 => by
    rw [dotK, dot_pow v t k, Nat.testBit_two_pow]
    by_cases e : t = k
    · subst e
      simp
    · by_cases h : t < k
      · have h2 : t < k + 1 := by omega
        simp [e, h, h2]
      · have h2 : ¬ t < k + 1 := by omega
        simp [e, h, h2]
def Sat (s : Nat) (L : List V2) : Prop := ∀ y ∈ L, dotK 8 s y.1 = y.2
theorem Sat.spn {s : Nat} {L : List V2} (h : Sat s L) {x : V2} (hx : Spn L x) : dotK 8 s x.1 = x.2 := by
  induction hx with
  | zero => exact dot_zero s 8
  | add _ hm ih => rw [Go.Proofs.Ytmneioafbkknhaa.vx, dot_xor, ih, h _ hm]
theorem Sat.not {s : Nat} {L : List V2} (h : Sat s L) : ¬ Spn L (0, true) := fun hx => by
  have := h.spn hx
  rw [dot_zero] at this
  cases this
/-- Sums with greatest variables that fall. -/
def Desc : List V2 → Prop
  | [] => True
  | b :: B => b.1 ≠ 0 ∧ (∀ y ∈ B, y.1 < 2 ^ b.1.log2) ∧ Desc B
theorem desc_solve (n : Nat) (hn : n ≤ 8) : ∀ B : List V2, Desc B → (∀ y ∈ B, y.1 < 2 ^ n) → ∃ s, s < 2 ^ n ∧ Sat s B
  | [], _, _ => ⟨0, Nat.pow_pos (by decide), fun y hy => by cases hy⟩
  | b :: B, ⟨h0, h1, h2⟩, hn2 => by
    obtain ⟨s, hs, hS⟩ := desc_solve n hn B h2 fun y hy => hn2 y (by simp [hy])
    have hb := hn2 b (by simp)
    have ht : b.1.log2 < n := (Nat.log2_lt h0).2 hb
    have htb := Nat.testBit_log2 h0
    by_cases e : dotK 8 s b.1 = b.2
    · refine ⟨s, hs, fun y hy => ?_⟩
      rcases List.mem_cons.1 hy with rfl | hy
      · exact e
      · exact hS y hy
    · refine ⟨s ^^^ 2 ^ b.1.log2, Nat.xor_lt_two_pow hs (Nat.pow_lt_pow_right (by decide) ht), fun y hy => ?_⟩
      rw [dot_comm, dot_xor, dot_comm y.1 s, dot_comm y.1 (2 ^ b.1.log2), dot_pow, decide_eq_true (by omega : b.1.log2 < 8), Bool.true_and]
      rcases List.mem_cons.1 hy with rfl | hy
      · rw [htb]
        revert e
        cases dotK 8 s y.1 <;> cases y.2 <;> simp
      · rw [hS y hy, Nat.testBit_lt_two_pow (h1 y hy)]
        simp
theorem desc_len : ∀ (B : List V2) (k : Nat), Desc B → (∀ y ∈ B, y.1 < 2 ^ k) → B.length ≤ k
  | [], _, _, _ => by simp
  | b :: B, k, ⟨h0, h1, h2⟩, hk => by
    have := desc_len B b.1.log2 h2 h1
    have ht : b.1.log2 < k := (Nat.log2_lt h0).2 (hk b (by simp))
    simp only [List.length_cons]
    omega
theorem xor_lt {x b : Nat} (hb : b ≠ 0) : x ^^^ b < x ↔ x.testBit b.log2 = true := by
  obtain ⟨t, ht⟩ : ∃ t, t = b.log2 := ⟨_, rfl⟩
  have h1 : b < 2 ^ (t + 1) := by rw [ht]; exact Nat.lt_log2_self
  have h2 : b.testBit t = true := by rw [ht]; exact Nat.testBit_log2 hb
  rw [← ht]
  have hp : 0 < 2 ^ (t + 1) := Nat.pow_pos (by decide)
  have hdiv : (x ^^^ b) / 2 ^ (t + 1) = x / 2 ^ (t + 1) := by
    apply Nat.eq_of_testBit_eq
    intro i
    rw [Nat.testBit_div_two_pow, Nat.testBit_div_two_pow, Nat.testBit_xor, Nat.testBit_lt_two_pow (x := b) (Nat.lt_of_lt_of_le h1 (Nat.pow_le_pow_right (by decide) (by omega)))]
    simp
  have e1 := Nat.div_add_mod x (2 ^ (t + 1))
  have e2 := Nat.div_add_mod (x ^^^ b) (2 ^ (t + 1))
  rw [hdiv] at e2
  have m1 : (x % 2 ^ (t + 1)).testBit t = x.testBit t := by rw [Nat.testBit_mod_two_pow]; simp
  have m2 : ((x ^^^ b) % 2 ^ (t + 1)).testBit t = !x.testBit t := by
    rw [Nat.testBit_mod_two_pow, Nat.testBit_xor, h2]
    simp
  have l1 := Nat.mod_lt x hp
  have l2 := Nat.mod_lt (x ^^^ b) hp
  generalize x % 2 ^ (t + 1) = r at *
  generalize (x ^^^ b) % 2 ^ (t + 1) = r' at *
  have low : ∀ r : Nat, r < 2 ^ (t + 1) → r.testBit t = false → r < 2 ^ t := fun r hr hb => Nat.lt_pow_two_of_testBit r fun i hi => by
    by_cases e : i = t
    · rw [e]
      exact hb
    · exact Nat.testBit_lt_two_pow (Nat.lt_of_lt_of_le hr (Nat.pow_le_pow_right (by decide) (by omega)))
  cases hx : x.testBit t with
  | true =>
    rw [hx] at m1 m2
    have a1 := Nat.ge_two_pow_of_testBit m1
    have a2 := low r' l2 (by rw [m2]; rfl)
    simp only [iff_true]
    omega
  | false =>
    rw [hx] at m1 m2
    have a1 := Nat.ge_two_pow_of_testBit (x := r') (i := t) (by rw [m2]; rfl)
    have a2 := low r l1 m1
    simp only [Bool.false_eq_true, iff_false]
    omega
/-- A sum, less those before. -/
def red (B : List V2) (x : V2) : V2 := B.foldl (fun x b => if x.1 ^^^ b.1 < x.1 then vx x b else x) x
theorem red_spn : ∀ (B : List V2) (x : V2), Spn B (vx x (red B x))
  | [], x => by
    rw [red, List.foldl_nil, vx_self]
    exact .zero
  | b :: B, x => by
    have mono : ∀ {z}, Spn B z → Spn (b :: B) z := fun h => h.mono fun y hy => .of_mem (by simp [hy])
    show Spn _ (vx x (red B (if x.1 ^^^ b.1 < x.1 then vx x b else x)))
    by_cases h : x.1 ^^^ b.1 < x.1
    · rw [if_pos h]
      have h1 := mono (red_spn B (vx x b))
      have h2 := h1.vx (.of_mem (List.mem_cons_self ..) : Spn (b :: B) b)
      have e : vx (vx (vx x b) (red B (vx x b))) b = vx x (red B (vx x b)) := by
        generalize red B (vx x b) = r
        rw [vx_comm (vx (vx x b) r) b, ← vx_assoc, vx_comm x b, ← vx_assoc, vx_self, vx_comm _ x, vx_zero]
      rwa [e] at h2
    · rw [if_neg h]
      exact mono (red_spn B x)
theorem red_keep : ∀ (B : List V2) (x : V2) (t : Nat), (∀ y ∈ B, y.1 < 2 ^ t) → (red B x).1.testBit t = x.1.testBit t
  | [], x, t, _ => rfl
  | b :: B, x, t, h => by
    show (red B (if x.1 ^^^ b.1 < x.1 then vx x b else x)).1.testBit t = _
    rw [red_keep B _ t fun y hy => h y (by simp [hy])]
    split
    · rw [vx, Nat.testBit_xor, Nat.testBit_lt_two_pow (h b (by simp))]
      simp
    · rfl
theorem red_bit : ∀ (B : List V2) (x : V2), Desc B → ∀ b ∈ B, (red B x).1.testBit b.1.log2 = false
  | [], _, _, b, hb => by cases hb
  | c :: B, x, ⟨h0, h1, h2⟩, b, hb => by
    rcases List.mem_cons.1 hb with rfl | hb
    · show (red B (if x.1 ^^^ b.1 < x.1 then vx x b else x)).1.testBit _ = _
      rw [red_keep B _ _ h1]
      have htb := Nat.testBit_log2 h0
      by_cases h : x.1 ^^^ b.1 < x.1
      · rw [if_pos h, vx, Nat.testBit_xor, (xor_lt h0).1 h, htb]
        rfl
      · rw [if_neg h]
        cases hx : x.1.testBit b.1.log2 with
        | false => rfl
        | true => exact absurd ((xor_lt h0).2 hx) h
    · exact red_bit B _ h2 b hb
theorem red_lt (n : Nat) : ∀ (B : List V2) (x : V2), (∀ y ∈ B, y.1 < 2 ^ n) → x.1 < 2 ^ n → (red B x).1 < 2 ^ n
  | [], x, _, h => h
  | b :: B, x, hB, h => by
    show (red B (if x.1 ^^^ b.1 < x.1 then vx x b else x)).1 < _
    refine red_lt n B _ (fun y hy => hB y (by simp [hy])) ?_
    split
    · exact Nat.xor_lt_two_pow h (hB b (by simp))
    · exact h
/-- Pivots apart. -/
def Piv (B : List V2) : Prop := (∀ y ∈ B, y.1 ≠ 0) ∧ B.Pairwise fun a b => a.1.log2 ≠ b.1.log2
theorem Desc.piv : ∀ {B : List V2}, Desc B → Piv B
  | [], _ => ⟨fun y hy => (by cases hy), .nil⟩
  | b :: B, ⟨h0, h1, h2⟩ => by
    obtain ⟨p1, p2⟩ := Desc.piv h2
    refine ⟨fun y hy => ?_, .cons (fun y hy e => ?_) p2⟩
    · rcases List.mem_cons.1 hy with rfl | hy
      · exact h0
      · exact p1 y hy
    · have := h1 y hy
      have := (Nat.log2_lt (p1 y hy)).2 this
      omega
theorem Piv.snoc {B : List V2} (h : Desc B) {r : V2} (hr : r.1 ≠ 0) (hb : ∀ b ∈ B, r.1.testBit b.1.log2 = false) : Piv (B ++ [r]) := by
  obtain ⟨p1, p2⟩ := h.piv
  refine ⟨fun y hy => ?_, List.pairwise_append.2 ⟨p2, .cons (fun _ h => by cases h) .nil, fun a ha b hb' e => ?_⟩⟩
  · rcases List.mem_append.1 hy with hy | hy
    · exact p1 y hy
    · rw [List.mem_singleton.1 hy]
      exact hr
  · rw [List.mem_singleton.1 hb'] at e
    have := hb a ha
    rw [e, Nat.testBit_log2 hr] at this
    cases this
theorem Piv.perm {B B' : List V2} (h : Piv B) (hp : B.Perm B') : Piv B' :=
  ⟨fun y hy => h.1 y (hp.mem_iff.2 hy), h.2.perm hp fun h => Ne.symm h⟩
theorem Piv.desc : ∀ {B : List V2}, Piv B → B.Pairwise (fun a b => b.1 ≤ a.1) → Desc B
  | [], _, _ => trivial
  | b :: B, ⟨h0, h1⟩, hs => by
    rw [List.pairwise_cons] at h1 hs
    refine ⟨h0 b (by simp), fun y hy => ?_, Piv.desc ⟨fun y hy => h0 y (by simp [hy]), h1.2⟩ hs.2⟩
    have hy0 := h0 y (by simp [hy])
    have hb0 := h0 b (by simp)
    refine (Nat.log2_lt hy0).1 ?_
    have h2 : y.1.log2 < b.1.log2 + 1 := (Nat.log2_lt hy0).2 (Nat.lt_of_le_of_lt (hs.1 y hy) Nat.lt_log2_self)
    have h3 := h1.1 y hy
    omega
/-- The sum of some of a list. -/
def comb {α : Type} (f : α → V2) : List α → Nat → Nat → V2
  | [], _, _ => (0, false)
  | l :: ls, m, i => if m.testBit i then vx (f l) (comb f ls m (i + 1)) else comb f ls m (i + 1)
theorem comb_xor {α : Type} (f : α → V2) (m m' : Nat) : ∀ (L : List α) (i : Nat), comb f L (m ^^^ m') i = vx (comb f L m i) (comb f L m' i)
  | [], i => by simp [comb, vx]
  | l :: ls, i => by
    rw [comb, comb, comb, comb_xor f m m' ls (i + 1), Nat.testBit_xor]
    generalize comb f ls m (i + 1) = a
    generalize comb f ls m' (i + 1) = b
    cases m.testBit i <;> cases m'.testBit i
    · rfl
    · show vx (f l) (vx a b) = vx a (vx (f l) b)
      rw [← vx_assoc, vx_comm (f l) a, vx_assoc]
    · show vx (f l) (vx a b) = vx (vx (f l) a) b
      rw [vx_assoc]
    · show vx a b = vx (vx (f l) a) (vx (f l) b)
      rw [vx_comm (f l) a, vx_assoc, ← vx_assoc (f l) (f l) b, vx_self, vx_comm (0, false) b, vx_zero]
theorem comb_snoc {α : Type} (f : α → V2) (m : Nat) (l : α) : ∀ (L : List α) (i : Nat), comb f (L ++ [l]) m i = if m.testBit (i + L.length) then vx (comb f L m i) (f l) else comb f L m i
  | [], i => by
    show comb f [l] m i = _
    simp only [comb, List.length_nil, Nat.add_zero]
    split
    · rw [vx_comm]
    · rfl
  | k :: ks, i => by
    show comb f (k :: (ks ++ [l])) m i = _
    rw [comb, comb_snoc f m l ks (i + 1), comb]
    have e : i + 1 + ks.length = i + (k :: ks).length := by simp; omega
    rw [e]
    cases m.testBit (i + (k :: ks).length) <;> cases m.testBit i
    · rfl
    · rfl
    · rfl
    · show vx (f k) (vx _ (f l)) = vx (vx (f k) _) (f l)
      rw [vx_assoc]
/-- Those of a list that a set names. -/
def sel {α : Type} : List α → Nat → Nat → List α
  | [], _, _ => []
  | l :: ls, m, i => if m.testBit i then l :: sel ls m (i + 1) else sel ls m (i + 1)
theorem sel_snoc {α : Type} (m : Nat) (l : α) : ∀ (L : List α) (i : Nat), sel (L ++ [l]) m i = if m.testBit (i + L.length) then sel L m i ++ [l] else sel L m i
  | [], i => by simp [sel]
  | k :: ks, i => by
    show sel (k :: (ks ++ [l])) m i = _
    rw [sel, sel_snoc m l ks (i + 1), sel]
    have e : i + 1 + ks.length = i + (k :: ks).length := by simp; omega
    rw [e]
    cases m.testBit (i + (k :: ks).length) <;> cases m.testBit i <;> rfl
theorem sel_mem {α : Type} (m : Nat) {x : α} : ∀ (L : List α) (i : Nat), x ∈ sel L m i → x ∈ L
  | [], i, h => h
  | k :: ks, i, h => by
    rw [sel] at h
    split at h
    · rcases List.mem_cons.1 h with rfl | h
      · simp
      · exact List.mem_cons_of_mem _ (sel_mem m ks _ h)
    · exact List.mem_cons_of_mem _ (sel_mem m ks _ h)
theorem sel_len {α : Type} (m : Nat) : ∀ (L : List α) (i : Nat), (sel L m i).length ≤ L.length
  | [], i => Nat.le_refl _
  | k :: ks, i => by
    have := sel_len m ks (i + 1)
    rw [sel]
    split <;> simp only [List.length_cons] <;> omega
/-- How many numbers have a property: as many as of those turned by a sum. -/
theorem count_split (f : Nat → Bool) (n : Nat) : (List.range (2 ^ (n + 1))).countP f = (List.range (2 ^ n)).countP f + (List.range (2 ^ n)).countP fun x => f (x + 2 ^ n) := by
  have e : 2 ^ (n + 1) = 2 ^ n + 2 ^ n := by rw [Nat.pow_succ]; omega
  have hr : ∀ a b : Nat, List.range (a + b) = List.range a ++ (List.range b).map (· + a) := by
    intro a b
    induction b with
    | zero => simp
    | succ b ih =>
      rw [← Nat.add_assoc, List.range_succ, ih, List.range_succ, List.map_append, List.append_assoc]
      simp [Nat.add_comm]
  rw [e, hr, List.countP_append, List.countP_map]
  rfl
theorem add_pow {n : Nat} : ∀ y, y < 2 ^ n → y + 2 ^ n = y ^^^ 2 ^ n := fun y hy => by
  apply Nat.eq_of_testBit_eq
  intro i
  rw [Nat.add_comm, Nat.testBit_xor, Nat.testBit_two_pow]
  rcases Nat.lt_trichotomy i n with h | rfl | h
  · rw [Nat.testBit_two_pow_add_gt h, decide_eq_false (by omega), Bool.xor_false]
  · rw [Nat.testBit_two_pow_add_eq, Nat.testBit_lt_two_pow hy]
    simp
  · have h1 : 2 ^ n + y < 2 ^ i := by
      have : 2 ^ (n + 1) ≤ 2 ^ i := Nat.pow_le_pow_right (by decide) (by omega)
      rw [Nat.pow_succ] at this
      omega
    rw [Nat.testBit_lt_two_pow h1, Nat.testBit_lt_two_pow (by omega), decide_eq_false (by omega)]
    rfl
theorem xor_add {x d n : Nat} (hx : x < 2 ^ n) (hd : d < 2 ^ n) : (x + 2 ^ n) ^^^ d = (x ^^^ d) + 2 ^ n ∧ x ^^^ (d + 2 ^ n) = (x ^^^ d) + 2 ^ n ∧ (x + 2 ^ n) ^^^ (d + 2 ^ n) = x ^^^ d := by
  have hxd := Nat.xor_lt_two_pow hx hd
  rw [add_pow x hx, add_pow d hd, add_pow _ hxd]
  refine ⟨?_, ?_, ?_⟩
  · rw [Nat.xor_assoc, Nat.xor_comm (2 ^ n), ← Nat.xor_assoc]
  · rw [← Nat.xor_assoc]
  · rw [Nat.xor_assoc, ← Nat.xor_assoc (2 ^ n), Nat.xor_comm (2 ^ n) d, Nat.xor_assoc d, Nat.xor_self, Nat.xor_zero]
theorem count_xor : ∀ (n : Nat) (f : Nat → Bool) (d : Nat), d < 2 ^ n → (List.range (2 ^ n)).countP (fun x => f (x ^^^ d)) = (List.range (2 ^ n)).countP f
  | 0, f, d, hd => by
    have : d = 0 := by simpa using hd
    subst this
    simp
  | n + 1, f, d, hd => by
    rw [count_split, count_split]
    by_cases h : d < 2 ^ n
    · have e1 := count_xor n f d h
      have e2 := count_xor n (fun x => f (x + 2 ^ n)) d h
      rw [e1, ← e2]
      congr 1
      refine List.countP_congr fun x hx => ?_
      rw [(xor_add (List.mem_range.1 hx) h).1]
    · obtain ⟨d', rfl⟩ : ∃ d', d = d' + 2 ^ n := ⟨d - 2 ^ n, by omega⟩
      have hd' : d' < 2 ^ n := by rw [Nat.pow_succ] at hd; omega
      have e1 := count_xor n f d' hd'
      have e2 := count_xor n (fun x => f (x + 2 ^ n)) d' hd'
      rw [← e1, ← e2, Nat.add_comm]
      congr 1
      · refine List.countP_congr fun x hx => ?_
        have hx' := List.mem_range.1 hx
        rw [(xor_add hx' hd').2.2]
      · refine List.countP_congr fun x hx => ?_
        rw [(xor_add (List.mem_range.1 hx) hd').2.1]
end Go.Proofs.Ytmneioafbkknhaa
/- PB54: lines are linear equations. -/
namespace Go.Proofs.Ytmneioafbkknhaa
open Go Go.PS
attribute [-simp] List.map_take
/-- A set that sums of three stay in has a power of 2 elements, or none. -/
theorem xor3_pow : ∀ (n : Nat) (S : Nat → Bool), (∀ a b c, a < 2 ^ n → b < 2 ^ n → c < 2 ^ n → S a = true → S b = true → S c = true → S ((a ^^^ b) ^^^ c) = true) → (List.range (2 ^ n)).countP S = 0 ∨ ∃ j, j ≤ n ∧ (List.range (2 ^ n)).countP S = 2 ^ j
  | 0, S, _ => by
    simp only [Nat.pow_zero, List.range_one, List.countP_singleton]
    split
    · exact .inr ⟨0, by omega, rfl⟩
    · exact .inl rfl
  | n + 1, S, h => by
    have e2 : 2 ^ (n + 1) = 2 ^ n + 2 ^ n := by rw [Nat.pow_succ]; omega
    have h0 := xor3_pow n S fun a b c ha hb hc => h a b c (by omega) (by omega) (by omega)
    have h1 := xor3_pow n (fun x => S (x + 2 ^ n)) fun a b c ha hb hc sa sb sc => by
      have := h _ _ _ (by omega) (by omega) (by omega) sa sb sc
      rw [(xor_add ha hb).2.2, (xor_add (Nat.xor_lt_two_pow ha hb) hc).2.1] at this
      exact this
    rw [count_split]
    by_cases z0 : (List.range (2 ^ n)).countP S = 0
    · rw [z0, Nat.zero_add]
      rcases h1 with h1 | ⟨j, hj, h1⟩
      · exact .inl h1
      · exact .inr ⟨j, by omega, h1⟩
    by_cases z1 : ((List.range (2 ^ n)).countP fun x => S (x + 2 ^ n)) = 0
    · rw [z1, Nat.add_zero]
      rcases h0 with h0 | ⟨j, hj, h0⟩
      · exact .inl h0
      · exact .inr ⟨j, by omega, h0⟩
    obtain ⟨a, ha, sa⟩ : ∃ a, a < 2 ^ n ∧ S a = true := by
      have := List.countP_pos_iff.1 (Nat.pos_of_ne_zero z0)
      obtain ⟨a, ha, sa⟩ := this
      exact ⟨a, List.mem_range.1 ha, sa⟩
    obtain ⟨b, hb, sb⟩ : ∃ b, b < 2 ^ n ∧ S (b + 2 ^ n) = true := by
      have := List.countP_pos_iff.1 (Nat.pos_of_ne_zero z1)
      obtain ⟨b, hb, sb⟩ := this
      exact ⟨b, List.mem_range.1 hb, sb⟩
    have hab := Nat.xor_lt_two_pow ha hb
    have e : (List.range (2 ^ n)).countP S = (List.range (2 ^ n)).countP fun x => S (x + 2 ^ n) := by
      rw [← count_xor n (fun x => S (x + 2 ^ n)) (a ^^^ b) hab]
      refine List.countP_congr fun x hx => ?_
      have hx' := List.mem_range.1 hx
      constructor
      · intro sx
        have := h x a (b + 2 ^ n) (by omega) (by omega) (by omega) sx sa sb
        rw [(xor_add (Nat.xor_lt_two_pow hx' ha) hb).2.1, Nat.xor_assoc] at this
        exact this
      · intro sx
        have := h _ (b + 2 ^ n) a (by have := Nat.xor_lt_two_pow hx' hab; omega) (by omega) (by omega) sx sb sa
        rw [(xor_add (Nat.xor_lt_two_pow hx' hab) hb).2.2] at this
        have e : ((x ^^^ (a ^^^ b)) ^^^ b) ^^^ a = x := by
          rw [Nat.xor_assoc, Nat.xor_comm b a, Nat.xor_assoc, Nat.xor_self, Nat.xor_zero]
        rw [e] at this
        exact this
    rw [← e]
    rcases h0 with h0 | ⟨j, hj, h0⟩
    · exact absurd h0 z0
    · exact .inr ⟨j + 1, by omega, by rw [h0, Nat.pow_succ]; omega⟩
/-- The number of solutions, with the class of 5. -/
theorem sols_pow {p : Pz} (hg : goodP p = true) (hk : keepA p 5 = true) : (allS p).length = 0 ∨ ∃ j, j ≤ 8 ∧ (allS p).length = 2 ^ j := by
  have hv := vars_le hg
  have h12 : p.cons.length ≤ 12 := by
    simp only [goodP, Bool.and_eq_true, decide_eq_true_eq] at hg
    exact hg.1.1.2
  have e : (allS p).length = (List.range (2 ^ p.vars.toNat)).countP fun k : Nat => p.cons.all (holds p (k : Int)) := by
    rw [allS_full h12, ← List.countP_eq_length_filter, List.countP_map]
    rfl
  have hm : ∀ k : Nat, k < 2 ^ p.vars.toNat → (p.cons.all (holds p (k : Int)) = true ↔ (k : Int) ∈ allS p) := fun k hk => by
    rw [allS_full h12]
    simp only [List.mem_filter, List.mem_map, List.mem_range]
    constructor
    · exact fun h => ⟨⟨k, hk, rfl⟩, h⟩
    · exact fun h => h.2
  have hp8 : 2 ^ p.vars.toNat ≤ 2 ^ 8 := Nat.pow_le_pow_right (by decide) (by omega)
  rw [e]
  rcases xor3_pow p.vars.toNat (fun k => p.cons.all (holds p (k : Int))) (fun a b c ha hb hc sa sb sc => by
    rw [hm _ ha] at sa
    rw [hm _ hb] at sb
    rw [hm _ hc] at sc
    have hab := Nat.xor_lt_two_pow ha hb
    rw [hm _ (Nat.xor_lt_two_pow hab hc)]
    have := sols_closed hg (op := 5) (by omega) hk (l := [(a : Int), b, c]) rfl (by
      intro s hs
      simp at hs
      rcases hs with rfl | rfl | rfl
      · exact sa
      · exact sb
      · exact sc)
    have e : opF 5 p.vars [(a : Int), b, c] = (((a ^^^ b) ^^^ c : Nat) : Int) := by
      show xorI (xorI (a : Int) b) c = _
      rw [xorI_nat a b (by omega) (by omega), xorI_nat _ c (by omega) (by omega)]
    rw [e] at this
    exact this) with h | ⟨j, hj, h⟩
  · exact .inl h
  · exact .inr ⟨j, by omega, h⟩
/-- A line's sum. -/
def lvec (p : Pz) (l : Ln) : V2 := ((lnV p l).toNat, lnS p l)
def lineN (m : Nat) : List Int → Nat → Nat → Nat
  | [], _, out => out
  | v :: vs, i, out => lineN m vs (i + 1) (out ^^^ if m.testBit i then 2 ^ v.toNat else 0)
theorem lineN_lt (m n : Nat) : ∀ (vs : List Int) (i out : Nat), (∀ v ∈ vs, v.toNat < n) → out < 2 ^ n → lineN m vs i out < 2 ^ n
  | [], _, _, _, h => h
  | v :: vs, i, out, hv, h => by
    refine lineN_lt m n vs (i + 1) _ (fun u hu => hv u (by simp [hu])) (Nat.xor_lt_two_pow h ?_)
    split
    · exact Nat.pow_lt_pow_right (by decide) (hv v (by simp))
    · exact Nat.pow_pos (by decide)
theorem lineV_nat (m : Nat) (hm : m < 8) : ∀ (vs : List Int) (i out : Nat), i + vs.length ≤ 62 → (∀ v ∈ vs, v.toNat < 8) → out < 2 ^ 8 → lineV m vs i out = ((lineN m vs i out : Nat) : Int)
  | [], _, _, _, _, _ => rfl
  | v :: vs, i, out, hi, hv, h => by
    simp only [List.length_cons] at hi
    have h8 := hv v (by simp)
    have hp : 2 ^ v.toNat < 2 ^ 8 := Nat.pow_lt_pow_right (by decide) h8
    rw [lineV, lineN, and1 m (by omega) i (by omega)]
    cases hb : m.testBit i with
    | true =>
      rw [if_pos rfl, if_pos rfl, shl1 v.toNat (by omega), xorI_nat out _ (by omega) (by omega)]
      exact lineV_nat m hm vs (i + 1) _ (by omega) (fun u hu => hv u (by simp [hu])) (Nat.xor_lt_two_pow h hp)
    | false =>
      have e : shlI 0 v.toNat = 0 := by
        rw [shlI]
        simp
        try decide
      rw [if_neg (by simp), if_neg (by simp), e]
      have := xorI_nat out 0 (by omega) (by omega)
      rw [show ((0 : Nat) : Int) = 0 from rfl] at this
      rw [this]
      exact lineV_nat m hm vs (i + 1) _ (by omega) (fun u hu => hv u (by simp [hu])) (by simpa using h)
def parL (m s : Nat) : List Int → Nat → Bool
  | [], _ => false
  | v :: vs, i => (m.testBit i && s.testBit v.toNat) ^^ parL m s vs (i + 1)
theorem lineN_dot (m s : Nat) : ∀ (vs : List Int) (i out : Nat), (∀ v ∈ vs, v.toNat < 8) → dotK 8 s (lineN m vs i out) = (dotK 8 s out ^^ parL m s vs i)
  | [], _, _, _ => by simp [lineN, parL]
  | v :: vs, i, out, hv => by
    rw [lineN, lineN_dot m s vs (i + 1) _ fun u hu => hv u (by simp [hu]), dot_xor, parL]
    have h8 := hv v (by simp)
    have e : dotK 8 s (if m.testBit i then 2 ^ v.toNat else 0) = (m.testBit i && s.testBit v.toNat) := by
      cases m.testBit i with
      | true => rw [if_pos rfl, dot_comm, dot_pow, decide_eq_true h8]
      | false => rw [if_neg (by simp), dot_zero]; rfl
    rw [e, Bool.xor_assoc]
theorem par3_and {x y : Int} (hx : InN 3 x) (hy : InN 3 y) : par3 (andI x y) = (((bt x 0 && bt y 0) ^^ (bt x 1 && bt y 1)) ^^ (bt x 2 && bt y 2)) := by
  rw [par3, bt_and (by omega) hx hy, bt_and (by omega) hx hy, bt_and (by omega) hx hy]
theorem bt_out {n : Nat} {x : Int} (hx : InN n x) {i : Nat} (hi : n ≤ i) : bt x i = false := by
  obtain ⟨k, rfl, hk⟩ := hx
  rw [bt, Int.toNat_natCast, Nat.testBit_lt_two_pow (Nat.lt_of_lt_of_le hk (Nat.pow_le_pow_right (by decide) hi))]
/-- What is known of a line. -/
structure LnI (p : Pz) (l : Ln) (c : Cn) : Prop where
  c0 : 0 ≤ l.cons
  cl : l.cons < (p.cons.length : Int)
  co : conOf p l = c
  mem : c ∈ p.cons
  mn : InN c.vars.length l.mask
  side : ∀ x ∈ (relOf p c).rows, sdB l.mask x = lnS p l
theorem lnI {p : Pz} (hg : goodP p = true) {l : Ln} (h : lnOk p l = true) : ∃ c, LnI p l c := by
  simp only [lnOk, Bool.and_eq_true, decide_eq_true_eq] at h
  obtain ⟨⟨⟨⟨h1, h2⟩, h3⟩, h4⟩, h5⟩ := h
  have hlt : l.cons.toNat < p.cons.length := by omega
  have hm : conOf p l ∈ p.cons := by rw [conOf, getD_mem hlt]; exact List.getElem_mem hlt
  have hci := consI hg hm
  have hn : (relOf p (conOf p l)).n.toNat = (conOf p l).vars.length := by have := hci.n; omega
  rw [hn] at h4
  refine ⟨_, h1, h2, rfl, hm, ⟨l.mask.toNat, by omega, by omega⟩, fun x hx => ?_⟩
  simp only [Bool.not_eq_true', List.any_eq_false] at h5
  have := h5 x hx
  rw [lnS]
  cases e1 : sdB l.mask x <;> cases e2 : sdB l.mask (r0Of p l) <;> simp [e1, e2] at this <;> rfl
theorem lnV_nat {p : Pz} (hg : goodP p = true) {l : Ln} (h : lnOk p l = true) : ∃ v : Nat, lnV p l = v ∧ v < 2 ^ p.vars.toNat ∧ ∀ s : Nat, s < 2 ^ p.vars.toNat → dotK 8 s v = sdB l.mask (rowF s (conOf p l).vars 0 0) := by
  obtain ⟨c, hI⟩ := lnI hg h
  have hv := vars_le hg
  have hci := consI hg hI.mem
  have hp8 : 2 ^ p.vars.toNat ≤ 2 ^ 8 := Nat.pow_le_pow_right (by decide) (by omega)
  obtain ⟨m, hm, hmn⟩ := hI.mn
  have hm8 : m < 8 := by
    have : 2 ^ c.vars.length ≤ 2 ^ 3 := Nat.pow_le_pow_right (by decide) hci.len
    omega
  have hvn : ∀ v ∈ c.vars, v.toNat < p.vars.toNat := fun v h => by have := hci.var v h; omega
  have hv8 : ∀ v ∈ c.vars, v.toNat < 8 := fun v h => by have := hci.var v h; omega
  have hvv : ∀ v ∈ c.vars, 0 ≤ v ∧ v ≤ 64 := fun v h => by have := hci.var v h; omega
  have hl3 := hci.len
  rw [lnV, hI.co, hm]
  refine ⟨lineN m c.vars 0 0, lineV_nat m hm8 c.vars 0 0 (by omega) hv8 (by decide), lineN_lt m _ c.vars 0 0 hvn (Nat.pow_pos (by decide)), fun s hs => ?_⟩
  rw [lineN_dot m s c.vars 0 0 hv8, dot_zero, Bool.false_xor]
  have hr := row_in (s := s) (by omega) hvv (by omega)
  have hrb : ∀ j, j < c.vars.length → bt (rowF s c.vars 0 0) j = s.testBit (c.vars.getD j 0).toNat := fun j hj => row_bit (by omega) hvv (by omega) hj
  have hm3 : InN 3 (m : Int) := ⟨m, rfl, hm8⟩
  rw [sdB, par3_and (inN_mono hl3 hr) hm3]
  have hmo : ∀ j, c.vars.length ≤ j → bt (m : Int) j = false := fun j hj => bt_out ⟨m, rfl, hmn⟩ hj
  have hbm : ∀ j, bt (m : Int) j = m.testBit j := fun j => rfl
  generalize rowF (s : Int) c.vars 0 0 = R at *
  generalize c.vars = vs at *
  match vs, hl3 with
  | [], _ => simp [parL, hmo 0 (by simp), hmo 1 (by simp), hmo 2 (by simp)]
  | [a], _ =>
    have b0 := hrb 0 (by simp)
    simp at b0
    rw [hmo 1 (by simp), hmo 2 (by simp), b0, hbm]
    simp [parL, Bool.and_comm]
  | [a, b], _ =>
    have b0 := hrb 0 (by simp)
    have b1 := hrb 1 (by simp)
    simp at b0 b1
    rw [hmo 2 (by simp), b0, b1, hbm, hbm]
    simp [parL, Bool.and_comm]
  | [a, b, c], _ =>
    have b0 := hrb 0 (by simp)
    have b1 := hrb 1 (by simp)
    have b2 := hrb 2 (by simp)
    simp at b0 b1 b2
    rw [b0, b1, b2, hbm, hbm, hbm]
    simp [parL, Bool.and_comm, Bool.xor_assoc]
/-- A solution fits all lines. -/
theorem sol_line {p : Pz} (hg : goodP p = true) {s : Nat} (hs : (s : Int) ∈ allS p) {l : Ln} (h : lnOk p l = true) : dotK 8 s (lvec p l).1 = (lvec p l).2 := by
  obtain ⟨c, hI⟩ := lnI hg h
  obtain ⟨⟨k, hk, hk2⟩, hrows⟩ := (mem_allS hg s).1 hs
  have hsk : s = k := by omega
  subst hsk
  obtain ⟨v, hv, _, hd⟩ := lnV_nat hg h
  rw [lvec, hv, Int.toNat_natCast]
  rw [hd s hk2, hI.co]
  exact hI.side _ (hrows c hI.mem)
def parN (k : Nat) : Bool := (k.testBit 0 ^^ k.testBit 1) ^^ k.testBit 2
def affOk (m n r0 : Nat) : Bool :=
  !((List.range (2 ^ n)).all fun a => !m.testBit a || (List.range (2 ^ n)).all fun b => !m.testBit b || (List.range (2 ^ n)).all fun c => !m.testBit c || m.testBit ((a ^^^ b) ^^^ c)) ||
  ((List.range (2 ^ n)).all fun r => m.testBit r || (List.range (2 ^ n)).any fun k => decide (1 ≤ k) && ((List.range (2 ^ n)).all fun x => !m.testBit x || (parN (x &&& k) == parN (r0 &&& k))) && (parN (r &&& k) != parN (r0 &&& k)))
theorem aff_all1 : (List.range 4).all (fun m => (List.range 2).all fun r0 => !m.testBit r0 || affOk m 1 r0) = true := by kernel_rfl
theorem aff_all2 : (List.range 16).all (fun m => (List.range 4).all fun r0 => !m.testBit r0 || affOk m 2 r0) = true := by kernel_rfl
theorem aff_all3 : (List.range 256).all (fun m => (List.range 8).all fun r0 => !m.testBit r0 || affOk m 3 r0) = true := by kernel_rfl
theorem aff_ok {n m r0 : Nat} (hn : 1 ≤ n ∧ n ≤ 3) (hm : m < 2 ^ 2 ^ n) (hr : r0 < 2 ^ n) (h0 : m.testBit r0 = true) : affOk m n r0 = true := by
  have hc : n = 1 ∨ n = 2 ∨ n = 3 := by omega
  rcases hc with rfl | rfl | rfl
  · have := List.all_eq_true.1 (List.all_eq_true.1 aff_all1 m (List.mem_range.2 hm)) r0 (List.mem_range.2 hr)
    rw [h0] at this
    exact this
  · have := List.all_eq_true.1 (List.all_eq_true.1 aff_all2 m (List.mem_range.2 hm)) r0 (List.mem_range.2 hr)
    rw [h0] at this
    exact this
  · have := List.all_eq_true.1 (List.all_eq_true.1 aff_all3 m (List.mem_range.2 hm)) r0 (List.mem_range.2 hr)
    rw [h0] at this
    exact this
theorem par3_nat {a b : Nat} (ha : a < 8) (hb : b < 8) : sdB (b : Int) (a : Int) = parN (a &&& b) := by
  rw [sdB, andI_nat a b (by omega) (by omega)]
  rfl
/-- With the class of 5 what fits all lines is a solution. -/
theorem line_sol {p : Pz} (hg : goodP p = true) (hk : keepA p 5 = true) {s : Nat} (hs : s < 2 ^ p.vars.toNat) (h : ∀ l, lnOk p l = true → dotK 8 s (lvec p l).1 = (lvec p l).2) : (s : Int) ∈ allS p := by
  have hv := vars_le hg
  have hp8 : 2 ^ p.vars.toNat ≤ 2 ^ 8 := Nat.pow_le_pow_right (by decide) (by omega)
  refine (mem_allS hg s).2 ⟨⟨s, rfl, hs⟩, fun c hc => ?_⟩
  have hci := consI hg hc
  have hvv : ∀ v ∈ c.vars, 0 ≤ v ∧ v ≤ 64 := fun v h => by have := hci.var v h; omega
  have hl3 := hci.len
  have hl1 := hci.pos
  obtain ⟨ρ, hρ, hρn⟩ := row_in (s := s) (by omega) hvv (by omega)
  have h8n : 2 ^ c.vars.length ≤ 2 ^ 3 := Nat.pow_le_pow_right (by decide) hl3
  let M := bitsN (fun k => decide ((k : Int) ∈ (relOf p c).rows)) (2 ^ c.vars.length)
  have hMb : ∀ k, k < 2 ^ c.vars.length → M.testBit k = decide ((k : Int) ∈ (relOf p c).rows) := fun k hk => by
    show (bitsN _ _).testBit k = _
    rw [bitsN_bit, decide_eq_true hk, Bool.true_and]
  obtain ⟨x0, hx0⟩ : ∃ x0, x0 ∈ (relOf p c).rows := by
    have := hci.good
    rw [goodR_asc] at this
    cases hx : (relOf p c).rows with
    | nil => rw [hx] at this; simp at this
    | cons x0 xs => exact ⟨x0, by simp⟩
  obtain ⟨j, hj, hjc⟩ := List.getElem_of_mem hc
  have hco : ∀ k : Int, conOf p ⟨j, k⟩ = c := fun k => by
    show p.cons.getD ((j : Int)).toNat default = c
    rw [Int.toNat_natCast, getD_mem hj, hjc]
  obtain ⟨r0, hr0, hr0m⟩ : ∃ r0 : Nat, (∀ k, r0Of p ⟨j, k⟩ = r0) ∧ (r0 : Int) ∈ (relOf p c).rows := by
    have hl : 0 < (relOf p c).rows.length := List.length_pos_of_mem hx0
    obtain ⟨r, hr, _⟩ := hci.rn _ (List.getElem_mem hl)
    refine ⟨r, fun k => ?_, by rw [← hr]; exact List.getElem_mem hl⟩
    rw [r0Of, hco, getD_mem hl, hr]
  obtain ⟨r0', e0, hr0n⟩ := hci.rn _ hr0m
  have : r0 = r0' := by omega
  subst this
  have hok := aff_ok ⟨hl1, hl3⟩ (bitsN_lt _ _ : M < _) hr0n (by rw [hMb r0 hr0n]; simpa using hr0m)
  rw [affOk, Bool.or_eq_true] at hok
  have hmem : ∀ k, k < 2 ^ c.vars.length → M.testBit k = true → (k : Int) ∈ (relOf p c).rows := fun k hk h => by
    rw [hMb k hk] at h
    simpa using h
  have hb5 : brokenF (relOf p c) 5 = none := by
    have := List.all_eq_true.1 hk c hc
    rw [keepC] at this
    simpa using this
  rcases hok with hok | hok
  · exfalso
    simp only [Bool.not_eq_true', List.all_eq_false, List.mem_range, Bool.or_eq_true, not_or, Bool.not_eq_true', Bool.not_eq_false, Bool.not_eq_true] at hok
    obtain ⟨a, ha, ma, b, hb, mb, d, hd, md, hx⟩ := hok
    have hab := Nat.xor_lt_two_pow ha hb
    have h3 := brokenF_none.1 hb5 [(a : Int), b, d] rfl (by
      intro y hy
      simp at hy
      rcases hy with rfl | rfl | rfl
      · exact hmem _ ha ma
      · exact hmem _ hb mb
      · exact hmem _ hd md)
    have e : opF 5 (relOf p c).n [(a : Int), b, d] = (((a ^^^ b) ^^^ d : Nat) : Int) := by
      show xorI (xorI (a : Int) b) d = _
      rw [xorI_nat a b (by omega) (by omega), xorI_nat _ d (by omega) (by omega)]
    rw [e] at h3
    have h4 := hMb _ (Nat.xor_lt_two_pow hab hd)
    rw [decide_eq_true h3] at h4
    have h5 : M.testBit ((a ^^^ b) ^^^ d) = false := hx
    rw [h4] at h5
    cases h5
  · have h1 := List.all_eq_true.1 hok ρ (List.mem_range.2 hρn)
    rw [Bool.or_eq_true] at h1
    rw [hρ]
    rcases h1 with h1 | h1
    · exact hmem _ hρn h1
    · exfalso
      simp only [List.any_eq_true, List.mem_range, Bool.and_eq_true, decide_eq_true_eq, List.all_eq_true, Bool.or_eq_true, Bool.not_eq_true', beq_iff_eq, bne_iff_ne] at h1
      obtain ⟨k, hk1, ⟨hk2, hk3⟩, hk4⟩ := h1
      have hsame : ∀ x ∈ (relOf p c).rows, sdB (k : Int) x = sdB (k : Int) r0 := fun x hx => by
        obtain ⟨y, rfl, hy⟩ := hci.rn x hx
        rw [par3_nat (by omega) (by omega), par3_nat (by omega) (by omega)]
        rcases hk3 y hy with h | h
        · have := hMb y hy
          rw [decide_eq_true hx] at this
          have h' : M.testBit y = false := h
          rw [this] at h'
          cases h'
        · exact h
      have hln : lnOk p ⟨j, k⟩ = true := by
        have hcn : (relOf p c).n.toNat = c.vars.length := by have := hci.n; omega
        simp only [lnOk, hco, hr0, hcn, Bool.and_eq_true, decide_eq_true_eq, Bool.not_eq_true', List.any_eq_false, bne_iff_ne, ne_eq, Decidable.not_not]
        exact ⟨⟨⟨⟨by omega, by omega⟩, by omega⟩, by omega⟩, hsame⟩
      have h5 := h _ hln
      obtain ⟨v, hv1, hv2, hv3⟩ := lnV_nat hg hln
      rw [lvec, hv1, Int.toNat_natCast] at h5
      rw [hv3 s hs, hco, hρ, lnS, hr0] at h5
      simp only at h5
      rw [par3_nat (by omega) (by omega), par3_nat (by omega) (by omega)] at h5
      exact hk4 h5
end Go.Proofs.Ytmneioafbkknhaa
