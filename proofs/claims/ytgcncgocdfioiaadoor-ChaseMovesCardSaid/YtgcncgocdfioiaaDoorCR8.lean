import Derived.Test.YtgcncgocdfioiaaDoorCR7
/- CR8: the reference: IsSafe; places given back. -/
set_option linter.unusedVariables false
set_option linter.unusedSimpArgs false
set_option maxRecDepth 20000
namespace Go.Proofs.YtgcncgocdfioiaaDoor
open Go Go.PS
attribute [-simp] isKeyK List.map_take
/-- An array of truths, in cells. -/
def cellsB (rs : List Bool) : List PV := rs.map fun x => PV.t .fz (eB x)
@[simp] theorem cellsB_len (rs : List Bool) : (cellsB rs).length = rs.length := by simp [cellsB]
theorem cellsB_get {rs : List Bool} {i : Nat} (h : i < rs.length) : (cellsB rs)[i]? = some (PV.t .fz (eB (rs.getD i false))) := by simp [cellsB, List.getD_eq_getElem?_getD, h]
@[simp] theorem cellsB_set (rs : List Bool) (i : Nat) (v : Bool) : (cellsB rs).set i (PV.t .fz (.v (.bool v))) = cellsB (rs.set i v) := by
  simp only [cellsB, List.map_set]
@[simp] theorem cellsB_men (m : Nat) (rs : List Bool) : PV.menL m (cellsB rs) = false := by
  induction rs with
  | nil => rfl
  | cons x rs ih =>
    simp only [cellsB, List.map_cons, PV.menL] at ih ⊢
    rw [ih]
    rfl
@[simp] theorem cellsB_kill (m : Nat) (rs : List Bool) : (cellsB rs).map (fun x => if PV.men m x = true then PV.undef else x) = cellsB rs := by
  induction rs with
  | nil => rfl
  | cons x rs ih =>
    simp only [cellsB, List.map_cons] at ih ⊢
    rw [ih]
    rfl
def arrB (f : Pl → Bool) : List Bool := (List.range 512).map fun j => f (decP j)
@[simp] theorem arrB_len (f : Pl → Bool) : (arrB f).length = 512 := by simp [arrB]
theorem arrB_get (f : Pl → Bool) {p : Pl} (h : P8 p) : (arrB f).getD (ix p) false = f p := by
  have := ix_lt h
  simp [arrB, List.getD_eq_getElem?_getD, this, decP_ix h]
theorem arrB_set (f : Pl → Bool) {p : Pl} (h : P8 p) (v : Bool) : (arrB f).set (ix p) v = arrB fun q => if q = p then v else f q := by
  apply List.ext_getElem?
  intro j
  rw [List.getElem?_set]
  by_cases hj : j < 512
  · obtain ⟨h1, h2⟩ := ix_decP hj
    simp only [arrB, List.getElem?_map, List.getElem?_range hj, Option.map_some, List.length_map, List.length_range]
    by_cases e : ix p = j
    · have e2 : decP j = p := by rw [← e]; exact decP_ix h
      simp [e, e2, hj]
    · have e2 : decP j ≠ p := fun e3 => e (by rw [← e3]; exact h1)
      simp [e, e2]
  · have e : ¬ ix p = j := fun e => hj (by rw [← e]; exact ix_lt h)
    simp [e, arrB, hj]
theorem arrB_congr {f f' : Pl → Bool} (h : ∀ p, P8 p → f p = f' p) : arrB f = arrB f' := by
  simp only [arrB]
  apply List.map_congr_left
  intro j hj
  exact h _ (ix_decP (List.mem_range.1 hj)).2
theorem zB512_cells : zB512.map (fun c => PV.t .fz (TL.v c)) = cellsB (arrB fun _ => false) := by kernel_rfl
theorem all_dd (X : List Pl) (f : Pl → Bool) : (ddS X).all f = X.all f := by
  rw [Bool.eq_iff_iff, List.all_eq_true, List.all_eq_true]
  exact ⟨fun h x hx => h x ((ddS_mem X x).2 hx), fun h x hx => h x ((ddS_mem X x).1 hx)⟩
theorem full_bits {t : List Nat} (ht : Twn t) : bitsL (2 ^ t.length - 1) = List.range t.length := by
  have hp : 2 ≤ 2 ^ t.length := Nat.pow_le_pow_right (n := 2) (by decide) ht.1
  rw [bits_range ht (by omega), List.filter_eq_self]
  intro x hx
  rw [Nat.testBit_two_pow_sub_one]
  simpa using hx
theorem takeAny_snoc {A : List Nat} {f : Nat → Bool} {i : Nat} (h : i < A.length) : (A.take (i + 1)).any f = ((A.take i).any f || f (A.getD i 0)) := by
  have e : A.getD i 0 = A[i] := by simp [List.getD_eq_getElem?_getD, h]
  rw [List.take_add_one, List.any_append, e]
  simp [h]
def raB (iF : Pl → Bool) (a b c : Nat) : Bool := (List.range c).any fun x => iF (a, b, x)
theorem raB_zero (iF : Pl → Bool) (a b : Nat) : raB iF a b 0 = false := rfl
theorem raB_succ (iF : Pl → Bool) (a b c : Nat) : raB iF a b (c + 1) = (raB iF a b c || iF (a, b, c)) := by
  simp only [raB, List.range_succ, List.any_append, List.any_cons, List.any_nil, Bool.or_false]
theorem risSafe_spec (g : List Int) (hg : isgB g = true) (k : Int) (hk : (k == 1) = true ∨ (k == 2) = true) (l : List P3) : PCall Tryd.prog 25 [eIs g, eI k, eP3 l] (pB (ckB (townOf g) k l)) [] := by
  refine pcall_sl 2 rfl call25 fun hlen => ?_
  simp only [List.length_map] at hlen
  obtain ⟨ht, hl, _⟩ := isg_facts hg
  have h8 := ht.2.1
  have h1n := ht.1
  refine pcall_wp _ Tryd.func25 rfl (by kernel_rfl) rfl ?_
  have hB : ckB (townOf g) k l = (l.all (goodP3 (townOf g).length k) && ((l.map nP).all (placeOk (townOf g) (k == 2) (ddS (l.map nP))) && (teamsL (townOf g).length (k == 2)).all fun q => anyS (ddS (l.map nP)) q (2 ^ (townOf g).length - 1))) := by rw [ckB, all_dd]
  have hip := fun a b c => isPlace_spec g k a b c
  have hfull := full_bits ht
  have hmv := fun p ha hb => rmoves_spec g hg k p ha hb
  have hfl := fun p hc => rflees_spec g hg p hc
  have hmm : ∀ a b q, q ∈ movesL (townOf g) (k == 2) a b → q.1 ≤ q.2 ∧ q.2 < g.length := fun a b q hq => by
    rw [moves_mem, hl] at hq
    exact ⟨hq.2.2.1, hq.2.1⟩
  have hbn : ∀ c, c < g.length → ∀ x ∈ bitsL ((townOf g).getD c 0), x < g.length := fun c hc x hx => by
    have := node_lt (ht.2.2 _ (getD_mem (l := townOf g) (i := c) (by omega))) hx
    omega
  rw [hl] at hB hfull
  simp -dsimp
  refine wk_loop (fun i : Nat => ⟨[(23, pI i), (22, pI l.length), (21, .t .ro (eP3 l)), (7, .ptr 7 0), (0, .t .ro (eIs g)), (1, .t .ro (eI k)), (2, .t .ro (eP3 l))], [(7, .blk 94 (cellsB (arrB fun q => decide (q ∈ (l.take i).map nP))))]⟩)
    (fun i => i ≤ l.length ∧ ∀ p ∈ l.take i, goodP3 g.length k p = true) (fun i => l.length - i) 0
    (le_of (by simp) (by simp [zB512_cells])) (by simp) fun i ⟨hi, hgd⟩ => ?_
  simp -dsimp
  refine condX_dec (fun h => ?_) (fun h => ?_)
  · have hw := wr (n := (i : Int) + 1) (by omega) (by omega)
    have hil : (i : Int) < l.length := by omega
    have hq := gP3 (l := l) h
    have htk := take_gP3 (l := l) h
    have hmem := mem_gP3 (l := l) h
    generalize l.getD i (0, 0, 0) = p at hq htk hmem
    have hG : goodP3 g.length k p = (okPl g.length k p.1 p.2.1 p.2.2 && !cB (nP p)) := rfl
    have hbad : goodP3 g.length k p = false → ckB (townOf g) k l = false := fun h => by
      rw [hB]
      have : l.all (goodP3 g.length k) = false := by
        rw [List.all_eq_false]
        exact ⟨p, hmem, by rw [h]; simp⟩
      rw [this]
      rfl
    have hipp := hip p.1 p.2.1 p.2.2
    cases hx : okPl g.length k p.1 p.2.1 p.2.2 with
    | false =>
      rw [hx] at hipp hG
      have hb := hbad hG
      simp -dsimp [hil, hq]
      first
        | refine CallG.by (hipp) ?_
        | refine CallGE.by (hipp) ?_
        | refine CallGB.by (hipp) ?_
      simp -dsimp
      refine retP_c ?_
      simp -dsimp [hb]
    | true =>
      rw [hx] at hipp hG
      obtain ⟨ha, hb', hc, hGP⟩ := okPl_nat hx
      have hn : nP p = (p.1.toNat, p.2.1.toNat, p.2.2.toNat) := rfl
      have hp8 : P8 (nP p) := by
        obtain ⟨q1, q2, q3, _⟩ := hGP
        exact ⟨by rw [hn]; omega, by rw [hn]; omega, by rw [hn]; omega⟩
      have hset := arrB_set (fun q => decide (q ∈ (l.take i).map nP)) hp8 true
      have hcg : arrB (fun q => if q = nP p then true else decide (q ∈ (l.take i).map nP)) = arrB fun q => decide (q ∈ (l.take (i + 1)).map nP) := by
        apply arrB_congr
        intro q _
        rw [htk, List.map_append, List.map_cons, List.map_nil]
        by_cases e : q = nP p
        · simp [e]
        · simp only [e, if_false, List.mem_append, List.mem_singleton, or_false]
      rw [hcg] at hset
      have hix := ix_lt hp8
      have hcb := rcB_spec (nP p)
      rw [hn] at hset hix hcb hG hp8
      obtain ⟨pa, pb, pc⟩ := p
      simp only at *
      generalize pa.toNat = a' at *
      generalize pb.toNat = b' at *
      generalize pc.toNat = c' at *
      subst ha hb' hc
      have a8 : a' < 8 := hp8.1
      have b8 : b' < 8 := hp8.2.1
      have c8 : c' < 8 := hp8.2.2
      have a0 : (a' : Int) < 8 := by omega
      have b0 : (b' : Int) < 8 := by omega
      have c0 : (c' : Int) < 8 := by omega
      simp only [ix] at hset hix
      have hix' : a' * 64 + b' * 8 + c' + 1 ≤ 512 := by omega
      cases hy : cB (a', b', c') with
      | true =>
        rw [hy] at hcb hG
        have hb := hbad hG
        simp -dsimp [hil, hq]
        first
          | refine CallG.by (hipp) ?_
          | refine CallGE.by (hipp) ?_
          | refine CallGB.by (hipp) ?_
        simp -dsimp
        first
          | refine CallG.by (hcb) ?_
          | refine CallGE.by (hcb) ?_
          | refine CallGB.by (hcb) ?_
        simp -dsimp
        refine retP_c ?_
        simp -dsimp [hb]
      | false =>
        rw [hy] at hcb hG
        simp -dsimp [hil, hq]
        first
          | refine CallG.by (hipp) ?_
          | refine CallGE.by (hipp) ?_
          | refine CallGB.by (hipp) ?_
        simp -dsimp
        first
          | refine CallG.by (hcb) ?_
          | refine CallGE.by (hcb) ?_
          | refine CallGB.by (hcb) ?_
        simp -dsimp
        refine wk_draw 8 [] mixed (by kernel_rfl) ?_
        simp -dsimp [a0, b0, c0, hix']
        rw [hset]
        refine LoopP_next (i + 1) (le_of (by simp [hw]) (by simp)) ⟨h, fun q hq => ?_⟩ (by omega)
        rw [htk] at hq
        rcases List.mem_append.1 hq with hq | hq
        · exact hgd q hq
        · rw [List.mem_singleton] at hq
          rw [hq, hG]
          rfl
  · have hi' : i = l.length := by omega
    rw [hi', List.take_length] at hgd ⊢
    have hB2 : ckB (townOf g) k l = ((l.map nP).all (placeOk (townOf g) (k == 2) (ddS (l.map nP))) && (teamsL g.length (k == 2)).all fun q => anyS (ddS (l.map nP)) q (2 ^ g.length - 1)) := by
      rw [hB, List.all_eq_true.2 hgd, Bool.true_and]
    have hne : (teamsL g.length (k == 2)).all (fun q => anyS (ddS (l.map nP)) q (2 ^ g.length - 1)) = true → 0 < l.length := fun h => by
      have h1 := List.all_eq_true.1 h (0, 0) (teams_mem.2 ⟨by simp, by simp only; omega, .inr rfl⟩)
      simp only [anyS, List.any_eq_true, hasS, decide_eq_true_eq, ddS_mem] at h1
      obtain ⟨x, _, hx⟩ := h1
      have := List.length_pos_of_mem hx
      simpa using this
    have hhas : ∀ q x, hasS (ddS (l.map nP)) q x = decide ((q.1, q.2, x) ∈ l.map nP) := fun q x => by
      rw [hasS, Bool.eq_iff_iff, decide_eq_true_iff, decide_eq_true_iff, ddS_mem]
    have hSt : ∀ c q, stepOk (townOf g) (ddS (l.map nP)) c q = (!cB (q.1, q.2, c) && (bitsL ((townOf g).getD c 0)).any fun x => decide ((q.1, q.2, x) ∈ l.map nP)) := fun c q => by
      rw [stepOk, anyS]
      congr 2
      funext x
      exact hhas q x
    have hAn : ∀ q, anyS (ddS (l.map nP)) q (2 ^ g.length - 1) = (List.range g.length).any fun x => decide ((q.1, q.2, x) ∈ l.map nP) := fun q => by
      rw [anyS, hfull]
      congr 1
      funext x
      exact hhas q x
    have hPl : ∀ p, placeOk (townOf g) (k == 2) (ddS (l.map nP)) p = (movesL (townOf g) (k == 2) p.1 p.2.1).all (stepOk (townOf g) (ddS (l.map nP)) p.2.2) := fun _ => rfl
    have hgn : ∀ p ∈ l, GPl g.length (k == 2) (nP p) ∧ p = up (nP p) := fun p hp => by
      have h1 := hgd p hp
      simp only [goodP3, Bool.and_eq_true] at h1
      obtain ⟨e1, e2, e3, e4⟩ := okPl_nat h1.1
      exact ⟨e4, Prod.ext e1 (Prod.ext e2 e3)⟩
    clear hB hgd hfull hhas
    generalize hSe : ddS (l.map nP) = S at *
    generalize hiF : (fun q : Pl => decide (q ∈ l.map nP)) = iF at *
    have hiF' : ∀ q, decide (q ∈ l.map nP) = iF q := fun q => by rw [← hiF]
    simp only [hiF'] at hSt hAn
    simp -dsimp
    refine wk_loop (fun i : Nat => ⟨[(48, pI i), (47, pI l.length), (46, .t .ro (eP3 l)), (7, .ptr 7 0), (0, .t .ro (eIs g)), (1, .t .ro (eI k)), (2, .t .ro (eP3 l))], [(7, .blk 94 (cellsB (arrB iF)))]⟩)
      (fun i => i ≤ l.length ∧ ∀ p ∈ l.take i, placeOk (townOf g) (k == 2) S (nP p) = true) (fun i => l.length - i) 0
      (le_of (by simp) (by simp)) (by simp) fun i ⟨hi, hJ⟩ => ?_
    simp -dsimp
    refine condX_dec (fun h => ?_) (fun h => ?_)
    · have hw := wr (n := (i : Int) + 1) (by omega) (by omega)
      have hil : (i : Int) < l.length := by omega
      have hq := gP3 (l := l) h
      have htk := take_gP3 (l := l) h
      have hmem := mem_gP3 (l := l) h
      generalize l.getD i (0, 0, 0) = p3 at hq htk hmem
      obtain ⟨hG, hup⟩ := hgn p3 hmem
      have hPp := hPl (nP p3)
      have hbad : placeOk (townOf g) (k == 2) S (nP p3) = false → ckB (townOf g) k l = false := fun h => by
        rw [hB2]
        have : (l.map nP).all (placeOk (townOf g) (k == 2) S) = false := by
          rw [List.all_eq_false]
          exact ⟨nP p3, List.mem_map_of_mem hmem, by rw [h]; simp⟩
        rw [this]
        rfl
      have hcast : cP3 p3 = cPl (nP p3) := by rw [hup, nP_up]; rfl
      rw [hcast] at hq
      have htk2 : ∀ q ∈ l.take (i + 1), q ∈ l.take i ∨ q = p3 := fun q hq => by
        rw [htk] at hq
        rcases List.mem_append.1 hq with hq | hq
        · exact .inl hq
        · exact .inr (by simpa using hq)
      have hmvp := hmv (nP p3) (by have := hG.1; have := hG.2.1; omega) hG.2.1
      have hmmp := hmm (nP p3).1 (nP p3).2.1
      have hcn := hG.2.2.1
      have hbnp := hbn (nP p3).2.2 hcn
      have hflp := fun q : Pr => hfl (onC (nP p3).2.2 q) hcn
      have hStp := hSt (nP p3).2.2
      have hmlp := moves_len (townOf g) ht (k == 2) (nP p3).1 (nP p3).2.1
      have hbl := bits_len ((townOf g).getD (nP p3).2.2 0)
      have hpA : ∀ q : Pr, q.1 ≤ q.2 → q.2 < g.length → ∀ x ∈ bitsL ((townOf g).getD (nP p3).2.2 0), P8 (q.1, q.2, x) := fun q h1 h2 x hx => by
        have := hbnp x hx
        exact ⟨by simp only; omega, by simp only; omega, by simp only; omega⟩
      generalize movesL (townOf g) (k == 2) (nP p3).1 (nP p3).2.1 = Mo at *
      obtain ⟨p, hpe⟩ : ∃ p, p = nP p3 := ⟨_, rfl⟩
      rw [← hpe] at hPp hbad hq hmvp hflp hStp hbl hpA
      have hfl2 : ∀ q : Pr, PCall Tryd.prog 63 [eIs g, .agg (cPl (onC p.2.2 q))] (.t .fz (ePls ((bitsL ((townOf g).getD p.2.2 0)).map fun x => (q.1, q.2, x)))) [] := hflp
      generalize bitsL ((townOf g).getD p.2.2 0) = A at *
      simp -dsimp [hil, hq]
      first
        | refine CallG.by (hmvp) ?_
        | refine CallGE.by (hmvp) ?_
        | refine CallGB.by (hmvp) ?_
      simp -dsimp
      refine wk_loop (fun j : Nat => ⟨[(57, pI j), (56, pI Mo.length), (55, .t .fz (ePls (Mo.map (onC p.2.2)))), (48, pI i), (47, pI l.length), (46, .t .ro (eP3 l)), (7, .ptr 7 0), (0, .t .ro (eIs g)), (1, .t .ro (eI k)), (2, .t .ro (eP3 l))], [(7, .blk 94 (cellsB (arrB iF)))]⟩)
        (fun j => j ≤ Mo.length ∧ ∀ q ∈ Mo.take j, stepOk (townOf g) S p.2.2 q = true) (fun j => Mo.length - j) 0
        (le_of (by simp) (by simp)) (by simp) fun j ⟨hj, hJj⟩ => ?_
      simp -dsimp
      refine condX_dec (fun h' => ?_) (fun h' => ?_)
      · have hwj := wr (n := (j : Int) + 1) (by omega) (by omega)
        have hjl : (j : Int) < Mo.length := by omega
        have hqm : Mo.getD j (0, 0) ∈ Mo := mem_gPr h'
        have hqg : Mo[j]? = some (Mo.getD j (0, 0)) := by simp [List.getD_eq_getElem?_getD, h']
        have htq := take_gP (l := Mo) h'
        generalize Mo.getD j (0, 0) = q at hqm hqg htq
        have honc : onC p.2.2 q = (q.1, q.2, p.2.2) := rfl
        obtain ⟨m1, m2⟩ := hmmp q hqm
        have hstq := hStp q
        have hflq := hfl2 q
        have hcb := rcB_spec (onC p.2.2 q)
        have hp8 := hpA q m1 m2
        rw [honc] at hflq hcb
        have hbq : stepOk (townOf g) S p.2.2 q = false → ckB (townOf g) k l = false := fun h => hbad (by
          rw [hPp, List.all_eq_false]
          exact ⟨q, hqm, by rw [h]; simp⟩)
        simp -dsimp [hjl, hqg, honc]
        first
          | refine CallG.by (hflq) ?_
          | refine CallGE.by (hflq) ?_
          | refine CallGB.by (hflq) ?_
        simp -dsimp
        refine wk_loop (fun m : Nat => ⟨[(65, pI m), (64, pI A.length), (63, .t .fz (ePls (A.map fun x => (q.1, q.2, x)))), (14, pB ((A.take m).any fun x => iF (q.1, q.2, x))), (13, .ptr 13 0), (57, pI j), (56, pI Mo.length), (55, .t .fz (ePls (Mo.map (onC p.2.2)))), (48, pI i), (47, pI l.length), (46, .t .ro (eP3 l)), (7, .ptr 7 0), (0, .t .ro (eIs g)), (1, .t .ro (eI k)), (2, .t .ro (eP3 l))],
            [(13, .blk 48 [PV.t .fz (eI q.1), PV.t .fz (eI q.2), PV.t .fz (eI p.2.2)]), (7, .blk 94 (cellsB (arrB iF)))]⟩)
          (fun m => m ≤ A.length) (fun m => A.length - m) 0
          (le_of (by simp) (by simp)) (by omega) fun m hm => ?_
        simp -dsimp
        refine condX_dec (fun h2 => ?_) (fun h2 => ?_)
        · have hwm := wr (n := (m : Int) + 1) (by omega) (by omega)
          have hml : (m : Int) < A.length := by omega
          have hsn := takeAny_snoc (f := fun x => iF (q.1, q.2, x)) h2
          have hxm := getD_mem h2
          have hxg : A[m]? = some (A.getD m 0) := by simp [List.getD_eq_getElem?_getD, h2]
          generalize A.getD m 0 = x at *
          have hx8 := hp8 x hxm
          have hget := arrB_get iF hx8
          have hcg := cellsB_get (rs := arrB iF) (i := ix (q.1, q.2, x)) (by rw [arrB_len]; exact ix_lt hx8)
          rw [hget] at hcg
          have a8 : q.1 < 8 := hx8.1
          have b8 : q.2 < 8 := hx8.2.1
          have c8 : x < 8 := hx8.2.2
          have a0 : (q.1 : Int) < 8 := by omega
          have b0 : (q.2 : Int) < 8 := by omega
          have c0 : (x : Int) < 8 := by omega
          simp only [ix] at hcg
          generalize iF (q.1, q.2, x) = y at *
          generalize ((A.take m).any fun x => iF (q.1, q.2, x)) = gd at *
          cases gd with
          | true =>
            rw [Bool.true_or] at hsn
            simp -dsimp [hml, hxg]
            refine wk_draw 10 [] mixed (by kernel_rfl) ?_
            simp -dsimp
            refine LoopP_next (m + 1) (le_of (by simp [hwm, hsn]) (by simp)) h2 (by omega)
          | false =>
            rw [Bool.false_or] at hsn
            simp -dsimp [hml, hxg]
            refine wk_draw 10 [] mixed (by kernel_rfl) ?_
            simp -dsimp [a0, b0, c0, hcg]
            refine LoopP_next (m + 1) (le_of (by simp [hwm, hsn]) (by simp)) h2 (by omega)
        · have hm' : m = A.length := by omega
          rw [hm', List.take_length]
          generalize (A.any fun x => iF (q.1, q.2, x)) = fr at *
          cases c1 : cB (q.1, q.2, p.2.2) with
          | true =>
            rw [c1] at hcb hstq
            have hb := hbq hstq
            simp -dsimp
            first
              | refine CallG.by (hcb) ?_
              | refine CallGE.by (hcb) ?_
              | refine CallGB.by (hcb) ?_
            simp -dsimp
            refine retP_c ?_
            simp -dsimp [hb]
          | false =>
            rw [c1] at hcb hstq
            cases fr with
            | false =>
              have hb := hbq hstq
              simp -dsimp
              first
                | refine CallG.by (hcb) ?_
                | refine CallGE.by (hcb) ?_
                | refine CallGB.by (hcb) ?_
              simp -dsimp
              refine retP_c ?_
              simp -dsimp [hb]
            | true =>
              simp -dsimp
              first
                | refine CallG.by (hcb) ?_
                | refine CallGE.by (hcb) ?_
                | refine CallGB.by (hcb) ?_
              simp -dsimp
              refine LoopP_next (j + 1) (le_of (by simp [hwj]) (by simp)) ⟨h', fun q' hq' => ?_⟩ (by omega)
              rw [htq] at hq'
              rcases List.mem_append.1 hq' with hq' | hq'
              · exact hJj q' hq'
              · rw [List.mem_singleton] at hq'
                rw [hq', hstq]
                rfl
      · have hj' : j = Mo.length := by omega
        rw [hj', List.take_length] at hJj
        simp -dsimp
        refine LoopP_next (i + 1) (le_of (by simp [hw]) (by simp)) ⟨h, fun q hq => ?_⟩ (by omega)
        rcases htk2 q hq with hq | hq
        · exact hJ q hq
        · rw [hq, ← hpe, hPp, List.all_eq_true]
          exact hJj
    · have hi' : i = l.length := by omega
      rw [hi', List.take_length] at hJ
      have hB3 : ckB (townOf g) k l = (teamsL g.length (k == 2)).all fun q => anyS S q (2 ^ g.length - 1) := by
        have : (l.map nP).all (placeOk (townOf g) (k == 2) S) = true := by
          rw [List.all_eq_true]
          intro q hq
          obtain ⟨p, hp, rfl⟩ := List.mem_map.1 hq
          exact hJ p hp
        rw [hB2, this, Bool.true_and]
      have hTe : teamsL g.length (k == 2) = prs g.length (tmF (k == 2)) := rfl
      have hle : ∀ a b, tmF (k == 2) a b = true → a ≤ b := fun a b => tmF_le
      have hT : ∀ a b : Nat, a ≤ b → (tmF (k == 2) a b = !((k == 1) && ((a : Int) != (b : Int)))) := fun a b hab => by
        have h1 : ((a : Int) != (b : Int)) = !(a == b) := by rw [Bool.eq_iff_iff]; simp; omega
        rw [tmF, decide_eq_true hab, Bool.true_and, h1]
        rcases hk with hk | hk
        · have : (k == 2) = false := by simp at hk ⊢; omega
          rw [hk, this]
          cases (a == b) <;> rfl
        · have : (k == 1) = false := by simp at hk ⊢; omega
          rw [hk, this]
          rfl
      have hbad : ∀ a b, tmF (k == 2) a b = true → a < g.length → b < g.length → anyS S (a, b) (2 ^ g.length - 1) = false → ckB (townOf g) k l = false := fun a b h1 h2 h3 h4 => by
        rw [hB3, List.all_eq_false]
        refine ⟨(a, b), ?_, by rw [h4]; simp⟩
        rw [hTe, prs_mem]
        exact ⟨h2, h3, h1⟩
      rw [hTe] at hB3 hne
      generalize hf : tmF (k == 2) = f at *
      simp -dsimp
      refine wk_loop (fun a : Nat => ⟨[(93, pI a), (92, pI g.length), (7, .ptr 7 0), (0, .t .ro (eIs g)), (1, .t .ro (eI k)), (2, .t .ro (eP3 l))], [(7, .blk 94 (cellsB (arrB iF)))]⟩)
        (fun a => a ≤ g.length ∧ ∀ q ∈ prsTo g.length f a 0, anyS S q (2 ^ g.length - 1) = true) (fun a => g.length - a) 0
        (le_of (by simp) (by simp)) ⟨by omega, by simp [prsTo]⟩ fun a ⟨ha, hJa⟩ => ?_
      simp -dsimp
      refine condX_dec (fun h => ?_) (fun h => ?_)
      · have hw := wr (n := (a : Int) + 1) (by omega) (by omega)
        rw [prsTo_diag hle] at hJa
        simp -dsimp
        refine wk_loop (fun b : Nat => ⟨[(17, pI a), (18, pI b), (93, pI a), (92, pI g.length), (7, .ptr 7 0), (0, .t .ro (eIs g)), (1, .t .ro (eI k)), (2, .t .ro (eP3 l))], [(7, .blk 94 (cellsB (arrB iF)))]⟩)
          (fun b => a ≤ b ∧ b ≤ g.length ∧ ∀ q ∈ prsTo g.length f a b, anyS S q (2 ^ g.length - 1) = true) (fun b => g.length - b) a
          (le_of (by simp) (by simp)) ⟨by omega, ha, hJa⟩ fun b ⟨hab, hb, hJb⟩ => ?_
        simp -dsimp
        refine condX_dec (fun h' => ?_) (fun h' => ?_)
        · have hwb := wr (n := (b : Int) + 1) (by omega) (by omega)
          have hpS := prsTo_succ g.length f a b
          have hTi := hT a b hab
          have hAnb := hAn (a, b)
          have hbd := hbad a b
          have hstart : ∀ s0 : Bool, s0 = !(f a b) → ∀ z, z = (s0 || raB iF a b g.length) → (z = false → ckB (townOf g) k l = false) ∧ (z = true → ∀ q ∈ prsTo g.length f a (b + 1), anyS S q (2 ^ g.length - 1) = true) := by
            intro s0 hs0 z hz
            rw [raB, ← hAnb] at hz
            constructor
            · intro h1
              rw [h1] at hz
              have hz := hz.symm
              rw [Bool.or_eq_false_iff] at hz
              exact hbd (by rw [hz.1] at hs0; simpa using hs0.symm) h h' hz.2
            · intro h1 q hq
              rw [hpS] at hq
              rcases List.mem_append.1 hq with hq | hq
              · exact hJb q hq
              · cases hfab : f a b with
                | false => rw [hfab] at hq; cases hq
                | true =>
                  rw [hfab, if_pos rfl, List.mem_singleton] at hq
                  rw [hfab] at hs0
                  rw [hs0, h1] at hz
                  rw [hq]
                  simpa using hz.symm
          have hget : ∀ c, c < g.length → (cellsB (arrB iF))[a * 64 + b * 8 + c]? = some (PV.t .fz (eB (iF (a, b, c)))) := fun c hc => by
            have hx8 : P8 (a, b, c) := ⟨by simp only; omega, by simp only; omega, by simp only; omega⟩
            have h2 := cellsB_get (rs := arrB iF) (i := ix (a, b, c)) (by rw [arrB_len]; exact ix_lt hx8)
            rw [arrB_get iF hx8] at h2
            exact h2
          have a0 : (a : Int) < 8 := by omega
          have b0 : (b : Int) < 8 := by omega
          have hcase : (((k == 1) = false ∧ True) ∧ f a b = true) ∨ (((k == 1) = true ∧ ((a : Int) != (b : Int)) = false) ∧ f a b = true) ∨ (((k == 1) = true ∧ ((a : Int) != (b : Int)) = true) ∧ f a b = false) := by
            cases c1 : (k == 1)
            · rw [c1] at hTi
              exact .inl ⟨⟨rfl, trivial⟩, hTi⟩
            · rw [c1] at hTi
              cases c2 : ((a : Int) != (b : Int))
              · rw [c2] at hTi
                exact .inr (.inl ⟨⟨rfl, rfl⟩, hTi⟩)
              · rw [c2] at hTi
                exact .inr (.inr ⟨⟨rfl, rfl⟩, hTi⟩)
          rcases hcase with ⟨⟨c1, c2⟩, c3⟩ | ⟨⟨c1, c2⟩, c3⟩ | ⟨⟨c1, c2⟩, c3⟩
          all_goals
            have hst := hstart _ rfl _ rfl
            rw [c3] at hst
            simp -dsimp [c1, c2]
            refine wk_loop (fun c : Nat => ⟨[(112, pI c), (111, pI g.length), (19, pB (!(f a b) || raB iF a b c)), (17, pI a), (18, pI b), (93, pI a), (92, pI g.length), (7, .ptr 7 0), (0, .t .ro (eIs g)), (1, .t .ro (eI k)), (2, .t .ro (eP3 l))], [(7, .blk 94 (cellsB (arrB iF)))]⟩)
              (fun c => c ≤ g.length) (fun c => g.length - c) 0
              (le_of (by simp [c3, raB_zero]) (by simp)) (by omega) fun c hc => ?_
            rw [c3]
            simp -dsimp
            refine condX_dec (fun h2 => ?_) (fun h2 => ?_)
            · have hwc := wr (n := (c : Int) + 1) (by omega) (by omega)
              have hgc := hget c h2
              have c0 : (c : Int) < 8 := by omega
              have hsn := raB_succ iF a b c
              generalize iF (a, b, c) = y at *
              generalize raB iF a b c = gd at *
              cases gd
              · rw [Bool.false_or] at hsn
                simp -dsimp [a0, b0, c0, hgc]
                refine LoopP_next (c + 1) (le_of (by simp [hwc, hsn, c3]) (by simp)) h2 (by omega)
              · rw [Bool.true_or] at hsn
                simp -dsimp [a0, b0, c0, hgc]
                refine LoopP_next (c + 1) (le_of (by simp [hwc, hsn, c3]) (by simp)) h2 (by omega)
            · have hc' : c = g.length := by omega
              rw [hc']
              generalize raB iF a b g.length = z at *
              cases z
              · first
                  | (have hb := hst.1 rfl
                     simp -dsimp
                     refine retP_c ?_
                     simp -dsimp [hb]
                     done)
                  | (have hnx := hst.2 rfl
                     simp -dsimp
                     exact LoopP_next (b + 1) (le_of (by simp [hwb]) (by simp)) ⟨by omega, h', hnx⟩ (by omega))
              · have hnx := hst.2 rfl
                simp -dsimp
                refine LoopP_next (b + 1) (le_of (by simp [hwb]) (by simp)) ⟨by omega, h', hnx⟩ (by omega)
        · have hb' : b = g.length := by omega
          have hR := prsTo_row g.length f a 0 (fun _ h => by omega)
          rw [hb', ← hR] at hJb
          simp -dsimp
          refine LoopP_next (a + 1) (le_of (by simp [hw]) (by simp)) ⟨h, hJb⟩ (by omega)
      · have ha' : a = g.length := by omega
        rw [ha', prsTo_all] at hJa
        have hall := List.all_eq_true.2 hJa
        rw [hall] at hB3
        have hpos := hne hall
        have hpos' : (0 : Int) < l.length := by omega
        simp -dsimp [hpos']
        refine retP_c ?_
        simp -dsimp [hB3]
        exact hpos
end Go.Proofs.YtgcncgocdfioiaaDoor
