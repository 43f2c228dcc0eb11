import Derived.Test.YtgcncgocdfioiaaDoorCR5
import Derived.Test.YtgcncgocdfioiaaDoorCW4
/- CR6: the reference: Rank. -/
set_option linter.unusedVariables false
set_option linter.unusedSimpArgs false
set_option maxRecDepth 20000
namespace Go.Proofs.YtgcncgocdfioiaaDoor
open Go Go.PS
attribute [-simp] isKeyK List.map_take
/-- An array of numbers, in cells. -/
def cellsI (rs : List Int) : List PV := rs.map fun x => PV.t .fz (eI x)
@[simp] theorem cellsI_len (rs : List Int) : (cellsI rs).length = rs.length := by simp [cellsI]
theorem cellsI_get {rs : List Int} {i : Nat} (h : i < rs.length) : (cellsI rs)[i]? = some (PV.t .fz (eI (rs.getD i 0))) := by simp [cellsI, List.getD_eq_getElem?_getD, h]
@[simp] theorem cellsI_set (rs : List Int) (i : Nat) (v : Int) : (cellsI rs).set i (PV.t .fz (.v (.int .i64 v))) = cellsI (rs.set i v) := by
  simp only [cellsI, List.map_set]
@[simp] theorem cellsI_lend (f : PV → Option (Bool × TL)) (rs : List Int) (h : ∀ x : Int, f (.t .fz (eI x)) = some (false, eI x)) : optL f (cellsI rs) = some (false, rs.map eI) := by
  induction rs with
  | nil => rfl
  | cons x rs ih =>
    simp only [cellsI, List.map_cons, optL] at ih ⊢
    rw [ih, h]
    rfl
@[simp] theorem cellsI_frz (f : PV → Option (Kind × TL)) (rs : List Int) (h : ∀ x : Int, f (.t .fz (eI x)) = some (.fz, eI x)) : optK f (cellsI rs) = some (.fz, rs.map eI) := by
  induction rs with
  | nil => rfl
  | cons x rs ih =>
    simp only [cellsI, List.map_cons, optK] at ih ⊢
    rw [ih, h]
    rfl
@[simp] theorem cellsI_men (m : Nat) (rs : List Int) : PV.menL m (cellsI rs) = false := by
  induction rs with
  | nil => rfl
  | cons x rs ih =>
    simp only [cellsI, List.map_cons, PV.menL] at ih ⊢
    rw [ih]
    rfl
@[simp] theorem cellsI_kill (m : Nat) (rs : List Int) : (cellsI rs).map (fun x => if PV.men m x = true then PV.undef else x) = cellsI rs := by
  induction rs with
  | nil => rfl
  | cons x rs ih =>
    simp only [cellsI, List.map_cons] at ih ⊢
    rw [ih]
    rfl
/-- The array of a function of places. -/
def decP (j : Nat) : Pl := (j / 64, j / 8 % 8, j % 8)
def arrF (f : Pl → Int) : List Int := (List.range 512).map fun j => f (decP j)
theorem decP_ix {p : Pl} (h : P8 p) : decP (ix p) = p := by
  obtain ⟨h1, h2, h3⟩ := h
  obtain ⟨a, b, c⟩ := p
  simp only [decP, ix] at *
  exact Prod.ext (by simp only; omega) (Prod.ext (by simp only; omega) (by simp only; omega))
theorem ix_decP {j : Nat} (h : j < 512) : ix (decP j) = j ∧ P8 (decP j) := by
  simp only [decP, ix, P8]
  omega
@[simp] theorem arrF_len (f : Pl → Int) : (arrF f).length = 512 := by simp [arrF]
theorem arrF_get (f : Pl → Int) {p : Pl} (h : P8 p) : (arrF f).getD (ix p) 0 = f p := by
  have := ix_lt h
  simp [arrF, List.getD_eq_getElem?_getD, this, decP_ix h]
theorem arrF_set (f : Pl → Int) {p : Pl} (h : P8 p) (v : Int) : (arrF f).set (ix p) v = arrF fun q => if q = p then v else f q := by
  apply List.ext_getElem?
  intro j
  rw [List.getElem?_set]
  by_cases hj : j < 512
  · obtain ⟨h1, h2⟩ := ix_decP hj
    simp only [arrF, List.getElem?_map, List.getElem?_range hj, Option.map_some, List.length_map, List.length_range]
    by_cases e : ix p = j
    · have e2 : decP j = p := by rw [← e]; exact decP_ix h
      simp [e, e2, hj]
    · have e2 : decP j ≠ p := fun e3 => e (by rw [← e3]; exact h1)
      simp [e, e2]
  · have e : ¬ ix p = j := fun e => hj (by rw [← e]; exact ix_lt h)
    simp [e, arrF, hj]
theorem arrF_congr {f f' : Pl → Int} (h : ∀ p, P8 p → f p = f' p) : arrF f = arrF f' := by
  simp only [arrF]
  apply List.map_congr_left
  intro j hj
  exact h _ (ix_decP (List.mem_range.1 hj)).2
theorem z512_cells : z512.map (fun c => PV.t .fz (TL.v c)) = cellsI (arrF fun _ => 0) := by kernel_rfl
def rkA (A : List Pl) (L : List (Pl × Nat)) (q : Pl) : Int := if q ∈ A then rkI L q else 0
theorem rkI_snoc {L : List (Pl × Nat)} {D : List Pl} {p q : Pl} {r : Nat} (h : L.lookup p = none) : rkI (L ++ (D ++ [p]).map fun x => (x, r)) q = if q = p then (r : Int) else rkI (L ++ D.map fun x => (x, r)) q := by
  unfold rkI
  rw [lookup_append, lookup_append, lookup_map, lookup_map]
  by_cases e : q = p
  · subst e
    rw [h]
    simp
  · simp only [List.mem_append, List.mem_singleton, e, or_false, if_false]
theorem rkI_neg {L : List (Pl × Nat)} {q : Pl} : rkI L q < 0 ↔ L.lookup q = none := by
  unfold rkI
  cases L.lookup q with
  | none => simp
  | some r => simp
/-- The reference's win is the program's. -/
theorem rwin_eq {t : List Nat} (ht : Twn t) {two : Bool} {L : List (Pl × Nat)} {p : Pl} (hp : GPl t.length two p) : (movesL t two p.1 p.2.1).any (fun q => rwinB t (arrF (rkA (allPl t.length two) L)) (onC p.2.2 q)) = winB t two L p := by
  have hc := hp.2.2.1
  have h8 := ht.2.1
  rw [winB]
  have key : ∀ q ∈ movesL t two p.1 p.2.1, rwinB t (arrF (rkA (allPl t.length two) L)) (onC p.2.2 q) = (afterF t L q.1 q.2 p.2.2).isSome := by
    intro q hq
    rw [moves_mem] at hq
    obtain ⟨h1, h2, h3, h4, h5⟩ := hq
    have hcb : cB (onC p.2.2 q) = caughtB q.1 q.2 p.2.2 := rfl
    rw [rwinB, hcb, afterF]
    by_cases hcc : caughtB q.1 q.2 p.2.2 = true
    · rw [hcc, if_pos rfl]
      rfl
    · rw [if_neg hcc, Bool.eq_iff_iff, aftGo_some]
      have hcc' : caughtB q.1 q.2 p.2.2 = false := by simpa using hcc
      rw [hcc', Bool.false_or, List.all_eq_true]
      have h6 := ht.2.2 _ (getD_mem hc)
      constructor
      · intro h x hx
        have hxn := node_lt h6 hx
        have this : 0 ≤ (arrF (rkA (allPl t.length two) L)).getD (ix (q.1, q.2, x)) 0 := of_decide_eq_true (h x hx)
        rw [arrF_get _ ⟨by simp only; omega, by simp only; omega, by simp only; omega⟩, rkA, if_pos (allPl_mem.2 ⟨h3, h2, hxn, h5⟩)] at this
        cases hl : L.lookup (q.1, q.2, x) with
        | some r => rfl
        | none =>
          have := rkI_neg.2 hl
          omega
      · intro h x hx
        have hxn := node_lt h6 hx
        have := h x hx
        refine decide_eq_true (show 0 ≤ (arrF (rkA (allPl t.length two) L)).getD (ix (q.1, q.2, x)) 0 from ?_)
        rw [arrF_get _ ⟨by simp only; omega, by simp only; omega, by simp only; omega⟩, rkA, if_pos (allPl_mem.2 ⟨h3, h2, hxn, h5⟩)]
        apply Classical.byContradiction
        intro hn
        rw [rkI_neg.1 (by omega)] at this
        cases this
  rw [Bool.eq_iff_iff, List.any_eq_true, List.any_eq_true]
  constructor
  · rintro ⟨q, hq, h⟩
    exact ⟨q, hq, by rw [← key q hq]; exact h⟩
  · rintro ⟨q, hq, h⟩
    exact ⟨q, hq, by rw [key q hq]; exact h⟩
theorem any_atP {M : List Pr} (f : Pr → Bool) (i : Nat) (h : i < M.length) : (M.drop i).any f = (f (M.getD i (0, 0)) || (M.drop (i + 1)).any f) := by
  have e : M.getD i (0, 0) = M[i] := by simp [List.getD_eq_getElem?_getD, h]
  rw [e, List.drop_eq_getElem_cons h, List.any_cons]
theorem mem_gPl {l : List Pl} {i : Nat} (h : i < l.length) : l.getD i (0, 0, 0) ∈ l := by simp [List.getD_eq_getElem?_getD, h]
theorem allPl_len {n : Nat} (h8 : n ≤ 8) (two : Bool) : (allPl n two).length ≤ 600 := by
  have h := rwTo_len n two n 0 0
  rw [rwTo_all] at h
  have m1 : n * n ≤ 8 * 8 := Nat.mul_le_mul h8 h8
  have m2 : (n * n + 0) * n ≤ 64 * 8 := Nat.mul_le_mul (by omega) h8
  omega
theorem rank0_spec (g : List Int) (hg : isgB g = true) (k : Int) : PCall Tryd.prog 32 [eIs g, eI k] (.t .fz (eRk (arrF (rkA (allPl g.length (k == 2)) (playF (townOf g) (k == 2)))))) [] := by
  obtain ⟨ht, hl, _⟩ := isg_facts hg
  have h8 := ht.2.1
  refine pcall_wp _ Tryd.func32 rfl (by kernel_rfl) rfl ?_
  have hpl := rplaces_spec g (by omega) k
  have hAl := allPl_len (n := g.length) (by omega) (k == 2)
  have hAm : ∀ p ∈ allPl g.length (k == 2), GPl (townOf g).length (k == 2) p := fun p hp => by rw [hl]; exact allPl_mem.1 hp
  have hP8 : ∀ {p : Pl}, GPl (townOf g).length (k == 2) p → P8 p := fun {p} h => by
    obtain ⟨h1, h2, h3, _⟩ := h
    exact ⟨by omega, by omega, by omega⟩
  have hP : playF (townOf g) (k == 2) = playGo (townOf g) (k == 2) 1 (iniL (allPl g.length (k == 2))) (iniO (allPl g.length (k == 2))) := by rw [playF, hl]
  have hrw := fun L p hp => rwin_eq (two := (k == 2)) (L := L) (p := p) ht hp
  rw [hl] at hrw
  have hmv := fun p ha hb => rmoves_spec g hg k p ha hb
  have hwn := fun rs hrs q ha hb hc => rwins_spec g hg rs hrs q ha hb hc
  have hml := moves_len (townOf g) ht (k == 2)
  have hmm : ∀ a b q, q ∈ movesL (townOf g) (k == 2) a b → q.1 < g.length ∧ q.2 < g.length := fun a b q hq => by
    rw [moves_mem, hl] at hq
    exact ⟨hq.1, hq.2.1⟩
  generalize allPl g.length (k == 2) = A at *
  simp -dsimp
  first
    | refine CallG.by (hpl) ?_
    | refine CallGE.by (hpl) ?_
    | refine CallGB.by (hpl) ?_
  simp -dsimp
  refine wk_loop (fun i : Nat => ⟨[(22, pI i), (21, pI A.length), (20, .t .fz (ePls A)), (5, .ptr 5 0), (6, .t .fz (ePls A)), (0, .t .ro (eIs g)), (1, .t .ro (eI k))], [(5, .blk 105 (cellsI (arrF fun q => if q ∈ A.take i then (if cB q then 0 else -1) else 0)))]⟩)
    (fun i => i ≤ A.length) (fun i => A.length - i) 0
    (le_of (by simp) (by simp [z512_cells])) (by simp) fun i hi => ?_
  simp -dsimp
  refine condX_dec (fun h => ?_) (fun h => ?_)
  · have hw := wr (n := (i : Int) + 1) (by omega) (by omega)
    have hil : (i : Int) < A.length := by omega
    have hq := gPl (l := A) h
    have htk := take_gPl (l := A) h
    have hpm := mem_gPl (l := A) h
    generalize A.getD i (0, 0, 0) = p at hq htk hpm
    have hG := hAm p hpm
    have hp8 := hP8 hG
    have hix := ix_lt hp8
    have hcb := rcB_spec p
    have hset1 := arrF_set (fun q => if q ∈ A.take i then (if cB q then 0 else -1) else 0) hp8 (-1)
    have hset2 := fun f => arrF_set f hp8 0
    have hfin : ∀ q, (if q ∈ A.take (i + 1) then (if cB q then (0 : Int) else -1) else 0) = if q = p then (if cB p then 0 else -1) else if q ∈ A.take i then (if cB q then 0 else -1) else 0 := by
      intro q
      rw [htk]
      by_cases e : q = p
      · subst e; simp
      · simp [e]
    obtain ⟨a, b, c⟩ := p
    have a8 : a < 8 := hp8.1
    have b8 : b < 8 := hp8.2.1
    have c8 : c < 8 := hp8.2.2
    have a0 : (a : Int) < 8 := by omega
    have b0 : (b : Int) < 8 := by omega
    have c0 : (c : Int) < 8 := by omega
    simp only [ix] at hset1 hset2 hix
    have hix' : a * 64 + b * 8 + c + 1 ≤ 512 := by omega
    simp -dsimp [hil, hq]
    refine wk_draw 8 [] mixed (by kernel_rfl) ?_
    simp -dsimp [a0, b0, c0, hix']
    rw [hset1]
    first
      | refine CallG.by (hcb) ?_
      | refine CallGE.by (hcb) ?_
      | refine CallGB.by (hcb) ?_
    cases c1 : cB (a, b, c) with
    | true =>
      have hfin' : arrF (fun q => if q = (a, b, c) then 0 else if q = (a, b, c) then -1 else if q ∈ A.take i then (if cB q then 0 else -1) else 0) = arrF fun q => if q ∈ A.take (i + 1) then (if cB q then 0 else -1) else 0 := by
        apply arrF_congr
        intro q _
        rw [hfin q, c1]
        by_cases e : q = (a, b, c) <;> simp [e]
      simp -dsimp
      refine wk_draw 8 [] mixed (by kernel_rfl) ?_
      simp -dsimp [a0, b0, c0, hix']
      rw [hset2, hfin']
      refine LoopP_next (i + 1) (le_of (by simp [hw]) (by simp)) h (by omega)
    | false =>
      have hfin' : arrF (fun q => if q = (a, b, c) then -1 else if q ∈ A.take i then (if cB q then 0 else -1) else 0) = arrF fun q => if q ∈ A.take (i + 1) then (if cB q then 0 else -1) else 0 := by
        apply arrF_congr
        intro q _
        rw [hfin q, c1]
        by_cases e : q = (a, b, c) <;> simp [e]
      rw [hfin']
      simp -dsimp
      refine LoopP_next (i + 1) (le_of (by simp [hw]) (by simp)) h (by omega)
  · have hi' : i = A.length := by omega
    have e0 : arrF (fun q => if q ∈ A.take i then (if cB q then 0 else -1) else 0) = arrF (rkA A (iniL A)) := by
      apply arrF_congr
      intro q _
      rw [hi', List.take_length, rkA]
      by_cases hq : q ∈ A
      · rw [if_pos hq, if_pos hq, rkI, iniL, lookup_map]
        by_cases hcb : cB q = true
        · simp [hq, hcb]
        · simp [hq, hcb]
      · rw [if_neg hq, if_neg hq]
    rw [e0]
    have hO0 : iniO A = A.filter fun p => ((iniL A).lookup p).isNone := by
      rw [iniO]
      apply List.filter_congr
      intro q hq
      rw [iniL, lookup_map]
      by_cases hcb : cB q = true
      · simp [hq, hcb]
      · simp [hcb]
    have hlen0 : 1 + (iniO A).length ≤ 700 := by
      have := List.length_filter_le (fun p => !cB p) A
      simp only [iniO]
      omega
    generalize iniO A = O0 at *
    generalize iniL A = L0 at *
    simp -dsimp
    refine wk_loop (fun p : Nat × List (Pl × Nat) × List Pl => ⟨[(9, pI p.1), (5, .ptr 5 0), (6, .t .fz (ePls A)), (0, .t .ro (eIs g)), (1, .t .ro (eI k))], [(5, .blk 105 (cellsI (arrF (rkA A p.2.1))))]⟩)
      (fun p => playF (townOf g) (k == 2) = playGo (townOf g) (k == 2) p.1 p.2.1 p.2.2 ∧ p.2.2 = A.filter (fun q => (p.2.1.lookup q).isNone) ∧ p.1 + p.2.2.length ≤ 700) (fun p => p.2.2.length) (1, L0, O0)
      (le_of (by simp) (by simp)) ⟨hP, hO0, hlen0⟩ fun ⟨r, L, O⟩ ⟨hp, hO, hr⟩ => ?_
    dsimp only at hp hO hr
    have hwr := wr (n := (r : Int) + 1) (by omega) (by omega)
    have hrwL := hrw L
    have hrs := arrF_len (rkA A L)
    have hofL : ∀ p ∈ A, PCall Tryd.prog 53 [eRk (arrF (rkA A L)), .agg (cPl p)] (pI (rkI L p)) [] := fun p hpA => by
      have := rof_spec (arrF (rkA A L)) hrs p (hP8 (hAm p hpA))
      rw [arrF_get _ (hP8 (hAm p hpA)), rkA, if_pos hpA] at this
      exact this
    have hwnL := fun q => hwn (arrF (rkA A L)) hrs q
    simp -dsimp
    refine lg_adoptT 10 10 48 3 (by simp; rfl) (by simp) ?_
    refine wk_loop (fun i : Nat => ⟨[(51, pI i), (50, pI A.length), (49, .t .fz (ePls A)), (10, .osl 10), (9, pI r), (5, .ptr 5 0), (6, .t .fz (ePls A)), (0, .t .ro (eIs g)), (1, .t .ro (eI k))], [(10, .row 48 3 .fz (((A.take i).filter fun p => decide (rkI L p < 0) && winB (townOf g) (k == 2) L p).map cPl)), (5, .blk 105 (cellsI (arrF (rkA A L))))]⟩)
      (fun i => i ≤ A.length) (fun i => A.length - i) 0
      (le_of (by simp) (by simp)) (by simp) fun i hi => ?_
    simp -dsimp
    refine condX_dec (fun h => ?_) (fun h => ?_)
    · have hw := wr (n := (i : Int) + 1) (by omega) (by omega)
      have hil : (i : Int) < A.length := by omega
      have hq := gPl (l := A) h
      have htk := take_gPl (l := A) h
      have hpm := mem_gPl (l := A) h
      generalize A.getD i (0, 0, 0) = p at hq htk hpm
      have hG := hAm p hpm
      have hp8 := hP8 hG
      have hof := hofL p hpm
      have hrwp := hrwL p (by rw [← hl]; exact hG)
      have hS : (A.take (i + 1)).filter (fun p => decide (rkI L p < 0) && winB (townOf g) (k == 2) L p) = (A.take i).filter (fun p => decide (rkI L p < 0) && winB (townOf g) (k == 2) L p) ++ if decide (rkI L p < 0) && winB (townOf g) (k == 2) L p then [p] else [] := by
        rw [htk, List.filter_append]
        cases hx : (decide (rkI L p < 0) && winB (townOf g) (k == 2) L p) <;> simp [List.filter_cons, hx]
      have hlen : ((A.take i).filter fun p => decide (rkI L p < 0) && winB (townOf g) (k == 2) L p).length ≤ 600 := by
        have h1 := List.length_filter_le (fun p => decide (rkI L p < 0) && winB (townOf g) (k == 2) L p) (A.take i)
        have h2 : (A.take i).length ≤ A.length := List.length_take_le' _ _
        omega
      have hbd : (((A.take i).filter fun p => decide (rkI L p < 0) && winB (townOf g) (k == 2) L p).length + 1) * 24 ≤ 140737488355328 := by omega
      obtain ⟨g1, g2, g3, g4⟩ := hG
      have hmvp := hmv p (by omega) (by omega)
      have hmlp := hml p.1 p.2.1
      have hmmp := hmm p.1 p.2.1
      rw [hl] at g3
      generalize movesL (townOf g) (k == 2) p.1 p.2.1 = Mo at *
      simp -dsimp [hil, hq]
      first
        | refine CallG.by (hof) ?_
        | refine CallGE.by (hof) ?_
        | refine CallGB.by (hof) ?_
      by_cases hr0 : rkI L p < 0
      · have hr0' : ¬ 0 ≤ rkI L p := by omega
        rw [decide_eq_true hr0, Bool.true_and] at hS
        simp -dsimp [hr0']
        first
          | refine CallG.by (hmvp) ?_
          | refine CallGE.by (hmvp) ?_
          | refine CallGB.by (hmvp) ?_
        simp -dsimp
        refine wk_loop (fun j : Nat => ⟨[(63, pI j), (62, pI Mo.length), (61, .t .fz (ePls (Mo.map (onC p.2.2)))), (12, .ptr 12 0), (51, pI i), (50, pI A.length), (49, .t .fz (ePls A)), (10, .osl 10), (9, pI r), (5, .ptr 5 0), (6, .t .fz (ePls A)), (0, .t .ro (eIs g)), (1, .t .ro (eI k))],
            [(12, .blk 48 [PV.t .fz (eI p.1), PV.t .fz (eI p.2.1), PV.t .fz (eI p.2.2)]), (10, .row 48 3 .fz (((A.take i).filter fun p => decide (rkI L p < 0) && winB (townOf g) (k == 2) L p).map cPl)), (5, .blk 105 (cellsI (arrF (rkA A L))))]⟩)
          (fun j => j ≤ Mo.length ∧ winB (townOf g) (k == 2) L p = (Mo.drop j).any fun q => rwinB (townOf g) (arrF (rkA A L)) (onC p.2.2 q)) (fun j => Mo.length - j) 0
          (le_of (by simp) (by simp)) ⟨by omega, by simpa using hrwp.symm⟩ fun j ⟨hj, hwj⟩ => ?_
        simp -dsimp
        refine condX_dec (fun h' => ?_) (fun h' => ?_)
        · have hwj' := wr (n := (j : Int) + 1) (by omega) (by omega)
          have hjl : (j : Int) < Mo.length := by omega
          rw [any_atP _ j h'] at hwj
          have hqm : Mo.getD j (0, 0) ∈ Mo := mem_gPr h'
          have hqg : Mo[j]? = some (Mo.getD j (0, 0)) := by simp [List.getD_eq_getElem?_getD, h']
          generalize Mo.getD j (0, 0) = q at hwj hqm hqg
          have hqn := hmmp q hqm
          have hwq := hwnL (onC p.2.2 q) hqn.1 hqn.2 g3
          have honc : onC p.2.2 q = (q.1, q.2, p.2.2) := rfl
          generalize hb : rwinB (townOf g) (arrF (rkA A L)) (onC p.2.2 q) = b at *
          rw [honc] at hwq
          simp -dsimp [hjl, hqg, honc]
          first
            | refine CallG.by (hwq) ?_
            | refine CallGE.by (hwq) ?_
            | refine CallGB.by (hwq) ?_
          cases b with
          | true =>
            rw [Bool.true_or] at hwj
            rw [hwj, if_pos rfl] at hS
            simp -dsimp [hbd]
            refine LoopP_next (i + 1) (le_of (by simp [hw]) (by simp [hS])) h (by omega)
          | false =>
            rw [Bool.false_or] at hwj
            simp -dsimp
            refine LoopP_next (j + 1) (le_of (by simp [hwj']) (by simp)) ⟨h', hwj⟩ (by omega)
        · have hj' : j = Mo.length := by omega
          rw [hj', List.drop_length, List.any_nil] at hwj
          rw [hwj, if_neg (by simp), List.append_nil] at hS
          simp -dsimp
          refine LoopP_next (i + 1) (le_of (by simp [hw]) (by simp [hS])) h (by omega)
      · rw [decide_eq_false hr0, Bool.false_and, if_neg (by simp), List.append_nil] at hS
        have hr0' : 0 ≤ rkI L p := by omega
        simp -dsimp [hr0']
        refine LoopP_next (i + 1) (le_of (by simp [hw]) (by simp [hS])) h (by omega)
    · have hi' : i = A.length := by omega
      have hD : A.filter (fun p => decide (rkI L p < 0) && winB (townOf g) (k == 2) L p) = doneF (townOf g) (k == 2) L O := by
        rw [doneF, hO, List.filter_filter]
        apply List.filter_congr
        intro q _
        rw [Bool.and_comm]
        congr 1
        rw [Bool.eq_iff_iff, decide_eq_true_iff, rkI_neg, Option.isNone_iff_eq_none]
      rw [hi', List.take_length, hD]
      have hG2 := playGo.eq_1 (townOf g) (k == 2) r L O
      have hDm : ∀ q ∈ doneF (townOf g) (k == 2) L O, q ∈ A ∧ L.lookup q = none := fun q hq => by
        have h1 := (List.mem_filter.1 hq).1
        rw [hO, List.mem_filter, Option.isNone_iff_eq_none] at h1
        exact h1
      have hE : leftF (townOf g) (k == 2) L O = A.filter fun q => ((L ++ (doneF (townOf g) (k == 2) L O).map fun p => (p, r)).lookup q).isNone := by
        rw [leftF, hO, List.filter_filter]
        apply List.filter_congr
        intro q hqA
        rw [lookup_append, lookup_map]
        cases hlk : L.lookup q with
        | some r' => simp
        | none =>
          simp only [Option.none_or, Option.isNone_none, Bool.and_true]
          have : (q ∈ doneF (townOf g) (k == 2) L O) ↔ winB (townOf g) (k == 2) L q = true := by
            rw [doneF, List.mem_filter, hO, List.mem_filter]
            simp [hqA, hlk]
          rw [← hO]
          by_cases hwb : winB (townOf g) (k == 2) L q = true
          · rw [if_pos (this.2 hwb), hwb]
            rfl
          · rw [if_neg (fun h => hwb (this.1 h))]
            simpa using hwb
      have hlt := leftF_lt (t := townOf g) (two := (k == 2)) (L := L) (O := O)
      have hDl : (doneF (townOf g) (k == 2) L O).length ≤ O.length := List.length_filter_le _ _
      generalize doneF (townOf g) (k == 2) L O = D at *
      generalize leftF (townOf g) (k == 2) L O = E at *
      simp -dsimp
      refine wk_loop (fun j : Nat => ⟨[(78, pI j), (77, pI D.length), (76, .osl 10), (10, .osl 10), (9, pI r), (5, .ptr 5 0), (6, .t .fz (ePls A)), (0, .t .ro (eIs g)), (1, .t .ro (eI k))],
          [(10, .row 48 3 .fz (D.map cPl)), (5, .blk 105 (cellsI (arrF (rkA A (L ++ (D.take j).map fun p => (p, r))))))]⟩)
        (fun j => j ≤ D.length) (fun j => D.length - j) 0
        (le_of (by simp) (by simp)) (by simp) fun j hj => ?_
      simp -dsimp
      refine condX_dec (fun h => ?_) (fun h => ?_)
      · have hw := wr (n := (j : Int) + 1) (by omega) (by omega)
        have hjl : (j : Int) < D.length := by omega
        have hq := gPl (l := D) h
        have htk := take_gPl (l := D) h
        have hqm := mem_gPl (l := D) h
        have hDj : D[j] = D.getD j (0, 0, 0) := by simp [List.getD_eq_getElem?_getD, h]
        generalize D.getD j (0, 0, 0) = p at hq htk hqm hDj
        obtain ⟨hpA, hlk⟩ := hDm p hqm
        have hp8 := hP8 (hAm p hpA)
        have hix := ix_lt hp8
        have hset := arrF_set (rkA A (L ++ (D.take j).map fun p => (p, r))) hp8 (r : Int)
        have hcg : arrF (fun q => if q = p then (r : Int) else rkA A (L ++ (D.take j).map fun p => (p, r)) q) = arrF (rkA A (L ++ (D.take (j + 1)).map fun p => (p, r))) := by
          apply arrF_congr
          intro q _
          rw [rkA, rkA, htk]
          by_cases hqA : q ∈ A
          · rw [if_pos hqA, if_pos hqA, rkI_snoc hlk]
          · rw [if_neg hqA, if_neg hqA, if_neg (fun e => hqA (by rw [e]; exact hpA))]
        rw [hcg] at hset
        obtain ⟨a, b, c⟩ := p
        have a8 : a < 8 := hp8.1
        have b8 : b < 8 := hp8.2.1
        have c8 : c < 8 := hp8.2.2
        have a0 : (a : Int) < 8 := by omega
        have b0 : (b : Int) < 8 := by omega
        have c0 : (c : Int) < 8 := by omega
        simp only [ix] at hset hix
        have hix' : a * 64 + b * 8 + c + 1 ≤ 512 := by omega
        simp -dsimp [hjl, hq, h, hDj]
        refine wk_draw 9 [] mixed (by kernel_rfl) ?_
        simp -dsimp [hDj, a0, b0, c0, hix']
        rw [hset]
        refine LoopP_next (j + 1) (le_of (by simp [hw]) (by simp)) h (by omega)
      · have hj' : j = D.length := by omega
        rw [hj', List.take_length]
        by_cases hD0 : D = []
        · subst hD0
          rw [dif_pos rfl] at hG2
          simp -dsimp
          refine retP_c ?_
          simp -dsimp [hp, hG2]
        · rw [dif_neg hD0] at hG2
          have hl0 : ((D.length : Int) == 0) = false := by
            have : D.length ≠ 0 := fun e => hD0 (List.eq_nil_of_length_eq_zero e)
            simp
            omega
          simp -dsimp [hl0]
          refine LoopP_next (r + 1, (L ++ D.map fun p => (p, r)), E) (le_of (by simp [hwr]) (by simp)) ⟨hp.trans hG2, hE, by have := hlt hD0; simp only; omega⟩ (by have := hlt hD0; simp only; omega)
end Go.Proofs.YtgcncgocdfioiaaDoor
