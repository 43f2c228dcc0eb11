import Derived.Test.YtgcncgocdfioiaaDoorCC1
/- CC2: play, walked. -/
set_option linter.unusedVariables false
set_option linter.unusedSimpArgs false
set_option maxRecDepth 20000
namespace Go.Proofs.YtgcncgocdfioiaaDoor
open Go Go.PS
attribute [-simp] isKeyK List.map_take
theorem tset_new (p : Pl) (r : Nat) : ∀ L : List (Pl × Nat), L.lookup p = none → tset (.wide 3) (kP p) (eI (r : Int)) (esOf L) = some (esOf (L ++ [(p, r)]))
  | [], _ => rfl
  | q :: L, h => by
    have hq : ¬ p = q.1 := fun e => by
      rw [List.lookup_cons, e] at h
      simp at h
    have hb : (p == q.1) = false := by simpa using hq
    rw [List.lookup_cons, hb] at h
    have ih := tset_new p r L h
    simp only [esOf, List.map_cons, List.cons_append] at ih ⊢
    simp only [tset, same_kP, hq, decide_false, ih, Option.map_some]
theorem lookup_none {p : Pl} : ∀ {L : List (Pl × Nat)}, L.lookup p = none ↔ ∀ q ∈ L, q.1 ≠ p
  | [] => by simp
  | q :: L => by
    rw [List.lookup_cons]
    by_cases h : p = q.1
    · simp [h]
    · have hb : (p == q.1) = false := by simpa using h
      simp only [hb]
      rw [lookup_none]
      simp only [List.mem_cons, forall_eq_or_imp]
      exact ⟨fun h1 => ⟨fun e => h e.symm, h1⟩, fun h1 => h1.2⟩
def plTo (n : Nat) (T : List Pr) (i c : Nat) : List Pl := ((T.take i).flatMap fun q => (List.range n).map fun c => (q.1, q.2, c)) ++ (List.range c).map fun c => ((T.getD i (0, 0)).1, (T.getD i (0, 0)).2, c)
def allPl (n : Nat) (two : Bool) : List Pl := (teamsL n two).flatMap fun q => (List.range n).map fun c => (q.1, q.2, c)
theorem plTo_succ (n : Nat) (T : List Pr) (i c : Nat) : plTo n T i (c + 1) = plTo n T i c ++ [((T.getD i (0, 0)).1, (T.getD i (0, 0)).2, c)] := by
  simp [plTo, List.range_succ]
theorem plTo_row (n : Nat) (T : List Pr) (i : Nat) (h : i < T.length) : plTo n T (i + 1) 0 = plTo n T i n := by
  simp only [plTo, take_gP h, List.flatMap_append, List.range_zero, List.map_nil, List.append_nil, List.flatMap_cons, List.flatMap_nil]
theorem plTo_nodup {n : Nat} {T : List Pr} (hT : T.Nodup) {i c : Nat} (hi : i < T.length) : (plTo n T i c).Nodup := by
  have hr : ∀ m, (List.range m).Nodup := fun m => List.nodup_range
  have hmap : ∀ (q : Pr) m, ((List.range m).map fun c => ((q.1, q.2, c) : Pl)).Nodup := fun q m => by
    rw [List.Nodup, List.pairwise_map]
    exact (hr m).imp fun {x y} h => by simpa using h
  unfold plTo
  rw [List.nodup_append]
  refine ⟨?_, hmap _ _, ?_⟩
  · rw [List.Nodup, List.pairwise_flatMap]
    refine ⟨fun q _ => hmap q n, ?_⟩
    refine (hT.sublist (List.take_sublist i T)).imp fun {x y} h a ha b hb => ?_
    obtain ⟨c1, _, rfl⟩ := List.mem_map.1 ha
    obtain ⟨c2, _, rfl⟩ := List.mem_map.1 hb
    intro e
    simp only [Prod.mk.injEq] at e
    exact h (Prod.ext e.1 e.2.1)
  · intro a ha b hb e
    subst e
    obtain ⟨q, hq, ha⟩ := List.mem_flatMap.1 ha
    obtain ⟨c1, _, rfl⟩ := List.mem_map.1 ha
    obtain ⟨c2, _, e⟩ := List.mem_map.1 hb
    simp only [Prod.mk.injEq] at e
    have hqi : q = T.getD i (0, 0) := Prod.ext e.1.symm e.2.1.symm
    have hnd := hT
    rw [← List.take_append_drop i T, List.nodup_append] at hnd
    exact hnd.2.2 q hq q (by rw [drop_gP hi, ← hqi]; simp) rfl
theorem plTo_len (n : Nat) (T : List Pr) (i c : Nat) : (plTo n T i c).length ≤ T.length * n + c := by
  simp only [plTo, List.length_append, List.length_map, List.length_range, List.length_flatMap]
  have h2 : ∀ L : List Pr, (L.map fun _ => n).sum = L.length * n := fun L => by
    induction L with
    | nil => simp
    | cons x L ih => simp only [List.map_cons, List.sum_cons, ih, List.length_cons, Nat.add_mul]; omega
  have := h2 (T.take i)
  have h4 : (T.take i).length * n ≤ T.length * n := Nat.mul_le_mul_right _ (by simp; omega)
  omega
def cB (p : Pl) : Bool := caughtB p.1 p.2.1 p.2.2
def iniL (l : List Pl) : List (Pl × Nat) := (l.filter cB).map fun p => (p, 0)
def iniO (l : List Pl) : List Pl := l.filter fun p => !cB p
theorem iniL_snoc (l : List Pl) (p : Pl) : iniL (l ++ [p]) = iniL l ++ if cB p then [(p, 0)] else [] := by
  simp only [iniL, List.filter_append, List.map_append]
  cases h : cB p <;> simp [h]
theorem iniO_snoc (l : List Pl) (p : Pl) : iniO (l ++ [p]) = iniO l ++ if cB p then [] else [p] := by
  simp only [iniO, List.filter_append]
  cases h : cB p <;> simp [h]
def doneF (t : List Nat) (two : Bool) (L : List (Pl × Nat)) (O : List Pl) : List Pl := O.filter (winB t two L)
def leftF (t : List Nat) (two : Bool) (L : List (Pl × Nat)) (O : List Pl) : List Pl := O.filter fun p => !winB t two L p
theorem leftF_lt {t : List Nat} {two : Bool} {L : List (Pl × Nat)} {O : List Pl} (h : ¬ doneF t two L O = []) : (leftF t two L O).length < O.length := by
  obtain ⟨p, hp⟩ := List.exists_mem_of_ne_nil _ h
  rw [doneF, List.mem_filter] at hp
  have h1 := List.length_filter_le (fun p => !winB t two L p) O
  rcases Nat.lt_or_ge (O.filter fun p => !winB t two L p).length O.length with h2 | h2
  · exact h2
  · have h3 := List.length_filter_eq_length_iff.1 (Nat.le_antisymm h1 h2) p hp.1
    rw [hp.2] at h3
    cases h3
/-- Rank by rank. -/
def playGo (t : List Nat) (two : Bool) (r : Nat) (L : List (Pl × Nat)) (O : List Pl) : List (Pl × Nat) :=
  if h : doneF t two L O = [] then L else playGo t two (r + 1) (L ++ (doneF t two L O).map fun p => (p, r)) (leftF t two L O)
termination_by O.length
decreasing_by exact leftF_lt h
def playF (t : List Nat) (two : Bool) : List (Pl × Nat) := playGo t two 1 (iniL (allPl t.length two)) (iniO (allPl t.length two))
theorem teams_nodup (n : Nat) (two : Bool) : (teamsL n two).Nodup := (prs_sorted n (tmF two)).imp fun {a b} h e => by
  subst e
  simp [ltP] at h
@[simp] def ePls (l : List Pl) : TL := .sl .any 3 (l.map cPl)
theorem gPl {l : List Pl} {i : Nat} (h : i < l.length) : (l.map cPl)[i]? = some (cPl (l.getD i (0, 0, 0))) := by simp [List.getD_eq_getElem?_getD, h]
theorem take_gPl {l : List Pl} {i : Nat} (h : i < l.length) : l.take (i + 1) = l.take i ++ [l.getD i (0, 0, 0)] := by
  rw [List.take_add_one]
  simp [List.getD_eq_getElem?_getD, h]
theorem play_spec (t : List Nat) (ht : Twn t) (hs : Slf t) (k : Int) : PCall Tryd.prog 83 [eNs t, eI k] (.t .ro (eC t k (.mp (esOf (playF t (k == 2)))))) [] := by
  have h8 := ht.2.1
  have hT := teams_spec t ht k (.mp [])
  have hP : playF t (k == 2) = playGo t (k == 2) 1 (iniL (allPl t.length (k == 2))) (iniO (allPl t.length (k == 2))) := rfl
  have hTn := teams_nodup t.length (k == 2)
  have hTl : (teamsL t.length (k == 2)).length ≤ 64 := by
    have h1 := prsTo_len t.length (tmF (k == 2)) t.length 0
    have h2 : t.length * t.length ≤ 8 * 8 := Nat.mul_le_mul ht.2.1 ht.2.1
    rw [prsTo_all] at h1
    rw [teamsL]
    omega
  have hAll : allPl t.length (k == 2) = plTo t.length (teamsL t.length (k == 2)) (teamsL t.length (k == 2)).length 0 := by simp [allPl, plTo]
  generalize hTe : teamsL t.length (k == 2) = T at *
  refine pcall_wp _ Tryd.func83 rfl (by kernel_rfl) rfl ?_
  simp -dsimp
  first
    | refine CallG.by (hT) ?_
    | refine CallGE.by (hT) ?_
    | refine CallGB.by (hT) ?_
  simp -dsimp
  refine lg_adoptT 6 6 50 3 (by simp; rfl) (by simp) ?_
  refine wk_loop (fun i : Nat => ⟨[(26, pI i), (25, pI T.length), (24, .t .fz (ePrs T)), (6, .osl 6), (5, .ptr 5 0), (0, .t .ro (eNs t))],
      [(6, .row 50 3 .fz ((iniO (plTo t.length T i 0)).map cPl)), (5, .blk 75 [.ptr 22 0]), (22, .blk 90 [.t .ro (eNs t), .t .ro (eI k), .omp 20]), (20, .tab .fz (esOf (iniL (plTo t.length T i 0))))]⟩)
    (fun i => i ≤ T.length) (fun i => T.length - i) 0
    (le_of (by simp) (by simp [plTo, iniL, iniO, esOf])) (by simp) fun i hi => ?_
  simp -dsimp
  refine condX_dec (fun h => ?_) (fun h => ?_)
  · have hw := wr (n := (i : Int) + 1) (by omega) (by omega)
    have hil : (i : Int) < T.length := by omega
    have hq := gP (l := T) h
    have hSn := fun c => plTo_succ t.length T i c
    have hNd := fun c => plTo_nodup (n := t.length) (T := T) hTn (i := i) (c := c) h
    have hRow := plTo_row t.length T i h
    have hLen := fun c => plTo_len t.length T i c
    generalize T.getD i (0, 0) = q at hq hSn
    simp -dsimp [hil, hq]
    refine wk_loop (fun c : Nat => ⟨[(32, pI c), (31, pI t.length), (8, .ptr 8 0), (26, pI i), (25, pI T.length), (24, .t .fz (ePrs T)), (6, .osl 6), (5, .ptr 5 0), (0, .t .ro (eNs t))],
        [(8, .blk 30 [PV.t .fz (eI q.1), PV.t .fz (eI q.2)]), (6, .row 50 3 .fz ((iniO (plTo t.length T i c)).map cPl)), (5, .blk 75 [.ptr 22 0]), (22, .blk 90 [.t .ro (eNs t), .t .ro (eI k), .omp 20]), (20, .tab .fz (esOf (iniL (plTo t.length T i c))))]⟩)
      (fun c => c ≤ t.length) (fun c => t.length - c) 0
      (le_of (by simp) (by simp)) (by simp) fun c hc => ?_
    simp -dsimp
    refine condX_dec (fun h' => ?_) (fun h' => ?_)
    · have hwc := wr (n := (c : Int) + 1) (by omega) (by omega)
      have hS := hSn c
      have hnd := hNd (c + 1)
      have hlen := hLen c
      have hm : T.length * t.length ≤ 64 * 8 := Nat.mul_le_mul hTl h8
      have hcs := caught_spec (q.1, q.2, c)
      have hL := iniL_snoc (plTo t.length T i c) (q.1, q.2, c)
      have hO := iniO_snoc (plTo t.length T i c) (q.1, q.2, c)
      rw [← hS] at hL hO
      have hlk : (iniL (plTo t.length T i c)).lookup (q.1, q.2, c) = none := by
        rw [lookup_none]
        rw [hS, List.nodup_append] at hnd
        intro z hz e
        obtain ⟨y, hy, rfl⟩ := List.mem_map.1 hz
        exact hnd.2.2 y (List.mem_filter.1 hy).1 (q.1, q.2, c) (by simp) e
      have hset : tset (.wide 3) (kP (q.1, q.2, c)) (.v (.int .i64 0)) (esOf (iniL (plTo t.length T i c))) = some (esOf (iniL (plTo t.length T i c) ++ [((q.1, q.2, c), 0)])) := tset_new (q.1, q.2, c) 0 _ hlk
      have hkey := key_kP (q.1, q.2, c)
      have hOl : (iniO (plTo t.length T i c)).length ≤ 600 := by
        have := List.length_filter_le (fun p => !cB p) (plTo t.length T i c)
        simp only [iniO]
        omega
      have hbd : ((iniO (plTo t.length T i c)).length + 1) * 24 ≤ 140737488355328 := by omega
      have hcb : cB (q.1, q.2, c) = (decide (c = q.1) || decide (c = q.2)) := rfl
      simp -dsimp
      first
        | refine CallG.by (hcs) ?_
        | refine CallGE.by (hcs) ?_
        | refine CallGB.by (hcs) ?_
      simp -dsimp
      refine condX_of (fun hx => ?_) (fun hx => ?_)
      · rw [hcb, hx, if_pos rfl] at hL hO
        simp -dsimp
        refine wk_draw 5 [] mixed (by kernel_rfl) ?_
        simp -dsimp [kP_fold, hset, hkey]
        refine LoopP_next (c + 1) (le_of (by simp [hwc]) (by simp [hL, hO])) h' (by omega)
      · rw [hcb, hx, if_neg (by simp)] at hL hO
        rw [List.append_nil] at hL
        simp -dsimp [hbd]
        refine LoopP_next (c + 1) (le_of (by simp [hwc]) (by simp [hL, hO])) h' (by omega)
    · have hc' : c = t.length := by omega
      subst hc'
      simp -dsimp
      refine LoopP_next (i + 1) (le_of (by simp [hw]) (by simp [hRow])) (by omega) (by omega)
  · have hi' : i = T.length := by omega
    rw [hi', ← hAll]
    simp -dsimp
    refine lg_frz [6] ?_
    have hG0 : ∀ p ∈ allPl t.length (k == 2), GPl t.length (k == 2) p := fun p hp => by
      obtain ⟨q, hq, hp⟩ := List.mem_flatMap.1 hp
      obtain ⟨c, hc, rfl⟩ := List.mem_map.1 hp
      rw [teamsL, prs_mem] at hq
      simp only [tmF, Bool.and_eq_true, decide_eq_true_eq, Bool.or_eq_true, beq_iff_eq] at hq
      exact ⟨hq.2.2.1, hq.2.1, List.mem_range.1 hc, by simpa using hq.2.2.2⟩
    have hN0 : (allPl t.length (k == 2)).Nodup := by
      rw [hAll]
      rcases Nat.eq_zero_or_pos T.length with h0 | h0
      · rw [List.eq_nil_of_length_eq_zero h0]
        simp [plTo]
      · have e : T.length = T.length - 1 + 1 := by omega
        rw [e, plTo_row t.length T (T.length - 1) (by omega)]
        exact plTo_nodup hTn (by omega)
    have hLn : (allPl t.length (k == 2)).length ≤ 600 := by
      have := plTo_len t.length T T.length 0
      have hm : T.length * t.length ≤ 64 * 8 := Nat.mul_le_mul hTl h8
      rw [hAll]
      omega
    generalize allPl t.length (k == 2) = A at *
    have hL0 : ∀ q ∈ iniO A, (iniL A).lookup q = none := fun q hq => by
      rw [lookup_none]
      intro z hz e
      obtain ⟨y, hy, rfl⟩ := List.mem_map.1 hz
      simp only at e
      subst e
      have h1 := (List.mem_filter.1 hy).2
      have h2 := (List.mem_filter.1 hq).2
      rw [h1] at h2
      cases h2
    have hO0 : 1 + (iniO A).length ≤ 700 := by
      have := List.length_filter_le (fun p => !cB p) A
      simp only [iniO]
      omega
    refine wk_loop (fun p : Nat × List (Pl × Nat) × List Pl => ⟨[(11, pI p.1), (6, .t .fz (ePls p.2.2)), (5, .ptr 5 0)],
        [(5, .blk 75 [.ptr 22 0]), (22, .blk 90 [.t .ro (eNs t), .t .ro (eI k), .omp 20]), (20, .tab .fz (esOf p.2.1))]⟩)
      (fun p => playF t (k == 2) = playGo t (k == 2) p.1 p.2.1 p.2.2 ∧ (∀ q ∈ p.2.2, GPl t.length (k == 2) q) ∧ p.2.2.Nodup ∧ (∀ q ∈ p.2.2, p.2.1.lookup q = none) ∧ p.1 + p.2.2.length ≤ 700) (fun p => p.2.2.length) (1, iniL A, iniO A)
      (le_of (by simp) (by simp)) ⟨hP, fun q hq => hG0 q (List.mem_filter.1 hq).1, hN0.filter _, hL0, hO0⟩ fun ⟨r, L, O⟩ ⟨hp, hG, hN, hL, hr⟩ => ?_
    dsimp only at hp hG hN hL hr
    have hwr := wr (n := (r : Int) + 1) (by omega) (by omega)
    simp -dsimp
    refine lg_adoptT 12 12 50 3 (by simp; rfl) (by simp) ?_
    refine lg_adoptT 13 13 50 3 (by simp; rfl) (by simp) ?_
    refine wk_loop (fun i : Nat => ⟨[(58, pI i), (57, pI O.length), (56, .t .fz (ePls O)), (12, .osl 12), (13, .osl 13), (11, pI r), (5, .ptr 5 0)],
        [(12, .row 50 3 .fz ((doneF t (k == 2) L (O.take i)).map cPl)), (13, .row 50 3 .fz ((leftF t (k == 2) L (O.take i)).map cPl)), (5, .blk 75 [.ptr 22 0]), (22, .blk 90 [.t .ro (eNs t), .t .ro (eI k), .omp 20]), (20, .tab .fz (esOf L))]⟩)
      (fun i => i ≤ O.length) (fun i => O.length - i) 0
      (le_of (by simp) (by simp [doneF, leftF])) (by simp) fun i hi => ?_
    simp -dsimp
    refine condX_dec (fun h => ?_) (fun h => ?_)
    · have hw := wr (n := (i : Int) + 1) (by omega) (by omega)
      have hil : (i : Int) < O.length := by omega
      have hq := gPl (l := O) h
      have htk := take_gPl (l := O) h
      have hGi : GPl t.length (k == 2) (O.getD i (0, 0, 0)) := hG _ (by simp [List.getD_eq_getElem?_getD, h])
      generalize O.getD i (0, 0, 0) = q at hq htk hGi
      have hst := steps_spec t ht k (.mp (esOf L)) q.1 q.2.1 (by have := hGi.1; have := hGi.2.1; omega) hGi.2.1 (raw_ne ht hs hGi)
      have hwin := win_spec t ht k L q hGi.2.2.1
      have hbd1 : ((doneF t (k == 2) L (O.take i)).length + 1) * 24 ≤ 140737488355328 := by
        have := List.length_filter_le (winB t (k == 2) L) (O.take i)
        have : (O.take i).length ≤ O.length := List.length_take_le' _ _
        simp only [doneF]
        omega
      have hbd2 : ((leftF t (k == 2) L (O.take i)).length + 1) * 24 ≤ 140737488355328 := by
        have := List.length_filter_le (fun p => !winB t (k == 2) L p) (O.take i)
        have : (O.take i).length ≤ O.length := List.length_take_le' _ _
        simp only [leftF]
        omega
      have hD : doneF t (k == 2) L (O.take (i + 1)) = doneF t (k == 2) L (O.take i) ++ if winB t (k == 2) L q then [q] else [] := by
        rw [htk]
        simp only [doneF, List.filter_append]
        cases hx : winB t (k == 2) L q <;> simp [hx]
      have hE : leftF t (k == 2) L (O.take (i + 1)) = leftF t (k == 2) L (O.take i) ++ if winB t (k == 2) L q then [] else [q] := by
        rw [htk]
        simp only [leftF, List.filter_append]
        cases hx : winB t (k == 2) L q <;> simp [hx]
      simp -dsimp [hil, hq]
      first
        | refine CallG.by (hst) ?_
        | refine CallGE.by (hst) ?_
        | refine CallGB.by (hst) ?_
      simp -dsimp
      first
        | refine CallG.by (hwin) ?_
        | refine CallGE.by (hwin) ?_
        | refine CallGB.by (hwin) ?_
      cases hx : winB t (k == 2) L q with
      | true =>
        rw [hx, if_pos rfl] at hD hE
        rw [List.append_nil] at hE
        simp -dsimp [hbd1]
        refine LoopP_next (i + 1) (le_of (by simp [hw]) (by simp [hD, hE])) h (by omega)
      | false =>
        rw [hx, if_neg (by simp)] at hD hE
        rw [List.append_nil] at hD
        simp -dsimp [hbd2]
        refine LoopP_next (i + 1) (le_of (by simp [hw]) (by simp [hD, hE])) h (by omega)
    · have hi' : i = O.length := by omega
      rw [hi', List.take_length]
      have hG2 := playGo.eq_1 t (k == 2) r L O
      have hDm : ∀ q ∈ doneF t (k == 2) L O, q ∈ O := fun q hq => (List.mem_filter.1 hq).1
      have hDn : (doneF t (k == 2) L O).Nodup := hN.filter _
      have hEm : ∀ q ∈ leftF t (k == 2) L O, q ∈ O ∧ q ∉ doneF t (k == 2) L O := fun q hq => by
        have h1 := List.mem_filter.1 hq
        refine ⟨h1.1, fun h2 => ?_⟩
        have h3 := (List.mem_filter.1 h2).2
        rw [h3] at h1
        cases h1.2
      have hEn : (leftF t (k == 2) L O).Nodup := hN.filter _
      have hlt := leftF_lt (t := t) (two := (k == 2)) (L := L) (O := O)
      have hDl : (doneF t (k == 2) L O).length ≤ O.length := List.length_filter_le _ _
      generalize doneF t (k == 2) L O = D at *
      generalize leftF t (k == 2) L O = E at *
      simp -dsimp
      refine lg_frz [12, 13] ?_
      refine wk_loop (fun j : Nat => ⟨[(81, pI j), (80, pI D.length), (79, .t .fz (ePls D)), (12, .t .fz (ePls D)), (13, .t .fz (ePls E)), (11, pI r), (5, .ptr 5 0)],
          [(5, .blk 75 [.ptr 22 0]), (22, .blk 90 [.t .ro (eNs t), .t .ro (eI k), .omp 20]), (20, .tab .fz (esOf (L ++ (D.take j).map fun p => (p, r))))]⟩)
        (fun j => j ≤ D.length) (fun j => D.length - j) 0
        (le_of (by simp) (by simp)) (by simp) fun j hj => ?_
      simp -dsimp
      refine condX_dec (fun h => ?_) (fun h => ?_)
      · have hw := wr (n := (j : Int) + 1) (by omega) (by omega)
        have hjl : (j : Int) < D.length := by omega
        have hq := gPl (l := D) h
        have htk := take_gPl (l := D) h
        have hqm : D.getD j (0, 0, 0) ∈ D := by simp [List.getD_eq_getElem?_getD, h]
        have hqn : D.getD j (0, 0, 0) ∉ D.take j := fun hx => by
          rw [← List.take_append_drop j D, List.nodup_append] at hDn
          refine hDn.2.2 _ hx _ ?_ rfl
          have e : D.getD j (0, 0, 0) = D[j] := by simp [List.getD_eq_getElem?_getD, h]
          rw [e, List.drop_eq_getElem_cons h]
          exact List.mem_cons_self
        generalize D.getD j (0, 0, 0) = q at hq htk hqm hqn
        have hlk : (L ++ (D.take j).map fun p => (p, r)).lookup q = none := by
          rw [lookup_none]
          intro z hz e
          rcases List.mem_append.1 hz with hz | hz
          · exact lookup_none.1 (hL q (hDm q hqm)) z hz e
          · obtain ⟨y, hy, rfl⟩ := List.mem_map.1 hz
            simp only at e
            subst e
            exact hqn hy
        have hset := tset_new q r _ hlk
        have hkey := key_kP q
        have hM : (L ++ (D.take j).map fun p => (p, r)) ++ [(q, r)] = L ++ (D.take (j + 1)).map fun p => (p, r) := by
          rw [htk]
          simp
        rw [hM] at hset
        obtain ⟨q1, q2, q3⟩ := q
        simp -dsimp [hjl, hq]
        refine wk_draw 6 [] mixed (by kernel_rfl) ?_
        simp -dsimp [kP_fold, hset, hkey]
        refine LoopP_next (j + 1) (le_of (by simp [hw]) (by simp)) h (by omega)
      · have hj' : j = D.length := by omega
        rw [hj', List.take_length]
        by_cases hD : D = []
        · subst hD
          rw [dif_pos rfl] at hG2
          simp -dsimp
          refine retP_c ?_
          simp -dsimp [hp, hG2]
        · rw [dif_neg hD] at hG2
          have hl0 : ((D.length : Int) == 0) = false := by
            have : D.length ≠ 0 := fun e => hD (List.eq_nil_of_length_eq_zero e)
            simp
            omega
          simp -dsimp [hl0]
          refine LoopP_next (r + 1, (L ++ D.map fun p => (p, r)), E) (le_of (by simp [hwr]) (by simp)) ⟨hp.trans hG2, fun q hq => hG q (hEm q hq).1, hEn, fun q hq => ?_, by have := hlt hD; simp only; omega⟩ (by have := hlt hD; simp only; omega)
          rw [lookup_none]
          intro z hz e
          rcases List.mem_append.1 hz with hz | hz
          · exact lookup_none.1 (hL q (hEm q hq).1) z hz e
          · obtain ⟨y, hy, rfl⟩ := List.mem_map.1 hz
            simp only at e
            subst e
            exact (hEm y hq).2 hy
end Go.Proofs.YtgcncgocdfioiaaDoor
