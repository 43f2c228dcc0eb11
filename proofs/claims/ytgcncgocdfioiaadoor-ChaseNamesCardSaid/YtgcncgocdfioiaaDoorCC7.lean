import Derived.Test.YtgcncgocdfioiaaDoorCC6
/- CC7: Move, Safe. -/
set_option linter.unusedVariables false
set_option linter.unusedSimpArgs false
set_option maxRecDepth 20000
namespace Go.Proofs.YtgcncgocdfioiaaDoor
open Go Go.PS
attribute [-simp] isKeyK List.map_take
/-- The first move that keeps to a rank. -/
def keepB (t : List Nat) (L : List (Pl × Nat)) (c : Nat) (r : Int) (q : Pr) : Bool := match afterF t L q.1 q.2 c with
  | some w => decide ((w : Int) < r)
  | none => false
def moveQ (t : List Nat) (two : Bool) (L : List (Pl × Nat)) (p : Pl) : Option Pr := (movesL t two p.1 p.2.1).find? (keepB t L p.2.2 (rkI L p))
def moveF (g : List Int) (k a b c : Int) : TL := if okG g k && okPl g.length k a b c then (match moveQ (townOf g) (k == 2) (rksF g k) (a.toNat, b.toNat, c.toNat) with
    | some q => .tup [.agg (cPr q), eI 0]
    | none => .tup [.agg [eI 0, eI 0], eI 4]) else .tup [.agg [eI 0, eI 0], eI 2]
theorem find_drop {α : Type} {p : α → Bool} (l : List α) (i : Nat) (d : α) (h : i < l.length) : (l.drop i).find? p = if p (l.getD i d) then some (l.getD i d) else (l.drop (i + 1)).find? p := by
  rw [List.drop_eq_getElem_cons h, List.find?_cons]
  have : l.getD i d = l[i] := by simp [List.getD_eq_getElem?_getD, h]
  rw [this]
  cases p l[i] <;> simp
theorem moves_len (t : List Nat) (ht : Twn t) (two : Bool) (a b : Nat) : (movesL t two a b).length ≤ 64 := by
  have h1 := prsTo_len t.length (mvF t two a b) t.length 0
  have h2 : t.length * t.length ≤ 8 * 8 := Nat.mul_le_mul ht.2.1 ht.2.1
  rw [prsTo_all] at h1
  rw [movesL]
  omega
theorem moveP_spec (g : List Int) (k a b c : Int) : PCall Tryd.prog 29 [eIs g, eI k, .agg [eI a, eI b, eI c]] (.t .fz (moveF g k a b c)) [] := by
  refine pcall_wp _ Tryd.func29 rfl (by kernel_rfl) rfl ?_
  have hb := begin_spec g k
  have hF : moveF g k a b c = if okG g k && okPl g.length k a b c then (match moveQ (townOf g) (k == 2) (rksF g k) (a.toNat, b.toNat, c.toNat) with
    | some q => .tup [.agg (cPr q), eI 0]
    | none => .tup [.agg [eI 0, eI 0], eI 4]) else .tup [.agg [eI 0, eI 0], eI 2] := rfl
  cases ho : okG g k with
  | false =>
    rw [begin_bad ho] at hb
    rw [ho] at hF
    simp -dsimp
    first
      | refine CallG.by (hb) ?_
      | refine CallGE.by (hb) ?_
      | refine CallGB.by (hb) ?_
    simp -dsimp
    refine retP_c ?_
    simp -dsimp [hF]
  | true =>
    rw [begin_ok ho] at hb
    have ht := valid_town (ok_valid ho)
    have hsl := slf_town g
    have hp := place_spec (townOf g) ht k (.mp (esOf (rksF g k))) a b c
    have hgl := town_len g
    rw [hgl] at hp
    cases hpl : okPl g.length k a b c with
    | false =>
      rw [hpl] at hp
      rw [ho, hpl] at hF
      simp -dsimp
      first
        | refine CallG.by (hb) ?_
        | refine CallGE.by (hb) ?_
        | refine CallGB.by (hb) ?_
      simp -dsimp [gmF]
      first
        | refine CallG.by (hp) ?_
        | refine CallGE.by (hp) ?_
        | refine CallGB.by (hp) ?_
      simp -dsimp
      refine retP_c ?_
      simp -dsimp [hF]
    | true =>
      rw [hpl] at hp
      rw [ho, hpl] at hF
      obtain ⟨ha, hb', hc, hG⟩ := okPl_nat hpl
      rw [← hgl] at hG
      generalize a.toNat = a' at *
      generalize b.toNat = b' at *
      generalize c.toNat = c' at *
      subst ha hb' hc
      have hr := rank_spec (townOf g) k (rksF g k) (a', b', c')
      simp only [ePl, cPl] at hr
      have hG0 := hG
      obtain ⟨g1, g2, g3, g4⟩ := hG0
      simp only at g1 g2 g3
      have g5 : a' < (townOf g).length := by omega
      have hne := raw_ne ht hsl hG
      simp only at hne
      have hst := steps_spec (townOf g) ht k (.mp (esOf (rksF g k))) a' b' g5 g2 hne
      have haf := fun x y => after_spec (townOf g) ht k (rksF g k) x y c' g3
      have hQ : moveQ (townOf g) (k == 2) (rksF g k) (a', b', c') = (movesL (townOf g) (k == 2) a' b').find? (keepB (townOf g) (rksF g k) c' (rkI (rksF g k) (a', b', c'))) := rfl
      have hlen := moves_len (townOf g) ht (k == 2) a' b'
      rw [hQ] at hF
      have hgm : gmF g k = eC (townOf g) k (.mp (esOf (rksF g k))) := rfl
      rw [hgm] at hb
      generalize rksF g k = L at *
      generalize townOf g = t at *
      generalize rkI L (a', b', c') = r at *
      generalize movesL t (k == 2) a' b' = M at *
      simp -dsimp
      first
        | refine CallG.by (hb) ?_
        | refine CallGE.by (hb) ?_
        | refine CallGB.by (hb) ?_
      simp -dsimp
      first
        | refine CallG.by (hp) ?_
        | refine CallGE.by (hp) ?_
        | refine CallGB.by (hp) ?_
      simp -dsimp
      first
        | refine CallG.by (hr) ?_
        | refine CallGE.by (hr) ?_
        | refine CallGB.by (hr) ?_
      simp -dsimp
      first
        | refine CallG.by (hst) ?_
        | refine CallGE.by (hst) ?_
        | refine CallGB.by (hst) ?_
      simp -dsimp
      refine wk_loop (fun i : Nat => ⟨[(40, pI i), (39, pI M.length), (38, .t .fz (ePrs M)), (10, pI r), (8, .t .ro (eC t k (.mp (esOf L)))), (5, .ptr 5 0), (6, .ptr 6 0)],
          [(5, .blk 50 [.t .ro (eI a'), .t .ro (eI b'), .t .ro (eI c')]), (6, .blk 30 [PV.t .fz (eI 0), PV.t .fz (eI 0)])]⟩)
        (fun i => i ≤ M.length ∧ M.find? (keepB t L c' r) = (M.drop i).find? (keepB t L c' r)) (fun i => M.length - i) 0
        (le_of (by simp) (by simp)) ⟨by simp, by simp⟩ fun i ⟨hi, hfd⟩ => ?_
      simp -dsimp
      refine condX_dec (fun h => ?_) (fun h => ?_)
      · have hw := wr (n := (i : Int) + 1) (by omega) (by omega)
        have hil : (i : Int) < M.length := by omega
        have hq := gP (l := M) h
        rw [find_drop M i (0, 0) h] at hfd
        generalize M.getD i (0, 0) = q at hq hfd
        have hA := haf q.1 q.2
        have hK : keepB t L c' r q = match afterF t L q.1 q.2 c' with
          | some w => decide ((w : Int) < r)
          | none => false := rfl
        simp -dsimp [hil, hq]
        first
          | refine CallG.by (hA) ?_
          | refine CallGE.by (hA) ?_
          | refine CallGB.by (hA) ?_
        cases hx : afterF t L q.1 q.2 c' with
        | none =>
          rw [hx] at hK
          rw [hK] at hfd
          simp -dsimp [aftT]
          refine LoopP_next (i + 1) (le_of (by simp [hw]) (by simp)) ⟨h, by simpa using hfd⟩ (by omega)
        | some w =>
          rw [hx] at hK
          by_cases hwr : (w : Int) < r
          · simp only [decide_eq_true hwr] at hK
            rw [hK, if_pos rfl] at hfd
            rw [hfd] at hF
            simp -dsimp [aftT, hwr]
            refine retP_c ?_
            simp -dsimp [hF]
          · simp only [decide_eq_false hwr] at hK
            rw [hK] at hfd
            simp -dsimp [aftT, hwr]
            refine LoopP_next (i + 1) (le_of (by simp [hw]) (by simp)) ⟨h, by simpa using hfd⟩ (by omega)
      · have hi' : i = M.length := by omega
        rw [hi', List.drop_length, List.find?_nil] at hfd
        rw [hfd] at hF
        simp -dsimp
        refine retP_c ?_
        simp -dsimp [hF]
/-- The places from which the cat escapes. -/
def safeL (t : List Nat) (two : Bool) (L : List (Pl × Nat)) : List Pl := (allPl t.length two).filter fun p => decide (rkI L p < 0)
def safeF (g : List Int) (k : Int) : TL := if okG g k then (if 0 ≤ (strF g k).2 then .tup [.v (.slice none 0 0), eI 4] else .tup [ePls (safeL (townOf g) (k == 2) (rksF g k)), eI 0]) else .tup [.v (.slice none 0 0), eI 2]
theorem safe_spec (g : List Int) (k : Int) : PCall Tryd.prog 24 [eIs g, eI k] (.t .fz (safeF g k)) [] := by
  refine pcall_wp _ Tryd.func24 rfl (by kernel_rfl) rfl ?_
  have hb := begin_spec g k
  have hF : safeF g k = if okG g k then (if 0 ≤ (strF g k).2 then .tup [.v (.slice none 0 0), eI 4] else .tup [ePls (safeL (townOf g) (k == 2) (rksF g k)), eI 0]) else .tup [.v (.slice none 0 0), eI 2] := rfl
  cases ho : okG g k with
  | false =>
    rw [begin_bad ho] at hb
    rw [ho] at hF
    simp -dsimp
    first
      | refine CallG.by (hb) ?_
      | refine CallGE.by (hb) ?_
      | refine CallGB.by (hb) ?_
    simp -dsimp
    refine retP_c ?_
    simp -dsimp [hF]
  | true =>
    rw [begin_ok ho] at hb
    rw [ho] at hF
    have ht := valid_town (ok_valid ho)
    have hs := start_spec (townOf g) ht k (rksF g k)
    rw [town_len] at hs
    have e : startF g.length (k == 2) (rksF g k) = strF g k := rfl
    rw [e] at hs
    generalize strF g k = q at *
    by_cases hn : 0 ≤ q.2
    · rw [if_pos hn] at hF
      simp -dsimp
      first
        | refine CallG.by (hb) ?_
        | refine CallGE.by (hb) ?_
        | refine CallGB.by (hb) ?_
      simp -dsimp [gmF]
      first
        | refine CallG.by (hs) ?_
        | refine CallGE.by (hs) ?_
        | refine CallGB.by (hs) ?_
      simp -dsimp [hn]
      refine retP_c ?_
      simp -dsimp [hF]
    rw [if_pos rfl, if_neg hn] at hF
    have hS : safeL (townOf g) (k == 2) (rksF g k) = (allPl (townOf g).length (k == 2)).filter fun p => decide (rkI (rksF g k) p < 0) := rfl
    have hgm : gmF g k = eC (townOf g) k (.mp (esOf (rksF g k))) := rfl
    rw [hgm] at hb
    have hT := teams_spec (townOf g) ht k (.mp (esOf (rksF g k)))
    have hTl : (teamsL (townOf g).length (k == 2)).length ≤ 64 := by
      have h1 := prsTo_len (townOf g).length (tmF (k == 2)) (townOf g).length 0
      have h2 : (townOf g).length * (townOf g).length ≤ 8 * 8 := Nat.mul_le_mul ht.2.1 ht.2.1
      rw [prsTo_all] at h1
      rw [teamsL]
      omega
    have hAll : allPl (townOf g).length (k == 2) = plTo (townOf g).length (teamsL (townOf g).length (k == 2)) (teamsL (townOf g).length (k == 2)).length 0 := by simp [allPl, plTo]
    rw [hAll] at hS
    have hr := fun p => rank_spec (townOf g) k (rksF g k) p
    generalize rksF g k = L at *
    generalize townOf g = t at *
    generalize teamsL t.length (k == 2) = T at *
    have h8 := ht.2.1
    simp -dsimp
    first
      | refine CallG.by (hb) ?_
      | refine CallGE.by (hb) ?_
      | refine CallGB.by (hb) ?_
    simp -dsimp
    first
      | refine CallG.by (hs) ?_
      | refine CallGE.by (hs) ?_
      | refine CallGB.by (hs) ?_
    simp -dsimp [hn]
    first
      | refine CallG.by (hT) ?_
      | refine CallGE.by (hT) ?_
      | refine CallGB.by (hT) ?_
    simp -dsimp
    refine lg_adoptT 10 10 50 3 (by simp; rfl) (by simp) ?_
    refine wk_loop (fun i : Nat => ⟨[(33, pI i), (32, pI T.length), (31, .t .fz (ePrs T)), (10, .osl 10), (6, .t .ro (eC t k (.mp (esOf L))))],
        [(10, .row 50 3 .fz (((plTo t.length T i 0).filter fun p => decide (rkI L p < 0)).map cPl))]⟩)
      (fun i => i ≤ T.length) (fun i => T.length - i) 0
      (le_of (by simp) (by simp [plTo])) (by simp) fun i hi => ?_
    simp -dsimp
    refine condX_dec (fun h => ?_) (fun h => ?_)
    · have hw := wr (n := (i : Int) + 1) (by omega) (by omega)
      have hil : (i : Int) < T.length := by omega
      have hq := gP (l := T) h
      have hSn := fun c => plTo_succ t.length T i c
      have hRow := plTo_row t.length T i h
      have hLen := fun c => plTo_len t.length T i c
      generalize T.getD i (0, 0) = q at hq hSn
      simp -dsimp [hil, hq]
      refine wk_loop (fun c : Nat => ⟨[(42, pI c), (41, pI t.length), (12, .ptr 12 0), (33, pI i), (32, pI T.length), (31, .t .fz (ePrs T)), (10, .osl 10), (6, .t .ro (eC t k (.mp (esOf L))))],
          [(12, .blk 30 [PV.t .fz (eI q.1), PV.t .fz (eI q.2)]), (10, .row 50 3 .fz (((plTo t.length T i c).filter fun p => decide (rkI L p < 0)).map cPl))]⟩)
        (fun c => c ≤ t.length) (fun c => t.length - c) 0
        (le_of (by simp) (by simp)) (by simp) fun c hc => ?_
      simp -dsimp
      refine condX_dec (fun h' => ?_) (fun h' => ?_)
      · have hwc := wr (n := (c : Int) + 1) (by omega) (by omega)
        have hS := hSn c
        have hlen := hLen c
        have hm : T.length * t.length ≤ 64 * 8 := Nat.mul_le_mul hTl h8
        have hfl := List.length_filter_le (fun p => decide (rkI L p < 0)) (plTo t.length T i c)
        have hbd : (((plTo t.length T i c).filter fun p => decide (rkI L p < 0)).length + 1) * 24 ≤ 140737488355328 := by omega
        have hrk := hr (q.1, q.2, c)
        have hO : (plTo t.length T i (c + 1)).filter (fun p => decide (rkI L p < 0)) = (plTo t.length T i c).filter (fun p => decide (rkI L p < 0)) ++ if decide (rkI L (q.1, q.2, c) < 0) then [(q.1, q.2, c)] else [] := by
          rw [hS, List.filter_append]
          cases hx : decide (rkI L (q.1, q.2, c) < 0) <;> simp only [List.filter_cons, List.filter_nil, hx] <;> simp
        generalize rkI L (q.1, q.2, c) = r at *
        simp -dsimp
        first
          | refine CallG.by (hrk) ?_
          | refine CallGE.by (hrk) ?_
          | refine CallGB.by (hrk) ?_
        simp -dsimp
        by_cases hx : r < 0
        · rw [decide_eq_true hx, if_pos rfl] at hO
          simp -dsimp [hx, hbd]
          refine LoopP_next (c + 1) (le_of (by simp [hwc]) (by simp [hO])) h' (by omega)
        · rw [decide_eq_false hx, if_neg (by simp), List.append_nil] at hO
          simp -dsimp [hx]
          refine LoopP_next (c + 1) (le_of (by simp [hwc]) (by simp [hO])) h' (by omega)
      · have hc' : c = t.length := by omega
        subst hc'
        simp -dsimp
        refine LoopP_next (i + 1) (le_of (by simp [hw]) (by simp [hRow])) (by omega) (by omega)
    · have hi' : i = T.length := by omega
      rw [hi', ← hS]
      simp -dsimp
      refine retP_c ?_
      simp -dsimp [hF]
end Go.Proofs.YtgcncgocdfioiaaDoor
