import Derived.Test.YtgcncgocdfioiaaDoorCR6
/- CR7: the reference: Rounds, Move. -/
set_option linter.unusedVariables false
set_option linter.unusedSimpArgs false
set_option maxRecDepth 20000
namespace Go.Proofs.YtgcncgocdfioiaaDoor
open Go Go.PS
attribute [-simp] isKeyK List.map_take
def wacc (f : Nat → Int) : Nat → Int
  | 0 => 0
  | c + 1 => if f c < 0 ∨ wacc f c < 0 then -1 else (if wacc f c < f c then f c else wacc f c)
theorem wacc_ws (f : Nat → Int) (n : Nat) : ∀ c, c ≤ n → (wacc f c < 0 → wacc f c = -1 ∧ wsGo f (List.range n) 0 = -1) ∧ (0 ≤ wacc f c → wsGo f (List.range n) 0 = wsGo f ((List.range n).drop c) (wacc f c))
  | 0, _ => by simp [wacc]
  | c + 1, hc => by
    obtain ⟨h1, h2⟩ := wacc_ws f n c (by omega)
    have hg := wsGo_at f n c (wacc f c) (by omega)
    rw [wacc]
    by_cases hw : wacc f c < 0
    · rw [if_pos (.inr hw)]
      exact ⟨fun _ => ⟨rfl, (h1 hw).2⟩, fun h => by omega⟩
    · have h3 := h2 (by omega)
      by_cases hf : f c < 0
      · rw [if_pos (.inl hf)]
        rw [if_pos hf] at hg
        exact ⟨fun _ => ⟨rfl, h3.trans hg⟩, fun h => by omega⟩
      · rw [if_neg (by omega)]
        rw [if_neg hf] at hg
        exact ⟨fun h => by split at h <;> omega, fun _ => h3.trans hg⟩
theorem wacc_worst (n : Nat) (L : List (Pl × Nat)) (a b : Nat) : wacc (fun c => rkI L (a, b, c)) n = worstF n L a b := by
  obtain ⟨h1, h2⟩ := wacc_ws (fun c => rkI L (a, b, c)) n n (Nat.le_refl _)
  rw [worstF]
  by_cases h : wacc (fun c => rkI L (a, b, c)) n < 0
  · obtain ⟨h3, h4⟩ := h1 h
    rw [h3, h4]
  · have := h2 (by omega)
    rw [List.drop_of_length_le (by simp), wsGo] at this
    exact this.symm
theorem stF_snoc (W : Pr → Int) (p : Pr) : ∀ (l : List Pr) (q : Pr × Int), stF W (l ++ [p]) q = if 0 ≤ W p ∧ ((stF W l q).2 < 0 ∨ W p < (stF W l q).2) then (p, W p) else stF W l q
  | [], q => rfl
  | x :: l, q => by
    rw [List.cons_append, stF, stF, stF_snoc W p l]
def rroundsF (g : List Int) (k : Int) : TL := if (strF g k).2 < 0 then .tup [eI 0, .agg [eI 0, eI 0], eI 4] else .tup [eI (strF g k).2, .agg (cPr (strF g k).1), eI 0]
theorem rrounds_spec (g : List Int) (hg : isgB g = true) (k : Int) (hk : (k == 1) = true ∨ (k == 2) = true) : PCall Tryd.prog 20 [eIs g, eI k] (.t .fz (rroundsF g k)) [] := by
  obtain ⟨ht, hl, _⟩ := isg_facts hg
  have h8 := ht.2.1
  refine pcall_wp _ Tryd.func20 rfl (by kernel_rfl) rfl ?_
  have hF : rroundsF g k = if (strF g k).2 < 0 then .tup [eI 0, .agg [eI 0, eI 0], eI 4] else .tup [eI (strF g k).2, .agg (cPr (strF g k).1), eI 0] := rfl
  have hrk := rank0_spec g hg k
  have hS : strF g k = stF (fun p => worstF g.length (rksF g k) p.1 p.2) (prs g.length (tmF (k == 2))) ((0, 0), -1) := rfl
  have hK : rksF g k = playF (townOf g) (k == 2) := rfl
  rw [← hK] at hrk
  have hT : ∀ a b : Nat, a ≤ b → (tmF (k == 2) a b = !((k == 1) && ((a : Int) != (b : Int)))) := fun a b hab => by
    have h1 : ((a : Int) != (b : Int)) = !(a == b) := by rw [Bool.eq_iff_iff]; simp; omega
    rw [tmF, decide_eq_true hab, Bool.true_and, h1]
    rcases hk with hk | hk
    · have : (k == 2) = false := by simp at hk ⊢; omega
      rw [hk, this]
      cases (a == b) <;> rfl
    · have : (k == 1) = false := by simp at hk ⊢; omega
      rw [hk, this]
      rfl
  have hof : ∀ a b c : Nat, a ≤ b → b < g.length → c < g.length → tmF (k == 2) a b = true → PCall Tryd.prog 53 [eRk (arrF (rkA (allPl g.length (k == 2)) (rksF g k))), .agg (cPl (a, b, c))] (pI (rkI (rksF g k) (a, b, c))) [] := fun a b c h1 h2 h3 h4 => by
    have h5 : P8 (a, b, c) := ⟨by simp only; omega, by simp only; omega, by simp only; omega⟩
    have := rof_spec (arrF (rkA (allPl g.length (k == 2)) (rksF g k))) (arrF_len _) (a, b, c) h5
    rw [arrF_get _ h5, rkA, if_pos] at this
    · exact this
    · rw [allPl_mem]
      simp only [tmF, Bool.and_eq_true, decide_eq_true_eq, Bool.or_eq_true, beq_iff_eq] at h4
      exact ⟨h1, h2, h3, by simpa using h4.2⟩
  generalize arrF (rkA (allPl g.length (k == 2)) (rksF g k)) = R at *
  generalize rksF g k = L at *
  have hle : ∀ a b, tmF (k == 2) a b = true → a ≤ b := fun a b => tmF_le
  generalize hW : (fun p : Pr => worstF g.length L p.1 p.2) = W at *
  generalize hf : tmF (k == 2) = f at *
  simp -dsimp
  first
    | refine CallG.by (hrk) ?_
    | refine CallGE.by (hrk) ?_
    | refine CallGB.by (hrk) ?_
  simp -dsimp
  refine wk_loop (fun p : Nat × Pr × Int => ⟨[(21, pI p.1), (20, pI g.length), (8, pI p.2.2), (9, .ptr 9 0), (7, .t .fz (eRk R)), (0, .t .ro (eIs g)), (1, .t .ro (eI k)), (5, .ptr 5 0)],
      [(9, .blk 30 [PV.t .fz (eI p.2.1.1), PV.t .fz (eI p.2.1.2)]), (5, .blk 30 [PV.t .fz (eI 0), PV.t .fz (eI 0)])]⟩)
    (fun p => p.1 ≤ g.length ∧ p.2 = stF W (prsTo g.length f p.1 0) ((0, 0), -1)) (fun p => g.length - p.1) (0, (0, 0), -1)
    (le_of (by simp) (by simp)) ⟨by simp, by simp [prsTo, stF]⟩ fun ⟨i, best, w⟩ ⟨hi, hq⟩ => ?_
  dsimp only at hi hq
  simp -dsimp
  refine condX_dec (fun h => ?_) (fun h => ?_)
  · have hw := wr (n := (i : Int) + 1) (by omega) (by omega)
    rw [prsTo_diag hle] at hq
    simp -dsimp
    refine wk_loop (fun p : Nat × Pr × Int => ⟨[(10, pI i), (11, pI p.1), (21, pI i), (20, pI g.length), (8, pI p.2.2), (9, .ptr 9 0), (7, .t .fz (eRk R)), (0, .t .ro (eIs g)), (1, .t .ro (eI k)), (5, .ptr 5 0)],
        [(9, .blk 30 [PV.t .fz (eI p.2.1.1), PV.t .fz (eI p.2.1.2)]), (5, .blk 30 [PV.t .fz (eI 0), PV.t .fz (eI 0)])]⟩)
      (fun p => i ≤ p.1 ∧ p.1 ≤ g.length ∧ p.2 = stF W (prsTo g.length f i p.1) ((0, 0), -1)) (fun p => g.length - p.1) (i, best, w)
      (le_of (by simp) (by simp)) ⟨by simp, hi, hq⟩ fun ⟨b, best, w⟩ ⟨hib, hb, hq⟩ => ?_
    dsimp only at hib hb hq
    simp -dsimp
    refine condX_dec (fun h' => ?_) (fun h' => ?_)
    · have hwb := wr (n := (b : Int) + 1) (by omega) (by omega)
      have hpS := prsTo_succ g.length f i b
      have hTi := hT i b hib
      cases hfi : f i b with
      | false =>
        rw [hfi] at hpS hTi
        rw [if_neg (by simp), List.append_nil] at hpS
        have c1 : (k == 1) = true := by
          cases hk1 : (k == 1) with
          | true => rfl
          | false =>
            rw [hk1] at hTi
            cases hTi
        have c2 : ((i : Int) != (b : Int)) = true := by rw [c1] at hTi; simpa using hTi
        simp -dsimp [c1, c2]
        refine LoopP_next (b + 1, best, w) (le_of (by simp [hwb]) (by simp)) ⟨by omega, h', by rw [hpS]; exact hq⟩ (by simp only; omega)
      | true =>
        rw [hfi] at hpS hTi
        rw [if_pos rfl] at hpS
        have hsn := stF_snoc W (i, b) (prsTo g.length f i b) ((0, 0), -1)
        rw [← hpS, ← hq] at hsn
        have hWi : W (i, b) = wacc (fun c => rkI L (i, b, c)) g.length := by rw [← hW, wacc_worst]
        have hofi := fun c hc => hof i b c hib h' hc hfi
        generalize hrf : (fun c => rkI L (i, b, c)) = rf at *
        have hofi : ∀ c, c < g.length → PCall Tryd.prog 53 [eRk R, .agg (cPl (i, b, c))] (pI (rf c)) [] := fun c hc => by
          rw [← hrf]
          exact hofi c hc
        have hcase : ((k == 1) = false ∧ True) ∨ ((k == 1) = true ∧ ((i : Int) != (b : Int)) = false) := by
          cases c1 : (k == 1)
          · exact .inl ⟨rfl, trivial⟩
          · rw [c1] at hTi
            exact .inr ⟨rfl, by simpa using hTi⟩
        rcases hcase with ⟨c1, c2⟩ | ⟨c1, c2⟩
        all_goals
          simp -dsimp [c1, c2]
          refine wk_loop (fun c : Nat => ⟨[(40, pI c), (39, pI g.length), (12, pI (wacc rf c)), (10, pI i), (11, pI b), (21, pI i), (20, pI g.length), (8, pI w), (9, .ptr 9 0), (7, .t .fz (eRk R)), (0, .t .ro (eIs g)), (1, .t .ro (eI k)), (5, .ptr 5 0)],
              [(9, .blk 30 [PV.t .fz (eI best.1), PV.t .fz (eI best.2)]), (5, .blk 30 [PV.t .fz (eI 0), PV.t .fz (eI 0)])]⟩)
            (fun c => c ≤ g.length) (fun c => g.length - c) 0
            (le_of (by simp [wacc]) (by simp)) (by omega) fun c hc => ?_
          simp -dsimp
          refine condX_dec (fun h2 => ?_) (fun h2 => ?_)
          · have hwc := wr (n := (c : Int) + 1) (by omega) (by omega)
            have hoc := hofi c h2
            have hac : wacc rf (c + 1) = if rf c < 0 ∨ wacc rf c < 0 then -1 else (if wacc rf c < rf c then rf c else wacc rf c) := rfl
            generalize rf c = x at *
            generalize wacc rf c = y at *
            simp -dsimp
            first
              | refine CallG.by (hoc) ?_
              | refine CallGE.by (hoc) ?_
              | refine CallGB.by (hoc) ?_
            by_cases hx : x < 0
            · rw [if_pos (.inl hx)] at hac
              simp -dsimp [hx]
              refine LoopP_next (c + 1) (le_of (by simp [hwc, hac]) (by simp)) h2 (by omega)
            by_cases hy : y < 0
            · rw [if_pos (.inr hy)] at hac
              simp -dsimp [hx, hy]
              refine LoopP_next (c + 1) (le_of (by simp [hwc, hac]) (by simp)) h2 (by omega)
            · rw [if_neg (by omega)] at hac
              simp -dsimp [hx, hy]
              refine LoopP_next (c + 1) (le_of (by simp [hwc, hac]) (by simp)) h2 (by omega)
          · have hc' : c = g.length := by omega
            subst hc'
            rw [hWi] at hsn
            generalize wacc rf g.length = x at *
            by_cases hx : 0 ≤ x
            · by_cases hy : w < 0
              · rw [if_pos ⟨hx, .inl hy⟩] at hsn
                simp -dsimp [hx, hy]
                refine LoopP_next (b + 1, (i, b), x) (le_of (by simp [hwb]) (by simp)) ⟨by omega, h', hsn.symm⟩ (by simp only; omega)
              · by_cases hz : x < w
                · rw [if_pos ⟨hx, .inr hz⟩] at hsn
                  simp -dsimp [hx, hy, hz]
                  refine LoopP_next (b + 1, (i, b), x) (le_of (by simp [hwb]) (by simp)) ⟨by omega, h', hsn.symm⟩ (by simp only; omega)
                · rw [if_neg (by simp only; omega)] at hsn
                  simp -dsimp [hx, hy, hz]
                  refine LoopP_next (b + 1, best, w) (le_of (by simp [hwb]) (by simp)) ⟨by omega, h', hsn.symm⟩ (by simp only; omega)
            · rw [if_neg (by omega)] at hsn
              simp -dsimp [hx]
              refine LoopP_next (b + 1, best, w) (le_of (by simp [hwb]) (by simp)) ⟨by omega, h', hsn.symm⟩ (by simp only; omega)
    · have hb' : b = g.length := by omega
      have hR := prsTo_row g.length f i 0 (fun _ h => by omega)
      rw [hb'] at hq
      simp -dsimp
      refine LoopP_next (i + 1, best, w) (le_of (by simp [hw]) (by simp)) ⟨h, by rw [hR]; exact hq⟩ (by simp only; omega)
  · have hi' : i = g.length := by omega
    rw [hi', prsTo_all] at hq
    rw [hS, ← hq] at hF
    by_cases hn : w < 0
    · rw [if_pos hn] at hF
      simp -dsimp [hn]
      refine retP_c ?_
      simp -dsimp [hF]
    · rw [if_neg hn] at hF
      simp -dsimp [hn]
      refine wk_draw 3 [] mixed (by kernel_rfl) ?_
      simp -dsimp
      refine retP_c ?_
      simp -dsimp [hF]
/-- A cat's move that keeps to a rank. -/
def kpB (L : List (Pl × Nat)) (r : Int) (q : Pr) (x : Nat) : Bool := decide (0 ≤ rkI L (q.1, q.2, x)) && decide (rkI L (q.1, q.2, x) < r)
theorem keep_eq {t : List Nat} {L : List (Pl × Nat)} {c : Nat} {r : Int} (hr : 1 ≤ r) (q : Pr) : keepB t L c r q = (cB (onC c q) || (bitsL (t.getD c 0)).all (kpB L r q)) := by
  have hcb : cB (onC c q) = caughtB q.1 q.2 c := rfl
  rw [hcb, keepB, afterF]
  by_cases hcc : caughtB q.1 q.2 c = true
  · rw [hcc, if_pos rfl]
    simp
    omega
  · have hcc' : caughtB q.1 q.2 c = false := by simpa using hcc
    rw [if_neg hcc, hcc', Bool.false_or]
    have hs := aftGo_some (L := L) (a := q.1) (b := q.2) (l := bitsL (t.getD c 0)) (w := 0)
    cases hv : aftGo L q.1 q.2 (bitsL (t.getD c 0)) 0 with
    | none =>
      rw [hv] at hs
      simp only
      symm
      rw [List.all_eq_false]
      apply Classical.byContradiction
      intro hn
      have : ∀ x ∈ bitsL (t.getD c 0), (L.lookup (q.1, q.2, x)).isSome = true := by
        intro x hx
        cases hl : L.lookup (q.1, q.2, x) with
        | some r' => rfl
        | none =>
          exfalso
          apply hn
          refine ⟨x, hx, ?_⟩
          have := rkI_neg.2 hl
          rw [kpB, decide_eq_false (by omega)]
          simp
      have := hs.2 this
      cases this
    | some v =>
      rw [hv] at hs
      have hs := hs.1 rfl
      have hval := aftGo_val hv (r - 1).toNat
      simp only
      rw [Bool.eq_iff_iff, decide_eq_true_iff, List.all_eq_true]
      constructor
      · intro h x hx
        have h1 := (hval.1 (by omega)).2 x hx
        have h2 := hs x hx
        cases hl : L.lookup (q.1, q.2, x) with
        | none => rw [hl] at h2; cases h2
        | some r' =>
          have h3 := h1 r' hl
          have h4 : rkI L (q.1, q.2, x) = r' := by rw [rkI, hl]
          rw [kpB, h4, decide_eq_true (by omega), decide_eq_true (by omega)]
          rfl
      · intro h
        have := hval.2 ⟨by omega, fun x hx r' hl => by
          have h1 := h x hx
          have h4 : rkI L (q.1, q.2, x) = r' := by rw [rkI, hl]
          rw [kpB, h4, Bool.and_eq_true, decide_eq_true_iff, decide_eq_true_iff] at h1
          omega⟩
        omega
def rmoveF (t : List Nat) (two : Bool) (L : List (Pl × Nat)) (p : Pl) : TL := match moveQ t two L p with
  | some q => .tup [.agg (cPr q), eI 0]
  | none => .tup [.agg [eI 0, eI 0], eI 4]
theorem takeAll_snoc {A : List Nat} {f : Nat → Bool} {i : Nat} (h : i < A.length) : (A.take (i + 1)).all f = ((A.take i).all f && f (A.getD i 0)) := by
  have e : A.getD i 0 = A[i] := by simp [List.getD_eq_getElem?_getD, h]
  rw [List.take_add_one, List.all_append, e]
  simp [h]
theorem rmove_spec (g : List Int) (hg : isgB g = true) (k : Int) (p : Pl) (hp : GPl g.length (k == 2) p) : PCall Tryd.prog 31 [eIs g, eI k, .agg (cPl p)] (.t .fz (rmoveF (townOf g) (k == 2) (rksF g k) p)) [] := by
  obtain ⟨ht, hl, _⟩ := isg_facts hg
  have h8 := ht.2.1
  refine pcall_wp _ Tryd.func31 rfl (by kernel_rfl) rfl ?_
  have hQ : moveQ (townOf g) (k == 2) (rksF g k) p = (movesL (townOf g) (k == 2) p.1 p.2.1).find? (keepB (townOf g) (rksF g k) p.2.2 (rkI (rksF g k) p)) := rfl
  have hF : rmoveF (townOf g) (k == 2) (rksF g k) p = match moveQ (townOf g) (k == 2) (rksF g k) p with
    | some q => .tup [.agg (cPr q), eI 0]
    | none => .tup [.agg [eI 0, eI 0], eI 4] := rfl
  have hrk := rank0_spec g hg k
  have hK : rksF g k = playF (townOf g) (k == 2) := rfl
  rw [← hK] at hrk
  have hof : ∀ q, GPl g.length (k == 2) q → PCall Tryd.prog 53 [eRk (arrF (rkA (allPl g.length (k == 2)) (rksF g k))), .agg (cPl q)] (pI (rkI (rksF g k) q)) [] := fun q hq => by
    obtain ⟨h1, h2, h3, h4⟩ := id hq
    have h5 : P8 q := ⟨by omega, by omega, by omega⟩
    have := rof_spec (arrF (rkA (allPl g.length (k == 2)) (rksF g k))) (arrF_len _) q h5
    rw [arrF_get _ h5, rkA, if_pos (allPl_mem.2 hq)] at this
    exact this
  generalize arrF (rkA (allPl g.length (k == 2)) (rksF g k)) = R at *
  obtain ⟨g1, g2, g3, g4⟩ := id hp
  have hmvp := rmoves_spec g hg k p (by omega) g2
  have hofp := hof p hp
  have hmm : ∀ q ∈ movesL (townOf g) (k == 2) p.1 p.2.1, q.1 ≤ q.2 ∧ q.2 < g.length ∧ ((k == 2) = true ∨ q.1 = q.2) := fun q hq => by
    rw [moves_mem, hl] at hq
    exact ⟨hq.2.2.1, hq.2.1, hq.2.2.2.2⟩
  have hke := fun hr q => keep_eq (t := townOf g) (L := rksF g k) (c := p.2.2) (r := rkI (rksF g k) p) hr q
  have hfl : ∀ q : Pr, PCall Tryd.prog 63 [eIs g, .agg (cPl (onC p.2.2 q))] (.t .fz (ePls ((bitsL ((townOf g).getD p.2.2 0)).map fun x => (q.1, q.2, x)))) [] := fun q => rflees_spec g hg (onC p.2.2 q) g3
  have hbn : ∀ x ∈ bitsL ((townOf g).getD p.2.2 0), x < g.length := fun x hx => by
    have := node_lt (ht.2.2 _ (getD_mem (l := townOf g) (i := p.2.2) (by omega))) hx
    omega
  have hbl := bits_len ((townOf g).getD p.2.2 0)
  generalize bitsL ((townOf g).getD p.2.2 0) = A at *
  have hmlp := moves_len (townOf g) ht (k == 2) p.1 p.2.1
  rw [hQ] at hF
  have hlow : rkI (rksF g k) p < 1 → (movesL (townOf g) (k == 2) p.1 p.2.1).find? (keepB (townOf g) (rksF g k) p.2.2 (rkI (rksF g k) p)) = none := by
    intro h1
    rw [List.find?_eq_none]
    intro q _
    rw [keepB]
    cases afterF (townOf g) (rksF g k) q.1 q.2 p.2.2 with
    | none => simp
    | some w => simp; omega
  generalize movesL (townOf g) (k == 2) p.1 p.2.1 = Mo at *
  generalize rksF g k = L at *
  generalize hkb : keepB (townOf g) L p.2.2 (rkI L p) = kb at *
  generalize hr : rkI L p = r at *
  by_cases hr1 : r < 1
  · rw [hlow hr1] at hF
    simp -dsimp
    first
      | refine CallG.by (hrk) ?_
      | refine CallGE.by (hrk) ?_
      | refine CallGB.by (hrk) ?_
    simp -dsimp
    first
      | refine CallG.by (hofp) ?_
      | refine CallGE.by (hofp) ?_
      | refine CallGB.by (hofp) ?_
    simp -dsimp [hr1]
    refine retP_c ?_
    simp -dsimp [hF]
  have hke := hke (by omega)
  simp -dsimp
  first
    | refine CallG.by (hrk) ?_
    | refine CallGE.by (hrk) ?_
    | refine CallGB.by (hrk) ?_
  simp -dsimp
  first
    | refine CallG.by (hofp) ?_
    | refine CallGE.by (hofp) ?_
    | refine CallGB.by (hofp) ?_
  simp -dsimp [hr1]
  first
    | refine CallG.by (hmvp) ?_
    | refine CallGE.by (hmvp) ?_
    | refine CallGB.by (hmvp) ?_
  simp -dsimp
  refine wk_loop (fun i : Nat => ⟨[(27, pI i), (26, pI Mo.length), (25, .t .fz (ePls (Mo.map (onC p.2.2)))), (8, .t .fz (eRk R)), (5, .ptr 5 0), (6, .ptr 6 0), (0, .t .ro (eIs g)), (1, .t .ro (eI k))],
      [(5, .blk 48 [.t .ro (eI p.1), .t .ro (eI p.2.1), .t .ro (eI p.2.2)]), (6, .blk 30 [PV.t .fz (eI 0), PV.t .fz (eI 0)])]⟩)
    (fun i => i ≤ Mo.length ∧ Mo.find? kb = (Mo.drop i).find? kb) (fun i => Mo.length - i) 0
    (le_of (by simp) (by simp)) ⟨by simp, by simp⟩ fun i ⟨hi, hfd⟩ => ?_
  simp -dsimp
  refine condX_dec (fun h => ?_) (fun h => ?_)
  · have hw := wr (n := (i : Int) + 1) (by omega) (by omega)
    have hil : (i : Int) < Mo.length := by omega
    rw [find_drop Mo i (0, 0) h] at hfd
    have hqm : Mo.getD i (0, 0) ∈ Mo := mem_gPr h
    have hqg : Mo[i]? = some (Mo.getD i (0, 0)) := by simp [List.getD_eq_getElem?_getD, h]
    generalize Mo.getD i (0, 0) = q at hfd hqm hqg
    have honc : onC p.2.2 q = (q.1, q.2, p.2.2) := rfl
    have hkq := hke q
    have hflq := hfl q
    have hcb := rcB_spec (onC p.2.2 q)
    obtain ⟨m1, m2, m3⟩ := hmm q hqm
    rw [honc] at hkq hflq hcb
    cases c1 : cB (q.1, q.2, p.2.2) with
    | true =>
      rw [c1, Bool.true_or] at hkq
      rw [c1] at hcb
      rw [hkq, if_pos rfl] at hfd
      rw [hfd] at hF
      simp -dsimp [hil, hqg, honc]
      first
        | refine CallG.by (hcb) ?_
        | refine CallGE.by (hcb) ?_
        | refine CallGB.by (hcb) ?_
      simp -dsimp
      refine retP_c ?_
      simp -dsimp [hF]
    | false =>
      rw [c1, Bool.false_or] at hkq
      rw [c1] at hcb
      simp -dsimp [hil, hqg, honc]
      first
        | refine CallG.by (hcb) ?_
        | refine CallGE.by (hcb) ?_
        | refine CallGB.by (hcb) ?_
      simp -dsimp
      first
        | refine CallG.by (hflq) ?_
        | refine CallGE.by (hflq) ?_
        | refine CallGB.by (hflq) ?_
      simp -dsimp
      refine wk_loop (fun j : Nat => ⟨[(39, pI j), (38, pI A.length), (37, .t .fz (ePls (A.map fun x => (q.1, q.2, x)))), (11, pB ((A.take j).all (kpB L r q))), (10, .ptr 10 0), (27, pI i), (26, pI Mo.length), (25, .t .fz (ePls (Mo.map (onC p.2.2)))), (8, .t .fz (eRk R)), (5, .ptr 5 0), (6, .ptr 6 0), (0, .t .ro (eIs g)), (1, .t .ro (eI k))],
          [(10, .blk 48 [PV.t .fz (eI q.1), PV.t .fz (eI q.2), PV.t .fz (eI p.2.2)]), (5, .blk 48 [.t .ro (eI p.1), .t .ro (eI p.2.1), .t .ro (eI p.2.2)]), (6, .blk 30 [PV.t .fz (eI 0), PV.t .fz (eI 0)])]⟩)
        (fun j => j ≤ A.length) (fun j => A.length - j) 0
        (le_of (by simp) (by simp)) (by omega) fun j hj => ?_
      simp -dsimp
      refine condX_dec (fun h' => ?_) (fun h' => ?_)
      · have hwj := wr (n := (j : Int) + 1) (by omega) (by omega)
        have hjl : (j : Int) < A.length := by omega
        have hsn := takeAll_snoc (f := kpB L r q) h'
        have hxm := getD_mem h'
        have hxg : A[j]? = some (A.getD j 0) := by simp [List.getD_eq_getElem?_getD, h']
        generalize A.getD j 0 = x at *
        have hofx := hof (q.1, q.2, x) ⟨m1, m2, hbn x hxm, m3⟩
        have hkx : kpB L r q x = (decide (0 ≤ rkI L (q.1, q.2, x)) && decide (rkI L (q.1, q.2, x) < r)) := rfl
        generalize rkI L (q.1, q.2, x) = y at *
        generalize (A.take j).all (kpB L r q) = gd at *
        cases gd with
        | false =>
          rw [Bool.false_and] at hsn
          simp -dsimp [hjl, hxg]
          refine wk_draw 13 [4] mixed (by kernel_rfl) ?_
          simp -dsimp
          refine LoopP_next (j + 1) (le_of (by simp [hwj, hsn]) (by simp)) h' (by omega)
        | true =>
          rw [Bool.true_and, hkx] at hsn
          simp -dsimp [hjl, hxg]
          refine wk_draw 13 [4] mixed (by kernel_rfl) ?_
          simp -dsimp
          first
            | refine CallG.by (hofx) ?_
            | refine CallGE.by (hofx) ?_
            | refine CallGB.by (hofx) ?_
          by_cases hy : 0 ≤ y
          · rw [decide_eq_true hy, Bool.true_and] at hsn
            simp -dsimp [hy]
            first
              | refine CallG.by (hofx) ?_
              | refine CallGE.by (hofx) ?_
              | refine CallGB.by (hofx) ?_
            simp -dsimp
            first
              | refine CallG.by (hofp) ?_
              | refine CallGE.by (hofp) ?_
              | refine CallGB.by (hofp) ?_
            simp -dsimp
            refine LoopP_next (j + 1) (le_of (by simp [hwj, hsn]) (by simp)) h' (by omega)
          · rw [decide_eq_false hy, Bool.false_and] at hsn
            simp -dsimp [hy]
            refine LoopP_next (j + 1) (le_of (by simp [hwj, hsn]) (by simp)) h' (by omega)
      · have hj' : j = A.length := by omega
        rw [hj', List.take_length]
        cases hgd : A.all (kpB L r q) with
        | true =>
          rw [hgd] at hkq
          rw [hkq, if_pos rfl] at hfd
          rw [hfd] at hF
          simp -dsimp
          refine retP_c ?_
          simp -dsimp [hF]
        | false =>
          rw [hgd] at hkq
          rw [hkq, if_neg (by simp)] at hfd
          simp -dsimp
          refine LoopP_next (i + 1) (le_of (by simp [hw]) (by simp)) ⟨h, hfd⟩ (by omega)
  · have hi' : i = Mo.length := by omega
    rw [hi', List.drop_length, List.find?_nil] at hfd
    rw [hfd] at hF
    simp -dsimp
    refine retP_c ?_
    simp -dsimp [hF]
end Go.Proofs.YtgcncgocdfioiaaDoor
