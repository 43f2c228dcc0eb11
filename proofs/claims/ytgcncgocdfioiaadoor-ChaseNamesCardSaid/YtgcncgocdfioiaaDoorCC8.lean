import Derived.Test.YtgcncgocdfioiaaDoorCC7
/- CC8: CheckSafe. -/
set_option linter.unusedVariables false
set_option linter.unusedSimpArgs false
set_option maxRecDepth 20000
namespace Go.Proofs.YtgcncgocdfioiaaDoor
open Go Go.PS
attribute [-simp] isKeyK List.map_take
theorem fltLe {α : Type} (f g : α → Bool) (h : ∀ x, g x = true → f x = true) : ∀ l : List α, (l.filter g).length ≤ (l.filter f).length
  | [] => Nat.le_refl _
  | x :: l => by
    have := fltLe f g h l
    simp only [List.filter_cons]
    cases hg : g x with
    | true => simp [h x hg, this]
    | false => cases hf : f x <;> simp <;> omega
theorem fltLt {α : Type} (f g : α → Bool) (h : ∀ x, g x = true → f x = true) (k : α) (hf : f k = true) (hg : g k = false) : ∀ l : List α, k ∈ l → (l.filter g).length < (l.filter f).length
  | [], hk => by cases hk
  | x :: l, hk => by
    rcases List.mem_cons.1 hk with rfl | hk
    · have := fltLe f g h l
      simp [List.filter_cons, hf, hg]
      omega
    · have := fltLt f g h k hf hg l hk
      simp only [List.filter_cons]
      cases hg : g x with
      | true => simp [h x hg, this]
      | false => cases hf : f x <;> simp <;> omega
/-- How many are not seen yet. -/
def unseen (n : Nat) (seen : List Nat) : Nat := ((List.range n).filter fun j => !seen.contains j).length
theorem unseen_lt {n i : Nat} {seen : List Nat} (hi : i < n) (hs : i ∉ seen) : unseen n (i :: seen) < unseen n seen := by
  refine fltLt _ _ (fun x hx => ?_) i (by simpa using hs) (by simp) _ (List.mem_range.2 hi)
  simp at hx ⊢
  exact hx.2
/-- A set of places in memory. -/
def esB (S : List Pl) : List (Value × TL) := S.map fun p => (kP p, eB true)
def insS (S : List Pl) (p : Pl) : List Pl := if p ∈ S then S else S ++ [p]
def ddS (l : List Pl) : List Pl := l.foldl insS []
theorem tget_esB (p : Pl) : ∀ S : List Pl, tget (.wide 3) (kP p) (esB S) = some (if p ∈ S then some (eB true) else none)
  | [] => rfl
  | q :: S => by
    have ih := tget_esB p S
    simp only [esB, List.map_cons] at ih ⊢
    simp only [tget, same_kP]
    by_cases h : p = q
    · simp [h]
    · simp only [h, decide_false, ih, List.mem_cons, false_or]
theorem tset_esB (p : Pl) : ∀ S : List Pl, tset (.wide 3) (kP p) (eB true) (esB S) = some (esB (insS S p))
  | [] => rfl
  | q :: S => by
    have ih := tset_esB p S
    simp only [esB, List.map_cons] at ih ⊢
    simp only [tset, same_kP]
    by_cases h : p = q
    · simp [h, insS]
    · simp only [h, decide_false, ih, Option.map_some]
      unfold insS
      by_cases h2 : p ∈ S <;> simp [h, h2]
theorem ddS_mem (l : List Pl) (p : Pl) : p ∈ ddS l ↔ p ∈ l := by
  have : ∀ (l : List Pl) (S : List Pl), p ∈ l.foldl insS S ↔ p ∈ S ∨ p ∈ l := fun l => by
    induction l with
    | nil => simp
    | cons q l ih =>
      intro S
      rw [List.foldl_cons, ih]
      unfold insS
      by_cases h : q ∈ S
      · simp only [h, if_true, List.mem_cons]
        constructor
        · rintro (h1 | h1)
          · exact .inl h1
          · exact .inr (.inr h1)
        · rintro (h1 | rfl | h1)
          · exact .inl h1
          · exact .inl h
          · exact .inr h1
      · simp [h, or_assoc]
  rw [ddS, this]
  simp
theorem ddS_snoc (l : List Pl) (p : Pl) : ddS (l ++ [p]) = insS (ddS l) p := by simp [ddS]
def hasS (S : List Pl) (q : Pr) (x : Nat) : Bool := decide ((q.1, q.2, x) ∈ S)
theorem safe11_spec (S : List Pl) (q : Pr) (x : Nat) : PCall Tryd.prog 73 [eI x, .rp [.mp (esB S)] 0, .rp (cPr q) 0] (pB (hasS S q x)) [] := by
  obtain ⟨a, b⟩ := q
  refine pcall_wp _ Tryd.func73 rfl (by kernel_rfl) rfl ?_
  have hk := tget_esB (a, b, x) S
  have hkey := key_kP (a, b, x)
  have hF : hasS S (a, b) x = decide ((a, b, x) ∈ S) := rfl
  by_cases h : (a, b, x) ∈ S
  · rw [if_pos h] at hk
    simp -dsimp [kP_fold, hk, hkey]
    refine retP_c ?_
    simp -dsimp [hF, h]
  · rw [if_neg h] at hk
    simp -dsimp [kP_fold, hk, hkey]
    refine retP_c ?_
    simp -dsimp [hF, h]
def anyS (S : List Pl) (q : Pr) (reach : Nat) : Bool := (bitsL reach).any (hasS S q)
theorem safe1_spec (S : List Pl) (q : Pr) (reach : Nat) (h : reach < 256) : PCall Tryd.prog 71 [.agg (cPr q), eI reach, .rp [.mp (esB S)] 0] (pB (anyS S q reach)) [] := by
  refine pcall_wp _ Tryd.func71 rfl (by kernel_rfl) rfl ?_
  have hn := nodes_spec reach h
  have hc := anyF_spec (iL (bitsL reach)) 73 [.rp [.mp (esB S)] 0, .rp (cPr q) 0] (fun z => hasS S q z.toNat) (fun r hr => by
    obtain ⟨u, hu, rfl⟩ := List.mem_map.1 hr
    exact safe11_spec S q u)
  rw [iL_any (bitsL reach) (hasS S q)] at hc
  simp -dsimp
  first
    | refine CallG.by (hn) ?_
    | refine CallGE.by (hn) ?_
    | refine CallGB.by (hn) ?_
  simp -dsimp
  first
    | refine CallG.by (hc) ?_
    | refine CallGE.by (hc) ?_
    | refine CallGB.by (hc) ?_
  simp -dsimp
  refine retP_c ?_
  simp -dsimp
  rfl
abbrev P3 := Int × Int × Int
@[simp] def cP3 (p : P3) : List TL := [eI p.1, eI p.2.1, eI p.2.2]
@[simp] def eP3 (l : List P3) : TL := .sl .any 3 (l.map cP3)
def nP (p : P3) : Pl := (p.1.toNat, p.2.1.toNat, p.2.2.toNat)
def goodP3 (n : Nat) (k : Int) (p : P3) : Bool := okPl n k p.1 p.2.1 p.2.2 && !cB (nP p)
def stepOk (t : List Nat) (S : List Pl) (c : Nat) (q : Pr) : Bool := !cB (q.1, q.2, c) && anyS S q (t.getD c 0)
def placeOk (t : List Nat) (two : Bool) (S : List Pl) (p : Pl) : Bool := (movesL t two p.1 p.2.1).all (stepOk t S p.2.2)
def ckB (t : List Nat) (k : Int) (l : List P3) : Bool := l.all (goodP3 t.length k) && ((ddS (l.map nP)).all (placeOk t (k == 2) (ddS (l.map nP))) && (teamsL t.length (k == 2)).all fun q => anyS (ddS (l.map nP)) q (2 ^ t.length - 1))
def ckF (g : List Int) (k : Int) (l : List P3) : TL := if okG g k then .tup [eB (ckB (townOf g) k l), eI 0] else .tup [eB false, eI 2]
theorem gP3 {l : List P3} {i : Nat} (h : i < l.length) : (l.map cP3)[i]? = some (cP3 (l.getD i (0, 0, 0))) := by simp [List.getD_eq_getElem?_getD, h]
theorem take_gP3 {l : List P3} {i : Nat} (h : i < l.length) : l.take (i + 1) = l.take i ++ [l.getD i (0, 0, 0)] := by
  rw [List.take_add_one]
  simp [List.getD_eq_getElem?_getD, h]
theorem esB_get {S : List Pl} {i : Nat} {p : Value × TL} (h : (esB S)[i]? = some p) : ∃ q, S[i]? = some q ∧ p = (kP q, eB true) := by
  rw [esB, List.getElem?_map] at h
  obtain ⟨q, hq, rfl⟩ := Option.map_eq_some_iff.1 h
  exact ⟨q, hq, rfl⟩
@[simp] theorem esB_len (S : List Pl) : (esB S).length = S.length := by simp [esB]
theorem mem_gP3 {l : List P3} {i : Nat} (h : i < l.length) : l.getD i (0, 0, 0) ∈ l := by simp [List.getD_eq_getElem?_getD, h]
theorem mem_gPr {l : List Pr} {i : Nat} (h : i < l.length) : l.getD i (0, 0) ∈ l := by simp [List.getD_eq_getElem?_getD, h]
theorem checkSafe_spec (g : List Int) (k : Int) (l : List P3) : PCall Tryd.prog 37 [eIs g, eI k, eP3 l] (.t .fz (ckF g k l)) [] := by
  refine pcall_sl 2 rfl call37 fun hlen => ?_
  simp only [List.length_map] at hlen
  refine pcall_wp _ Tryd.func37 rfl (by kernel_rfl) rfl ?_
  have hr := read_spec g
  have hF : ckF g k l = if okG g k then .tup [eB (ckB (townOf g) k l), eI 0] else .tup [eB false, eI 2] := rfl
  cases hv : validG g with
  | false =>
    obtain ⟨X, hX⟩ := read_bad hv
    rw [hX] at hr
    have ho : okG g k = false := by rw [okG, hv]; rfl
    rw [ho, if_neg (by simp)] at hF
    simp -dsimp
    first
      | refine CallG.by (hr) ?_
      | refine CallGE.by (hr) ?_
      | refine CallGB.by (hr) ?_
    simp -dsimp
    refine retP_c ?_
    simp -dsimp [hF]
  | true =>
    rw [read_ok hv] at hr
    have ht := valid_town hv
    have hsl := slf_town g
    have ho : okG g k = ((k == 1) || (k == 2)) := by rw [okG, hv]; rfl
    by_cases hk : (k == 1) = false ∧ (k == 2) = false
    · rw [ho, hk.1, hk.2] at hF
      have c1' : (k != 1) = true := by rw [bne, hk.1]; rfl
      have c2' : (k != 2) = true := by rw [bne, hk.2]; rfl
      simp -dsimp
      first
        | refine CallG.by (hr) ?_
        | refine CallGE.by (hr) ?_
        | refine CallGB.by (hr) ?_
      simp -dsimp [c1', c2']
      refine retP_c ?_
      simp -dsimp [hF]
    have hcond : ((k == 1) || (k == 2)) = true := by
      cases h1 : (k == 1) <;> cases h2 : (k == 2) <;> simp_all
    rw [ho, hcond, if_pos rfl] at hF
    clear hk
    have hcase : ((k != 1) = false ∧ True) ∨ ((k != 1) = true ∧ (k != 2) = false) := by
      cases h1 : (k == 1) <;> cases h2 : (k == 2) <;> simp_all
    clear hcond
    have hB : ckB (townOf g) k l = (l.all (goodP3 (townOf g).length k) && ((ddS (l.map nP)).all (placeOk (townOf g) (k == 2) (ddS (l.map nP))) && (teamsL (townOf g).length (k == 2)).all fun q => anyS (ddS (l.map nP)) q (2 ^ (townOf g).length - 1))) := rfl
    have hall0 := all_spec (townOf g) ht
    have hT := fun R => teams_spec (townOf g) ht k R
    have hTl : (teamsL (townOf g).length (k == 2)).length ≤ 64 := by
      have h1 := prsTo_len (townOf g).length (tmF (k == 2)) (townOf g).length 0
      have h2 : (townOf g).length * (townOf g).length ≤ 8 * 8 := Nat.mul_le_mul ht.2.1 ht.2.1
      rw [prsTo_all] at h1
      rw [teamsL]
      omega
    have hpl := fun a b c => place_spec (townOf g) ht k (.v (.map none)) a b c
    have hst := fun R a b ha hb hne => steps_spec (townOf g) ht k R a b ha hb hne
    have hml := moves_len (townOf g) ht (k == 2)
    have hrn : ∀ {p : Pl}, GPl (townOf g).length (k == 2) p → _ := fun {p} hp => raw_ne ht hsl hp
    have hN : 2 ^ (townOf g).length ≤ 2 ^ 8 := Nat.pow_le_pow_right (by decide) ht.2.1
    have hlt := ht.lt
    generalize townOf g = t at *
    have h8 := ht.2.1
    generalize hNe : 2 ^ t.length - 1 = N at *
    have hN8 : N < 256 := by omega
    generalize hTe : teamsL t.length (k == 2) = T at *
    rcases hcase with ⟨c1', c2'⟩ | ⟨c1', c2'⟩
    all_goals
      simp -dsimp
      first
        | refine CallG.by (hr) ?_
        | refine CallGE.by (hr) ?_
        | refine CallGB.by (hr) ?_
      simp -dsimp [c1', c2']
      refine wk_loop (fun i : Nat => ⟨[(42, pI i), (41, pI l.length), (40, .t .ro (eP3 l)), (10, .ptr 38 0), (11, .ptr 11 0), (8, .t .fz (eNs t))],
          [(38, .blk 90 [.t .fz (eNs t), .t .ro (eI k), .t .fz (.v (.map none))]), (11, .blk 109 [.omp 39]), (39, .tab .fz (esB (ddS ((l.take i).map nP))))]⟩)
        (fun i => i ≤ l.length ∧ ∀ p ∈ l.take i, goodP3 t.length k p = true) (fun i => l.length - i) 0
        (le_of (by simp) (by simp [ddS, esB])) (by simp) fun i ⟨hi, hgd⟩ => ?_
      simp -dsimp
      refine condX_dec (fun h => ?_) (fun h => ?_)
      · have hw := wr (n := (i : Int) + 1) (by omega) (by omega)
        have hil : (i : Int) < l.length := by omega
        have hq := gP3 (l := l) h
        have htk := take_gP3 (l := l) h
        have hmem := mem_gP3 (l := l) h
        generalize l.getD i (0, 0, 0) = p at hq htk hmem
        have hG : goodP3 t.length k p = (okPl t.length k p.1 p.2.1 p.2.2 && !cB (nP p)) := rfl
        have hbad : goodP3 t.length k p = false → ckB t k l = false := fun h => by
          rw [hB]
          have : l.all (goodP3 t.length k) = false := by
            rw [List.all_eq_false]
            exact ⟨p, hmem, by rw [h]; simp⟩
          rw [this]
          rfl
        have hplp := hpl p.1 p.2.1 p.2.2
        cases hx : okPl t.length k p.1 p.2.1 p.2.2 with
        | false =>
          rw [hx] at hplp hG
          have hb := hbad hG
          simp -dsimp [hil, hq]
          first
            | refine CallG.by (hplp) ?_
            | refine CallGE.by (hplp) ?_
            | refine CallGB.by (hplp) ?_
          simp -dsimp
          refine retP_c ?_
          simp -dsimp [hF, hb]
        | true =>
          rw [hx] at hplp hG
          obtain ⟨ha, hb', hc, hGP⟩ := okPl_nat hx
          have hn : nP p = (p.1.toNat, p.2.1.toNat, p.2.2.toNat) := rfl
          have hdS : ddS ((l.take (i + 1)).map nP) = insS (ddS ((l.take i).map nP)) (nP p) := by
            rw [htk, List.map_append, List.map_cons, List.map_nil, ddS_snoc]
          have hset := tset_esB (nP p) (ddS ((l.take i).map nP))
          rw [← hdS] at hset
          have hkey := key_kP (nP p)
          have hcs := caught_spec (nP p)
          have hcb : cB (nP p) = (decide ((nP p).2.2 = (nP p).1 ∨ (nP p).2.2 = (nP p).2.1)) := by
            rw [Bool.eq_iff_iff]
            simp [cB, caughtB]
          rw [← hcb] at hcs
          rw [hn] at hcs hset hkey hG
          obtain ⟨S1, hS1⟩ : ∃ S1, S1 = ddS ((l.take (i + 1)).map nP) := ⟨_, rfl⟩
          rw [← hS1] at hset hdS
          generalize ddS ((l.take i).map nP) = S0 at *
          obtain ⟨pa, pb, pc⟩ := p
          simp only at *
          generalize pa.toNat = a' at *
          generalize pb.toNat = b' at *
          generalize pc.toNat = c' at *
          subst ha hb' hc
          cases hy : cB (a', b', c') with
          | true =>
            rw [hy] at hcs hG
            have hb := hbad hG
            simp -dsimp [hil, hq]
            first
              | refine CallG.by (hplp) ?_
              | refine CallGE.by (hplp) ?_
              | refine CallGB.by (hplp) ?_
            simp -dsimp
            first
              | refine CallG.by (hcs) ?_
              | refine CallGE.by (hcs) ?_
              | refine CallGB.by (hcs) ?_
            simp -dsimp
            refine retP_c ?_
            simp -dsimp [hF, hb]
          | false =>
            rw [hy] at hcs hG
            simp -dsimp [hil, hq]
            first
              | refine CallG.by (hplp) ?_
              | refine CallGE.by (hplp) ?_
              | refine CallGB.by (hplp) ?_
            simp -dsimp
            first
              | refine CallG.by (hcs) ?_
              | refine CallGE.by (hcs) ?_
              | refine CallGB.by (hcs) ?_
            simp -dsimp [kP_fold, hset, hkey]
            refine LoopP_next (i + 1) (le_of (by simp [hw]) (by simp [hS1])) ⟨h, fun q hq => ?_⟩ (by omega)
            rw [htk] at hq
            rcases List.mem_append.1 hq with hq | hq
            · exact hgd q hq
            · rw [List.mem_singleton] at hq
              rw [hq, hG]
              rfl
      · have hi' : i = l.length := by omega
        rw [hi', List.take_length] at hgd ⊢
        have hB2 : ckB t k l = ((ddS (l.map nP)).all (placeOk t (k == 2) (ddS (l.map nP))) && T.all fun q => anyS (ddS (l.map nP)) q N) := by
          rw [hB, List.all_eq_true.2 hgd, Bool.true_and]
        have hSG : ∀ q ∈ ddS (l.map nP), GPl t.length (k == 2) q := fun q hq => by
          rw [ddS_mem] at hq
          obtain ⟨p, hp, rfl⟩ := List.mem_map.1 hq
          have h1 := hgd p hp
          simp only [goodP3, Bool.and_eq_true] at h1
          exact (okPl_nat h1.1).2.2.2
        clear hB hgd
        generalize ddS (l.map nP) = S at *
        simp -dsimp
        refine wk_loop (fun seen : List Nat => ⟨[(59, .ptr 59 0), (14, .clo 71 [.ptr 11 0]), (10, .ptr 38 0), (11, .ptr 11 0), (8, .t .fz (eNs t))],
            [(59, .iter 39 S.length seen), (38, .blk 90 [.t .fz (eNs t), .t .ro (eI k), .t .fz (.v (.map none))]), (11, .blk 109 [.omp 39]), (39, .tab .fz (esB S))]⟩)
          (fun seen => ∀ i ∈ seen, ∀ q, S[i]? = some q → placeOk t (k == 2) S q = true) (fun seen => unseen S.length seen) []
          (le_of (by simp) (by simp)) (by simp) fun seen hJ => ?_
        simp -dsimp
        refine NextG.by (by decide) (by simp) (fun hall => ?_) (fun m p hp hns => ?_)
        · have hSa : S.all (placeOk t (k == 2) S) = true := by
            rw [List.all_eq_true]
            intro p hp
            obtain ⟨i, hi, rfl⟩ := List.getElem_of_mem hp
            exact hJ i (hall i hi) _ (by simp)
          rw [hSa, Bool.true_and] at hB2
          simp -dsimp
          first
            | refine CallG.by (hT _) ?_
            | refine CallGE.by (hT _) ?_
            | refine CallGB.by (hT _) ?_
          simp -dsimp
          refine wk_loop (fun i : Nat => ⟨[(98, pI i), (97, pI T.length), (96, .t .fz (ePrs T)), (14, .clo 71 [.ptr 11 0]), (11, .ptr 11 0), (8, .t .fz (eNs t))],
              [(11, .blk 109 [.omp 39]), (39, .tab .fz (esB S))]⟩)
            (fun i => i ≤ T.length ∧ ∀ q ∈ T.take i, anyS S q N = true) (fun i => T.length - i) 0
            (le_of (by simp) (by simp)) (by simp) fun i ⟨hi, hgd⟩ => ?_
          simp -dsimp
          refine condX_dec (fun h => ?_) (fun h => ?_)
          · have hw := wr (n := (i : Int) + 1) (by omega) (by omega)
            have hil : (i : Int) < T.length := by omega
            have hq := gP (l := T) h
            have htk := take_gP (l := T) h
            have hmem := mem_gPr (l := T) h
            generalize T.getD i (0, 0) = q at hq htk hmem
            have hsf := safe1_spec S q N hN8
            simp -dsimp [hil, hq]
            refine wk_draw 4 [3] mixed (by kernel_rfl) ?_
            simp -dsimp
            first
              | refine CallG.by (hall0) ?_
              | refine CallGE.by (hall0) ?_
              | refine CallGB.by (hall0) ?_
            simp -dsimp
            first
              | refine CallG.by (hsf) ?_
              | refine CallGE.by (hsf) ?_
              | refine CallGB.by (hsf) ?_
            cases hx : anyS S q N with
            | false =>
              have : (T.all fun q => anyS S q N) = false := by
                rw [List.all_eq_false]
                exact ⟨q, hmem, by rw [hx]; simp⟩
              rw [this] at hB2
              simp -dsimp
              refine retP_c ?_
              simp -dsimp [hF, hB2]
            | true =>
              simp -dsimp
              refine LoopP_next (i + 1) (le_of (by simp [hw]) (by simp)) ⟨h, fun q' hq' => ?_⟩ (by omega)
              rw [htk] at hq'
              rcases List.mem_append.1 hq' with hq' | hq'
              · exact hgd q' hq'
              · rw [List.mem_singleton] at hq'
                rw [hq', hx]
          · have hi' : i = T.length := by omega
            rw [hi', List.take_length] at hgd
            rw [List.all_eq_true.2 hgd] at hB2
            simp -dsimp
            refine retP_c ?_
            simp -dsimp [hF, hB2]
        · obtain ⟨q, hq, rfl⟩ := esB_get hp
          have hqS := hq
          have hml' : m < S.length := (List.getElem?_eq_some_iff.1 hq).1
          have hqm : q ∈ S := List.mem_of_getElem? hq
          have hGq := hSG q hqm
          have hGq0 := hGq
          obtain ⟨g1, g2, g3, g4⟩ := hGq0
          have hne := hrn hGq
          obtain ⟨a, b, c⟩ := q
          simp only at g1 g2 g3 hne
          have g5 : a < t.length := by omega
          have hstq := hst (.v (.map none)) a b g5 g2 hne
          have hP : placeOk t (k == 2) S (a, b, c) = (movesL t (k == 2) a b).all (stepOk t S c) := rfl
          have hmlq := hml a b
          generalize movesL t (k == 2) a b = M at *
          have hbadq : (∃ q ∈ M, stepOk t S c q = false) → ckB t k l = false := by
            rintro ⟨q, hq, hs⟩
            rw [hB2]
            have : S.all (placeOk t (k == 2) S) = false := by
              rw [List.all_eq_false]
              refine ⟨_, hqm, ?_⟩
              rw [hP]
              have : M.all (stepOk t S c) = false := by
                rw [List.all_eq_false]
                exact ⟨q, hq, by rw [hs]; simp⟩
              rw [this]
              simp
            rw [this]
            rfl
          have hc' : (c : Int) < t.length := by omega
          have q1 := iL_at g3
          have hlc := hlt _ (getD_mem g3)
          have hSt : ∀ q, stepOk t S c q = (!cB (q.1, q.2, c) && anyS S q (t.getD c 0)) := fun _ => rfl
          generalize t.getD c 0 = tc at *
          simp -dsimp [hp, kP]
          first
            | refine CallG.by (hstq) ?_
            | refine CallGE.by (hstq) ?_
            | refine CallGB.by (hstq) ?_
          simp -dsimp
          refine wk_loop (fun j : Nat => ⟨[(71, pI j), (70, pI M.length), (69, .t .fz (ePrs M)), (15, .ptr 15 0), (59, .ptr 59 0), (14, .clo 71 [.ptr 11 0]), (10, .ptr 38 0), (11, .ptr 11 0), (8, .t .fz (eNs t))],
              [(15, .blk 50 [PV.t .fz (eI a), PV.t .fz (eI b), PV.t .fz (eI c)]), (59, .iter 39 S.length (m :: seen)), (38, .blk 90 [.t .fz (eNs t), .t .ro (eI k), .t .fz (.v (.map none))]), (11, .blk 109 [.omp 39]), (39, .tab .fz (esB S))]⟩)
            (fun j => j ≤ M.length ∧ ∀ q ∈ M.take j, stepOk t S c q = true) (fun j => M.length - j) 0
            (le_of (by simp) (by simp)) (by simp) fun j ⟨hj, hgd⟩ => ?_
          simp -dsimp
          refine condX_dec (fun h => ?_) (fun h => ?_)
          · have hw := wr (n := (j : Int) + 1) (by omega) (by omega)
            have hil : (j : Int) < M.length := by omega
            have hq2 := gP (l := M) h
            have htk := take_gP (l := M) h
            have hmem := mem_gPr (l := M) h
            generalize M.getD j (0, 0) = q at hq2 htk hmem
            have hbq := fun hs => hbadq ⟨q, hmem, hs⟩
            rw [hSt q] at hbq
            have hcs := caught_spec (q.1, q.2, c)
            have hcb : cB (q.1, q.2, c) = (decide (c = q.1 ∨ c = q.2)) := by
              rw [Bool.eq_iff_iff]
              simp [cB, caughtB]
            rw [← hcb] at hcs
            have hsf := safe1_spec S q tc hlc
            simp -dsimp [hil, hq2]
            refine wk_draw 16 [7] mixed (by kernel_rfl) ?_
            simp -dsimp
            first
              | refine CallG.by (hcs) ?_
              | refine CallGE.by (hcs) ?_
              | refine CallGB.by (hcs) ?_
            cases hx : cB (q.1, q.2, c) with
            | true =>
              rw [hx] at hbq
              have hb := hbq rfl
              simp -dsimp
              refine retP_c ?_
              simp -dsimp [hF, hb]
            | false =>
              rw [hx] at hbq
              simp -dsimp [hc', q1]
              first
                | refine CallG.by (hsf) ?_
                | refine CallGE.by (hsf) ?_
                | refine CallGB.by (hsf) ?_
              cases hy : anyS S q tc with
              | false =>
                rw [hy] at hbq
                have hb := hbq rfl
                simp -dsimp
                refine retP_c ?_
                simp -dsimp [hF, hb]
              | true =>
                simp -dsimp
                refine LoopP_next (j + 1) (le_of (by simp [hw]) (by simp)) ⟨h, fun q' hq' => ?_⟩ (by omega)
                rw [htk] at hq'
                rcases List.mem_append.1 hq' with hq' | hq'
                · exact hgd q' hq'
                · rw [List.mem_singleton] at hq'
                  rw [hq', hSt, hx, hy]
                  rfl
          · have hj' : j = M.length := by omega
            rw [hj', List.take_length] at hgd
            simp -dsimp
            refine LoopP_next (m :: seen) (le_of (by simp) (by simp)) (fun n hn q' hq' => ?_) (unseen_lt hml' hns)
            rcases List.mem_cons.1 hn with rfl | hn
            · have e : q' = (a, b, c) := by
                rw [hqS] at hq'
                exact (Option.some.inj hq').symm
              rw [e, hP, List.all_eq_true]
              exact hgd
            · exact hJ n hn q' hq'
end Go.Proofs.YtgcncgocdfioiaaDoor
