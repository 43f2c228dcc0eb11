import Derived.Test.YtfcbmcmkakceaaaDoorLB22
import Derived.Test.YtfcbmcmkakceaaaDoorLR7
import Derived.Test.YtfcbmcmkakceaaaDoorLL2
/- LL3: the laws of LikeSame, LikeTurned. -/
set_option linter.unusedVariables false
set_option linter.unusedSimpArgs false
set_option maxRecDepth 20000
namespace Go.Proofs.YtfcbmcmkakceaaaDoor
open Go Go.PS
attribute [-simp] isKeyK List.map_take
theorem equal_nil : PCall Tryd.prog 29 [.v (.slice none 0 0), .v (.slice none 0 0)] (pB true) [] := by
  have h := equal_spec [] []
  rw [decide_eq_true rfl] at h
  have h2 := nil_argR 1 (nil_argR 0 h rfl) rfl
  simpa only [List.set_cons_succ, List.set_cons_zero] using h2
theorem same_true (g h : List Int) : PCall Tryd.prog 10 [eIs g, eIs h] (pB true) [] := by
  refine pcall_wp _ Tryd.func10 rfl (by kernel_rfl) rfl ?_
  have hf := few_spec g
  have hf' := few_spec h
  have hs := same_spec (g.take 10) (h.take 10)
  have htu := turns_spec (g.take 10)
  have htw := two_spec g h
  have hv := valid_spec g
  have haw := awake_spec
  obtain ⟨t1, t2⟩ := take_isg g
  obtain ⟨t1', t2'⟩ := take_isg h
  rw [sameF, t1, t1'] at hs
  rw [turnsF, t1] at htu
  cases hg : isgB g with
  | false =>
    rw [hg] at hs htu hv htw
    simp only [Bool.false_and, Bool.false_eq_true, if_false, nilT] at hs htu htw
    simp -dsimp
    first
      | refine CallG.by (hf) ?_
      | refine CallGE.by (hf) ?_
      | refine CallGB.by (hf) ?_
    simp -dsimp
    first
      | refine CallG.by (hf') ?_
      | refine CallGE.by (hf') ?_
      | refine CallGB.by (hf') ?_
    simp -dsimp
    first
      | refine CallG.by (hs) ?_
      | refine CallGE.by (hs) ?_
      | refine CallGB.by (hs) ?_
    simp -dsimp
    first
      | refine CallG.by (hf) ?_
      | refine CallGE.by (hf) ?_
      | refine CallGB.by (hf) ?_
    simp -dsimp
    first
      | refine CallG.by (htu) ?_
      | refine CallGE.by (htu) ?_
      | refine CallGB.by (htu) ?_
    simp -dsimp
    first
      | refine CallG.by (hv) ?_
      | refine CallGE.by (hv) ?_
      | refine CallGB.by (hv) ?_
    simp -dsimp
    first
      | refine CallG.by (hv) ?_
      | refine CallGE.by (hv) ?_
      | refine CallGB.by (hv) ?_
    simp -dsimp
    first
      | refine CallG.by (haw) ?_
      | refine CallGE.by (haw) ?_
      | refine CallGB.by (haw) ?_
    simp -dsimp
    first
      | refine CallG.by (htw) ?_
      | refine CallGE.by (htw) ?_
      | refine CallGB.by (htw) ?_
    simp -dsimp
    refine retP_c ?_
    simp -dsimp
  | true =>
    rw [hg] at hs htu hv htw
    rw [t2 hg] at hf htu
    simp only [if_true] at htu
    have hrt := rTurns_spec g hg
    generalize (namesOf (townOf g) (townOf g)).length = m at *
    have hmm : ((m : Int) != (m : Int)) = false := by simp
    cases hh : isgB h with
    | false =>
      rw [hh] at hs htw
      simp only [Bool.and_false, Bool.false_eq_true, if_false, nilT] at hs htw
      rw [t2 hg] at hs
      simp -dsimp
      first
        | refine CallG.by (hf) ?_
        | refine CallGE.by (hf) ?_
        | refine CallGB.by (hf) ?_
      simp -dsimp
      first
        | refine CallG.by (hf') ?_
        | refine CallGE.by (hf') ?_
        | refine CallGB.by (hf') ?_
      simp -dsimp
      first
        | refine CallG.by (hs) ?_
        | refine CallGE.by (hs) ?_
        | refine CallGB.by (hs) ?_
      simp -dsimp
      first
        | refine CallG.by (hf) ?_
        | refine CallGE.by (hf) ?_
        | refine CallGB.by (hf) ?_
      simp -dsimp
      first
        | refine CallG.by (htu) ?_
        | refine CallGE.by (htu) ?_
        | refine CallGB.by (htu) ?_
      simp -dsimp
      first
        | refine CallG.by (hv) ?_
        | refine CallGE.by (hv) ?_
        | refine CallGB.by (hv) ?_
      simp -dsimp
      first
        | refine CallG.by (hrt) ?_
        | refine CallGE.by (hrt) ?_
        | refine CallGB.by (hrt) ?_
      simp -dsimp [hmm]
      first
        | refine CallG.by (hv) ?_
        | refine CallGE.by (hv) ?_
        | refine CallGB.by (hv) ?_
      simp -dsimp
      first
        | refine CallG.by (haw) ?_
        | refine CallGE.by (haw) ?_
        | refine CallGB.by (haw) ?_
      simp -dsimp
      first
        | refine CallG.by (htw) ?_
        | refine CallGE.by (htw) ?_
        | refine CallGB.by (htw) ?_
      simp -dsimp
      refine retP_c ?_
      simp -dsimp
    | true =>
      rw [hh] at hs htw
      simp only [Bool.and_self, if_true] at hs htw
      rw [t2 hg, t2' hh] at hs
      rw [t2' hh] at hf'
      have hrs := rSame_spec g h hg hh
      generalize (namesOf (townOf g) (townOf h)).head? = o at *
      cases o with
      | none =>
        simp only [nilT] at hs hrs
        have heq := equal_nil
        simp -dsimp
        first
          | refine CallG.by (hf) ?_
          | refine CallGE.by (hf) ?_
          | refine CallGB.by (hf) ?_
        simp -dsimp
        first
          | refine CallG.by (hf') ?_
          | refine CallGE.by (hf') ?_
          | refine CallGB.by (hf') ?_
        simp -dsimp
        first
          | refine CallG.by (hs) ?_
          | refine CallGE.by (hs) ?_
          | refine CallGB.by (hs) ?_
        simp -dsimp
        first
          | refine CallG.by (hf) ?_
          | refine CallGE.by (hf) ?_
          | refine CallGB.by (hf) ?_
        simp -dsimp
        first
          | refine CallG.by (htu) ?_
          | refine CallGE.by (htu) ?_
          | refine CallGB.by (htu) ?_
        simp -dsimp
        first
          | refine CallG.by (hv) ?_
          | refine CallGE.by (hv) ?_
          | refine CallGB.by (hv) ?_
        simp -dsimp
        first
          | refine CallG.by (hrt) ?_
          | refine CallGE.by (hrt) ?_
          | refine CallGB.by (hrt) ?_
        simp -dsimp [hmm]
        first
          | refine CallG.by (hv) ?_
          | refine CallGE.by (hv) ?_
          | refine CallGB.by (hv) ?_
        simp -dsimp
        first
          | refine CallG.by (haw) ?_
          | refine CallGE.by (haw) ?_
          | refine CallGB.by (haw) ?_
        simp -dsimp
        first
          | refine CallG.by (htw) ?_
          | refine CallGE.by (htw) ?_
          | refine CallGB.by (htw) ?_
        simp -dsimp
        first
          | refine CallG.by (hrs) ?_
          | refine CallGE.by (hrs) ?_
          | refine CallGB.by (hrs) ?_
        simp -dsimp
        first
          | refine CallG.by (heq) ?_
          | refine CallGE.by (heq) ?_
          | refine CallGB.by (heq) ?_
        simp -dsimp
        refine retP_c ?_
        simp -dsimp
      | some l =>
        simp only at hs hrs
        have heq := equal_spec (iL l) (iL l)
        rw [decide_eq_true rfl] at heq
        simp -dsimp
        first
          | refine CallG.by (hf) ?_
          | refine CallGE.by (hf) ?_
          | refine CallGB.by (hf) ?_
        simp -dsimp
        first
          | refine CallG.by (hf') ?_
          | refine CallGE.by (hf') ?_
          | refine CallGB.by (hf') ?_
        simp -dsimp
        first
          | refine CallG.by (hs) ?_
          | refine CallGE.by (hs) ?_
          | refine CallGB.by (hs) ?_
        simp -dsimp
        first
          | refine CallG.by (hf) ?_
          | refine CallGE.by (hf) ?_
          | refine CallGB.by (hf) ?_
        simp -dsimp
        first
          | refine CallG.by (htu) ?_
          | refine CallGE.by (htu) ?_
          | refine CallGB.by (htu) ?_
        simp -dsimp
        first
          | refine CallG.by (hv) ?_
          | refine CallGE.by (hv) ?_
          | refine CallGB.by (hv) ?_
        simp -dsimp
        first
          | refine CallG.by (hrt) ?_
          | refine CallGE.by (hrt) ?_
          | refine CallGB.by (hrt) ?_
        simp -dsimp [hmm]
        first
          | refine CallG.by (hv) ?_
          | refine CallGE.by (hv) ?_
          | refine CallGB.by (hv) ?_
        simp -dsimp
        first
          | refine CallG.by (haw) ?_
          | refine CallGE.by (haw) ?_
          | refine CallGB.by (haw) ?_
        simp -dsimp
        first
          | refine CallG.by (htw) ?_
          | refine CallGE.by (htw) ?_
          | refine CallGB.by (htw) ?_
        simp -dsimp
        first
          | refine CallG.by (hrs) ?_
          | refine CallGE.by (hrs) ?_
          | refine CallGB.by (hrs) ?_
        simp -dsimp
        first
          | refine CallG.by (heq) ?_
          | refine CallGE.by (heq) ?_
          | refine CallGB.by (heq) ?_
        simp -dsimp
        refine retP_c ?_
        simp -dsimp
def anI (a b : Int) : Int := bits .andNot .i64 a b
@[simp] theorem anI_fold (a b : Int) : bits .andNot .i64 a b = anI a b := rfl
theorem an_all : (List.range 64).all (fun a => (List.range 64).all fun b => anI a b == ((dif a b : Nat) : Int)) = true := by kernel_rfl
theorem anI_nat {a b : Nat} (ha : a < 64) (hb : b < 64) : anI a b = ((dif a b : Nat) : Int) := by
  have := List.all_eq_true.1 (List.all_eq_true.1 an_all a (List.mem_range.2 ha)) b (List.mem_range.2 hb)
  simpa using this
theorem oth_take (T : List Nat) {i : Nat} (hi : i < T.length) : (othN T).take (i + 1) = (othN T).take i ++ [dif (dif (2 ^ T.length - 1) (T.getD i 0)) (2 ^ i)] := by
  rw [take_at (by rw [oth_len]; exact hi)]
  congr 1
  simp [othN, List.getD_eq_getElem?_getD, hi]
theorem other_spec (T : List Nat) (hT : Tow 6 T) : PCall Tryd.prog 37 [eNs T] (.t .fz (eNs (othN T))) [] := by
  refine pcall_wp _ Tryd.func37 rfl (by kernel_rfl) rfl ?_
  have h6 := hT.le
  have h64 : 2 ^ T.length ≤ 2 ^ 6 := Nat.pow_le_pow_right (by decide) h6
  have hpos := Nat.two_pow_pos T.length
  have hsh := shl1 T.length (by omega)
  have hol := oth_len T
  simp -dsimp
  refine lg_adoptT 3 3 3 1 (by simp; rfl) (by simp) ?_
  refine wk_loop (fun i : Nat => ⟨[(8, pI i), (7, pI T.length), (6, .t .ro (eNs T)), (3, .osl 3), (0, .t .ro (eNs T))], [(3, .row 3 1 .fz ((iL ((othN T).take i)).map cI))]⟩)
    (fun i => i ≤ T.length) (fun i => T.length - i) 0 (le_of (by simp) (by simp)) (by omega) fun i hi => ?_
  simp -dsimp
  refine condX_dec (fun h => ?_) (fun h => ?_)
  · have hw := wr (n := (i : Int) + 1) (by omega) (by omega)
    have q1 := iL_at (l := T) (i := i) h
    have hti := hT.get i
    have hta := oth_take T h
    have hsi := shl1 i (by omega)
    have hp2 : 2 ^ i < 2 ^ 6 := Nat.pow_lt_pow_right (by decide) (by omega)
    have hlen : ((othN T).take i).length ≤ 6 := by simp; omega
    have ha1 := anI_nat (a := 2 ^ T.length - 1) (b := T.getD i 0) (by omega) (by omega)
    have hd1 := dif_le (2 ^ T.length - 1) (T.getD i 0)
    have ha2 := anI_nat (a := dif (2 ^ T.length - 1) (T.getD i 0)) (b := 2 ^ i) (by omega) (by omega)
    have hws := wr (n := ((2 ^ T.length : Nat) : Int) - 1) (by omega) (by omega)
    have hes : ((2 ^ T.length : Nat) : Int) - 1 = ((2 ^ T.length - 1 : Nat) : Int) := by omega
    rw [hes] at hws
    obtain ⟨N, hN⟩ : ∃ N, N = 2 ^ T.length := ⟨_, rfl⟩
    obtain ⟨I, hI⟩ : ∃ I, I = 2 ^ i := ⟨_, rfl⟩
    simp only [← hN, ← hI] at hsh ha1 ha2 hws hes hta hsi
    generalize N - 1 = N1 at *
    generalize dif N1 (T.getD i 0) = D1 at *
    generalize dif D1 I = D2 at *
    generalize T.getD i 0 = x at *
    generalize (othN T).take i = O at *
    have i1 : (i : Int) < T.length := by omega
    have i5 : (0 : Int) ≤ i := by omega
    have hbb : (O.length + 1) * 8 ≤ 140737488355328 := by omega
    simp -dsimp [i1, i5, q1]
    refine wk_draw 11 [10] mixed (by kernel_rfl) ?_
    simp -dsimp [hsh, hes, hws, ha1, hsi, ha2, hbb]
    refine LoopP_next (i + 1) (le_of (by simp [hw]) (by simp [hta])) (by omega) (by omega)
  · have hi' : i = T.length := by omega
    subst hi'
    rw [← hol, List.take_length]
    simp -dsimp
    refine retP_c ?_
    simp -dsimp
theorem turned_law (g h : List Int) : PCall Tryd.prog 11 [eIs g, eIs h] (pB true) [] := by
  refine pcall_wp _ Tryd.func11 rfl (by kernel_rfl) rfl ?_
  have htw := two_spec g h
  have haw := awake_spec
  cases hb : isgB g && isgB h with
  | false =>
    rw [hb] at htw
    simp -dsimp
    first
      | refine CallG.by (htw) ?_
      | refine CallGE.by (htw) ?_
      | refine CallGB.by (htw) ?_
    simp -dsimp
    first
      | refine CallG.by (haw) ?_
      | refine CallGE.by (haw) ?_
      | refine CallGB.by (haw) ?_
    simp -dsimp
    refine retP_c ?_
    simp -dsimp
  | true =>
    rw [hb] at htw
    rw [Bool.and_eq_true] at hb
    have hf := few_spec g
    have hf' := few_spec h
    rw [(take_isg g).2 hb.1] at hf
    rw [(take_isg h).2 hb.2] at hf'
    have hT := town_tow hb.1
    have hS := town_tow hb.2
    have hoT := oth_tow hT
    have hoS := oth_tow hS
    obtain ⟨u1, u2⟩ := tow_isg hoT
    obtain ⟨v1, v2⟩ := tow_isg hoS
    have og := other_spec (townOf g) hT
    have oh := other_spec (townOf h) hS
    rw [show eNs (townOf g) = eIs g by rw [eNs, town_back hb.1]] at og
    rw [show eNs (townOf h) = eIs h by rw [eNs, town_back hb.2]] at oh
    have a1 := turns_spec g
    have a2 := turns_spec (iL (othN (townOf g)))
    have a3 := same_spec g h
    have a4 := same_spec (iL (othN (townOf g))) (iL (othN (townOf h)))
    have a5 := alike_spec g h
    have a6 := alike_spec (iL (othN (townOf g))) (iL (othN (townOf h)))
    rw [turnsF, hb.1] at a1
    rw [turnsF, u1, u2, namesOf_oth hT hT] at a2
    rw [sameF, hb.1, hb.2] at a3
    rw [sameF, u1, v1, u2, v2, namesOf_oth hT hS] at a4
    rw [alkF, hb.1, hb.2] at a5
    rw [alkF, u1, v1, u2, v2, like_oth hT hS] at a6
    simp only [Bool.and_self, if_true] at a1 a2 a3 a4 a5 a6
    obtain ⟨hpos, hdiv⟩ := turns_true hT
    have h6 := hT.le
    have hl := town_len g
    rw [hl] at hdiv
    have hdm := Nat.mod_eq_zero_of_dvd hdiv
    have hfac : ∀ k, k ≤ 6 → facN k ≤ 720 := by decide
    generalize (namesOf (townOf g) (townOf g)).length = m at *
    have e1 : ((m : Int) == (m : Int)) = true := by simp
    have e2 : (0 : Int) < m := by omega
    have e3 : ¬ m = 0 := by omega
    have e4 : (((facN g.length : Nat) : Int).tmod (m : Int) == 0) = true := by
      rw [← Int.ofNat_tmod, hdm]
      rfl
    generalize likeN (townOf g) (townOf h) = lk at *
    have e5 : (lk == lk) = true := by simp
    generalize othN (townOf g) = og1 at *
    generalize othN (townOf h) = oh1 at *
    have fin : ∀ (a : PV) (e : Int) (ea : (e == e) = true), True := fun _ _ _ => trivial
    generalize (namesOf (townOf g) (townOf h)).head? = o at *
    cases o with
    | none =>
      simp only [nilT] at a3 a4
      simp -dsimp
      first
        | refine CallG.by (htw) ?_
        | refine CallGE.by (htw) ?_
        | refine CallGB.by (htw) ?_
      simp -dsimp
      first
        | refine CallG.by (hf) ?_
        | refine CallGE.by (hf) ?_
        | refine CallGB.by (hf) ?_
      simp -dsimp
      first
        | refine CallG.by (a1) ?_
        | refine CallGE.by (a1) ?_
        | refine CallGB.by (a1) ?_
      simp -dsimp
      first
        | refine CallG.by (og) ?_
        | refine CallGE.by (og) ?_
        | refine CallGB.by (og) ?_
      simp -dsimp
      first
        | refine CallG.by (a2) ?_
        | refine CallGE.by (a2) ?_
        | refine CallGB.by (a2) ?_
      simp -dsimp
      first
        | refine CallG.by (hf) ?_
        | refine CallGE.by (hf) ?_
        | refine CallGB.by (hf) ?_
      simp -dsimp
      first
        | refine CallG.by (hf') ?_
        | refine CallGE.by (hf') ?_
        | refine CallGB.by (hf') ?_
      simp -dsimp
      first
        | refine CallG.by (a3) ?_
        | refine CallGE.by (a3) ?_
        | refine CallGB.by (a3) ?_
      simp -dsimp
      first
        | refine CallG.by (og) ?_
        | refine CallGE.by (og) ?_
        | refine CallGB.by (og) ?_
      simp -dsimp
      first
        | refine CallG.by (oh) ?_
        | refine CallGE.by (oh) ?_
        | refine CallGB.by (oh) ?_
      simp -dsimp
      first
        | refine CallG.by (a4) ?_
        | refine CallGE.by (a4) ?_
        | refine CallGB.by (a4) ?_
      simp -dsimp
      first
        | refine CallG.by (hf) ?_
        | refine CallGE.by (hf) ?_
        | refine CallGB.by (hf) ?_
      simp -dsimp
      first
        | refine CallG.by (hf') ?_
        | refine CallGE.by (hf') ?_
        | refine CallGB.by (hf') ?_
      simp -dsimp
      first
        | refine CallG.by (a5) ?_
        | refine CallGE.by (a5) ?_
        | refine CallGB.by (a5) ?_
      simp -dsimp
      first
        | refine CallG.by (og) ?_
        | refine CallGE.by (og) ?_
        | refine CallGB.by (og) ?_
      simp -dsimp
      first
        | refine CallG.by (oh) ?_
        | refine CallGE.by (oh) ?_
        | refine CallGB.by (oh) ?_
      simp -dsimp
      first
        | refine CallG.by (a6) ?_
        | refine CallGE.by (a6) ?_
        | refine CallGB.by (a6) ?_
      simp -dsimp
      refine wk_loop (fun i : Nat => ⟨[(70, pI i), (69, pI g.length), (17, pI (facN i)), (5, .t .fz (eI m)), (6, .t .fz (eI 0)), (7, .t .fz (eI m)), (8, .t .fz (eI 0)), (10, .t .fz (eI 4)), (12, .t .fz (eI 4)), (13, .t .fz (eB lk)), (14, .t .fz (eI 0)), (15, .t .fz (eB lk)), (16, .t .fz (eI 0))], []⟩)
        (fun i => i ≤ g.length) (fun i => g.length - i) 0 (le_of (by simp [facN]) (by simp)) (by omega) fun i hi => ?_
      simp -dsimp
      refine condX_dec (fun hx => ?_) (fun hx => ?_)
      · have hw := wr (n := (i : Int) + 1) (by omega) (by omega)
        have hfi := hfac (i + 1) (by omega)
        have hfe : (facN i : Int) * ((i : Int) + 1) = ((facN (i + 1) : Nat) : Int) := by
          rw [show facN (i + 1) = (i + 1) * facN i from rfl, Nat.mul_comm]
          simp
        have hwf := wr (n := ((facN (i + 1) : Nat) : Int)) (by omega) (by omega)
        simp -dsimp [hw, hfe, hwf]
        refine LoopP_next (i + 1) (le_of (by simp [hw]) (by simp)) (by omega) (by omega)
      · have hi' : i = g.length := by omega
        subst hi'
        simp -dsimp [e1, e2, e3, e4, e5, hpos]
        first
          | refine CallG.by (haw) ?_
          | refine CallGE.by (haw) ?_
          | refine CallGB.by (haw) ?_
        simp -dsimp
        refine retP_c ?_
        simp -dsimp
    | some l =>
      simp only [nilT] at a3 a4
      simp -dsimp
      first
        | refine CallG.by (htw) ?_
        | refine CallGE.by (htw) ?_
        | refine CallGB.by (htw) ?_
      simp -dsimp
      first
        | refine CallG.by (hf) ?_
        | refine CallGE.by (hf) ?_
        | refine CallGB.by (hf) ?_
      simp -dsimp
      first
        | refine CallG.by (a1) ?_
        | refine CallGE.by (a1) ?_
        | refine CallGB.by (a1) ?_
      simp -dsimp
      first
        | refine CallG.by (og) ?_
        | refine CallGE.by (og) ?_
        | refine CallGB.by (og) ?_
      simp -dsimp
      first
        | refine CallG.by (a2) ?_
        | refine CallGE.by (a2) ?_
        | refine CallGB.by (a2) ?_
      simp -dsimp
      first
        | refine CallG.by (hf) ?_
        | refine CallGE.by (hf) ?_
        | refine CallGB.by (hf) ?_
      simp -dsimp
      first
        | refine CallG.by (hf') ?_
        | refine CallGE.by (hf') ?_
        | refine CallGB.by (hf') ?_
      simp -dsimp
      first
        | refine CallG.by (a3) ?_
        | refine CallGE.by (a3) ?_
        | refine CallGB.by (a3) ?_
      simp -dsimp
      first
        | refine CallG.by (og) ?_
        | refine CallGE.by (og) ?_
        | refine CallGB.by (og) ?_
      simp -dsimp
      first
        | refine CallG.by (oh) ?_
        | refine CallGE.by (oh) ?_
        | refine CallGB.by (oh) ?_
      simp -dsimp
      first
        | refine CallG.by (a4) ?_
        | refine CallGE.by (a4) ?_
        | refine CallGB.by (a4) ?_
      simp -dsimp
      first
        | refine CallG.by (hf) ?_
        | refine CallGE.by (hf) ?_
        | refine CallGB.by (hf) ?_
      simp -dsimp
      first
        | refine CallG.by (hf') ?_
        | refine CallGE.by (hf') ?_
        | refine CallGB.by (hf') ?_
      simp -dsimp
      first
        | refine CallG.by (a5) ?_
        | refine CallGE.by (a5) ?_
        | refine CallGB.by (a5) ?_
      simp -dsimp
      first
        | refine CallG.by (og) ?_
        | refine CallGE.by (og) ?_
        | refine CallGB.by (og) ?_
      simp -dsimp
      first
        | refine CallG.by (oh) ?_
        | refine CallGE.by (oh) ?_
        | refine CallGB.by (oh) ?_
      simp -dsimp
      first
        | refine CallG.by (a6) ?_
        | refine CallGE.by (a6) ?_
        | refine CallGB.by (a6) ?_
      simp -dsimp
      refine wk_loop (fun i : Nat => ⟨[(70, pI i), (69, pI g.length), (17, pI (facN i)), (5, .t .fz (eI m)), (6, .t .fz (eI 0)), (7, .t .fz (eI m)), (8, .t .fz (eI 0)), (10, .t .fz (eI 0)), (12, .t .fz (eI 0)), (13, .t .fz (eB lk)), (14, .t .fz (eI 0)), (15, .t .fz (eB lk)), (16, .t .fz (eI 0))], []⟩)
        (fun i => i ≤ g.length) (fun i => g.length - i) 0 (le_of (by simp [facN]) (by simp)) (by omega) fun i hi => ?_
      simp -dsimp
      refine condX_dec (fun hx => ?_) (fun hx => ?_)
      · have hw := wr (n := (i : Int) + 1) (by omega) (by omega)
        have hfi := hfac (i + 1) (by omega)
        have hfe : (facN i : Int) * ((i : Int) + 1) = ((facN (i + 1) : Nat) : Int) := by
          rw [show facN (i + 1) = (i + 1) * facN i from rfl, Nat.mul_comm]
          simp
        have hwf := wr (n := ((facN (i + 1) : Nat) : Int)) (by omega) (by omega)
        simp -dsimp [hw, hfe, hwf]
        refine LoopP_next (i + 1) (le_of (by simp [hw]) (by simp)) (by omega) (by omega)
      · have hi' : i = g.length := by omega
        subst hi'
        simp -dsimp [e1, e2, e3, e4, e5, hpos]
        first
          | refine CallG.by (haw) ?_
          | refine CallGE.by (haw) ?_
          | refine CallGB.by (haw) ?_
        simp -dsimp
        refine retP_c ?_
        simp -dsimp
end Go.Proofs.YtfcbmcmkakceaaaDoor
