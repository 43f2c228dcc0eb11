import Derived.Test.YtnikonhkbldnnaaGreatDoorLR1
import Derived.Test.YtnikonhkbldnnaaGreatDoorPSG
/- LR2: the reference's Answer. -/
set_option linter.unusedVariables false
set_option linter.unusedSimpArgs false
set_option maxRecDepth 20000
namespace Go.Proofs.YtnikonhkbldnnaaGreatDoor
open Go Go.PS
attribute [-simp] isKeyK List.map_take
def AnsP (k : Nat) : Prop := ∀ t s a b : List Nat, Tow 6 t → Tow 6 s → a.length = b.length → a.length + k ≤ 90 → Hab t s a b → PCall Tryz.prog 18 [eNs t, eNs s, eI k, eNs a, eNs b] (pB (winN k t s a b)) []
set_option maxHeartbeats 1000000 in
theorem answered_spec (k : Nat) (hk : k ≤ 80) (hw : AnsP k) (t s a b : List Nat) (ht : Tow 6 t) (hs : Tow 6 s) (hl : a.length = b.length) (h90 : a.length + (k + 1) ≤ 90) (hab : Hab t s a b) :
    PCall Tryz.prog 48 [eNs t, eNs s, eI (k + 1 : Nat), eNs a, eNs b] (pB (ansN (winN k t s) t.length s.length a b)) [] := by
  refine pcall_wp _ Tryz.func48 rfl (by kernel_rfl) rfl ?_
  have hAt : ∀ v, (List.range s.length).any (fun u => winN k t s (a ++ [v]) (b ++ [u])) = false → v < t.length → ansN (winN k t s) t.length s.length a b = false := fun v h hv => by
    rw [ansN, List.all_eq_false]
    exact ⟨v, List.mem_range.2 hv, by rw [h]; simp⟩
  have ht6 := ht.le
  have hs6 := hs.le
  simp -dsimp
  refine wk_loop (fun v : Nat => ⟨[(16, pI v), (15, pI t.length), (0, .t .ro (eNs t)), (1, .t .ro (eNs s)), (2, .t .ro (eI (k + 1 : Nat))), (3, .t .ro (eNs a)), (4, .t .ro (eNs b))], []⟩)
    (fun v => v ≤ t.length ∧ ∀ v', v' < v → (List.range s.length).any (fun u => winN k t s (a ++ [v']) (b ++ [u])) = true) (fun v => t.length - v) 0
    (le_of (by simp) (by simp)) ⟨by omega, fun k h => by omega⟩ fun v ⟨hv, hJ⟩ => ?_
  simp -dsimp
  refine condX_dec (fun h => ?_) (fun h => ?_)
  rotate_left
  · have hv' : v = t.length := by omega
    subst hv'
    have hT : ansN (winN k t s) t.length s.length a b = true := List.all_eq_true.2 fun v hv => hJ v (List.mem_range.1 hv)
    simp -dsimp
    refine retP_c ?_
    simp -dsimp [hT]
  have hwv := wr (n := (v : Int) + 1) (by omega) (by omega)
  have hAv := fun e => hAt v e h
  simp -dsimp
  refine wk_loop (fun p : Kind × Nat => ⟨[(21, pI p.2), (20, pI s.length), (12, .t p.1 (eB ((List.range p.2).any fun u => winN k t s (a ++ [v]) (b ++ [u])))), (11, pI v), (16, pI v), (15, pI t.length), (0, .t .ro (eNs t)), (1, .t .ro (eNs s)), (2, .t .ro (eI (k + 1 : Nat))), (3, .t .ro (eNs a)), (4, .t .ro (eNs b))], []⟩)
    (fun p => p.2 ≤ s.length) (fun p => s.length - p.2) (.fz, 0)
    (le_of (by simp) (by simp)) (by simp) fun ⟨kd, u⟩ hu => ?_
  dsimp only at hu
  simp -dsimp
  refine condX_dec (fun hus => ?_) (fun hus => ?_)
  · have hwu := wr (n := (u : Int) + 1) (by omega) (by omega)
    have hwk := wr (n := ((k : Int) + 1) - 1) (by omega) (by omega)
    have hek : (k : Int) + 1 - 1 = k := by omega
    rw [hek] at hwk
    have h3 := hw t s (a ++ [v]) (b ++ [u]) ht hs (by simp [hl]) (by simp; omega) (snoc_lt hl hab h hus)
    have hA : (List.range (u + 1)).any (fun u => winN k t s (a ++ [v]) (b ++ [u])) = ((List.range u).any (fun u => winN k t s (a ++ [v]) (b ++ [u])) || winN k t s (a ++ [v]) (b ++ [u])) := any_succ _ u
    simp only [eNs, eIs, iL_append, iL_cons, iL_nil, List.map_append, List.map_cons, List.map_nil] at h3
    generalize (List.range u).any (fun u => winN k t s (a ++ [v]) (b ++ [u])) = f at *
    generalize winN k t s (a ++ [v]) (b ++ [u]) = w at *
    simp -dsimp
    cases f with
    | true =>
      refine wk_draw 24 [] mixed (by kernel_rfl) ?_
      simp -dsimp
      refine LoopP_next (.fz, u + 1) (le_of (by simp [hwu, hA]) (by simp)) hus (by simp only; omega)
    | false =>
      have hba : (a.length + 1) * 8 ≤ 140737488355328 := by omega
      have hbb : (b.length + 1) * 8 ≤ 140737488355328 := by omega
      cases a with
      | nil =>
        cases b with
        | cons y b => simp at hl
        | nil =>
          refine wk_drawZ 24 [13, 14, 22, 23] [[], [], [], [], [], [], [], [], [], [], [], [], [], [], [], [37, 38], [37, 38], [37, 38], [37, 38], [37, 38], [37, 38], [37, 38], [37, 38]] mixed (by kernel_rfl) ?_
          simp only [List.nil_append] at hA
          simp -dsimp [hek, hwk]
          first
            | refine CallG.by (h3) ?_
            | refine CallGE.by (h3) ?_
            | refine CallGB.by (h3) ?_
          simp -dsimp
          refine LoopP_next (.fz, u + 1) (le_of (by simp [hwu, hA]) (by simp)) hus (by simp only; omega)
      | cons x a =>
        cases b with
        | nil => simp at hl
        | cons y b =>
          simp only [List.length_cons] at hba hbb
          simp only [List.cons_append] at hA
          have z1 : (0 : Int) ≤ (a.length : Int) + 1 := by omega
          have z2 : (0 : Int) ≤ (b.length : Int) + 1 := by omega
          have k1 : List.take a.length (List.map cI (iL a)) = List.map cI (iL a) := List.take_of_length_le (by simp)
          have k2 : List.take b.length (List.map cI (iL b)) = List.map cI (iL b) := List.take_of_length_le (by simp)
          refine wk_drawZ 24 [13, 14, 22, 23] [[], [], [], [], [], [], [], [], [], [], [], [], [], [], [], [37, 38], [37, 38], [37, 38], [37, 38], [37, 38], [37, 38], [37, 38], [37, 38]] mixed (by kernel_rfl) ?_
          simp -dsimp [hek, hwk, hba, hbb, z1, z2, k1, k2]
          first
            | refine CallG.by (h3) ?_
            | refine CallGE.by (h3) ?_
            | refine CallGB.by (h3) ?_
          simp -dsimp
          refine LoopP_next (.fz, u + 1) (le_of (by simp [hwu, hA]) (by simp)) hus (by simp only; omega)
  · have hu' : u = s.length := by omega
    subst hu'
    cases hf : (List.range s.length).any (fun u => winN k t s (a ++ [v]) (b ++ [u])) with
    | false =>
      have := hAv hf
      simp -dsimp
      refine retP_c ?_
      simp -dsimp [this]
    | true =>
      simp -dsimp
      refine LoopP_next (v + 1) (le_of (by simp [hwv]) (by simp)) ⟨h, fun v' hv' => ?_⟩ (by omega)
      rcases Nat.lt_or_ge v' v with h5 | h5
      · exact hJ v' h5
      · rwa [show v' = v by omega]
theorem answer_walk (k : Nat) (t s a b : List Nat) (ht : Tow 6 t) (hs : Tow 6 s) (hl : a.length = b.length) (h90 : a.length ≤ 90) (hk : k ≤ 80) (hab : Hab t s a b) (r : Bool)
    (hno : okN t s a b = false → r = false) (h0 : k = 0 → okN t s a b = true → r = true)
    (h1 : ∀ k', k = k' + 1 → okN t s a b = true → ∃ p q, r = (p && q) ∧ PCall Tryz.prog 48 [eNs t, eNs s, eI k, eNs a, eNs b] (pB p) [] ∧ PCall Tryz.prog 48 [eNs s, eNs t, eI k, eNs b, eNs a] (pB q) []) :
    PCall Tryz.prog 18 [eNs t, eNs s, eI k, eNs a, eNs b] (pB r) [] := by
  refine pcall_wp _ Tryz.func18 rfl (by kernel_rfl) rfl ?_
  have h64 : 2 ^ t.length ≤ 2 ^ 6 := Nat.pow_le_pow_right (by decide) ht.le
  have h64' : 2 ^ s.length ≤ 2 ^ 6 := Nat.pow_le_pow_right (by decide) hs.le
  have ht6 := ht.le
  have hs6 := hs.le
  have hbad : ∀ j i, j < a.length → i < j → (badE a b i j || badN t s a b i j) = true → r = false := fun j i hj hi h => hno (okN_no hj hi h)
  simp -dsimp
  refine wk_loop (fun j : Nat => ⟨[(17, pI j), (16, pI a.length), (15, .t .ro (eNs a)), (10, pB false), (0, .t .ro (eNs t)), (1, .t .ro (eNs s)), (2, .t .ro (eI k)), (3, .t .ro (eNs a)), (4, .t .ro (eNs b))], []⟩)
    (fun j => j ≤ a.length ∧ ∀ j', j' < j → ∀ i, i < j' → badE a b i j' = false ∧ badN t s a b i j' = false) (fun j => a.length - j) 0
    (le_of (by simp) (by simp)) ⟨by omega, fun k h => by omega⟩ fun j ⟨hj, hJ⟩ => ?_
  simp -dsimp
  refine condX_dec (fun h => ?_) (fun h => ?_)
  rotate_left
  · have hj' : j = a.length := by omega
    have hok : okN t s a b = true := okN_range.2 (by rw [← hj']; exact hJ)
    cases k with
    | zero =>
      have hr := h0 rfl hok
      simp -dsimp
      refine retP_c ?_
      simp -dsimp [hr]
    | succ k =>
      obtain ⟨p, q, hr, hp, hq⟩ := h1 k rfl hok
      have hne : (((k + 1 : Nat) : Int) == 0) = false := by
        rw [beq_eq_false_iff_ne]
        omega
      have hne' : ((k : Int) + 1 == 0) = false := by
        rw [beq_eq_false_iff_ne]
        omega
      cases p
      · simp -dsimp [hne, hne']
        first
          | refine CallG.by (hp) ?_
          | refine CallGE.by (hp) ?_
          | refine CallGB.by (hp) ?_
        simp -dsimp
        refine retP_c ?_
        simp -dsimp [hr]
      · simp -dsimp [hne, hne']
        first
          | refine CallG.by (hp) ?_
          | refine CallGE.by (hp) ?_
          | refine CallGB.by (hp) ?_
        simp -dsimp
        first
          | refine CallG.by (hq) ?_
          | refine CallGE.by (hq) ?_
          | refine CallGB.by (hq) ?_
        simp -dsimp
        refine retP_c ?_
        simp -dsimp [hr]
  have hw := wr (n := (j : Int) + 1) (by omega) (by omega)
  have q2 := iL_at (l := a) (i := j) (by omega)
  have q4 := iL_at (l := b) (i := j) (by omega)
  have i2 : (j : Int) < a.length := by omega
  have i4 : (j : Int) < b.length := by omega
  have i6 : (0 : Int) ≤ j := by omega
  have i7 : (j : Int) ≤ a.length := by omega
  obtain ⟨b2, b4⟩ := hab j (by omega)
  have k1 : List.take j (List.map cI (iL a)) = List.map cI (iL (a.take j)) := by simp [iL, List.map_take]
  have hal : (a.take j).length = j := by simp; omega
  have hag : ∀ i, i < j → (a.take j).getD i 0 = a.getD i 0 := fun i hi => by simp [List.getD_eq_getElem?_getD, List.getElem?_take, hi]
  generalize a.take j = aj at k1 hal hag
  generalize hy : a.getD j 0 = y at q2 b2
  simp -dsimp [i2, i6, i7, q2, k1, hal]
  refine wk_loop (fun i : Nat => ⟨[(26, pI i), (25, pI j), (24, .t .ro (eNs aj)), (12, .t .ro (eI y)), (11, pI j), (17, pI j), (16, pI a.length), (15, .t .ro (eNs a)), (10, pB false), (0, .t .ro (eNs t)), (1, .t .ro (eNs s)), (2, .t .ro (eI k)), (3, .t .ro (eNs a)), (4, .t .ro (eNs b))], []⟩)
    (fun i => i ≤ j ∧ ∀ l, l < i → badE a b l j = false ∧ badN t s a b l j = false) (fun i => j - i) 0
    (le_of (by simp) (by simp)) ⟨by omega, fun k h => by omega⟩ fun i ⟨hi, hI⟩ => ?_
  simp -dsimp
  refine condX_dec (fun hij => ?_) (fun hij => ?_)
  rotate_left
  · have hi' : i = j := by omega
    subst hi'
    simp -dsimp
    refine LoopP_next (i + 1) (le_of (by simp [hw]) (by simp)) ⟨h, fun k hk l hlk => ?_⟩ (by omega)
    rcases Nat.lt_or_ge k i with h5 | h5
    · exact hJ k h5 l hlk
    · have : k = i := by omega
      subst this
      exact hI l hlk
  have hw' := wr (n := (i : Int) + 1) (by omega) (by omega)
  have q1 := iL_at (l := aj) (i := i) (by omega)
  rw [hag i hij] at q1
  have q3 := iL_at (l := b) (i := i) (by omega)
  have i1 : (i : Int) < aj.length := by omega
  have i3 : (i : Int) < b.length := by omega
  have i5 : (0 : Int) ≤ i := by omega
  obtain ⟨b1, b3⟩ := hab i (by omega)
  have q5 := iL_at (l := t) b2
  have q6 := iL_at (l := s) b4
  have hbd := hbad j i h hij
  have hE : badE a b i j = ((a.getD i 0 == y) != (b.getD i 0 == b.getD j 0)) := by rw [← hy]; rfl
  have hN : badN t s a b i j = (nbN t y (a.getD i 0) != nbN s (b.getD j 0) (b.getD i 0)) := by
    rw [badN, hy, nb_sym ht b1 b2, nb_sym hs b3 b4]
  have n1 : nbN t y (a.getD i 0) = (t.getD y 0).testBit (a.getD i 0) := rfl
  have n2 : nbN s (b.getD j 0) (b.getD i 0) = (s.getD (b.getD j 0) 0).testBit (b.getD i 0) := rfl
  rw [n1, n2] at hN
  have e1 := and1_bit (t.getD y 0) (a.getD i 0) (by have := ht.get y; omega) (by omega)
  have e2 := and1_bit (s.getD (b.getD j 0) 0) (b.getD i 0) (by have := hs.get (b.getD j 0); omega) (by omega)
  clear n1 n2 hbad
  generalize a.getD i 0 = x at *
  generalize b.getD i 0 = x' at *
  generalize b.getD j 0 = y' at *
  generalize t.getD y 0 = ty at *
  generalize s.getD y' 0 = sy at *
  have c1 : ((y : Int) == (x : Int)) = (x == y) := by rw [Bool.eq_iff_iff]; simp; omega
  have c2 : ((y' : Int) == (x' : Int)) = (x' == y') := by rw [Bool.eq_iff_iff]; simp; omega
  have j1 : (y : Int) < t.length := by omega
  have j2 : (y' : Int) < s.length := by omega
  have j3 : (0 : Int) ≤ y := by omega
  have j4 : (0 : Int) ≤ y' := by omega
  have j5 : (0 : Int) ≤ x := by omega
  have j6 : (0 : Int) ≤ x' := by omega
  generalize (x == y) = p at *
  generalize (x' == y') = p' at *
  generalize ty.testBit x = m at *
  generalize sy.testBit x' = m' at *
  simp -dsimp [i1, i5, q1]
  refine wk_draw 34 [] mixed (by kernel_rfl) ?_
  by_cases hp : p = p'
  · subst hp
    have hpp : (p != p) = false := by simp
    rw [hpp] at hE
    rw [hE, Bool.false_or] at hbd
    have e3 : ((if m = true then (1 : Int) else 0) != if m' = true then 1 else 0) = (m != m') := by cases m <;> cases m' <;> rfl
    have e4 : (andI (shrI (ty : Int) x) 1 != andI (shrI (sy : Int) x') 1) = (m != m') := by rw [e1, e2, e3]
    by_cases hm : m = m'
    · subst hm
      have hmm : (m != m) = false := by simp
      rw [hmm] at hN e4
      simp -dsimp [i1, i2, i3, i4, i5, i6, q1, q2, q3, q4, q5, q6, c1, c2, hpp, j1, j2, j3, j4, j5, j6, e4]
      refine LoopP_next (i + 1) (le_of (by simp [hw']) (by simp)) ⟨hij, fun l hlk => ?_⟩ (by omega)
      rcases Nat.lt_or_ge l i with h5 | h5
      · exact hI l h5
      · have : l = i := by omega
        subst this
        exact ⟨hE, hN⟩
    · have hmm : (m != m') = true := by simpa using hm
      rw [hmm] at hN e4
      have hF := hbd hN
      simp -dsimp [i1, i2, i3, i4, i5, i6, q1, q2, q3, q4, q5, q6, c1, c2, hpp, j1, j2, j3, j4, j5, j6, e4]
      refine retP_c ?_
      simp -dsimp [hF]
  · have hpp : (p != p') = true := by simpa using hp
    rw [hpp] at hE
    have hF := hbd (by rw [hE]; rfl)
    simp -dsimp [i1, i2, i3, i4, i5, i6, q1, q2, q3, q4, q5, q6, c1, c2, hpp, j1, j2, j3, j4, j5, j6]
    refine retP_c ?_
    simp -dsimp [hF]
/-- The reference's Answer, of nodes. -/
theorem ranswer_spec : ∀ k : Nat, k ≤ 80 → AnsP k
  | 0, _ => fun t s a b ht hs hl h90 hab =>
    answer_walk 0 t s a b ht hs hl (by omega) (by omega) hab _ (fun h => by rw [Bool.eq_false_iff]; intro e; rw [winN_ok e] at h; cases h) (fun _ h => h) fun k' e => by cases e
  | k + 1, hk => fun t s a b ht hs hl h90 hab => by
    refine answer_walk (k + 1) t s a b ht hs hl (by omega) hk hab _ (fun h => by rw [Bool.eq_false_iff]; intro e; rw [winN_ok e] at h; cases h) (fun e => by omega) fun k' e hok => ?_
    have ih := ranswer_spec k (by omega)
    refine ⟨_, _, by rw [winN, hok, Bool.true_and], answered_spec k (by omega) ih t s a b ht hs hl h90 hab, answered_spec k (by omega) ih s t b a hs ht hl.symm (by omega) fun i hi => ?_⟩
    have := hab i (by omega)
    exact ⟨this.2, this.1⟩
end Go.Proofs.YtnikonhkbldnnaaGreatDoor
