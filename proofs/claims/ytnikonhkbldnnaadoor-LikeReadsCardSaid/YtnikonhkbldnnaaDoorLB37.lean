import Derived.Test.YtnikonhkbldnnaaDoorLB31
/- LB37: read, own, none of the law's package. -/
set_option linter.unusedVariables false
set_option linter.unusedSimpArgs false
set_option maxRecDepth 20000
namespace Go.Proofs.YtnikonhkbldnnaaDoor
open Go Go.PS
attribute [-simp] isKeyK List.map_take
def rd7D : List (List Nat) := [[], [0], [], [], [3], [], [2, 3, 4, 5], [2, 3, 4, 5, 6], [0, 1, 2, 3, 4, 5, 6, 7], [0, 1, 2, 3, 4, 5, 6, 7, 8], [0, 1, 2, 3, 4, 5, 6, 7, 8, 9]]
def rd7T : List Nat := [0, 1, 2, 3, 4, 5, 6, 7, 8, 9, 10]
def rd7P : List (List (Option Bool)) := [[some false, some false, none, none, none, none, none, none, some false, some false, some false], [some true, some false, none, none, none, none, none, none, some false, some false, some false], [none, none, some false, none, none, none, some false, some false, some false, some false, some false], [none, none, none, some false, some false, none, some false, some false, some false, some false, some false], [none, none, none, some true, some false, none, some false, some false, some false, some false, some false], [none, none, none, none, none, some false, some false, some false, some false, some false, some false], [none, none, some true, some true, some true, some true, some false, some false, some false, some false, some false], [none, none, some true, some true, some true, some true, some true, some false, some false, some false, some false], [some true, some true, some true, some true, some true, some true, some true, some true, some false, some false, some false], [some true, some true, some true, some true, some true, some true, some true, some true, some true, some false, some false], [some true, some true, some true, some true, some true, some true, some true, some true, some true, some true, some false]]
/-- What read hands back. -/
def rdR (z : FT) : PV := match z with
  | .mk o a b _ => .agg [.t .fz (.v (.string o)), pI a, pI b, .osl 101]
def rdM (z : FT) (n : Int) : List (Nat × Res) := [(1000000, .blk 3 [pI n]), (101, .row 24 4 .fz ((ftK z).map ftC))]
set_option maxHeartbeats 4000000 in
theorem lread_spec : ∀ (left : Nat), left ≤ 100 → ∀ (n : Int) (o : ByteArray) (a b : Int) (ks : List FT), 1 ≤ n → n ≤ 2010 →
    ECall Tryd.prog 41 [.agg [.t .fz (.v (.string o)), pI a, pI b, .t .ro (.sl .any 4 (ks.map ftC))], pI left, .ptr 1000000 0] [(1000000, .blk 3 [pI n])] (rdR (.mk o a b (cvK left (n - 1) ks).1)) (rdM (.mk o a b (cvK left (n - 1) ks).1) (cvK left (n - 1) ks).2) := by
  intro left
  induction left using Nat.strongRecOn with
  | ind left ih =>
  intro hl n o a b ks h0 h1
  have hw := wr (n := n - 1) (by omega) (by omega)
  simp only [rdR, rdM, ftK]
  refine ecall_wp Tryd.func41 rfl (by kernel_rfl) ?_
  simp -dsimp [hw]
  refine lg_adoptM 7 3 101 24 4 (by simp; exact ⟨rfl, rfl⟩) (by simp; rfl) (by simp) (by simp) ?_
  refine wk_loop (fun p : Nat × Int × List FT => ⟨[(25, pI p.1), (24, pI ks.length), (23, .t .ro (.sl .any 4 (ks.map ftC))), (7, .ptr 7 0), (6, .ptr 6 0), (1, pI left), (2, .ptr 1000000 0)],
      [(7, .blk 24 [.t .fz (.v (.string o)), pI a, pI b, .osl 101]), (101, .row 24 4 .fz (p.2.2.map ftC)), (6, .blk 24 [.t .fz (.v (.string ByteArray.empty)), pI 0, pI 0, .t .fz (.v (.slice none 0 0))]), (1000000, .blk 3 [pI p.2.1])]⟩)
    (fun p => p.1 ≤ ks.length ∧ p.1 ≤ 4 ∧ 0 ≤ p.2.1 ∧ p.2.1 ≤ 2010 ∧ p.2.2.length = p.1 ∧ (match left with
      | 0 => p.1 = 0 ∧ p.2.1 = n - 1
      | l + 1 => cvK left (n - 1) ks = (p.2.2 ++ (convL (convF l) p.2.1 p.1 (ks.drop p.1)).1, (convL (convF l) p.2.1 p.1 (ks.drop p.1)).2))) (fun p => ks.length - p.1) (0, n - 1, [])
    (le_of (by simp) (by simp)) ⟨Nat.zero_le _, Nat.zero_le _, by simp only; omega, by simp only; omega, rfl, by cases left <;> simp [cvK]⟩ fun ⟨i, m, acc⟩ ⟨hi, hi4, hm0, hm1, hacc, hinv⟩ => ?_
  dsimp only at hi hi4 hm0 hm1 hacc hinv
  simp -dsimp
  refine condX_dec (fun hlt => ?_) (fun hge => ?_)
  · have hlt' : i < ks.length := by omega
    have hi0 : (i : Int) < ks.length := by omega
    have hw1 := wr (n := (i : Int) + 1) (by omega) (by omega)
    obtain ⟨o', a', b', ks', hk'⟩ := ft_split ks[i]
    by_cases hl0 : left = 0
    · subst hl0
      simp only at hinv
      obtain ⟨hi00, hm⟩ := hinv
      have hac : acc = [] := List.eq_nil_of_length_eq_zero (by omega)
      have hfin : cvK 0 (n - 1) ks = (acc, m) := by rw [hac, hm]; rfl
      subst hi00
      rw [hfin]
      simp -dsimp [hlt, hi0, hlt', hk', ftC_mk]
      refine retE_c (by simp -dsimp) (by simp)
    · obtain ⟨l, rfl⟩ : ∃ l, left = l + 1 := ⟨left - 1, by omega⟩
      simp only at hinv
      rw [convL_drop _ _ _ hlt'] at hinv
      have hll : ¬ ((l : Int) + 1 < 1) := by omega
      by_cases hc : m < 1
      · have hfin : cvK (l + 1) (n - 1) ks = (acc, m) := by rw [hinv, if_pos (.inl hc)]; simp
        rw [hfin]
        simp -dsimp [hlt, hi0, hlt', hk', ftC_mk, hll, hc]
        refine retE_c (by simp -dsimp) (by simp)
      · by_cases hc3 : 3 < i
        · have hc3i : (3 : Int) < (i : Int) := by omega
          have hfin : cvK (l + 1) (n - 1) ks = (acc, m) := by rw [hinv, if_pos (.inr hc3)]; simp
          rw [hfin]
          simp -dsimp [hlt, hi0, hlt', hk', ftC_mk, hll, hc, hc3, hc3i]
          refine retE_c (by simp -dsimp) (by simp)
        · have hc3i : ¬ (3 : Int) < (i : Int) := by omega
          rw [if_neg (fun h => h.elim hc hc3)] at hinv
          have hwl := wr (n := (l : Int)) (by omega) (by omega)
          have hel : (l : Int) + 1 - 1 = (l : Int) := by omega
          have hrec := ih l (by omega) (by omega) m o' a' b' ks' (by omega) hm1
          have hmk := convF_mk l m o' a' b' ks'
          have hbd := convF_bd l m ks[i] (by omega) hm1
          rw [hk'] at hinv hbd
          rw [hmk] at hinv hbd
          have hcl : (cvK l (m - 1) ks').1.length ≤ 4 := by
            cases l with
            | zero => simp [cvK]
            | succ l => exact convL_len _ ks' _ 0
          generalize cvK l (m - 1) ks' = z at *
          obtain ⟨C, m'⟩ := z
          simp only at hinv hbd hcl hrec
          simp only [rdR, rdM, ftK] at hrec
          have hbA : (acc.length + 1) * 56 ≤ 140737488355328 := by omega
          have hsn : (acc ++ [FT.mk o' a' b' C]).map ftC = acc.map ftC ++ [[.v (.string o'), eI a', eI b', .sl .any 4 (C.map ftC)]] := by rw [List.map_append, List.map_cons, ftC_mk]; rfl
          simp -dsimp [hlt, hi0, hlt', hk', ftC_mk, hll, hc, hc3, hc3i]
          generalize C.map ftC = K at *
          refine wk_dagZ [[], [], [], [], [], [], [201]] (fun bs => ⟨[(42, cnd (bs.getD 0 false) (.ptr 7 3)), (43, cnd (bs.getD 1 false && !bs.getD 8 false) (.osl 101)), (44, cnd (bs.getD 2 false) (.agg [.t .ro (.v (.string o')), .t .ro (eI a'), .t .ro (eI b'), .t .ro (.sl .any 4 (ks'.map ftC))])), (45, cnd (bs.getD 3 false) (pI ((l : Int) + 1))), (46, cnd (bs.getD 4 false) (pI l)), (47, cnd (bs.getD 5 false) (.ptr 1000000 0)), (48, cnd (bs.getD 6 false) (.t .fz (.agg [.v (.string o'), eI a', eI b', .sl .any 4 K]))), (49, cnd (bs.getD 7 false) (.osl 49)), (50, cnd (bs.getD 8 false) (.osl 101)), (51, cnd (bs.getD 9 false) (.ptr 7 3)), (9, .ptr 9 0), (25, pI i), (24, pI ks.length), (23, .t .ro (.sl .any 4 (ks.map ftC))), (7, .ptr 7 0), (6, .ptr 6 0), (1, pI ((l : Int) + 1)), (2, .ptr 1000000 0)],
          [(7, .blk 24 [.t .fz (.v (.string o)), pI a, pI b, if bs.getD 8 false && !bs.getD 10 false then .undef else .osl 101]), (101, .row 24 4 .fz (acc.map ftC ++ if bs.getD 8 false then [[.v (.string o'), eI a', eI b', .sl .any 4 K]] else [])), (49, cndR (bs.getD 7 false) (.row 24 4 .fz [[.v (.string o'), eI a', eI b', .sl .any 4 K]])), (9, .blk 27 [.t .ro (.v (.string o')), .t .ro (eI a'), .t .ro (eI b'), .t .ro (.sl .any 4 (ks'.map ftC))]), (6, .blk 24 [.t .fz (.v (.string ByteArray.empty)), pI 0, pI 0, .t .fz (.v (.slice none 0 0))]), (1000000, .blk 3 [if bs.getD 6 false then pI m' else pI m])]⟩) rd7D rd7T rd7P mixed (by kernel_rfl) (le_of (by simp) (by simp)) ?_ ?_
          · unfold rd7P
            repeat' first
              | exact dagZG_end
              | refine dagZG_step ?_ ?_
            all_goals
              simp -dsimp [hbA, hel, hwl, -Bool.forall_bool, -Res.men, -Res.kill]
            repeat' first
              | intro _
              | with_reducible apply And.intro
              | (refine le_of (by simp) ?_
                 simp; done)
              | (refine CallG.on (g := [(1000000, 1000000), (201, 101)]) hrec (by decide) (by simp) (by simp) (by simp [Sg.bk]) ?_
                 simp -dsimp [-Res.men, -Res.kill])
              | (rename_i x
                 cases x <;> simp -dsimp)
          · simp -dsimp [hw1]
            refine LoopP_next (i + 1, m', acc ++ [FT.mk o' a' b' C]) (le_of (by simp) (by simp [hsn])) ⟨hlt', by simp only; omega, hbd.1, by simp only; omega, by simp [hacc], ?_⟩ (by simp only; omega)
            simp only
            rw [hinv, List.append_assoc]
            rfl
  · have hie : i = ks.length := by omega
    have hfin : cvK left (n - 1) ks = (acc, m) := by
      cases left with
      | zero =>
        simp only at hinv
        have hac : acc = [] := List.eq_nil_of_length_eq_zero (by omega)
        rw [hac, hinv.2]
        rfl
      | succ l =>
        simp only at hinv
        rw [hinv, hie, List.drop_length, convL]
        simp
    rw [hfin]
    simp -dsimp
    refine retE_c (by simp -dsimp) (by simp)
theorem own_spec (f : FT) : PCall Tryd.prog 22 [.agg (ftC f)] (.t .ro (.agg (ftC (ofF f)))) [] := by
  obtain ⟨o, a, b, ks, hk⟩ := ft_split f
  have hc := lread_spec 43 (by omega) 2010 o a b ks (by omega) (by omega)
  have hO : ofF f = .mk o a b (cvK 43 (2010 - 1) ks).1 := by rw [ofF, hk, convF_mk]
  rw [hO, hk, ftC_mk, ftC_mk]
  generalize cvK 43 (2010 - 1) ks = z at *
  obtain ⟨C, m⟩ := z
  simp only [rdR, rdM, ftK] at hc ⊢
  refine pcall_wpT Tryd.func22 rfl (by kernel_rfl) ?_
  simp -dsimp
  first
    | refine CallG.on (g := [(3, 1000000), (101, 101)]) (hc) (by decide) (by simp) (by simp) (by simp [Sg.bk]) ?_
    | refine CallN.on (g := [(3, 1000000), (101, 101)]) (hc) (by decide) (by simp) (by simp) (by simp [Sg.bk]) ?_
    | refine CallGB.on (g := [(3, 1000000), (101, 101)]) (hc) (by decide) (by simp) (by simp) (by simp [Sg.bk]) ?_
  simp -dsimp
  refine retT_c ?_
  simp -dsimp
end Go.Proofs.YtnikonhkbldnnaaDoor
