import Derived.Test.YtfcbmcmkakceaaaDoorLB6
/- LB7: wins, answers, Answer, Win. -/
set_option linter.unusedVariables false
set_option linter.unusedSimpArgs false
set_option maxRecDepth 20000
namespace Go.Proofs.YtfcbmcmkakceaaaDoor
open Go Go.PS
attribute [-simp] isKeyK List.map_take
def Hab (t s a b : List Nat) : Prop := ∀ i, i < a.length → a.getD i 0 < t.length ∧ b.getD i 0 < s.length
def WinsP (k : Nat) : Prop := ∀ t s a b : List Nat, Tow 6 t → Tow 6 s → a.length = b.length → a.length + k ≤ 90 → Hab t s a b → PCall Tryd.prog 58 [eSide t a, eSide s b, eI k] (pB (winN k t s a b)) []
theorem any_succ (p : Nat → Bool) (n : Nat) : (List.range (n + 1)).any p = ((List.range n).any p || p n) := by simp [List.range_succ]
theorem answers_spec (k : Nat) (hw : WinsP k) (t s a b : List Nat) (ht : Tow 6 t) (hs : Tow 6 s) (hl : a.length = b.length) (h90 : a.length + (k + 1) ≤ 90) (hab : Hab t s a b) :
    PCall Tryd.prog 97 [eSide t a, eSide s b, eI (k + 1 : Nat)] (pB (ansN (winN k t s) t.length s.length a b)) [] := by
  refine pcall_wp _ Tryd.func97 rfl (by kernel_rfl) rfl ?_
  have hAt : ∀ v, (List.range s.length).any (fun u => winN k t s (a ++ [v]) (b ++ [u])) = false → v < t.length → ansN (winN k t s) t.length s.length a b = false := fun v h hv => by
    rw [ansN, List.all_eq_false]
    exact ⟨v, List.mem_range.2 hv, by rw [h]; simp⟩
  have ht6 := ht.le
  have hs6 := hs.le
  unfold eSide
  simp -dsimp
  refine wk_loop (fun v : Nat => ⟨[(13, pI v), (12, pI t.length), (6, pB false), (4, .ptr 4 0), (3, .ptr 3 0), (2, .t .ro (eI (k + 1 : Nat)))],
      [(4, .blk 90 [.t .ro (eNs s), .t .ro (eNs b)]), (3, .blk 90 [.t .ro (eNs t), .t .ro (eNs a)])]⟩)
    (fun v => v ≤ t.length ∧ ∀ v', v' < v → (List.range s.length).any (fun u => winN k t s (a ++ [v']) (b ++ [u])) = true) (fun v => t.length - v) 0
    (le_of (by simp) (by simp)) ⟨by omega, fun k h => by omega⟩ fun v ⟨hv, hJ⟩ => ?_
  simp -dsimp
  refine condX_dec (fun h => ?_) (fun h => ?_)
  rotate_left
  · have hv' : v = t.length := by omega
    subst hv'
    have hT : ansN (winN k t s) t.length s.length a b = true := List.all_eq_true.2 fun v hv => hJ v (List.mem_range.1 hv)
    simp -dsimp
    refine retP_c ?_
    simp -dsimp [hT]
  have hwv := wr (n := (v : Int) + 1) (by omega) (by omega)
  have hAv := fun e => hAt v e h
  have hF : (List.range s.length).any (fun u => winN k t s (a ++ [v]) (b ++ [u])) = (List.range s.length).any (fun u => winN k t s (a ++ [v]) (b ++ [u])) := rfl
  simp -dsimp
  refine wk_loop (fun p : Kind × Nat => ⟨[(19, pI p.2), (18, pI s.length), (8, .t p.1 (eB ((List.range p.2).any fun u => winN k t s (a ++ [v]) (b ++ [u])))), (7, pI v), (13, pI v), (12, pI t.length), (6, pB false), (4, .ptr 4 0), (3, .ptr 3 0), (2, .t .ro (eI (k + 1 : Nat)))],
      [(4, .blk 90 [.t .ro (eNs s), .t .ro (eNs b)]), (3, .blk 90 [.t .ro (eNs t), .t .ro (eNs a)])]⟩)
    (fun p => p.2 ≤ s.length) (fun p => s.length - p.2) (.fz, 0)
    (le_of (by simp) (by simp)) (by simp) fun ⟨kd, u⟩ hu => ?_
  dsimp only at hu
  simp -dsimp
  refine condX_dec (fun hus => ?_) (fun hus => ?_)
  · have hwu := wr (n := (u : Int) + 1) (by omega) (by omega)
    have hwk := wr (n := ((k : Int) + 1) - 1) (by omega) (by omega)
    have hek : (k : Int) + 1 - 1 = k := by omega
    rw [hek] at hwk
    have h1 := with_spec t a v (by omega)
    have h2 := with_spec s b u (by omega)
    have h3 := hw t s (a ++ [v]) (b ++ [u]) ht hs (by simp [hl]) (by simp; omega) (snoc_lt hl hab h hus)
    have hA : (List.range (u + 1)).any (fun u => winN k t s (a ++ [v]) (b ++ [u])) = ((List.range u).any (fun u => winN k t s (a ++ [v]) (b ++ [u])) || winN k t s (a ++ [v]) (b ++ [u])) := any_succ _ u
    unfold eSide at h1 h2 h3
    simp only [eNs, eIs, iL_append, iL_cons, iL_nil, List.map_append, List.map_cons, List.map_nil, cI] at h3
    generalize (List.range u).any (fun u => winN k t s (a ++ [v]) (b ++ [u])) = f at *
    generalize winN k t s (a ++ [v]) (b ++ [u]) = w at *
    simp -dsimp
    refine wk_draw 10 [] mixed (by kernel_rfl) ?_
    cases f with
    | true =>
      simp -dsimp
      refine LoopP_next (.fz, u + 1) (le_of (by simp [hwu, hA]) (by simp)) hus (by simp only; omega)
    | false =>
      simp -dsimp [hek, hwk]
      first
        | refine CallG.by (h1) ?_
        | refine CallGE.by (h1) ?_
        | refine CallGB.by (h1) ?_
      simp -dsimp
      first
        | refine CallG.by (h2) ?_
        | refine CallGE.by (h2) ?_
        | refine CallGB.by (h2) ?_
      simp -dsimp [hek, hwk]
      first
        | refine CallG.by (h3) ?_
        | refine CallGE.by (h3) ?_
        | refine CallGB.by (h3) ?_
      simp -dsimp
      refine LoopP_next (.fz, u + 1) (le_of (by simp [hwu, hA]) (by simp)) hus (by simp only; omega)
  · have hu' : u = s.length := by omega
    subst hu'
    cases hf : (List.range s.length).any (fun u => winN k t s (a ++ [v]) (b ++ [u])) with
    | false =>
      have := hAv hf
      simp -dsimp
      refine retP_c ?_
      simp -dsimp [this]
    | true =>
      simp -dsimp
      refine LoopP_next (v + 1) (le_of (by simp [hwv]) (by simp)) ⟨h, fun v' hv' => ?_⟩ (by omega)
      rcases Nat.lt_or_ge v' v with h5 | h5
      · exact hJ v' h5
      · rwa [show v' = v by omega]
theorem wins_spec (k : Nat) : WinsP k := by
  induction k with
  | zero =>
    intro t s a b ht hs hl h90 hab
    have hu := unlike_spec t s a b ht hs hl (by omega) hab
    have hun := un_none (t := t) (s := s) (a := a) (b := b)
    unfold eSide at hu
    refine pcall_wp _ Tryd.func58 rfl (by kernel_rfl) rfl ?_
    unfold eSide
    cases ho : unF t s a b with
    | some f =>
      have hok : okN t s a b = false := by
        rw [Bool.eq_false_iff]
        intro h
        rw [hun.2 h] at ho
        cases ho
      have hF : winN 0 t s a b = false := by
        rw [Bool.eq_false_iff]
        intro h
        rw [winN_ok h] at hok
        cases hok
      rw [ho, unlT] at hu
      rcases foC_len f with ⟨o, x, y, hf⟩ | ⟨o, x, y, ks, hf⟩
      · rw [hf] at hu
        simp -dsimp
        first
          | refine CallG.by (hu) ?_
          | refine CallGE.by (hu) ?_
          | refine CallGB.by (hu) ?_
        simp -dsimp
        refine retP_c ?_
        simp -dsimp [hF]
      · rw [hf] at hu
        simp -dsimp
        first
          | refine CallG.by (hu) ?_
          | refine CallGE.by (hu) ?_
          | refine CallGB.by (hu) ?_
        simp -dsimp
        refine retP_c ?_
        simp -dsimp [hF]
    | none =>
      have hok := hun.1 ho
      rw [ho, unlT, foZ, nilT] at hu
      have hF : winN 0 t s a b = true := hok
      simp -dsimp
      first
        | refine CallG.by (hu) ?_
        | refine CallGE.by (hu) ?_
        | refine CallGB.by (hu) ?_
      simp -dsimp
      refine retP_c ?_
      simp -dsimp [hF]
  | succ k ih =>
    intro t s a b ht hs hl h90 hab
    have hu := unlike_spec t s a b ht hs hl (by omega) hab
    have hun := un_none (t := t) (s := s) (a := a) (b := b)
    unfold eSide at hu
    refine pcall_wp _ Tryd.func58 rfl (by kernel_rfl) rfl ?_
    unfold eSide
    cases ho : unF t s a b with
    | some f =>
      have hok : okN t s a b = false := by
        rw [Bool.eq_false_iff]
        intro h
        rw [hun.2 h] at ho
        cases ho
      have hF : winN (k + 1) t s a b = false := by
        rw [Bool.eq_false_iff]
        intro h
        rw [winN_ok h] at hok
        cases hok
      rw [ho, unlT] at hu
      rcases foC_len f with ⟨o, x, y, hf⟩ | ⟨o, x, y, ks, hf⟩
      · rw [hf] at hu
        simp -dsimp
        first
          | refine CallG.by (hu) ?_
          | refine CallGE.by (hu) ?_
          | refine CallGB.by (hu) ?_
        simp -dsimp
        refine retP_c ?_
        simp -dsimp [hF]
      · rw [hf] at hu
        simp -dsimp
        first
          | refine CallG.by (hu) ?_
          | refine CallGE.by (hu) ?_
          | refine CallGB.by (hu) ?_
        simp -dsimp
        refine retP_c ?_
        simp -dsimp [hF]
    | none =>
      have hok := hun.1 ho
      rw [ho, unlT, foZ, nilT] at hu
      have h1 := answers_spec k ih t s a b ht hs hl (by omega) hab
      have h2 := answers_spec k ih s t b a hs ht hl.symm (by omega) fun i hi => ⟨(hab i (by omega)).2, (hab i (by omega)).1⟩
      unfold eSide at h1 h2
      have hF : winN (k + 1) t s a b = (ansN (winN k t s) t.length s.length a b && ansN (winN k s t) s.length t.length b a) := by rw [winN, hok, Bool.true_and]
      have hk0 : (((k : Int) + 1) == 0) = false := by simp; omega
      generalize ansN (winN k t s) t.length s.length a b = p at *
      generalize ansN (winN k s t) s.length t.length b a = q at *
      simp -dsimp
      first
        | refine CallG.by (hu) ?_
        | refine CallGE.by (hu) ?_
        | refine CallGB.by (hu) ?_
      cases p with
      | false =>
        simp -dsimp [hk0]
        first
          | refine CallG.by (h1) ?_
          | refine CallGE.by (h1) ?_
          | refine CallGB.by (h1) ?_
        simp -dsimp
        refine retP_c ?_
        simp -dsimp [hF]
      | true =>
        simp -dsimp [hk0]
        first
          | refine CallG.by (h1) ?_
          | refine CallGE.by (h1) ?_
          | refine CallGB.by (h1) ?_
        simp -dsimp
        first
          | refine CallG.by (h2) ?_
          | refine CallGE.by (h2) ?_
          | refine CallGB.by (h2) ?_
        simp -dsimp
        refine retP_c ?_
        simp -dsimp [hF]
end Go.Proofs.YtfcbmcmkakceaaaDoor
