import Derived.Test.YtnikonhkbldnnaaGreatDoorLB34
import Derived.Test.YtnikonhkbldnnaaGreatDoorLBA
/- LB35: tell, exists, Tell. -/
set_option linter.unusedVariables false
set_option linter.unusedSimpArgs false
set_option maxRecDepth 20000
namespace Go.Proofs.YtnikonhkbldnnaaGreatDoor
open Go Go.PS
attribute [-simp] isKeyK List.map_take TL.leaf
def ex8D : List (List Nat) := [[], [], [0, 1], [], [], [0, 1, 2, 3, 4], [], [6], [0, 1, 2, 3, 4, 5, 6, 7], [0, 1, 2, 3, 4, 5, 6, 7, 8], [0, 1, 2, 3, 4, 5, 6, 7, 8, 9], [0, 1, 2, 3, 4, 5, 6, 7, 8, 9], [], [0, 1, 2, 3, 4, 5, 6, 7, 8, 9, 10, 12], [0, 1, 2, 3, 4, 5, 6, 7, 8, 9, 10, 11, 12, 13]]
def ex8T : List Nat := [0, 1, 2, 3, 4, 5, 6, 7, 8, 9, 10, 11, 12, 13, 14]
def ex8P : List (List (Option Bool)) := [[some false, none, some false, none, none, some false, none, none, some false, some false, some false, some false, none, some false, some false], [none, some false, some false, none, none, some false, none, none, some false, some false, some false, some false, none, some false, some false], [some true, some true, some false, none, none, some false, none, none, some false, some false, some false, some false, none, some false, some false], [none, none, none, some false, none, some false, none, none, some false, some false, some false, some false, none, some false, some false], [none, none, none, none, some false, some false, none, none, some false, some false, some false, some false, none, some false, some false], [some true, some true, some true, some true, some true, some false, none, none, some false, some false, some false, some false, none, some false, some false], [none, none, none, none, none, none, some false, some false, some false, some false, some false, some false, none, some false, some false], [none, none, none, none, none, none, some true, some false, some false, some false, some false, some false, none, some false, some false], [some true, some true, some true, some true, some true, some true, some true, some true, some false, some false, some false, some false, none, some false, some false], [some true, some true, some true, some true, some true, some true, some true, some true, some true, some false, some false, some false, none, some false, some false], [some true, some true, some true, some true, some true, some true, some true, some true, some true, some true, some false, none, none, some false, some false], [some true, some true, some true, some true, some true, some true, some true, some true, some true, some true, none, some false, none, none, some false], [none, none, none, none, none, none, none, none, none, none, none, none, some false, some false, some false], [some true, some true, some true, some true, some true, some true, some true, some true, some true, some true, some true, none, some true, some false, some false], [some true, some true, some true, some true, some true, some true, some true, some true, some true, some true, some true, some true, some true, some true, some false]]
def zN : List TL := [sT [33], eI 0, eI 0, .sl .any 4 [foZ]]
def telT (k : Nat) : Option Fo → TL
  | some f => .tup [.agg (foC f), eB true]
  | none => .tup [.agg (if k = 0 then foZ else zN), eB false]
theorem telT_at (k : Nat) (o : Option Fo) : ∃ x0 x1 x2 x3 : TL, telT k o = .tup [.agg [x0, x1, x2, x3], eB o.isSome] ∧ (∀ f, o = some f → foC f = [x0, x1, x2, x3]) ∧ TL.leaf x0 = true ∧ TL.leaf x1 = true ∧ TL.leaf x2 = true ∧ TL.leaf x3 = true := by
  cases o with
  | some f =>
    obtain ⟨a, b, c, d, h, ⟨o, x, y, rfl, rfl, rfl⟩, hd⟩ := foC_at f
    exact ⟨_, _, _, d, by rw [telT, h]; rfl, (fun g hg => by cases hg; exact h), rfl, rfl, rfl, hd⟩
  | none =>
    by_cases hk : k = 0
    · exact ⟨_, _, _, _, by rw [telT, if_pos hk, foZ]; rfl, (fun g hg => by cases hg), rfl, rfl, rfl, rfl⟩
    · exact ⟨_, _, _, _, by rw [telT, if_neg hk, zN]; rfl, (fun g hg => by cases hg), rfl, rfl, rfl, rfl⟩
def TellP (k : Nat) : Prop := ∀ t s a b : List Nat, Tow 6 t → Tow 6 s → 1 ≤ t.length → 1 ≤ s.length → a.length = b.length → a.length + k ≤ 4 → Hab t s a b → PCall Tryz.prog 47 [eSide t a, eSide s b, eI k] (.t .ro (telT k (tellF k t s a b))) []
/-- The formulas that were told so far. -/
def accW (w : Nat → Option Fo) (u : Nat) : List Fo := (List.range u).filterMap w
theorem accW_succ (w : Nat → Option Fo) (u : Nat) {f : Fo} (h : w u = some f) : accW w (u + 1) = accW w u ++ [f] := by
  unfold accW
  rw [List.range_succ, List.filterMap_append]
  simp [h]
theorem accW_len {w : Nat → Option Fo} : ∀ {u : Nat}, (∀ i, i < u → (w i).isSome = true) → (accW w u).length = u
  | 0, _ => rfl
  | u + 1, h => by
    obtain ⟨f, hf⟩ := Option.isSome_iff_exists.1 (h u (by omega))
    rw [accW_succ w u hf, List.length_append, accW_len fun i hi => h i (by omega)]
    rfl
set_option maxHeartbeats 4000000 in
theorem exists_spec (k : Nat) (hw : TellP k) (t s a b : List Nat) (ht : Tow 6 t) (hs : Tow 6 s) (ht1 : 1 ≤ t.length) (hs1 : 1 ≤ s.length) (hl : a.length = b.length) (h4 : a.length + (k + 1) ≤ 4) (hab : Hab t s a b) :
    PCall Tryz.prog 84 [eSide t a, eSide s b, eI (k + 1 : Nat)] (.t .ro (unlT (exiF t s a b (tellF k t s)))) [] := by
  have ht6 := ht.le
  have hs6 := hs.le
  have hok := fun v u => tell_true k (t := t) (s := s) (a := a ++ [v]) (b := b ++ [u]) ht hs (by simp [hl]) (by simp; omega)
  obtain ⟨W, hWd⟩ : ∃ W : Nat → Nat → Option Fo, W = fun v u => tellF k t s (a ++ [v]) (b ++ [u]) := ⟨_, rfl⟩
  have hW : ∀ v u, W v u = tellF k t s (a ++ [v]) (b ++ [u]) := fun v u => by rw [hWd]
  have hE : exiF t s a b (tellF k t s) = (List.range t.length).findSome? fun v => if ((List.range s.length).all fun u => (W v u).isSome) = true then some (.ex a.length (allF (accW (W v) s.length))) else none := by
    rw [hWd]
    rfl
  clear hWd
  rw [hE]
  unfold eSide
  refine pcall_wpT Tryz.func84 rfl (by kernel_rfl) ?_
  simp -dsimp
  refine wk_loop (fun v : Nat => ⟨[(16, pI v), (15, pI t.length), (2, .t .ro (eI ((k : Int) + 1))), (3, .ptr 3 0), (4, .ptr 4 0), (6, .ptr 6 0)], [(3, .blk 90 [.t .ro (eNs t), .t .ro (eNs a)]), (4, .blk 90 [.t .ro (eNs s), .t .ro (eNs b)]), (6, .blk 37 [.t .fz (.v (.string ByteArray.empty)), pI 0, pI 0, .t .fz (.v (.slice none 0 0))])]⟩)
    (fun v => v ≤ t.length ∧ ∀ v', v' < v → ((List.range s.length).all fun u => (W v' u).isSome) = false) (fun v => t.length - v) 0
    (le_of (by simp) (by simp)) ⟨Nat.zero_le _, fun v hv => by omega⟩ fun v ⟨hv, hJ⟩ => ?_
  simp -dsimp
  refine condX_dec (fun hvl => ?_) (fun hvg => ?_)
  · have hv' : v < t.length := by omega
    have hwv := wr (n := (v : Int) + 1) (by omega) (by omega)
    have h1 := with_spec t a v (by omega)
    simp -dsimp
    refine lg_adoptT 9 9 37 4 (by simp; rfl) (by simp) ?_
    refine wk_loop (fun p : Kind × Nat => ⟨[(22, pI p.2), (21, pI s.length), (9, .osl 9), (8, pI v), (16, pI v), (15, pI t.length), (2, .t .ro (eI ((k : Int) + 1))), (3, .ptr 3 0), (4, .ptr 4 0), (6, .ptr 6 0)],
        [(9, .row 37 4 p.1 ((accW (W v) p.2).map foC)), (3, .blk 90 [.t .ro (eNs t), .t .ro (eNs a)]), (4, .blk 90 [.t .ro (eNs s), .t .ro (eNs b)]), (6, .blk 37 [.t .fz (.v (.string ByteArray.empty)), pI 0, pI 0, .t .fz (.v (.slice none 0 0))])]⟩)
      (fun p => p.2 ≤ s.length ∧ ∀ i, i < p.2 → (W v i).isSome = true) (fun p => s.length - p.2) (.fz, 0)
      (le_of (by simp) (by simp [accW])) ⟨Nat.zero_le _, fun i hi => by simp at hi⟩ fun ⟨kd, u⟩ ⟨hu, hall⟩ => ?_
    dsimp only at hu hall
    simp -dsimp
    refine condX_dec (fun hul => ?_) (fun hug => ?_)
    · have hu' : u < s.length := by omega
      have hwu := wr (n := (u : Int) + 1) (by omega) (by omega)
      have hwk := wr (n := (k : Int)) (by omega) (by omega)
      have hek : (k : Int) + 1 - 1 = k := by omega
      have h2 := with_spec s b u (by omega)
      have h3 := hw t s (a ++ [v]) (b ++ [u]) ht hs ht1 hs1 (by simp [hl]) (by simp; omega) (snoc_lt hl hab hv' hu')
      rw [← hW] at h3
      have hlen := accW_len hall
      have hsucc := fun f => accW_succ (W v) u (f := f)
      unfold eSide at h1 h2 h3
      generalize eNs (a ++ [v]) = Sa at h1 h3
      generalize eNs (b ++ [u]) = Sb at h2 h3
      obtain ⟨x0, x1, x2, x3, htel, hfoc, lf0, lf1, lf2, lf3⟩ := telT_at k (W v u)
      rw [htel] at h3
      have hisn : (W v u).isSome = false → ((List.range s.length).all fun u => (W v u).isSome) = false := fun h => by
        rw [Bool.eq_false_iff]
        intro hall2
        rw [List.all_eq_true.1 hall2 u (List.mem_range.2 hu')] at h
        cases h
      obtain ⟨ok, hok2⟩ : ∃ ok, ok = (W v u).isSome := ⟨_, rfl⟩
      rw [← hok2] at h3
      have hYl : ((accW (W v) u).map foC).length = u := by rw [List.length_map, hlen]
      generalize hY : (accW (W v) u).map foC = Y at *
      have hbb : (Y.length + 1) * 56 ≤ 140737488355328 := by omega
      simp -dsimp
      refine wk_dagS (fun bs => ⟨[(26, cnd (bs.getD 0 false) (.agg [.t .ro (eNs t), .t .ro (eNs a)])), (27, cnd (bs.getD 1 false) (pI v)), (28, cnd (bs.getD 2 false) (.t .ro (.agg [eNs t, Sa]))), (29, cnd (bs.getD 3 false) (.agg [.t .ro (eNs s), .t .ro (eNs b)])), (30, cnd (bs.getD 4 false) (pI u)), (31, cnd (bs.getD 5 false) (.t .ro (.agg [eNs s, Sb]))), (32, cnd (bs.getD 6 false) (.t .ro (eI ((k : Int) + 1)))), (33, cnd (bs.getD 7 false) (pI k)), (34, cnd (bs.getD 8 false) (.t .ro (.tup [.agg [x0, x1, x2, x3], eB ok]))), (25, cnd (bs.getD 9 false) (.t .ro (.tup [.agg [x0, x1, x2, x3], eB ok]))), (35, cnd (bs.getD 10 false) (.t .ro (.agg [x0, x1, x2, x3]))), (36, cnd (bs.getD 11 false) (.t .ro (eB ok))), (11, cnd (bs.getD 12 false) (.ptr 11 0)), (12, cnd (bs.getD 14 false) (.t .ro (eB ok))), (22, pI u), (21, pI s.length), (9, .osl 9), (8, pI v), (10, pI u), (16, pI v), (15, pI t.length), (2, .t .ro (eI ((k : Int) + 1))), (3, .ptr 3 0), (4, .ptr 4 0), (6, .ptr 6 0)], [(11, cndR (bs.getD 12 false) (.blk 37 (if bs.getD 13 false then [.t .ro x0, .t .ro x1, .t .ro x2, .t .ro x3] else [.t .fz (.v (.string ByteArray.empty)), pI 0, pI 0, .t .fz (.v (.slice none 0 0))]))), (9, .row 37 4 kd Y), (3, .blk 90 [.t .ro (eNs t), .t .ro (eNs a)]), (4, .blk 90 [.t .ro (eNs s), .t .ro (eNs b)]), (6, .blk 37 [.t .fz (.v (.string ByteArray.empty)), pI 0, pI 0, .t .fz (.v (.slice none 0 0))])]⟩) ex8D ex8T ex8P mixed (by kernel_rfl) (le_of (by simp) (by simp)) ?_ ?_
      · unfold ex8P
        simp -dsimp [hek, hwk, lf0, lf1, lf2, lf3, -Bool.forall_bool, -Res.men, -Res.kill]
        repeat' first
          | intro _
          | with_reducible apply And.intro
          | (refine le_of (by simp) ?_
             simp; done)
          | (refine CallG.by h1 ?_
             simp -dsimp [-Res.men, -Res.kill])
          | (refine CallG.by h2 ?_
             simp -dsimp [-Res.men, -Res.kill])
          | (refine CallG.by h3 ?_
             simp -dsimp [-Res.men, -Res.kill])
      · cases hcase : W v u with
        | none =>
          rw [hcase] at hok2 hisn
          subst hok2
          have hno := hisn rfl
          have hne : ((u : Int) == (s.length : Int)) = false := by
            rw [beq_eq_false_iff_ne]
            omega
          have hYi : ((Y.length : Nat) : Int) = (u : Int) := by omega
          simp -dsimp [hYl, hne]
          refine LoopP_next (v + 1) (le_of (by simp [hwv]) (by simp)) ⟨hv', fun v' hlt => ?_⟩ (by omega)
          rcases Nat.lt_or_ge v' v with h5 | h5
          · exact hJ v' h5
          · rw [show v' = v by omega]
            exact hno
        | some f =>
          rw [hcase] at hok2
          subst hok2
          have hf := hfoc f hcase
          have hsn : (accW (W v) (u + 1)).map foC = Y ++ [[x0, x1, x2, x3]] := by rw [hsucc f hcase, List.map_append, hY, List.map_cons, hf]; rfl
          have hnx : ∀ i, i < u + 1 → (W v i).isSome = true := fun i hi => by
            rcases Nat.lt_or_ge i u with h5 | h5
            · exact hall i h5
            · rw [show i = u by omega, hcase]
              rfl
          rcases foC_len f with ⟨o, x, y, hf2⟩ | ⟨o, x, y, ks, hf2⟩
          all_goals
            rw [hf] at hf2
            simp only [List.cons.injEq, and_true] at hf2
            obtain ⟨rfl, rfl, rfl, rfl⟩ := hf2
            cases kd
            all_goals
              simp -dsimp [hbb, hwu]
              first
                | (refine LoopP_next (Kind.ro, u + 1) (le_of (by simp) ?_) ⟨hu', hnx⟩ (by simp only; omega)
                   simp [hsn]; done)
                | (refine LoopP_next (Kind.fz, u + 1) (le_of (by simp) ?_) ⟨hu', hnx⟩ (by simp only; omega)
                   simp [hsn]; done)
    · have hue : u = s.length := by omega
      subst hue
      have hlen := accW_len hall
      have hyes : ((List.range s.length).all fun u => (W v u).isSome) = true := by
        rw [List.all_eq_true]
        intro i hi
        exact hall i (List.mem_range.1 hi)
      have hF := range_find (x := Fo.ex a.length (allF (accW (W v) s.length))) (f := fun v => if ((List.range s.length).all fun u => (W v u).isSome) = true then some (Fo.ex a.length (allF (accW (W v) s.length))) else none) hv' (by simp only [hyes, if_true]) (fun v' hlt => by simp only [hJ v' hlt, Bool.false_eq_true, if_false])
      have hszb : szB k ≤ 733 := by
        have : k ≤ 3 := by omega
        match k, this with
        | 0, _ => decide
        | 1, _ => decide
        | 2, _ => decide
        | 3, _ => decide
      have hmem : ∀ f ∈ accW (W v) s.length, vokF f ∧ szF f ≤ 20000 := fun f hf => by
        obtain ⟨u, _, hu⟩ := List.mem_filterMap.1 hf
        rw [hW] at hu
        have := (hok v u).2 f hu
        exact ⟨this.vok, by have := this.sz; omega⟩
      have hall2 := all_spec (accW (W v) s.length) (by intro e; rw [e] at hlen; simp at hlen; omega) (fun f hf => (hmem f hf).1) (fun f hf => (hmem f hf).2) (by omega)
      rw [hF, unlT, foC]
      have hYl : ((accW (W v) s.length).map foC).length = s.length := by rw [List.length_map, hlen]
      generalize (accW (W v) s.length).map foC = Y at *
      have heq : ((Y.length : Int) == (s.length : Int)) = true := by rw [hYl]; simp
      rcases foC_len (allF (accW (W v) s.length)) with ⟨o, x, y, hz⟩ | ⟨o, x, y, ks, hz⟩
      all_goals
        rw [hz] at hall2 ⊢
        simp -dsimp [hYl, heq]
        refine dg_frz [9] ?_
        simp -dsimp
        refine wk_draw 6 [4, 5] mixed (by kernel_rfl) ?_
        simp -dsimp
        first
          | refine CallG.by (hall2) ?_
          | refine CallGE.by (hall2) ?_
          | refine CallGB.by (hall2) ?_
        simp -dsimp
        refine retT_c ?_
        simp -dsimp [sT]
  · have hve : v = t.length := by omega
    rw [hve] at hJ
    have hF : ((List.range t.length).findSome? fun v => if ((List.range s.length).all fun u => (W v u).isSome) = true then some (Fo.ex a.length (allF (accW (W v) s.length))) else none) = none := by
      rw [List.findSome?_eq_none_iff]
      intro x hx
      rw [hJ x (List.mem_range.1 hx)]
      rfl
    rw [hF, unlT, foZ, nilT]
    simp -dsimp
    refine retT_c ?_
    simp -dsimp
end Go.Proofs.YtnikonhkbldnnaaGreatDoor
