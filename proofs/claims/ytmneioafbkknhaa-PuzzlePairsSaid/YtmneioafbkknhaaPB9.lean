import Derived.Test.YtmneioafbkknhaaPB8
/- PB9: a puzzle of the reference as one of the program. -/
set_option linter.unusedVariables false
set_option linter.unusedSimpArgs false
set_option maxRecDepth 20000
namespace Go.Proofs.Ytmneioafbkknhaa
open Go Go.PS
attribute [-simp] List.map_take
def trimR (r : Rl) : Rl := ⟨r.n, r.rows.take 14⟩
def trimC (c : Cn) : Cn := ⟨c.rel, c.vars.take 14⟩
def cutR (l : List Rl) (i : Nat) : List Rl := (l.take (min i 7)).map trimR
def cutC (l : List Cn) (i : Nat) : List Cn := (l.take (min i 14)).map trimC
def trimP (p : Pz) : Pz := ⟨p.vars, cutR p.rels p.rels.length, cutC p.cons p.cons.length⟩
theorem cutR_lt (l : List Rl) (i : Nat) (h : i < l.length) (h7 : i < 7) : cutR l (i + 1) = cutR l i ++ [trimR l[i]] := by
  simp only [cutR]
  rw [Nat.min_eq_left (by omega), Nat.min_eq_left (by omega), List.take_add_one, List.map_append, List.getElem?_eq_getElem h]
  rfl
theorem cutR_ge (l : List Rl) (i : Nat) (h7 : ¬ i < 7) : cutR l (i + 1) = cutR l i := by
  simp only [cutR]
  rw [Nat.min_eq_right (by omega), Nat.min_eq_right (by omega)]
theorem cutC_lt (l : List Cn) (i : Nat) (h : i < l.length) (h7 : i < 14) : cutC l (i + 1) = cutC l i ++ [trimC l[i]] := by
  simp only [cutC]
  rw [Nat.min_eq_left (by omega), Nat.min_eq_left (by omega), List.take_add_one, List.map_append, List.getElem?_eq_getElem h]
  rfl
theorem cutC_ge (l : List Cn) (i : Nat) (h7 : ¬ i < 14) : cutC l (i + 1) = cutC l i := by
  simp only [cutC]
  rw [Nat.min_eq_right (by omega), Nat.min_eq_right (by omega)]
theorem cutR_len (l : List Rl) (i : Nat) : (cutR l i).length ≤ 7 := by simp [cutR]; omega
theorem cutC_len (l : List Cn) (i : Nat) : (cutC l i).length ≤ 14 := by simp [cutC]; omega
theorem of_spec (p : Pz) : PCall Try.prog 19 [ePz p] (.t .ro (ePz (trimP p))) [] := by
  refine pcall_agg 0 1 rfl rfl call19 fun hlr => ?_
  refine pcall_agg 0 2 rfl rfl call19 fun hlc => ?_
  simp only [List.length_map] at hlr hlc
  refine pcall_wpT Try.func19 rfl (by kernel_rfl) ?_
  simp -dsimp
  refine lg_adoptM 3 1 50 48 2 rfl rfl (by simp) (by simp) ?_
  refine wk_loop (fun q : Nat × Kind => ⟨[(14, pI q.1), (13, pI p.rels.length), (12, .t .ro (eRls p.rels)), (3, .ptr 3 0), (2, .ptr 2 0), (1, .ptr 1 0)],
     [(3, .blk 32 [.t .ro (eI p.vars), .osl 50, .t .fz (.v (.slice none 0 0))]), (50, .row 48 2 q.2 ((cutR p.rels q.1).map cRl)), (2, .blk 32 [.t .fz (eI 0), .t .fz (.v (.slice none 0 0)), .t .fz (.v (.slice none 0 0))]), (1, .blk 25 [PV.t Kind.ro (eI p.vars), PV.t Kind.ro (eRls p.rels), PV.t Kind.ro (eCns p.cons)])]⟩)
    (fun q => q.1 ≤ p.rels.length) (fun q => p.rels.length - q.1) (0, .fz) (le_of (by simp) (by simp [cutR])) (by simp) fun ⟨i, k⟩ hi => ?_
  dsimp only at hi
  simp -dsimp
  refine condX_dec (fun h => ?_) (fun h => ?_)
  · have hw := wr (n := (i : Int) + 1) (by omega) (by omega)
    simp -dsimp [h]
    refine condX_dec (fun c7 => ?_) (fun c7 => ?_)
    · have hb : ((cutR p.rels i).length + 1) * 32 ≤ 140737488355328 := by
        have := cutR_len p.rels i
        omega
      simp -dsimp [c7]
      refine wk_draw 5 [3, 4] mixed (by kernel_rfl) ?_
      simp -dsimp
      first
        | refine CallG.by (rel_spec p.rels[i]) ?_
        | refine CallGE.by (rel_spec p.rels[i]) ?_
        | refine CallGB.by (rel_spec p.rels[i]) ?_
      simp -dsimp [hb, hw]
      refine LoopP_next (i + 1, .ro) (le_of (by simp) (by cases k <;> simp [cutR_lt _ _ h (show i < 7 by omega), trimR])) h (by simp only; omega)
    · simp -dsimp [c7, hw]
      refine LoopP_next (i + 1, k) (le_of (by simp) (by simp [cutR_ge _ _ (show ¬ i < 7 by omega)])) h (by simp only; omega)
  have hi' : i = p.rels.length := by omega
  subst hi'
  clear h hi
  simp -dsimp
  refine lg_adoptM 3 2 51 39 2 rfl rfl (by simp) (by simp) ?_
  refine wk_loop (fun q : Nat × Kind => ⟨[(32, pI q.1), (31, pI p.cons.length), (30, .t .ro (eCns p.cons)), (3, .ptr 3 0), (2, .ptr 2 0), (1, .ptr 1 0)],
     [(3, .blk 32 [.t .ro (eI p.vars), .osl 50, .osl 51]), (50, .row 48 2 k ((cutR p.rels p.rels.length).map cRl)), (51, .row 39 2 q.2 ((cutC p.cons q.1).map cCn)), (2, .blk 32 [.t .fz (eI 0), .t .fz (.v (.slice none 0 0)), .t .fz (.v (.slice none 0 0))])]⟩)
    (fun q => q.1 ≤ p.cons.length) (fun q => p.cons.length - q.1) (0, .fz) (le_of (by simp) (by simp [cutC])) (by simp) fun ⟨i, k'⟩ hi => ?_
  dsimp only at hi
  simp -dsimp
  refine condX_dec (fun h => ?_) (fun h => ?_)
  · have hw := wr (n := (i : Int) + 1) (by omega) (by omega)
    simp -dsimp [h]
    refine condX_dec (fun c7 => ?_) (fun c7 => ?_)
    · have hb : ((cutC p.cons i).length + 1) * 32 ≤ 140737488355328 := by
        have := cutC_len p.cons i
        omega
      simp -dsimp [c7]
      refine wk_draw 9 [6, 8] mixed (by kernel_rfl) ?_
      simp -dsimp
      first
        | refine CallG.by (list_spec p.cons[i].vars) ?_
        | refine CallGE.by (list_spec p.cons[i].vars) ?_
        | refine CallGB.by (list_spec p.cons[i].vars) ?_
      simp -dsimp [hb, hw]
      refine LoopP_next (i + 1, .ro) (le_of (by simp) (by cases k' <;> simp [cutC_lt _ _ h (show i < 14 by omega), trimC])) h (by simp only; omega)
    · simp -dsimp [c7, hw]
      refine LoopP_next (i + 1, k') (le_of (by simp) (by simp [cutC_ge _ _ (show ¬ i < 14 by omega)])) h (by simp only; omega)
  have hi' : i = p.cons.length := by omega
  subst hi'
  clear h hi
  simp -dsimp
  refine retT_c ?_
  simp -dsimp [trimP]
end Go.Proofs.Ytmneioafbkknhaa
