import Derived.Test.YtfcbmcmkakceaaaDoorLB3
import Derived.Test.YtfcbmcmkakceaaaDoorPSE
/- LB4: a choice more (the region by wk_dagS). -/
set_option linter.unusedVariables false
set_option linter.unusedSimpArgs false
set_option maxRecDepth 20000
namespace Go.Proofs.YtfcbmcmkakceaaaDoor
open Go Go.PS
attribute [-simp] isKeyK List.map_take
def d126D : List (List Nat) := [[], [0], [], [2], [2, 3], [], [5], [2, 3, 4, 5, 6], [0, 1, 2, 3, 4, 5, 6, 7], [0, 1, 2, 3, 4, 5, 6, 7, 8]]
def d126T : List Nat := [0, 1, 2, 3, 4, 5, 6, 7, 8, 9]
def d126P : List (List (Option Bool)) := [[some false, some false, none, none, none, none, none, none, some false, some false], [some true, some false, none, none, none, none, none, none, some false, some false], [none, none, some false, some false, some false, none, none, some false, some false, some false], [none, none, some true, some false, some false, none, none, some false, some false, some false], [none, none, some true, some true, some false, none, none, some false, some false, some false], [none, none, none, none, none, some false, some false, some false, some false, some false], [none, none, none, none, none, some true, some false, some false, some false, some false], [none, none, some true, some true, some true, some true, some true, some false, some false, some false], [some true, some true, some true, some true, some true, some true, some true, some true, some false, some false], [some true, some true, some true, some true, some true, some true, some true, some true, some true, some false]]
def eSide (t c : List Nat) : TL := .agg [eNs t, eNs c]
theorem with_spec (t c : List Nat) (v : Nat) (hc : c.length ≤ 100) : PCall Tryd.prog 126 [eSide t c, eI v] (.t .ro (eSide t (c ++ [v]))) [] := by
  have hcl := clone59_row (iL c) (by simp; omega)
  have hb : (c.length + 1) * 8 ≤ 140737488355328 := by omega
  refine pcall_wpT Tryd.func126 rfl (by kernel_rfl) ?_
  unfold eSide
  simp -dsimp
  refine wk_dagS (fun bs => ⟨[(5, cnd (bs.getD 0 false) (.ptr 2 0)), (6, cnd (bs.getD 1 false) (.t .ro (eNs t))), (7, cnd (bs.getD 2 false) (.ptr 2 1)), (8, cnd (bs.getD 3 false) (.t .ro (eNs c))), (9, cnd (bs.getD 4 false && !bs.getD 7 false) (.osl 9)), (10, cnd (bs.getD 5 false) (.t .ro (eI v))), (11, cnd (bs.getD 6 false) (.osl 11)), (12, cnd (bs.getD 7 false) (.osl 9)), (13, cnd (bs.getD 8 false) (.agg [.t .ro (eNs t), .osl 9])), (4, .ptr 4 0), (2, .ptr 2 0), (1, .t .ro (eI v))],
      [(9, cndR (bs.getD 4 false) (.row 3 1 .ro ((iL c).map cI ++ if bs.getD 7 false then [cI v] else []))), (11, cndR (bs.getD 6 false) (.row 3 1 .fz [cI v])),
      (4, .blk 90 (if bs.getD 9 false then [.t .ro (eNs t), .osl 9] else [.t .fz (.v (.slice none 0 0)), .t .fz (.v (.slice none 0 0))])), (2, .blk 90 [.t .ro (eNs t), .t .ro (eNs c)])]⟩) d126D d126T d126P mixed (by kernel_rfl) (le_of (by simp) (by simp)) ?_ ?_
  · unfold d126P
    simp -dsimp [hb, -Bool.forall_bool]
    repeat' first
      | intro _
      | with_reducible apply And.intro
      | (refine le_of (by simp) ?_
         simp; done)
      | (refine CallG.by hcl ?_
         simp -dsimp)
      | (rename_i x
         cases x <;> simp -dsimp)
  · simp -dsimp
    refine retT_c ?_
    simp -dsimp
end Go.Proofs.YtfcbmcmkakceaaaDoor
