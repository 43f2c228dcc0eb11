import Derived.Test.YtpcmmjmoiplhjaaGreatDoorFB12
/- FB13: the change 'house ada'; write. -/
set_option linter.unusedVariables false
set_option linter.unusedSimpArgs false
set_option maxRecDepth 20000
namespace Go.Proofs.YtpcmmjmoiplhjaaGreatDoor
open Go Go.PS
attribute [-simp] isKeyK List.map_take
theorem cut_house : cutT lHA 32 = .tup [sV wHouse, sV wAda, eB true] := rfl
theorem change1 : ECall Tryz.prog 49 [.ptr 1000000 0, sP lHA] [(1000000, st1)] (.tup [.ptr 703 0, sP wHouse, pI 0]) [(1000000, st1), (703, st2 728 737), (728, .row 9 1 .fz [[sV wAda]]), (737, .row 3 1 .fz [[eI 0]])] := by
  have hl := isLine_house
  have hc := Cut_spec lHA 32 (by simp)
  rw [cut_house] at hc
  have hf := form_house
  have hcl := clone1
  have hb := build1
  unfold st1 st2 srt at *
  simp only [List.map_cons, List.map_nil] at hf
  refine ecall_wp Tryz.func49 rfl (by kernel_rfl) ?_
  simp -dsimp
  first
    | refine CallG.by (hl) ?_
    | refine CallGE.by (hl) ?_
    | refine CallGB.by (hl) ?_
  simp -dsimp
  first
    | refine CallG.by (hc) ?_
    | refine CallGE.by (hc) ?_
    | refine CallGB.by (hc) ?_
  simp -dsimp
  first
    | refine CallG.on (g := [(30, 1000000)]) (hf) (by decide) (by simp) (by simp) (by simp [Sg.bk]) ?_
    | refine CallN.on (g := [(30, 1000000)]) (hf) (by decide) (by simp) (by simp) (by simp [Sg.bk]) ?_
    | refine CallGB.on (g := [(30, 1000000)]) (hf) (by decide) (by simp) (by simp) (by simp [Sg.bk]) ?_
  simp -dsimp
  first
    | refine CallG.on (g := [(1000000, 1000000), (703, 3)]) (hcl) (by decide) (by simp) (by simp) (by simp [Sg.bk]) ?_
    | refine CallN.on (g := [(1000000, 1000000), (703, 3)]) (hcl) (by decide) (by simp) (by simp) (by simp [Sg.bk]) ?_
    | refine CallGB.on (g := [(1000000, 1000000), (703, 3)]) (hcl) (by decide) (by simp) (by simp) (by simp [Sg.bk]) ?_
  simp -dsimp
  first
    | refine CallG.on (g := [(703, 1000000), (728, 28), (737, 37)]) (hb) (by decide) (by simp) (by simp) (by simp [Sg.bk]) ?_
    | refine CallN.on (g := [(703, 1000000), (728, 28), (737, 37)]) (hb) (by decide) (by simp) (by simp) (by simp [Sg.bk]) ?_
    | refine CallGB.on (g := [(703, 1000000), (728, 28), (737, 37)]) (hb) (by decide) (by simp) (by simp) (by simp [Sg.bk]) ?_
  simp -dsimp
  refine retE_c (by simp -dsimp) (by simp)
/-- A firm with its disk and its state. -/
def fM (S : Res) (lost : Bool) (D : List (Nat × Res)) : List (Nat × Res) := (1000010, .blk 53 [.ptr 1000000 0, .ptr 1000011 0, pI 0, pI 1, pB lost]) :: (1000011, S) :: D
abbrev T2 : List UInt8 := [109, 97, 114, 107, 32, 49, 10, 100, 111, 110, 101, 10, 104, 111, 117, 115, 101, 32, 97, 100, 97, 10]
abbrev lHAn : List UInt8 := [104, 111, 117, 115, 101, 32, 97, 100, 97, 10]
def dD : List (Nat × Res) := dM T2 12 [] 0 100 false (-1)
def dE : List (Nat × Res) := dM T2 22 [] 0 100 false (-1)
def wM (b : List UInt8) (F : List (Nat × Res)) : List (Nat × Res) := (1000001, .blk 45 [.ptr 1000010 0]) :: (1000002, .blk 3 [pI 0]) :: (1000003, .blk 32 [.t .ro (.sl .any 1 (bys b))]) :: F
theorem write1 : ECall Tryz.prog 74 [.ptr 1000001 0, .ptr 1000002 0, .ptr 1000003 0] (wM lHAn (fM st1 false dC)) (pI 0) (wM lHAn (fM st1 false dD)) := by
  have h := Append0_spec T1 [] 12 0 100 (-1) false lHAn rfl (by simp) (by simp) (by simp) (by omega) (by omega) (by omega)
  simp only [spE, spO, spF, Bool.false_or, Int.reduceEq, Int.reduceBEq, Bool.false_eq_true, if_false, List.length_cons, List.length_nil, List.cons_append, List.nil_append] at h
  unfold wM fM dC dD dM dk st1 at *
  refine ecall_wp Tryz.func74 rfl (by kernel_rfl) ?_
  simp -dsimp
  refine wk_draw 6 [] mixed (by kernel_rfl) ?_
  simp -dsimp
  first
    | refine CallG.on (g := [(1000000, 1000000), (501, 501), (502, 502)]) (h) (by decide) (by simp) (by simp) (by simp [Sg.bk]) ?_
    | refine CallN.on (g := [(1000000, 1000000), (501, 501), (502, 502)]) (h) (by decide) (by simp) (by simp) (by simp [Sg.bk]) ?_
    | refine CallGB.on (g := [(1000000, 1000000), (501, 501), (502, 502)]) (h) (by decide) (by simp) (by simp) (by simp [Sg.bk]) ?_
  simp -dsimp
  refine retE_c (by simp -dsimp) (by simp)
theorem write2 : ECall Tryz.prog 75 [.ptr 1000001 0, .ptr 1000002 0] (wM lHAn (fM st1 false dD)) (pI 0) (wM lHAn (fM st1 false dE)) := by
  have h := Sync0_spec T2 [] 12 0 100 (-1) false rfl (by omega) (by omega)
  simp only [spE, spO, spF, Bool.false_or, Int.reduceEq, Int.reduceBEq, Bool.false_eq_true, if_false, List.length_cons, List.length_nil] at h
  unfold wM fM dE dD dM dk st1 at *
  refine ecall_wp Tryz.func75 rfl (by kernel_rfl) ?_
  simp -dsimp
  refine wk_draw 5 [] mixed (by kernel_rfl) ?_
  simp -dsimp
  first
    | refine CallG.on (g := [(1000000, 1000000), (501, 501), (502, 502)]) (h) (by decide) (by simp) (by simp) (by simp [Sg.bk]) ?_
    | refine CallN.on (g := [(1000000, 1000000), (501, 501), (502, 502)]) (h) (by decide) (by simp) (by simp) (by simp [Sg.bk]) ?_
    | refine CallGB.on (g := [(1000000, 1000000), (501, 501), (502, 502)]) (h) (by decide) (by simp) (by simp) (by simp [Sg.bk]) ?_
  simp -dsimp
  refine retE_c (by simp -dsimp) (by simp)
end Go.Proofs.YtpcmmjmoiplhjaaGreatDoor
