import Derived.Test.YtpcmmjmoiplhjaaGreatDoorFB6
/- FB11: Split of two lines; words. -/
set_option linter.unusedVariables false
set_option linter.unusedSimpArgs false
set_option maxRecDepth 20000
namespace Go.Proofs.YtpcmmjmoiplhjaaGreatDoor
open Go Go.PS
attribute [-simp] isKeyK List.map_take
abbrev wHouse : List UInt8 := [104, 111, 117, 115, 101]
abbrev wAda : List UInt8 := [97, 100, 97]
abbrev lHA : List UInt8 := [104, 111, 117, 115, 101, 32, 97, 100, 97]
abbrev wTown : List UInt8 := [116, 111, 119, 110]
theorem indexS_spec (s : List UInt8) (c : UInt8) : PCall Tryz.prog 198 [sV s, sV [c]] (pI (Lib.indexByte s c)) [] := by
  have hi := index_spec s c
  generalize Lib.indexByte s c = I at *
  refine pcall_wp _ Tryz.func198 rfl (by kernel_rfl) rfl ?_
  simp -dsimp
  first
    | refine CallG.by (hi) ?_
    | refine CallGE.by (hi) ?_
    | refine CallGB.by (hi) ?_
  simp -dsimp
  refine retP_c ?_
  simp -dsimp
theorem gs_town : PCall Tryz.prog 147 [sV wTown, sV [32], eI 0, eI (-1)] (.t .fz (.sl .any 1 [[sV wTown]])) [] := by
  have h1 := bsz wTown
  have hc := cnt_spec wTown 32
  have ec : Lib.countByte wTown 32 = 0 := rfl
  rw [ec] at hc
  simp only [List.length_cons, List.length_nil, Nat.zero_add, Nat.reduceAdd] at h1
  have k1 : IntKind.i64.wrap 1 = 1 := rfl
  have k5 : IntKind.i64.wrap 5 = 5 := rfl
  have k0 : IntKind.i64.wrap 0 = 0 := rfl
  refine pcall_fzrow (ty := 9) (k := .fz) ?_ fun e he x hx => by
    simp at he
    subst he
    simp at hx
    exact ⟨_, hx⟩
  refine pcall_wp _ Tryz.func147 rfl (by kernel_rfl) rfl ?_
  simp -dsimp
  first
    | refine CallG.by (hc) ?_
    | refine CallGE.by (hc) ?_
    | refine CallGB.by (hc) ?_
  simp -dsimp [h1, k1, k5, k0]
  refine wk_loop (fun i : Nat => ⟨[(10, pI 0), (3, pI 0), (9, .osl 31), (0, .t .ro (sV wTown))], [(31, .row 9 1 .fz [[.v (.string ByteArray.empty)]])]⟩) (fun i => True) (fun i => 0) 0
    (le_of (by simp) (by simp)) (by simp) fun i hi => ?_
  simp -dsimp [k1]
  exact retP_own 31 (by simp; rfl) (by simp) (by simp) (by simp) (by simp)
theorem gs_house : PCall Tryz.prog 147 [sV lHA, sV [32], eI 0, eI (-1)] (.t .fz (.sl .any 1 [[sV wHouse], [sV wAda]])) [] := by
  have h1 := bsz lHA
  have h2 := bsz [32]
  have hc := cnt_spec lHA 32
  have ec : Lib.countByte lHA 32 = 1 := rfl
  rw [ec] at hc
  have hi := indexS_spec lHA 32
  have ei : Lib.indexByte lHA 32 = 5 := rfl
  rw [ei] at hi
  simp only [List.length_cons, List.length_nil, Nat.zero_add, Nat.reduceAdd] at h1 h2
  have x1 : (ByteArray.mk lHA.toArray).extract 0 5 = ⟨wHouse.toArray⟩ := by decide
  have x2 : (ByteArray.mk lHA.toArray).extract 6 9 = ⟨wAda.toArray⟩ := by decide
  have k1 : IntKind.i64.wrap 1 = 1 := rfl
  have k2 : IntKind.i64.wrap 2 = 2 := rfl
  have k5 : IntKind.i64.wrap 5 = 5 := rfl
  have k6 : IntKind.i64.wrap 6 = 6 := rfl
  have k10 : IntKind.i64.wrap 10 = 10 := rfl
  refine pcall_fzrow (ty := 9) (k := .fz) ?_ fun e he x hx => by
    simp at he
    rcases he with rfl | rfl
    all_goals
      simp at hx
      exact ⟨_, hx⟩
  refine pcall_wp _ Tryz.func147 rfl (by kernel_rfl) rfl ?_
  simp -dsimp
  first
    | refine CallG.by (hc) ?_
    | refine CallGE.by (hc) ?_
    | refine CallGB.by (hc) ?_
  simp -dsimp [h1, h2, k1, k2, k5, k6, k10]
  refine wk_loop (fun i : Nat => ⟨[(10, pI i), (3, pI 1), (9, .osl 31), (0, .t .ro (sV (if i = 0 then lHA else wAda))), (1, .t .ro (sV [32])), (2, .t .ro (eI 0))], [(31, .row 9 1 .fz [[if i = 0 then .v (.string ByteArray.empty) else sV wHouse], [.v (.string ByteArray.empty)]])]⟩) (fun i => i ≤ 1) (fun i => 1 - i) 0
    (le_of (by simp) (by simp)) (by simp) fun i hi' => ?_
  rcases (by omega : i = 0 ∨ i = 1) with rfl | rfl
  · simp only [if_true]
    simp -dsimp
    first
      | refine CallG.by (hi) ?_
      | refine CallGE.by (hi) ?_
      | refine CallGB.by (hi) ?_
    simp -dsimp [h1, h2, k1, k2, k5, k6, x1, x2]
    refine LoopP_next 1 (le_of (by simp) (by simp)) (by omega) (by omega)
  · simp only [Nat.one_ne_zero, if_false]
    simp -dsimp [k2]
    exact retP_own 31 (by simp; rfl) (by simp) (by simp) (by simp) (by simp)
theorem split_of {s : List UInt8} {xs : List (List TL)} (h : PCall Tryz.prog 147 [sV s, sV [32], eI 0, eI (-1)] (.t .fz (.sl .any 1 xs)) []) : PCall Tryz.prog 99 [sV s, sV [32]] (.t .fz (.sl .any 1 xs)) [] := by
  refine pcall_wp _ Tryz.func99 rfl (by kernel_rfl) rfl ?_
  simp -dsimp
  first
    | refine CallG.by (h) ?_
    | refine CallGE.by (h) ?_
    | refine CallGB.by (h) ?_
  simp -dsimp
  refine retP_c ?_
  simp -dsimp
theorem sp_town : PCall Tryz.prog 99 [sV wTown, sV [32]] (.t .fz (.sl .any 1 [[sV wTown]])) [] := split_of gs_town
theorem sp_house : PCall Tryz.prog 99 [sV lHA, sV [32]] (.t .fz (.sl .any 1 [[sV wHouse], [sV wAda]])) [] := split_of gs_house
theorem idxS_spec (L : List (List UInt8)) (s : List UInt8) (h : ∀ l ∈ L, l ≠ s) : PCall Tryz.prog 134 [.sl .any 1 (L.map fun l => [sV l]), sV s] (pI (-1)) [] := by
  refine pcall_sl 0 rfl call134 fun hlen => ?_
  simp only [List.length_map] at hlen
  refine pcall_wp _ Tryz.func134 rfl (by kernel_rfl) rfl ?_
  simp -dsimp
  refine wk_loop (fun i : Nat => ⟨[(8, pI i), (7, pI L.length), (0, .t .ro (.sl .any 1 (L.map fun l => [sV l]))), (1, .t .ro (sV s))], []⟩) (fun i => i ≤ L.length) (fun i => L.length - i) 0
    (le_of (by simp) (by simp)) (by simp) fun i hi => ?_
  simp -dsimp
  refine condX_dec (fun hh => ?_) (fun hh => ?_)
  · have hw := wr (n := (i : Int) + 1) (by omega) (by omega)
    have hil : (i : Int) < L.length := by omega
    have hne := h _ (List.getElem_mem hh)
    have e : (s == L[i]) = false := by
      rw [beq_eq_false_iff_ne]
      exact fun e => hne e.symm
    generalize hLi : L[i] = l at *
    simp -dsimp [hil, hh, hLi, e, hw]
    refine LoopP_next (i + 1) (le_of (by simp) (by simp)) hh (by omega)
  · simp -dsimp
    refine retP_c ?_
    simp -dsimp
theorem hasS_spec (L : List (List UInt8)) (s : List UInt8) (h : ∀ l ∈ L, l ≠ s) : PCall Tryz.prog 98 [.sl .any 1 (L.map fun l => [sV l]), sV s] (pB false) [] := by
  have hi := idxS_spec L s h
  refine pcall_wp _ Tryz.func98 rfl (by kernel_rfl) rfl ?_
  simp -dsimp
  first
    | refine CallG.by (hi) ?_
    | refine CallGE.by (hi) ?_
    | refine CallGB.by (hi) ?_
  simp -dsimp
  refine retP_c ?_
  simp -dsimp
theorem idxB_spec (l : List UInt8) (f : Nat) (hf : ∀ c ∈ l, PCall Tryz.prog f [.v (.int .u8 (c.toNat : Int))] (pB false) []) : PCall Tryz.prog 148 [.sl .any 1 (bys l), .clo f []] (pI (-1)) [] := by
  refine pcall_sl 0 rfl call148 fun hlen => ?_
  simp only [bys, List.length_map] at hlen ⊢
  refine pcall_wp _ Tryz.func148 rfl (by kernel_rfl) rfl ?_
  simp -dsimp
  refine wk_loop (fun i : Nat => ⟨[(8, pI i), (7, pI l.length), (0, .t .ro (.sl .any 1 (l.map fun c => [TL.v (.int .u8 (c.toNat : Int))]))), (1, .t .ro (.clo f []))], []⟩) (fun i => i ≤ l.length) (fun i => l.length - i) 0
    (le_of (by simp) (by simp)) (by simp) fun i hi => ?_
  simp -dsimp
  refine condX_dec (fun hh => ?_) (fun hh => ?_)
  · have hw := wr (n := (i : Int) + 1) (by omega) (by omega)
    have hil : (i : Int) < l.length := by omega
    have hc := hf _ (List.getElem_mem hh)
    generalize hLi : l[i] = c at *
    simp -dsimp [hil, hh, hLi]
    first
      | refine CallG.by (hc) ?_
      | refine CallGE.by (hc) ?_
      | refine CallGB.by (hc) ?_
    simp -dsimp [hw]
    refine LoopP_next (i + 1) (le_of (by simp) (by simp)) hh (by omega)
  · simp -dsimp
    refine retP_c ?_
    simp -dsimp
theorem hasB_spec (l : List UInt8) (f : Nat) (hf : ∀ c ∈ l, PCall Tryz.prog f [.v (.int .u8 (c.toNat : Int))] (pB false) []) : PCall Tryz.prog 100 [.sl .any 1 (bys l), .clo f []] (pB false) [] := by
  have hi := idxB_spec l f hf
  refine pcall_wp _ Tryz.func100 rfl (by kernel_rfl) rfl ?_
  simp -dsimp
  first
    | refine CallG.by (hi) ?_
    | refine CallGE.by (hi) ?_
    | refine CallGB.by (hi) ?_
  simp -dsimp
  refine retP_c ?_
  simp -dsimp
theorem il1_spec (c : UInt8) (h1 : 32 ≤ c.toNat) (h2 : c.toNat ≤ 126) : PCall Tryz.prog 101 [.v (.int .u8 (c.toNat : Int))] (pB false) [] := by
  have a1 : ¬ ((c.toNat : Int) < 32) := by omega
  have a2 : ¬ ((126 : Int) < (c.toNat : Int)) := by omega
  refine pcall_wp _ Tryz.func101 rfl (by kernel_rfl) rfl ?_
  simp -dsimp [a1, a2]
  refine retP_c ?_
  simp -dsimp
theorem in1_spec (c : UInt8) (h1 : 97 ≤ c.toNat) (h2 : c.toNat ≤ 122) : PCall Tryz.prog 103 [.v (.int .u8 (c.toNat : Int))] (pB false) [] := by
  have a1 : ¬ ((c.toNat : Int) < 97) := by omega
  have a2 : ¬ ((122 : Int) < (c.toNat : Int)) := by omega
  refine pcall_wp _ Tryz.func103 rfl (by kernel_rfl) rfl ?_
  simp -dsimp [a1, a2]
  refine retP_c ?_
  simp -dsimp
theorem isLine_of (s : List UInt8) (L : List (List UInt8)) (hs : s.length ≤ 60) (hsp : PCall Tryz.prog 99 [sV s, sV [32]] (.t .fz (.sl .any 1 (L.map fun l => [sV l]))) []) (hL : ∀ l ∈ L, l ≠ []) (hc : ∀ c ∈ s, 32 ≤ c.toNat ∧ c.toNat ≤ 126) :
    PCall Tryz.prog 61 [sV s] (pB true) [] := by
  have h1 := bsz s
  have hh := hasS_spec L [] hL
  have hb := hasB_spec s 101 fun c hcs => il1_spec c (hc c hcs).1 (hc c hcs).2
  have b1 : (s.length : Int) ≤ 60 := by omega
  have b2 : s.length ≤ 140737488355328 := by omega
  refine pcall_wp _ Tryz.func61 rfl (by kernel_rfl) rfl ?_
  simp -dsimp [h1, b1]
  first
    | refine CallG.by (hsp) ?_
    | refine CallGE.by (hsp) ?_
    | refine CallGB.by (hsp) ?_
  simp -dsimp
  first
    | refine CallG.by (hh) ?_
    | refine CallGE.by (hh) ?_
    | refine CallGB.by (hh) ?_
  simp -dsimp [b2]
  first
    | refine CallG.by (hb) ?_
    | refine CallGE.by (hb) ?_
    | refine CallGB.by (hb) ?_
  simp -dsimp
  refine retP_c ?_
  simp -dsimp
theorem isLine_town : PCall Tryz.prog 61 [sV wTown] (pB true) [] := isLine_of wTown [wTown] (by simp) sp_town (by simp) (by decide)
theorem isLine_house : PCall Tryz.prog 61 [sV lHA] (pB true) [] := isLine_of lHA [wHouse, wAda] (by simp) sp_house (by simp) (by decide)
end Go.Proofs.YtpcmmjmoiplhjaaGreatDoor
