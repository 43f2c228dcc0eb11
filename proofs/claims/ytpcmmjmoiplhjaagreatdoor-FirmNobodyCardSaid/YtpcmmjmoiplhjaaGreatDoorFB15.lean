import Derived.Test.YtpcmmjmoiplhjaaGreatDoorFB14
import Derived.Test.YtpcmmjmoiplhjaaGreatDoorLBits
/- FB15: Ask of the line 'town'. -/
set_option linter.unusedVariables false
set_option linter.unusedSimpArgs false
set_option maxRecDepth 20000
namespace Go.Proofs.YtpcmmjmoiplhjaaGreatDoor
open Go Go.PS Go.Shelf
attribute [-simp] isKeyK List.map_take
theorem blen_spec (n : Nat) (h : n < 1000000) : PCall Tryz.prog 165 [.v (.int .u64 n)] (pI (Go.Lib.bitLen n : Nat)) [] := by
  refine ⟨call165, fun w S vals hG hS hs hr => ?_⟩
  have h0 := hr 0 _ rfl
  have hv : vals = #[.int .u64 (n : Int)] := by
    have h1 : vals.getD 0 Go.undef = .int .u64 (n : Int) := tv_inv h0
    have hsz : vals.size = 1 := by simpa using hs
    apply Array.ext (by simpa using hsz)
    intro i a b
    have : i = 0 := by simp at b; omega
    subst this
    simpa [Array.getD_eq_getD_getElem?, a] using h1
  subst hv
  have hc := Any.bits_Len (SlLaysF0.n15.bits (P := Tryz.prog) (ρ := Tryz.bitsRen) { Tryz.bits15 with }) (n : Int) w (by omega) (by omega)
  rw [Int.toNat_natCast] at hc
  refine Calls.mono hc ?_
  rintro e w' ⟨rfl, rfl⟩
  exact ⟨_, fun _ => Go.undef, fun _ _ => False, rfl, Evo.refl _ _, fun m g hg => hg, fun _ _ _ h1 _ => h1.elim, fun _ _ h1 => h1.elim, .t (.v _)⟩
abbrev st2T : TL := .rp [eI 1, .sl .any 1 [[sV wAda]], .sl .any 1 [[eI 0]], nilT, nilT, nilT] 0
abbrev cmpT : TL := .clo 160 [.rp [st2T] 0]
theorem ins1 : PCall Tryz.prog 282 [.sl .any 1 [[eI 0]], eI 0, eI 1, cmpT] (.t .fz (.tup [])) [] := by
  refine pcall_wp _ Tryz.func282 rfl (by kernel_rfl) rfl ?_
  have k1 : IntKind.i64.wrap 1 = 1 := rfl
  simp -dsimp [k1]
  refine wk_loop (fun _ : Unit => ⟨[(8, pI 1), (2, .t .ro (eI 1))], []⟩) (fun _ => True) (fun _ => 0) () (le_of (by simp) (by simp)) trivial fun _ _ => ?_
  simp -dsimp
  refine retP_c ?_
  simp -dsimp
theorem pdq1 (m : Int) : PCall Tryz.prog 214 [.sl .any 1 [[eI 0]], eI 0, eI 1, eI m, cmpT] (.t .fz (.tup [])) [] := by
  refine pcall_wp _ Tryz.func214 rfl (by kernel_rfl) rfl ?_
  have hs := ins1
  have k1 : IntKind.i64.wrap 1 = 1 := rfl
  simp -dsimp
  refine wk_loop (fun _ : Unit => ⟨[(0, .t .ro (.sl .any 1 [[eI 0]])), (1, .t .ro (eI 0)), (2, .t .ro (eI 1)), (3, .t .ro (eI m)), (4, .t .ro cmpT)], []⟩) (fun _ => True) (fun _ => 0) () (le_of (by simp) (by simp)) trivial fun _ _ => ?_
  simp -dsimp [k1]
  first
    | refine CallG.by (hs) ?_
    | refine CallGE.by (hs) ?_
    | refine CallGB.by (hs) ?_
  simp -dsimp
  refine retP_c ?_
  simp -dsimp
theorem sort1 : PCall Tryz.prog 159 [.sl .any 1 [[eI 0]], cmpT] (.t .fz (.tup [])) [] := by
  refine pcall_wp _ Tryz.func159 rfl (by kernel_rfl) rfl ?_
  have hb := blen_spec 1 (by omega)
  have hs := pdq1 (Go.Lib.bitLen 1 : Nat)
  have hu : IntKind.u64.wrap (1 : Int) = 1 := rfl
  simp only [Int.natCast_one] at hb
  simp -dsimp [hu]
  first
    | refine CallG.by (hb) ?_
    | refine CallGE.by (hb) ?_
    | refine CallGB.by (hb) ?_
  simp -dsimp
  first
    | refine CallG.by (hs) ?_
    | refine CallGE.by (hs) ?_
    | refine CallGB.by (hs) ?_
  simp -dsimp
  refine retP_c ?_
  simp -dsimp
theorem byName1 : PCall Tryz.prog 122 [st2T] (.t .fz (.sl .any 1 [[eI 0]])) [] := by
  refine pcall_wp _ Tryz.func122 rfl (by kernel_rfl) rfl ?_
  have hs := sort1
  have k1 : IntKind.i64.wrap 1 = 1 := rfl
  simp -dsimp
  refine wk_loop (fun i : Nat => ⟨[(10, pI i), (9, pI 1), (1, .ptr 1 0), (3, if i = 0 then nilP else .osl 16)], (1, .blk 51 [.t .ro st2T]) :: (if i = 0 then [] else [(16, .row 3 1 .fz [[eI 0]])])⟩) (fun i => i ≤ 1) (fun i => 1 - i) 0
    (le_of (by simp) (by simp)) (by simp) fun i hi => ?_
  rcases (by omega : i = 0 ∨ i = 1) with rfl | rfl
  all_goals simp only [if_true, if_false, Nat.one_ne_zero]
  · simp -dsimp [k1]
    refine LoopP_next 1 (le_of (by simp) (by simp)) (by omega) (by omega)
  · simp -dsimp
    first
      | refine CallG.by (hs) ?_
      | refine CallGE.by (hs) ?_
      | refine CallGB.by (hs) ?_
    simp -dsimp
    refine retP_c ?_
    simp -dsimp
end Go.Proofs.YtpcmmjmoiplhjaaGreatDoor
