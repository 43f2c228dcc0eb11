import Derived.Shelf.Strings.Builder1
import Derived.Test.YtnikonhkbldnnaaGreatDoorLBA
import Derived.Test.YtnikonhkbldnnaaGreatDoorPSH
/- LBld: strings.Builder: copyCheck by the shelf's contract, laid at this dump; WriteString, String. -/
set_option linter.unusedVariables false
set_option linter.unusedSimpArgs false
set_option maxRecDepth 20000
namespace Go.Proofs
open Go.Shelf
def Tryz.bldRen : Go.Shelf.Ren := ⟨fun | 240 => 127 | 276 => 137 | n => n, fun | 0 => 0 | 4 => 4 | 9 => 9 | 20 => 20 | 70 => 125 | 72 => 128 | 164 => 183 | 37 => 126 | n => n, fun | n => n⟩
theorem Tryz.bld240 : Lays.n240 Tryz.prog Tryz.bldRen := {
  mixed := by kernel_rfl
  f240 := Tryz.func127.trans (congrArg some (by kernel_rfl))
  f276 := Tryz.func137.trans (congrArg some (by kernel_rfl))
  t0 := Tryz.underlying0
  a0 := Tryz.isAgg0
  z0 := Tryz.sizeOf0
  v0 := Tryz.zeroValue0
  t4 := Tryz.underlying4
  a4 := Tryz.isAgg4
  z4 := Tryz.sizeOf4
  v4 := Tryz.zeroValue4
  t9 := Tryz.underlying9
  a9 := Tryz.isAgg9
  z9 := Tryz.sizeOf9
  v9 := Tryz.zeroValue9
  t20 := Tryz.underlying20
  a20 := Tryz.isAgg20
  z20 := Tryz.sizeOf20
  v20 := Tryz.zeroValue20
  t70 := Tryz.underlying125
  a70 := Tryz.isAgg125
  z70 := Tryz.sizeOf125
  v70 := Tryz.zeroValue125
  t72 := Tryz.underlying128
  a72 := Tryz.isAgg128
  z72 := Tryz.sizeOf128
  v72 := Tryz.zeroValue128
  t164 := Tryz.underlying183
  a164 := Tryz.isAgg183
  z164 := Tryz.sizeOf183
  v164 := Tryz.zeroValue183
}
theorem Tryz.bldX : Builder.X72 Tryz.prog Tryz.bldRen := ⟨by kernel_rfl, by kernel_rfl⟩
end Go.Proofs
namespace Go.Proofs.YtnikonhkbldnnaaGreatDoor
open Go Go.PS Go.Shelf
attribute [-simp] isKeyK List.map_take
@[simp] theorem z8 : zeroU8 Tryz.prog 5 = true := by kernel_rfl
@[simp] theorem pe8 : ptrEl Tryz.prog 155 = some 5 := by kernel_rfl
@[simp] theorem bys_app (a b : List UInt8) : bys a ++ bys b = bys (a ++ b) := by simp [bys]
@[simp] theorem ba_size (l : List UInt8) : (ByteArray.mk l.toArray).size = l.length := by simp [ByteArray.size]
/-- A builder and its bytes. -/
def bM (adr : PV) (k : Kind) (l : List UInt8) : List (Nat × Res) := [(1000000, .blk 128 [adr, .osl 501]), (501, .row 5 1 k (bys l))]
def bA (fresh : Bool) : PV := if fresh then .t .fz (.v (.pointer none)) else .ptr 1000000 0
/-- Behind copyCheck a builder holds its own address. -/
theorem check_spec (fresh : Bool) (k : Kind) (l : List UInt8) : ECall Tryz.prog 127 [.ptr 1000000 0] (bM (bA fresh) k l) (.tup []) (bM (.ptr 1000000 0) k l) := by
  refine ⟨call127, fun w S φ fp vals hH => ?_⟩
  have hS : ∀ k g, (k = Kind.ro ∧ S g) → Stb (Base.on w S φ fp) w fp k g := fun k g hg => ⟨(hH.stays g hg.2).1, (hH.stays g hg.2).2, .inr hg⟩
  have hx0 : SimX (Base.on w S φ fp) (fun g => ∃ m, fp m g) 0 ⟨[], bM (bA fresh) k l⟩ { tmps := #[], defers := [] } w φ fp :=
    ⟨fun m => (hH.res m).keep (fun _ _ => rfl) (fun _ _ _ => rfl) hS, hH.disj, fun m g hg => ⟨hH.lt m g hg, .inl ⟨m, hg⟩⟩, fun t => .undef _, Evo.refl _ _, rfl, ⟨rfl, fun _ h => h, hH.gl⟩, fun _ _ => rfl⟩
  have hres := hx0.res 1000000
  have hg0 : getM (bM (bA fresh) k l) 1000000 = .blk 128 [bA fresh, .osl 501] := rfl
  rw [hg0] at hres
  obtain ⟨g, vs, hφ, hF, hheap, hvs, hrep⟩ := hres
  have hval : vals = #[.pointer (some ⟨g, 0, none⟩)] := by
    have h1 := hH.args 0 _ rfl
    have hsz : vals.size = 1 := by simpa using hH.size
    generalize hu : vals.getD 0 Go.undef = u at h1
    cases h1 with
    | ptr h2 =>
      rw [hφ] at h2
      cases h2
      apply Array.ext (by simpa using hsz)
      intro i a b
      have : i = 0 := by simp at b; omega
      subst this
      simpa [Array.getD_eq_getD_getElem?, a] using hu
  subst hval
  have hvs2 : vs.size = 2 := by simpa using hvs
  have c0 : w.cell? ⟨g, 0, none⟩ = some (vs.getD 0 Go.undef) := by
    rw [Lib.cell_of_heap hheap]
    simp [Array.getD_eq_getD_getElem?, hvs2]
  cases fresh with
  | false =>
    have h0 := hrep 0 (.ptr 1000000 0) rfl
    have hp : vs.getD 0 Go.undef = .pointer (some ⟨g, 0, none⟩) := by
      generalize vs.getD 0 Go.undef = u at h0
      cases h0 with
      | ptr h2 =>
        rw [hφ] at h2
        cases h2
        rfl
    rw [hp] at c0
    refine Calls.mono (Any.Builder_copyCheck_used (ρ := Tryz.bldRen) Tryz.bld240 Tryz.bldX g w c0) ?_
    rintro e w' ⟨rfl, rfl⟩
    exact ⟨_, φ, fp, _, _, ⟨rfl, rfl⟩, rfl, hx0.evo, hx0.res, hx0.disj, fun m q hq => hx0.old m q hq, fun _ _ => rfl, .tup #[] rfl fun j x hx => by simp at hx⟩
  | true =>
    have h0 := hrep 0 (.t .fz (.v (.pointer none))) rfl
    have hp : vs.getD 0 Go.undef = .pointer none := h0.t_inv.v_inv
    rw [hp] at c0
    refine Calls.mono (Any.Builder_copyCheck_fresh (ρ := Tryz.bldRen) Tryz.bld240 Tryz.bldX g w c0 (by simp [World.shape?, hheap, hvs2]; rfl) (Lib.frozen_of_heap hheap 0)) ?_
    rintro e w' ⟨rfl, hw⟩
    subst hw
    have hx1 := hx0.write (m0 := 1000000) (r := .blk 128 [.ptr 1000000 0, .osl 501]) (w' := w.setCell ⟨g, 0, none⟩ (.pointer (some ⟨g, 0, none⟩))) rfl rfl rfl (by simp [World.setCell])
      (fun q hq => by
        have hne : g ≠ q := fun e => hq (e ▸ (hF g).2 rfl)
        simp [World.setCell, Array.getElem?_modify, hne])
      (fun hS hSc => by
        refine ⟨g, vs.set! 0 (.pointer (some ⟨g, 0, none⟩)), hφ, hF, ?_, by simpa using hvs2, fun j x hj => ?_⟩
        · simp [World.setCell, Array.getElem?_modify, hheap]
        · rcases j with _ | _ | j
          · simp at hj
            subst hj
            have : (vs.set! 0 (.pointer (some ⟨g, 0, none⟩))).getD 0 Go.undef = .pointer (some ⟨g, 0, none⟩) := by simp [Array.getD_eq_getD_getElem?, hvs2]
            rw [this]
            exact .ptr hφ
          · simp at hj
            subst hj
            have h1 := hrep 1 (.osl 501) rfl
            have : (vs.set! 0 (.pointer (some ⟨g, 0, none⟩))).getD 1 Go.undef = vs.getD 1 Go.undef := by simp [Array.getD_eq_getD_getElem?]
            show PVRep _ _ _ _ ((vs.set! 0 (.pointer (some ⟨g, 0, none⟩))).getD 1 Go.undef)
            rw [this]
            exact h1.mono hSc hS
          · simp at hj)
    refine ⟨_, φ, fp, _, _, ⟨rfl, rfl⟩, rfl, hx1.evo, fun m => ?_, hx1.disj, fun m q hq => hx1.old m q hq, fun _ _ => rfl, .tup #[] rfl fun j x hx => by simp at hx⟩
    have := hx1.res m
    have e : getM (bM (.ptr 1000000 0) k l) m = getM ((1000000, .blk 128 [.ptr 1000000 0, .osl 501]) :: bM (bA true) k l) m := by
      simp only [bM, getM]
      by_cases h : 1000000 = m
      · rw [if_pos h, if_pos h]
      · rw [if_neg h, if_neg h, if_neg h]
    rw [e]
    exact this
theorem ws_spec (fresh : Bool) (l s : List UInt8) (hb : l.length + s.length ≤ 1000000000) : ECall Tryz.prog 111 [.ptr 1000000 0, .t .fz (.v (.string ⟨s.toArray⟩))] (bM (bA fresh) .ro l) (.tup [pI s.length, .t .fz (.v .nilIface)]) (bM (.ptr 1000000 0) .ro (l ++ s)) := by
  have hc := check_spec fresh .ro l
  have hb1 : l.length + s.length ≤ 140737488355328 := by omega
  unfold bM at *
  refine ecall_wp Tryz.func111 rfl (by kernel_rfl) ?_
  cases fresh
  all_goals
    simp only [bA, if_true, Bool.false_eq_true, if_false] at hc ⊢
    simp -dsimp
    first
      | refine CallG.on (g := [(1000000, 1000000), (501, 501)]) (hc) (by decide) (by simp) (by simp) (by simp [Sg.bk]) ?_
      | refine CallN.on (g := [(1000000, 1000000), (501, 501)]) (hc) (by decide) (by simp) (by simp) (by simp [Sg.bk]) ?_
      | refine CallGB.on (g := [(1000000, 1000000), (501, 501)]) (hc) (by decide) (by simp) (by simp) (by simp [Sg.bk]) ?_
    simp -dsimp [hb1]
    refine retE_c (by simp -dsimp) (by simp)
theorem string_spec (l : List UInt8) (h0 : l ≠ []) : ECall Tryz.prog 89 [.ptr 1000000 0] (bM (.ptr 1000000 0) .ro l) (.t .fz (.v (.string ⟨l.toArray⟩))) [] := by
  obtain ⟨x, r, rfl⟩ : ∃ x r, l = x :: r := by
    cases l with
    | nil => exact absurd rfl h0
    | cons x r => exact ⟨x, r, rfl⟩
  unfold bM
  have hbc : bytesOf ([.v (.int .u8 (x.toNat : Int))] :: bys r) = some (x :: r) := bytesOf_bys (x :: r)
  rw [show bys (x :: r) = [.v (.int .u8 (x.toNat : Int))] :: bys r from rfl]
  refine ecall_wp Tryz.func89 rfl (by kernel_rfl) ?_
  simp -dsimp
  refine wk_draw 10 [9] mixed (by kernel_rfl) ?_
  simp -dsimp [hbc]
  refine retE_c (by simp -dsimp) (by simp)
end Go.Proofs.YtnikonhkbldnnaaGreatDoor
