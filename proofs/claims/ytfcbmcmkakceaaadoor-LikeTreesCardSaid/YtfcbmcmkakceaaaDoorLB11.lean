import Derived.Test.YtfcbmcmkakceaaaDoorLB10
import Derived.Test.YtfcbmcmkakceaaaDoorLBits
/- LB11: slices.SortFunc of kinds: as few as there are here, it sorts by insertion. -/
set_option linter.unusedVariables false
set_option linter.unusedSimpArgs false
set_option maxRecDepth 20000
namespace Go.Proofs.YtfcbmcmkakceaaaDoor
open Go Go.PS Go.Shelf
attribute [-simp] isKeyK List.map_take
theorem blen_spec (n : Nat) (h : n < 1000000) : PCall Tryd.prog 150 [.v (.int .u64 n)] (pI (Go.Lib.bitLen n : Nat)) [] := by
  refine ⟨call150, fun w S vals hG hS hs hr => ?_⟩
  have h0 := hr 0 _ rfl
  have hv : vals = #[.int .u64 (n : Int)] := by
    have h1 : vals.getD 0 Go.undef = .int .u64 (n : Int) := tv_inv h0
    have hsz : vals.size = 1 := by simpa using hs
    apply Array.ext (by simpa using hsz)
    intro i a b
    have : i = 0 := by simp at b; omega
    subst this
    simpa [Array.getD_eq_getD_getElem?, a] using h1
  subst hv
  have hc := Any.bits_Len (SlLaysF0.n15.bits (P := Tryd.prog) (ρ := Tryd.bitsRen) { Tryd.bits15 with }) (n : Int) w (by omega) (by omega)
  rw [Int.toNat_natCast] at hc
  refine Calls.mono hc ?_
  rintro e w' ⟨rfl, rfl⟩
  exact ⟨_, fun _ => Go.undef, fun _ _ => False, rfl, Evo.refl _ _, fun m g hg => hg, fun _ _ _ h1 _ => h1.elim, fun _ _ h1 => h1.elim, .t (.v _)⟩
/-- What sorting leaves. -/
def SortPost (L : List (List Nat)) (r : PV) (M' : List (Nat × Res)) : Prop := r = .tup [] ∧ ∃ ys : List (List Nat), L.Perm ys ∧ ys.Pairwise leK ∧ M' = [(1000011, .row 164 2 .ro (ys.map eKd))]
theorem pdq_spec (L : List (List Nat)) (hne : ∀ x ∈ L, x ≠ []) (h12 : L.length ≤ 12) (ka kb kc : Kind) (m : Int) :
    ECallP Tryd.prog 151 [.osl 1000011, .t ka (eI 0), .t kb (eI L.length), .t kc (eI m), .clo 130 []] [(1000011, .row 164 2 .ro (L.map eKd))] (SortPost L) := by
  refine ecallP_wp Tryd.func151 rfl (by kernel_rfl) ?_
  have hs := inssort_spec L hne (by omega) .fz .fz .ro
  have hw0 := wr (n := (L.length : Int)) (by omega) (by omega)
  have h12' : (L.length : Int) ≤ 12 := by omega
  simp -dsimp
  refine wk_loop (fun _ : Unit => ⟨[(0, .osl 1000011), (1, .t ka (eI 0)), (2, .t kb (eI L.length)), (3, .t kc (eI m)), (4, .clo 130 [])], [(1000011, .row 164 2 .ro (L.map eKd))]⟩)
    (fun _ => True) (fun _ => 0) () (le_of (by simp) (by simp)) trivial fun _ _ => ?_
  simp -dsimp [hw0, h12']
  refine CallG.onP (g := [(1000011, 1000011)]) hs (by decide) (by simp) (by simp) (by simp [Sg.bk]) fun r M' hP => ?_
  obtain ⟨rfl, ys, hp, hsd, rfl⟩ := hP
  simp -dsimp
  exact retEP_c (.tup []) [(1000011, .row 164 2 .ro (ys.map eKd))] ⟨rfl, ys, hp, hsd, rfl⟩ (by simp) (by simp)
theorem sortK_spec (L : List (List Nat)) (hne : ∀ x ∈ L, x ≠ []) (h12 : L.length ≤ 12) :
    ECallP Tryd.prog 129 [.osl 1000011, .clo 130 []] [(1000011, .row 164 2 .ro (L.map eKd))] (SortPost L) := by
  refine ecallP_wp Tryd.func129 rfl (by kernel_rfl) ?_
  have hb := blen_spec L.length (by omega)
  have hs := pdq_spec L hne h12 .fz .fz .fz (Go.Lib.bitLen L.length : Nat)
  have hu : IntKind.u64.wrap (L.length : Int) = L.length := by
    rw [IntKind.wrap_u64]
    omega
  generalize (Go.Lib.bitLen L.length : Nat) = m at *
  simp -dsimp [hu]
  first
    | refine CallG.by (hb) ?_
    | refine CallGE.by (hb) ?_
    | refine CallGB.by (hb) ?_
  simp -dsimp
  refine CallG.onP (g := [(1000011, 1000011)]) hs (by decide) (by simp) (by simp) (by simp [Sg.bk]) fun r M' hP => ?_
  obtain ⟨rfl, ys, hp, hsd, rfl⟩ := hP
  simp -dsimp
  exact retEP_c (.tup []) [(1000011, .row 164 2 .ro (ys.map eKd))] ⟨rfl, ys, hp, hsd, rfl⟩ (by simp) (by simp)
end Go.Proofs.YtfcbmcmkakceaaaDoor
