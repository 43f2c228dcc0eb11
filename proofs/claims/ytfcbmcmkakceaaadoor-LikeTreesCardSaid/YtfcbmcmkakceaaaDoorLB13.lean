import Derived.Test.YtfcbmcmkakceaaaDoorLB12
/- LB13: slices.Sort of at most 12 numbers. -/
set_option linter.unusedVariables false
set_option linter.unusedSimpArgs false
set_option maxRecDepth 20000
namespace Go.Proofs.YtfcbmcmkakceaaaDoor
open Go Go.PS
attribute [-simp] isKeyK List.map_take
def SortIPost (L : List Nat) (r : PV) (M' : List (Nat × Res)) : Prop := r = .tup [] ∧ M' = [(1000011, .row 3 1 .ro ((iL (srtN L)).map cI))]
theorem pdqI_spec (L : List Nat) (h12 : L.length ≤ 12) (m : Int) :
    ECallP Tryd.prog 149 [.osl 1000011, .t .fz (eI 0), .t .fz (eI L.length), .t .fz (eI m)] [(1000011, .row 3 1 .ro ((iL L).map cI))] (SortIPost L) := by
  refine ecallP_wp Tryd.func149 rfl (by kernel_rfl) ?_
  have hs := insI_spec L (by omega)
  have hw0 := wr (n := (L.length : Int)) (by omega) (by omega)
  have h12' : (L.length : Int) ≤ 12 := by omega
  simp -dsimp
  refine wk_loop (fun _ : Unit => ⟨[(0, .osl 1000011), (1, .t .fz (eI 0)), (2, .t .fz (eI L.length)), (3, .t .fz (eI m))], [(1000011, .row 3 1 .ro ((iL L).map cI))]⟩)
    (fun _ => True) (fun _ => 0) () (le_of (by simp) (by simp)) trivial fun _ _ => ?_
  simp -dsimp [hw0, h12']
  refine CallG.onP (g := [(1000011, 1000011)]) hs (by decide) (by simp) (by simp) (by simp [Sg.bk]) fun r M' hP => ?_
  obtain ⟨rfl, rfl⟩ := hP
  simp -dsimp
  exact retEP_c (.tup []) [(1000011, .row 3 1 .ro ((iL (srtN L)).map cI))] ⟨rfl, rfl⟩ (by simp) (by simp)
theorem sortI_spec (L : List Nat) (h12 : L.length ≤ 12) :
    ECallP Tryd.prog 127 [.osl 1000011] [(1000011, .row 3 1 .ro ((iL L).map cI))] (SortIPost L) := by
  refine ecallP_wp Tryd.func127 rfl (by kernel_rfl) ?_
  have hb := blen_spec L.length (by omega)
  have hs := pdqI_spec L h12 (Go.Lib.bitLen L.length : Nat)
  have hu : IntKind.u64.wrap (L.length : Int) = L.length := by
    rw [IntKind.wrap_u64]
    omega
  generalize (Go.Lib.bitLen L.length : Nat) = m at *
  simp -dsimp [hu]
  first
    | refine CallG.by (hb) ?_
    | refine CallGE.by (hb) ?_
    | refine CallGB.by (hb) ?_
  simp -dsimp
  refine CallG.onP (g := [(1000011, 1000011)]) hs (by decide) (by simp) (by simp) (by simp [Sg.bk]) fun r M' hP => ?_
  obtain ⟨rfl, rfl⟩ := hP
  simp -dsimp
  exact retEP_c (.tup []) [(1000011, .row 3 1 .ro ((iL (srtN L)).map cI))] ⟨rfl, rfl⟩ (by simp) (by simp)
end Go.Proofs.YtfcbmcmkakceaaaDoor
