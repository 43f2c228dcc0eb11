import Derived.Test.YtmneioafbkknhaaPB29
import Derived.Test.YtmneioafbkknhaaComp
/- PB30: slices.Compact of a row in hand. -/
set_option linter.unusedVariables false
set_option linter.unusedSimpArgs false
set_option maxRecDepth 20000
namespace Go.Proofs.Ytmneioafbkknhaa
open Go Go.PS Go.RowKit Go.Sort
theorem compact_calls (blk cap : Nat) (zs : List Int) (w : World) (hH : Holds (Value.int .i64) w blk 0 zs.toArray) (hsz : zs.length ≤ 9223372036854775807) (hcap : zs.length ≤ cap) :
    Calls Try.prog 83 #[.slice (some ⟨blk, 0, none⟩) zs.length cap] w fun e w' => e = .returned (.slice (some ⟨blk, 0, none⟩) (Lib.compact zs).length cap) ∧ ∃ q, w' = putRow (Value.int .i64) (Go.Sort.ahead w q) blk 0 (Lib.compact zs ++ List.replicate (zs.length - (Lib.compact zs).length) 0).toArray :=
  Any.slices_Compact_int Try.lays220 blk 0 cap zs w hH hsz hcap
theorem compact_len (xs : List Int) : (Lib.compact xs).length ≤ xs.length := by
  unfold Lib.compact Lib.compactUpTo
  rw [List.length_map]
  exact Nat.le_trans (List.length_filter_le _ _) (by simp)
theorem compact_spec (xs : List Int) (hx : xs ≠ []) : ECall Try.prog 83 [.osl 1001] [(1001, .row 3 1 .ro (xs.map cI))] (.osl 1001) [(1001, .row 3 1 .ro ((Lib.compact xs).map cI))] := by
  refine ⟨call83, fun w S φ fp vals hH => ?_⟩
  have hres := hH.res 1001
  simp only [getM, if_true] at hres
  obtain ⟨cells, hown, hbd, hlen, hrep⟩ := hres
  have hne : xs.map cI ≠ [] := by simpa using hx
  rcases hown with ⟨hown, hF⟩ | ⟨h, _⟩
  rotate_left
  · exact absurd h hne
  rcases hown.2 with ⟨_, hz⟩ | ⟨g, cap, cur, hv, _, hh, hle, hcm, hcs, ht⟩
  · exact absurd (List.eq_nil_of_length_eq_zero hz) hne
  have hn : (xs.map cI).length = xs.length := by simp
  rw [hn] at hle ht hv hbd
  have hargs := hH.args 0 (.osl 1001) rfl
  have hvals : vals = #[.slice (some ⟨g, 0, none⟩) xs.length cap] := by
    have hs := hH.size
    simp at hs
    have h0 : vals.getD 0 Go.undef = φ 1001 := by
      generalize vals.getD 0 Go.undef = u at hargs
      cases hargs with
      | osl h => exact h.symm
    rw [hv] at h0
    apply Array.ext (by simpa using hs)
    intro i h1 h2
    have : i = 0 := by simp at h2; omega
    subst this
    simpa [Array.getD_eq_getD_getElem?, h1] using h0
  subst hvals
  have hcell : ∀ j (hj : j < xs.length), cur[j]? = some (.int .i64 xs[j]) := by
    intro j hj
    have hcl : cells.length = xs.length := by rw [hown.1]; simp
    have h1 := hrep j 0 (cI xs[j]) (eI xs[j]) (by simp [hj]) rfl
    have h2 := h1.v_inv
    simp only [Nat.mul_one, Nat.add_zero] at h2
    have h3 : cells[j]? = some (.int .i64 xs[j]) := by
      have hjl : j < cells.length := by omega
      rw [List.getElem?_eq_getElem hjl]
      simpa [List.getD_eq_getElem?_getD, List.getElem?_eq_getElem hjl] using h2
    rw [← ht, Nat.mul_one, List.getElem?_take_of_lt hj, Array.getElem?_toList] at h3
    exact h3
  have hHold : Holds (Value.int .i64) w g 0 xs.toArray := by
    intro j hj
    have hj' : j < xs.length := by simpa using hj
    refine ⟨?_, ?_⟩
    · rw [Nat.zero_add, cell_of_row w g j cur 3 (0, 0) hh, hcell j hj']
      simp [hj']
    · exact frozen_of_row w g _ cur 3 hh
  have hglt : g < w.heap.size := (Array.getElem?_eq_some_iff.1 hh).1
  refine (compact_calls g cap xs w hHold (by omega) hle).mono ?_
  rintro e w' ⟨rfl, n, rfl⟩
  have hle2 := compact_len xs
  obtain ⟨dl, hdl⟩ : ∃ dl, dl = Lib.compact xs ++ List.replicate (xs.length - (Lib.compact xs).length) 0 := ⟨_, rfl⟩
  have hdll : dl.length = xs.length := by rw [hdl]; simp; omega
  rw [← hdl]
  have hheap2 : ∀ g', (putRow (Value.int .i64) (Go.Sort.ahead w n) g 0 dl.toArray).heap[g']? = if g' = g then some (.cells (putCells (Value.int .i64) 0 dl.toArray cur) 3 (0, 0)) else w.heap[g']? := by
    intro g'
    simp only [putRow, mapBlock, Go.Sort.ahead, Array.getElem?_modify]
    by_cases e : g = g'
    · subst e
      rw [if_pos rfl, if_pos rfl, hh]
      rfl
    · rw [if_neg e, if_neg (Ne.symm e)]
  have hsz2 : w.heap.size ≤ (putRow (Value.int .i64) (Go.Sort.ahead w n) g 0 dl.toArray).heap.size := by simp [putRow, mapBlock, Go.Sort.ahead]
  let φ' : Nat → Value := fun m => if m = 1001 then .slice (some ⟨g, 0, none⟩) (Lib.compact xs).length cap else φ m
  refine ⟨_, φ', fp, .osl 1001, _, ⟨rfl, rfl⟩, rfl, ⟨⟨rfl, rfl, rfl, hsz2, fun g' hg' hn' => ?_⟩, fun m => ?_, hH.disj, fun m g' hg' => ⟨Nat.lt_of_lt_of_le (hH.lt m g' hg') hsz2, .inl ⟨m, hg'⟩⟩, fun m hm => by simp only [φ']; rw [if_neg (by omega)], .osl (by simp [φ'])⟩⟩
  · rw [hheap2 g', if_neg]
    rintro rfl
    exact hn' ⟨1001, (hF g').2 (by rw [hv]; rfl)⟩
  · by_cases em : m = 1001
    · subst em
      simp only [getM, if_true]
      have e1 : φ' 1001 = .slice (some ⟨g, 0, none⟩) (Lib.compact xs).length cap := by simp [φ']
      rw [e1]
      refine ⟨(Lib.compact xs).map (Value.int .i64), .inl ⟨⟨by simp, .inr ⟨g, cap, putCells (Value.int .i64) 0 dl.toArray cur, ?_, Nat.zero_le _, ?_, ?_, hcm, ?_, ?_⟩⟩, fun h => (hF h).trans (by rw [hv]; exact Iff.rfl)⟩, by simp; omega, by simp [cI], fun i j e x he hx => ?_⟩
      · simp
      · rw [hheap2 g, if_pos rfl]
      · simp
        omega
      · simp [putCells, hcs]
      · apply List.ext_getElem?
        intro i
        have hcursz : xs.length ≤ cur.size := by rw [hcs]; omega
        by_cases hi : i < (Lib.compact xs).length
        · rw [List.getElem?_take_of_lt (by simp; exact hi)]
          have hic : i < cur.size := by omega
          have hid : i < dl.length := by omega
          have hdi : dl[i] = (Lib.compact xs)[i] := by
            simp only [hdl]
            rw [List.getElem_append_left hi]
          simp [putCells, hic, hid, hi, hdi]
        · rw [List.getElem?_eq_none (by simp; omega), List.getElem?_eq_none (by simp; omega)]
      · rw [List.getElem?_map] at he
        obtain ⟨y, hy, rfl⟩ := Option.map_eq_some_iff.1 he
        have hj : j = 0 := by
          cases j with
          | zero => rfl
          | succ j => simp [cI] at hx
        subst hj
        simp [cI] at hx
        subst hx
        obtain ⟨hi, rfl⟩ := List.getElem?_eq_some_iff.1 hy
        simp [List.getD_eq_getElem?_getD, hi]
        exact .v _
    · have := hH.res m
      have e1 : getM [(1001, Res.row 3 1 Kind.ro (xs.map cI))] m = .dead := by simp [Ne.symm em]
      have e2 : getM [(1001, Res.row 3 1 Kind.ro ((Lib.compact xs).map cI))] m = .dead := by simp [Ne.symm em]
      rw [e1] at this
      rw [e2]
      exact this
end Go.Proofs.Ytmneioafbkknhaa
