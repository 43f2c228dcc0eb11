import Derived.Test.YtgcncgocdfioiaaDoorCB2
import Derived.Test.YtgcncgocdfioiaaDoorSortF
import Derived.Deep.RegionHeld3
/- CS1: slices.SortFunc of pairs. -/
set_option linter.unusedVariables false
set_option linter.unusedSimpArgs false
set_option maxRecDepth 20000
namespace Go.Proofs.YtgcncgocdfioiaaDoor
open Go Go.PS Go.RowKit Go.Sort Go.Shelf
def cmpI (a b : Int) : Int := if a < b then -1 else if b < a then 1 else 0
theorem compare90 (a b : Int) (W : World) : Calls Tryd.prog 90 #[.int .i64 a, .int .i64 b] W fun e w' => e = .returned (.int .i64 (cmpI a b)) ∧ w' = W := by
  unfold cmpI
  go_enter Tryd.func90, Tryd.ntmps90
  go_wp2
  all_goals
    go_ret
    refine ⟨?_, rfl⟩
    congr 2
    repeat' split
    all_goals omega
theorem or89a (b : Nat) (x y : Int) (W : World) (hx0 : x ≠ 0) (h0 : W.cell? ⟨b, 0, none⟩ = some (.int .i64 x)) (h1 : W.cell? ⟨b, 1, none⟩ = some (.int .i64 y)) : Calls Tryd.prog 89 #[.slice (some ⟨b, 0, none⟩) 2 2] W fun e w' => e = .returned (.int .i64 x) ∧ w' = W := by
  go_enter Tryd.func89, Tryd.ntmps89
  go_wp2
  go_loop [8] (fun i => i = .int .i64 0) (fun i => 2 - (intOf i).toNat)
  case atStart => rfl
  case round =>
    obtain rfl := hrel
    go_wp2
    go_ret
    exact ⟨rfl, rfl⟩
theorem or89b (b : Nat) (y : Int) (W : World) (h0 : W.cell? ⟨b, 0, none⟩ = some (.int .i64 0)) (h1 : W.cell? ⟨b, 1, none⟩ = some (.int .i64 y)) : Calls Tryd.prog 89 #[.slice (some ⟨b, 0, none⟩) 2 2] W fun e w' => e = .returned (.int .i64 y) ∧ w' = W := by
  go_enter Tryd.func89, Tryd.ntmps89
  go_wp2
  go_loop [8] (fun i => ∃ k : Nat, k ≤ 2 ∧ i = .int .i64 k ∧ (k ≤ 1 ∨ y = 0)) (fun i => 2 - (intOf i).toNat)
  case atStart => exact ⟨0, by omega, rfl, .inl (by omega)⟩
  case round =>
    obtain ⟨k, hk, rfl, hy⟩ := hrel
    have hk3 : k = 0 ∨ k = 1 ∨ k = 2 := by omega
    rcases hk3 with rfl | rfl | rfl
    · go_wp2
      go_round
      case rel => exact ⟨1, by omega, rfl, .inl (by omega)⟩
      case measure => simp [intOf]
    · go_wp2
      case roundEnd =>
        rename_i hc
        have hy0 : y = 0 := by simpa using hc
        exact ⟨⟨2, by omega, rfl, .inr hy0⟩, by simp [intOf]⟩
      all_goals
        go_ret
        exact ⟨rfl, rfl⟩
    · have hy0 : y = 0 := hy.resolve_left (by omega)
      subst hy0
      go_wp2
      go_ret
      exact ⟨rfl, rfl⟩
/-- A pair of numbers. -/
def encP (x : Nat × Nat) : List Value := [.int .i64 (x.1 : Int), .int .i64 (x.2 : Int)]
def cfP (x y : Nat × Nat) : Int := if cmpI x.1 y.1 = 0 then cmpI x.2 y.2 else cmpI x.1 y.1
theorem newcell (w : World) (cs : Array Value) (t n : Nat) (hn : n = w.heap.size) (i : Nat) (v : Value) (hv : cs[i]? = some v) : (w.alloc (Obj.cells cs t)).drew.cell? ⟨n, i, none⟩ = some v := by
  subst hn
  have hh : (w.alloc (Obj.cells cs t)).drew.heap[w.heap.size]? = some (.cells cs t (0, 0)) := by
    show (w.heap.push (Obj.cells cs t))[w.heap.size]? = _
    simp
  rw [cell_of_row _ _ i cs t (0, 0) hh, hv]
theorem sz2 (W : World) (a b : Obj) : W.heap.size + 1 + 1 = ((W.alloc a).alloc b).heap.size := by
  show _ = ((W.heap.push a).push b).size
  simp
theorem closure88a (x y : Nat × Nat) (W : World) (hc : ¬ cmpI x.1 y.1 = 0) : Calls Tryd.prog 88 #[.agg (encP x).toArray, .agg (encP y).toArray] W fun e w' => e = .returned (.int .i64 (cmpI x.1 y.1)) ∧ ∃ q os', w' = grow (W.drewN q) os' := by
  unfold encP
  obtain ⟨x1, x2⟩ := x
  obtain ⟨y1, y2⟩ := y
  dsimp only at *
  go_enter Tryd.func88, Tryd.ntmps88
  go_wp2
  go_region_held3 (fun w' => w'.cell? ⟨W.heap.size, 0, none⟩ = some (.int .i64 (x1 : Int)) ∧ w'.cell? ⟨W.heap.size, 1, none⟩ = some (.int .i64 (x2 : Int)) ∧ w'.cell? ⟨W.heap.size + 1, 0, none⟩ = some (.int .i64 (y1 : Int)) ∧ w'.cell? ⟨W.heap.size + 1, 1, none⟩ = some (.int .i64 (y2 : Int))) (go_keep)
    (first | (go_at_call 90; refine (compare90 _ _ _).mono ?_; rintro e w' ⟨rfl, rfl⟩) | (go_at_call 89; refine (or89a _ _ _ _ hc (newcell _ _ _ _ (sz2 _ _ _) 0 _ rfl) (newcell _ _ _ _ (sz2 _ _ _) 1 _ rfl)).mono ?_; rintro e w' ⟨rfl, rfl⟩))
  all_goals
    go_wp2
    go_ret
    exact ⟨rfl, 1, _, by rw [alloc_eq_grow, alloc_eq_grow, alloc_eq_grow, grow_grow, grow_grow]; rfl⟩
theorem cmpI_self (a : Int) : cmpI a a = 0 := by simp [cmpI]
theorem closure88b (x y : Nat × Nat) (W : World) (hc : x.1 = y.1) : Calls Tryd.prog 88 #[.agg (encP x).toArray, .agg (encP y).toArray] W fun e w' => e = .returned (.int .i64 (cmpI x.2 y.2)) ∧ ∃ q os', w' = grow (W.drewN q) os' := by
  unfold encP
  obtain ⟨x1, x2⟩ := x
  obtain ⟨y1, y2⟩ := y
  dsimp only at *
  subst hc
  go_enter Tryd.func88, Tryd.ntmps88
  go_wp2
  go_region_held3 (fun w' => w'.cell? ⟨W.heap.size, 0, none⟩ = some (.int .i64 (x1 : Int)) ∧ w'.cell? ⟨W.heap.size, 1, none⟩ = some (.int .i64 (x2 : Int)) ∧ w'.cell? ⟨W.heap.size + 1, 0, none⟩ = some (.int .i64 (x1 : Int)) ∧ w'.cell? ⟨W.heap.size + 1, 1, none⟩ = some (.int .i64 (y2 : Int))) (go_keep)
    (first | (go_at_call 90; refine (compare90 _ _ _).mono ?_; rintro e w' ⟨rfl, rfl⟩) | (go_at_call 89; refine (or89b _ _ _ (newcell _ _ _ _ (sz2 _ _ _) 0 _ (by rw [cmpI_self]; rfl)) (newcell _ _ _ _ (sz2 _ _ _) 1 _ rfl)).mono ?_; rintro e w' ⟨rfl, rfl⟩))
  all_goals
    go_wp2
    go_ret
    exact ⟨rfl, 1, _, by rw [alloc_eq_grow, alloc_eq_grow, alloc_eq_grow, grow_grow, grow_grow]; rfl⟩
theorem cmpI_zero {a b : Nat} (h : cmpI a b = 0) : a = b := by
  unfold cmpI at h
  split at h
  · cases h
  · split at h
    · cases h
    · omega
theorem closure88 (x y : Nat × Nat) (W : World) : Calls Tryd.prog 88 #[.agg (encP x).toArray, .agg (encP y).toArray] W fun e w' => e = .returned (.int .i64 (cfP x y)) ∧ ∃ q os', w' = grow (W.drewN q) os' := by
  unfold cfP
  split
  · rename_i h
    exact closure88b x y W (cmpI_zero h)
  · rename_i h
    exact closure88a x y W h
theorem cmpLays88 (blk off size : Nat) (w : World) : CmpLays Tryd.prog 88 #[] encP 2 cfP blk off size w := fun _ _ _ _ x y => closure88 x y _
/-- The order of pairs. -/
def ltP (x y : Nat × Nat) : Bool := decide (x.1 < y.1 ∨ x.1 = y.1 ∧ x.2 < y.2)
theorem ltOf_P (x y : Nat × Nat) : ltOf cfP x y = ltP x y := by
  unfold ltOf cfP ltP cmpI
  rw [Bool.eq_iff_iff]
  simp only [decide_eq_true_eq]
  repeat' split
  all_goals simp_all
  all_goals omega
theorem swoP : SWO (ltOf cfP) where
  irrefl x := by rw [ltOf_P]; simp [ltP]
  trans x y z h1 h2 := by rw [ltOf_P] at *; simp [ltP] at *; omega
  ntrans x y z h1 h2 := by rw [ltOf_P] at *; simp [ltP] at *; omega
theorem divmod {k i j : Nat} (hj : j < k) : (i * k + j) / k = i ∧ (i * k + j) % k = j := by
  have h1 : (i * k + j) / k = i := by
    rw [Nat.mul_comm, Nat.mul_add_div (by omega), Nat.div_eq_of_lt hj]
    rfl
  refine ⟨h1, ?_⟩
  rw [Nat.mul_comm, Nat.mul_add_mod, Nat.mod_eq_of_lt hj]
theorem sortRow_spec {α : Type} [Inhabited α] {P : Program} {f g ty k : Nat} (enc : α → List Value) (hk : ∀ x, (enc x).length = k) (lt : α → α → Bool) (hc : Callable P f)
    (hs : ∀ (blk cap : Nat) (d : Array α) (w : World), HoldsK enc k w blk 0 d → blk < w.heap.size → d.size < 4611686018427387904 → Calls P f #[.slice (some ⟨blk, 0, none⟩) d.size cap, .func (.func g) #[] #[]] w fun e w' => e = .returned (.tuple #[]) ∧ ∃ d' n os, PermIn 0 d.size d d' ∧ SortedIn lt 0 d.size d' ∧ w' = sortWorldK enc k w blk 0 n d' os)
    (xs : List α) (hx : xs ≠ []) :
    ECallP P f [.osl 1000011, .clo g []] [(1000011, .row ty k .ro (xs.map fun x => (enc x).map TL.v))] fun r M' => r = .tup [] ∧ ∃ ys : List α, xs.Perm ys ∧ ys.Pairwise (fun a b => lt b a = false) ∧ M' = [(1000011, .row ty k .ro (ys.map fun x => (enc x).map TL.v))] := by
  refine ⟨hc, fun w S φ fp vals hH => ?_⟩
  have hres := hH.res 1000011
  simp only [getM, if_true] at hres
  obtain ⟨cells, hown, hbd, hlen, hrep⟩ := hres
  have hne : xs.map (fun x => (enc x).map TL.v) ≠ [] := by simpa using hx
  rcases hown with ⟨hown, hF⟩ | ⟨h, _⟩
  rotate_left
  · exact absurd h hne
  rcases hown.2 with ⟨_, hz⟩ | ⟨b, cap, cur, hv, _, hh, hle, hcm, hcs, ht⟩
  · exact absurd (List.eq_nil_of_length_eq_zero hz) hne
  have hn : (xs.map fun x => (enc x).map TL.v).length = xs.length := by simp
  rw [hn] at hle ht hv hbd
  have hcl : cells.length = xs.length * k := by rw [hown.1, hn]
  have hargs := hH.args 0 (.osl 1000011) rfl
  have hargs1 := hH.args 1 (.clo g []) rfl
  have hvals : vals = #[.slice (some ⟨b, 0, none⟩) xs.length cap, .func (.func g) #[] #[]] := by
    have hsz := hH.size
    simp at hsz
    have h0 : vals.getD 0 Go.undef = φ 1000011 := by
      generalize vals.getD 0 Go.undef = u at hargs
      cases hargs with
      | osl h => exact h.symm
    have h1 : vals.getD 1 Go.undef = .func (.func g) #[] #[] := by
      generalize vals.getD 1 Go.undef = u at hargs1
      cases hargs1 with
      | clo vs hs hr =>
        have : vs = #[] := Array.eq_empty_of_size_eq_zero (by simpa using hs)
        rw [this]
    rw [hv] at h0
    apply Array.ext (by simpa using hsz)
    intro i h1' h2'
    have hi : i = 0 ∨ i = 1 := by simp at h2'; omega
    rcases hi with rfl | rfl
    · simpa [Array.getD_eq_getD_getElem?, h1'] using h0
    · simpa [Array.getD_eq_getD_getElem?, h1'] using h1
  subst hvals
  have hdm : ∀ t, t < xs.length * k → t / k < xs.length ∧ t % k < k ∧ t / k * k + t % k = t := fun t ht => by
    have hk0 : 0 < k := by
      rcases Nat.eq_zero_or_pos k with h | h
      · subst h; simp at ht
      · exact h
    exact ⟨(Nat.div_lt_iff_lt_mul hk0).2 ht, Nat.mod_lt _ hk0, by rw [Nat.mul_comm]; exact Nat.div_add_mod t k⟩
  have hflat : ∀ (zs : List α) t, zs.length = xs.length → t < xs.length * k → ∃ (h1 : t / k < zs.length) (h2 : t % k < (enc zs[t / k]).length), (flatK enc k zs.toArray)[t]! = (enc zs[t / k])[t % k] := fun zs t hz ht => by
    obtain ⟨d1, d2, d3⟩ := hdm t ht
    refine ⟨by omega, by rw [hk]; exact d2, ?_⟩
    rw [get_flatK enc k _ t (by simpa [hz] using ht)]
    have e1 : zs.toArray[t / k]! = zs[t / k] := by
      rw [getElem!_pos _ _ (by simp; omega)]
      simp
    rw [e1, getElem!_pos _ _ (by rw [hk]; exact d2)]
  have hcell : ∀ t, t < xs.length * k → cur[t]? = some (flatK enc k xs.toArray)[t]! := by
    intro t htl
    obtain ⟨d1, d2, d3⟩ := hdm t htl
    obtain ⟨q1, q2, q3⟩ := hflat xs t rfl htl
    have h1 := hrep (t / k) (t % k) ((enc xs[t / k]).map TL.v) (.v (enc xs[t / k])[t % k]) (by simp [d1]) (by simp [q2])
    have h2 := h1.v_inv
    rw [d3] at h2
    have h3 : cells[t]? = some (flatK enc k xs.toArray)[t]! := by
      have hjl : t < cells.length := by omega
      rw [List.getElem?_eq_getElem hjl, q3]
      simpa [List.getD_eq_getElem?_getD, List.getElem?_eq_getElem hjl] using h2
    rw [← ht, List.getElem?_take_of_lt htl, Array.getElem?_toList] at h3
    exact h3
  have hHold : HoldsK enc k w b 0 xs.toArray := by
    intro t htl
    have htl' : t < xs.length * k := by simpa using htl
    refine ⟨?_, ?_⟩
    · rw [Nat.zero_add, cell_of_row w b t cur ty (0, 0) hh, hcell t htl']
      rfl
    · exact frozen_of_row w b _ cur ty hh
  have hglt : b < w.heap.size := (Array.getElem?_eq_some_iff.1 hh).1
  refine (hs b cap xs.toArray w hHold hglt (by simp; omega)).mono ?_
  rintro e w' ⟨rfl, d', n, os, hp, hsd, rfl⟩
  have hdl : d'.size = xs.length := by simpa using hp.1
  obtain ⟨ys, rfl⟩ : ∃ ys : List α, d' = ys.toArray := ⟨d'.toList, by simp⟩
  have hyl : ys.length = xs.length := by simpa using hdl
  have hperm : xs.Perm ys := by
    have h := hp.2.2
    have e1 : (ys.toArray.extract 0 xs.toArray.size).toList = ys := by simp [← hyl]
    have e2 : (xs.toArray.extract 0 xs.toArray.size).toList = xs := by simp
    rw [e1, e2] at h
    exact h.symm
  have hpair : ys.Pairwise (fun a b => lt b a = false) := by
    rw [List.pairwise_iff_getElem]
    intro i j hi hj hij
    have := hsd i j (by omega) hij (by simp; omega)
    rw [getElem!_pos _ _ (by simpa using hj), getElem!_pos _ _ (by simpa using hi)] at this
    simpa using this
  have hFs : (flatK enc k ys.toArray).size = xs.length * k := by simp [hyl]
  have hheap : ∀ g', (putRow id (Go.Sort.ahead w n) b 0 (flatK enc k ys.toArray)).heap[g']? = if g' = b then some (.cells (putCells id 0 (flatK enc k ys.toArray) cur) ty (0, 0)) else w.heap[g']? := by
    intro g'
    simp only [putRow, mapBlock, Go.Sort.ahead, Array.getElem?_modify]
    by_cases e : b = g'
    · subst e
      rw [if_pos rfl, if_pos rfl, hh]
      rfl
    · rw [if_neg e, if_neg (Ne.symm e)]
  have hsz : (putRow id (Go.Sort.ahead w n) b 0 (flatK enc k ys.toArray)).heap.size = w.heap.size := by simp [putRow, mapBlock, Go.Sort.ahead]
  have hheap2 : ∀ g', g' < w.heap.size → (grow (putRow id (Go.Sort.ahead w n) b 0 (flatK enc k ys.toArray)) os).heap[g']? = if g' = b then some (.cells (putCells id 0 (flatK enc k ys.toArray) cur) ty (0, 0)) else w.heap[g']? := by
    intro g' hg'
    simp only [grow]
    rw [Array.getElem?_append_left (by rw [hsz]; exact hg')]
    exact hheap g'
  have hsz2 : w.heap.size ≤ (grow (putRow id (Go.Sort.ahead w n) b 0 (flatK enc k ys.toArray)) os).heap.size := by
    simp only [grow, Array.size_append, hsz]
    omega
  refine ⟨_, φ, fp, .tup [], _, ⟨rfl, ys, hperm, hpair, rfl⟩, rfl, ⟨⟨rfl, rfl, rfl, hsz2, fun g' hg' hn' => ?_⟩, fun m => ?_, hH.disj, fun m g' hg' => ⟨Nat.lt_of_lt_of_le (hH.lt m g' hg') hsz2, .inl ⟨m, hg'⟩⟩, fun _ _ => rfl, .tup _ rfl fun j x hx => by simp at hx⟩⟩
  · show (grow (putRow id (Go.Sort.ahead w n) b 0 (flatK enc k ys.toArray)) os).heap[g']? = _
    rw [hheap2 g' hg', if_neg]
    rintro rfl
    exact hn' ⟨1000011, (hF g').2 (by rw [hv]; rfl)⟩
  · by_cases em : m = 1000011
    · subst em
      simp only [getM, if_true]
      refine ⟨(flatK enc k ys.toArray).toList, .inl ⟨⟨by simp, .inr ⟨b, cap, putCells id 0 (flatK enc k ys.toArray) cur, ?_, Nat.zero_le _, ?_, ?_, hcm, ?_, ?_⟩⟩, hF⟩, by simp [hyl]; omega, ?_, fun i j e x he hx => ?_⟩
      · rw [hv]
        simp [hyl]
      · show (grow (putRow id (Go.Sort.ahead w n) b 0 (flatK enc k ys.toArray)) os).heap[b]? = _
        rw [hheap2 b hglt, if_pos rfl]
      · simp [hyl]
        exact hle
      · simp [putCells, hcs]
      · apply List.ext_getElem?
        intro i
        have hcursz : xs.length * k ≤ cur.size := by rw [hcs]; exact Nat.mul_le_mul_right k hle
        have hyk : ys.length * k = xs.length * k := by rw [hyl]
        by_cases hi : i < xs.length * k
        · rw [List.getElem?_take_of_lt (by simp [hyl]; exact hi)]
          have hic : i < cur.size := by omega
          have hi2 : i < (flatK enc k ys.toArray).size := by omega
          simp [putCells, hic, hi2, hyk, hi]
        · rw [List.getElem?_eq_none (by simp [hyl]; omega), List.getElem?_eq_none (by simp [hyl]; omega)]
      · intro e he
        obtain ⟨y, _, rfl⟩ := List.mem_map.1 he
        simp [hk]
      · rw [List.getElem?_map] at he
        obtain ⟨y, hy, rfl⟩ := Option.map_eq_some_iff.1 he
        obtain ⟨hi, rfl⟩ := List.getElem?_eq_some_iff.1 hy
        rw [List.getElem?_map] at hx
        obtain ⟨v, hv2, rfl⟩ := Option.map_eq_some_iff.1 hx
        obtain ⟨hj, rfl⟩ := List.getElem?_eq_some_iff.1 hv2
        have hjk : j < k := by rw [hk] at hj; exact hj
        obtain ⟨dm1, dm2⟩ := divmod (i := i) hjk
        have hlt : i * k + j < xs.length * k := by
          have := Nat.mul_le_mul_right k (show i + 1 ≤ xs.length by omega)
          rw [Nat.add_mul, Nat.one_mul] at this
          omega
        obtain ⟨q1, q2, q3⟩ := hflat ys (i * k + j) hyl hlt
        have e3 : (flatK enc k ys.toArray).toList.getD (i * k + j) Go.undef = (enc ys[i])[j] := by
          have : (flatK enc k ys.toArray).toList.getD (i * k + j) Go.undef = (flatK enc k ys.toArray)[i * k + j]! := by
            rw [getElem!_pos _ _ (by omega), List.getD_eq_getElem?_getD, Array.getElem?_toList, Array.getElem?_eq_getElem (by omega)]
            rfl
          rw [this, q3]
          simp only [dm1, dm2]
        rw [e3]
        exact .v _
    · have := hH.res m
      have e1 : ∀ zs : List (List TL), getM [(1000011, Res.row ty k Kind.ro zs)] m = .dead := fun zs => by simp [Ne.symm em]
      rw [e1] at this
      rw [e1]
      exact this
@[simp] def cPr (x : Nat × Nat) : List TL := [eI (x.1 : Int), eI (x.2 : Int)]
theorem sortP_spec (xs : List (Nat × Nat)) (hx : xs ≠ []) :
    ECallP Tryd.prog 87 [.osl 1000011, .clo 88 []] [(1000011, .row 30 2 .ro (xs.map cPr))] fun r M' => r = .tup [] ∧ ∃ ys : List (Nat × Nat), xs.Perm ys ∧ ys.Pairwise (fun a b => ltP b a = false) ∧ M' = [(1000011, .row 30 2 .ro (ys.map cPr))] := by
  have eg : ∀ args w, (callFunc 88 args).run Tryd.prog w = .ok (.enter 88 args) w := enters_of Tryd.func88 (by kernel_rfl) rfl
  have h := sortRow_spec (P := Tryd.prog) (f := 87) (g := 88) (ty := 30) (k := 2) encP (fun _ => rfl) (ltOf cfP) call87 (fun blk cap d w hH hb hsz =>
    AnyQ.slices_SortFunc Tryd.laysF6 2 Tryd.isAgg30 Tryd.sizeOf30 encP (fun _ => rfl) (fun x v hv => by simp [encP] at hv; rcases hv with rfl | rfl <;> rfl) cfP swoP 88 #[] blk 0 cap d w eg (cmpLays88 blk 0 d.size w) hH hb hsz) xs hx
  refine ⟨h.1, fun w S φ fp vals hH => (h.2 w S φ fp vals hH).mono ?_⟩
  rintro e w' ⟨v, φ', fp', r, M', ⟨hr, ys, hp, hs, hM⟩, he, hB⟩
  refine ⟨v, φ', fp', r, M', ⟨hr, ys, hp, hs.imp fun {a b} hab => ?_, hM⟩, he, hB⟩
  rw [ltOf_P] at hab
  exact hab
end Go.Proofs.YtgcncgocdfioiaaDoor
