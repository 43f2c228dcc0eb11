import Derived.Test.YtmneioafbkknhaaPC1
import Derived.Test.YtmneioafbkknhaaSortF
/- PC2: SortFunc; Odd of the program and of the reference; the law of Odds -/
set_option linter.unusedVariables false
set_option linter.unusedSimpArgs false
set_option maxRecDepth 20000
/- PB55: slices.SortFunc of a row in hand, of elements of some cells. -/
namespace Go.Proofs.Ytmneioafbkknhaa
open Go Go.PS Go.RowKit Go.Sort
theorem divmod {k i j : Nat} (hj : j < k) : (i * k + j) / k = i ∧ (i * k + j) % k = j := by
  have h1 : (i * k + j) / k = i := by
    rw [Nat.mul_comm, Nat.mul_add_div (by omega), Nat.div_eq_of_lt hj]
    rfl
  refine ⟨h1, ?_⟩
  rw [Nat.mul_comm, Nat.mul_add_mod, Nat.mod_eq_of_lt hj]
theorem sortRow_spec {α : Type} [Inhabited α] {P : Program} {f g ty k : Nat} (enc : α → List Value) (hk : ∀ x, (enc x).length = k) (lt : α → α → Bool) (hc : Callable P f)
    (hs : ∀ (blk cap : Nat) (d : Array α) (w : World), HoldsK enc k w blk 0 d → blk < w.heap.size → d.size < 4611686018427387904 → Calls P f #[.slice (some ⟨blk, 0, none⟩) d.size cap, .func (.func g) #[] #[]] w fun e w' => e = .returned (.tuple #[]) ∧ ∃ d' n os, PermIn 0 d.size d d' ∧ SortedIn lt 0 d.size d' ∧ w' = sortWorldK enc k w blk 0 n d' os)
    (xs : List α) (hx : xs ≠ []) :
    ECallP P f [.osl 1000011, .clo g []] [(1000011, .row ty k .ro (xs.map fun x => (enc x).map TL.v))] fun r M' => r = .tup [] ∧ ∃ ys : List α, xs.Perm ys ∧ ys.Pairwise (fun a b => lt b a = false) ∧ M' = [(1000011, .row ty k .ro (ys.map fun x => (enc x).map TL.v))] := by
  refine ⟨hc, fun w S φ fp vals hH => ?_⟩
  have hres := hH.res 1000011
  simp only [getM, if_true] at hres
  obtain ⟨cells, hown, hbd, hlen, hrep⟩ := hres
  have hne : xs.map (fun x => (enc x).map TL.v) ≠ [] := by simpa using hx
  rcases hown with ⟨hown, hF⟩ | ⟨h, _⟩
  rotate_left
  · exact absurd h hne
  rcases hown.2 with ⟨_, hz⟩ | ⟨b, cap, cur, hv, _, hh, hle, hcm, hcs, ht⟩
  · exact absurd (List.eq_nil_of_length_eq_zero hz) hne
  have hn : (xs.map fun x => (enc x).map TL.v).length = xs.length := by simp
  rw [hn] at hle ht hv hbd
  have hcl : cells.length = xs.length * k := by rw [hown.1, hn]
  have hargs := hH.args 0 (.osl 1000011) rfl
  have hargs1 := hH.args 1 (.clo g []) rfl
  have hvals : vals = #[.slice (some ⟨b, 0, none⟩) xs.length cap, .func (.func g) #[] #[]] := by
    have hsz := hH.size
    simp at hsz
    have h0 : vals.getD 0 Go.undef = φ 1000011 := by
      generalize vals.getD 0 Go.undef = u at hargs
      cases hargs with
      | osl h => exact h.symm
    have h1 : vals.getD 1 Go.undef = .func (.func g) #[] #[] := by
      generalize vals.getD 1 Go.undef = u at hargs1
      cases hargs1 with
      | clo vs hs hr =>
        have : vs = #[] := Array.eq_empty_of_size_eq_zero (by simpa using hs)
        rw [this]
    rw [hv] at h0
    apply Array.ext (by simpa using hsz)
    intro i h1' h2'
    have hi : i = 0 ∨ i = 1 := by simp at h2'; omega
    rcases hi with rfl | rfl
    · simpa [Array.getD_eq_getD_getElem?, h1'] using h0
    · simpa [Array.getD_eq_getD_getElem?, h1'] using h1
  subst hvals
  have hdm : ∀ t, t < xs.length * k → t / k < xs.length ∧ t % k < k ∧ t / k * k + t % k = t := fun t ht => by
    have hk0 : 0 < k := by
      rcases Nat.eq_zero_or_pos k with h | h
      · subst h; simp at ht
      · exact h
    exact ⟨(Nat.div_lt_iff_lt_mul hk0).2 ht, Nat.mod_lt _ hk0, by rw [Nat.mul_comm]; exact Nat.div_add_mod t k⟩
  have hflat : ∀ (zs : List α) t, zs.length = xs.length → t < xs.length * k → ∃ (h1 : t / k < zs.length) (h2 : t % k < (enc zs[t / k]).length), (flatK enc k zs.toArray)[t]! = (enc zs[t / k])[t % k] := fun zs t hz ht => by
    obtain ⟨d1, d2, d3⟩ := hdm t ht
    refine ⟨by omega, by rw [hk]; exact d2, ?_⟩
    rw [get_flatK enc k _ t (by simpa [hz] using ht)]
    have e1 : zs.toArray[t / k]! = zs[t / k] := by
      rw [getElem!_pos _ _ (by simp; omega)]
      simp
    rw [e1, getElem!_pos _ _ (by rw [hk]; exact d2)]
  have hcell : ∀ t, t < xs.length * k → cur[t]? = some (flatK enc k xs.toArray)[t]! := by
    intro t htl
    obtain ⟨d1, d2, d3⟩ := hdm t htl
    obtain ⟨q1, q2, q3⟩ := hflat xs t rfl htl
    have h1 := hrep (t / k) (t % k) ((enc xs[t / k]).map TL.v) (.v (enc xs[t / k])[t % k]) (by simp [d1]) (by simp [q2])
    have h2 := h1.v_inv
    rw [d3] at h2
    have h3 : cells[t]? = some (flatK enc k xs.toArray)[t]! := by
      have hjl : t < cells.length := by omega
      rw [List.getElem?_eq_getElem hjl, q3]
      simpa [List.getD_eq_getElem?_getD, List.getElem?_eq_getElem hjl] using h2
    rw [← ht, List.getElem?_take_of_lt htl, Array.getElem?_toList] at h3
    exact h3
  have hHold : HoldsK enc k w b 0 xs.toArray := by
    intro t htl
    have htl' : t < xs.length * k := by simpa using htl
    refine ⟨?_, ?_⟩
    · rw [Nat.zero_add, cell_of_row w b t cur ty (0, 0) hh, hcell t htl']
      rfl
    · exact frozen_of_row w b _ cur ty hh
  have hglt : b < w.heap.size := (Array.getElem?_eq_some_iff.1 hh).1
  refine (hs b cap xs.toArray w hHold hglt (by simp; omega)).mono ?_
  rintro e w' ⟨rfl, d', n, os, hp, hsd, rfl⟩
  have hdl : d'.size = xs.length := by simpa using hp.1
  obtain ⟨ys, rfl⟩ : ∃ ys : List α, d' = ys.toArray := ⟨d'.toList, by simp⟩
  have hyl : ys.length = xs.length := by simpa using hdl
  have hperm : xs.Perm ys := by
    have h := hp.2.2
    have e1 : (ys.toArray.extract 0 xs.toArray.size).toList = ys := by simp [← hyl]
    have e2 : (xs.toArray.extract 0 xs.toArray.size).toList = xs := by simp
    rw [e1, e2] at h
    exact h.symm
  have hpair : ys.Pairwise (fun a b => lt b a = false) := by
    rw [List.pairwise_iff_getElem]
    intro i j hi hj hij
    have := hsd i j (by omega) hij (by simp; omega)
    rw [getElem!_pos _ _ (by simpa using hj), getElem!_pos _ _ (by simpa using hi)] at this
    simpa using this
  have hFs : (flatK enc k ys.toArray).size = xs.length * k := by simp [hyl]
  have hheap : ∀ g', (putRow id (Go.Sort.ahead w n) b 0 (flatK enc k ys.toArray)).heap[g']? = if g' = b then some (.cells (putCells id 0 (flatK enc k ys.toArray) cur) ty (0, 0)) else w.heap[g']? := by
    intro g'
    simp only [putRow, mapBlock, Go.Sort.ahead, Array.getElem?_modify]
    by_cases e : b = g'
    · subst e
      rw [if_pos rfl, if_pos rfl, hh]
      rfl
    · rw [if_neg e, if_neg (Ne.symm e)]
  have hsz : (putRow id (Go.Sort.ahead w n) b 0 (flatK enc k ys.toArray)).heap.size = w.heap.size := by simp [putRow, mapBlock, Go.Sort.ahead]
  have hheap2 : ∀ g', g' < w.heap.size → (grow (putRow id (Go.Sort.ahead w n) b 0 (flatK enc k ys.toArray)) os).heap[g']? = if g' = b then some (.cells (putCells id 0 (flatK enc k ys.toArray) cur) ty (0, 0)) else w.heap[g']? := by
    intro g' hg'
    simp only [grow]
    rw [Array.getElem?_append_left (by rw [hsz]; exact hg')]
    exact hheap g'
  have hsz2 : w.heap.size ≤ (grow (putRow id (Go.Sort.ahead w n) b 0 (flatK enc k ys.toArray)) os).heap.size := by
    simp only [grow, Array.size_append, hsz]
    omega
  refine ⟨_, φ, fp, .tup [], _, ⟨rfl, ys, hperm, hpair, rfl⟩, rfl, ⟨⟨rfl, rfl, rfl, hsz2, fun g' hg' hn' => ?_⟩, fun m => ?_, hH.disj, fun m g' hg' => ⟨Nat.lt_of_lt_of_le (hH.lt m g' hg') hsz2, .inl ⟨m, hg'⟩⟩, fun _ _ => rfl, .tup _ rfl fun j x hx => by simp at hx⟩⟩
  · show (grow (putRow id (Go.Sort.ahead w n) b 0 (flatK enc k ys.toArray)) os).heap[g']? = _
    rw [hheap2 g' hg', if_neg]
    rintro rfl
    exact hn' ⟨1000011, (hF g').2 (by rw [hv]; rfl)⟩
  · by_cases em : m = 1000011
    · subst em
      simp only [getM, if_true]
      refine ⟨(flatK enc k ys.toArray).toList, .inl ⟨⟨by simp, .inr ⟨b, cap, putCells id 0 (flatK enc k ys.toArray) cur, ?_, Nat.zero_le _, ?_, ?_, hcm, ?_, ?_⟩⟩, hF⟩, by simp [hyl]; omega, ?_, fun i j e x he hx => ?_⟩
      · rw [hv]
        simp [hyl]
      · show (grow (putRow id (Go.Sort.ahead w n) b 0 (flatK enc k ys.toArray)) os).heap[b]? = _
        rw [hheap2 b hglt, if_pos rfl]
      · simp [hyl]
        exact hle
      · simp [putCells, hcs]
      · apply List.ext_getElem?
        intro i
        have hcursz : xs.length * k ≤ cur.size := by rw [hcs]; exact Nat.mul_le_mul_right k hle
        have hyk : ys.length * k = xs.length * k := by rw [hyl]
        by_cases hi : i < xs.length * k
        · rw [List.getElem?_take_of_lt (by simp [hyl]; exact hi)]
          have hic : i < cur.size := by omega
          have hi2 : i < (flatK enc k ys.toArray).size := by omega
          simp [putCells, hic, hi2, hyk, hi]
        · rw [List.getElem?_eq_none (by simp [hyl]; omega), List.getElem?_eq_none (by simp [hyl]; omega)]
      · intro e he
        obtain ⟨y, _, rfl⟩ := List.mem_map.1 he
        simp [hk]
      · rw [List.getElem?_map] at he
        obtain ⟨y, hy, rfl⟩ := Option.map_eq_some_iff.1 he
        obtain ⟨hi, rfl⟩ := List.getElem?_eq_some_iff.1 hy
        rw [List.getElem?_map] at hx
        obtain ⟨v, hv2, rfl⟩ := Option.map_eq_some_iff.1 hx
        obtain ⟨hj, rfl⟩ := List.getElem?_eq_some_iff.1 hv2
        have hjk : j < k := by rw [hk] at hj; exact hj
        obtain ⟨dm1, dm2⟩ := divmod (i := i) hjk
        have hlt : i * k + j < xs.length * k := by
          have := Nat.mul_le_mul_right k (show i + 1 ≤ xs.length by omega)
          rw [Nat.add_mul, Nat.one_mul] at this
          omega
        obtain ⟨q1, q2, q3⟩ := hflat ys (i * k + j) hyl hlt
        have e3 : (flatK enc k ys.toArray).toList.getD (i * k + j) Go.undef = (enc ys[i])[j] := by
          have : (flatK enc k ys.toArray).toList.getD (i * k + j) Go.undef = (flatK enc k ys.toArray)[i * k + j]! := by
            rw [getElem!_pos _ _ (by omega), List.getD_eq_getElem?_getD, Array.getElem?_toList, Array.getElem?_eq_getElem (by omega)]
            rfl
          rw [this, q3]
          simp only [dm1, dm2]
        rw [e3]
        exact .v _
    · have := hH.res m
      have e1 : ∀ zs : List (List TL), getM [(1000011, Res.row ty k Kind.ro zs)] m = .dead := fun zs => by simp [Ne.symm em]
      rw [e1] at this
      rw [e1]
      exact this
end Go.Proofs.Ytmneioafbkknhaa
/- PB56: sums, sorted. -/
namespace Go.Proofs.Ytmneioafbkknhaa
open Go Go.PS Go.RowKit Go.Sort Go.Shelf
/-- A sum, and of which lines it is made. -/
abbrev Sm := Fin 256 × Bool × Nat
def encS (x : Sm) : List Value := [.int .i64 (x.1.val : Int), .int .i64 (eb x.2.1), .int .i64 (x.2.2 : Int)]
def cfS (x y : Sm) : Int := (y.1.val : Int) - (x.1.val : Int)
theorem closure91 (x y : Sm) (W : World) : Calls Try.prog 91 #[.agg (encS x).toArray, .agg (encS y).toArray] W fun e w' => e = .returned (.int .i64 (cfS x y)) ∧ ∃ q os', w' = grow (W.drewN q) os' := by
  have hw : IntKind.i64.wrap ((y.1.val : Int) - (x.1.val : Int)) = cfS x y := wr (by omega) (by omega)
  unfold encS
  generalize cfS x y = r at hw ⊢
  go_enter Try.func91, Try.ntmps91
  go_wp2
  go_ret
  exact ⟨rfl, 0, _, by rw [alloc_eq_grow, alloc_eq_grow, grow_grow]; rfl⟩
theorem cmpLays91 (blk off size : Nat) (w : World) : CmpLays Try.prog 91 #[] encS 3 cfS blk off size w := fun _ _ _ _ x y => closure91 x y _
theorem ltS (x y : Sm) : ltOf cfS x y = decide (y.1.val < x.1.val) := by
  unfold ltOf cfS
  by_cases h : y.1.val < x.1.val
  · rw [decide_eq_true h, decide_eq_true (by omega)]
  · rw [decide_eq_false h, decide_eq_false (by omega)]
theorem swoS : SWO (ltOf cfS) where
  irrefl x := by rw [ltS]; simp
  trans x y z h1 h2 := by rw [ltS] at *; simp at *; omega
  ntrans x y z h1 h2 := by rw [ltS] at *; simp at *; omega
@[simp] def cSm (x : Sm) : List TL := [eI (x.1.val : Int), eI (eb x.2.1), eI (x.2.2 : Int)]
theorem sortS_spec (xs : List Sm) (hx : xs ≠ []) :
    ECallP Try.prog 90 [.osl 1000011, .clo 91 []] [(1000011, .row 119 3 .ro (xs.map cSm))] fun r M' => r = .tup [] ∧ ∃ ys : List Sm, xs.Perm ys ∧ ys.Pairwise (fun a b => b.1.val ≤ a.1.val) ∧ M' = [(1000011, .row 119 3 .ro (ys.map cSm))] := by
  have eg : ∀ args w, (callFunc 91 args).run Try.prog w = .ok (.enter 91 args) w := enters_of Try.func91 (by kernel_rfl) rfl
  have h := sortRow_spec (P := Try.prog) (f := 90) (g := 91) (ty := 119) (k := 3) encS (fun _ => rfl) (ltOf cfS) call90 (fun blk cap d w hH hb hsz =>
    AnyQ.slices_SortFunc Try.laysF6 3 Try.isAgg119 Try.sizeOf119 encS (fun _ => rfl) (fun x v hv => by simp [encS] at hv; rcases hv with rfl | rfl | rfl <;> rfl) cfS swoS 91 #[] blk 0 cap d w eg (cmpLays91 blk 0 d.size w) hH hb hsz) xs hx
  refine ⟨h.1, fun w S φ fp vals hH => (h.2 w S φ fp vals hH).mono ?_⟩
  rintro e w' ⟨v, φ', fp', r, M', ⟨hr, ys, hp, hs, hM⟩, he, hB⟩
  refine ⟨v, φ', fp', r, M', ⟨hr, ys, hp, hs.imp fun {a b} hab => ?_, hM⟩, he, hB⟩
  rw [ltS] at hab
  simpa using hab
end Go.Proofs.Ytmneioafbkknhaa
/- PB57: Odd of the program. -/
namespace Go.Proofs.Ytmneioafbkknhaa
open Go Go.PS
attribute [-simp] List.map_take
theorem trep_sum {w : World} {S S' : Nat → Prop} {a b c d : Value} {v : Value} (h : TRep w S (.tup [.agg [.v a, .v b, .v c], .v d]) v) : TRep w S' (.tup [.agg [.v a, .v b, .v c], .v d]) v := by
  cases h with
  | tup vs hs hrep =>
    refine .tup vs hs fun j x hx => ?_
    have h1 := hrep j x hx
    match j, hx with
    | 0, hx =>
      simp at hx
      subst hx
      generalize vs.getD 0 undef = u0 at h1 ⊢
      cases h1 with
      | agg us hu hr =>
        refine .agg us hu fun i y hy => ?_
        have h2 := hr i y hy
        match i, hy with
        | 0, hy => simp at hy; subst hy; rw [h2.v_inv]; exact .v _
        | 1, hy => simp at hy; subst hy; rw [h2.v_inv]; exact .v _
        | 2, hy => simp at hy; subst hy; rw [h2.v_inv]; exact .v _
        | i + 3, hy => simp at hy
    | 1, hx => simp at hx; subst hx; rw [h1.v_inv]; exact .v _
    | j + 2, hx => simp at hx
theorem line_fz (p : Pz) (l : Ln) (hg : goodP p = true) : PCall Try.prog 89 [ePz p, eLn l] (.t .fz (lineT p l)) [] := by
  have h := line_spec p l hg
  refine ⟨h.1, fun w S vals a b c => (h.2 w S vals a b c).mono ?_⟩
  rintro e w' ⟨v, φ, fp, h1, h2, h3, h4, h5, h6⟩
  refine ⟨v, φ, fp, h1, h2, h3, h4, h5, .t ?_⟩
  have h7 := h6.t_inv
  rw [lineT] at h7 ⊢
  split
  · rename_i hk
    rw [if_pos hk] at h7
    exact trep_sum h7
  · rename_i hk
    rw [if_neg hk] at h7
    exact trep_sum h7
theorem red_snoc (B : List V2) (b x : V2) : red (B ++ [b]) x = if (red B x).1 ^^^ b.1 < (red B x).1 then vx (red B x) b else red B x := by
  rw [red, List.foldl_append]
  rfl
def vS (x : Sm) : V2 := (x.1.val, x.2.1)
/-- What Odd keeps on its way. -/
structure OddI (p : Pz) (i k : Int) (L : List Ln) (B : List Sm) : Prop where
  ok : ∀ l ∈ L, lnOk p l = true
  len : L.length = B.length
  desc : Desc (B.map vS)
  lt : ∀ x ∈ B, x.1.val < 2 ^ p.vars.toNat
  cmb : ∀ x ∈ B, x.2.2 < 2 ^ L.length ∧ comb (lvec p) L x.2.2 0 = vS x
  spn : ∀ l, lnOk p l = true → (l.cons < i ∨ (l.cons = i ∧ l.mask < k)) → Spn (B.map vS) (lvec p l)
theorem OddI.len8 {p : Pz} (hg : goodP p = true) {i k : Int} {L : List Ln} {B : List Sm} (h : OddI p i k L B) : L.length ≤ 8 := by
  have hv := vars_le hg
  have := desc_len (B.map vS) p.vars.toNat h.desc fun y hy => by
    obtain ⟨x, hx, rfl⟩ := List.mem_map.1 hy
    exact h.lt x hx
  rw [List.length_map, ← h.len] at this
  omega
/-- The sum of the lines that are selected. -/
theorem sumF_sel {p : Pz} (hg : goodP p = true) (m : Nat) : ∀ (L : List Ln) (i v : Nat) (s : Bool), (∀ l ∈ L, lnOk p l = true) → v < 256 → sumF p (sel L m i) v s = some ((((vx (v, s) (comb (lvec p) L m i)).1 : Nat) : Int), (vx (v, s) (comb (lvec p) L m i)).2)
  | [], i, v, s, _, _ => by simp [sel, sumF, comb, vx]
  | l :: L, i, v, s, hok, hv => by
    have hv8 := vars_le hg
    have ih := fun v s hv => sumF_sel hg m L (i + 1) v s (fun k hk => hok k (by simp [hk])) hv
    rw [sel, comb]
    cases hb : m.testBit i with
    | false => exact ih v s hv
    | true =>
      rw [if_pos rfl, if_pos rfl, sumF, if_pos (hok l (by simp))]
      obtain ⟨u, hu, hu8, _⟩ := lnV_nat hg (hok l (by simp))
      have hp8 : 2 ^ p.vars.toNat ≤ 2 ^ 8 := Nat.pow_le_pow_right (by decide) (by omega)
      have hx : v ^^^ u < 2 ^ 8 := Nat.xor_lt_two_pow hv (by omega)
      rw [hu, xorI_nat v u (by omega) (by omega), ih _ _ hx]
      have e : vx (v, s) (vx (lvec p l) (comb (lvec p) L m (i + 1))) = vx (v ^^^ u, s ^^ lnS p l) (comb (lvec p) L m (i + 1)) := by
        rw [← vx_assoc, lvec, hu, Int.toNat_natCast]
        rfl
      rw [e]
theorem oddF_sel {p : Pz} (hg : goodP p = true) {L : List Ln} {m : Nat} (hok : ∀ l ∈ L, lnOk p l = true) (hl : L.length ≤ 40) (hc : comb (lvec p) L m 0 = (0, true)) : oddF p (sel L m 0) = true := by
  have h1 := sel_len m L 0
  have h2 := sumF_sel hg m L 0 0 false hok (by decide)
  rw [hc] at h2
  rw [oddF, decide_eq_true (by omega), Bool.true_and]
  have h3 : sumF p (sel L m 0) 0 false = some (0, true) := h2
  rw [h3]
  rfl
/-- An odd proof has no solution. -/
theorem sumF_dot {p : Pz} (hg : goodP p = true) {s : Nat} (hs : ∀ l, lnOk p l = true → dotK 8 s (lvec p l).1 = (lvec p l).2) : ∀ (L : List Ln) (v : Nat) (b : Bool) (w : Int × Bool), v < 256 → dotK 8 s v = b → sumF p L v b = some w → dotK 8 s w.1.toNat = w.2
  | [], v, b, w, _, h, hw => by
    rw [sumF] at hw
    cases hw
    simpa using h
  | l :: L, v, b, w, hv, h, hw => by
    rw [sumF] at hw
    split at hw
    · rename_i hok
      have hv8 := vars_le hg
      obtain ⟨u, hu, hu8, _⟩ := lnV_nat hg hok
      have hp8 : 2 ^ p.vars.toNat ≤ 2 ^ 8 := Nat.pow_le_pow_right (by decide) (by omega)
      have hx : v ^^^ u < 2 ^ 8 := Nat.xor_lt_two_pow hv (by omega)
      rw [hu, xorI_nat v u (by omega) (by omega)] at hw
      refine sumF_dot hg hs L _ _ w hx ?_ hw
      have h1 := hs l hok
      rw [lvec, hu, Int.toNat_natCast] at h1
      rw [dot_xor, h, h1]
    · cases hw
theorem oddF_none {p : Pz} (hg : goodP p = true) {L : List Ln} (h : oddF p L = true) {s : Nat} (hs : ∀ l, lnOk p l = true → dotK 8 s (lvec p l).1 = (lvec p l).2) : False := by
  rw [oddF, Bool.and_eq_true] at h
  cases hF : sumF p L 0 false with
  | none => rw [hF] at h; simp [endF] at h
  | some w =>
    rw [hF, endF] at h
    have := sumF_dot hg hs L 0 false w (by decide) (dot_zero _ _) hF
    obtain ⟨v, b⟩ := w
    simp at h
    obtain ⟨_, rfl, rfl⟩ := h
    simp [dot_zero] at this
/-- What Odd has found. -/
def OddPost (p : Pz) (r : PV) (M : List (Nat × Res)) : Prop :=
  (∃ out : List Ln, r = .tup [.osl 12, pI 0] ∧ M = [(12, .row 123 2 .fz (out.map cLn))] ∧ oddF p out = true) ∨
  (r = .tup [.t .fz (.v (.slice none 0 0)), pI 4] ∧ M = [] ∧ ∃ s : Nat, s < 2 ^ p.vars.toNat ∧ ∀ l, lnOk p l = true → dotK 8 s (lvec p l).1 = (lvec p l).2)
theorem podd_spec (p : Pz) (hg : goodP p = true) : ECallP Try.prog 51 [.t .ro (ePz p)] [] (OddPost p) := by
  have hv := vars_le hg
  have hp8 : 2 ^ p.vars.toNat ≤ 2 ^ 8 := Nat.pow_le_pow_right (by decide) (by omega)
  have h12 : p.cons.length ≤ 12 := by
    simp only [goodP, Bool.and_eq_true, decide_eq_true_eq] at hg
    exact hg.1.1.2
  refine ecallP_wp Try.func51 rfl (by kernel_rfl) ?_
  simp -dsimp
  first
    | refine CallG.by (pvalid_spec p) ?_
    | refine CallGE.by (pvalid_spec p) ?_
    | refine CallGB.by (pvalid_spec p) ?_
  simp -dsimp [hg]
  refine lg_adoptT 4 4 123 2 (by simp; rfl) (by simp) ?_
  refine lg_adoptT 5 5 119 3 (by simp; rfl) (by simp) ?_
  have hI0 : OddI p 0 1 [] [] := ⟨(by simp), rfl, trivial, (by simp), (by simp), fun l hl h => by
    have hk := hl
    simp only [lnOk, Bool.and_eq_true, decide_eq_true_eq] at hk
    omega⟩
  refine wk_loop (fun q : Nat × List Ln × List Sm × Kind => ⟨[(21, pI q.1), (20, pI p.cons.length), (19, .t .ro (eCns p.cons)), (5, .osl 5), (4, .osl 4), (1, .ptr 1 0)],
      [(5, .row 119 3 q.2.2.2 (q.2.2.1.map cSm)), (4, .row 123 2 .fz (q.2.1.map cLn)), (1, .blk 32 [.t .ro (eI p.vars), .t .ro (eRls p.rels), .t .ro (eCns p.cons)])]⟩)
    (fun q => q.1 ≤ p.cons.length ∧ OddI p q.1 1 q.2.1 q.2.2.1) (fun q => p.cons.length - q.1) (0, [], [], .fz) (le_of (by simp) (by simp)) ⟨by simp, hI0⟩ fun ⟨i, L, B, kd⟩ ⟨hi, hI⟩ => ?_
  dsimp only at hi hI
  simp -dsimp
  refine condX_dec (fun h => ?_) (fun h => ?_)
  rotate_left
  · have e : i = p.cons.length := by omega
    subst e
    obtain ⟨s, hs, hS⟩ := desc_solve p.vars.toNat (by omega) (B.map vS) hI.desc fun y hy => by
      obtain ⟨x, hx, rfl⟩ := List.mem_map.1 hy
      exact hI.lt x hx
    have hfin : ∃ s : Nat, s < 2 ^ p.vars.toNat ∧ ∀ l, lnOk p l = true → dotK 8 s (lvec p l).1 = (lvec p l).2 := ⟨s, hs, fun l hl => hS.spn (hI.spn l hl (by
      have hk := hl
      simp only [lnOk, Bool.and_eq_true, decide_eq_true_eq] at hk
      omega))⟩
    simp -dsimp
    exact retEP_c (.tup [.t .fz (.v (.slice none 0 0)), pI 4]) [] (.inr ⟨rfl, rfl, hfin⟩) (by simp) (by simp)
  have hw := wr (n := (i : Int) + 1) (by omega) (by omega)
  simp -dsimp [h]
  refine wk_loop (fun q : Nat × List Ln × List Sm × Kind => ⟨[(7, pI q.1), (6, pI i), (21, pI i), (20, pI p.cons.length), (19, .t .ro (eCns p.cons)), (5, .osl 5), (4, .osl 4), (1, .ptr 1 0)],
      [(5, .row 119 3 q.2.2.2 (q.2.2.1.map cSm)), (4, .row 123 2 .fz (q.2.1.map cLn)), (1, .blk 32 [.t .ro (eI p.vars), .t .ro (eRls p.rels), .t .ro (eCns p.cons)])]⟩)
    (fun q => 1 ≤ q.1 ∧ q.1 ≤ 8 ∧ OddI p i q.1 q.2.1 q.2.2.1) (fun q => 8 - q.1) (1, L, B, kd) (le_of (by simp) (by simp)) ⟨by simp, by simp, hI⟩ fun ⟨k, L1, B1, kd1⟩ ⟨hk1, hk8, hI1⟩ => ?_
  dsimp only at hk1 hk8 hI1
  simp -dsimp
  refine condX_dec (fun hkl => ?_) (fun hkl => ?_)
  rotate_left
  · have e : k = 8 := by omega
    subst e
    have hI2 : OddI p ((i + 1 : Nat) : Int) 1 L1 B1 := ⟨hI1.ok, hI1.len, hI1.desc, hI1.lt, hI1.cmb, fun l hl hh => hI1.spn l hl (by
      obtain ⟨c, hc⟩ := lnI hg hl
      have hk := hl
      simp only [lnOk, Bool.and_eq_true, decide_eq_true_eq] at hk
      have hci := consI hg hc.mem
      obtain ⟨m, hm, hm2⟩ := hc.mn
      have : 2 ^ c.vars.length ≤ 2 ^ 3 := Nat.pow_le_pow_right (by decide) hci.len
      omega)⟩
    simp -dsimp [hw]
    exact LoopP_next (i + 1, L1, B1, kd1) (le_of (by simp) (by simp)) ⟨h, hI2⟩ (by simp only; omega)
  have hwk := wr (n := (k : Int) + 1) (by omega) (by omega)
  have hL8 := hI1.len8 hg
  have hlen := hI1.len
  have hext : ∀ {L' : List Ln} {B' : List Sm}, OddI p i k L' B' → (lnOk p ⟨i, k⟩ = true → Spn (B'.map vS) (lvec p ⟨i, k⟩)) → OddI p i ((k + 1 : Nat) : Int) L' B' := fun {L' B'} hh hs => ⟨hh.ok, hh.len, hh.desc, hh.lt, hh.cmb, fun l hl hc => by
    by_cases e : l.cons = i ∧ l.mask = k
    · obtain ⟨e1, e2⟩ := e
      have : l = ⟨i, k⟩ := by cases l; simp only at e1 e2; rw [e1, e2]
      rw [this]
      rw [this] at hl
      exact hs hl
    · exact hh.spn l hl (by omega)⟩
  simp -dsimp [hkl]
  first
    | refine CallG.by (line_fz p ⟨i, k⟩ hg) ?_
    | refine CallGE.by (line_fz p ⟨i, k⟩ hg) ?_
    | refine CallGB.by (line_fz p ⟨i, k⟩ hg) ?_
  cases hok : lnOk p ⟨i, k⟩ with
  | false =>
    rw [lineT, hok, if_neg (by simp)]
    simp -dsimp [hwk]
    exact LoopP_next (k + 1, L1, B1, kd1) (le_of (by simp) (by simp)) ⟨by simp only; omega, by simp only; omega, hext hI1 (by rw [hok]; simp)⟩ (by simp only; omega)
  | true =>
    rw [lineT, hok, if_pos rfl]
    obtain ⟨v0, hv0, hv0n, _⟩ := lnV_nat hg hok
    obtain ⟨N, hN⟩ : ∃ N : Nat, 2 ^ L1.length = N := ⟨_, rfl⟩
    have hN9 : 2 ^ (L1.length + 1) = 2 * N := by rw [Nat.pow_succ, hN, Nat.mul_comm]
    have hN512 : 2 * N ≤ 512 := by
      rw [← hN9]
      exact Nat.pow_le_pow_right (n := 2) (by decide) (by omega : L1.length + 1 ≤ 9)
    have hsh : shlI 1 L1.length = (N : Int) := by rw [shl1 _ (by omega), hN]
    have hlv : lvec p ⟨i, k⟩ = (v0, lnS p ⟨i, k⟩) := by rw [lvec, hv0, Int.toNat_natCast]
    have hL0 : (0 : Int) ≤ (L1.length : Int) := by omega
    have hv256 : v0 < 256 := by omega
    generalize hln : (⟨(i : Int), (k : Int)⟩ : Ln) = ln at *
    have hc0 : comb (lvec p) (L1 ++ [ln]) N 0 = lvec p ln := by
      have hz : ∀ (L : List Ln) (j : Nat), j + L.length ≤ L1.length → comb (lvec p) L N j = (0, false) := by
        intro L
        induction L with
        | nil => exact fun _ _ => rfl
        | cons a L ih =>
          intro j hj
          simp only [List.length_cons] at hj
          rw [comb, ← hN, Nat.testBit_two_pow, decide_eq_false (by omega), if_neg (by simp), hN]
          exact ih (j + 1) (by omega)
      rw [comb_snoc, Nat.zero_add, ← hN, Nat.testBit_two_pow, decide_eq_true rfl, if_pos rfl, hN, hz L1 0 (by omega), vx_comm, vx_zero]
    simp -dsimp [hv0, hsh, hL0]
    refine wk_loop (fun q : Nat × Nat × Bool × Nat => ⟨[(44, pI q.1), (43, pI B1.length), (42, .osl 5), (8, .ptr 8 0), (7, pI k), (6, pI i), (21, pI i), (20, pI p.cons.length), (19, .t .ro (eCns p.cons)), (5, .osl 5), (4, .osl 4), (1, .ptr 1 0)],
        [(8, .blk 119 [.t .fz (eI q.2.1), .t .fz (eI (eb q.2.2.1)), .t .fz (eI q.2.2.2)]), (5, .row 119 3 kd1 (B1.map cSm)), (4, .row 123 2 .fz (L1.map cLn)), (1, .blk 32 [.t .ro (eI p.vars), .t .ro (eRls p.rels), .t .ro (eCns p.cons)])]⟩)
      (fun q => q.1 ≤ B1.length ∧ (q.2.1, q.2.2.1) = red ((B1.map vS).take q.1) (lvec p ln) ∧ q.2.2.2 < 2 * N ∧ comb (lvec p) (L1 ++ [ln]) q.2.2.2 0 = (q.2.1, q.2.2.1) ∧ q.2.1 < 256) (fun q => B1.length - q.1) (0, v0, lnS p ln, N) (le_of (by simp) (by simp)) ⟨by simp, hlv.symm, by simp only; have := Nat.pow_pos (n := L1.length) (show 0 < 2 by decide); omega, by rw [hc0, hlv], hv256⟩ fun ⟨j, v, s, m⟩ ⟨hj, hr, hm, hcm, hv2⟩ => ?_
    dsimp only at hj hr hm hcm hv2
    simp -dsimp
    refine condX_dec (fun hjl => ?_) (fun hjl => ?_)
    · have hwj := wr (n := (j : Int) + 1) (by omega) (by omega)
      obtain ⟨b, hb⟩ : ∃ b, b = B1[j] := ⟨_, rfl⟩
      have hbm : b ∈ B1 := by rw [hb]; exact List.getElem_mem hjl
      obtain ⟨hbm1, hbm2⟩ := hI1.cmb b hbm
      have hb256 := b.1.isLt
      rw [hN] at hbm1
      have hx1 := xorI_nat v b.1.val (by omega) (by omega)
      have hx2 := xorI_nat m b.2.2 (by omega) (by omega)
      have hvx : v ^^^ b.1.val < 2 ^ 8 := Nat.xor_lt_two_pow hv2 hb256
      have hmx : m ^^^ b.2.2 < 2 * N := by
        rw [← hN9] at hm ⊢
        exact Nat.xor_lt_two_pow hm (by omega)
      have hcb : comb (lvec p) (L1 ++ [ln]) b.2.2 0 = vS b := by
        rw [comb_snoc, Nat.zero_add, Nat.testBit_lt_two_pow (by omega), if_neg (by simp)]
        exact hbm2
      have hred : red ((B1.map vS).take (j + 1)) (lvec p ln) = if v ^^^ b.1.val < v then vx (v, s) (vS b) else (v, s) := by
        rw [take_snoc _ (by simpa using hjl), red_snoc, ← hr]
        simp only [List.getElem_map, ← hb]
        rfl
      simp -dsimp [hjl, ← hb, hx1, hx2, xor_eb]
      refine condX_dec (fun hlt => ?_) (fun hlt => ?_)
      · rw [if_pos hlt] at hred
        simp -dsimp [hx1, hx2, xor_eb, hwj]
        exact LoopP_next (j + 1, v ^^^ b.1.val, s ^^ b.2.1, m ^^^ b.2.2) (le_of (by simp) (by simp)) ⟨hjl, by rw [hred]; rfl, hmx, by rw [comb_xor, hcm, hcb]; rfl, hvx⟩ (by simp only; omega)
      · rw [if_neg hlt] at hred
        simp -dsimp [hwj]
        exact LoopP_next (j + 1, v, s, m) (le_of (by simp) (by simp)) ⟨hjl, by rw [hred], hm, hcm, hv2⟩ (by simp only; omega)
    · have ej : j = B1.length := by omega
      subst ej
      rw [List.take_of_length_le (by simp)] at hr
      have hsp := red_spn (B1.map vS) (lvec p ln)
      rw [← hr] at hsp
      have hbits := red_bit (B1.map vS) (lvec p ln) hI1.desc
      rw [← hr] at hbits
      have hrn : v < 2 ^ p.vars.toNat := by
        have := red_lt p.vars.toNat (B1.map vS) (lvec p ln) (fun y hy => by
          obtain ⟨x, hx, rfl⟩ := List.mem_map.1 hy
          exact hI1.lt x hx) (by rw [hlv]; exact hv0n)
        rw [← hr] at this
        exact this
      have hb1 : (L1.length + 1) * 16 ≤ 140737488355328 := by omega
      have hb2 : (B1.length + 1) * 24 ≤ 140737488355328 := by omega
      have hokA : ∀ l ∈ L1 ++ [ln], lnOk p l = true := fun l hl => by
        rcases List.mem_append.1 hl with hl | hl
        · exact hI1.ok l hl
        · rw [List.mem_singleton.1 hl]
          exact hok
      by_cases hv : v = 0
      · subst hv
        cases s with
        | false =>
          have hspn : Spn (B1.map vS) (lvec p ln) := by rwa [vx_zero] at hsp
          simp -dsimp [eb, hwk]
          exact LoopP_next (k + 1, L1, B1, kd1) (le_of (by simp) (by simp)) ⟨by simp only; omega, by simp only; omega, hext hI1 fun _ => hspn⟩ (by simp only; omega)
        | true =>
          have hodd := oddF_sel hg hokA (by simp; omega) hcm
          obtain ⟨LL, hLL⟩ : ∃ LL, LL = L1 ++ [ln] := ⟨_, rfl⟩
          have hLl : LL.length = L1.length + 1 := by rw [hLL]; simp
          rw [← hLL] at hodd
          simp -dsimp [eb, hb1]
          refine lg_adoptT 12 12 123 2 (by simp; rfl) (by simp) ?_
          refine wk_loop (fun j : Nat => ⟨[(92, pI j), (91, pI ((L1.length : Int) + 1)), (90, .osl 4), (12, .osl 12), (8, .ptr 8 0)], [(12, .row 123 2 .fz ((sel (LL.take j) m 0).map cLn)), (8, .blk 119 [.t .fz (eI 0), .t .fz (eI 1), .t .fz (eI m)]), (4, .row 123 2 .fz (LL.map cLn))]⟩)
            (fun j => j ≤ LL.length) (fun j => LL.length - j) 0 (le_of (by simp) (by simp [sel, hLL, ← hln])) (by simp) fun j hj => ?_
          simp -dsimp
          refine condX_dec (fun hjl => ?_) (fun hjl => ?_)
          rotate_left
          · have ej : j = LL.length := by omega
            rw [List.take_of_length_le (by omega)]
            simp -dsimp
            exact retEP_c (.tup [.osl 12, pI 0]) [(12, .row 123 2 .fz ((sel LL m 0).map cLn))] (.inl ⟨sel LL m 0, rfl, rfl, hodd⟩) (by simp) (by simp)
          have hjl' : j < LL.length := by omega
          have hwj := wr (n := (j : Int) + 1) (by omega) (by omega)
          have hj0 : (0 : Int) ≤ (j : Int) := by omega
          have hbit := and1 m (by omega) j (by omega)
          have hss := sel_snoc m LL[j] (LL.take j) 0
          rw [← take_snoc _ hjl', List.length_take, Nat.min_eq_left (by omega), Nat.zero_add] at hss
          have hb3 : ((sel (LL.take j) m 0).length + 1) * 16 ≤ 140737488355328 := by
            have := sel_len m (LL.take j) 0
            rw [List.length_take] at this
            omega
          cases hmb : m.testBit j with
          | true =>
            rw [hmb, if_pos rfl] at hbit hss
            simp -dsimp [hjl', hj0, hbit, hb3, hwj]
            exact LoopP_next (j + 1) (le_of (by simp) (by simp [hss])) hjl' (by omega)
          | false =>
            rw [hmb, if_neg (by simp)] at hbit hss
            simp -dsimp [hjl', hj0, hbit, hwj]
            exact LoopP_next (j + 1) (le_of (by simp) (by simp [hss])) hjl' (by omega)
      · have hv' : ((v : Int) == 0) = false := by rw [beq_eq_false_iff_ne]; omega
        obtain ⟨x, hx⟩ : ∃ x : Sm, x = (⟨v, hv2⟩, s, m) := ⟨_, rfl⟩
        have hvx : vS x = (v, s) := by rw [hx]; rfl
        have hso := sortS_spec (B1 ++ [x]) (by simp)
        simp -dsimp [hv', hb1, hb2]
        first
          | refine CallG.onP (g := [(5, 1000011)]) hso (by decide) (by simp) (by simp [hx]) (by simp [Sg.bk]) fun r M' hP => ?_
          | refine CallN.onP (g := [(5, 1000011)]) hso (by decide) (by simp) (by simp [hx]) (by simp [Sg.bk]) fun r M' hP => ?_
        obtain ⟨rfl, ys, hperm, hpw, rfl⟩ := hP
        have hyl : ys.length = B1.length + 1 := by rw [← hperm.length_eq]; simp
        have hmem : ∀ y, y ∈ ys ↔ y ∈ B1 ∨ y = x := fun y => by rw [← hperm.mem_iff]; simp
        have hmp : ((B1 ++ [x]).map vS).Perm (ys.map vS) := hperm.map vS
        rw [List.map_append, List.map_singleton, hvx] at hmp
        have hdesc : Desc (ys.map vS) := by
          refine ((Piv.snoc hI1.desc (r := (v, s)) hv hbits).perm hmp).desc ?_
          rw [List.pairwise_map]
          exact hpw
        have hI2 : OddI p i k (L1 ++ [ln]) ys := by
          refine ⟨hokA, by simp; omega, hdesc, fun y hy => ?_, fun y hy => ?_, fun l hl hc => ?_⟩
          · rcases (hmem y).1 hy with h | rfl
            · exact hI1.lt y h
            · rw [hx]
              exact hrn
          · rw [List.length_append, List.length_singleton, hN9]
            rcases (hmem y).1 hy with h | rfl
            · obtain ⟨c1, c2⟩ := hI1.cmb y h
              refine ⟨by omega, ?_⟩
              rw [comb_snoc, Nat.zero_add, Nat.testBit_lt_two_pow c1, if_neg (by simp)]
              exact c2
            · rw [hvx, hx]
              exact ⟨hm, hcm⟩
          · refine (hI1.spn l hl hc).mono fun z hz => .of_mem ?_
            exact hmp.mem_iff.1 (List.mem_append_left _ hz)
        have hspn : Spn (ys.map vS) (lvec p ln) := by
          have h1 : Spn (ys.map vS) (vx (lvec p ln) (v, s)) := hsp.mono fun z hz => .of_mem (hmp.mem_iff.1 (List.mem_append_left _ hz))
          have h2 : Spn (ys.map vS) (v, s) := .of_mem (hmp.mem_iff.1 (by simp))
          have h3 := h1.vx h2
          rwa [vx_assoc, vx_self, vx_zero] at h3
        simp -dsimp [hwk]
        exact LoopP_next (k + 1, L1 ++ [ln], ys, .ro) (le_of (by simp) (by simp [← hln])) ⟨by simp only; omega, by simp only; omega, hext hI2 fun _ => hspn⟩ (by simp only; omega)
end Go.Proofs.Ytmneioafbkknhaa
/- PB58: Odd of the reference. -/
namespace Go.Proofs.Ytmneioafbkknhaa
open Go Go.PS
attribute [-simp] List.map_take
/-- The cells of a table of Bools. -/
def boolC (A : List Bool) : List PV := A.map fun v => .t .fz (.v (.bool v))
@[simp] theorem boolC_len (A : List Bool) : (boolC A).length = A.length := by simp [boolC]
@[simp] theorem boolC_get (A : List Bool) (i : Nat) : (boolC A)[i]? = (A[i]?).map fun v => .t .fz (.v (.bool v)) := by simp [boolC]
@[simp] theorem boolC_getE (A : List Bool) (i : Nat) (h : i < (boolC A).length) : (boolC A)[i] = .t .fz (.v (.bool (A[i]'(by simpa using h)))) := by simp [boolC]
@[simp] theorem boolC_set (A : List Bool) (i : Nat) (v : Bool) : (boolC A).set i (.t .fz (.v (.bool v))) = boolC (A.set i v) := by simp [boolC, List.map_set]
@[simp] theorem boolC_men (m : Nat) : ∀ A : List Bool, PV.menL m (boolC A) = false
  | [] => rfl
  | x :: A => boolC_men m A
@[simp] theorem boolC_mp (f : Nat → Option Nat) (nk : Bool) : ∀ A : List Bool, PV.mpL f nk (boolC A) = boolC A
  | [] => rfl
  | x :: A => by
    have := boolC_mp f nk A
    simp only [boolC, List.map_cons, PV.mpL, PV.mp] at this ⊢
    rw [this]
    cases nk <;> rfl
@[simp] theorem boolC_nm (b : Bool) (z : Nat) : ∀ A : List Bool, PV.nmL b z (boolC A) = true
  | [] => rfl
  | x :: A => boolC_nm b z A
@[simp] theorem boolC_ren (d : Nat) : ∀ A : List Bool, PV.renL d (boolC A) = boolC A
  | [] => rfl
  | x :: A => by
    have := boolC_ren d A
    simp only [boolC, List.map_cons, PV.renL, PV.ren] at this ⊢
    rw [this]
@[simp] theorem boolC_kill (m : Nat) (A : List Bool) : (boolC A).map (fun x => if x.men m then .undef else x) = boolC A := by
  simp [boolC, PV.men]
def c512 : Nat := 512
@[simp] theorem f_z130 : zT Try.prog 130 = some (List.replicate c512 (.bool false)) := by kernel_rfl
def zeroB : List Bool := List.replicate c512 false
@[simp] theorem boolC_zero : List.replicate c512 (PV.t .fz (.v (.bool false))) = boolC zeroB := by simp [boolC, zeroB]
theorem zeroB_len : zeroB.length = 512 := by simp [zeroB]; rfl
/-- A sum as a number. -/
def encN (w : V2) : Nat := w.1 ||| if w.2 then 256 else 0
def decN (x : Nat) : V2 := (x % 256, x.testBit 8)
theorem encN_bit {w : V2} (hw : w.1 < 256) (i : Nat) : (encN w).testBit i = if i < 8 then w.1.testBit i else (decide (i = 8) && w.2) := by
  rw [encN, Nat.testBit_or]
  have h8 : ∀ i, 8 ≤ i → w.1.testBit i = false := fun i hi => Nat.testBit_lt_two_pow (Nat.lt_of_lt_of_le hw (Nat.pow_le_pow_right (n := 2) (by decide) hi))
  have hp : ∀ i, (256 : Nat).testBit i = decide (8 = i) := fun i => Nat.testBit_two_pow (n := 8)
  by_cases h : i < 8
  · rw [if_pos h]
    cases w.2
    · simp
    · rw [if_pos rfl, hp, decide_eq_false (by omega), Bool.or_false]
  · rw [if_neg h, h8 i (by omega), Bool.false_or]
    cases w.2
    · simp
    · rw [if_pos rfl, hp]
      simp [eq_comm]
theorem encN_lt {w : V2} (hw : w.1 < 256) : encN w < 512 := by
  refine Nat.lt_pow_two_of_testBit (n := 9) _ fun i hi => ?_
  rw [encN_bit hw, if_neg (by omega), decide_eq_false (by omega)]
  rfl
theorem encN_vx {a b : V2} (ha : a.1 < 256) (hb : b.1 < 256) : encN (vx a b) = encN a ^^^ encN b := by
  apply Nat.eq_of_testBit_eq
  intro i
  have hx : (vx a b).1 < 2 ^ 8 := Nat.xor_lt_two_pow ha hb
  rw [encN_bit hx, Nat.testBit_xor, encN_bit ha, encN_bit hb]
  by_cases h : i < 8
  · rw [if_pos h, if_pos h, if_pos h, vx, Nat.testBit_xor]
  · rw [if_neg h, if_neg h, if_neg h, vx]
    cases decide (i = 8) <;> cases a.2 <;> cases b.2 <;> rfl
theorem decN_xor {x : Nat} {w : V2} (hw : w.1 < 256) : decN (x ^^^ encN w) = vx (decN x) w := by
  have e1 : (x ^^^ encN w) % 2 ^ 8 = x % 2 ^ 8 ^^^ w.1 := by
    apply Nat.eq_of_testBit_eq
    intro i
    rw [Nat.testBit_mod_two_pow, Nat.testBit_xor, Nat.testBit_xor, Nat.testBit_mod_two_pow, encN_bit hw]
    by_cases h : i < 8
    · simp [h]
    · have : w.1.testBit i = false := Nat.testBit_lt_two_pow (Nat.lt_of_lt_of_le hw (Nat.pow_le_pow_right (n := 2) (by decide) (by omega : 8 ≤ i)))
      simp [h, this]
  have e2 : (x ^^^ encN w).testBit 8 = (x.testBit 8 ^^ w.2) := by
    rw [Nat.testBit_xor, encN_bit hw]
    simp
  show ((x ^^^ encN w) % 256, _) = _
  rw [show (256 : Nat) = 2 ^ 8 from rfl, e1, e2]
  rfl
/-- All lines. -/
def allL (p : Pz) : List Ln := ((List.range p.cons.length).flatMap fun i : Nat => (List.range 8).map fun k : Nat => (⟨(i : Int), (k : Int)⟩ : Ln)).filter (lnOk p)
theorem allL_mem {p : Pz} (hg : goodP p = true) {l : Ln} : l ∈ allL p ↔ lnOk p l = true := by
  rw [allL, List.mem_filter]
  constructor
  · exact fun h => h.2
  · intro h
    refine ⟨?_, h⟩
    obtain ⟨c, hc⟩ := lnI hg h
    have hci := consI hg hc.mem
    obtain ⟨m, hm, hm2⟩ := hc.mn
    have h8 : 2 ^ c.vars.length ≤ 2 ^ 3 := Nat.pow_le_pow_right (by decide) hci.len
    have h1 := hc.c0
    have h2 := hc.cl
    rw [List.mem_flatMap]
    refine ⟨l.cons.toNat, List.mem_range.2 (by omega), List.mem_map.2 ⟨m, List.mem_range.2 (by omega), ?_⟩⟩
    cases l
    simp only at hm h1 ⊢
    rw [hm, Int.toNat_of_nonneg h1]
def lvs (p : Pz) : List V2 := (allL p).map (lvec p)
/-- Is there an odd proof? -/
noncomputable def oddX (p : Pz) : Bool := @decide (Spn (lvs p) (0, true)) (Classical.propDecidable _)
theorem oddX_iff (p : Pz) : oddX p = true ↔ Spn (lvs p) (0, true) := by simp [oddX]
theorem lvs_lt {p : Pz} (hg : goodP p = true) : ∀ y ∈ lvs p, y.1 < 256 := fun y hy => by
  obtain ⟨l, hl, rfl⟩ := List.mem_map.1 hy
  have hv := vars_le hg
  have hp8 : 2 ^ p.vars.toNat ≤ 2 ^ 8 := Nat.pow_le_pow_right (by decide) (by omega)
  obtain ⟨v, h1, h2, _⟩ := lnV_nat hg ((allL_mem hg).1 hl)
  rw [lvec, h1, Int.toNat_natCast]
  omega
theorem spn_lt {L : List V2} (h : ∀ y ∈ L, y.1 < 256) {x : V2} (hx : Spn L x) : x.1 < 256 := by
  induction hx with
  | zero => decide
  | add _ hm ih => exact Nat.xor_lt_two_pow (n := 8) ih (h _ hm)
/-- What the sums of the reference are, on its way. -/
structure SumsI (p : Pz) (F : List Bool) : Prop where
  len : F.length = 512
  zero : F.getD 0 false = true
  snd : ∀ x, x < 512 → F.getD x false = true → Spn (lvs p) (decN x)
def closedB (p : Pz) (F : List Bool) (l : Ln) : Prop := lnOk p l = true → ∀ x, x < 512 → F.getD x false = true → F.getD (x ^^^ encN (lvec p l)) false = true
theorem sums_fin {p : Pz} (hg : goodP p = true) {F : List Bool} (hF : SumsI p F) (hc : ∀ l, closedB p F l) : F.getD 256 false = oddX p := by
  have hcomp : ∀ w, Spn (lvs p) w → F.getD (encN w) false = true := fun w hw => by
    induction hw with
    | zero => exact hF.zero
    | @add a b ha hm ih =>
      have h1 := spn_lt (lvs_lt hg) ha
      have h2 := lvs_lt hg b hm
      rw [encN_vx h1 h2]
      obtain ⟨l, hl, rfl⟩ := List.mem_map.1 hm
      exact hc l ((allL_mem hg).1 hl) _ (encN_lt h1) ih
  cases h : oddX p with
  | true => exact hcomp _ ((oddX_iff p).1 h)
  | false =>
    cases h2 : F.getD 256 false with
    | false => rfl
    | true =>
      have := hF.snd 256 (by decide) h2
      rw [(oddX_iff p).2 this] at h
      cases h
def cntF (F : List Bool) : Nat := F.countP fun b => !b
theorem cnt_set : ∀ (F : List Bool) (i : Nat) (h : i < F.length), F[i] = false → cntF (F.set i true) < cntF F
  | b :: F, 0, h, hb => by
    simp only [List.getElem_cons_zero] at hb
    subst hb
    simp [cntF]
  | b :: F, i + 1, h, hb => by
    have := cnt_set F i (by simpa using h) (by simpa using hb)
    simp only [cntF, List.set_cons_succ, List.countP_cons] at this ⊢
    omega
theorem getD_set (F : List Bool) (i x : Nat) (h : i < F.length) : (F.set i true).getD x false = if i = x then true else F.getD x false := by
  rw [List.getD_eq_getElem?_getD]
  by_cases e : i = x
  · subst e
    rw [if_pos rfl, List.getElem?_set_self h]
    rfl
  · rw [if_neg e, List.getElem?_set_ne e, List.getD_eq_getElem?_getD]
theorem rodd_spec (p : Pz) (hg : goodP p = true) : PCall Try.prog 55 [ePz p] (pB (oddX p)) [] := by
  refine pcall_agg 0 2 rfl rfl call55 fun hlc => ?_
  simp only [List.length_map] at hlc
  have hzl := zeroB_len
  have h0l : 0 < zeroB.length := by omega
  have h1l : 1 ≤ zeroB.length := by omega
  refine pcall_wp _ Try.func55 rfl (by kernel_rfl) rfl ?_
  have hg0 : ∀ x, zeroB.getD x false = false := fun x => by
    rw [List.getD_eq_getElem?_getD, zeroB, List.getElem?_replicate]
    split <;> rfl
  have hS0 : SumsI p (zeroB.set 0 true) := ⟨by simp [hzl], by rw [getD_set _ _ _ h0l]; rfl, fun x _ hx => by
    rw [getD_set _ _ _ h0l, hg0] at hx
    split at hx
    · rename_i e
      subst e
      exact .zero
    · cases hx⟩
  generalize hF0 : zeroB.set 0 true = F00 at hS0
  simp -dsimp [hzl, h0l, h1l, hF0]
  refine wk_loop (fun q : List Bool × Bool => ⟨[(4, pB q.2), (3, .ptr 3 0), (1, .ptr 1 0)], [(3, .blk 130 (boolC q.1)), (1, .blk 25 [.t .ro (eI p.vars), .t .ro (eRls p.rels), .t .ro (eCns p.cons)])]⟩)
    (fun q => SumsI p q.1 ∧ (q.2 = false → ∀ l, closedB p q.1 l)) (fun q => 2 * cntF q.1 + q.2.toNat) (F00, true) (le_of (by simp) (by simp)) ⟨hS0, by simp⟩ fun ⟨F0, again⟩ ⟨hS, hcl⟩ => ?_
  dsimp only at hS hcl
  cases again with
  | false =>
    have hfin := sums_fin hg hS (hcl rfl)
    have h256 : 256 < F0.length := by rw [hS.len]; decide
    have hget : F0[256] = oddX p := by rw [← hfin, List.getD_eq_getElem?_getD, List.getElem?_eq_getElem h256]; rfl
    simp -dsimp [h256, hget]
    refine retP_c ?_
    simp -dsimp
  | true =>
    simp -dsimp
    refine wk_loop (fun q : Nat × List Bool × Bool => ⟨[(16, pI q.1), (15, pI p.cons.length), (14, .t .ro (eCns p.cons)), (4, pB q.2.2), (3, .ptr 3 0), (1, .ptr 1 0)], [(3, .blk 130 (boolC q.2.1)), (1, .blk 25 [.t .ro (eI p.vars), .t .ro (eRls p.rels), .t .ro (eCns p.cons)])]⟩)
      (fun q => q.1 ≤ p.cons.length ∧ SumsI p q.2.1 ∧ cntF q.2.1 ≤ cntF F0 ∧ (q.2.2 = true → cntF q.2.1 < cntF F0) ∧ (q.2.2 = false → ∀ l : Ln, l.cons < (q.1 : Int) → closedB p q.2.1 l)) (fun q => p.cons.length - q.1) (0, F0, false) (le_of (by simp) (by simp)) ⟨by simp, hS, Nat.le_refl _, by simp, fun _ l hl hok => by
        have hk := hok
        simp only [lnOk, Bool.and_eq_true, decide_eq_true_eq] at hk
        simp only at hl
        omega⟩ fun ⟨i, F1, ag⟩ ⟨hi, hS1, hc1, hlt1, hcl1⟩ => ?_
    dsimp only at hi hS1 hc1 hlt1 hcl1
    simp -dsimp
    refine condX_dec (fun h => ?_) (fun h => ?_)
    rotate_left
    · have e : i = p.cons.length := by omega
      subst e
      simp -dsimp
      refine LoopP_next (F1, ag) (le_of (by simp) (by simp)) ⟨hS1, fun hf l => fun hok => ?_⟩ ?_
      · have hk := hok
        simp only [lnOk, Bool.and_eq_true, decide_eq_true_eq] at hk
        exact hcl1 hf l (by omega) hok
      · simp only
        cases ag with
        | true =>
          have := hlt1 rfl
          simp only [Bool.toNat_true]
          omega
        | false =>
          simp only [Bool.toNat_true, Bool.toNat_false]
          omega
    have hwi := wr (n := (i : Int) + 1) (by omega) (by omega)
    simp -dsimp
    refine wk_loop (fun q : Nat × List Bool × Bool => ⟨[(6, pI q.1), (5, pI i), (16, pI i), (15, pI p.cons.length), (14, .t .ro (eCns p.cons)), (4, pB q.2.2), (3, .ptr 3 0), (1, .ptr 1 0)], [(3, .blk 130 (boolC q.2.1)), (1, .blk 25 [.t .ro (eI p.vars), .t .ro (eRls p.rels), .t .ro (eCns p.cons)])]⟩)
      (fun q => 1 ≤ q.1 ∧ q.1 ≤ 8 ∧ SumsI p q.2.1 ∧ cntF q.2.1 ≤ cntF F0 ∧ (q.2.2 = true → cntF q.2.1 < cntF F0) ∧ (q.2.2 = false → ∀ l : Ln, l.cons < i ∨ l.cons = i ∧ l.mask < (q.1 : Int) → closedB p q.2.1 l)) (fun q => 8 - q.1) (1, F1, ag) (le_of (by simp) (by simp)) ⟨by simp, by simp, hS1, hc1, hlt1, fun hf l hl hok => by
        have hk := hok
        simp only [lnOk, Bool.and_eq_true, decide_eq_true_eq] at hk
        simp only at hl
        exact hcl1 hf l (by omega) hok⟩ fun ⟨k, F2, ag2⟩ ⟨hk1, hk8, hS2, hc2, hlt2, hcl2⟩ => ?_
    dsimp only at hk1 hk8 hS2 hc2 hlt2 hcl2
    simp -dsimp
    refine condX_dec (fun hkl => ?_) (fun hkl => ?_)
    rotate_left
    · have e : k = 8 := by omega
      subst e
      simp -dsimp [hwi]
      refine LoopP_next (i + 1, F2, ag2) (le_of (by simp) (by simp)) ⟨h, hS2, hc2, hlt2, fun hf l hl hok => ?_⟩ (by simp only; omega)
      refine hcl2 hf l ?_ hok
      obtain ⟨c, hc⟩ := lnI hg hok
      have hci := consI hg hc.mem
      obtain ⟨m, hm, hm2⟩ := hc.mn
      have h8 : 2 ^ c.vars.length ≤ 2 ^ 3 := Nat.pow_le_pow_right (by decide) hci.len
      simp only at hl
      omega
    have hwk := wr (n := (k : Int) + 1) (by omega) (by omega)
    have hext : ∀ {F : List Bool}, (∀ l : Ln, l.cons < i ∨ l.cons = i ∧ l.mask < k → closedB p F l) → closedB p F ⟨i, k⟩ → ∀ l : Ln, l.cons < i ∨ l.cons = i ∧ l.mask < ((k + 1 : Nat) : Int) → closedB p F l := fun {F} h1 h2 l hl => by
      by_cases e : l.cons = i ∧ l.mask = k
      · obtain ⟨e1, e2⟩ := e
        have : l = ⟨i, k⟩ := by cases l; simp only at e1 e2; rw [e1, e2]
        rw [this]
        exact h2
      · exact h1 l (by omega)
    simp -dsimp
    first
      | refine CallG.by (rside_spec p ⟨i, k⟩ hg) ?_
      | refine CallGE.by (rside_spec p ⟨i, k⟩ hg) ?_
      | refine CallGB.by (rside_spec p ⟨i, k⟩ hg) ?_
    cases hok : lnOk p ⟨i, k⟩ with
    | false =>
      rw [sideT, hok, if_neg (by simp)]
      simp -dsimp [hwk]
      exact LoopP_next (k + 1, F2, ag2) (le_of (by simp) (by simp)) ⟨by simp only; omega, by simp only; omega, hS2, hc2, hlt2, fun hf => hext (hcl2 hf) (fun hh => by rw [hok] at hh; cases hh)⟩ (by simp only; omega)
    | true =>
      rw [sideT, hok, if_pos rfl]
      have hkk := hok
      simp only [lnOk, Bool.and_eq_true, decide_eq_true_eq] at hkk
      obtain ⟨v0, hv0, hv0n, _⟩ := lnV_nat hg hok
      have hlv : lvec p ⟨i, k⟩ = (v0, lnS p ⟨i, k⟩) := by rw [lvec, hv0, Int.toNat_natCast]
      simp -dsimp
      first
        | refine CallG.by (rtimes_spec p ⟨i, k⟩ hg hkk.1.1.1.1 hkk.1.1.1.2) ?_
        | refine CallGE.by (rtimes_spec p ⟨i, k⟩ hg hkk.1.1.1.1 hkk.1.1.1.2) ?_
        | refine CallGB.by (rtimes_spec p ⟨i, k⟩ hg hkk.1.1.1.1 hkk.1.1.1.2) ?_
      have hw256 : (lvec p ⟨i, k⟩).1 < 256 := by
        have hv := vars_le hg
        have hp8 : 2 ^ p.vars.toNat ≤ 2 ^ 8 := Nat.pow_le_pow_right (by decide) (by omega)
        rw [hlv]
        simp only
        omega
      have hEl := encN_lt hw256
      have hby : orI (v0 : Int) (shlI (eb (lnS p ⟨i, k⟩)) 8) = ((encN (lvec p ⟨i, k⟩) : Nat) : Int) := by
        have hs8 : shlI (eb (lnS p ⟨i, k⟩)) 8 = (((if lnS p ⟨i, k⟩ then 256 else 0 : Nat)) : Int) := by
          cases lnS p ⟨i, k⟩ <;> decide
        have : (if lnS p ⟨i, k⟩ then 256 else 0 : Nat) ≤ 256 := by split <;> omega
        rw [hlv] at hw256
        simp only at hw256
        rw [hs8, orI_nat v0 _ (by omega) (by omega), hlv]
        rfl
      have hmemL : lvec p ⟨i, k⟩ ∈ lvs p := List.mem_map_of_mem ((allL_mem hg).2 hok)
      have hdec : ∀ x, decN (x ^^^ encN (lvec p ⟨i, k⟩)) = vx (decN x) (lvec p ⟨i, k⟩) := fun x => decN_xor hw256
      have hclo : ∀ F, (∀ x, x < 512 → F.getD x false = true → F.getD (x ^^^ encN (lvec p ⟨i, k⟩)) false = true) → closedB p F ⟨i, k⟩ := fun F hF _ => hF
      simp -dsimp [hv0, hby]
      generalize encN (lvec p ⟨i, k⟩) = E at *
      refine wk_loop (fun q : Nat × List Bool × Bool => ⟨[(41, pI q.1), (9, pI E), (6, pI k), (5, pI i), (16, pI i), (15, pI p.cons.length), (14, .t .ro (eCns p.cons)), (4, pB q.2.2), (3, .ptr 3 0), (1, .ptr 1 0)], [(3, .blk 130 (boolC q.2.1)), (1, .blk 25 [.t .ro (eI p.vars), .t .ro (eRls p.rels), .t .ro (eCns p.cons)])]⟩)
        (fun q => q.1 ≤ 512 ∧ SumsI p q.2.1 ∧ cntF q.2.1 ≤ cntF F0 ∧ (q.2.2 = true → cntF q.2.1 < cntF F0) ∧ (q.2.2 = false → (∀ l : Ln, l.cons < i ∨ l.cons = i ∧ l.mask < k → closedB p q.2.1 l) ∧ ∀ x, x < q.1 → q.2.1.getD x false = true → q.2.1.getD (x ^^^ E) false = true)) (fun q => 512 - q.1) (0, F2, ag2) (le_of (by simp) (by simp)) ⟨by simp, hS2, hc2, hlt2, fun hf => ⟨hcl2 hf, fun x hx => by simp at hx⟩⟩ fun ⟨x, F, ag3⟩ ⟨hx, hS3, hc3, hlt3, hcl3⟩ => ?_
      dsimp only at hx hS3 hc3 hlt3 hcl3
      simp -dsimp
      refine condX_dec (fun hxl => ?_) (fun hxl => ?_)
      rotate_left
      · have e : x = 512 := by omega
        subst e
        simp -dsimp [hwk]
        exact LoopP_next (k + 1, F, ag3) (le_of (by simp) (by simp)) ⟨by simp only; omega, by simp only; omega, hS3, hc3, hlt3, fun hf => hext (hcl3 hf).1 (hclo F (hcl3 hf).2)⟩ (by simp only; omega)
      have hwx := wr (n := (x : Int) + 1) (by omega) (by omega)
      have hx0 : (0 : Int) ≤ (x : Int) := by omega
      have hFl := hS3.len
      have hxF : x < F.length := by omega
      have hzl : x ^^^ E < 512 := Nat.xor_lt_two_pow (n := 9) (by omega) hEl
      have hxz := xorI_nat x E (by omega) (by omega)
      have hFx : F.getD x false = F[x] := by rw [List.getD_eq_getElem?_getD, List.getElem?_eq_getElem hxF]; rfl
      have hdx := hdec x
      obtain ⟨z, hz⟩ : ∃ z, x ^^^ E = z := ⟨_, rfl⟩
      rw [hz] at hzl hxz hdx
      have hzF : z < F.length := by omega
      have hzF1 : z + 1 ≤ F.length := by omega
      have hFz : F.getD z false = F[z] := by rw [List.getD_eq_getElem?_getD, List.getElem?_eq_getElem hzF]; rfl
      have hz0 : (0 : Int) ≤ (z : Int) := by omega
      have hz5 : (z : Int) < 512 := by omega
      have hstep : (F[x] = true → F[z] = true) → ag3 = false → (∀ l : Ln, l.cons < i ∨ l.cons = i ∧ l.mask < k → closedB p F l) ∧ ∀ y, y < x + 1 → F.getD y false = true → F.getD (y ^^^ E) false = true := fun hxx hf => by
        refine ⟨(hcl3 hf).1, fun y hy hyF => ?_⟩
        rcases Nat.lt_or_ge y x with h1 | h1
        · exact (hcl3 hf).2 y h1 hyF
        · have : y = x := by omega
          subst this
          rw [hz, hFz]
          exact hxx (by rw [← hFx]; exact hyF)
      cases hfx : F[x] with
      | false =>
        simp -dsimp [hxl, hx0, hxF, hfx, hwx]
        exact LoopP_next (x + 1, F, ag3) (le_of (by simp) (by simp)) ⟨by simp only; omega, hS3, hc3, hlt3, hstep (by rw [hfx]; simp)⟩ (by simp only; omega)
      | true =>
        cases hfz : F[z] with
        | true =>
          simp -dsimp [hxl, hx0, hxF, hfx, hxz, hz0, hz5, hzF, hfz, hwx]
          exact LoopP_next (x + 1, F, ag3) (le_of (by simp) (by simp)) ⟨by simp only; omega, hS3, hc3, hlt3, hstep (by rw [hfz]; simp)⟩ (by simp only; omega)
        | false =>
          have hcnt := cnt_set F z hzF hfz
          have hS4 : SumsI p (F.set z true) := ⟨by rw [List.length_set]; exact hFl, by
            rw [getD_set _ _ _ hzF]
            split
            · rfl
            · exact hS3.zero, fun y hy hyF => by
            rw [getD_set _ _ _ hzF] at hyF
            split at hyF
            · rename_i e
              subst e
              rw [hdx]
              exact .add (hS3.snd x (by omega) (by rw [hFx]; exact hfx)) hmemL
            · exact hS3.snd y hy hyF⟩
          simp -dsimp [hxl, hx0, hxF, hfx, hxz, hz0, hz5, hzF, hzF1, hfz, hwx]
          exact LoopP_next (x + 1, F.set z true, true) (le_of (by simp) (by simp)) ⟨by simp only; omega, hS4, by simp only; omega, fun _ => by simp only; omega, by simp⟩ (by simp only; omega)
end Go.Proofs.Ytmneioafbkknhaa
/- PB59: the law of Odds, walked. -/
namespace Go.Proofs.Ytmneioafbkknhaa
open Go Go.PS
attribute [-simp] List.map_take
theorem podd_bad (p : Pz) (hg : goodP p = false) : PCall Try.prog 51 [ePz p] (.t .ro (.tup [.v (.slice none 0 0), eI 2])) [] := by
  refine pcall_wpT Try.func51 rfl (by kernel_rfl) ?_
  simp -dsimp
  first
    | refine CallG.by (pvalid_spec p) ?_
    | refine CallGE.by (pvalid_spec p) ?_
    | refine CallGB.by (pvalid_spec p) ?_
  simp -dsimp [hg]
  refine retT_c ?_
  simp -dsimp
theorem odd_take (p : Pz) (l : List Ln) : oddF p (l.take 42) = oddF p l := by
  by_cases h : l.length ≤ 42
  · rw [List.take_of_length_le h]
  · rw [oddF, oddF, decide_eq_false (by rw [List.length_take]; omega), decide_eq_false (by omega)]
    rfl
theorem sumF_spn {p : Pz} (hg : goodP p = true) : ∀ (L : List Ln) (v : Nat) (b : Bool) (w : Int × Bool), v < 256 → Spn (lvs p) (v, b) → sumF p L v b = some w → Spn (lvs p) (w.1.toNat, w.2)
  | [], v, b, w, _, h, hw => by
    rw [sumF] at hw
    cases hw
    simpa using h
  | l :: L, v, b, w, hv, h, hw => by
    rw [sumF] at hw
    split at hw
    · rename_i hok
      have hv8 := vars_le hg
      obtain ⟨u, hu, hu8, _⟩ := lnV_nat hg hok
      have hp8 : 2 ^ p.vars.toNat ≤ 2 ^ 8 := Nat.pow_le_pow_right (by decide) (by omega)
      have hx : v ^^^ u < 2 ^ 8 := Nat.xor_lt_two_pow hv (by omega)
      rw [hu, xorI_nat v u (by omega) (by omega)] at hw
      refine sumF_spn hg L _ _ w hx ?_ hw
      have h1 := Spn.add h (List.mem_map_of_mem (f := lvec p) ((allL_mem hg).2 hok))
      rw [lvec, hu, Int.toNat_natCast] at h1
      exact h1
    · cases hw
theorem oddF_oddX {p : Pz} (hg : goodP p = true) {L : List Ln} (h : oddF p L = true) : oddX p = true := by
  rw [oddF, Bool.and_eq_true] at h
  rw [oddX_iff]
  cases hF : sumF p L 0 false with
  | none => rw [hF] at h; simp [endF] at h
  | some w =>
    rw [hF, endF] at h
    have := sumF_spn hg L 0 false w (by decide) .zero hF
    obtain ⟨v, b⟩ := w
    simp at h
    obtain ⟨_, rfl, rfl⟩ := h
    simpa using this
theorem oddX_none {p : Pz} (hg : goodP p = true) {s : Nat} (hs : ∀ l, lnOk p l = true → dotK 8 s (lvec p l).1 = (lvec p l).2) : oddX p = false := by
  cases h : oddX p with
  | false => rfl
  | true =>
    rw [oddX_iff] at h
    refine absurd h (Sat.not (s := s) fun y hy => ?_)
    obtain ⟨l, hl, rfl⟩ := List.mem_map.1 hy
    exact hs l ((allL_mem hg).1 hl)
theorem own_fz (l : List Ln) (hl40 : l.length ≤ 40) : PCall Try.prog 56 [eLns l] (.t .fz (eLns l)) [] := by
  refine pcall_sl 0 rfl call56 fun hlen => ?_
  simp only [List.length_map] at hlen
  refine pcall_wp _ Try.func56 rfl (by kernel_rfl) rfl ?_
  simp -dsimp
  refine lg_adoptT 3 3 126 2 (by simp; rfl) (by simp) ?_
  refine wk_loop (fun i : Nat => ⟨[(8, pI i), (7, pI l.length), (6, .t .ro (eLns l)), (3, .osl 3)], [(3, .row 126 2 .fz ((l.take i).map cLn))]⟩) (fun i => i ≤ l.length) (fun i => l.length - i) 0 (le_of (by simp) (by simp)) (by simp) fun i hi => ?_
  simp -dsimp
  refine condX_dec (fun h => ?_) (fun h => ?_)
  rotate_left
  · have e : i = l.length := by omega
    have ht : l.take i = l := List.take_of_length_le (by omega)
    rw [ht]
    simp -dsimp
    refine retP_c ?_
    simp -dsimp
  have hw := wr (n := (i : Int) + 1) (by omega) (by omega)
  have hb : (min i l.length + 1) * 16 ≤ 140737488355328 := by omega
  have hsn : List.map cLn (List.take i l) ++ [[TL.v (Value.int IntKind.i64 l[i].cons), TL.v (Value.int IntKind.i64 l[i].mask)]] = List.map cLn (List.take (i + 1) l) := by
    rw [take_snoc _ h, List.map_append]
    rfl
  simp -dsimp [h, hb, hw]
  refine LoopP_next (i + 1) (le_of (by simp) (by simp [hsn])) h (by omega)
theorem odds_true (p : Pz) (l : List Ln) : PCall Try.prog 16 [ePz p, eLns l] (pB true) [] := by
  have hgt := good_trim p
  refine pcall_wp _ Try.func16 rfl (by kernel_rfl) rfl ?_
  simp -dsimp
  first
    | refine CallG.by (of_spec p) ?_
    | refine CallGE.by (of_spec p) ?_
    | refine CallGB.by (of_spec p) ?_
  simp -dsimp
  cases hg : goodP p with
  | false =>
    rw [hg] at hgt
    first
      | refine CallG.by (podd_bad (trimP p) hgt.symm) ?_
      | refine CallGE.by (podd_bad (trimP p) hgt.symm) ?_
      | refine CallGB.by (podd_bad (trimP p) hgt.symm) ?_
    simp -dsimp
    first
      | refine CallG.by (of_spec p) ?_
      | refine CallGE.by (of_spec p) ?_
      | refine CallGB.by (of_spec p) ?_
    simp -dsimp
    first
      | refine CallG.by (lines_spec l) ?_
      | refine CallGE.by (lines_spec l) ?_
      | refine CallGB.by (lines_spec l) ?_
    simp -dsimp
    first
      | refine CallG.by (checkOdd_bad (trimP p) (l.take 42) hgt.symm) ?_
      | refine CallGE.by (checkOdd_bad (trimP p) (l.take 42) hgt.symm) ?_
      | refine CallGB.by (checkOdd_bad (trimP p) (l.take 42) hgt.symm) ?_
    simp -dsimp
    first
      | refine CallG.by (rvalid_spec p) ?_
      | refine CallGE.by (rvalid_spec p) ?_
      | refine CallGB.by (rvalid_spec p) ?_
    simp -dsimp [hg]
    first
      | refine CallG.by (awake_spec) ?_
      | refine CallGE.by (awake_spec) ?_
      | refine CallGB.by (awake_spec) ?_
    simp -dsimp
    refine retP_c ?_
    simp -dsimp
  | true =>
    rw [trim_of hg]
    have hc := checkOdd_spec p (l.take 42) hg
    rw [odd_take] at hc
    have hi := isOdd_spec p l hg
    have hO := podd_spec p hg
    first
      | refine CallG.onP (g := [(600, 12)]) hO (by decide) (by simp) (by simp) (by simp [Sg.bk]) fun r M' hP => ?_
      | refine CallN.onP (g := [(600, 12)]) hO (by decide) (by simp) (by simp) (by simp [Sg.bk]) fun r M' hP => ?_
    rcases hP with ⟨out, rfl, rfl, hodd⟩ | ⟨rfl, rfl, s, hs, hsL⟩
    · have hx := oddF_oddX hg hodd
      have ho40 : out.length ≤ 40 := by
        rw [oddF, Bool.and_eq_true, decide_eq_true_eq] at hodd
        exact hodd.1
      simp -dsimp
      first
        | refine CallG.by (of_spec p) ?_
        | refine CallGE.by (of_spec p) ?_
        | refine CallGB.by (of_spec p) ?_
      rw [trim_of hg]
      simp -dsimp
      first
        | refine CallG.by (lines_spec l) ?_
        | refine CallGE.by (lines_spec l) ?_
        | refine CallGB.by (lines_spec l) ?_
      simp -dsimp
      first
        | refine CallG.by (hc) ?_
        | refine CallGE.by (hc) ?_
        | refine CallGB.by (hc) ?_
      simp -dsimp
      first
        | refine CallG.by (rvalid_spec p) ?_
        | refine CallGE.by (rvalid_spec p) ?_
        | refine CallGB.by (rvalid_spec p) ?_
      simp -dsimp [hg]
      first
        | refine CallG.by (hi) ?_
        | refine CallGE.by (hi) ?_
        | refine CallGB.by (hi) ?_
      simp -dsimp
      first
        | refine CallG.by (awake_spec) ?_
        | refine CallGE.by (awake_spec) ?_
        | refine CallGB.by (awake_spec) ?_
      simp -dsimp
      first
        | refine CallG.by (rodd_spec p hg) ?_
        | refine CallGE.by (rodd_spec p hg) ?_
        | refine CallGB.by (rodd_spec p hg) ?_
      simp -dsimp [hx]
      refine wk_draw 3 [2] mixed (by kernel_rfl) ?_
      simp -dsimp
      first
        | refine CallG.by (own_fz out ho40) ?_
        | refine CallGE.by (own_fz out ho40) ?_
        | refine CallGB.by (own_fz out ho40) ?_
      simp -dsimp
      first
        | refine CallG.by (isOdd_spec p out hg) ?_
        | refine CallGE.by (isOdd_spec p out hg) ?_
        | refine CallGB.by (isOdd_spec p out hg) ?_
      simp -dsimp [hodd]
      refine retP_c ?_
      simp -dsimp
    · have hx := oddX_none hg hsL
      simp -dsimp
      first
        | refine CallG.by (of_spec p) ?_
        | refine CallGE.by (of_spec p) ?_
        | refine CallGB.by (of_spec p) ?_
      rw [trim_of hg]
      simp -dsimp
      first
        | refine CallG.by (lines_spec l) ?_
        | refine CallGE.by (lines_spec l) ?_
        | refine CallGB.by (lines_spec l) ?_
      simp -dsimp
      first
        | refine CallG.by (hc) ?_
        | refine CallGE.by (hc) ?_
        | refine CallGB.by (hc) ?_
      simp -dsimp
      first
        | refine CallG.by (rvalid_spec p) ?_
        | refine CallGE.by (rvalid_spec p) ?_
        | refine CallGB.by (rvalid_spec p) ?_
      simp -dsimp [hg]
      first
        | refine CallG.by (hi) ?_
        | refine CallGE.by (hi) ?_
        | refine CallGB.by (hi) ?_
      simp -dsimp
      first
        | refine CallG.by (awake_spec) ?_
        | refine CallGE.by (awake_spec) ?_
        | refine CallGB.by (awake_spec) ?_
      simp -dsimp
      first
        | refine CallG.by (rodd_spec p hg) ?_
        | refine CallGE.by (rodd_spec p hg) ?_
        | refine CallGB.by (rodd_spec p hg) ?_
      simp -dsimp [hx]
      refine retP_c ?_
      simp -dsimp
end Go.Proofs.Ytmneioafbkknhaa
