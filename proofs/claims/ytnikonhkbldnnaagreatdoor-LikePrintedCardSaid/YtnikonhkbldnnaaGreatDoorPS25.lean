import Derived.Test.YtnikonhkbldnnaaGreatDoorPSC
import Derived.ChangeArms
import Derived.SizedLaws
import Derived.DataReads
/- PS25: what a claim reads of its arguments, as trees. -/
set_option linter.unusedVariables false
set_option linter.unusedSimpArgs false
namespace Go.PS
open Go Go.RowKit

section
variable {P : Program} {H : Type} {enc : TypeId × Value → H} {W : World}

/-- Below the heap's end. -/
def Under (W : World) (g : Nat) : Prop := g < W.heap.size

/-- Whatever reads as this type is such a tree. -/
def Opens (P : Program) {H : Type} (enc : TypeId × Value → H) (W : World) {α : Type} (t : TypeId) (m : Nat) (R : α → List TL) : Prop :=
  ∀ (fuel : Nat) (cs : List Value) (x : DataW H × List MemPlace), DataW.trod enc P W 0 (fun _ => true) true fuel t cs = some x → (x.1.weights P t).all (· ≤ reachBytes) = true →
    ∃ a : α, cs.length = m ∧ (R a).length = m ∧ ∀ (j : Nat) (u : TL), (R a)[j]? = some u → TRep W (Under W) u (cs.getD j Go.undef)

theorem opens_int {t : TypeId} (ht : P.underlying t = some (.int .i64)) : Opens P enc W t 1 cI := by
  intro fuel cs x h _
  obtain ⟨n, rfl, _, _⟩ := DataW.trod_int ht h
  refine ⟨n, rfl, rfl, fun j u hu => ?_⟩
  cases j with
  | zero => simp [cI] at hu; subst hu; exact .v _
  | succ j => simp [cI] at hu

theorem list_choose {α : Type} {p : Nat → α → Prop} (n : Nat) (h : ∀ i, i < n → ∃ a, p i a) : ∃ l : List α, l.length = n ∧ ∀ (i : Nat) (a : α), l[i]? = some a → p i a := by
  induction n with
  | zero => exact ⟨[], rfl, fun i a h => by simp at h⟩
  | succ n ih =>
    obtain ⟨l, hl, hp⟩ := ih fun i hi => h i (by omega)
    obtain ⟨a, ha⟩ := h n (by omega)
    refine ⟨l ++ [a], by simp [hl], fun i b hb => ?_⟩
    by_cases e : i < n
    · rw [List.getElem?_append_left (by omega)] at hb
      exact hp i b hb
    · have hi : i < (l ++ [a]).length := (List.getElem?_eq_some_iff.1 hb).1
      simp [hl] at hi
      have : i = n := by omega
      subst this
      rw [List.getElem?_append_right (by omega), hl] at hb
      simp at hb
      subst hb
      exact ha

theorem weightsAll_mem {e : TypeId} {k : Nat} : ∀ {l : List (DataW H)} {d : DataW H}, d ∈ l → k ∈ d.weights P e → k ∈ DataW.weightsAll P e l
  | d' :: l, d, h, hk => by
    rw [DataW.weightsAll, List.mem_append]
    rcases List.mem_cons.1 h with rfl | h
    · exact .inl hk
    · exact .inr (weightsAll_mem h hk)

theorem opens_slice {α : Type} {t e : TypeId} {m : Nat} {R : α → List TL} (ht : P.underlying t = some (.slice e)) (hc : P.cellsOf e = m) (hm : 0 < m) (hb : 0 < P.bytesOf e) (he : Opens P enc W e m R) :
    Opens P enc W t 1 (fun l : List α => [.sl .any m (l.map R)]) := by
  intro fuel cs x h hw
  rcases DataW.trod_slice ht h with ⟨rfl, _⟩ | ⟨a, len, cap, elems, rest, n, _, rfl, rfl, _, hl, hcap, hlen, hel, _, _⟩
  · refine ⟨[], rfl, rfl, fun j u hu => ?_⟩
    cases j with
    | zero =>
      simp at hu
      subst hu
      exact nil_any W (Under W) (Under W) _ (.v _)
    | succ j => simp at hu
  · subst hc
    simp only [DataW.weights, ht, List.all_cons, Bool.and_eq_true, decide_eq_true_eq, List.all_append, List.length_map] at hw
    obtain ⟨hw1, hw2, _⟩ := hw
    have hb1 : len ≤ 140737488355328 := by
      have h1 : (elems.length + rest.length) * 1 ≤ (elems.length + rest.length) * P.bytesOf e := Nat.mul_le_mul_left _ hb
      have h2 := reachBytes_lt
      have h3 : (2 : Nat) ^ 47 = 140737488355328 := by decide
      omega
    have key : ∀ i, i < len → ∃ y : α, (R y).length = P.cellsOf e ∧ (∀ j, j < P.cellsOf e → ∃ v, W.cell? ((a.add (i * P.cellsOf e)).add j) = some v) ∧
        ∀ (j : Nat) (u : TL), (R y)[j]? = some u → ∀ v, W.cell? ((a.add (i * P.cellsOf e)).add j) = some v → TRep W (Under W) u v := by
      intro i hi
      have h1 := hel i hi
      rw [List.getElem?_eq_getElem (by omega)] at h1
      obtain ⟨ds, h2, h3⟩ := Option.bind_eq_some_iff.1 h1
      have hmem : elems[i].1 ∈ elems.map (·.1) := List.mem_map_of_mem (List.getElem_mem _)
      obtain ⟨y, hy1, hy2, hy3⟩ := he n ds _ h3 (by
        rw [List.all_eq_true]
        intro k hk
        exact List.all_eq_true.1 hw2 k (weightsAll_mem hmem hk))
      simp only [World.cells?] at h2
      split at h2
      · have hg := mapM_some_get h2
        have cell : ∀ j, j < P.cellsOf e → W.cell? ((a.add (i * P.cellsOf e)).add j) = ds[j]? := fun j hj => hg j j (by simp [hj])
        refine ⟨y, hy2, fun j hj => ⟨ds[j]'(by omega), by rw [cell j hj, List.getElem?_eq_getElem (by omega)]⟩, fun j u hu v hv => ?_⟩
        have hj : j < P.cellsOf e := by
          have := (List.getElem?_eq_some_iff.1 hu).1
          omega
        have h5 := hy3 j u hu
        rw [cell j hj] at hv
        rw [List.getD_eq_getElem?_getD, hv] at h5
        exact h5
      · cases h2
    obtain ⟨l, hll, hlp⟩ := list_choose len key
    refine ⟨l, rfl, rfl, fun j u hu => ?_⟩
    cases j with
    | succ j => simp at hu
    | zero =>
      simp at hu
      subst hu
      show TRep W (Under W) _ (.slice (some a) len cap)
      have hlx : (l.map R).length = len := by simp [hll]
      have spot : 0 < len → a.spot = none ∧ a.block < W.heap.size := by
        intro h0
        obtain ⟨y, _, hcell, _⟩ := key 0 h0
        obtain ⟨v, hv⟩ := hcell 0 hm
        simp only [World.cell?] at hv
        split at hv
        · rename_i hblk
          split at hv
          · cases hv
          · rename_i hs
            refine ⟨by simpa [Addr.add] using hs, ?_⟩
            have := (Array.getElem?_eq_some_iff.1 hblk).1
            simpa [Addr.add] using this
        · cases hv
      have hA : ∀ i j, i < len → (a.add (i * P.cellsOf e)).add j = ⟨a.block, a.off + (i * P.cellsOf e + j), none⟩ := by
        intro i j hi
        have := (spot (by omega)).1
        cases a with
        | mk b o sp =>
          simp only at this
          subst this
          generalize i * P.cellsOf e = k
          rcases Nat.eq_zero_or_pos k with rfl | hk
          · rcases Nat.eq_zero_or_pos j with rfl | hj
            · simp [Addr.add]
            · have : j ≠ 0 := by omega
              simp [Addr.add, this]
          · have hk' : k ≠ 0 := by omega
            rcases Nat.eq_zero_or_pos j with rfl | hj
            · simp [Addr.add, hk']
            · have : j ≠ 0 := by omega
              simp [Addr.add, this, hk', Nat.add_assoc]
      rw [← hlx]
      refine .sl (fun i j => (W.cell? ((a.add (i * P.cellsOf e)).add j)).getD Go.undef) (by omega) (fun h => by cases h) (fun h => by cases h) (fun h => by cases h) (by omega) ?_ ?_ ?_
      · by_cases h0 : 0 < len
        · refine .inr ⟨a.block, a.off, ?_, (spot h0).2, fun i j hi hj => ?_⟩
          · have := (spot h0).1
            cases a
            simp_all
          · rw [hlx] at hi
            have hx := hlp i (l[i]'(by omega)) (List.getElem?_eq_getElem _)
            obtain ⟨v, hv⟩ := hx.2.1 j hj
            rw [hA i j hi] at hv ⊢
            rw [hv]
            rfl
        · left
          have : l = [] := List.eq_nil_of_length_eq_zero (by omega)
          simp [this]
      · intro e' he'
        obtain ⟨y, hy, rfl⟩ := List.mem_map.1 he'
        obtain ⟨i, hi⟩ := List.getElem?_of_mem hy
        exact (hlp i y hi).1
      · intro i j e' u he' hu
        rw [List.getElem?_map] at he'
        obtain ⟨y, hy, rfl⟩ := Option.map_eq_some_iff.1 he'
        have hx := hlp i y hy
        have hj : j < P.cellsOf e := by
          have := (List.getElem?_eq_some_iff.1 hu).1
          have := hx.1
          omega
        obtain ⟨v, hv⟩ := hx.2.1 j hj
        show TRep W (Under W) u ((W.cell? ((a.add (i * P.cellsOf e)).add j)).getD Go.undef)
        rw [hv]
        exact hx.2.2 j u hu v hv

/-- An argument that is a struct. -/
theorem opens_arg {α : Type} {t : TypeId} {m : Nat} {R : α → List TL} {fs : Array Field} (ht : P.underlying t = some (.struct fs)) (h : Opens P enc W t m R) {v : Value} {base : Nat} {d : DataW H} {ps : List MemPlace}
    (hval : Value.okWide P W .any base t v) (hd : DataW.Trod enc P W 0 (fun _ => true) true t v d ps) (hw : (d.weights P t).all (· ≤ reachBytes) = true) : ∃ a : α, TRep W (Under W) (.agg (R a)) v := by
  unfold Value.okWide at hval
  rw [ht] at hval
  obtain ⟨cs, rfl, hs, _⟩ := hval
  obtain ⟨fuel, hf⟩ := hd
  obtain ⟨a, h1, h2, h3⟩ := h fuel _ _ hf hw
  have e : (Value.agg cs).cells.toList = cs.toList := by simp [Value.cells]
  rw [e] at h1 h3
  refine ⟨a, .agg cs (by simpa [h2] using h1) fun j u hu => ?_⟩
  have := h3 j u hu
  simpa [List.getD_eq_getElem?_getD, Array.getD_eq_getD_getElem?] using this

end
end Go.PS
