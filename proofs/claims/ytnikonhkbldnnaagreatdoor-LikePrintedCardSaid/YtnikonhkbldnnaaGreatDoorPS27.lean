import Derived.Test.YtnikonhkbldnnaaGreatDoorPS25
/- PS27: opening an argument of a type that holds slices of itself. -/
set_option linter.unusedVariables false
set_option linter.unusedSimpArgs false
namespace Go.PS
open Go Go.RowKit
/-- A formula as it is laid: a string, two numbers, and formulas. -/
inductive FT
  | mk (op : ByteArray) (a b : Int) (kids : List FT)
mutual
def ftC : FT → List TL
  | .mk op a b kids => [.v (.string op), .v (.int .i64 a), .v (.int .i64 b), .sl .any 4 (ftL kids)]
def ftL : List FT → List (List TL)
  | [] => []
  | k :: l => ftC k :: ftL l
end
theorem ftL_map : ∀ l : List FT, ftL l = l.map ftC
  | [] => rfl
  | k :: l => by rw [ftL, ftL_map l]; rfl
section
variable {P : Program} {H : Type} {enc : TypeId × Value → H} {W : World}
/-- As Opens, for so much fuel. -/
def OpensTo (K : Nat) (P : Program) {H : Type} (enc : TypeId × Value → H) (W : World) {α : Type} (t : TypeId) (m : Nat) (R : α → List TL) : Prop :=
  ∀ (fuel : Nat), fuel ≤ K → ∀ (cs : List Value) (x : DataW H × List MemPlace), DataW.trod enc P W 0 (fun _ => true) true fuel t cs = some x → (x.1.weights P t).all (· ≤ reachBytes) = true →
    ∃ a : α, cs.length = m ∧ (R a).length = m ∧ ∀ (j : Nat) (u : TL), (R a)[j]? = some u → TRep W (Under W) u (cs.getD j Go.undef)
theorem Opens.to {K : Nat} {α : Type} {t : TypeId} {m : Nat} {R : α → List TL} (h : Opens P enc W t m R) : OpensTo K P enc W t m R := fun fuel _ => h fuel
theorem opens_of_to {α : Type} {t : TypeId} {m : Nat} {R : α → List TL} (h : ∀ K, OpensTo K P enc W t m R) : Opens P enc W t m R := fun fuel => h fuel fuel (Nat.le_refl _)
theorem opens_slice_to {K : Nat} {α : Type} {t e : TypeId} {m : Nat} {R : α → List TL} (ht : P.underlying t = some (.slice e)) (hc : P.cellsOf e = m) (hm : 0 < m) (hb : 0 < P.bytesOf e) (he : OpensTo K P enc W e m R) :
    OpensTo K P enc W t 1 (fun l : List α => [.sl .any m (l.map R)]) := by
  intro fuel hK cs x h hw
  rcases DataW.trod_slice ht h with ⟨rfl, _⟩ | ⟨a, len, cap, elems, rest, n, hfu, rfl, rfl, _, hl, hcap, hlen, hel, _, _⟩
  · refine ⟨[], rfl, rfl, fun j u hu => ?_⟩
    cases j with
    | zero =>
      simp at hu
      subst hu
      exact nil_any W (Under W) (Under W) _ (.v _)
    | succ j => simp at hu
  · subst hc
    simp only [DataW.weights, ht, List.all_cons, Bool.and_eq_true, decide_eq_true_eq, List.all_append, List.length_map] at hw
    obtain ⟨hw1, hw2, _⟩ := hw
    have hb1 : len ≤ 140737488355328 := by
      have h1 : (elems.length + rest.length) * 1 ≤ (elems.length + rest.length) * P.bytesOf e := Nat.mul_le_mul_left _ hb
      have h2 := reachBytes_lt
      have h3 : (2 : Nat) ^ 47 = 140737488355328 := by decide
      omega
    have key : ∀ i, i < len → ∃ y : α, (R y).length = P.cellsOf e ∧ (∀ j, j < P.cellsOf e → ∃ v, W.cell? ((a.add (i * P.cellsOf e)).add j) = some v) ∧
        ∀ (j : Nat) (u : TL), (R y)[j]? = some u → ∀ v, W.cell? ((a.add (i * P.cellsOf e)).add j) = some v → TRep W (Under W) u v := by
      intro i hi
      have h1 := hel i hi
      rw [List.getElem?_eq_getElem (by omega)] at h1
      obtain ⟨ds, h2, h3⟩ := Option.bind_eq_some_iff.1 h1
      have hmem : elems[i].1 ∈ elems.map (·.1) := List.mem_map_of_mem (List.getElem_mem _)
      obtain ⟨y, hy1, hy2, hy3⟩ := he n (by omega) ds _ h3 (by
        rw [List.all_eq_true]
        intro k hk
        exact List.all_eq_true.1 hw2 k (weightsAll_mem hmem hk))
      simp only [World.cells?] at h2
      split at h2
      · have hg := mapM_some_get h2
        have cell : ∀ j, j < P.cellsOf e → W.cell? ((a.add (i * P.cellsOf e)).add j) = ds[j]? := fun j hj => hg j j (by simp [hj])
        refine ⟨y, hy2, fun j hj => ⟨ds[j]'(by omega), by rw [cell j hj, List.getElem?_eq_getElem (by omega)]⟩, fun j u hu v hv => ?_⟩
        have hj : j < P.cellsOf e := by
          have := (List.getElem?_eq_some_iff.1 hu).1
          omega
        have h5 := hy3 j u hu
        rw [cell j hj] at hv
        rw [List.getD_eq_getElem?_getD, hv] at h5
        exact h5
      · cases h2
    obtain ⟨l, hll, hlp⟩ := list_choose len key
    refine ⟨l, rfl, rfl, fun j u hu => ?_⟩
    cases j with
    | succ j => simp at hu
    | zero =>
      simp at hu
      subst hu
      show TRep W (Under W) _ (.slice (some a) len cap)
      have hlx : (l.map R).length = len := by simp [hll]
      have spot : 0 < len → a.spot = none ∧ a.block < W.heap.size := by
        intro h0
        obtain ⟨y, _, hcell, _⟩ := key 0 h0
        obtain ⟨v, hv⟩ := hcell 0 hm
        simp only [World.cell?] at hv
        split at hv
        · rename_i hblk
          split at hv
          · cases hv
          · rename_i hs
            refine ⟨by simpa [Addr.add] using hs, ?_⟩
            have := (Array.getElem?_eq_some_iff.1 hblk).1
            simpa [Addr.add] using this
        · cases hv
      have hA : ∀ i j, i < len → (a.add (i * P.cellsOf e)).add j = ⟨a.block, a.off + (i * P.cellsOf e + j), none⟩ := by
        intro i j hi
        have := (spot (by omega)).1
        cases a with
        | mk b o sp =>
          simp only at this
          subst this
          generalize i * P.cellsOf e = k
          rcases Nat.eq_zero_or_pos k with rfl | hk
          · rcases Nat.eq_zero_or_pos j with rfl | hj
            · simp [Addr.add]
            · have : j ≠ 0 := by omega
              simp [Addr.add, this]
          · have hk' : k ≠ 0 := by omega
            rcases Nat.eq_zero_or_pos j with rfl | hj
            · simp [Addr.add, hk']
            · have : j ≠ 0 := by omega
              simp [Addr.add, this, hk', Nat.add_assoc]
      rw [← hlx]
      refine .sl (fun i j => (W.cell? ((a.add (i * P.cellsOf e)).add j)).getD Go.undef) (by omega) (fun h => by cases h) (fun h => by cases h) (fun h => by cases h) (by omega) ?_ ?_ ?_
      · by_cases h0 : 0 < len
        · refine .inr ⟨a.block, a.off, ?_, (spot h0).2, fun i j hi hj => ?_⟩
          · have := (spot h0).1
            cases a
            simp_all
          · rw [hlx] at hi
            have hx := hlp i (l[i]'(by omega)) (List.getElem?_eq_getElem _)
            obtain ⟨v, hv⟩ := hx.2.1 j hj
            rw [hA i j hi] at hv ⊢
            rw [hv]
            rfl
        · left
          have : l = [] := List.eq_nil_of_length_eq_zero (by omega)
          simp [this]
      · intro e' he'
        obtain ⟨y, hy, rfl⟩ := List.mem_map.1 he'
        obtain ⟨i, hi⟩ := List.getElem?_of_mem hy
        exact (hlp i y hi).1
      · intro i j e' u he' hu
        rw [List.getElem?_map] at he'
        obtain ⟨y, hy, rfl⟩ := Option.map_eq_some_iff.1 he'
        have hx := hlp i y hy
        have hj : j < P.cellsOf e := by
          have := (List.getElem?_eq_some_iff.1 hu).1
          have := hx.1
          omega
        obtain ⟨v, hv⟩ := hx.2.1 j hj
        show TRep W (Under W) u ((W.cell? ((a.add (i * P.cellsOf e)).add j)).getD Go.undef)
        rw [hv]
        exact hx.2.2 j u hu v hv

theorem opens_form_to {t : TypeId} {f0 f1 f2 f3 : Field} (ht : P.underlying t = some (.struct #[f0, f1, f2, f3])) (o0 : f0.offset = 0) (o1 : f1.offset = 1) (o2 : f2.offset = 2) (o3 : f3.offset = 3)
    (t0 : P.underlying f0.type = some .string) (t1 : P.underlying f1.type = some (.int .i64)) (t2 : P.underlying f2.type = some (.int .i64)) (t3 : P.underlying f3.type = some (.slice t))
    (c0 : P.cellsOf f0.type = 1) (c1 : P.cellsOf f1.type = 1) (c2 : P.cellsOf f2.type = 1) (c3 : P.cellsOf f3.type = 1) (hc : P.cellsOf t = 4) (hb : 0 < P.bytesOf t) : ∀ K, OpensTo K P enc W t 4 ftC
  | 0 => fun fuel hK cs x h _ => by
    obtain rfl : fuel = 0 := by omega
    simp [DataW.trod] at h
  | K + 1 => fun fuel hK cs x h hw => by
    have ih := opens_form_to ht o0 o1 o2 o3 t0 t1 t2 t3 c0 c1 c2 c3 hc hb K
    have hs := opens_slice_to t3 hc (by decide) hb ih
    obtain ⟨xs, n, hfu, rfl, hl, hxs, hg⟩ := DataW.trod_struct ht h
    have hx2 : xs.length = 4 := by simpa using hxs
    match xs, hx2 with
    | [x0, x1, x2, x3], _ =>
      have g0 := hg 0 f0 rfl
      have g1 := hg 1 f1 rfl
      have g2 := hg 2 f2 rfl
      have g3 := hg 3 f3 rfl
      simp only [o0, o1, o2, o3, c0, c1, c2, c3, List.getElem?_cons_zero, List.getElem?_cons_succ] at g0 g1 g2 g3
      simp only [DataW.weights, ht, List.map_cons, List.map_nil, DataW.weightsEach, List.all_append, List.all_nil, Bool.and_true, Bool.and_eq_true] at hw
      obtain ⟨s, h0, rfl, _⟩ := DataW.trod_string t0 g0
      obtain ⟨a, h1, rfl, _⟩ := DataW.trod_int t1 g1
      obtain ⟨b, h2, rfl, _⟩ := DataW.trod_int t2 g2
      obtain ⟨l, k1, k2, k3⟩ := hs n (by omega) _ x3 g3 hw.2.2.2
      rw [hc] at hl
      match cs, hl with
      | [y0, y1, y2, y3], _ =>
        simp at h0 h1 h2 k3
        refine ⟨.mk s a b l, rfl, rfl, fun j u hu => ?_⟩
        rcases j with _ | _ | _ | _ | j
        · simp [ftC] at hu
          subst hu
          show TRep _ _ _ y0
          rw [h0]
          exact .v _
        · simp [ftC] at hu
          subst hu
          show TRep _ _ _ y1
          rw [h1]
          exact .v _
        · simp [ftC] at hu
          subst hu
          show TRep _ _ _ y2
          rw [h2]
          exact .v _
        · simp [ftC] at hu
          subst hu
          rw [ftL_map]
          exact k3 0 _ rfl
        · simp [ftC] at hu
theorem opens_form {t : TypeId} {f0 f1 f2 f3 : Field} (ht : P.underlying t = some (.struct #[f0, f1, f2, f3])) (o0 : f0.offset = 0) (o1 : f1.offset = 1) (o2 : f2.offset = 2) (o3 : f3.offset = 3)
    (t0 : P.underlying f0.type = some .string) (t1 : P.underlying f1.type = some (.int .i64)) (t2 : P.underlying f2.type = some (.int .i64)) (t3 : P.underlying f3.type = some (.slice t))
    (c0 : P.cellsOf f0.type = 1) (c1 : P.cellsOf f1.type = 1) (c2 : P.cellsOf f2.type = 1) (c3 : P.cellsOf f3.type = 1) (hc : P.cellsOf t = 4) (hb : 0 < P.bytesOf t) : Opens P enc W t 4 ftC :=
  opens_of_to (opens_form_to ht o0 o1 o2 o3 t0 t1 t2 t3 c0 c1 c2 c3 hc hb)
end
end Go.PS
