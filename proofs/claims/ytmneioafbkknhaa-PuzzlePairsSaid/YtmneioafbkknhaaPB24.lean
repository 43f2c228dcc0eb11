import Derived.Test.YtmneioafbkknhaaPB23
/- PB24: the closure of Narrow. -/
set_option linter.unusedVariables false
set_option linter.unusedSimpArgs false
set_option maxRecDepth 20000
namespace Go.Proofs.Ytmneioafbkknhaa
open Go Go.PS
attribute [-simp] List.map_take
theorem fltLe {α : Type} (f g : α → Bool) (h : ∀ x, g x = true → f x = true) : ∀ l : List α, (l.filter g).length ≤ (l.filter f).length
  | [] => Nat.le_refl _
  | x :: l => by
    have := fltLe f g h l
    simp only [List.filter_cons]
    cases hg : g x with
    | true => simp [h x hg, this]
    | false => cases hf : f x <;> simp <;> omega
theorem fltLt {α : Type} (f g : α → Bool) (h : ∀ x, g x = true → f x = true) (k : α) (hf : f k = true) (hg : g k = false) : ∀ l : List α, k ∈ l → (l.filter g).length < (l.filter f).length
  | [], hk => by cases hk
  | x :: l, hk => by
    rcases List.mem_cons.1 hk with rfl | hk
    · have := fltLe f g h l
      simp [List.filter_cons, hf, hg]
      omega
    · have := fltLt f g h k hf hg l hk
      simp only [List.filter_cons]
      cases hg : g x with
      | true => simp [h x hg, this]
      | false => cases hf : f x <;> simp <;> omega
/-- How many are not seen yet. -/
def unseen (n : Nat) (seen : List Nat) : Nat := ((List.range n).filter fun j => !seen.contains j).length
theorem unseen_lt {n i : Nat} {seen : List Nat} (hi : i < n) (hs : i ∉ seen) : unseen n (i :: seen) < unseen n seen := by
  refine fltLt _ _ (fun x hx => ?_) i (by simpa using hs) (by simp) _ (List.mem_range.2 hi)
  simp at hx ⊢
  exact hx.2
def getL (l : List (Int × Int)) (v : Int) : Int := (l.lookup v).getD 0
/-- Is a value left in a domain? -/
def live (D : List Int) (v y : Int) : Bool := !(andI (shrI (D.getD v.toNat 0) y.toNat) 1 == 0)
def okX (D : List Int) (x : List (Int × Int)) : Bool := x.all fun p => live D p.1 p.2
@[simp] def nM (D : List Int) (l x : List (Int × Int)) : List (Nat × Res) :=
  [(1000000, .blk 37 [.osl 1000001]), (1000001, .row 3 1 .ro (D.map cI)), (1000002, .blk 100 [.omp 1000003]), (1000003, .tab .ro (mI l)), (1000010, .tab .ro (mI x))]
def addX (l x : List (Int × Int)) (v : Int) : Int := match x.lookup v with
  | some y => orI (getL l v) (shlI 1 y.toNat)
  | none => getL l v
theorem lookup_of {x : List (Int × Int)} (h : (x.map (·.1)).Nodup) {i : Nat} {q : Int × Int} (hq : x[i]? = some q) : x.lookup q.1 = some q.2 := by
  induction x generalizing i with
  | nil => simp at hq
  | cons p x ih =>
    obtain ⟨k, y⟩ := p
    simp only [List.map_cons, List.nodup_cons] at h
    cases i with
    | zero =>
      simp at hq
      subst hq
      simp [List.lookup]
    | succ i =>
      simp at hq
      have hne : (q.1 == k) = false := by
        simp
        rintro rfl
        exact h.1 (List.mem_map_of_mem (List.mem_of_getElem? hq))
      simp only [List.lookup, hne]
      exact ih h.2 hq
theorem nodup_idx {x : List (Int × Int)} (h : (x.map (·.1)).Nodup) {i j : Nat} {p q : Int × Int} (hp : x[j]? = some p) (hq : x[i]? = some q) (he : p.1 = q.1) : j = i := by
  have h1 : (x.map (·.1))[j]? = some p.1 := by rw [List.getElem?_map, hp]; rfl
  have h2 : (x.map (·.1))[i]? = some p.1 := by rw [List.getElem?_map, hq, he]; rfl
  have hj := (List.getElem?_eq_some_iff.1 h1).1
  have hi := (List.getElem?_eq_some_iff.1 h2).1
  rcases Nat.lt_trichotomy j i with hlt | rfl | hlt
  · rw [List.Nodup, List.pairwise_iff_getElem] at h
    have := h j i hj hi hlt
    rw [(List.getElem?_eq_some_iff.1 h1).2, (List.getElem?_eq_some_iff.1 h2).2] at this
    exact absurd rfl this
  · rfl
  · rw [List.Nodup, List.pairwise_iff_getElem] at h
    have := h i j hi hj hlt
    rw [(List.getElem?_eq_some_iff.1 h1).2, (List.getElem?_eq_some_iff.1 h2).2] at this
    exact absurd rfl this
def goodX (n : Nat) (x : List (Int × Int)) : Prop := (x.map (·.1)).Nodup ∧ ∀ p ∈ x, 0 ≤ p.1 ∧ p.1 < n ∧ 0 ≤ p.2 ∧ p.2 ≤ 1
theorem narrow1_spec (D : List Int) (l x : List (Int × Int)) (hx : goodX D.length x) :
    ECallP Try.prog 77 [.omp 1000010, .ptr 1000000 0, .ptr 1000002 0] (nM D l x) fun r M' => r = pB true ∧ ∃ l', M' = nM D l' x ∧ ∀ v, getL l' v = if okX D x then addX l x v else getL l v := by
  refine ecallP_wp Try.func77 rfl (by kernel_rfl) ?_
  simp -dsimp
  refine wk_loop (fun seen : List Nat => ⟨[(10, .ptr 10 0), (0, .omp 1000010), (1, .ptr 1000000 0), (2, .ptr 1000002 0)], (10, .iter 1000010 x.length seen) :: nM D l x⟩)
    (fun seen => ∀ i ∈ seen, ∀ p, x[i]? = some p → live D p.1 p.2 = true) (fun seen => unseen x.length seen) [] (le_of (by simp) (by simp)) (by simp) fun seen hJ => ?_
  simp -dsimp
  refine NextG.by (by decide) (by simp) (fun hall => ?_) (fun i p hp hns => ?_)
  rotate_left
  · obtain ⟨q, hq, rfl⟩ := mI_get hp
    have hil : i < x.length := (List.getElem?_eq_some_iff.1 hq).1
    obtain ⟨h1, h2, h3, h4⟩ := hx.2 q (List.mem_of_getElem? hq)
    have h2' : q.1.toNat < D.length := by omega
    have hD : (D.getD q.1.toNat 0) = D[q.1.toNat] := by simp [h2']
    simp -dsimp [hp, h1, h2, h3]
    refine condX_of (fun hc => ?_) (fun hc => ?_)
    · have hdead : okX D x = false := by
        rw [okX, List.all_eq_false]
        refine ⟨q, List.mem_of_getElem? hq, ?_⟩
        rw [live, hD, hc]
        simp
      simp -dsimp
      refine retEP_c (pB true) (nM D l x) ⟨rfl, l, rfl, fun v => by rw [hdead]; rfl⟩ (by simp) (by simp)
    · simp -dsimp
      refine LoopP_next (i :: seen) (le_of (by simp) (by simp)) (fun j hj p' hp' => ?_) (unseen_lt hil hns)
      rcases List.mem_cons.1 hj with rfl | hj
      · rw [hq] at hp'
        cases hp'
        rw [live, hD, hc]
        rfl
      · exact hJ j hj p' hp'
  have hok : okX D x = true := by
    rw [okX, List.all_eq_true]
    intro p hp
    obtain ⟨i, hi, rfl⟩ := List.getElem_of_mem hp
    exact hJ i (hall i hi) _ (by simp)
  simp -dsimp
  refine wk_loop (fun q : List Nat × List (Int × Int) => ⟨[(25, .ptr 25 0), (0, .omp 1000010), (1, .ptr 1000000 0), (2, .ptr 1000002 0)], (25, .iter 1000010 x.length q.1) :: nM D q.2 x⟩)
    (fun q => (∀ i ∈ q.1, i < x.length) ∧ ∀ v, getL q.2 v = if ∃ i ∈ q.1, ∃ p, x[i]? = some p ∧ p.1 = v then addX l x v else getL l v) (fun q => unseen x.length q.1) ([], l) (le_of (by simp) (by simp)) ⟨by simp, by simp⟩ fun ⟨seen', l'⟩ ⟨hlt, hJ'⟩ => ?_
  dsimp only at hlt hJ'
  simp -dsimp
  refine NextG.by (by decide) (by simp) (fun hall' => ?_) (fun i p hp hns => ?_)
  · simp -dsimp
    refine retEP_c (pB true) (nM D l' x) ⟨rfl, l', rfl, fun v => ?_⟩ (by simp) (by simp)
    rw [hok, if_pos rfl, hJ' v]
    split
    · rfl
    · rename_i hno
      rw [addX]
      cases hlk : x.lookup v with
      | none => rfl
      | some y =>
        exfalso
        apply hno
        obtain ⟨l1, l2, hxe, _⟩ := List.lookup_eq_some_iff.1 hlk
        refine ⟨l1.length, hall' _ (by rw [hxe]; simp), (v, y), ?_, rfl⟩
        rw [hxe]
        simp
  · obtain ⟨q, hq, rfl⟩ := mI_get hp
    have hil : i < x.length := (List.getElem?_eq_some_iff.1 hq).1
    obtain ⟨h1, h2, h3, h4⟩ := hx.2 q (List.mem_of_getElem? hq)
    simp -dsimp [hp, h3]
    refine wk_draw 5 [] mixed (by kernel_rfl) ?_
    simp -dsimp [h3]
    have hlkx : x.lookup q.1 = some q.2 := lookup_of hx.1 hq
    have hold : getL l' q.1 = getL l q.1 := by
      rw [hJ' q.1, if_neg]
      rintro ⟨j, hj, p', hp', he⟩
      have : j = i := nodup_idx hx.1 hp' hq he
      subst this
      exact hns hj
    have hnext : ∀ v, getL (setI l' q.1 (orI (getL l' q.1) (shlI 1 q.2.toNat))) v = if ∃ j ∈ i :: seen', ∃ p, x[j]? = some p ∧ p.1 = v then addX l x v else getL l v := by
      intro v
      rw [getL, lookup_setI]
      by_cases hv : v = q.1
      · subst hv
        rw [if_pos (by simp), if_pos ⟨i, by simp, q, hq, rfl⟩, addX, hlkx, hold]
        rfl
      · rw [if_neg (by simpa using hv)]
        have := hJ' v
        rw [getL] at this
        rw [this]
        have hiff : (∃ j ∈ i :: seen', ∃ p, x[j]? = some p ∧ p.1 = v) ↔ ∃ j ∈ seen', ∃ p, x[j]? = some p ∧ p.1 = v := by
          constructor
          · rintro ⟨j, hj, p', hp', he⟩
            rcases List.mem_cons.1 hj with rfl | hj
            · rw [hq] at hp'
              cases hp'
              exact absurd he.symm hv
            · exact ⟨j, hj, p', hp', he⟩
          · rintro ⟨j, hj, r⟩
            exact ⟨j, List.mem_cons_of_mem _ hj, r⟩
        simp only [hiff]
    have hlt' : ∀ j ∈ i :: seen', j < x.length := fun j hj => by
      rcases List.mem_cons.1 hj with rfl | hj
      · exact hil
      · exact hlt j hj
    cases hlk : l'.lookup q.1 with
    | none =>
      have hg : getL l' q.1 = 0 := by rw [getL, hlk]; rfl
      rw [hg] at hnext
      simp -dsimp [h3]
      exact LoopP_next (i :: seen', setI l' q.1 (orI 0 (shlI 1 q.2.toNat))) (le_of (by simp) (by simp)) ⟨hlt', hnext⟩ (unseen_lt hil hns)
    | some y =>
      have hg : getL l' q.1 = y := by rw [getL, hlk]; rfl
      rw [hg] at hnext
      simp -dsimp [h3]
      exact LoopP_next (i :: seen', setI l' q.1 (orI y (shlI 1 q.2.toNat))) (le_of (by simp) (by simp)) ⟨hlt', hnext⟩ (unseen_lt hil hns)
end Go.Proofs.Ytmneioafbkknhaa
