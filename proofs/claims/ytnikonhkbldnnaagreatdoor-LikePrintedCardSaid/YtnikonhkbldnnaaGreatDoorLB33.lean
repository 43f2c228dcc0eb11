import Derived.Test.YtnikonhkbldnnaaGreatDoorLB32
import Derived.Test.YtnikonhkbldnnaaGreatDoorLWA
/- LB33: formulas that the program makes are formulas as they come. -/
set_option linter.unusedVariables false
set_option linter.unusedSimpArgs false
set_option maxRecDepth 20000
namespace Go.Proofs.YtnikonhkbldnnaaGreatDoor
open Go Go.PS
attribute [-simp] isKeyK List.map_take
def ftOf : Fo → FT
  | .eq i j => .mk oEq i j []
  | .adj i j => .mk oAd i j []
  | .no f => .mk oNo 0 0 [ftOf f]
  | .an f g => .mk oAn 0 0 [ftOf f, ftOf g]
  | .ex x f => .mk oEx x 0 [ftOf f]
theorem hasV_nat {x : Nat} (h : x < 4) (u : Bool) (hu : u = true) : hasV x u = true := by
  unfold hasV
  rw [hu]
  simp
  omega
theorem ftOf_shaped : ∀ {f : Fo}, vokF f → shapedF (ftOf f) = true
  | .eq i j, h => by
    rw [ftOf, shapedF, nodeOk, kidsI_eq, hasV_nat h.1 _ (by simp), hasV_nat h.2 _ (by simp)]
    rfl
  | .adj i j, h => by
    rw [ftOf, shapedF, nodeOk, kidsI_ad, hasV_nat h.1 _ (by simp), hasV_nat h.2 _ (by simp)]
    rfl
  | .no f, h => by
    rw [ftOf, shapedF, nodeOk, kidsI_no]
    have := ftOf_shaped (f := f) h
    simp [hasV, shapedL, this]
  | .an f g, h => by
    rw [ftOf, shapedF, nodeOk, kidsI_an]
    have h1 := ftOf_shaped (f := f) h.1
    have h2 := ftOf_shaped (f := g) h.2
    simp [hasV, shapedL, h1, h2]
  | .ex x f, h => by
    rw [ftOf, shapedF, nodeOk, kidsI_ex]
    have h2 := ftOf_shaped (f := f) h.2
    have := hasV_nat h.1 (decide ((1 : Int) = 0) || decide (oEx = oEx)) (by simp)
    rw [this]
    simp [hasV, shapedL, h2]
theorem ftOf_nodes : ∀ f : Fo, nodesF (ftOf f) = szF f
  | .eq i j => by simp [ftOf, nodesF, nodesL, szF]
  | .adj i j => by simp [ftOf, nodesF, nodesL, szF]
  | .no f => by simp [ftOf, nodesF, nodesL, szF, ftOf_nodes f]; omega
  | .an f g => by simp [ftOf, nodesF, nodesL, szF, ftOf_nodes f, ftOf_nodes g]; omega
  | .ex x f => by simp [ftOf, nodesF, nodesL, szF, ftOf_nodes f]; omega
theorem ftOf_dp : ∀ f : Fo, dpF (ftOf f) = htF f
  | .eq i j => by simp [ftOf, dpF, dpL, htF]
  | .adj i j => by simp [ftOf, dpF, dpL, htF]
  | .no f => by simp [ftOf, dpF, dpL, htF, ftOf_dp f]; omega
  | .an f g => by simp [ftOf, dpF, dpL, htF, ftOf_dp f, ftOf_dp g]; omega
  | .ex x f => by simp [ftOf, dpF, dpL, htF, ftOf_dp f]; omega
theorem ftOf_de : ∀ f : Fo, deF (ftOf f) = deepE f
  | .eq i j => by simp [ftOf, deF, deL, deepE, oNo_ne, eq_comm]
  | .adj i j => by simp [ftOf, deF, deL, deepE, oNo_ne, eq_comm]
  | .no f => by simp [ftOf, deF, deL, deepE, ftOf_de f, oNo_ne, eq_comm]
  | .an f g => by simp [ftOf, deF, deL, deepE, ftOf_de f, ftOf_de g, oNo_ne]
  | .ex x f => by simp [ftOf, deF, deL, deepE, ftOf_de f]
theorem ftOf_pr : ∀ f : Fo, prT (ftOf f) = prF f
  | .eq i j => by rw [ftOf, prT]; simp [prF]
  | .adj i j => by rw [ftOf, prT]; simp [prF, oNo_ne]
  | .no f => by rw [ftOf, prT]; simp [prF, oNo_ne, prTL, ftOf_pr f]
  | .an f g => by rw [ftOf, prT]; simp [prF, oNo_ne, prTL, ftOf_pr f, ftOf_pr g]
  | .ex x f => by rw [ftOf, prT]; simp [prF, oNo_ne, prTL, ftOf_pr f]
/-- What a list of such is read as. -/
theorem sl_weak {w : World} {S : Nat → Prop} {xs ys : List (List TL)} {v : Value} (hl : xs.length = ys.length) (h4 : ∀ e ∈ ys, e.length = 4)
    (hxy : ∀ (i j : Nat) (e e' : List TL) (x x' : TL) (u : Value), xs[i]? = some e → ys[i]? = some e' → e[j]? = some x → e'[j]? = some x' → TRep w S x u → TRep w S x' u) (h : TRep w S (.sl .any 4 xs) v) : TRep w S (.sl .any 4 ys) v := by
  cases h with
  | @sl _ _ _ a cap g hcap ht hnn hnil hbd ha hlen hrep =>
    rw [hl] at hcap hbd
    have := TRep.sl (w := w) (S := S) (t := .any) (sz := 4) (xs := ys) (a := a) (cap := cap) g hcap (fun h => by cases h) (fun h => by cases h) hnil hbd (by
      rcases ha with ha | ⟨b, o, h1, h2, h3⟩
      · left
        rw [ha] at hl
        exact List.eq_nil_of_length_eq_zero hl.symm
      · exact .inr ⟨b, o, h1, h2, fun i j hi hj => h3 i j (by omega) hj⟩) h4 (fun i j e' x' he' hx' => by
      have hi := (List.getElem?_eq_some_iff.1 he').1
      have hj := (List.getElem?_eq_some_iff.1 hx').1
      have he4 := h4 e' (List.mem_of_getElem? he')
      have hxi : xs[i]? = some xs[i] := List.getElem?_eq_getElem (by omega)
      have hx4 := hlen xs[i] (List.getElem_mem (by omega))
      have hxj : xs[i][j]? = some xs[i][j] := List.getElem?_eq_getElem (by omega)
      exact hxy i j _ e' _ x' _ hxi he' hxj hx' (hrep i j _ _ hxi hxj))
    rw [← hl] at this
    exact this
theorem ftC_len4 (f : FT) : (ftC f).length = 4 := by
  obtain ⟨o, a, b, ks, rfl⟩ := ft_split f
  rw [ftC_mk]
  rfl
theorem nil4 {w : World} {S : Nat → Prop} {v : Value} (h : TRep w S nilT v) : TRep w S (.sl .any 4 []) v := by
  have hv := h.v_inv
  subst hv
  exact .sl (cap := 0) (fun _ _ => Go.undef) (Nat.le_refl _) (fun h => by cases h) (fun h => by cases h) (fun _ => rfl) (by simp) (.inl rfl) (by simp) (fun i j e x he => by simp at he)
theorem fo_rep : ∀ (f : Fo) (j : Nat) (x x' : TL) (w : World) (S : Nat → Prop) (v : Value), (foC f)[j]? = some x → (ftC (ftOf f))[j]? = some x' → TRep w S x v → TRep w S x' v
  | .eq a b, j, x, x', w, S, v, h1, h2, h => by
    rw [ftOf, ftC_mk] at h2
    rcases j with _ | _ | _ | _ | j
    all_goals simp [foC] at h1 h2
    all_goals subst h1 h2
    · exact h
    · exact h
    · exact h
    · exact nil4 h
  | .adj a b, j, x, x', w, S, v, h1, h2, h => by
    rw [ftOf, ftC_mk] at h2
    rcases j with _ | _ | _ | _ | j
    all_goals simp [foC] at h1 h2
    all_goals subst h1 h2
    · exact h
    · exact h
    · exact h
    · exact nil4 h
  | .no f, j, x, x', w, S, v, h1, h2, h => by
    rw [ftOf, ftC_mk] at h2
    rcases j with _ | _ | _ | _ | j
    all_goals simp [foC] at h1 h2
    all_goals subst h1 h2
    · exact h
    · exact h
    · exact h
    · refine sl_weak (xs := [foC f]) (ys := [ftC (ftOf f)]) rfl (by simp [ftC_len4]) (fun i j e e' x x' u he he' hx hx' hu => ?_) h
      rcases i with _ | i
      · simp at he he'
        subst he he'
        exact fo_rep f j x x' w S u hx hx' hu
      · simp at he
  | .an f g, j, x, x', w, S, v, h1, h2, h => by
    rw [ftOf, ftC_mk] at h2
    rcases j with _ | _ | _ | _ | j
    all_goals simp [foC] at h1 h2
    all_goals subst h1 h2
    · exact h
    · exact h
    · exact h
    · refine sl_weak (xs := [foC f, foC g]) (ys := [ftC (ftOf f), ftC (ftOf g)]) rfl (by simp [ftC_len4]) (fun i j e e' x x' u he he' hx hx' hu => ?_) h
      rcases i with _ | _ | i
      · simp at he he'
        subst he he'
        exact fo_rep f j x x' w S u hx hx' hu
      · simp at he he'
        subst he he'
        exact fo_rep g j x x' w S u hx hx' hu
      · simp at he
  | .ex a f, j, x, x', w, S, v, h1, h2, h => by
    rw [ftOf, ftC_mk] at h2
    rcases j with _ | _ | _ | _ | j
    all_goals simp [foC] at h1 h2
    all_goals subst h1 h2
    · exact h
    · exact h
    · exact h
    · refine sl_weak (xs := [foC f]) (ys := [ftC (ftOf f)]) rfl (by simp [ftC_len4]) (fun i j e e' x x' u he he' hx hx' hu => ?_) h
      rcases i with _ | i
      · simp at he he'
        subst he he'
        exact fo_rep f j x x' w S u hx hx' hu
      · simp at he
theorem foC_four (f : Fo) : (foC f).length = 4 := by
  cases f <;> rfl
theorem fo_agg (f : Fo) (w : World) (S : Nat → Prop) (v : Value) (h : TRep w S (.agg (foC f)) v) : TRep w S (.agg (ftC (ftOf f))) v := by
  cases h with
  | agg vs hs hrep =>
    refine .agg vs (by rw [hs, foC_four, ftC_len4]) fun j x' hx' => ?_
    have hj := (List.getElem?_eq_some_iff.1 hx').1
    rw [ftC_len4] at hj
    have hx : (foC f)[j]? = some ((foC f)[j]'(by rw [foC_four]; exact hj)) := List.getElem?_eq_getElem _
    exact fo_rep f j _ x' w S _ hx hx' (hrep j _ hx)
theorem printFo_spec (f : Fo) (hv : vokF f) (hn : szF f ≤ 20000) : PCall Tryz.prog 56 [.agg (foC f)] (.t .fz (.v (.string ⟨(prF f).toArray⟩))) [] := by
  have h := print_spec (ftOf f) (ftOf_shaped hv) (by rw [ftOf_nodes]; exact hn)
  rw [ftOf_pr] at h
  exact pcall_arg (y := .agg (foC f)) 0 h rfl fun w S v hr => fo_agg f w S v hr
end Go.Proofs.YtnikonhkbldnnaaGreatDoor
