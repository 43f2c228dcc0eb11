import Derived.Test.YtnikonhkbldnnaaDoorPSG
/- PSH: a region that draws its order, walked operation by operation; behind some operations memory of our own is given up. -/
set_option linter.unusedVariables false
set_option linter.unusedSimpArgs false
namespace Go.PS
open Go Go.RowKit
section
variable {P : Program} {n : Nat}
def frz1 (z : List Nat) (s : StL) : StL := match z with
  | [] => s
  | z => frzZ z s
@[simp ↓] theorem frz1_nil (s : StL) : frz1 [] s = s := rfl
@[simp ↓] theorem frz1_cons (x : Nat) (z : List Nat) (s : StL) : frz1 (x :: z) s = frzZ (x :: z) s := rfl
theorem frz1_sim {w0 : Base} {F0 : Nat → Prop} {s : StL} {a : Act} {w : World} (h : Sim w0 F0 n s a w) (z : List Nat) : Sim w0 F0 n (frz1 z s) a w := by
  cases z with
  | nil => exact h
  | cons x z =>
    obtain ⟨φ, fp, hs⟩ := h
    exact ⟨_, _, frzZ_sim hs (x :: z)⟩
def dagZP (P : Program) (n : Nat) (ops : Array Oper) (zs : List (List Nat)) (S : List Bool → StL) : Nat → List (List (Option Bool)) → Prop
  | _, [] => True
  | i, p :: ps => allB p (fun bs => opO P n ops (S bs) (fun q => (S (bs.set i true)).le (frz1 (zs.getD i []) q)) ops[i]? ⟨⟩ ⟨⟩) ∧ dagZP P n ops zs S (i + 1) ps
def dagZG (P : Program) (n : Nat) (ops : Array Oper) (zs : List (List Nat)) (S : List Bool → StL) (i : Nat) (L : List (List (Option Bool))) (wo : Wit (ops, S)) : Prop := dagZP P n ops zs S i L
theorem dagZG_step {ops : Array Oper} {zs : List (List Nat)} {S : List Bool → StL} {i : Nat} {p : List (Option Bool)} {L : List (List (Option Bool))} {wo : Wit (ops, S)} (h1 : allB p (fun bs => opO P n ops (S bs) (fun q => (S (bs.set i true)).le (frz1 (zs.getD i []) q)) ops[i]? ⟨⟩ ⟨⟩))
    (h2 : dagZG P n ops zs S (i + 1) L wo) : dagZG P n ops zs S i (p :: L) wo := ⟨h1, h2⟩
theorem dagZG_end {ops : Array Oper} {zs : List (List Nat)} {S : List Bool → StL} {i : Nat} {wo : Wit (ops, S)} : dagZG P n ops zs S i [] wo := trivial
theorem dagZP_get {ops : Array Oper} {zs : List (List Nat)} {S : List Bool → StL} : ∀ {L : List (List (Option Bool))} {i : Nat}, dagZP P n ops zs S i L → ∀ k p, L[k]? = some p → allB p (fun bs => opO P n ops (S bs) (fun q => (S (bs.set (i + k) true)).le (frz1 (zs.getD (i + k) []) q)) ops[i + k]? ⟨⟩ ⟨⟩)
  | [], i, h, k, p, hk => by simp at hk
  | q :: L, i, h, 0, p, hk => by
    simp at hk
    subst hk
    exact h.1
  | q :: L, i, h, k + 1, p, hk => by
    have := dagZP_get h.2 k p (by simpa using hk)
    rwa [show i + 1 + k = i + (k + 1) by omega] at this
variable {w0 : Base} {F0 : Nat → Prop}
theorem dagZ_sound {ops : Array Oper} {zs : List (List Nat)} {S : List Bool → StL} {D : List (List Nat)} {topo : List Nat} {pats : List (List (Option Bool))} {Q : Exit → Act → World → Prop} (hok : dagSOk ops D topo pats = true) (h : dagZP P n ops zs S 0 pats)
    (hQ : ∀ a w, Sim w0 F0 n (S (List.replicate ops.size true)) a w → Q .normal a w) :
    ∀ (fuel : Nat) (l : List Bool), l.length = ops.size → InvD D l → l.count false = fuel → ∀ (a : Act) (w : World), Sim w0 F0 n (S l) a w → wpAny P .any ops Q fuel l.toArray a w := by
  simp only [dagSOk, Bool.and_eq_true, List.all_eq_true, List.mem_range, beq_iff_eq] at hok
  obtain ⟨o1, o2, o3, o4, o5, o6⟩ := hok
  intro fuel
  induction fuel with
  | zero =>
    intro l hl hI hc a w hs
    have ha := all_rep (count_zero hc)
    have hr : Region.ready .any ops l.toArray = [] := by
      rw [List.eq_nil_iff_forall_not_mem]
      intro i hi
      have h2 := ((ready_mem hl).1 hi).2.1
      have h3 := List.mem_of_getElem? h2
      have := List.count_pos_iff.2 h3
      omega
    refine ⟨hr, hQ a w ?_⟩
    rw [← hl, ← ha]
    exact hs
  | succ fuel ih =>
    intro l hl hI hc a w hs
    refine ⟨fun hr => ?_, fun i hi => ?_⟩
    · exfalso
      have hf : false ∈ l := List.count_pos_iff.1 (by omega)
      obtain ⟨k, hk, hkf⟩ := List.mem_iff_getElem.1 hf
      have hk2 : l[k]? = some false := by rw [List.getElem?_eq_getElem hk, hkf]
      obtain ⟨i, hi⟩ := topo_ready hl o3 (by simp) ⟨k, by simpa using o4 k (by omega), hk2⟩
      rw [hr] at hi
      cases hi
    · obtain ⟨r1, r2, r3⟩ := (ready_mem hl).1 hi
      have hDi : ∀ j ∈ D.getD i [], l.getD j false = true := fun j hj => by
        have := (o5 i r1).2 j hj
        rw [Bool.or_eq_true] at this
        rcases this with h' | h'
        · exact r3 j (by simpa using h')
        · obtain ⟨m, hm, hmj⟩ := List.any_eq_true.1 h'
          exact hI m (r3 m hm) j (by simpa using hmj)
      have hp : pats[i]? = some (pats.getD i []) := by
        have : i < pats.length := by omega
        simp [List.getD_eq_getElem?_getD, this]
      have hfit : fits (pats.getD i []) l := by
        have hpo := o6 i r1
        rw [patOk, Bool.and_eq_true, beq_iff_eq, List.all_eq_true] at hpo
        refine fits_of (by omega) fun j v hj => ?_
        have hjl : j < ops.size := by
          have := (List.getElem?_eq_some_iff.1 hj).1
          omega
        have := hpo.2 j (List.mem_range.2 hjl)
        rw [hj] at this
        have hjl' : j < l.length := by omega
        cases v with
        | true =>
          have h' := hDi j (by simpa using this)
          simp [List.getD_eq_getElem?_getD, hjl'] at h'
          simp [hjl', h']
        | false =>
          simp only [Bool.or_eq_true, beq_iff_eq] at this
          rcases this with h' | h'
          · subst h'
            exact r2
          · cases hv : l[j]? with
            | none => rw [List.getElem?_eq_none_iff] at hv; omega
            | some x =>
              cases x with
              | false => rfl
              | true =>
                have h2 := hI j (by simp [List.getD_eq_getElem?_getD, hv]) i (by simpa using h')
                simp [List.getD_eq_getElem?_getD, r2] at h2
      have hstep := allB_use (dagZP_get h i _ hp) hfit
      rw [Nat.zero_add] at hstep
      have hcs := count_set r2
      refine opO_wp hs hstep fun s' a' w' hle hs' => ?_
      have hs2 := (frz1_sim hs' _).weak hle
      have hil : i < l.length := by omega
      have := ih (l.set i true) (by simpa using hl) (fun k hk j hj => ?_) (by omega) a' w' hs2
      · simpa using this
      · have hset : ∀ q, (l.set i true).getD q false = if i = q then true else l.getD q false := fun q => by
          simp only [List.getD_eq_getElem?_getD, List.getElem?_set]
          split
          · rename_i e; subst e; simp [hil]
          · rfl
        rw [hset] at hk ⊢
        split
        · rfl
        · by_cases e : i = k
          · subst e
            exact hDi j hj
          · rw [if_neg e] at hk
            exact hI k hk j hj
theorem wk_dagZ {id : Nat} (zs : List (List Nat)) (S : List Bool → StL) (D : List (List Nat)) (topo : List Nat) (pats : List (List (Option Bool))) {l : List Oper} {s : StL} {Q : Exit → StL → Prop} {wo : Wit l.toArray} {wQ : Wit Q} (hm : P.follows .mixedOrders = true)
    (hok : dagSOk l.toArray D topo pats = true) (h0 : (S (List.replicate l.length false)).le s) (h : dagZG P n l.toArray zs S 0 pats ⟨⟩) (hQ : Q .normal (S (List.replicate l.length true))) : DrawG P n id l.toArray s Q wo wQ := by
  intro w0 F0 a w hs
  refine wp_region_any hm ?_
  have hs' : Sim w0 F0 n s a { w with drawn := w.drawn + 1 } := by
    obtain ⟨φ, fp, hx⟩ := hs
    exact ⟨φ, fp, hx.same rfl rfl rfl rfl⟩
  have hsz : l.toArray.size = l.length := by simp
  have := dagZ_sound (Q := fun e a w => ∃ s', Q e s' ∧ Sim w0 F0 n s' a w) hok h (fun a w hs => ⟨_, hQ, by rw [hsz] at hs; exact hs⟩) l.length (List.replicate l.length false) (by simp) (fun k hk j hj => by
    have : (List.replicate l.length false).getD k false = false := by
      rw [List.getD_eq_getElem?_getD]
      cases h : (List.replicate l.length false)[k]? with
      | none => rfl
      | some x => exact (List.mem_replicate.1 (List.mem_of_getElem? h)).2
    rw [this] at hk
    cases hk) (by simp) a _ (hs'.weak h0)
  rw [hsz]
  simpa using this
end
end Go.PS
