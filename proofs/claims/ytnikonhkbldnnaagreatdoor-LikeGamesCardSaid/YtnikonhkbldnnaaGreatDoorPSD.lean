import Derived.Test.YtnikonhkbldnnaaGreatDoorPSC
/- PSD: a region that draws its order, walked by the sets of what has run. -/
set_option linter.unusedVariables false
set_option linter.unusedSimpArgs false
namespace Go.PS
open Go Go.RowKit
section
variable {P : Program} {n : Nat}
/-- What has run leaves its value. -/
@[simp] def dagT : List (Nat × PV) → List Bool → List (Nat × PV)
  | p :: l, true :: b => p :: dagT l b
  | _ :: l, false :: b => dagT l b
  | _, _ => []
/-- The state behind a set of operations: each leaves a value; one (mt) turns a temporary of before, one (me) turns the memory. -/
@[simp] def dagS (T0 T1 : List (Nat × PV)) (mt : Nat) (vals : List (Nat × PV)) (M0 M1 : List (Nat × Res)) (me : Nat) (b : List Bool) : StL := ⟨dagT vals b ++ (if b.getD mt false then T1 else T0), if b.getD me false then M1 else M0⟩
def dagE (P : Program) (n : Nat) (ops : Array Oper) (S : List Bool → StL) (b : List Bool) : List Nat → Prop
  | [] => True
  | i :: l => opO P n ops (S b) (fun q => (S (b.set i true)).le q) ops[i]? ⟨⟩ ⟨⟩ ∧ dagE P n ops S b l
def dagP (P : Program) (n : Nat) (ops : Array Oper) (S : List Bool → StL) : List (List Bool × List Nat) → Prop
  | [] => True
  | (b, l) :: L => dagE P n ops S b l ∧ dagP P n ops S L
/-- The same, for the walk. -/
def dagEG (P : Program) (n : Nat) (ops : Array Oper) (S : List Bool → StL) (b : List Bool) (l : List Nat) (wo : Wit (ops, S)) : Prop := dagE P n ops S b l
def dagPG (P : Program) (n : Nat) (ops : Array Oper) (S : List Bool → StL) (L : List (List Bool × List Nat)) (wo : Wit (ops, S)) : Prop := dagP P n ops S L
@[simp ↓] theorem dagEG_nil (ops : Array Oper) (S : List Bool → StL) (b : List Bool) (wo : Wit (ops, S)) : dagEG P n ops S b [] wo = True := rfl
@[simp ↓] theorem dagEG_cons (ops : Array Oper) (S : List Bool → StL) (b : List Bool) (i : Nat) (l : List Nat) (wo : Wit (ops, S)) : dagEG P n ops S b (i :: l) wo = (opO P n ops (S b) (fun q => (S (b.set i true)).le q) ops[i]? ⟨⟩ ⟨⟩ ∧ dagEG P n ops S b l wo) := rfl
@[simp ↓] theorem dagPG_nil (ops : Array Oper) (S : List Bool → StL) (wo : Wit (ops, S)) : dagPG P n ops S [] wo = True := rfl
@[simp ↓] theorem dagPG_cons (ops : Array Oper) (S : List Bool → StL) (b : List Bool) (l : List Nat) (L : List (List Bool × List Nat)) (wo : Wit (ops, S)) : dagPG P n ops S ((b, l) :: L) wo = (dagEG P n ops S b l wo ∧ dagPG P n ops S L wo) := rfl
def dagOk (ops : Array Oper) (L : List (List Bool × List Nat)) : Bool :=
  L.any (fun p => p.1 == List.replicate ops.size false) &&
  L.all fun p => decide (p.1.length = ops.size) && (Region.ready .any ops p.1.toArray == p.2) && (!p.2.isEmpty || p.1.all id) && (!p.1.all id || p.2.isEmpty) &&
    p.2.all fun i => (ops[i]?).isSome && (p.1[i]? == some false) && L.any fun q => q.1 == p.1.set i true

theorem dagE_mem {ops : Array Oper} {S : List Bool → StL} {b : List Bool} : ∀ {l : List Nat}, dagE P n ops S b l → ∀ i ∈ l, opO P n ops (S b) (fun q => (S (b.set i true)).le q) ops[i]? ⟨⟩ ⟨⟩
  | [], _, i, hi => by cases hi
  | j :: l, h, i, hi => by
    rcases List.mem_cons.1 hi with rfl | hi
    · exact h.1
    · exact dagE_mem h.2 i hi
theorem dagP_mem {ops : Array Oper} {S : List Bool → StL} : ∀ {L : List (List Bool × List Nat)}, dagP P n ops S L → ∀ p ∈ L, dagE P n ops S p.1 p.2
  | [], _, p, hp => by cases hp
  | q :: L, h, p, hp => by
    rcases List.mem_cons.1 hp with rfl | hp
    · exact h.1
    · exact dagP_mem h.2 p hp
theorem count_set : ∀ {b : List Bool} {i : Nat}, b[i]? = some false → (b.set i true).count false + 1 = b.count false
  | [], i, h => by simp at h
  | x :: b, 0, h => by
    simp at h
    subst h
    simp
  | x :: b, i + 1, h => by
    simp at h
    have := count_set h
    cases x <;> simp <;> omega
theorem count_zero : ∀ {b : List Bool}, b.count false = 0 → b.all id = true
  | [], _ => rfl
  | true :: b, h => by
    have h' : b.count false = 0 := by simpa using h
    have := count_zero h'
    rw [List.all_cons, this]
    rfl
  | false :: b, h => by simp at h
theorem all_rep : ∀ {b : List Bool}, b.all id = true → b = List.replicate b.length true
  | [], _ => rfl
  | true :: b, h => by
    have := all_rep (b := b) (by simpa using h)
    rw [List.length_cons, List.replicate_succ, ← this]
  | false :: b, h => by simp at h

variable {w0 : Base} {F0 : Nat → Prop}
theorem dag_sound {ops : Array Oper} {S : List Bool → StL} {L : List (List Bool × List Nat)} {Q : Exit → Act → World → Prop} (hok : dagOk ops L = true) (h : dagP P n ops S L) (hQ : ∀ a w, Sim w0 F0 n (S (List.replicate ops.size true)) a w → Q .normal a w) :
    ∀ (fuel : Nat) (p : List Bool × List Nat), p ∈ L → p.1.count false = fuel → ∀ (a : Act) (w : World), Sim w0 F0 n (S p.1) a w → wpAny P .any ops Q fuel p.1.toArray a w := by
  simp only [dagOk, Bool.and_eq_true, List.all_eq_true] at hok
  intro fuel
  induction fuel with
  | zero =>
    intro p hp hc a w hs
    obtain ⟨⟨⟨⟨h1, h2⟩, h3⟩, h4⟩, h5⟩ := hok.2 p hp
    have ha := count_zero hc
    have hl := of_decide_eq_true h1
    rw [beq_iff_eq] at h2
    rw [ha] at h4
    have he : p.2 = [] := by simpa using h4
    refine ⟨by rw [h2, he], hQ a w ?_⟩
    rw [← hl, ← all_rep ha]
    exact hs
  | succ fuel ih =>
    intro p hp hc a w hs
    obtain ⟨⟨⟨⟨h1, h2⟩, h3⟩, h4⟩, h5⟩ := hok.2 p hp
    have hl := of_decide_eq_true h1
    rw [beq_iff_eq] at h2
    refine ⟨fun hr => ?_, fun i hi => ?_⟩
    · rw [h2] at hr
      rw [hr] at h3
      have ha : p.1.all id = true := by simpa using h3
      refine hQ a w ?_
      rw [← hl, ← all_rep ha]
      exact hs
    · rw [h2] at hi
      obtain ⟨⟨h6, h7⟩, h8⟩ := (Bool.and_eq_true _ _ ▸ (h5 i hi : _) : _ ∧ _).imp (fun h => (Bool.and_eq_true _ _ ▸ h : _ ∧ _)) id
      rw [beq_iff_eq] at h7
      obtain ⟨q, hq, hqe⟩ := List.any_eq_true.1 h8
      rw [beq_iff_eq] at hqe
      have hcs := count_set h7
      refine opO_wp hs (dagE_mem (dagP_mem h p hp) i hi) fun s' a' w' hle hs' => ?_
      have hs2 := hs'.weak hle
      rw [← hqe] at hs2
      have := ih q hq (by rw [hqe]; omega) a' w' hs2
      rw [hqe] at this
      simpa using this
theorem wk_dag {id : Nat} (S : List Bool → StL) (L : List (List Bool × List Nat)) {l : List Oper} {s : StL} {Q : Exit → StL → Prop} {wo : Wit l.toArray} {wQ : Wit Q} (hm : P.follows .mixedOrders = true) (hok : dagOk l.toArray L = true)
    (h0 : (S (List.replicate l.length false)).le s) (h : dagPG P n l.toArray S L ⟨⟩) (hQ : Q .normal (S (List.replicate l.length true))) : DrawG P n id l.toArray s Q wo wQ := by
  intro w0 F0 a w hs
  refine wp_region_any hm ?_
  have hs' : Sim w0 F0 n s a { w with drawn := w.drawn + 1 } := by
    obtain ⟨φ, fp, hx⟩ := hs
    exact ⟨φ, fp, hx.same rfl rfl rfl rfl⟩
  have hok' := hok
  simp only [dagOk, Bool.and_eq_true] at hok'
  obtain ⟨p, hp, hpe⟩ := List.any_eq_true.1 hok'.1
  rw [beq_iff_eq] at hpe
  have hsz : l.toArray.size = l.length := by simp
  have := dag_sound (Q := fun e a w => ∃ s', Q e s' ∧ Sim w0 F0 n s' a w) hok h (fun a w hs => ⟨_, hQ, by rw [hsz] at hs; exact hs⟩) l.length p hp (by rw [hpe]; simp) a _ (by rw [hpe]; exact hs'.weak h0)
  rw [hpe] at this
  rw [hsz] at this ⊢
  simpa using this
end
end Go.PS
