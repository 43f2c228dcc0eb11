import Derived.Test.YtpcmmjmoiplhjaaGreatDoorPSC
/- PSD: a region that draws its order, walked by the sets of what has run. -/
set_option linter.unusedVariables false
set_option linter.unusedSimpArgs false
namespace Go.PS
open Go Go.RowKit
section
variable {P : Program} {n : Nat}
/-- What has run leaves its value. -/
@[simp] def dagT : List (Nat × PV) → List Bool → List (Nat × PV)
  | p :: l, true :: b => p :: dagT l b
  | _ :: l, false :: b => dagT l b
  | _, _ => []
/-- The state behind a set of operations: each leaves a value; one (mt) turns a temporary of before, one (me) turns the memory. -/
@[simp] def dagS (T0 T1 : List (Nat × PV)) (mt : Nat) (vals : List (Nat × PV)) (M0 M1 : List (Nat × Res)) (me : Nat) (b : List Bool) : StL := ⟨dagT vals b ++ (if b.getD mt false then T1 else T0), if b.getD me false then M1 else M0⟩
def dagE (P : Program) (n : Nat) (ops : Array Oper) (S : List Bool → StL) (b : List Bool) : List Nat → Prop
  | [] => True
  | i :: l => opO P n ops (S b) (fun q => (S (b.set i true)).le q) ops[i]? ⟨⟩ ⟨⟩ ∧ dagE P n ops S b l
def dagP (P : Program) (n : Nat) (ops : Array Oper) (S : List Bool → StL) : List (List Bool × List Nat) → Prop
  | [] => True
  | (b, l) :: L => dagE P n ops S b l ∧ dagP P n ops S L
/-- The same, for the walk. -/
def dagEG (P : Program) (n : Nat) (ops : Array Oper) (S : List Bool → StL) (b : List Bool) (l : List Nat) (wo : Wit (ops, S)) : Prop := dagE P n ops S b l
def dagPG (P : Program) (n : Nat) (ops : Array Oper) (S : List Bool → StL) (L : List (List Bool × List Nat)) (wo : Wit (ops, S)) : Prop := dagP P n ops S L
@[simp ↓] theorem dagEG_nil (ops : Array Oper) (S : List Bool → StL) (b : List Bool) (wo : Wit (ops, S)) : dagEG P n ops S b [] wo = True := rfl
@[simp ↓] theorem dagEG_cons (ops : Array Oper) (S : List Bool → StL) (b : List Bool) (i : Nat) (l : List Nat) (wo : Wit (ops, S)) : dagEG P n ops S b (i :: l) wo = (opO P n ops (S b) (fun q => (S (b.set i true)).le q) ops[i]? ⟨⟩ ⟨⟩ ∧ dagEG P n ops S b l wo) := rfl
@[simp ↓] theorem dagPG_nil (ops : Array Oper) (S : List Bool → StL) (wo : Wit (ops, S)) : dagPG P n ops S [] wo = True := rfl
@[simp ↓] theorem dagPG_cons (ops : Array Oper) (S : List Bool → StL) (b : List Bool) (l : List Nat) (L : List (List Bool × List Nat)) (wo : Wit (ops, S)) : dagPG P n ops S ((b, l) :: L) wo = (dagEG P n ops S b l wo ∧ dagPG P n ops S L wo) := rfl
theorem count_set : ∀ {b : List Bool} {i : Nat}, b[i]? = some false → (b.set i true).count false + 1 = b.count false
  | [], i, h => by simp at h
  | x :: b, 0, h => by
    simp at h
    subst h
    simp
  | x :: b, i + 1, h => by
    simp at h
    have := count_set h
    cases x <;> simp <;> omega
theorem count_zero : ∀ {b : List Bool}, b.count false = 0 → b.all id = true
  | [], _ => rfl
  | true :: b, h => by
    have h' : b.count false = 0 := by simpa using h
    have := count_zero h'
    rw [List.all_cons, this]
    rfl
  | false :: b, h => by simp at h
theorem all_rep : ∀ {b : List Bool}, b.all id = true → b = List.replicate b.length true
  | [], _ => rfl
  | true :: b, h => by
    have := all_rep (b := b) (by simpa using h)
    rw [List.length_cons, List.replicate_succ, ← this]
  | false :: b, h => by simp at h

variable {w0 : Base} {F0 : Nat → Prop}
end
end Go.PS
