import Derived.Test.YtpcmmjmoiplhjaaGreatDoorPSF
/- PSG: a region that draws its order, and makes memory in parts that do not wait for each other. -/
set_option linter.unusedVariables false
set_option linter.unusedSimpArgs false
namespace Go.PS
open Go Go.RowKit
@[simp] theorem men_dead (m : Nat) : Res.men m .dead = false := rfl
@[simp] theorem men_row (m ty sz : Nat) (k : Kind) (xs : List (List TL)) : Res.men m (.row ty sz k xs) = false := rfl
@[simp] theorem men_blk (m ty : Nat) (cs : List PV) : Res.men m (.blk ty cs) = PV.menL m cs := rfl
@[simp] theorem men_tab (m : Nat) (k : Kind) (es : List (Value × TL)) : Res.men m (.tab k es) = false := rfl
@[simp] theorem kill_dead (m : Nat) : Res.kill m .dead = .dead := rfl
@[simp] theorem kill_row (m ty sz : Nat) (k : Kind) (xs : List (List TL)) : Res.kill m (.row ty sz k xs) = .row ty sz k xs := rfl
@[simp] theorem kill_blk (m ty : Nat) (cs : List PV) : Res.kill m (.blk ty cs) = .blk ty (cs.map fun x => if x.men m then .undef else x) := rfl
@[simp] theorem kill_tab (m : Nat) (k : Kind) (es : List (Value × TL)) : Res.kill m (.tab k es) = .tab k es := rfl
@[simp] theorem cndR_kill (b : Bool) (r : Res) (m : Nat) : Res.kill m (cndR b r) = cndR b (Res.kill m r) := by cases b <;> rfl
@[simp] theorem cndR_men (b : Bool) (r : Res) (m : Nat) : Res.men m (cndR b r) = (b && Res.men m r) := by cases b <;> rfl
/-- Names that may not be there yet are out of sight. -/
def hideS (z : List Nat) (s : StL) : StL := match z with
  | [] => s
  | z => ⟨s.T, s.M.filter fun p => !z.contains p.1⟩
@[simp] theorem hideS_nil (s : StL) : hideS [] s = s := rfl
@[simp] theorem hideS_cons (x : Nat) (z : List Nat) (s : StL) : hideS (x :: z) s = ⟨s.T, s.M.filter fun p => !(x :: z).contains p.1⟩ := rfl
/-- None of these names is spoken of. -/
def clearOf (z : List Nat) (q : PV) (r : Option Res) : Bool := z.all fun x => !q.men x && match r with
  | some r => !r.men x
  | none => true
def DrawZ (P : Program) (n : Nat) (ops : Array Oper) (m : Nat) (As : List Nat) (Zs : List (List Nat)) : Nat → List Oper → StL → (StL → Prop) → Prop
  | _, [], s, K => K s
  | i, o :: rest, s, K => if i < m then match o.dst with
      | none => False
      | some d => d < n ∧ EffW P ops o d (hideS (Zs.getD i []) s) fun q res => ((res.isSome = true → As.contains i = true ∧ s.free d = true) ∧ clearOf (Zs.getD i []) q res = true) ∧ DrawZ P n ops m As Zs (i + 1) rest (app1 d q res s) K
    else RunW P n ops (o :: rest) s K
section
variable {P : Program} {n : Nat} {ops : Array Oper}
end
/-- What is known of a region that passes. -/
structure PassesZ (ops : Array Oper) (m : Nat) (As : List Nat) (Zs : List (List Nat)) (D : List Nat) : Prop where
  le : m ≤ ops.size
  back : ∀ i o e, ops[i]? = some o → e ∈ o.after.toList → Region.binds .any e = true → e.on < i
  fix : ∀ i o k, ops[i]? = some o → dep D k i = true → ∃ e ∈ o.after.toList, Region.binds .any e = true ∧ (e.on = k ∨ dep D k e.on = true)
  look : ∀ i o t j, i < m → ops[i]? = some o → t ∈ o.looksAt ops → j < m → dstAt ops j = t → j = i ∨ (j < i ∧ dep D j i = true) ∨ (i < j ∧ dep D i j = true)
  uniq : ∀ i j, i < m → j < m → dstAt ops i = dstAt ops j → i = j
  born : ∀ i j, i < m → j < m → As.contains i = true → i < j → dep D i j = true ∨ (Zs.getD j []).contains (dstAt ops i) = true
  seq : ∀ i j, m ≤ i → i < ops.size → j < i → dep D j i = true

section
variable {P : Program} {n : Nat} {ops : Array Oper} {w0 : Base} {F0 : Nat → Prop}
end
section
variable {P : Program} {n : Nat}

/-- One operation more. -/
def DrawZL (P : Program) (n : Nat) (ops : Array Oper) (m : Nat) (As : List Nat) (Zs : List (List Nat)) (i : Nat) (l : List Oper) (s : StL) (K : StL → Prop) (wo : Wit (ops, As, Zs)) (wK : Wit (l, K)) : Prop := DrawZ P n ops m As Zs i l s K
@[simp ↓] theorem DrawZL_nil (ops : Array Oper) (m : Nat) (As : List Nat) (Zs : List (List Nat)) (i : Nat) (s : StL) (K : StL → Prop) (wo : Wit (ops, As, Zs)) (wK : Wit (([] : List Oper), K)) : DrawZL P n ops m As Zs i [] s K wo wK = K s := rfl
def drawZY (P : Program) (n : Nat) (ops : Array Oper) (m : Nat) (As : List Nat) (Zs : List (List Nat)) (i : Nat) (o : Oper) (l : List Oper) (s : StL) (K : StL → Prop) (wo : Wit (ops, As, Zs)) (wK : Wit (o, l, K)) (dst : Option Nat) (z : List Nat) : Prop :=
  match dst with
  | none => False
  | some d => d < n ∧ optS (some (hideS z s)) (fun s1 => condX (wantPV ops s1 o) (effX P s1 d o.op (fun q res => ((res.isSome = true → As.contains i = true ∧ s.free d = true) ∧ clearOf z q res = true) ∧ DrawZL P n ops m As Zs (i + 1) l (app1 d q res s) K ⟨⟩ ⟨⟩) ⟨⟩)
        (DrawZL P n ops m As Zs (i + 1) l (app1 d skipPV none s) K ⟨⟩ ⟨⟩) ⟨⟩ ⟨⟩) ⟨⟩
def drawZX (P : Program) (n : Nat) (ops : Array Oper) (m : Nat) (As : List Nat) (Zs : List (List Nat)) (i : Nat) (o : Oper) (l : List Oper) (s : StL) (K : StL → Prop) (wo : Wit (ops, As, Zs)) (wK : Wit (o, l, K)) (b : Bool) : Prop :=
  match b with
  | true => drawZY P n ops m As Zs i o l s K wo wK o.dst (Zs.getD i [])
  | false => RunG P n ops (o :: l) s K ⟨⟩ ⟨⟩
theorem clearOf_skip (z : List Nat) : clearOf z skipPV none = true := by
  simp [clearOf, PV.men]
@[simp ↓] theorem DrawZL_cons (ops : Array Oper) (m : Nat) (As : List Nat) (Zs : List (List Nat)) (i : Nat) (o : Oper) (l : List Oper) (s : StL) (K : StL → Prop) (wo : Wit (ops, As, Zs)) (wK : Wit (o :: l, K)) :
    DrawZL P n ops m As Zs i (o :: l) s K wo wK = drawZX P n ops m As Zs i o l s K ⟨⟩ ⟨⟩ (decide (i < m)) := by
  show DrawZ P n ops m As Zs i (o :: l) s K = _
  conv => lhs; unfold DrawZ
  by_cases h : i < m
  · rw [if_pos h, decide_eq_true h]
    show _ = drawZY P n ops m As Zs i o l s K ⟨⟩ ⟨⟩ o.dst (Zs.getD i [])
    unfold drawZY
    cases o.dst with
    | none => rfl
    | some d =>
      simp only [EffW_eq, optS_some]
      cases wantPV ops (hideS (Zs.getD i []) s) o with
      | none => rfl
      | some b =>
        cases b
        · simp only [condX_false, Option.isSome_none, Bool.false_eq_true, false_implies, true_and, clearOf_skip]
          rfl
        · simp only [condX_true]
          rfl
  · rw [if_neg h, decide_eq_false h]
    rfl
@[simp] theorem drawZX_true (ops : Array Oper) (m : Nat) (As : List Nat) (Zs : List (List Nat)) (i : Nat) (o : Oper) (l : List Oper) (s : StL) (K : StL → Prop) (wo : Wit (ops, As, Zs)) (wK : Wit (o, l, K)) : drawZX P n ops m As Zs i o l s K wo wK true = drawZY P n ops m As Zs i o l s K wo wK o.dst (Zs.getD i []) := rfl
@[simp] theorem drawZX_false (ops : Array Oper) (m : Nat) (As : List Nat) (Zs : List (List Nat)) (i : Nat) (o : Oper) (l : List Oper) (s : StL) (K : StL → Prop) (wo : Wit (ops, As, Zs)) (wK : Wit (o, l, K)) : drawZX P n ops m As Zs i o l s K wo wK false = RunG P n ops (o :: l) s K ⟨⟩ ⟨⟩ := rfl
@[simp] theorem drawZY_some (ops : Array Oper) (m : Nat) (As : List Nat) (Zs : List (List Nat)) (i : Nat) (o : Oper) (l : List Oper) (s : StL) (K : StL → Prop) (wo : Wit (ops, As, Zs)) (wK : Wit (o, l, K)) (d : Nat) (z : List Nat) : drawZY P n ops m As Zs i o l s K wo wK (some d) z =
  (d < n ∧ optS (some (hideS z s)) (fun s1 => condX (wantPV ops s1 o) (effX P s1 d o.op (fun q res => ((res.isSome = true → As.contains i = true ∧ s.free d = true) ∧ clearOf z q res = true) ∧ DrawZL P n ops m As Zs (i + 1) l (app1 d q res s) K ⟨⟩ ⟨⟩) ⟨⟩)
        (DrawZL P n ops m As Zs (i + 1) l (app1 d skipPV none s) K ⟨⟩ ⟨⟩) ⟨⟩ ⟨⟩) ⟨⟩) := rfl
attribute [simp] clearOf
end
end Go.PS
