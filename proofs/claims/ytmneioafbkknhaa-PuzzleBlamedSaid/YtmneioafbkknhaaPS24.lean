import Derived.Test.YtmneioafbkknhaaPS23
/- PS24: everything that is our own, given away for good: it becomes a tree. -/
set_option linter.unusedVariables false
set_option linter.unusedSimpArgs false
namespace Go.PS
open Go Go.RowKit

def frzP (s : StL) (p : PV) : PV := match frzT 6 s p with
  | some (k, x) => .t k x
  | none => .undef
def frzA (s : StL) : StL := ⟨s.T.map fun p => (p.1, frzP s p.2), []⟩

theorem getT_map (f : PV → PV) (hf : f .undef = .undef) : ∀ (T : List (Nat × PV)) (t : Nat), getT (T.map fun p => (p.1, f p.2)) t = f (getT T t)
  | [], t => hf.symm
  | (k, p) :: T, t => by
    simp only [List.map_cons, getT]
    by_cases e : k = t
    · rw [if_pos e, if_pos e]
    · rw [if_neg e, if_neg e]
      exact getT_map f hf T t

section
variable {P : Program} {w0 : Base} {F0 : Nat → Prop} {n : Nat} {s : StL} {a : Act} {w : World}

theorem frzA_sim (h : Sim w0 F0 n s a w) : Sim w0 F0 n (frzA s) a w := by
  obtain ⟨φ, fp, h⟩ := h
  refine ⟨φ, fun _ _ => False, fun m g hg => hg, fun _ _ _ h1 _ => h1.elim, fun _ _ h1 => h1.elim, fun t => ?_, h.evo, h.size, h.dfr, h.fix⟩
  have e : getT (frzA s).T t = frzP s (getT s.T t) := getT_map (frzP s) (by simp only [frzP, frzT]) s.T t
  rw [e]
  unfold frzP
  split
  · rename_i k x hx
    exact .t (frzT_rep h h.dfr.2 6 _ k x _ hx (h.tmp t))
  · exact .undef _

/-- A region in which all is given away before some operations. -/
def RunZ (P : Program) (n : Nat) (ops : Array Oper) (zs : List Nat) : Nat → List Oper → StL → (StL → Prop) → Prop
  | _, [], s, K => K s
  | i, o :: l, s, K => match wantPV ops (if zs.contains i then frzA s else s) o with
    | some true => OpW P n o.dst (if zs.contains i then frzA s else s) o.op fun s' => RunZ P n ops zs (i + 1) l s' K
    | some false => (∀ d, o.dst = some d → d < n) ∧ RunZ P n ops zs (i + 1) l (skipS (if zs.contains i then frzA s else s) o.dst) K
    | none => False

theorem runZ_wp {ops : Array Oper} {zs : List Nat} {Q : Exit → Act → World → Prop} : ∀ (l : List Oper) (i : Nat) {s : StL} {a : Act} {w : World} {K : StL → Prop}, Sim w0 F0 n s a w → RunZ P n ops zs i l s K → (∀ s' a' w', K s' → Sim w0 F0 n s' a' w' → Q .normal a' w') → wpList P ops Q l a w
  | [], i, s, a, w, K, h, hr, hk => hk _ _ _ hr h
  | o :: rest, i, s, a, w, K, h, hr, hk => by
    have h' : Sim w0 F0 n (if zs.contains i then frzA s else s) a w := by
      split
      · exact frzA_sim h
      · exact h
    simp only [RunZ] at hr
    generalize (if zs.contains i then frzA s else s) = s1 at h' hr
    simp only [wpList]
    split at hr
    · rename_i hw
      rw [want_rep h' hw, if_pos rfl]
      exact .inl (opW_wp h' hr (fun s' a' w' h1 h2 => runZ_wp rest (i + 1) h2 h1 hk))
    · rename_i hw
      rw [want_rep h' hw, if_neg (by simp)]
      exact runZ_wp rest (i + 1) (skip_sim h' o.dst hr.1) hr.2 hk
    · exact hr.elim

end

section
variable {P : Program} {n : Nat}
def RunZG (P : Program) (n : Nat) (ops : Array Oper) (zs : List Nat) (i : Nat) (l : List Oper) (s : StL) (K : StL → Prop) (wo : Wit (ops, zs)) (wK : Wit (l, K)) : Prop := RunZ P n ops zs i l s K
@[simp ↓] theorem RunZG_nil (ops : Array Oper) (zs : List Nat) (i : Nat) (s : StL) (K : StL → Prop) (wo : Wit (ops, zs)) (wK : Wit (([] : List Oper), K)) : RunZG P n ops zs i [] s K wo wK = K s := rfl
@[simp ↓] theorem RunZG_cons (ops : Array Oper) (zs : List Nat) (i : Nat) (o : Oper) (l : List Oper) (s : StL) (K : StL → Prop) (wo : Wit (ops, zs)) (wK : Wit (o :: l, K)) :
    RunZG P n ops zs i (o :: l) s K wo wK = optS (some (if zs.contains i then frzA s else s)) (fun s1 => condX (wantPV ops s1 o) (opX P n o.dst s1 o.op (fun s' => RunZG P n ops zs (i + 1) l s' K ⟨⟩ ⟨⟩) ⟨⟩) ((∀ d, o.dst = some d → d < n) ∧ RunZG P n ops zs (i + 1) l (skipS s1 o.dst) K ⟨⟩ ⟨⟩) ⟨⟩ ⟨⟩) ⟨⟩ := by
  show RunZ P n ops zs i (o :: l) s K = _
  conv => lhs; unfold RunZ
  simp only [optS_some]
  generalize (if zs.contains i then frzA s else s) = s1
  cases h : wantPV ops s1 o with
  | none => rfl
  | some b =>
    cases b
    · simp only [condX_false]; rfl
    · simp only [condX_true, OpW_eq]; rfl

/-- A walk that is held. -/
def CodeH (P : Program) (n : Nat) (c : Code) (s : StL) (Q : Exit → StL → Prop) (wc : Wit c) (wQ : Wit Q) : Prop := CodeW P n c s Q
theorem codeH_go {c : Code} {s : StL} {Q : Exit → StL → Prop} {wc : Wit c} {wQ : Wit Q} (h : wpk P n c s Q) : CodeH P n c s Q wc wQ := wpk_sound _ _ _ h
theorem codeH_seq {id : Nat} {l : List Oper} {y : Code} {s : StL} {Q : Exit → StL → Prop} {wc : Wit (Code.seq (.region id l.toArray false) y)} {wQ : Wit Q} (zs : List Nat)
    (h : RunZG P n l.toArray zs 0 l s (fun s' => CodeH P n y s' Q ⟨⟩ ⟨⟩) ⟨⟩ ⟨⟩) : CodeH P n (.seq (.region id l.toArray false) y) s Q wc wQ := by
  intro w0 F0 a w hs
  refine wp_seq (wp_region ?_)
  have e1 : ∀ R : Exit → Act → World → Prop, wpOps P l.toArray R (List.range l.toArray.size) = wpList P l.toArray R l := by
    intro R
    have := wpOps_eq_wpList (P := P) (ops := l.toArray) (Q := R) l 0 (fun j => by simp)
    simpa [List.range_eq_range'] using this
  rw [e1]
  refine runZ_wp l 0 hs h fun s' a' w' h1 h2 => ?_
  exact h1 w0 F0 a' w' h2
theorem pcall_h {f : FuncId} {fn : Func} {c : Code} {args : List TL} {r : PV} {Mr : List (Nat × Res)} (hf : P.funcs[f]? = some fn) (hb : fn.body = some c) (hn : (fn.name == "runtime.NumGoroutine") = false)
    (h : CodeH P (args.length + (fn.ntmps - args.length)) c ⟨initT 0 args, []⟩ (EndP P fn r Mr) ⟨⟩ ⟨⟩) : PCall P f args r Mr := pcall_of hf hb hn h
end
attribute [simp] frzA frzP
end Go.PS
