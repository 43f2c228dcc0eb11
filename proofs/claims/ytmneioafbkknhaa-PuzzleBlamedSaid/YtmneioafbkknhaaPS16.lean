/- PS16: the rules by which a body is walked. -/
import Derived.Test.YtmneioafbkknhaaPS15
set_option linter.unusedVariables false
set_option linter.unusedSimpArgs false
namespace Go.PS
open Go Go.RowKit

section
variable {P : Program} {n : Nat} {s : StL}

theorem ev_tmp (t : Nat) : ev s (.tmp t) = getT s.T t := rfl
theorem ev_int (k : IntKind) (i : Int) : ev s (.const (.int k i)) = .t .fz (.v (.int k i)) := rfl
theorem ev_bool (b : Bool) : ev s (.const (.bool b)) = .t .fz (.v (.bool b)) := rfl
theorem ev_str (b : ByteArray) : ev s (.const (.string b)) = .t .fz (.v (.string b)) := rfl
theorem ev_sl (a : Option Addr) (l c : Nat) : ev s (.const (.slice a l c)) = .t .fz (.v (.slice a l c)) := rfl
theorem ev_map (r : Option Nat) : ev s (.const (.map r)) = .t .fz (.v (.map r)) := rfl
theorem ev_ptr (r : Option Addr) : ev s (.const (.pointer r)) = .t .fz (.v (.pointer r)) := rfl
theorem ev_nilFunc : ev s (.const .nilFunc) = .t .fz (.v .nilFunc) := rfl
theorem ev_nilIface : ev s (.const .nilIface) = .t .fz (.v .nilIface) := rfl
theorem ev_agg (vs : Array Value) : ev s (.const (.agg vs)) = .t .fz (.agg (vs.toList.map .v)) := rfl
theorem ev_func (f : FuncId) : ev s (.func f) = .clo f [] := rfl
theorem getT_hit (k : Nat) (p : PV) (l : List (Nat × PV)) : getT ((k, p) :: l) k = p := by simp [getT]
theorem getT_miss {k t : Nat} (p : PV) (l : List (Nat × PV)) (h : (k == t) = false) : getT ((k, p) :: l) t = getT l t := by
  simp only [getT]; rw [if_neg (by simpa using h)]
theorem getM_hit (k : Nat) (p : Res) (l : List (Nat × Res)) : getM ((k, p) :: l) k = p := by simp [getM]
theorem getM_miss {k t : Nat} (p : Res) (l : List (Nat × Res)) (h : (k == t) = false) : getM ((k, p) :: l) t = getM l t := by
  simp only [getM]; rw [if_neg (by simpa using h)]

/-- One operation that changes nothing but its own temporary; what it gives is looked up at once. -/
theorem runW_cons {ops : Array Oper} {o : Oper} {rest : List Oper} {K : StL → Prop} : RunW P n ops (o :: rest) s K = match wantPV ops s o with
    | some true => OpW P n o.dst s o.op fun s' => RunW P n ops rest s' K
    | some false => (∀ d, o.dst = some d → d < n) ∧ RunW P n ops rest (skipS s o.dst) K
    | none => False := rfl

def ThenC (P : Program) (n : Nat) (y : Code) (Q : Exit → StL → Prop) (e : Exit) (s : StL) : Prop :=
  match e with
  | .normal => CodeW P n y s Q
  | e => Q e s

theorem cw_seq {x y : Code} {Q : Exit → StL → Prop} (h : ∀ y', y' = y → CodeW P n x s (ThenC P n y' Q)) : CodeW P n (x.seq y) s Q :=
  codeW_seq fun K hK => (h y rfl).mono fun e s' hq => by
    cases e with
    | normal => exact hK s' hq
    | exit id => exact hq
    | goto l => exact hq
    | ret => exact hq
    | panic ch => exact hq
    | outgrown => exact hq

theorem cw_reg {id : Nat} {ops : Array Oper} {Q : Exit → StL → Prop} (h : ∀ K : StL → Prop, (∀ s', Q .normal s' → K s') → RunW P n ops ops.toList s K) : CodeW P n (.region id ops false) s Q := codeW_region h

/-- What a round leaves. -/
def LoopP {ι : Type} (st : ι → StL) (J : ι → Prop) (μ : ι → Nat) (x : ι) (Q : Exit → StL → Prop) (e : Exit) (s' : StL) : Prop :=
  match e with
  | .normal => ∃ y, J y ∧ (st y).le s' ∧ μ y < μ x
  | e => Q e s'

theorem cw_loop {ι : Type} {body : Code} {Q : Exit → StL → Prop} (st : ι → StL) (J : ι → Prop) (μ : ι → Nat) (x0 : ι) (h0 : J x0) (hs0 : (st x0).le s)
    (round : ∀ x, J x → CodeW P n body (st x) (LoopP st J μ x Q)) : CodeW P n (.loop body) s Q :=
  codeW_loop st J μ x0 h0 hs0 fun x hx => (round x hx).mono fun e s' hq => by
    cases e with
    | normal => exact hq
    | exit id => exact hq
    | goto l => exact hq
    | ret => exact hq
    | panic ch => exact hq
    | outgrown => exact hq

theorem le_of {T T' : List (Nat × PV)} {M M' : List (Nat × Res)} (hT : ∀ p ∈ T', getT T p.1 = p.2 ∨ p.2 = .undef) (hM : ∀ p ∈ M', getM M p.1 = p.2 ∨ p.2 = .dead) : StL.le ⟨T', M'⟩ ⟨T, M⟩ := by
  refine ⟨fun t => ?_, fun m => ?_⟩
  · show getT T' t = getT T t ∨ _
    induction T' with
    | nil => exact .inr rfl
    | cons p l ih =>
      obtain ⟨k, q⟩ := p
      simp only [getT]
      by_cases e : k = t
      · subst e
        rw [if_pos rfl]
        have := hT (k, q) (by simp)
        simp only at this
        exact this.imp (fun h => h.symm) id
      · rw [if_neg e]
        exact ih fun p hp => hT p (List.mem_cons_of_mem _ hp)
  · show getM M' m = getM M m ∨ _
    induction M' with
    | nil => exact .inr rfl
    | cons p l ih =>
      obtain ⟨k, q⟩ := p
      simp only [getM]
      by_cases e : k = m
      · subst e
        rw [if_pos rfl]
        have := hM (k, q) (by simp)
        simp only at this
        exact this.imp (fun h => h.symm) id
      · rw [if_neg e]
        exact ih fun p hp => hM p (List.mem_cons_of_mem _ hp)

theorem retP_frz {fn : Func} {pv : PV} {k : Kind} {x : TL} (h1 : resPV P s fn.results.toList = some pv) (h2 : frzT 6 s pv = some (k, x)) : RetP P fn s (.t k x) [] := ⟨pv, h1, .inl ⟨k, x, h2, rfl, rfl⟩⟩

end
end Go.PS
