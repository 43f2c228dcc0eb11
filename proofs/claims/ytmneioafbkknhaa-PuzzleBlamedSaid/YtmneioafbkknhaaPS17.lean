/- PS17: an operation looks at few temporaries only, and more memory tells it nothing else. -/
import Derived.Test.YtmneioafbkknhaaPS16
import Derived.Orders
set_option linter.unusedVariables false
set_option linter.unusedSimpArgs false
namespace Go.PS
open Go Go.RowKit

def newVal (P : Program) (s : StL) : Op → Option (Bool × Res)
  | .box t x => match cellsPV (ev s x) with
    | some cs => some (true, .blk t cs)
    | none => none
  | .alloc t => match zT P t with
    | some z => some (true, .blk t (z.map fun c => PV.t .fz (.v c)))
    | none => none
  | .buildSlice t len parts => match elT P t with
    | some e => match szT P e, zT P e with
      | some sz, some z => if z.length = sz ∧ len = parts.size ∧ len * sz ≤ 16777216 ∧ 0 < sz then
          match rowPV s sz 0 parts.toList with
          | some (k, xs) => some (false, .row e sz k xs)
          | none => none
        else none
      | _, _ => none
    | none => none
  | .makeSlice t l c => match elT P t, ev s l, ev s c with
    | some e, .t _ (.v (.int _ l)), .t _ (.v (.int _ c)) => match szT P e, zT P e, byT P e with
      | some sz, some z, some b => if z.length = sz ∧ 0 < sz ∧ 0 ≤ l ∧ l ≤ c ∧ c ≤ 140737488355328 ∧ (b : Int) * c ≤ 281474976710656 then
          some (false, .row e sz .fz (List.replicate l.toNat (z.map TL.v))) else none
      | _, _, _ => none
    | _, _, _ => none
  | _ => none

theorem newVal_new {P : Program} {s : StL} {op : Op} {b : Bool} {r : Res} {d : Nat} (h : newVal P s op = some (b, r)) (hf : s.free d = true) :
    newOp P d s op = some ⟨(d, if b then .ptr d 0 else .osl d) :: s.T, (d, r) :: s.M⟩ := by
  cases op <;> simp only [newVal, reduceCtorEq] at h
  case box t x =>
    split at h
    · rename_i cs hcs
      cases h
      simp only [newOp, hcs, hf, if_true]
    · cases h
  case alloc t =>
    split at h
    · rename_i z hz
      cases h
      simp only [newOp, hz, hf, if_true]
    · cases h
  case buildSlice t len parts =>
    split at h
    · rename_i e he
      split at h
      · rename_i sz z hsz hz
        split at h
        · rename_i hc
          split at h
          · rename_i k xs hr
            cases h
            simp only [newOp, he, hsz, hz, hr]
            rw [if_pos ⟨hf, hc⟩]
            rfl
          · cases h
        · cases h
      · cases h
    · cases h
  case makeSlice t l c =>
    split at h
    · rename_i e k1 kk1 l' k2 kk2 c' he hl hc
      split at h
      · rename_i sz z b hsz hz hb
        split at h
        · rename_i hcond
          cases h
          simp only [newOp, he, hl, hc, hsz, hz, hb]
          rw [if_pos ⟨hf, hcond⟩]
          rfl
        · cases h
      · cases h
    · cases h

/-- s' knows all memory that s knows. -/
def MLe (s s' : StL) : Prop := ∀ m, getM s.M m = .dead ∨ getM s'.M m = getM s.M m

section
variable {P : Program} {s s' : StL}

theorem MLe.at_ (h : MLe s s') {m : Nat} {r : Res} (hr : getM s.M m = r) (hd : r ≠ .dead) : getM s'.M m = r := by
  rcases h m with h1 | h1
  · exact absurd (hr.symm.trans h1) hd
  · exact h1.trans hr

theorem loadPV_mono (h : MLe s s') {p q : PV} {sz : Nat} {ag : Bool} (hq : loadPV s p sz ag = some q) : loadPV s' p sz ag = some q := by
  unfold loadPV at hq ⊢
  split at hq
  · exact hq
  · split at hq
    · rename_i hM
      rw [h.at_ hM (by simp)]
      exact hq
    · cases hq
  · split at hq
    · rename_i hM
      rw [h.at_ hM (by simp)]
      exact hq
    · cases hq
  · cases hq

theorem idxPV_mono (h : MLe s s') {t : Nat} {p q : PV} {i : Int} (hq : idxPV P s t p i = some q) : idxPV P s' t p i = some q := by
  unfold idxPV at hq ⊢
  split at hq
  · exact hq
  · split at hq
    · rename_i hM
      rw [h.at_ hM (by simp)]
      exact hq
    · cases hq
  · exact hq

theorem lenPV_mono (h : MLe s s') {p : PV} {n : Nat} (hq : lenPV s p = some n) : lenPV s' p = some n := by
  unfold lenPV at hq ⊢
  split at hq
  · exact hq
  · exact hq
  · split at hq
    · rename_i hM
      rw [h.at_ hM (by simp)]
      exact hq
    · cases hq
  · cases hq

theorem optL_mono {f g : PV → Option (Bool × TL)} (h : ∀ p x, f p = some x → g p = some x) : ∀ {l : List PV} {x : Bool × List TL}, optL f l = some x → optL g l = some x
  | [], x, hx => hx
  | p :: l, x, hx => by
    simp only [optL] at hx ⊢
    split at hx
    · rename_i b y b' ys h1 h2
      rw [h p _ h1, optL_mono h h2]
      exact hx
    · cases hx

theorem lendPV_mono (h : MLe s s') : ∀ (d : Nat) {p : PV} {x : Bool × TL}, lendPV d s p = some x → lendPV d s' p = some x
  | 0, p, x, hx => by simp [lendPV] at hx
  | d + 1, p, x, hx => by
    cases p with
    | t k y => simpa [lendPV] using hx
    | osl m =>
      simp only [lendPV] at hx ⊢
      split at hx
      · rename_i hM
        rw [h.at_ hM (by simp)]
        exact hx
      · cases hx
    | ptr m off =>
      simp only [lendPV] at hx ⊢
      split at hx
      · rename_i hM
        rw [h.at_ hM (by simp)]
        simp only
        split at hx
        · rename_i h1
          rw [optL_mono (fun p x => lendPV_mono h d) h1]
          exact hx
        · cases hx
      · cases hx
    | clo f caps =>
      simp only [lendPV] at hx ⊢
      split at hx
      · rename_i h1
        rw [optL_mono (fun p x => lendPV_mono h d) h1]
        exact hx
      · cases hx
    | agg cs =>
      simp only [lendPV] at hx ⊢
      split at hx
      · rename_i h1
        rw [optL_mono (fun p x => lendPV_mono h d) h1]
        exact hx
      · cases hx
    | oep => simp [lendPV] at hx
    | omp => simp [lendPV] at hx
    | tup => simp [lendPV] at hx
    | undef => simp [lendPV] at hx

/-- Operands alike. -/
def OpdEq (s s' : StL) (l : List Operand) : Prop := ∀ x ∈ l, ev s' x = ev s x

theorem OpdEq.map {l : List Operand} (h : OpdEq s s' l) : l.map (ev s') = l.map (ev s) := List.map_congr_left h

theorem bndPV_mono {x : Option Operand} {d : Nat} (h : OpdEq s s' x.toList) : bndPV s' x d = bndPV s x d := by
  cases x with
  | none => rfl
  | some x => simp only [bndPV, h x (by simp)]

theorem slicePV_mono {t : Nat} {p : PV} {lo hi mx : Option Operand} (hl : OpdEq s s' lo.toList) (hh : OpdEq s s' hi.toList) (hm : OpdEq s s' mx.toList) : slicePV P s' t p lo hi mx = slicePV P s t p lo hi mx := by
  unfold slicePV
  split
  · simp only [bndPV_mono hl, bndPV_mono hh, bndPV_mono hm]
  · rfl

theorem partsPV_mono {t : Nat} : ∀ {l : List (Nat × Operand)}, OpdEq s s' (l.map (·.2)) → partsPV P s' t l = partsPV P s t l
  | [], _ => rfl
  | (i, x) :: l, h => by
    simp only [partsPV, h x (by simp), partsPV_mono (l := l) fun y hy => h y (by simp only [List.map_cons, List.mem_cons]; exact .inr hy)]

theorem rowPV_mono {sz : Nat} : ∀ {l : List (Nat × Operand)} {j : Nat}, OpdEq s s' (l.map (·.2)) → rowPV s' sz j l = rowPV s sz j l
  | [], _, _ => rfl
  | (i, x) :: l, j, h => by
    simp only [rowPV, h x (by simp), rowPV_mono (l := l) fun y hy => h y (by simp only [List.map_cons, List.mem_cons]; exact .inr hy)]

theorem builtinVal_mono (h : MLe s s') {b : Builtin} {args : List PV} {ts : Array Nat} {q : PV} (hq : builtinVal P s b args ts = some q) : builtinVal P s' b args ts = some q := by
  unfold builtinVal at hq ⊢
  split at hq
  · cases hts : ts[0]? with
    | none => simp [hts] at hq
    | some t =>
      simp only [hts] at hq ⊢
      split at hq
      · rename_i hc
        obtain ⟨m, hm, rfl⟩ := Option.map_eq_some_iff.1 hq
        rw [if_pos hc, lenPV_mono h hm]
        rfl
      · cases hq
  · exact hq
  · exact hq
  · cases hq

theorem opVal_mono (h : MLe s s') {op : Op} {q : PV} (ho : OpdEq s s' op.operands.toList) (hq : opVal P s op = some q) : opVal P s' op = some q := by
  cases op <;> simp only [opVal, reduceCtorEq] at hq ⊢
  case move x => rw [ho x (by simp [Op.operands])]; exact hq
  case assign x => rw [ho x (by simp [Op.operands])]; exact hq
  case pick c x y => rw [ho c (by simp [Op.operands]), ho x (by simp [Op.operands]), ho y (by simp [Op.operands])]; exact hq
  case binOp op t x y t' => rw [ho x (by simp [Op.operands]), ho y (by simp [Op.operands])]; exact hq
  case unOp op t x => rw [ho x (by simp [Op.operands])]; exact hq
  case convert src dst x => rw [ho x (by simp [Op.operands])]; exact hq
  case nilCheck x => rw [ho x (by simp [Op.operands])]; exact hq
  case fieldAddr t x f => rw [ho x (by simp [Op.operands])]; exact hq
  case indexAddr t x i =>
    rw [ho x (by simp [Op.operands]), ho i (by simp [Op.operands])]
    split at hq
    · exact idxPV_mono h hq
    · cases hq
  case load t x =>
    rw [ho x (by simp [Op.operands])]
    split at hq
    · exact loadPV_mono h hq
    · cases hq
  case extract x i => rw [ho x (by simp [Op.operands])]; exact hq
  case field t x f => rw [ho x (by simp [Op.operands])]; exact hq
  case index t x i => rw [ho x (by simp [Op.operands]), ho i (by simp [Op.operands])]; exact hq
  case makeFunc fn first caps =>
    cases fn <;> simp only [reduceCtorEq] at hq ⊢
    rw [OpdEq.map fun x hx => ho x (by simp only [Op.operands, Array.toList_append, List.mem_append]; exact .inr hx)]
    exact hq
  case slice t x lo hi mx =>
    rw [ho x (by simp [Op.operands]), slicePV_mono (fun y hy => ho y (by simp only [Op.operands, Array.toList_append, List.mem_append]; simp at hy; simp [hy])) (fun y hy => ho y (by simp only [Op.operands, Array.toList_append, List.mem_append]; simp at hy; simp [hy])) (fun y hy => ho y (by simp only [Op.operands, Array.toList_append, List.mem_append]; simp at hy; simp [hy]))]
    exact hq
  case call c =>
    split at hq
    · rename_i b hb
      rw [OpdEq.map fun x hx => ho x (by simp only [Op.operands, Call.operands, Array.toList_append, List.mem_append]; exact .inr hx)]
      exact builtinVal_mono h hq
    · cases hq

theorem valOp_mono (h : MLe s s') {op : Op} {q : PV} (ho : OpdEq s s' op.operands.toList) (hq : valOp P s op = some q) : valOp P s' op = some q := by
  unfold valOp at hq ⊢
  split at hq
  · rename_i t parts
    split at hq
    · rename_i hok
      simp only [hok, if_true]
      unfold buildPV at hq ⊢
      rw [partsPV_mono fun x hx => ho x (by simpa [Op.operands] using hx)]
      exact hq
    · cases hq
  · rename_i op t x y ty
    split at hq
    · rename_i q' hq'
      cases hq
      simp only [opVal_mono h ho hq']
    · rename_i hn
      have hx := ho x (by simp [Op.operands])
      have hy := ho y (by simp [Op.operands])
      have hn' : opVal P s' (.binOp op t x y ty) = none := by
        simp only [opVal, hx, hy] at hn ⊢
        exact hn
      simp only [hn', hx, hy]
      exact hq
  · rename_i h1 h2
    have := opVal_mono h ho hq
    revert this
    cases op <;> first | exact id | (intro _; first | exact absurd rfl (h1 _ _) | exact absurd rfl (h2 _ _ _ _ _))

theorem newVal_mono {op : Op} (ho : OpdEq s s' op.operands.toList) : newVal P s' op = newVal P s op := by
  cases op <;> simp only [newVal]
  case box t x => rw [ho x (by simp [Op.operands])]
  case buildSlice t len parts =>
    have : ∀ sz, rowPV s' sz 0 parts.toList = rowPV s sz 0 parts.toList := fun sz => rowPV_mono fun x hx => ho x (by simpa [Op.operands] using hx)
    simp only [this]
  case makeSlice t l c => rw [ho l (by simp [Op.operands]), ho c (by simp [Op.operands])]

theorem callee_mono {c : Call} (ho : OpdEq s s' c.operands.toList) : callee s' c = callee s c := by
  have ha : c.args.toList.map (ev s') = c.args.toList.map (ev s) := OpdEq.map fun x hx => ho x (by simp only [Call.operands, Array.toList_append, List.mem_append]; exact .inr hx)
  unfold callee
  split
  · rename_i f hf
    rw [ho f (by simp [Call.operands, hf]), ha]
  · rfl

end
end Go.PS
