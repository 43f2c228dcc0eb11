/- PS4: operations that change nothing, one by one and together. -/
import Derived.Test.YtmneioafbkknhaaPS3
set_option linter.unusedVariables false
set_option linter.unusedSimpArgs false
namespace Go.PS
open Go Go.RowKit

def loadPV (s : StL) (p : PV) (sz : Nat) (ag : Bool) : Option PV :=
  match p with
  | .t k (.rp cs off) => if ag then (if off + sz ≤ cs.length then some (.t k (.agg ((cs.drop off).take sz))) else none) else (cs[off]?).map (PV.t k)
  | .ptr m off => match getM s.M m with
    | .blk _ cs => if ag then (if off + sz ≤ cs.length then some (.agg ((cs.drop off).take sz)) else none) else cs[off]?
    | _ => none
  | .oep m sz' i off => match getM s.M m with
    | .row _ sz'' k xs => if sz' = sz'' ∧ i < xs.length then
        (if ag then (if off + sz ≤ (xs.getD i []).length then some (.t k (.agg (((xs.getD i []).drop off).take sz))) else none) else ((xs.getD i [])[off]?).map (PV.t k)) else none
    | _ => none
  | _ => none

def partPV (p : PV) (off sz : Nat) (ag : Bool) : Option PV :=
  match p with
  | .t k (.agg cs) => if ag then (if off + sz ≤ cs.length then some (.t k (.agg ((cs.drop off).take sz))) else none) else (cs[off]?).map (PV.t k)
  | .agg cs => if ag then (if off + sz ≤ cs.length then some (.agg ((cs.drop off).take sz)) else none) else cs[off]?
  | _ => none

def addrPV (p : PV) (d : Nat) : Option PV :=
  match p with
  | .ptr m off => some (.ptr m (off + d))
  | .t k (.rp cs off) => some (.t k (.rp cs (off + d)))
  | .oep m sz i off => some (.oep m sz i (off + d))
  | _ => none

def idxPV (P : Program) (s : StL) (t : Nat) (x : PV) (i : Int) : Option PV :=
  match x with
  | .t k (.sl tt sz xs) => if slT P t = some sz ∧ 0 ≤ i ∧ i < xs.length then some (.t k (.rp (xs.getD i.toNat []) 0)) else none
  | .osl m => match getM s.M m with
    | .row ty sz k xs => if slT P t = some sz ∧ 0 ≤ i ∧ i < xs.length then some (.oep m sz i.toNat 0) else none
    | _ => none
  | p => match arT P t with
    | some (len, sz) => if 0 ≤ i ∧ i < len then addrPV p (i.toNat * sz) else none
    | none => none

def nilPV : PV → Option PV
  | .ptr m off => some (.ptr m off)
  | .t k (.rp cs off) => some (.t k (.rp cs off))
  | .oep m sz i off => some (.oep m sz i off)
  | _ => none

/-- A bound of a slice expression. -/
def bndPV (s : StL) (x : Option Operand) (d : Nat) : Option Int :=
  match x with
  | none => some d
  | some x => match ev s x with
    | .t _ (.v (.int _ i)) => some i
    | _ => none

def slicePV (P : Program) (s : StL) (t : Nat) (x : PV) (lo hi mx : Option Operand) : Option PV :=
  match x with
  | .t k (.sl tt sz xs) =>
    match bndPV s lo 0, bndPV s hi xs.length, bndPV s mx xs.length with
    | some l, some h, some m =>
      if slT P t = some sz ∧ 0 ≤ l ∧ l ≤ h ∧ h ≤ m ∧ m ≤ xs.length then
        some (.t k (.sl (if (if mx.isSome then decide (m = h) else decide (tt = .tight) && decide (h = xs.length)) then .tight else .any) sz ((xs.drop l.toNat).take (h.toNat - l.toNat)))) else none
    | _, _, _ => none
  | _ => none

def lenPV (s : StL) (x : PV) : Option Nat :=
  match x with
  | .t _ (.sl _ _ xs) => some xs.length
  | .t _ (.v (.slice none 0 0)) => some 0
  | .osl m => match getM s.M m with
    | .row _ _ _ xs => some xs.length
    | _ => none
  | _ => none

def isSlT (P : Program) (t : Nat) : Bool :=
  match P.underlying t with
  | some (.slice _) => true
  | _ => false

def builtinVal (P : Program) (s : StL) (b : Builtin) (args : List PV) (ts : Array Nat) : Option PV :=
  match b, args with
  | .len, [x] => if (match ts[0]? with | some t => isSlT P t | none => false) then (lenPV s x).map fun (m : Nat) => PV.t .fz (.v (.int .i64 (m : Int))) else none
  | .min, [.t _ (.v (.int k x)), .t _ (.v (.int k' y))] => if k = k' then some (.t .fz (.v (.int k (if y < x then y else x)))) else none
  | .max, [.t _ (.v (.int k x)), .t _ (.v (.int k' y))] => if k = k' then some (.t .fz (.v (.int k (if x < y then y else x)))) else none
  | _, _ => none

def opVal (P : Program) (s : StL) : Op → Option PV
  | .move x => some (ev s x)
  | .assign x => some (ev s x)
  | .pick c x y => match ev s c with
    | .t _ (.v (.bool b)) => some (if b then ev s x else ev s y)
    | _ => none
  | .binOp op t x y _ => match ev s x, ev s y with
    | .t _ (.v u), .t _ (.v u') => (sBinT P op t u u').map fun v => .t .fz (.v v)
    | _, _ => none
  | .unOp op _ x => match ev s x with
    | .t _ (.v u) => (sUn op u).map fun v => .t .fz (.v v)
    | _ => none
  | .convert src dst x => match ev s x, cvT P src dst with
    | .t _ (.v (.int _ m)), some k => some (.t .fz (.v (.int k (k.wrap m))))
    | _, _ => none
  | .nilCheck x => nilPV (ev s x)
  | .fieldAddr t x f => match fldT P t f with
    | some (d, sz) => if sz = 0 then none else addrPV (ev s x) d
    | none => none
  | .indexAddr t x i => match ev s i with
    | .t _ (.v (.int _ i)) => idxPV P s t (ev s x) i
    | _ => none
  | .load t x => match szT P t, aggT P t with
    | some sz, some ag => loadPV s (ev s x) sz ag
    | _, _ => none
  | .extract x i => match ev s x with
    | .t k (.tup cs) => (cs[i]?).map (PV.t k)
    | .tup cs => cs[i]?
    | _ => none
  | .field t x f => match fldT P t f, fldA P t f with
    | some (d, sz), some ag => partPV (ev s x) d sz ag
    | _, _ => none
  | .index t x i => match ev s i, arT P t, arA P t with
    | .t _ (.v (.int _ i)), some (len, sz), some ag => if 0 ≤ i ∧ i < len then partPV (ev s x) (i.toNat * sz) sz ag else none
    | _, _, _ => none
  | .makeFunc (.func f) first caps => if first.size = 0 then some (.clo f (caps.toList.map (ev s))) else none
  | .slice t x lo hi mx => if mx.isSome && hi.isNone then none else slicePV P s t (ev s x) lo hi mx
  | .call c => match c.callee with
    | .builtin b => builtinVal P s b (c.args.toList.map (ev s)) c.argTypes
    | _ => none
  | _ => none

section
variable {P : Program} {w0 : Base} {F0 : Nat → Prop} {n : Nat} {s : StL} {a : Act} {w : World} {φ : Nat → Value} {fp : Nat → Nat → Prop}

theorem run_value {P : Program} {w w' : World} {x : Sem Value} {v : Value} (h : x.run P w = .ok v w') : (do pure (Next.value (← x)) : Sem Next).run P w = .ok (.value v) w' := by
  simp [h]

theorem TRep.int_inv {S : Nat → Prop} {k : IntKind} {i : Int} {v : Value} (h : TRep w S (.v (.int k i)) v) : v = .int k i := by cases h; rfl
theorem TRep.v_inv {S : Nat → Prop} {x v : Value} (h : TRep w S (.v x) v) : v = x := by cases h; rfl
theorem PVRep.t_inv {St : Kind → Nat → Prop} {k : Kind} {x : TL} {v : Value} (h : PVRep w φ St (.t k x) v) : TRep w (St k) x v := by cases h; assumption

theorem PVRep.nth {St : Kind → Nat → Prop} {vs : Array Value} {cs : List PV} (hr : ∀ (j : Nat) (x : PV), cs[j]? = some x → PVRep w φ St x (vs.getD j Go.undef)) (off sz : Nat) :
    ∀ (j : Nat) (x : PV), ((cs.drop off).take sz)[j]? = some x → PVRep w φ St x (vs.getD (off + j) Go.undef) := by
  intro j x hx
  rw [List.getElem?_take] at hx
  split at hx
  · rw [List.getElem?_drop] at hx
    exact hr _ _ hx
  · cases hx

/-- Loading a run of cells that is known cell by cell. -/
theorem run_loadCells_fn {P : Program} (w : World) (b o sz : Nat) (g : Nat → Value) (h : ∀ j, j < sz → w.cell? ⟨b, o + j, none⟩ = some (g j)) :
    (loadCells ⟨b, o, none⟩ sz).run P w = .ok ((List.range sz).map g).toArray w := by
  have := run_loadCells_list (P := P) w ⟨b, o, none⟩ ((List.range sz).map g) (fun j v hv => by
    simp only [List.getElem?_map] at hv
    obtain ⟨i, hi, rfl⟩ := Option.map_eq_some_iff.1 hv
    obtain ⟨hlt, rfl⟩ := List.getElem?_eq_some_iff.1 hi
    simp only [List.getElem_range]
    have hadd : (⟨b, o, none⟩ : Addr).add j = ⟨b, o + j, none⟩ := by unfold Addr.add; split <;> simp_all
    rw [hadd]
    exact h j (by simpa using hlt))
  simpa using this

theorem getD_range (sz : Nat) (g : Nat → Value) (j : Nat) (h : j < sz) : (((List.range sz).map g).toArray).getD j Go.undef = g j := by
  simp [Array.getD_eq_getD_getElem?, h]

theorem agg_len {α : Type} (cs : List α) (off sz : Nat) (g : Nat → Value) (h : off + sz ≤ cs.length) : ((List.range sz).map g).toArray.size = ((cs.drop off).take sz).length := by
  simp; omega

theorem run_loadVar_agg {P : Program} {t sz : Nat} (hs : szT P t = some sz) (ha : aggT P t = some true) (w : World) (b o : Nat) (g : Nat → Value) (h : ∀ j, j < sz → w.cell? ⟨b, o + j, none⟩ = some (g j)) :
    (loadVar t ⟨b, o, none⟩).run P w = .ok (.agg ((List.range sz).map g).toArray) w := by
  simp [loadVar, aggT_run ha, szT_run hs, run_loadCells_fn w b o sz g h]

theorem run_loadVar_leaf {P : Program} {t : Nat} (ha : aggT P t = some false) (w : World) (A : Addr) (v : Value) (h : w.cell? A = some v) :
    (loadVar t A).run P w = .ok v w := by
  simp [loadVar, aggT_run ha, h]

theorem loadPV_run (h : SimX w0 F0 n s a w φ fp) {t sz : Nat} {ag : Bool} (hs : szT P t = some sz) (ha : aggT P t = some ag) {p q : PV} {u : Value} (hu : PVRep w φ (Stb w0 w fp) p u) (hq : loadPV s p sz ag = some q) :
    ∃ v, (Instr.loadAt t u).run P w = .ok v w ∧ PVRep w φ (Stb w0 w fp) q v := by
  unfold loadPV at hq
  split at hq
  · rename_i k cs off
    have hr := hu.t_inv
    cases hr with
    | @rp _ _ b o g hb hc hrep =>
    cases ag with
    | true =>
      simp only [if_true] at hq
      split at hq
      · rename_i hle
        cases hq
        have hl := run_loadVar_agg hs ha w b (o + off) (fun j => g (off + j)) (fun j hj => by rw [Nat.add_assoc]; exact hc _ (by omega))
        refine ⟨_, by simp only [Instr.loadAt, Instr.sureAddr, Sem.run_bind, Sem.run_pure, Result.andThen_ok]; exact hl, .t (.agg _ (agg_len cs off sz _ hle) fun j x hx => ?_)⟩
        rw [List.getElem?_take] at hx
        split at hx
        · rename_i hj
          rw [List.getElem?_drop] at hx
          rw [getD_range _ _ _ hj]
          exact hrep _ _ hx
        · cases hx
      · cases hq
    | false =>
      simp only [Bool.false_eq_true, if_false] at hq
      obtain ⟨x, hx, rfl⟩ := Option.map_eq_some_iff.1 hq
      have hlt : off < cs.length := (List.getElem?_eq_some_iff.1 hx).1
      exact ⟨g off, by simp only [Instr.loadAt, Instr.sureAddr, Sem.run_bind, Sem.run_pure, Result.andThen_ok]; exact run_loadVar_leaf ha w _ _ (hc off hlt), .t (hrep _ _ hx)⟩
  · rename_i m off
    cases hu with
    | @ptr _ _ g hφ =>
    split at hq
    · rename_i ty cs hM
      have hres := h.res m
      rw [hM] at hres
      obtain ⟨g', vs, hv, hF, hh, hsz, hrep⟩ := hres
      rw [hφ] at hv
      cases hv
      have hcell : ∀ j, w.cell? ⟨g, j, none⟩ = vs[j]? := fun j => cell_of_row w g j vs ty (0, 0) hh
      cases ag with
      | true =>
        simp only [if_true] at hq
        split at hq
        · rename_i hle
          cases hq
          have hl := run_loadVar_agg hs ha w g off (fun j => vs.getD (off + j) Go.undef) (fun j hj => by
            have : off + j < vs.size := by omega
            simp [hcell, this])
          refine ⟨_, by simp only [Instr.loadAt, Instr.sureAddr, Sem.run_bind, Sem.run_pure, Result.andThen_ok]; exact hl, .agg _ (agg_len cs off sz _ hle) fun j x hx => ?_⟩
          have hj : j < sz := by
            rw [List.getElem?_take] at hx
            split at hx
            · assumption
            · cases hx
          rw [getD_range _ _ _ hj]
          exact PVRep.nth hrep off sz j x hx
        · cases hq
      | false =>
        simp only [Bool.false_eq_true, if_false] at hq
        have hlt : off < cs.length := (List.getElem?_eq_some_iff.1 hq).1
        have hl := run_loadVar_leaf (P := P) ha w ⟨g, off, none⟩ (vs.getD off Go.undef) (by
          have : off < vs.size := by omega
          simp [hcell, this])
        exact ⟨vs.getD off Go.undef, by simp only [Instr.loadAt, Instr.sureAddr, Sem.run_bind, Sem.run_pure, Result.andThen_ok]; exact hl, hrep _ _ hq⟩
    · cases hq
  · rename_i m sz' i off
    cases hu with
    | @oep _ _ _ _ g len cap hφ =>
    split at hq
    · rename_i ty sz'' k xs hM
      have hres := h.res m
      rw [hM] at hres
      obtain ⟨cells, hown, hbd, hlen, hrep⟩ := hres
      rw [hφ] at hown
      split at hq
      · rename_i hcond
        obtain ⟨rfl, hi⟩ := hcond
        obtain ⟨hown, hF⟩ := hown.resolve_right (by rintro ⟨rfl, _⟩; simp at hi)
        have hcells := hown.cells (g := g) rfl
        have he : xs[i]? = some (xs.getD i []) := by
          rw [List.getD_eq_getElem?_getD, List.getElem?_eq_getElem hi]; rfl
        have hel : (xs.getD i []).length = sz' := hlen _ (List.mem_of_getElem? he)
        have hidx : ∀ j, j < sz' → i * sz' + j < cells.length := by
          intro j hj
          rw [hown.1]
          have : (i + 1) * sz' ≤ xs.length * sz' := Nat.mul_le_mul_right _ hi
          rw [Nat.add_mul] at this
          omega
        have hcell : ∀ j, j < sz' → w.cell? ⟨g, i * sz' + j, none⟩ = some (cells.getD (i * sz' + j) Go.undef) := by
          intro j hj
          have h1 := hcells (i * sz' + j) _ (List.getElem?_eq_getElem (hidx j hj))
          have hadd : (⟨g, 0, none⟩ : Addr).add (i * sz' + j) = ⟨g, i * sz' + j, none⟩ := by unfold Addr.add; split <;> simp_all
          rw [hadd] at h1
          rw [h1, List.getD_eq_getElem?_getD, List.getElem?_eq_getElem (hidx j hj)]
          rfl
        cases ag with
        | true =>
          simp only [if_true] at hq
          split at hq
          · rename_i hle
            cases hq
            have hl := run_loadVar_agg hs ha w g (i * sz' + off) (fun j => cells.getD (i * sz' + (off + j)) Go.undef) (fun j hj => by rw [Nat.add_assoc]; exact hcell _ (by omega))
            refine ⟨_, by simp only [Instr.loadAt, Instr.sureAddr, Sem.run_bind, Sem.run_pure, Result.andThen_ok]; exact hl, .t (.agg _ (agg_len (xs.getD i []) off sz _ hle) fun j x hx => ?_)⟩
            rw [List.getElem?_take] at hx
            split at hx
            · rename_i hj
              rw [List.getElem?_drop] at hx
              rw [getD_range _ _ _ hj]
              exact hrep i (off + j) _ x he hx
            · cases hx
          · cases hq
        | false =>
          simp only [Bool.false_eq_true, if_false] at hq
          obtain ⟨x, hx, rfl⟩ := Option.map_eq_some_iff.1 hq
          have hlt : off < (xs.getD i []).length := (List.getElem?_eq_some_iff.1 hx).1
          exact ⟨_, by simp only [Instr.loadAt, Instr.sureAddr, Sem.run_bind, Sem.run_pure, Result.andThen_ok]; exact run_loadVar_leaf ha w _ _ (hcell off (by omega)), .t (hrep i off _ x he hx)⟩
      · cases hq
    · cases hq
  · cases hq

end
end Go.PS
