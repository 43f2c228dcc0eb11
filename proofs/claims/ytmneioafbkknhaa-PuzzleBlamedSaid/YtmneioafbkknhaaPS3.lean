/- PS3: the operations that change nothing: what they answer in a state, and that the machine answers so. -/
import Derived.Test.YtmneioafbkknhaaPS2
import Derived.ChangeKeysEq
import Derived.Deep.WholeRow
import Derived.Maps.AppendAt
set_option linter.unusedVariables false
set_option linter.unusedSimpArgs false
namespace Go.PS
open Go Go.RowKit

def szT (P : Program) (t : Nat) : Option Nat := (P.info? t).map (·.size)
def TypeDesc.isAgg : TypeDesc → Bool
  | .struct _ | .array _ _ => true
  | _ => false
def aggT (P : Program) (t : Nat) : Option Bool := (P.underlying t).map TypeDesc.isAgg
def fldT (P : Program) (t f : Nat) : Option (Nat × Nat) :=
  match P.underlying t with
  | some (.struct fs) => match fs[f]? with
    | some fl => (szT P fl.type).map fun n => (fl.offset, n)
    | none => none
  | _ => none
def fldA (P : Program) (t f : Nat) : Option Bool :=
  match P.underlying t with
  | some (.struct fs) => match fs[f]? with
    | some fl => aggT P fl.type
    | none => none
  | _ => none
def slT (P : Program) (t : Nat) : Option Nat :=
  match P.underlying t with
  | some (.slice e) => szT P e
  | _ => none
def arT (P : Program) (t : Nat) : Option (Nat × Nat) :=
  match P.underlying t with
  | some (.array n e) => (szT P e).map fun m => (n, m)
  | _ => none
def arA (P : Program) (t : Nat) : Option Bool :=
  match P.underlying t with
  | some (.array n e) => aggT P e
  | _ => none
/-- From a whole number's type to another. -/
def cvT (P : Program) (s d : Nat) : Option IntKind :=
  match P.underlying s, P.underlying d with
  | some _, some (.int k) => some k
  | _, _ => none

theorem szT_run {P : Program} {t n : Nat} (h : szT P t = some n) (w : World) : (sizeOf t).run P w = .ok n w := by
  unfold szT at h
  obtain ⟨i, hi, rfl⟩ := Option.map_eq_some_iff.1 h
  simp [sizeOf, typeInfo, hi]

theorem aggT_run {P : Program} {t : Nat} {b : Bool} (h : aggT P t = some b) (w : World) : (isAgg t).run P w = .ok b w := by
  unfold aggT at h
  obtain ⟨d, hd, rfl⟩ := Option.map_eq_some_iff.1 h
  cases d <;> simp [isAgg, run_underlying hd, TypeDesc.isAgg]

/-- What an operand is. -/
def ev (s : StL) : Operand → PV
  | .tmp t => getT s.T t
  | .const (.agg vs) => .t .fz (.agg (vs.toList.map .v))
  | .const v => .t .fz (.v v)
  | .func f => .clo f []
  | .global _ => .undef

/-- Whole numbers, Bools, strings. -/
def sBin (op : BinOp) (x y : Value) : Option Value :=
  match x, y with
  | .int k a, .int k' b =>
    match op with
    | .shl => if 0 ≤ b then some (.int k (k.wrap (a * 2 ^ min b.toNat k.bits))) else none
    | .shr => if 0 ≤ b then some (.int k (a.fdiv (2 ^ min b.toNat k.bits))) else none
    | .add => if k = k' then some (.int k (k.wrap (a + b))) else none
    | .sub => if k = k' then some (.int k (k.wrap (a - b))) else none
    | .mul => if k = k' then some (.int k (k.wrap (a * b))) else none
    | .quo => if k = k' ∧ b ≠ 0 then some (.int k (k.wrap (a.tdiv b))) else none
    | .rem => if k = k' ∧ b ≠ 0 then some (.int k (a.tmod b)) else none
    | .and => if k = k' then some (.int k (bits .and k a b)) else none
    | .or => if k = k' then some (.int k (bits .or k a b)) else none
    | .xor => if k = k' then some (.int k (bits .xor k a b)) else none
    | .andNot => if k = k' then some (.int k (bits .andNot k a b)) else none
    | .eql => if k = k' then some (.bool (a == b)) else none
    | .neq => if k = k' then some (.bool (a != b)) else none
    | .lss => if k = k' then some (.bool (decide (a < b))) else none
    | .leq => if k = k' then some (.bool (decide (a ≤ b))) else none
    | .gtr => if k = k' then some (.bool (decide (b < a))) else none
    | .geq => if k = k' then some (.bool (decide (b ≤ a))) else none
  | .string a, .string b =>
    match op with
    | .eql => some (.bool (a.toList == b.toList))
    | .neq => some (.bool (a.toList != b.toList))
    | _ => none
  | _, _ => none

def sUn (op : UnOp) (x : Value) : Option Value :=
  match op, x with
  | .not, .bool b => some (.bool !b)
  | .neg, .int k n => some (.int k (k.wrap (0 - n)))
  | _, _ => none


theorem sBin_run {P : Program} {op : BinOp} {t : Nat} {x y v : Value} {xo yo : Operand} (h : sBin op x y = some v) (w : World) :
    (do eqGuard op t xo yo x y; binOp op t x y : Sem Value).run P w = .ok v w := by
  unfold sBin at h
  split at h
  · rename_i k a k' b
    have hg : (eqGuard op t xo yo (.int k a) (.int k' b)).run P w = .ok () w := by
      unfold eqGuard
      cases op <;> rfl
    rw [Sem.run_bind, hg]
    cases op <;> simp only [] at h
    case shl =>
      split at h
      · rename_i hb
        cases h
        simp [binOp, Op.shift, Int.not_lt.2 hb, Result.andThen]
      · cases h
    case shr =>
      split at h
      · rename_i hb
        cases h
        simp [binOp, Op.shift, Int.not_lt.2 hb, Result.andThen]
      · cases h
    case quo =>
      split at h
      · rename_i hb
        obtain ⟨rfl, hb⟩ := hb
        cases h
        simp [binOp, Op.intDiv, hb, Result.andThen]
      · cases h
    case rem =>
      split at h
      · rename_i hb
        obtain ⟨rfl, hb⟩ := hb
        cases h
        simp [binOp, Op.intDiv, hb, Result.andThen]
      · cases h
    all_goals
      split at h
      · rename_i hb
        cases hb
        cases h
        simp [binOp, Op.intArith, Op.intBits, Op.intCmp, bits, Result.andThen]
      · cases h
  · rename_i a b
    have hg : (eqGuard op t xo yo (.string a) (.string b)).run P w = .ok () w := by
      unfold eqGuard
      cases op <;> rfl
    rw [Sem.run_bind, hg]
    cases op <;> simp only [reduceCtorEq] at h <;> cases h
    · simp [binOp, Op.stringOp, Result.andThen]
    · simp [binOp, Op.stringOp, Result.andThen, bne]
  · cases h

def isBoolT (P : Program) (t : Nat) : Bool := match P.underlying t with
  | some .bool => true
  | _ => false
/-- The same, of two Bools too. -/
def sBinT (P : Program) (op : BinOp) (t : Nat) (x y : Value) : Option Value :=
  match x, y with
  | .bool a, .bool b => if isBoolT P t = true then (match op with
    | .eql => some (.bool (a == b))
    | .neq => some (.bool (a != b))
    | _ => none) else none
  | x, y => sBin op x y
theorem sBinT_run {P : Program} {op : BinOp} {t : Nat} {x y v : Value} {xo yo : Operand} (h : sBinT P op t x y = some v) (w : World) :
    (do eqGuard op t xo yo x y; binOp op t x y : Sem Value).run P w = .ok v w := by
  unfold sBinT at h
  split at h
  · rename_i a b
    split at h
    · rename_i hb
      have hu : P.underlying t = some .bool := by
        unfold isBoolT at hb
        split at hb
        · assumption
        · cases hb
      have hg : (eqGuard op t xo yo (.bool a) (.bool b)).run P w = .ok () w := by
        unfold eqGuard
        cases op <;> rfl
      have he : (Op.equal t (.bool a) (.bool b)).run P w = .ok (a == b) w := by
        unfold Op.equal
        show (Op.equalIn Op.maxDepth t (.bool a) (.bool b)).run P w = _
        unfold Op.maxDepth Op.equalIn
        simp [underlying, hu]
      rw [Sem.run_bind, hg]
      cases op <;> simp only [reduceCtorEq] at h <;> cases h
      · simp [binOp, Result.andThen, he]
      · simp [binOp, Result.andThen, he, bne]
    · cases h
  · exact sBin_run h w

theorem sUn_run {P : Program} {op : UnOp} {x v : Value} (h : sUn op x = some v) (w : World) : (Op.unary op x).run P w = .ok v w := by
  unfold sUn at h
  split at h
  · cases h; simp [Op.unary]
  · cases h; simp [Op.unary, Op.intArith]
  · cases h

section
variable {w0 : Base} {F0 : Nat → Prop} {n : Nat} {s : StL} {a : Act} {w : World} {φ : Nat → Value} {fp : Nat → Nat → Prop}

theorem getD_mapv (vs : Array Value) (j : Nat) (x : TL) (h : (vs.toList.map TL.v)[j]? = some x) : x = .v (vs.getD j Go.undef) := by
  rw [List.getElem?_map] at h
  obtain ⟨y, hy, rfl⟩ := Option.map_eq_some_iff.1 h
  rw [Array.getElem?_toList] at hy
  simp [Array.getD_eq_getD_getElem?, hy]

theorem SimX.ev (h : SimX w0 F0 n s a w φ fp) (x : Operand) : PVRep w φ (Stb w0 w fp) (PS.ev s x) (a.eval x) := by
  cases x with
  | tmp t => exact h.tmp t
  | const v =>
    cases v
    case agg vs => exact .t (.agg vs (by simp) fun j x hx => by rw [getD_mapv vs j x hx]; exact .v _)
    all_goals exact .t (.v _)
  | func f => exact .clo #[] rfl fun j x hx => by simp at hx
  | global g => exact .undef _

end
end Go.PS
