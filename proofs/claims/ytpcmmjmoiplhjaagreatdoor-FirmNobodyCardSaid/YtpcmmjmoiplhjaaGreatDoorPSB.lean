import Derived.Test.YtpcmmjmoiplhjaaGreatDoorPSA
import Derived.Orders
set_option linter.unusedVariables false
set_option linter.unusedSimpArgs false
namespace Go.PS
open Go Go.RowKit

/-- A slice held against nil. -/
def nilCmp (P : Program) (t : Nat) (p q : PV) : Option Bool :=
  match p, q with
  | .t _ (.sl f _ xs), .t _ (.v (.slice none 0 0)) => if isSlT P t = true ∧ (f = .nn ∨ xs.isEmpty = false) then some false else none
  | .t _ (.v (.slice none 0 0)), .t _ (.v (.slice none 0 0)) => if isSlT P t = true then some true else none
  | _, _ => none

/-- Arrays and structs of whole numbers, side by side. -/
def eqT (P : Program) (t : Nat) : Option Nat := if P.eqGuardType P.depth t = false then (match keyK P t with
  | some (.wide n) => some n
  | _ => match P.underlying t with
    | some (.array n e) => if i64T P e = true ∧ szT P e = some 1 then some n else none
    | _ => none) else none
def aggCmp (P : Program) (t : Nat) (p q : PV) : Option Bool :=
  match eqT P t, keyV p, keyV q with
  | some n, some (.agg a), some (.agg b) => match intsL a.toList, intsL b.toList with
    | some x, some y => if x.length = n ∧ y.length = n then some (x == y) else none
    | _, _ => none
  | _, _, _ => none
theorem eqItems_ints {P : Program} (d : Nat) (w : World) {e : Nat} (he : i64T P e = true) {xs ys : Array Value} {x y : List Int} (hx : xs.toList = x.map (.int .i64 ·)) (hy : ys.toList = y.map (.int .i64 ·)) (hl : x.length = y.length) :
    ∀ (k i : Nat), i + k = x.length → (Op.eqItems (d + 1) e 1 xs ys (List.range' i k)).run P w = .ok (x.drop i == y.drop i) w
  | 0, i, h => by
    rw [List.drop_eq_nil_of_le (by omega), List.drop_eq_nil_of_le (by omega)]
    simp [Op.eqItems]
  | k + 1, i, h => by
    have hi : i < x.length := by omega
    have hi' : i < y.length := by omega
    have ih := eqItems_ints d w he hx hy hl k (i + 1) (by omega)
    have p1 := run_part64 he hx (List.getElem?_eq_getElem hi) w
    have p2 := run_part64 he hy (List.getElem?_eq_getElem hi') w
    have p3 : (Op.equalIn (d + 1) e (.int .i64 x[i]) (.int .i64 y[i])).run P w = .ok (x[i] == y[i]) w := by
      simp [Op.equalIn, run_underlying (i64T_und he), Result.andThen]
    have hd : (x.drop i == y.drop i) = (x[i] == y[i] && (x.drop (i + 1) == y.drop (i + 1))) := by
      rw [List.drop_eq_getElem_cons hi, List.drop_eq_getElem_cons hi']
      rfl
    rw [hd, List.range'_succ]
    simp only [Op.eqItems, Sem.run_bind, Nat.mul_one, p1, p2, p3, Result.andThen_ok]
    cases hb : (x[i] == y[i])
    · simp
    · simp [ih]
theorem agg_equal {P : Program} {t n : Nat} (ht : eqT P t = some n) {a b : Array Value} {x y : List Int} (hx : a.toList = x.map (.int .i64 ·)) (hy : b.toList = y.map (.int .i64 ·)) (hlx : x.length = n) (hly : y.length = n) (w : World) :
    P.eqGuardType P.depth t = false ∧ (Op.equal t (.agg a) (.agg b)).run P w = .ok (x == y) w := by
  unfold eqT at ht
  split at ht
  · rename_i hg
    refine ⟨hg, ?_⟩
    split at ht
    · rename_i m hk
      cases ht
      exact wide_eq_run hk hx hy hlx hly w
    · split at ht
      · rename_i m e hu
        split at ht
        · rename_i hc
          cases ht
          obtain ⟨i, hi, h1⟩ := Option.map_eq_some_iff.1 hc.2
          have hce : P.cellsOf e = 1 := by simp [Program.cellsOf, hi, h1]
          show (Op.equalIn (9998 + 1 + 1) t (.agg a) (.agg b)).run P w = _
          rw [run_equalIn_array w (9998 + 1) a b hu hi, hce, List.range_eq_range']
          simpa using eqItems_ints 9998 w hc.1 hx hy (by omega) n 0 (by omega)
        · cases ht
      · cases ht
  · cases ht
theorem agg_eq_run {P : Program} {t n : Nat} (ht : eqT P t = some n) {a b : Array Value} {x y : List Int} (hx : a.toList = x.map (.int .i64 ·)) (hy : b.toList = y.map (.int .i64 ·)) (hlx : x.length = n) (hly : y.length = n) (w : World) (xo yo : Operand) :
    (do eqGuard .eql t xo yo (.agg a) (.agg b); binOp .eql t (.agg a) (.agg b) : Sem Value).run P w = .ok (.bool (x == y)) w ∧
    (do eqGuard .neq t xo yo (.agg a) (.agg b); binOp .neq t (.agg a) (.agg b) : Sem Value).run P w = .ok (.bool !(x == y)) w := by
  obtain ⟨h1, h2⟩ := agg_equal ht hx hy hlx hly w
  constructor
  · simp [eqGuard, binOp, h1, h2, Result.andThen]
  · simp [eqGuard, binOp, h1, h2, Result.andThen, bne]
/-- Slices against nil; arrays and structs. -/
def cmpB (P : Program) (t : Nat) (p q : PV) : Option Bool := match nilCmp P t p q with
  | some b => some b
  | none => aggCmp P t p q
/-- No interface type. -/
def niT (P : Program) (t : Nat) : Bool := match P.underlying t with
  | some (.interface _) => false
  | some _ => true
  | none => false
def itT (P : Program) (t : Nat) : Bool := match P.underlying t with
  | some (.interface _) => true
  | _ => false
/-- Numbers that may be compared in an interface. -/
def icT (P : Program) (t : Nat) : Bool := match P.underlying t, P.info? t with
  | some (.int _), some i => i.comparable
  | _, _ => false
def mkIf (P : Program) (t : Nat) (p : PV) : Option PV := if niT P t = true then (match p with
  | .t _ (.v u) => some (.t .fz (.v (.iface t u)))
  | _ => some (.t .fz .one)) else none
def isC : Operand → Bool
  | .const _ => true
  | _ => false
/-- Whether two interface values are the same. -/
def ifCmp (P : Program) (t : Nat) (x y : Operand) (p q : PV) : Option Bool := if itT P t = true then (match p, q with
  | .t _ (.v .nilIface), .t _ (.v .nilIface) => if isC x || isC y then some true else none
  | .t _ (.v .nilIface), .t _ (.v (.iface _ _)) => some false
  | .t _ (.v (.iface _ _)), .t _ (.v .nilIface) => some false
  | .t _ (.v (.iface a (.int k u))), .t _ (.v (.iface b (.int k' u'))) => if a = b then (if k = k' ∧ icT P a = true then some (u == u') else none) else some false
  | _, _ => none) else none
def ptT (P : Program) (t : Nat) : Bool := match P.underlying t with
  | some (.pointer _) => true
  | _ => false
/-- A pointer against nil. -/
def ptCmp (P : Program) (t : Nat) (p q : PV) : Option Bool := if ptT P t = true then (match p, q with
  | .ptr _ _, .t _ (.v (.pointer none)) => some false
  | .t _ (.v (.pointer none)), .ptr _ _ => some false
  | .t _ (.v (.pointer none)), .t _ (.v (.pointer none)) => some true
  | .t _ (.rp _ _), .t _ (.v (.pointer none)) => some false
  | _, _ => none) else none
def cmpB2 (P : Program) (t : Nat) (x y : Operand) (p q : PV) : Option Bool := match cmpB P t p q with
  | some b => some b
  | none => match ifCmp P t x y p q with
    | some b => some b
    | none => ptCmp P t p q
def valOp (P : Program) (s : StL) : Op → Option PV
  | .build t parts => if fldsOk P t = true then buildPV P s t parts.toList else none
  | .binOp op t x y ty => match opVal P s (.binOp op t x y ty) with
    | some q => some q
    | none => match cmpB2 P t x y (ev s x) (ev s y) with
      | none => none
      | some b => match op with
        | .eql => some (.t .fz (.v (.bool b)))
        | .neq => some (.t .fz (.v (.bool !b)))
        | _ => none
  | .makeInterface t x => mkIf P t (ev s x)
  | op => opVal P s op

/-- append(x, y). -/
def appendPV (P : Program) (d : Nat) (s : StL) (t : Nat) (x y : PV) : Option StL :=
  match elT P t with
  | none => none
  | some e => match szT P e, zT P e, byT P e with
    | some sz, some z, some b =>
      if 0 < sz ∧ 0 < b ∧ z.length = sz then
        match srcPV s sz y with
        | none => none
        | some (k, ys) =>
          match x with
          | .osl m => match getM s.M m with
            | .row e' sz' k' xs => if e' = e ∧ sz' = sz ∧ m < 1000000 ∧ (xs.length + ys.length) * b ≤ 140737488355328 then
                some ⟨(d, .osl m) :: (s.kill m).T, (m, .row e sz (k'.join k) (xs ++ ys)) :: (s.kill m).M⟩ else none
            | _ => none
          | .t _ (.v (.slice none 0 0)) => if s.free d = true ∧ ys.length * b ≤ 140737488355328 then some ⟨(d, .osl d) :: s.T, (d, .row e sz k ys) :: s.M⟩ else none
          | .t k' (.sl .tight sz' []) => if s.free d = true ∧ sz' = sz ∧ ys.length * b ≤ 140737488355328 then some ⟨(d, .osl d) :: s.T, (d, .row e sz k ys) :: s.M⟩ else none
          | .t k' (.sl .tight sz' xs) => if s.free d = true ∧ sz' = sz ∧ ys.isEmpty = false ∧ (xs.length + ys.length) * b ≤ 140737488355328 ∧ xs.all (fun e => e.all TL.leaf) = true then
              some ⟨(d, .osl d) :: s.T, (d, .row e sz (k'.join k) (xs ++ ys)) :: s.M⟩ else none
          | _ => none
      else none
    | _, _, _ => none

/-- Bytes as a row's cells. -/
def bys (l : List UInt8) : List (List TL) := l.map fun c => [.v (.int .u8 (c.toNat : Int))]
def bytesOf : List (List TL) → Option (List UInt8)
  | [] => some []
  | [.v (.int .u8 x)] :: l => if 0 ≤ x ∧ x < 256 then (bytesOf l).map (UInt8.ofNat x.toNat :: ·) else none
  | _ => none
@[simp] theorem bytesOf_bys (l : List UInt8) : bytesOf (bys l) = some l := by
  induction l with
  | nil => rfl
  | cons c l ih =>
    have hc : c.toNat < 256 := c.toNat_lt
    show bytesOf ([.v (.int .u8 (c.toNat : Int))] :: bys l) = some (c :: l)
    rw [bytesOf, if_pos ⟨by omega, by omega⟩, ih]
    simp
theorem bytesOf_inv : ∀ {xs : List (List TL)} {l : List UInt8}, bytesOf xs = some l → xs = bys l
  | [], l, h => by
    simp [bytesOf] at h
    subst h
    rfl
  | x :: xs, l, h => by
    unfold bytesOf at h
    split at h
    · rename_i hx
      cases hx
    · rename_i x' l' hx
      cases hx
      split at h
      · rename_i hr
        obtain ⟨l2, h2, rfl⟩ := Option.map_eq_some_iff.1 h
        rw [bytesOf_inv h2]
        show _ = [TL.v (.int .u8 ((UInt8.ofNat x'.toNat).toNat : Int))] :: bys l2
        have e : ((UInt8.ofNat x'.toNat).toNat : Int) = x' := by
          rw [UInt8.toNat_ofNat']
          have : x'.toNat % 2 ^ 8 = x'.toNat := Nat.mod_eq_of_lt (by omega)
          rw [this]
          omega
        rw [e]
      · cases h
    · cases h
@[simp] theorem bys_length (l : List UInt8) : (bys l).length = l.length := by simp [bys]
/-- The zero of a byte's type. -/
def zeroU8 (P : Program) (t : Nat) : Bool := match (P.info? t).bind (·.zero) with
  | some (.int .u8 0) => true
  | _ => false
/-- append(x, y...) of a string y. -/
def appStrPV (P : Program) (d : Nat) (s : StL) (t t' : Nat) (x y : PV) : Option StL :=
  match elT P t with
  | none => none
  | some e => if szT P e = some 1 ∧ byT P e = some 1 ∧ zeroU8 P e = true ∧ isStrT P t' = true then
      match strPV y with
      | none => none
      | some b => match x with
        | .osl m => match getM s.M m with
          | .row e' 1 k' xs => if e' = e ∧ m < 1000000 ∧ xs.length + b.data.toList.length ≤ 140737488355328 then
              some ⟨(d, .osl m) :: (s.kill m).T, (m, .row e 1 (k'.join .fz) (xs ++ bys b.data.toList)) :: (s.kill m).M⟩ else none
          | _ => none
        | .t _ (.v (.slice none 0 0)) => if s.free d = true ∧ b.data.toList.length ≤ 140737488355328 then some ⟨(d, .osl d) :: s.T, (d, .row e 1 .fz (bys b.data.toList)) :: s.M⟩ else none
        | _ => none
    else none
/-- What a pointer points at. -/
def ptrEl (P : Program) (t : Nat) : Option Nat := match P.underlying t with
  | some (.pointer e) => if P.cellsOf e = 1 then some e else none
  | _ => none
/-- unsafe.String of all bytes of a row of our own: the row is given up. -/
def usStrPV (P : Program) (d : Nat) (s : StL) (t : Nat) (x y : PV) : Option StL :=
  match x, y with
  | .oep m 1 0 0, .t _ (.v (.int .i64 k)) => match getM s.M m with
    | .row e 1 _ xs => match bytesOf xs with
      | some l => if ptrEl P t = some e ∧ m < 1000000 ∧ l.isEmpty = false ∧ k = l.length then some ⟨(d, .t .fz (.v (.string ⟨l.toArray⟩))) :: (s.kill m).T, (m, .dead) :: (s.kill m).M⟩ else none
      | none => none
    | _ => none
  | _, _ => none

/-- A row of our own is cut. -/
def shrinkPV (P : Program) (d : Nat) (s : StL) (t : Nat) (x hi : PV) : Option StL :=
  match x, hi with
  | .osl m, .t _ (.v (.int _ i)) => match getM s.M m with
    | .row e sz k xs => if slT P t = some sz ∧ 0 ≤ i ∧ i ≤ xs.length ∧ m < 1000000 then
        some ⟨(d, .osl m) :: (s.kill m).T, (m, .row e sz k (xs.take i.toNat)) :: (s.kill m).M⟩ else none
    | _ => none
  | _, _ => none

/-- Where a copy goes. -/
def dstPV (s : StL) : PV → Option (Nat × Nat × Nat)
  | .osl m => match getM s.M m with
    | .row _ _ _ xs => some (m, 0, xs.length)
    | _ => none
  | .osv m sz lo len => if sz = 1 then some (m, lo, len) else none
  | _ => none
/-- copy(x, y). -/
def copyPV (P : Program) (d : Nat) (s : StL) (t : Nat) (x y : PV) : Option StL :=
  if slT P t = some 1 then
    match srcPV s 1 y, dstPV s x with
    | some (k, ys), some (m, lo, len) => match getM s.M m with
      | .row e sz k' xs => if sz = 1 ∧ lo + len ≤ xs.length then
          some ⟨(d, .t .fz (.v (.int .i64 ((min ys.length len : Nat) : Int)))) :: s.T, (m, .row e sz (k'.join k) (spl xs lo (ys.take (min ys.length len)))) :: s.M⟩ else none
      | _ => none
    | _, _ => none
  else none
/-- A range over a map of our own begins. -/
def rngPV (P : Program) (d : Nat) (s : StL) (t : Nat) (x : PV) : Option StL :=
  match x with
  | .omp m => match getM s.M m with
    | .tab k es => if s.free d = true ∧ (mapT P t).isSome = true then some ⟨(d, .ptr d 0) :: s.T, (d, .iter m es.length []) :: s.M⟩ else none
    | _ => none
  | _ => none
def u8T (P : Program) (t : Nat) : Bool := match P.underlying t with
  | some (.int .u8) => true
  | _ => false
theorem u8T_eq {P : Program} {t : Nat} (h : u8T P t = true) : P.underlying t = some (.int .u8) := by
  unfold u8T at h
  split at h
  · assumption
  · cases h
/-- Strings to bytes and back. -/
def convPV (P : Program) (d : Nat) (s : StL) (src dst : Nat) (p : PV) : Option StL :=
  match p with
  | .t _ (.v (.string b)) => match elT P dst with
    | some e => if isStrT P src = true ∧ u8T P e = true ∧ b.data.toList.length ≤ 140737488355328 then some ⟨(d, .t .fz (.sl .any 1 (bys b.data.toList))) :: s.T, s.M⟩ else none
    | none => none
  | .t _ (.v (.slice none 0 0)) => match elT P src with
    | some e => if isStrT P dst = true ∧ u8T P e = true then some ⟨(d, .t .fz (.v (.string ByteArray.empty))) :: s.T, s.M⟩ else none
    | none => none
  | .t _ (.sl _ 1 xs) => match elT P src, bytesOf xs with
    | some e, some l => if isStrT P dst = true ∧ u8T P e = true then some ⟨(d, .t .fz (.v (.string ⟨l.toArray⟩))) :: s.T, s.M⟩ else none
    | _, _ => none
  | .osl m => match getM s.M m with
    | .row _ 1 _ xs => match elT P src, bytesOf xs with
      | some e, some l => if isStrT P dst = true ∧ u8T P e = true then some ⟨(d, .t .fz (.v (.string ⟨l.toArray⟩))) :: s.T, s.M⟩ else none
      | _, _ => none
    | _ => none
  | _ => none
def newOp (P : Program) (d : Nat) (s : StL) : Op → Option StL
  | .box t x => match cellsPV (ev s x) with
    | some cs => if s.free d = true then some ⟨(d, .ptr d 0) :: s.T, (d, .blk t cs) :: s.M⟩ else none
    | none => none
  | .alloc t => match zT P t with
    | some z => if s.free d = true then some ⟨(d, .ptr d 0) :: s.T, (d, .blk t (z.map fun c => PV.t .fz (.v c))) :: s.M⟩ else none
    | none => none
  | .buildSlice t len parts => match elT P t with
    | some e => match szT P e, zT P e with
      | some sz, some z => if s.free d = true ∧ z.length = sz ∧ len = parts.size ∧ len * sz ≤ 16777216 ∧ 0 < sz then
          match rowPV s sz 0 parts.toList with
          | some (k, xs) => some ⟨(d, .osl d) :: s.T, (d, .row e sz k xs) :: s.M⟩
          | none => if sz = 1 then (match blkPV s 0 parts.toList with
            | some cs => some ⟨(d, .mx d 5 len 0) :: s.T, (d, .blk e cs) :: s.M⟩
            | none => none) else none
        else none
      | _, _ => none
    | none => none
  | .makeSlice t l c => match elT P t, ev s l, ev s c with
    | some e, .t _ (.v (.int _ l)), .t _ (.v (.int _ c)) => match szT P e, zT P e, byT P e with
      | some sz, some z, some b => if s.free d = true ∧ z.length = sz ∧ 0 < sz ∧ 0 ≤ l ∧ l ≤ c ∧ c ≤ 140737488355328 ∧ (b : Int) * c ≤ 281474976710656 then
          some ⟨(d, .osl d) :: s.T, (d, .row e sz .fz (List.replicate l.toNat (z.map TL.v))) :: s.M⟩ else none
      | _, _, _ => none
    | _, _, _ => none
  | .call c => match c.callee, c.args.toList, c.argTypes.toList with
    | .builtin .append, [x, y], [t, t'] => if t = t' then appendPV P d s t (ev s x) (ev s y) else appStrPV P d s t t' (ev s x) (ev s y)
    | .builtin .unsafeString, [x, y], [t, t'] => usStrPV P d s t (ev s x) (ev s y)
    | .builtin .copy, [x, y], [t, t'] => if t = t' then copyPV P d s t (ev s x) (ev s y) else none
    | _, _, _ => none
  | .slice t x lo hi mx => if lo.isNone && mx.isNone then (match hi with
    | some hi => shrinkPV P d s t (ev s x) (ev s hi)
    | none => none) else none
  | .makeMap t r => if r.isNone ∧ s.free d = true then some ⟨(d, .omp d) :: s.T, (d, .tab .fz []) :: s.M⟩ else none
  | .range t x => rngPV P d s t (ev s x)
  | .convert src dst x => convPV P d s src dst (ev s x)
  | _ => none

/-- A row of our own becomes a matrix's row. -/
def absPV (P : Program) (s : StL) (t : Nat) (p v : PV) : Option StL :=
  match p, v with
  | .mx m 3 i _, .osl m' => match getM s.M m, getM s.M m' with
    | .mat t0 t1 X, .row ty 1 _ xs => match intsOf xs with
      | some r => if szT P t = some 1 ∧ ty = t1 ∧ (m == m') = false ∧ m < 1000000 ∧ i < X.length ∧ X.getD i [0] = [] ∧ xs.isEmpty = false ∧ s.M.all (fun q => !q.2.men m) = true then
          some ⟨(killT m' s.T).map fun q => (q.1, mx0 m q.2), (m, .mat t0 t1 (X.set i r)) :: (m', .dead) :: killM m' s.M⟩ else none
      | none => none
    | _, _ => none
  | _, _ => none
/-- clear of a row of our own, or of a part of it. -/
def clearPV (P : Program) (s : StL) (t : Nat) (x : PV) : Option StL :=
  match x with
  | .osv m sz lo len => match getM s.M m with
    | .row ty sz' k xs => match (elT P t).bind (zT P) with
      | some z => if sz' = sz ∧ slT P t = some sz ∧ z.length = sz ∧ 0 < sz ∧ 0 < len ∧ lo + len ≤ xs.length ∧ z.all Value.oneCell' = true then some ⟨s.T, (m, .row ty sz k (spl xs lo (List.replicate len (z.map .v)))) :: s.M⟩ else none
      | none => none
    | _ => none
  | _ => none
/-- One operation. -/
def step (P : Program) (n : Nat) (dst : Option Nat) (s : StL) (op : Op) : Option StL :=
  match dst with
  | none => match op with
    | .store t p v => match absPV P s t (ev s p) (ev s v) with
      | some s' => some s'
      | none => storePV P s t (ev s p) (ev s v)
    | .mapUpdate t m k v => updPV P s t (ev s m) (ev s k) (ev s v)
    | .call c => match c.callee, c.args.toList, c.argTypes.toList with
      | .builtin .clear, [x], [t] => clearPV P s t (ev s x)
      | _, _, _ => none
    | _ => none
  | some d => if d < n then
      match valOp P s op with
      | some q => some ⟨(d, q) :: s.T, s.M⟩
      | none => newOp P d s op
    else none

section
variable {P : Program} {w0 : Base} {F0 : Nat → Prop} {n : Nat} {s : StL} {a : Act} {w : World} {φ : Nat → Value} {fp : Nat → Nat → Prop}

theorem nilCmp_rep {St : Kind → Nat → Prop} {t : Nat} {p q : PV} {u v : Value} {b : Bool} (hu : PVRep w φ St p u) (hv : PVRep w φ St q v) (hq : nilCmp P t p q = some b) :
    ∃ e ao l c, P.underlying t = some (.slice e) ∧ u = .slice ao l c ∧ v = .slice none 0 0 ∧ b = ao.isNone := by
  unfold nilCmp at hq
  split at hq
  · rename_i k f sz xs k'
    split at hq
    · rename_i hc
      cases hq
      obtain ⟨e, he⟩ := isSlT_run hc.1
      have h2 := hv.t_inv.v_inv
      cases hu.t_inv with
      | sl g hcap ht hnn hnil hbd ha hlen hrep =>
        rename_i ao cap
        refine ⟨e, ao, _, _, he, rfl, h2, ?_⟩
        rcases hc.2 with hf | hx
        · have := hnn hf
          cases ao <;> simp_all
        · obtain ⟨b, o, rfl, _⟩ := ha.resolve_left (by rintro rfl; simp at hx)
          rfl
    · cases hq
  · split at hq
    · rename_i hc
      cases hq
      obtain ⟨e, he⟩ := isSlT_run hc
      exact ⟨e, none, 0, 0, he, hu.t_inv.v_inv, hv.t_inv.v_inv, rfl⟩
    · cases hq
  · cases hq

theorem aggCmp_rep {t : Nat} {p q : PV} {u v : Value} {b : Bool} (hu : PVRep w φ (Stb w0 w fp) p u) (hv : PVRep w φ (Stb w0 w fp) q v) (hq : aggCmp P t p q = some b) :
    ∃ (n : Nat) (va vb : Array Value) (xs ys : List Int), eqT P t = some n ∧ u = .agg va ∧ v = .agg vb ∧ va.toList = xs.map (.int .i64 ·) ∧ vb.toList = ys.map (.int .i64 ·) ∧ xs.length = n ∧ ys.length = n ∧ b = (xs == ys) := by
  unfold aggCmp at hq
  split at hq
  · rename_i n a b' h1 h2 h3
    split at hq
    · rename_i x y hx hy
      split at hq
      · rename_i hl
        cases hq
        exact ⟨n, a, b', x, y, h1, keyV_rep hu h2, keyV_rep hv h3, intsL_map hx, intsL_map hy, hl.1, hl.2, rfl⟩
      · cases hq
    · cases hq
  · cases hq
theorem niT_run {P : Program} {t : Nat} (h : niT P t = true) (u : Value) (w : World) : (Instr.makeInterface t u).run P w = .ok (.iface t u) w := by
  unfold niT at h
  cases hu : P.underlying t with
  | none => rw [hu] at h; cases h
  | some d =>
    rw [hu] at h
    simp only [Instr.makeInterface, Sem.run_bind, run_underlying hu, Result.andThen_ok]
    cases d <;> first | rfl | cases h
theorem eqi_nn {P : Program} {t : Nat} {ms : Array (String × TypeId)} (hms : P.underlying t = some (.interface ms)) (d : Nat) (w : World) : (Op.equalIn (d + 1) t .nilIface .nilIface).run P w = .ok true w := by
  simp [Op.equalIn, run_underlying hms]
theorem eqi_ni {P : Program} {t : Nat} {ms : Array (String × TypeId)} (hms : P.underlying t = some (.interface ms)) (d a : Nat) (v : Value) (w : World) : (Op.equalIn (d + 1) t .nilIface (.iface a v)).run P w = .ok false w := by
  simp [Op.equalIn, run_underlying hms]
theorem eqi_in {P : Program} {t : Nat} {ms : Array (String × TypeId)} (hms : P.underlying t = some (.interface ms)) (d a : Nat) (v : Value) (w : World) : (Op.equalIn (d + 1) t (.iface a v) .nilIface).run P w = .ok false w := by
  simp [Op.equalIn, run_underlying hms]
theorem eqi_ne {P : Program} {t : Nat} {ms : Array (String × TypeId)} (hms : P.underlying t = some (.interface ms)) (d a b : Nat) (u v : Value) (hab : a ≠ b) (w : World) : (Op.equalIn (d + 1) t (.iface a u) (.iface b v)).run P w = .ok false w := by
  simp [Op.equalIn, run_underlying hms, hab]
theorem eqi_int {P : Program} {a : Nat} {kk : IntKind} (hk : P.underlying a = some (.int kk)) (d : Nat) (k : IntKind) (u v : Int) (w : World) : (Op.equalIn (d + 1) a (.int k u) (.int k v)).run P w = .ok (u == v) w := by
  simp [Op.equalIn, run_underlying hk]
theorem eqi_eq {P : Program} {t : Nat} {ms : Array (String × TypeId)} (hms : P.underlying t = some (.interface ms)) (d a : Nat) {kk : IntKind} {i : TypeInfo} (hk : P.underlying a = some (.int kk)) (hi : P.info? a = some i) (hc : i.comparable = true) (k : IntKind) (u v : Int) (w : World) :
    (Op.equalIn (d + 1 + 1) t (.iface a (.int k u)) (.iface a (.int k v))).run P w = .ok (u == v) w := by
  have h2 := eqi_int hk d k u v w
  generalize hd : d + 1 = e at *
  rw [Op.equalIn]
  simp [run_underlying hms, typeInfo, hi, hc, h2]
theorem ifCmp_run {P : Program} {t : Nat} {x y : Operand} {p q : PV} {w : World} {φ : Nat → Value} {St : Kind → Nat → Prop} {u v : Value} {b : Bool} (hu : PVRep w φ St p u) (hv : PVRep w φ St q v) (hq : ifCmp P t x y p q = some b) :
    (do eqGuard .eql t x y u v; binOp .eql t u v : Sem Value).run P w = .ok (.bool b) w ∧ (do eqGuard .neq t x y u v; binOp .neq t u v : Sem Value).run P w = .ok (.bool !b) w := by
  unfold ifCmp at hq
  split at hq
  · rename_i hit
    have hun : ∃ ms, P.underlying t = some (.interface ms) := by
      unfold itT at hit
      split at hit
      · rename_i ms hms
        exact ⟨ms, hms⟩
      · cases hit
    obtain ⟨ms, hms⟩ := hun
    split at hq
    · have e1 := hu.t_inv.v_inv
      have e2 := hv.t_inv.v_inv
      subst e1 e2
      split at hq
      · rename_i hc
        cases hq
        have hE : (Op.equal t .nilIface .nilIface).run P w = .ok true w := eqi_nn hms 9999 w
        have hg : ∀ op, op = .eql ∨ op = .neq → (eqGuard op t x y .nilIface .nilIface).run P w = .ok () w := by
          intro op ho
          cases x <;> cases y <;> first | (exfalso; simp [isC] at hc; done) | (rcases ho with rfl | rfl <;> simp [eqGuard])
        constructor
        · rw [Sem.run_bind, hg _ (.inl rfl)]
          simp only [Result.andThen_ok, binOp, Sem.run_bind, hE, Sem.run_pure]
        · rw [Sem.run_bind, hg _ (.inr rfl)]
          simp only [Result.andThen_ok, binOp, Sem.run_bind, hE, Sem.run_pure]
      · cases hq
    · have e1 := hu.t_inv.v_inv
      have e2 := hv.t_inv.v_inv
      subst e1 e2
      cases hq
      rename_i a v'
      have hE : (Op.equal t .nilIface (.iface a v')).run P w = .ok false w := eqi_ni hms 9999 a v' w
      have hg : ∀ op, op = .eql ∨ op = .neq → (eqGuard op t x y .nilIface (.iface a v')).run P w = .ok () w := by
        intro op ho
        rcases ho with rfl | rfl <;> simp [eqGuard]
      constructor
      · rw [Sem.run_bind, hg _ (.inl rfl)]
        simp only [Result.andThen_ok, binOp, Sem.run_bind, hE, Sem.run_pure]
      · rw [Sem.run_bind, hg _ (.inr rfl)]
        simp only [Result.andThen_ok, binOp, Sem.run_bind, hE, Sem.run_pure]
    · have e1 := hu.t_inv.v_inv
      have e2 := hv.t_inv.v_inv
      subst e1 e2
      cases hq
      rename_i k1 a v' k2
      have hE : (Op.equal t (.iface a v') .nilIface).run P w = .ok false w := eqi_in hms 9999 a v' w
      have hg : ∀ op, op = .eql ∨ op = .neq → (eqGuard op t x y (.iface a v') .nilIface).run P w = .ok () w := by
        intro op ho
        rcases ho with rfl | rfl <;> simp [eqGuard]
      constructor
      · rw [Sem.run_bind, hg _ (.inl rfl)]
        simp only [Result.andThen_ok, binOp, Sem.run_bind, hE, Sem.run_pure]
      · rw [Sem.run_bind, hg _ (.inr rfl)]
        simp only [Result.andThen_ok, binOp, Sem.run_bind, hE, Sem.run_pure]
    · have e1 := hu.t_inv.v_inv
      have e2 := hv.t_inv.v_inv
      subst e1 e2
      rename_i k1 a k u1 k2 c k' u2
      have hg : ∀ op, op = .eql ∨ op = .neq → (eqGuard op t x y (.iface a (.int k u1)) (.iface c (.int k' u2))).run P w = .ok () w := by
        intro op ho
        rcases ho with rfl | rfl <;> simp [eqGuard]
      have fin : ∀ b', (Op.equal t (.iface a (.int k u1)) (.iface c (.int k' u2))).run P w = .ok b' w → (do eqGuard .eql t x y (.iface a (.int k u1)) (.iface c (.int k' u2)); binOp .eql t (.iface a (.int k u1)) (.iface c (.int k' u2)) : Sem Value).run P w = .ok (.bool b') w ∧
          (do eqGuard .neq t x y (.iface a (.int k u1)) (.iface c (.int k' u2)); binOp .neq t (.iface a (.int k u1)) (.iface c (.int k' u2)) : Sem Value).run P w = .ok (.bool !b') w := fun b' hE => by
        constructor
        · rw [Sem.run_bind, hg _ (.inl rfl)]
          simp only [Result.andThen_ok, binOp, Sem.run_bind, hE, Sem.run_pure]
        · rw [Sem.run_bind, hg _ (.inr rfl)]
          simp only [Result.andThen_ok, binOp, Sem.run_bind, hE, Sem.run_pure]
      split at hq
      · rename_i hab
        subst hab
        split at hq
        · rename_i hc
          obtain ⟨rfl, hic⟩ := hc
          cases hq
          unfold icT at hic
          split at hic
          · rename_i kk i hk hi
            exact fin _ (eqi_eq hms 9998 a hk hi hic k u1 u2 w)
          · cases hic
        · cases hq
      · rename_i hab
        cases hq
        exact fin _ (eqi_ne hms 9999 a c _ _ hab w)
    · cases hq
  · cases hq
theorem ptCmp_run {P : Program} {t : Nat} {x y : Operand} {p q : PV} {w : World} {φ : Nat → Value} {St : Kind → Nat → Prop} {u v : Value} {b : Bool} (hu : PVRep w φ St p u) (hv : PVRep w φ St q v) (hq : ptCmp P t p q = some b) :
    (do eqGuard .eql t x y u v; binOp .eql t u v : Sem Value).run P w = .ok (.bool b) w ∧ (do eqGuard .neq t x y u v; binOp .neq t u v : Sem Value).run P w = .ok (.bool !b) w := by
  unfold ptCmp at hq
  split at hq
  · rename_i hit
    have hun : ∃ e, P.underlying t = some (.pointer e) := by
      unfold ptT at hit
      split at hit
      · rename_i e he
        exact ⟨e, he⟩
      · cases hit
    obtain ⟨e, he⟩ := hun
    have fin : ∀ (a c : Option Addr) (b' : Bool), (Op.equalIn (9999 + 1) t (.pointer a) (.pointer c)).run P w = .ok b' w → (do eqGuard .eql t x y (.pointer a) (.pointer c); binOp .eql t (.pointer a) (.pointer c) : Sem Value).run P w = .ok (.bool b') w ∧
        (do eqGuard .neq t x y (.pointer a) (.pointer c); binOp .neq t (.pointer a) (.pointer c) : Sem Value).run P w = .ok (.bool !b') w := fun a c b' hE' => by
      have hE : (Op.equal t (.pointer a) (.pointer c)).run P w = .ok b' w := hE'
      have hg : ∀ op, op = .eql ∨ op = .neq → (eqGuard op t x y (.pointer a) (.pointer c)).run P w = .ok () w := by
        intro op ho
        rcases ho with rfl | rfl <;> simp [eqGuard]
      constructor
      · rw [Sem.run_bind, hg _ (.inl rfl)]
        simp only [Result.andThen_ok, binOp, Sem.run_bind, hE, Sem.run_pure]
      · rw [Sem.run_bind, hg _ (.inr rfl)]
        simp only [Result.andThen_ok, binOp, Sem.run_bind, hE, Sem.run_pure]
    split at hq
    · have e2 := hv.t_inv.v_inv
      subst e2
      cases hu with
      | ptr h =>
      cases hq
      refine fin _ _ _ ?_
      generalize 9999 = d
      simp [Op.equalIn, run_underlying he]
    · have e1 := hu.t_inv.v_inv
      subst e1
      cases hv with
      | ptr h =>
      cases hq
      refine fin _ _ _ ?_
      generalize 9999 = d
      simp [Op.equalIn, run_underlying he]
    · have e1 := hu.t_inv.v_inv
      have e2 := hv.t_inv.v_inv
      subst e1 e2
      cases hq
      refine fin _ _ _ ?_
      generalize 9999 = d
      simp [Op.equalIn, run_underlying he]
    · have e2 := hv.t_inv.v_inv
      subst e2
      have e1 := hu.t_inv
      cases e1
      cases hq
      refine fin _ _ _ ?_
      generalize 9999 = d
      simp [Op.equalIn, run_underlying he]
    · cases hq
  · cases hq
theorem valOp_run (h : SimX w0 F0 n s a w φ fp) {o : Oper} {q : PV} (hq : valOp P s o.op = some q) :
    ∃ v, (execOp a.eval o).run P w = .ok (.value v) w ∧ PVRep w φ (Stb w0 w fp) q v := by
  unfold valOp at hq
  split at hq
  · rename_i t parts ho
    split at hq
    · rename_i hok
      obtain ⟨v, hv, hr⟩ := buildPV_run h hok hq
      refine ⟨v, ?_, hr⟩
      simp only [execOp, ho]
      exact run_value hv
    · cases hq
  · rename_i op t x y ty ho
    split at hq
    · rename_i q' hq'
      cases hq
      rw [← ho] at hq'
      exact opVal_run h hq'
    · have hx := h.ev x
      have hy := h.ev y
      cases hb2 : cmpB2 P t x y (ev s x) (ev s y) with
      | none => simp only [hb2] at hq; cases hq
      | some b =>
        simp only [hb2] at hq
        by_cases hif : cmpB P t (ev s x) (ev s y) = none
        · unfold cmpB2 at hb2
          simp only [hif] at hb2
          have hE : (do eqGuard .eql t x y (a.eval x) (a.eval y); binOp .eql t (a.eval x) (a.eval y) : Sem Value).run P w = .ok (.bool b) w ∧ (do eqGuard .neq t x y (a.eval x) (a.eval y); binOp .neq t (a.eval x) (a.eval y) : Sem Value).run P w = .ok (.bool !b) w := by
            cases h4 : ifCmp P t x y (ev s x) (ev s y) with
            | some b' =>
              simp only [h4, Option.some.injEq] at hb2
              subst hb2
              exact ifCmp_run (w := w) hx hy h4
            | none =>
              simp only [h4] at hb2
              exact ptCmp_run (w := w) hx hy hb2
          split at hq
          · cases hq
            exact ⟨.bool b, by simp only [execOp, ho]; exact run_value hE.1, .t (.v _)⟩
          · cases hq
            exact ⟨.bool !b, by simp only [execOp, ho]; exact run_value hE.2, .t (.v _)⟩
          · cases hq
        have hb0 : cmpB P t (ev s x) (ev s y) = some b := by
          unfold cmpB2 at hb2
          cases h3 : cmpB P t (ev s x) (ev s y) with
          | none => exact absurd h3 hif
          | some b' => simp only [h3] at hb2; exact hb2
        unfold cmpB at hb0
        cases hb : nilCmp P t (ev s x) (ev s y) with
        | none =>
          simp only [hb] at hb0
          obtain ⟨n, va, vb, xs, ys, ht, h1, h2, hxs, hys, hlx, hly, rfl⟩ := aggCmp_rep hx hy hb0
          have hE := agg_eq_run ht hxs hys hlx hly w x y
          split at hq
          · cases hq
            refine ⟨.bool (xs == ys), ?_, .t (.v _)⟩
            simp only [execOp, ho, h1, h2]
            exact run_value hE.1
          · cases hq
            refine ⟨.bool !(xs == ys), ?_, .t (.v _)⟩
            simp only [execOp, ho, h1, h2]
            exact run_value hE.2
          · cases hq
        | some b' =>
        simp only [hb, Option.some.injEq] at hb0
        rw [hb0] at hb
        obtain ⟨e, ao, l, c, he, h1, h2, h3⟩ := nilCmp_rep hx hy hb
        have heql := Lib.run_eql_slice_nil (P := P) w t e ao l c 0 0 he
        split at hq
        · cases hq
          refine ⟨.bool b, ?_, .t (.v _)⟩
          simp only [execOp, ho, h1, h2]
          refine run_value ?_
          rw [Sem.run_bind]
          have hg : (eqGuard .eql t x y (.slice ao l c) (.slice none 0 0)).run P w = .ok () w := by unfold eqGuard; rfl
          rw [hg, Result.andThen_ok, heql, h3]
        · cases hq
          refine ⟨.bool !b, ?_, .t (.v _)⟩
          simp only [execOp, ho, h1, h2]
          refine run_value ?_
          rw [Sem.run_bind]
          have hg : (eqGuard .neq t x y (.slice ao l c) (.slice none 0 0)).run P w = .ok () w := by unfold eqGuard; rfl
          rw [hg, Result.andThen_ok]
          simp only [binOp, Sem.run_bind, Sem.run_pure] at heql ⊢
          cases hr : (Op.equal t (.slice ao l c) (.slice none 0 0)).run P w with
          | ok x w2 =>
            rw [hr] at heql
            simp only [Result.andThen_ok, Result.ok.injEq, Value.bool.injEq] at heql ⊢
            obtain ⟨e1, e2⟩ := heql
            rw [e1, e2, h3]
            simp
          | halt x w2 => rw [hr] at heql; simp [Result.andThen] at heql
        · cases hq
  · rename_i t x ho
    unfold mkIf at hq
    split at hq
    · rename_i hn
      have hx := h.ev x
      split at hq
      · rename_i k u he
        cases hq
        rw [he] at hx
        refine ⟨.iface t u, ?_, .t (.v _)⟩
        simp only [execOp, ho, hx.t_inv.v_inv]
        exact run_value (niT_run hn u w)
      · cases hq
        refine ⟨.iface t (a.eval x), ?_, .t (.one rfl)⟩
        simp only [execOp, ho]
        exact run_value (niT_run hn _ w)
    · cases hq
  · exact opVal_run h hq

theorem byT_info {e b sz : Nat} {z : List Value} (hb : byT P e = some b) (hs : szT P e = some sz) (hz : zT P e = some z) :
    ∃ i zv, P.info? e = some i ∧ i.bytes = b ∧ i.size = sz ∧ i.zero = some zv ∧ zv.cells.toList = z := by
  unfold byT at hb
  unfold szT at hs
  unfold zT at hz
  obtain ⟨i, hi, rfl⟩ := Option.map_eq_some_iff.1 hb
  rw [hi] at hs hz
  simp only [Option.map_some, Option.some.injEq] at hs
  obtain ⟨zv, hzv, rfl⟩ := Option.map_eq_some_iff.1 hz
  simp only [Option.bind_some] at hzv
  exact ⟨i, zv, hi, rfl, hs, hzv, rfl⟩

/-- The relation behind an append to what name m holds, or will hold. -/
theorem append_sim (h : SimX w0 F0 n s a w φ fp) {d m e sz : Nat} {k k' : Kind} {xs ys : List (List TL)} {cells news : List Value} {v' : Value} {w' : World} (hdn : d < n) (hm6 : m < 1000000)
    (hT : s.T.all (fun p => !p.2.men m) = true) (hM : s.M.all (fun p => !p.2.men m) = true)
    (hcl : cells.length = xs.length * sz) (hlx : ∀ e ∈ xs, e.length = sz) (hly : ∀ e ∈ ys, e.length = sz) (hsz : 0 < sz)
    (hrx : ∀ (i j : Nat) (e : List TL) (x : TL), xs[i]? = some e → e[j]? = some x → TRep w (Stb w0 w fp k') x (cells.getD (i * sz + j) Go.undef))
    (hry : ∀ (i j : Nat) (e : List TL) (x : TL), ys[i]? = some e → e[j]? = some x → TRep w (Stb w0 w fp k) x (news.getD (i * sz + j) Go.undef))
    (hbd : xs.length + ys.length ≤ 140737488355328)
    (hres : w'.ownsRow 0 e sz v' (xs.length + ys.length) (cells ++ news)) (hgr : w.grownBy w' none ∨ ∃ v, w.grownBy w' v ∧ ∀ g, some g = v → fp m g)
    (hF : ∀ g, v'.ownBlock = some g → fp m g ∨ w.heap.size ≤ g) :
    Sim w0 F0 n ⟨(d, .osl m) :: s.T, (m, .row e sz (k'.join k) (xs ++ ys)) :: s.M⟩ (a.put (some d) v') w' := by
  obtain ⟨os_, tp_, ot_, sz_, hblk⟩ : w'.os = w.os ∧ w'.tape = w.tape ∧ w'.output = w.output ∧ w.heap.size ≤ w'.heap.size ∧ ∀ g, g < w.heap.size → ¬ fp m g → w'.heap[g]? = w.heap[g]? := by
    rcases hgr with hg | ⟨v, hg, hv⟩
    · exact ⟨hg.os, hg.tape, hg.output, hg.size, fun g h1 _ => hg.block g h1 (by simp)⟩
    · exact ⟨hg.os, hg.tape, hg.output, hg.size, fun g h1 h2 => hg.block g h1 fun e => h2 (hv g e)⟩
  obtain ⟨φ', fp', h', hv'⟩ := h.regrow hm6 hT hM (w' := w') (v' := v') (r' := .row e sz (k'.join k) (xs ++ ys)) (F' := fun g => v'.ownBlock = some g) os_ tp_ ot_ sz_ hblk
    (fun g hg => ⟨hF g hg, (hres.lt g hg).2⟩) (fun φ' fp' hS hSc => by
      refine ⟨cells ++ news, .inl ⟨by simpa using hres, fun g => Iff.rfl⟩, by simpa using hbd, fun e he => ?_, fun i j e x he hx => ?_⟩
      · rcases List.mem_append.1 he with he | he
        · exact hlx e he
        · exact hly e he
      · have hj : j < sz := by
          have h1 := (List.getElem?_eq_some_iff.1 hx).1
          have h2 : e.length = sz := by
            rcases List.mem_append.1 (List.mem_of_getElem? he) with he | he
            · exact hlx e he
            · exact hly e he
          omega
        by_cases hi : i < xs.length
        · rw [List.getElem?_append_left hi] at he
          have hmul : (i + 1) * sz ≤ xs.length * sz := Nat.mul_le_mul_right _ hi
          rw [Nat.add_mul] at hmul
          have := ((hrx i j e x he hx).mono (hSc _) (hS _)).join k
          rwa [List.getD_eq_getElem?_getD, List.getElem?_append_left (by omega), ← List.getD_eq_getElem?_getD]
        · rw [List.getElem?_append_right (by omega)] at he
          have hmul : xs.length * sz ≤ i * sz := Nat.mul_le_mul_right _ (by omega)
          have := ((hry (i - xs.length) j e x he hx).mono (hSc _) (hS _)).join k'
          rw [Kind.join_comm] at this
          rw [List.getD_eq_getElem?_getD, List.getElem?_append_right (by omega), ← List.getD_eq_getElem?_getD]
          have e1 : i * sz + j - cells.length = (i - xs.length) * sz + j := by rw [hcl, Nat.sub_mul]; omega
          rw [e1]
          exact this)
  obtain ⟨ao, l, c, hs⟩ : ∃ ao l c, v' = .slice ao l c := by
    rcases hres.2 with ⟨rfl, _⟩ | ⟨g, cap, cur, rfl, _⟩
    · exact ⟨_, _, _, rfl⟩
    · exact ⟨_, _, _, rfl⟩
  subst hs
  exact ⟨φ', fp', h'.put hdn (.osl hv')⟩

/-- An empty slice without room, adopted. -/
theorem adopt_sim (h : SimX w0 F0 n s a w φ fp) {d m e sz : Nat} {k : Kind} {ao : Option Addr} (hdn : d < n) (hm6 : m < 1000000) (hT : s.T.all (fun p => !p.2.men m) = true) (hM : s.M.all (fun p => !p.2.men m) = true) :
    Sim w0 F0 n ⟨(d, .osl m) :: s.T, (m, .row e sz k []) :: s.M⟩ (a.put (some d) (.slice ao 0 0)) w := by
  obtain ⟨φ', fp', h', hv'⟩ := h.regrow hm6 hT hM (w' := w) (v' := .slice ao 0 0) (r' := .row e sz k []) (F' := fun _ => False) rfl rfl rfl (Nat.le_refl _) (fun _ _ _ => rfl)
    (fun g hg => hg.elim) (fun φ' fp' hS hSc => ⟨[], .inr ⟨rfl, ⟨ao, rfl⟩, fun g hg => hg⟩, by simp, by simp, fun i j e x he => by simp at he⟩)
  exact ⟨φ', fp', h'.put hdn (.osl hv')⟩

theorem appendPV_run (h : SimX w0 F0 n s a w φ fp) {d t ty : Nat} {x y : PV} {u v : Value} {s' : StL} (hdn : d < n) (hx : PVRep w φ (Stb w0 w fp) x u) (hy : PVRep w φ (Stb w0 w fp) y v) (hq : appendPV P d s t x y = some s') :
    ∃ r w', (Builtin.append_ #[t, t] ty #[u, v]).run P w = .ok r w' ∧ Sim w0 F0 n s' (a.put (some d) r) w' := by
  unfold appendPV at hq
  split at hq
  · cases hq
  · rename_i e he
    have ht := elT_und he
    split at hq
    · rename_i sz z b hsz hz hb
      split at hq
      · rename_i hc0
        obtain ⟨hszp, hbp, hzl⟩ := hc0
        obtain ⟨i, zv, hi, hib, his, hiz, hzc⟩ := byT_info hb hsz hz
        have hzs : zv.cells.size = sz := by rw [← hzl, ← hzc]; simp
        split at hq
        · cases hq
        · rename_i k ys hsrc
          obtain ⟨ao, c, rfl, hyb, hly, hne, news, hnl, hnc, hn1, hry⟩ := srcPV_rep h hszp hy hsrc
          have hao : ys.length = 0 ∨ ∃ A, ao = some A := hne.imp (fun h => by simp [h]) id
          split at hq
          · -- a row of our own
            rename_i m
            split at hq
            · rename_i e' sz' k' xs hM
              split at hq
              · rename_i hc
                obtain ⟨rfl, rfl, hm6, hbytes⟩ := hc
                cases hq
                cases hx with
                | @osl _ len cap bo hφ =>
                have h1 := h.kill m
                have hres := h1.res m
                have hMk : getM (s.kill m).M m = .row e' sz' k' xs := by
                  show getM (killM m s.M) m = _
                  rw [getM_kill, hM]; rfl
                rw [hMk] at hres
                obtain ⟨cells, hown, hbd, hlen, hrep⟩ := hres
                rw [hφ] at hown
                have hbd' : xs.length + ys.length ≤ 140737488355328 := Nat.le_trans (Nat.le_mul_of_pos_right _ hbp) hbytes
                rcases hown with ⟨hown, hF⟩ | ⟨rfl, ⟨bo', hbo'⟩, hF⟩
                · obtain ⟨v', w', hr, ho, hg, hv'⟩ := append_own (P := P) ht i hi hiz his hib hzs hszp hbp ty hown hao hnl hnc hn1 hbytes
                  refine ⟨v', w', hr, append_sim h1 hdn hm6 (killT_men m s.T) (killM_men m s.M) hown.1 hlen hly hszp hrep hry hbd' ho (.inr ⟨_, hg, fun g hg' => (hF g).2 hg'.symm⟩) fun g hg' => ?_⟩
                  rcases hv' with e1 | e1
                  · rw [e1] at hg'; exact .inl ((hF g).2 hg')
                  · rw [e1] at hg'; cases hg'; exact .inr (Nat.le_refl _)
                · cases hbo'
                  rcases Nat.eq_zero_or_pos ys.length with hy0 | hy0
                  · have : ys = [] := List.eq_nil_of_length_eq_zero hy0
                    subst this
                    exact ⟨_, w, run_append_zero ht hsz ty bo 0 0 (Nat.le_refl _) ao c w, adopt_sim h1 hdn hm6 (killT_men m s.T) (killM_men m s.M)⟩
                  · obtain ⟨A, rfl⟩ := hao.resolve_left (by omega)
                    obtain ⟨v', w', hr, ho, hg, hv'⟩ := append_grow (P := P) (bo := bo) (cells := []) ht i hi hiz his hib hzs hszp hbp ty (.inl rfl) (by simp) (fun B _ j u hu => by simp at hu) hy0 hnl (hnc A rfl) (by simpa using hbytes)
                    refine ⟨v', w', hr, append_sim h1 hdn hm6 (xs := []) (cells := []) (killT_men m s.T) (killM_men m s.M) (by simp) (by simp) hly hszp (fun i j e x he => by simp at he) hry (by simpa using hbd') (by simpa using ho) (.inl hg) fun g hg' => ?_⟩
                    rw [hv'] at hg'; cases hg'; exact .inr (Nat.le_refl _)
              · cases hq
            · cases hq
          · -- nil
            split at hq
            · rename_i hc
              obtain ⟨hfree, hbytes⟩ := hc
              cases hq
              have hu := hx.t_inv.v_inv
              subst hu
              simp only [StL.free, Bool.and_eq_true] at hfree
              have hbd' : ys.length ≤ 140737488355328 := hyb
              rcases Nat.eq_zero_or_pos ys.length with hy0 | hy0
              · have : ys = [] := List.eq_nil_of_length_eq_zero hy0
                subst this
                exact ⟨_, w, run_append_zero ht hsz ty none 0 0 (Nat.le_refl _) ao c w, adopt_sim h hdn (of_decide_eq_true hfree.2.2) hfree.1.1 hfree.1.2⟩
              · obtain ⟨A, rfl⟩ := hao.resolve_left (by omega)
                obtain ⟨v', w', hr, ho, hg, hv'⟩ := append_grow (P := P) (bo := none) (cells := []) ht i hi hiz his hib hzs hszp hbp ty (.inl rfl) (by simp) (fun B _ j u hu => by simp at hu) hy0 hnl (hnc A rfl) (by simpa using hbytes)
                have := append_sim h hdn (of_decide_eq_true hfree.2.2) (k' := .fz) (xs := []) (cells := []) hfree.1.1 hfree.1.2 (by simp) (by simp) hly hszp (fun i j e x he => by simp at he) hry (by simpa using hbd') (by simpa using ho) (.inl hg) fun g hg' => by
                  rw [hv'] at hg'; cases hg'; exact .inr (Nat.le_refl _)
                refine ⟨v', w', hr, ?_⟩
                cases k <;> exact this
            · cases hq
          · -- an empty cut without room
            rename_i k' sz'
            split at hq
            · rename_i hc
              obtain ⟨hfree, rfl, hbytes⟩ := hc
              cases hq
              obtain ⟨bo, rfl⟩ : ∃ bo, u = .slice bo 0 0 := by
                generalize hxs : ([] : List (List TL)) = xs at hx
                cases hx.t_inv with
                | @sl _ _ _ bo cap g hcap ht' hnn hnil hbd ha hlen hrep =>
                  subst hxs
                  have := ht' rfl
                  exact ⟨bo, by rw [this]; rfl⟩
              simp only [StL.free, Bool.and_eq_true] at hfree
              rcases Nat.eq_zero_or_pos ys.length with hy0 | hy0
              · have : ys = [] := List.eq_nil_of_length_eq_zero hy0
                subst this
                exact ⟨_, w, run_append_zero ht hsz ty bo 0 0 (Nat.le_refl _) ao c w, adopt_sim h hdn (of_decide_eq_true hfree.2.2) hfree.1.1 hfree.1.2⟩
              · obtain ⟨A, rfl⟩ := hao.resolve_left (by omega)
                obtain ⟨v', w', hr, ho, hg, hv'⟩ := append_grow (P := P) (bo := bo) (cells := []) ht i hi hiz his hib hzs hszp hbp ty (.inl rfl) (by simp) (fun B _ j u hu => by simp at hu) hy0 hnl (hnc A rfl) (by simpa using hbytes)
                have := append_sim h hdn (of_decide_eq_true hfree.2.2) (k' := .fz) (xs := []) (cells := []) hfree.1.1 hfree.1.2 (by simp) (by simp) hly hszp (fun i j e x he => by simp at he) hry (by simpa using hyb) (by simpa using ho) (.inl hg) fun g hg' => by
                  rw [hv'] at hg'; cases hg'; exact .inr (Nat.le_refl _)
                refine ⟨v', w', hr, ?_⟩
                cases k <;> exact this
            · cases hq
          · -- a cut without room
            rename_i k' sz' xs hxne
            split at hq
            · rename_i hc
              obtain ⟨hfree, rfl, hyne, hbytes, hleafx⟩ := hc
              cases hq
              obtain ⟨bo, c', hu, hxb, hlx, hne', olds, hol, hoc, ho1, hrx⟩ := srcPV_rep h hszp (p := .t k' (.sl .tight sz' xs)) (k := k') (ys := xs) hx (by simp [srcPV]; simpa using hleafx)
              have hu' : u = .slice bo xs.length xs.length := by
                cases hx.t_inv with
                | @sl _ _ _ bo' cap g hcap ht' hnn hnil hbd ha hlen hrep =>
                  have := ht' rfl
                  cases hu
                  rw [this]
              subst hu'
              simp only [StL.free, Bool.and_eq_true] at hfree
              have hy0 : 0 < ys.length := by
                cases ys with
                | nil => simp at hyne
                | cons => simp
              obtain ⟨A, rfl⟩ := hao.resolve_left (by omega)
              obtain ⟨v', w', hr, ho, hg, hv'⟩ := append_grow (P := P) (bo := bo) (cells := olds) ht i hi hiz his hib hzs hszp hbp ty (hne'.imp (fun h => by simp [h]) id) hol hoc hy0 hnl (hnc A rfl) hbytes
              have hbd' : xs.length + ys.length ≤ 140737488355328 := Nat.le_trans (Nat.le_mul_of_pos_right _ hbp) hbytes
              refine ⟨v', w', hr, append_sim h hdn (of_decide_eq_true hfree.2.2) hfree.1.1 hfree.1.2 hol hlx hly hszp hrx hry hbd' ho (.inl hg) fun g hg' => ?_⟩
              rw [hv'] at hg'; cases hg'; exact .inr (Nat.le_refl _)
            · cases hq
          · cases hq
      · cases hq
    · cases hq

theorem shrinkPV_run (h : SimX w0 F0 n s a w φ fp) {d t : Nat} {x hi : PV} {u v : Value} {s' : StL} (hdn : d < n) (hx : PVRep w φ (Stb w0 w fp) x u) (hy : PVRep w φ (Stb w0 w fp) hi v) (hq : shrinkPV P d s t x hi = some s') :
    ∃ r, (Instr.sliceAt t u none (some v) none).run P w = .ok r w ∧ Sim w0 F0 n s' (a.put (some d) r) w := by
  unfold shrinkPV at hq
  split at hq
  · rename_i m k0 kk i
    split at hq
    · rename_i e sz k xs hM
      split at hq
      · rename_i hcond
        obtain ⟨hsl, h0, h1, hm6⟩ := hcond
        cases hq
        have hv := hy.t_inv.v_inv
        subst hv
        cases hx with
        | @osl _ len cap ao hφ =>
        have hres := h.res m
        rw [hM] at hres
        obtain ⟨cells, hown, hbd, hlen, hrep⟩ := hres
        rw [hφ] at hown
        unfold slT at hsl
        split at hsl
        · rename_i e' he'
          obtain ⟨j, rfl⟩ : ∃ j : Nat, i = j := ⟨i.toNat, by omega⟩
          have hj : j ≤ xs.length := by omega
          have key : len = xs.length ∧ xs.length ≤ cap ∧ (ao = none ∨ (∃ g, ao = some ⟨g, 0, none⟩) ∨ cap = 0) := by
            rcases hown with ⟨hown, hF⟩ | ⟨rfl, ⟨ao', hv⟩, _⟩
            · rcases hown.2 with ⟨hv, hz⟩ | ⟨g, cap', cur, hv, _, hh, hle, _, _⟩
              · cases hv
                exact ⟨hz.symm, by omega, .inl rfl⟩
              · cases hv
                exact ⟨rfl, hle, .inr (.inl ⟨g, rfl⟩)⟩
            · cases hv
              exact ⟨rfl, Nat.le_refl _, .inr (.inr rfl)⟩
          obtain ⟨hl, hcap, hao⟩ := key
          subst hl
          have hbr : (Instr.sliceBounds true xs.length cap none (some (.int kk (j : Int))) none).run P w = .ok (0, j, cap) w := by
            have := run_sliceBound_ok (P := P) (code := .sliceAcap) (x := .int kk (j : Int)) rfl (by omega) (show ((j : Nat) : Int) ≤ ((cap : Nat) : Int) by omega) w
            simp [Instr.sliceBounds, this]
          have hrun : (Instr.sliceAt t (.slice ao xs.length cap) none (some (.int kk (j : Int))) none).run P w = .ok (.slice ao j cap) w := by
            simp only [Instr.sliceAt, Instr.slice, Option.map, run_underlying he', hbr, szT_run hsl, Sem.run_bind, Result.andThen_ok, Sem.run_pure, Nat.zero_mul, Nat.sub_zero]
            rcases hao with rfl | ⟨g, rfl⟩ | rfl
            · simp
            · by_cases e0 : cap = 0
              · simp [e0]
              · simp [e0, addr_add]
            · simp
          refine ⟨_, hrun, ?_⟩
          have hk := h.kill m
          obtain ⟨φ', fp', h', hv'⟩ := hk.regrow hm6 (killT_men m s.T) (killM_men m s.M) (w' := w) (v' := .slice ao j cap) (r' := .row e sz k (xs.take j)) (F' := fp m) rfl rfl rfl (Nat.le_refl _) (fun _ _ _ => rfl)
            (fun g hg => ⟨.inl hg, (h.old m g hg).1⟩) (fun φ' fp' hS hSc => by
              refine ⟨cells.take (j * sz), ?_, by simp; omega, fun e he => hlen e (List.mem_of_mem_take he), fun i' j' e x he hx => ?_⟩
              · rw [List.length_take, Nat.min_eq_left hj]
                rcases hown with ⟨hown, hF⟩ | ⟨rfl, ⟨ao', hv⟩, hF⟩
                · refine .inl ⟨⟨?_, ?_⟩, fun g => (hF g).trans (by cases ao <;> rfl)⟩
                  · rw [List.length_take, hown.1, Nat.min_eq_left (Nat.mul_le_mul_right _ hj)]
                  · rcases hown.2 with ⟨hv, hz⟩ | ⟨g, cap', cur, hv, hb, hh, hle, hm, hs, ht⟩
                    · simp only [Value.slice.injEq] at hv
                      obtain ⟨rfl, _, rfl⟩ := hv
                      have : j = 0 := by omega
                      subst this
                      exact .inl ⟨rfl, rfl⟩
                    · simp only [Value.slice.injEq] at hv
                      obtain ⟨rfl, _, rfl⟩ := hv
                      refine .inr ⟨g, cap, cur, rfl, hb, hh, by omega, hm, hs, ?_⟩
                      rw [← ht, List.take_take, Nat.min_eq_left (Nat.mul_le_mul_right _ hj)]
                · simp only [Value.slice.injEq] at hv
                  obtain ⟨_, _, rfl⟩ := hv
                  have : j = 0 := by simpa using hj
                  subst this
                  exact .inr ⟨by simp, ⟨ao, rfl⟩, hF⟩
              · have hi' : i' < j := by
                  have := (List.getElem?_eq_some_iff.1 he).1
                  rw [List.length_take] at this
                  omega
                rw [List.getElem?_take_of_lt hi'] at he
                have hjl : j' < sz := by
                  have h1 := (List.getElem?_eq_some_iff.1 hx).1
                  have h2 := hlen e (List.mem_of_getElem? he)
                  omega
                have := (hrep i' j' e x he hx).mono (hSc _) (hS _)
                have hmul : (i' + 1) * sz ≤ j * sz := Nat.mul_le_mul_right _ hi'
                rw [Nat.add_mul] at hmul
                rwa [List.getD_eq_getElem?_getD, List.getElem?_take_of_lt (by omega), ← List.getD_eq_getElem?_getD])
          exact ⟨φ', fp', h'.put hdn (.osl hv')⟩
        · cases hsl
      · cases hq
    · cases hq
  · cases hq

theorem dstPV_rep (h : SimX w0 F0 n s a w φ fp) {x : PV} {u : Value} {m lo len : Nat} {e : Nat} {k : Kind} {xs : List (List TL)} (hu : PVRep w φ (Stb w0 w fp) x u) (hq : dstPV s x = some (m, lo, len)) (hM : getM s.M m = .row e 1 k xs) (hle : lo + len ≤ xs.length) :
    ∃ ao cap, u = .slice ao len cap ∧ (0 < len → ∃ g l c, φ m = .slice (some ⟨g, 0, none⟩) l c ∧ ao = some ⟨g, lo, none⟩) := by
  unfold dstPV at hq
  split at hq
  · rename_i m'
    split at hq
    · rename_i ty sz k' xs' hM'
      cases hq
      rw [hM'] at hM
      cases hM
      cases hu with
      | @osl _ len cap ao hφ =>
      have hres := h.res m
      rw [hM'] at hres
      obtain ⟨cells, hown, hbd, hlen, hrep⟩ := hres
      rw [hφ] at hown
      rcases hown with ⟨hown, hF⟩ | ⟨rfl, ⟨ao', hv⟩, _⟩
      · rcases hown.2 with ⟨hv, hz⟩ | ⟨g, cap', cur, hv, _⟩
        · cases hv
          exact ⟨none, 0, by rw [hz], fun hp => by omega⟩
        · cases hv
          exact ⟨_, _, rfl, fun _ => ⟨g, _, _, hφ, rfl⟩⟩
      · cases hv
        exact ⟨ao, 0, rfl, fun hp => by simp at hp⟩
    · cases hq
  · rename_i m' sz lo' len'
    split at hq
    · rename_i h1
      subst h1
      cases hq
      cases hu with
      | @osv _ _ _ _ g l c cap hφ hcap => exact ⟨_, _, rfl, fun _ => ⟨g, l, c, hφ, by rw [Nat.mul_one]⟩⟩
    · cases hq
  · cases hq

theorem copyPV_run (h : SimX w0 F0 n s a w φ fp) {d t ty : Nat} {x y : PV} {u v : Value} {s' : StL} (hdn : d < n) (hx : PVRep w φ (Stb w0 w fp) x u) (hy : PVRep w φ (Stb w0 w fp) y v) (hq : copyPV P d s t x y = some s') :
    ∃ r w', (Builtin.copy_ #[t, t] ty #[u, v]).run P w = .ok r w' ∧ Sim w0 F0 n s' (a.put (some d) r) w' := by
  unfold copyPV at hq
  split at hq
  · rename_i hsl
    split at hq
    · rename_i k ys m lo len hsrc hdst
      split at hq
      · rename_i e sz k' xs hM
        split at hq
        · rename_i hcond
          obtain ⟨rfl, hle⟩ := hcond
          cases hq
          unfold slT at hsl
          split at hsl
          · rename_i el hel
            have hsz1 : (P.info? el).map (·.size) = some 1 := hsl
            obtain ⟨ao, cp, rfl, hdp⟩ := dstPV_rep h hx hdst hM hle
            obtain ⟨bo, c2, rfl, hyb, hyl, hya, news, hnl, hnc, hn1, hnr⟩ := srcPV_rep h (by decide) hy hsrc
            rw [Nat.mul_one] at hnl
            have hres := h.res m
            rw [hM] at hres
            obtain ⟨cells, hown0, hbd, hlenx, hrep⟩ := hres
            rcases Nat.eq_zero_or_pos (min ys.length len) with hz | hp
            · have hrun := run_copy_none (P := P) w t t ty el ao bo len cp ys.length c2 hel hsz1 hz
              refine ⟨_, w, hrun, φ, fp, ?_⟩
              rw [hz]
              refine SimX.put (h.write rfl rfl rfl rfl (fun _ _ => rfl) fun hS hSc => ?_) hdn (.t (.v _))
              have hsp : spl xs lo (ys.take 0) = xs := by simp [spl]
              rw [hsp]
              exact ⟨cells, hown0, hbd, hlenx, fun i j e x he hx => (hrep i j e x he hx).join k⟩
            · obtain ⟨g, l, c, hφ, rfl⟩ := hdp (by omega)
              obtain ⟨A, rfl⟩ := hya.resolve_left (by rintro rfl; simp at hp)
              rw [hφ] at hown0
              obtain ⟨hown, hF⟩ := hown0.resolve_right (by rintro ⟨rfl, _⟩; simp at hle; omega)
              obtain ⟨hcl, hor⟩ := hown
              obtain ⟨g', cap', cur, hv', hb0, hh, hc1, hc2, hc3, htake⟩ := hor.resolve_left (by rintro ⟨h1, _⟩; cases h1)
              simp only [Value.slice.injEq, Option.some.injEq, Addr.mk.injEq, and_true] at hv'
              obtain ⟨rfl, rfl, rfl⟩ := hv'
              rw [Nat.mul_one] at hc3 hcl htake
              generalize hcq : min ys.length len = q at hp
              have hcsl : (news.take q).length = q := by rw [List.length_take]; omega
              have hrun := run_copy_row (P := P) w t t ty el g lo len cp A ys.length c2 cur e (news.take q) hel hsz1 hh (by rw [hcsl]; exact hcq.symm) (fun j v hv => by
                rw [List.getElem?_take] at hv
                split at hv
                · exact hnc A rfl j v hv
                · cases hv) (by rw [hcsl]; omega) (fun v hv => hn1 v (List.mem_of_mem_take hv))
              rw [show cur.toList.take lo ++ news.take q ++ cur.toList.drop (lo + (news.take q).length) = spl cur.toList lo (news.take q) from rfl] at hrun
              refine ⟨_, _, hrun, φ, fp, ?_⟩
              rw [hcsl]
              have hspl : lo + (news.take q).length ≤ cur.toList.length := by rw [hcsl]; simp; omega
              have hys : (ys.take q).length = q := by rw [List.length_take]; omega
              have hsplx : lo + (ys.take q).length ≤ xs.length := by omega
              refine SimX.put (h.write (w' := w.setRow g (spl cur.toList lo (news.take q)).toArray) rfl rfl rfl (by simp [World.setRow]) (fun r hr => setRow_other w g r _ (fun e => hr ((hF _).2 (by rw [e]; rfl)))) fun hS hSc => ?_) hdn (.t (.v _))
              refine ⟨(spl cur.toList lo (news.take q)).take xs.length, .inl ⟨⟨?_, .inr ⟨g, c, _, ?_, Nat.zero_le _, setRow_heap w g cur _ e _ hh, ?_, hc2, ?_, ?_⟩⟩, fun r => by rw [hφ]; exact hF r⟩, ?_, fun e he => ?_, fun i j e x he hx => ?_⟩
              · rw [List.length_take, spl_length hspl, spl_length hsplx]
                simp; omega
              · rw [hφ, spl_length hsplx]
              · rw [spl_length hsplx]; exact hc1
              · simp [spl_length hspl, hc3]
              · rw [spl_length hsplx, Nat.mul_one]
              · rw [spl_length hsplx]; exact hbd
              · obtain ⟨i, hi⟩ := List.getElem?_of_mem he
                rw [spl_get hsplx] at hi
                split at hi
                · exact hyl e (List.mem_of_mem_take (List.mem_of_getElem? hi))
                · exact hlenx e (List.mem_of_getElem? hi)
              · have hil : i < xs.length := by
                  have := (List.getElem?_eq_some_iff.1 he).1
                  rwa [spl_length hsplx] at this
                have hnew : ((spl cur.toList lo (news.take q)).take xs.length).getD (i * 1 + j) Go.undef = ((spl cur.toList lo (news.take q))[i * 1 + j]?).getD Go.undef := by
                  have hj : j < 1 := by
                    have h1 := (List.getElem?_eq_some_iff.1 hx).1
                    rw [spl_get hsplx] at he
                    split at he
                    · have := hyl e (List.mem_of_mem_take (List.mem_of_getElem? he)); omega
                    · have := hlenx e (List.mem_of_getElem? he); omega
                  rw [List.getD_eq_getElem?_getD, List.getElem?_take, if_pos (by omega)]
                rw [hnew, spl_get hspl, hcsl]
                rw [spl_get hsplx, hys] at he
                have hj : j = 0 := by
                  have h1 := (List.getElem?_eq_some_iff.1 hx).1
                  split at he
                  · have := hyl e (List.mem_of_mem_take (List.mem_of_getElem? he)); omega
                  · have := hlenx e (List.mem_of_getElem? he); omega
                subst hj
                rw [Nat.mul_one, Nat.add_zero]
                split at he
                · rename_i hc
                  rw [if_pos hc, List.getElem?_take, if_pos (by omega)]
                  rw [List.getElem?_take, if_pos (by omega)] at he
                  have h0 := ((hnr _ _ _ _ he hx).mono (hSc _) (hS _)).join k'
                  rw [Kind.join_comm, Nat.mul_one, Nat.add_zero, List.getD_eq_getElem?_getD] at h0
                  exact h0
                · rename_i hc
                  rw [if_neg hc]
                  have h0 := ((hrep _ _ _ _ he hx).mono (hSc _) (hS _)).join k
                  rw [Nat.mul_one, Nat.add_zero, ← htake, List.getD_eq_getElem?_getD, List.getElem?_take, if_pos hil] at h0
                  exact h0
          · cases hsl
        · cases hq
      · cases hq
    · cases hq
  · cases hq

theorem zeroU8_eq {t : Nat} (h : zeroU8 P t = true) : ∃ i, P.info? t = some i ∧ i.zero = some (.int .u8 0) := by
  unfold zeroU8 at h
  split at h
  · rename_i hz
    obtain ⟨i, hi, hz⟩ := Option.bind_eq_some_iff.1 hz
    exact ⟨i, hi, hz⟩
  · cases h
theorem bys_cells (b : ByteArray) (i j : Nat) (e : List TL) (x : TL) (he : (bys b.data.toList)[i]? = some e) (hx : e[j]? = some x) : ∀ (w : World) (S : Nat → Prop), TRep w S x ((Lib.strCells b).getD (i * 1 + j) Go.undef) := by
  intro w S
  unfold bys at he
  rw [List.getElem?_map] at he
  obtain ⟨c, hc, rfl⟩ := Option.map_eq_some_iff.1 he
  have hj : j = 0 := by
    cases j with
    | zero => rfl
    | succ j => simp at hx
  subst hj
  simp at hx
  subst hx
  have : (Lib.strCells b).getD (i * 1 + 0) Go.undef = .int .u8 (c.toNat : Int) := by
    rw [Nat.mul_one, Nat.add_zero]
    unfold Lib.strCells
    rw [List.getD_eq_getElem?_getD, List.getElem?_map, hc]
    rfl
  rw [this]
  exact .v _
theorem append_str {t u e : Nat} (i : TypeInfo) (ht : P.underlying t = some (.slice e)) (hu : P.underlying u = some .string) (hi : P.info? e = some i) (hz : i.zero = some (.int .u8 0)) (hsize : i.size = 1) (hby : i.bytes = 1) (ty : Nat)
    {v : Value} {n : Nat} {xs : List Value} (hv : w.ownsRow 0 e 1 v n xs ∨ (n = 0 ∧ xs = [] ∧ ∃ ao, v = .slice ao 0 0)) (b : ByteArray) (hbytes : n + b.size ≤ 140737488355328) :
    ∃ v' w', (Builtin.append_ #[t, u] ty #[v, .string b]).run P w = .ok v' w' ∧ (w'.ownsRow 0 e 1 v' (n + b.size) (xs ++ Lib.strCells b) ∧ w.grownBy w' v.ownBlock ∧ (v'.ownBlock = v.ownBlock ∨ v'.ownBlock = some w.heap.size) ∧ ((∃ ao, v = .slice ao 0 0) → w.grownBy w' none ∧ v'.ownBlock = some w.heap.size) ∨ (n = 0 ∧ b.size = 0 ∧ w' = w ∧ xs = [] ∧ v' = v ∧ ∃ ao, v = .slice ao 0 0)) := by
  have h63 : n + b.size ≤ maxLen := by simp only [maxLen]; omega
  have hcl : (Lib.strCells b).length = b.size := Lib.strCells_length b
  have grown : ∀ (old : Nat) (ys : List Value), ys.length = n → 
      (w.drew.alloc (.cells (ys.toArray ++ (Lib.strCells b).toArray ++ Builtin.zeroCells (Value.int .u8 0).cells (grownCap w (n + b.size) old e - (n + b.size))) e)).ownsRow 0 e 1
        (.slice (some ⟨w.heap.size, 0, none⟩) (n + b.size) (grownCap w (n + b.size) old e)) (n + b.size) (ys ++ Lib.strCells b) := by
    intro old ys hyl
    have hge := grownCap_ge w (n + b.size) old e
    have hcm : grownCap w (n + b.size) old e ≤ maxLen := grownCap_le_maxLen w (n + b.size) old e h63
    have hlen : (ys ++ Lib.strCells b).length = (n + b.size) * 1 := by rw [List.length_append, hyl, hcl, Nat.mul_one]
    refine ⟨hlen, .inr ⟨w.heap.size, _, _, rfl, Nat.zero_le _, heap_alloc_new w.drew _, hge, hcm, ?_, ?_⟩⟩
    · have hz1 : (Value.int IntKind.u8 0).cells.size = 1 := rfl
      simp only [Array.size_append, List.size_toArray, size_zeroCells, hz1, hyl, hcl]
      omega
    · simp only [Array.toList_append, List.append_assoc]
      rw [← List.append_assoc, ← hlen]
      exact List.take_left
  have hgr : ∀ (old : Nat) (ys : List Value) (row : Option Nat), w.grownBy (w.drew.alloc (.cells (ys.toArray ++ (Lib.strCells b).toArray ++ Builtin.zeroCells (Value.int .u8 0).cells (grownCap w (n + b.size) old e - (n + b.size))) e)) row :=
    fun old ys row => ⟨rfl, rfl, rfl, by simp, fun k hk _ => Below.heap_alloc w.drew _ k hk⟩
  have e1 : (b.data.map fun c => Value.int .u8 c.toNat) = (Lib.strCells b).toArray := by
    apply Array.ext'
    simp [Lib.strCells]
  have nilcase : ∀ ao, v = .slice ao 0 0 → n = 0 → xs = [] → ∃ v' w', (Builtin.append_ #[t, u] ty #[v, .string b]).run P w = .ok v' w' ∧ (w'.ownsRow 0 e 1 v' (n + b.size) (xs ++ Lib.strCells b) ∧ w.grownBy w' v.ownBlock ∧ (v'.ownBlock = v.ownBlock ∨ v'.ownBlock = some w.heap.size) ∧ ((∃ ao, v = .slice ao 0 0) → w.grownBy w' none ∧ v'.ownBlock = some w.heap.size) ∨ (n = 0 ∧ b.size = 0 ∧ w' = w ∧ xs = [] ∧ v' = v ∧ ∃ ao, v = .slice ao 0 0)) := by
    intro ao hvao hn0 hx0
    subst hn0
    subst hx0
    by_cases hm : b.size = 0
    · refine ⟨v, w, ?_, .inr ⟨rfl, hm, rfl, rfl, rfl, ao, hvao⟩⟩
      have hf := Lib.run_firstCells_string (P := P) w 1 b
      rw [hm] at hf
      rw [hvao]
      have hs0 : Lib.strCells b = [] := List.eq_nil_of_length_eq_zero (by rw [hcl]; exact hm)
      rw [hs0] at hf
      cases ao <;> simp [Builtin.append_, run_underlying ht, run_underlying hu, sizeOf, typeInfo, hi, hsize, Builtin.lenOf, hm, hf, storeCells]
    · cases ao with
      | none =>
        subst hvao
        have hr := run_append_nil_string (P := P) (w := w) t u ty e i (.int .u8 0) ht hu hi hz b (by omega) (by omega) (by rw [hby]; omega)
        rw [e1] at hr
        have g1 := grown 0 [] rfl
        have g2 := hgr 0 []
        simp only [Nat.zero_add, List.nil_append, Array.empty_append] at g1 g2 hr ⊢
        exact ⟨_, _, hr, .inl ⟨g1, g2 _, .inr rfl, fun _ => ⟨g2 _, rfl⟩⟩⟩
      | some A =>
        subst hvao
        have hr := Lib.run_append_grow_string (P := P) (w := w) t u ty e i (.int .u8 0) ht hu hi hz A 0 0 [] (by simp) (by simp) b (by omega) (by omega) (by rw [hby]; exact growslice_fits (by omega) (by omega))
        have g1 := grown 0 [] rfl
        have g2 := hgr 0 []
        exact ⟨_, _, hr, .inl ⟨g1, g2 _, .inr rfl, fun _ => ⟨g2 _, rfl⟩⟩⟩
  rcases hv with hown | ⟨hn0, hx0, ao, hvao⟩
  · have hxl : xs.length = n := by simpa using hown.1
    rcases hown.2 with ⟨rfl, rfl⟩ | ⟨g, cap, cur, rfl, hbg, hg, hnc, hcm, hcs, htake⟩
    · exact nilcase none rfl rfl (List.eq_nil_of_length_eq_zero hxl)
    · by_cases hz0 : n = 0 ∧ cap = 0
      · obtain ⟨rfl, rfl⟩ := hz0
        exact nilcase _ rfl rfl (List.eq_nil_of_length_eq_zero hxl)
      · by_cases hroom : n + b.size ≤ cap
        · have hcs' : cur.size = cap := by simpa using hcs
          have hr := Lib.run_append_room_string (P := P) (w := w) t u ty e i ht hu hi hsize g n cap cur hg b hroom (by omega)
          have hlen : (xs ++ Lib.strCells b).length = (n + b.size) * 1 := by rw [List.length_append, hxl, hcl, Nat.mul_one]
          refine ⟨_, _, hr, .inl ⟨⟨hlen, .inr ⟨g, cap, _, rfl, hbg, setRow_heap w g cur _ e _ hg, hroom, hcm, ?_, ?_⟩⟩, ⟨rfl, rfl, rfl, by simp, fun k _ hk => setRow_other w g k _ (fun e => hk (by simp [Value.ownBlock, e]))⟩, .inl rfl, ?_⟩⟩
          · simp only [List.size_toArray, List.length_append, List.length_take, List.length_drop, Array.length_toList, hcl]
            omega
          · have ht' : cur.toList.take n = xs := by simpa using htake
            rw [ht', ← hlen]
            exact List.take_left
          · rintro ⟨ao, hao⟩
            cases hao
            exact absurd ⟨rfl, rfl⟩ hz0
        · have holds : ∀ j u, xs[j]? = some u → w.cell? ((⟨g, 0, none⟩ : Addr).add j) = some u := hown.cells (g := g) rfl
          have hr := Lib.run_append_grow_string (P := P) (w := w) t u ty e i (.int .u8 0) ht hu hi hz ⟨g, 0, none⟩ n cap xs (by rw [hsize]; simpa using hxl) holds b (by omega) (by omega) (by rw [hby]; exact growslice_fits (by omega) (by omega))
          refine ⟨_, _, hr, .inl ⟨grown cap xs hxl, hgr cap xs _, .inr rfl, ?_⟩⟩
          rintro ⟨ao, hao⟩
          cases hao
          exact absurd ⟨rfl, rfl⟩ hz0
  · exact nilcase ao hvao hn0 hx0
theorem appStrPV_run (h : SimX w0 F0 n s a w φ fp) {d t t' ty : Nat} {x y : PV} {u v : Value} {s' : StL} (hdn : d < n) (hx : PVRep w φ (Stb w0 w fp) x u) (hy : PVRep w φ (Stb w0 w fp) y v) (hq : appStrPV P d s t t' x y = some s') :
    ∃ r w', (Builtin.append_ #[t, t'] ty #[u, v]).run P w = .ok r w' ∧ Sim w0 F0 n s' (a.put (some d) r) w' := by
  unfold appStrPV at hq
  split at hq
  · cases hq
  · rename_i e he
    have ht := elT_und he
    split at hq
    · rename_i hc0
      obtain ⟨hsz, hby, hz8, hst⟩ := hc0
      have hu' := isStrT_eq hst
      obtain ⟨i, hi, hz⟩ := zeroU8_eq hz8
      have hsize : i.size = 1 := by simpa [szT, hi] using hsz
      have hbyte : i.bytes = 1 := by simpa [byT, hi] using hby
      split at hq
      · cases hq
      · rename_i b hb
        have hv := strPV_rep hy hb
        subst hv
        have hbl : b.data.toList.length = b.size := by rw [Array.length_toList]; rfl
        have hry := bys_cells b
        split at hq
        · rename_i m
          split at hq
          · rename_i e' k' xs hM
            split at hq
            · rename_i hc
              obtain ⟨rfl, hm6, hbytes⟩ := hc
              cases hq
              rw [hbl] at hbytes
              cases hx with
              | @osl _ len cap bo hφ =>
              have h1 := h.kill m
              have hres := h1.res m
              have hMk : getM (s.kill m).M m = .row e' 1 k' xs := by
                show getM (killM m s.M) m = _
                rw [getM_kill, hM]; rfl
              rw [hMk] at hres
              obtain ⟨cells, hown, hbd, hlen, hrep⟩ := hres
              rw [hφ] at hown
              have hown' : w.ownsRow 0 e' 1 (.slice bo len cap) xs.length cells ∨ (xs.length = 0 ∧ (if xs = [] then [] else cells) = [] ∧ ∃ ao, Value.slice bo len cap = .slice ao 0 0) := by
                rcases hown with ⟨hown, _⟩ | ⟨rfl, hbo, _⟩
                · exact .inl hown
                · exact .inr ⟨rfl, by simp, hbo⟩
              rcases hown with ⟨hown, hF⟩ | ⟨rfl, ⟨bo', hbo'⟩, hF⟩
              · obtain ⟨v', w', hr, hpost⟩ := append_str (P := P) (w := w) i ht hu' hi hz hsize hbyte ty (.inl hown) b hbytes
                rcases hpost with ⟨ho, hg, hv', _⟩ | ⟨hn0, hb0, hww, hx0, hvv, ao, hao⟩
                · refine ⟨v', w', hr, append_sim h1 hdn hm6 (killT_men m s.T) (killM_men m s.M) hown.1 hlen (fun e he => by obtain ⟨c, _, rfl⟩ := List.mem_map.1 he; rfl) (by decide) hrep (fun i j e x he hx => hry i j e x he hx _ _) (by rw [bys_length, hbl]; exact hbytes) (by rw [bys_length, hbl]; exact ho) (.inr ⟨_, hg, fun g hg' => (hF g).2 hg'.symm⟩) fun g hg' => ?_⟩
                  rcases hv' with e1 | e1
                  · rw [e1] at hg'; exact .inl ((hF g).2 hg')
                  · rw [e1] at hg'; cases hg'; exact .inr (Nat.le_refl _)
                · have hxs : xs = [] := List.eq_nil_of_length_eq_zero hn0
                  have hbs : bys b.data.toList = [] := List.eq_nil_of_length_eq_zero (by rw [bys_length, hbl]; exact hb0)
                  rw [hww, hvv, hao] at hr
                  rw [hxs, hbs, hao]
                  exact ⟨_, w, hr, adopt_sim h1 hdn hm6 (killT_men m s.T) (killM_men m s.M)⟩
              · cases hbo'
                obtain ⟨v', w', hr, hpost⟩ := append_str (P := P) (w := w) i ht hu' hi hz hsize hbyte ty (v := .slice bo 0 0) (.inr ⟨rfl, rfl, bo, rfl⟩) b (by simpa using hbytes)
                rcases hpost with ⟨ho, hg, hv', hnil⟩ | ⟨hn0, hb0, hww, hx0, hvv, ao, hao⟩
                · obtain ⟨hgn, hvn⟩ := hnil ⟨_, rfl⟩
                  refine ⟨v', w', hr, append_sim h1 hdn hm6 (xs := []) (cells := []) (killT_men m s.T) (killM_men m s.M) (by simp) (by simp) (fun e he => by obtain ⟨c, _, rfl⟩ := List.mem_map.1 he; rfl) (by decide) (fun i j e x he => by simp at he) (fun i j e x he hx => hry i j e x he hx _ _) (by rw [bys_length, hbl]; simpa using hbytes) (by rw [bys_length, hbl]; simpa using ho) (.inl hgn) fun g hg' => ?_⟩
                  rw [hvn] at hg'; cases hg'; exact .inr (Nat.le_refl _)
                · have hbs : bys b.data.toList = [] := List.eq_nil_of_length_eq_zero (by rw [bys_length, hbl]; exact hb0)
                  rw [hbs]
                  rw [hww, hvv] at hr
                  exact ⟨_, w, hr, adopt_sim h1 hdn hm6 (killT_men m s.T) (killM_men m s.M)⟩
            · cases hq
          · cases hq
        · split at hq
          · rename_i hc
            obtain ⟨hfree, hbytes⟩ := hc
            cases hq
            rw [hbl] at hbytes
            have hu := hx.t_inv.v_inv
            subst hu
            simp only [StL.free, Bool.and_eq_true] at hfree
            obtain ⟨v', w', hr, hpost⟩ := append_str (P := P) (w := w) i ht hu' hi hz hsize hbyte ty (v := .slice none 0 0) (n := 0) (xs := []) (.inr ⟨rfl, rfl, none, rfl⟩) b (by simpa using hbytes)
            rcases hpost with ⟨ho, hg, hv', hnil⟩ | ⟨hn0, hb0, hww, hx0, hvv, ao, hao⟩
            · obtain ⟨hgn, hvn⟩ := hnil ⟨_, rfl⟩
              have := append_sim h hdn (of_decide_eq_true hfree.2.2) (k := .fz) (k' := .fz) (ys := bys b.data.toList) (xs := []) (cells := []) (news := Lib.strCells b) hfree.1.1 hfree.1.2 (by simp) (by simp) (fun e he => by obtain ⟨c, _, rfl⟩ := List.mem_map.1 he; rfl) (by decide) (fun i j e x he => by simp at he) (fun i j e x he hx => hry i j e x he hx _ _) (by rw [bys_length, hbl]; simpa using hbytes) (by rw [bys_length, hbl]; simpa using ho) (.inl hgn) fun g hg' => by
                rw [hvn] at hg'; cases hg'; exact .inr (Nat.le_refl _)
              exact ⟨v', w', hr, this⟩
            · have hbs : bys b.data.toList = [] := List.eq_nil_of_length_eq_zero (by rw [bys_length, hbl]; exact hb0)
              rw [hbs]
              rw [hww, hvv] at hr
              exact ⟨_, w, hr, adopt_sim h hdn (of_decide_eq_true hfree.2.2) hfree.1.1 hfree.1.2⟩
          · cases hq
        · cases hq
    · cases hq
theorem ptrEl_eq {t e : Nat} (h : ptrEl P t = some e) : P.underlying t = some (.pointer e) ∧ P.cellsOf e = 1 := by
  unfold ptrEl at h
  split at h
  · rename_i e' he
    split at h
    · rename_i hc
      cases h
      exact ⟨he, hc⟩
    · cases h
  · cases h
theorem usStrPV_run (h : SimX w0 F0 n s a w φ fp) {d t t' ty : Nat} {x y : PV} {u v : Value} {s' : StL} (hdn : d < n) (hx : PVRep w φ (Stb w0 w fp) x u) (hy : PVRep w φ (Stb w0 w fp) y v) (hq : usStrPV P d s t x y = some s') :
    ∃ r w', (Builtin.unsafeString_ #[t, t'] ty #[u, v]).run P w = .ok r w' ∧ Sim w0 F0 n s' (a.put (some d) r) w' := by
  unfold usStrPV at hq
  split at hq
  · rename_i m kk k
    split at hq
    · rename_i e k1 xs hM
      split at hq
      · rename_i l hl
        split at hq
        · rename_i hc
          obtain ⟨hpe, hm6, hne, hk⟩ := hc
          obtain ⟨hpt, hcl⟩ := ptrEl_eq hpe
          cases hq
          have hv := hy.t_inv.v_inv
          subst hv
          subst hk
          have hxs := bytesOf_inv hl
          have hl0 : l ≠ [] := by intro e; rw [e] at hne; cases hne
          have hlp : 0 < l.length := List.length_pos_iff.2 hl0
          have h1 := h.kill m
          have hres := h.res m
          rw [hM] at hres
          obtain ⟨cells, hown, hbd, hlen, hrep⟩ := hres
          have hxl : xs.length = l.length := by rw [hxs, bys_length]
          rcases hown with ⟨hown, hF⟩ | ⟨hnil, _⟩
          · rcases hown.2 with ⟨_, hz⟩ | ⟨g, cap, cur, hv, _, hg, hcap, hcm, hcs, htake⟩
            · omega
            · rw [hv] at hown hF
              cases hx with
              | @oep _ _ _ _ g' len' cap' hφ =>
              rw [hv] at hφ
              cases hφ
              have hFg : fp m g := (hF g).2 (by simp [Value.ownBlock])
              have hcell : ∀ j x, l[j]? = some x → w.cell? ((⟨g, 0, none⟩ : Addr).add j) = some (.int .u8 x.toNat) := by
                intro j x hj
                have hjx : xs[j]? = some [TL.v (.int .u8 (x.toNat : Int))] := by rw [hxs, bys, List.getElem?_map, hj]; rfl
                have h2 := hrep j 0 _ _ hjx rfl
                have h3 := h2.v_inv
                rw [Nat.mul_one, Nat.add_zero, List.getD_eq_getElem?_getD] at h3
                have hjc : j < cells.length := by
                  have := (List.getElem?_eq_some_iff.1 hj).1
                  rw [hown.1]
                  omega
                rw [List.getElem?_eq_getElem hjc] at h3
                have h4 : cells[j]? = some (.int .u8 (x.toNat : Int)) := by rw [List.getElem?_eq_getElem hjc]; exact congrArg some h3
                exact hown.cells (g := g) rfl j _ h4
              have hr := Lib.run_unsafeString_row (P := P) w t t' ty e hpt hcl g cur.size (by simp [World.shape?, hg]) l hl0 (by omega) (by simp only [maxLen] at hcm; omega) hcell
              refine ⟨_, _, by simpa using hr, ?_⟩
              have hheap : ∀ q, q ≠ g → (w.freeze ⟨g, 0, none⟩ l.length).heap[q]? = w.heap[q]? := by
                intro q hq
                simp only [World.freeze]
                split
                · rfl
                · simp [Array.getElem?_modify, Ne.symm hq]
              have hrest : (w.freeze ⟨g, 0, none⟩ l.length).os = w.os ∧ (w.freeze ⟨g, 0, none⟩ l.length).tape = w.tape ∧ (w.freeze ⟨g, 0, none⟩ l.length).output = w.output ∧ w.heap.size ≤ (w.freeze ⟨g, 0, none⟩ l.length).heap.size := by
                simp only [World.freeze]
                split
                · exact ⟨rfl, rfl, rfl, Nat.le_refl _⟩
                · exact ⟨rfl, rfl, rfl, by simp⟩
              obtain ⟨φ', fp', h', _⟩ := h1.regrow hm6 (killT_men m s.T) (killM_men m s.M) (w' := w.freeze ⟨g, 0, none⟩ l.length) (v' := φ m) (r' := .dead) (F' := fun _ => False) hrest.1 hrest.2.1 hrest.2.2.1 hrest.2.2.2
                (fun q hq hnf => hheap q fun e => hnf (e ▸ hFg)) (fun g hg => hg.elim) (fun φ' fp' hS hSc g hg => hg)
              exact ⟨φ', fp', h'.put hdn (.t (.v _))⟩
          · rw [hnil] at hxl
            simp at hxl
            omega
        · cases hq
      · cases hq
    · cases hq
  · cases hq
/-- A world that is only longer. -/
theorem SimX.ext (h : SimX w0 F0 n s a w φ fp) {w' : World} (ho : w'.os = w.os) (ht : w'.tape = w.tape) (hu : w'.output = w.output) (hsz : w.heap.size ≤ w'.heap.size) (hold : ∀ g, g < w.heap.size → w'.heap[g]? = w.heap[g]?) : SimX w0 F0 n s a w' φ fp := by
  have hS : ∀ k g, Stb w0 w fp k g → Stb w0 w' fp k g := fun k g hg => ⟨Nat.lt_of_lt_of_le hg.1 hsz, hg.2.1, hg.2.2⟩
  have hSc : ∀ k g, Stb w0 w fp k g → w'.heap[g]? = w.heap[g]? := fun k g hg => hold g hg.1
  refine ⟨fun m => (h.res m).keep (fun g hg => hold g (h.old m g hg).1) hSc hS, h.disj, fun m g hm => ⟨Nat.lt_of_lt_of_le (h.old m g hm).1 hsz, (h.old m g hm).2⟩, fun t => (h.tmp t).mono hSc hS, ?_, h.size, h.dfr, h.fix⟩
  exact ⟨ho.trans h.evo.os, ht.trans h.evo.tape, hu.trans h.evo.output, Nat.le_trans h.evo.size hsz, fun g hg hF => (hold g (Nat.lt_of_lt_of_le hg h.evo.size)).trans (h.evo.block g hg hF)⟩
theorem convPV_run (h : SimX w0 F0 n s a w φ fp) {d src dst : Nat} {p : PV} {u : Value} {s' : StL} (hdn : d < n) (hp : PVRep w φ (Stb w0 w fp) p u) (hq : convPV P d s src dst p = some s') :
    ∃ v w', (convert src dst u).run P w = .ok v w' ∧ Sim w0 F0 n s' (a.put (some d) v) w' := by
  have back : ∀ {e : Nat} {l : List UInt8} {g o cap : Nat}, elT P src = some e → isStrT P dst = true → u8T P e = true → (∀ (j : Nat) (x : UInt8), l[j]? = some x → w.cell? ⟨g, o + j, none⟩ = some (.int .u8 (x.toNat : Int))) →
      ∃ v w', (convert src dst (.slice (some ⟨g, o, none⟩) l.length cap)).run P w = .ok v w' ∧ Sim w0 F0 n ⟨(d, .t .fz (.v (.string ⟨l.toArray⟩))) :: s.T, s.M⟩ (a.put (some d) v) w' := fun {e l g o cap} he hd8 hu hc => by
    have hr := run_convert_bytes_back (P := P) w src dst e ⟨g, o, none⟩ cap l (elT_und he) (u8T_eq hu) (isStrT_eq hd8) (fun j hj => by
      have := hc j l[j] (List.getElem?_eq_getElem hj)
      rw [addr_add]
      exact this)
    exact ⟨_, _, hr, φ, fp, h.put hdn (.t (.v _))⟩
  unfold convPV at hq
  split at hq
  · rename_i k b
    split at hq
    · rename_i e he
      split at hq
      · rename_i hc
        obtain ⟨h1, h2, h3⟩ := hc
        cases hq
        have hv := hp.t_inv.v_inv
        subst hv
        have hbl : b.data.toList.length = b.size := by rw [Array.length_toList]; rfl
        have hr := run_bytes_of_string (P := P) w src dst e b (isStrT_eq h1) (elT_und he) (u8T_eq h2)
        refine ⟨_, _, hr, ?_⟩
        have hx := h.ext (w' := w.drew.alloc (.cells (bytesRow b (grownCap w b.size 0 e)) e ((bytesRow b (grownCap w b.size 0 e)).size, (bytesRow b (grownCap w b.size 0 e)).size + 1))) rfl rfl rfl (by simp) (fun g hg => Below.heap_alloc w.drew _ g hg)
        refine ⟨φ, fp, hx.put hdn ?_⟩
        have hlen : (bys b.data.toList).length = b.size := by rw [bys_length, hbl]
        have hcap : b.size ≤ grownCap w b.size 0 e := grownCap_ge _ _ _ _
        have hst : Stb w0 (w.drew.alloc (.cells (bytesRow b (grownCap w b.size 0 e)) e ((bytesRow b (grownCap w b.size 0 e)).size, (bytesRow b (grownCap w b.size 0 e)).size + 1))) fp .fz w.heap.size :=
          ⟨by simp, fun m hm => by have := (h.old m _ hm).1; omega, .inl (.inl h.evo.size)⟩
        have key := TRep.sl (w := w.drew.alloc (.cells (bytesRow b (grownCap w b.size 0 e)) e ((bytesRow b (grownCap w b.size 0 e)).size, (bytesRow b (grownCap w b.size 0 e)).size + 1))) (S := Stb w0 (w.drew.alloc (.cells (bytesRow b (grownCap w b.size 0 e)) e ((bytesRow b (grownCap w b.size 0 e)).size, (bytesRow b (grownCap w b.size 0 e)).size + 1))) fp .fz) (t := .any) (sz := 1) (xs := bys b.data.toList) (a := some ⟨w.heap.size, 0, none⟩) (cap := grownCap w b.size 0 e)
          (fun i j => (Lib.strCells b).getD (i * 1 + j) Go.undef) (by rw [hlen]; exact hcap) (fun h => by cases h) (fun h => by cases h) (fun h => by cases h) (by rw [bys_length]; exact h3)
          (.inr ⟨w.heap.size, 0, rfl, hst, fun i j hi hj => by
            rw [hlen] at hi
            have hj0 : j = 0 := by omega
            subst hj0
            have hnew : (w.drew.alloc (.cells (bytesRow b (grownCap w b.size 0 e)) e ((bytesRow b (grownCap w b.size 0 e)).size, (bytesRow b (grownCap w b.size 0 e)).size + 1))).heap[w.heap.size]? = some (.cells (bytesRow b (grownCap w b.size 0 e)) e ((bytesRow b (grownCap w b.size 0 e)).size, (bytesRow b (grownCap w b.size 0 e)).size + 1)) := heap_alloc_new w.drew _
            have hib : i < b.data.size := hi
            unfold World.cell?
            simp only
            rw [hnew]
            simp [bytesRow, Lib.strCells]
            rw [Array.getElem?_append_left (by simpa using hib)]
            simp [Array.getElem?_eq_getElem hib]⟩)
          (fun e he => by obtain ⟨c, _, rfl⟩ := List.mem_map.1 he; rfl) (fun i j e x he hx => bys_cells b i j e x he hx _ _)
        rw [hlen] at key
        exact .t key
      · cases hq
    · cases hq
  · rename_i k
    split at hq
    · rename_i e he
      split at hq
      · rename_i hc
        cases hq
        have hv := hp.t_inv.v_inv
        subst hv
        have hr := run_convert_bytes_nil (P := P) w src e (elT_und he) (u8T_eq hc.2) 0 0 dst (isStrT_eq hc.1)
        exact ⟨_, _, hr, φ, fp, h.put hdn (.t (.v _))⟩
      · cases hq
    · cases hq
  · rename_i k tt xs
    split at hq
    · rename_i e l he hl
      split at hq
      · rename_i hc
        cases hq
        have hxs := bytesOf_inv hl
        have ht := hp.t_inv
        cases ht with
        | @sl _ _ _ ao cap g hcap htt hnn hnil hbd ha hlen hrep =>
        have hxl : xs.length = l.length := by rw [hxs, bys_length]
        rcases ha with rfl | ⟨b, o, rfl, hb, hcell⟩
        · have hl0 : l = [] := List.eq_nil_of_length_eq_zero (by simpa using hxl.symm)
          subst hl0
          cases ao with
          | none =>
            have hr := run_convert_bytes_nil (P := P) w src e (elT_und he) (u8T_eq hc.2) 0 cap dst (isStrT_eq hc.1)
            exact ⟨_, _, hr, φ, fp, h.put hdn (.t (.v _))⟩
          | some a0 =>
            have hr := run_convert_bytes_back (P := P) w src dst e a0 cap [] (elT_und he) (u8T_eq hc.2) (isStrT_eq hc.1) (fun j hj => by simp at hj)
            exact ⟨_, _, hr, φ, fp, h.put hdn (.t (.v _))⟩
        · rw [hxl]
          refine back he hc.1 hc.2 fun j x hj => ?_
          have hjl := (List.getElem?_eq_some_iff.1 hj).1
          have hjx : xs[j]? = some [TL.v (.int .u8 (x.toNat : Int))] := by rw [hxs, bys, List.getElem?_map, hj]; rfl
          have h2 := (hrep j 0 _ _ hjx rfl).v_inv
          have h3 := hcell j 0 (by omega) (by omega)
          rw [h2] at h3
          simpa using h3
      · cases hq
    · cases hq
  · rename_i m
    split at hq
    · rename_i e' k' xs hM
      split at hq
      · rename_i e l he hl
        split at hq
        · rename_i hc
          cases hq
          have hxs := bytesOf_inv hl
          have hxl : xs.length = l.length := by rw [hxs, bys_length]
          cases hp with
          | @osl _ len cap bo hφ =>
          have hres := h.res m
          rw [hM, hφ] at hres
          obtain ⟨cells, hown, hbd, hlen, hrep⟩ := hres
          rcases hown with ⟨hown, hF⟩ | ⟨hnil, ⟨ao, hao⟩, _⟩
          · rcases hown.2 with ⟨hv, hz⟩ | ⟨g, cap', cur, hv, _, hg, hcap, hcm, hcs, htake⟩
            · cases hv
              have hl0 : l = [] := List.eq_nil_of_length_eq_zero (by omega)
              subst hl0
              have hr := run_convert_bytes_nil (P := P) w src e (elT_und he) (u8T_eq hc.2) 0 0 dst (isStrT_eq hc.1)
              exact ⟨_, _, hr, φ, fp, h.put hdn (.t (.v _))⟩
            · cases hv
              rw [hxl]
              refine back he hc.1 hc.2 fun j x hj => ?_
              have hjl := (List.getElem?_eq_some_iff.1 hj).1
              have hjx : xs[j]? = some [TL.v (.int .u8 (x.toNat : Int))] := by rw [hxs, bys, List.getElem?_map, hj]; rfl
              have h3 := (hrep j 0 _ _ hjx rfl).v_inv
              rw [Nat.mul_one, Nat.add_zero, List.getD_eq_getElem?_getD] at h3
              have hjc : j < cells.length := by
                rw [hown.1]
                omega
              rw [List.getElem?_eq_getElem hjc] at h3
              have h4 : cells[j]? = some (.int .u8 (x.toNat : Int)) := by rw [List.getElem?_eq_getElem hjc]; exact congrArg some h3
              have := hown.cells (g := g) rfl j _ h4
              rw [addr_add] at this
              exact this
          · cases hao
            have hl0 : l = [] := List.eq_nil_of_length_eq_zero (by rw [← hxl, hnil]; rfl)
            subst hl0
            cases bo with
            | none =>
              have hr := run_convert_bytes_nil (P := P) w src e (elT_und he) (u8T_eq hc.2) 0 0 dst (isStrT_eq hc.1)
              exact ⟨_, _, hr, φ, fp, h.put hdn (.t (.v _))⟩
            | some a0 =>
              have hr := run_convert_bytes_back (P := P) w src dst e a0 0 [] (elT_und he) (u8T_eq hc.2) (isStrT_eq hc.1) (fun j hj => by simp at hj)
              exact ⟨_, _, hr, φ, fp, h.put hdn (.t (.v _))⟩
        · cases hq
      · cases hq
    · cases hq
  · cases hq
theorem newOp_run (h : SimX w0 F0 n s a w φ fp) {o : Oper} {d : Nat} (hd : o.dst = some d) (hdn : d < n) {s' : StL} (hq : newOp P d s o.op = some s') :
    ∃ v w', (execOp a.eval o).run P w = .ok (.value v) w' ∧ Sim w0 F0 n s' (a.put (some d) v) w' := by
  cases ho : o.op <;> simp only [ho, newOp, reduceCtorEq] at hq
  case box t x =>
    split at hq
    · rename_i cs hcs
      split at hq
      · rename_i hf
        cases hq
        obtain ⟨hs, hc⟩ := cellsPV_rep (h.ev x) hcs
        refine ⟨_, _, ?_, h.newBlk hf hdn t hs (cellsPV_men hcs (ev_men hf x)) hc⟩
        simp only [execOp, ho]
        exact run_value (by simp [Instr.box, run_newVar])
      · cases hq
    · cases hq
  case alloc t =>
    split at hq
    · rename_i z hz
      split at hq
      · rename_i hf
        cases hq
        obtain ⟨zv, hzr, hzc⟩ := zT_run hz w
        refine ⟨_, _, ?_, h.newBlk hf hdn t (vs := zv.cells) (by rw [← hzc]; simp) (by
          have e1 : z.map (fun c => PV.t .fz (.v c)) = (z.map TL.v).map (PV.t .fz) := by simp
          rw [e1]
          exact menL_map _ _ _) fun j x hx => ?_⟩
        · simp only [execOp, ho]
          exact run_value (by simp [Instr.alloc, hzr, run_newVar])
        · rw [List.getElem?_map] at hx
          obtain ⟨c, hc, rfl⟩ := Option.map_eq_some_iff.1 hx
          rw [← hzc, Array.getElem?_toList] at hc
          rw [Array.getD_eq_getD_getElem?, hc]
          exact .t (.v _)
      · cases hq
    · cases hq
  case buildSlice t len parts =>
    split at hq
    · rename_i e he
      split at hq
      · rename_i sz z hsz hz
        split at hq
        · rename_i hc
          obtain ⟨h1, h2, h3, h4, h5⟩ := hc
          split at hq
          · rename_i k xs hrow
            cases hq
            obtain ⟨v, w', hr, hs⟩ := buildSlice_run h h1 hdn he hsz hz h2 h3 h4 h5 hrow
            refine ⟨v, w', ?_, hs⟩
            simp only [execOp, ho]
            exact run_value hr
          · split at hq
            · rename_i hs1
              split at hq
              · rename_i cs hblk
                cases hq
                subst hs1
                obtain ⟨v, w', hr, hs⟩ := buildBlk_run h h1 hdn he hsz hz h2 h3 h4 hblk
                refine ⟨v, w', ?_, hs⟩
                simp only [execOp, ho]
                exact run_value hr
              · cases hq
            · cases hq
        · cases hq
      · cases hq
    · cases hq
  case convert src dst x =>
    obtain ⟨v, w', hr, hs⟩ := convPV_run h hdn (h.ev x) hq
    refine ⟨v, w', ?_, hs⟩
    simp only [execOp, ho]
    exact run_value hr
  case makeSlice t l c =>
    split at hq
    · rename_i e k1 kk1 l' k2 kk2 c' he hl hc
      split at hq
      · rename_i sz z b hsz hz hb
        split at hq
        · rename_i hcond
          obtain ⟨h1, h2, h3, h4, h5, h6, h7⟩ := hcond
          cases hq
          obtain ⟨i, zv, hi, hib, his, hiz, hzc⟩ := byT_info hb hsz hz
          have hl' := h.ev l
          rw [hl] at hl'
          have hc' := h.ev c
          rw [hc] at hc'
          have hr := run_make (P := P) w t e i zv (elT_und he) hi hiz kk1 kk2 l' c' h4 h5 (by rw [hib]; exact h7) (by omega)
          have hzs : zv.cells.size = sz := by rw [← h2, ← hzc]; simp
          rw [his] at hr
          refine ⟨.slice (some ⟨w.heap.size, 0, none⟩) l'.toNat c'.toNat, w.alloc (.cells (madeCells zv.cells (c'.toNat * sz)) e), ?_, ?_⟩
          rotate_left
          · have := h.newRow h1 hdn e sz .fz (cells := madeCells zv.cells (c'.toNat * sz)) (xs := List.replicate l'.toNat (z.map TL.v)) c'.toNat (by simp; omega) (by simp only [maxLen]; omega) (by simp [size_madeCells]) (by simp; omega) (fun e he => by
              rw [List.eq_of_mem_replicate he]; simpa using h2) (fun i j e x he hx => by
              have he' := List.mem_of_getElem? he
              rw [List.eq_of_mem_replicate he', List.getElem?_map] at hx
              obtain ⟨y, hy, rfl⟩ := Option.map_eq_some_iff.1 hx
              have hj : j < sz := by have := (List.getElem?_eq_some_iff.1 hy).1; omega
              have hi' : i < l'.toNat := by have := (List.getElem?_eq_some_iff.1 he).1; simpa using this
              have hmul : (i + 1) * sz ≤ c'.toNat * sz := Nat.mul_le_mul_right _ (by omega)
              rw [Nat.add_mul] at hmul
              have hg : (madeCells zv.cells (c'.toNat * sz)).getD (i * sz + j) Go.undef = y := by
                have e2 : (i * sz + j) % zv.cells.size = j := by rw [hzs, Nat.mul_comm, Nat.mul_add_mod]; exact Nat.mod_eq_of_lt hj
                have hlt : i * sz + j < c'.toNat * sz := by omega
                rw [← hzc, Array.getElem?_toList] at hy
                simp [madeCells, Array.getD_eq_getD_getElem?, hlt, e2, hy, getElem!_def]
              rw [hg]
              exact .v _)
            rw [List.length_replicate] at this
            exact this
          · simp only [execOp, ho, hl'.t_inv.v_inv, hc'.t_inv.v_inv]
            exact run_value hr
        · cases hq
      · cases hq
    · cases hq
  case call c =>
    split at hq
    · rename_i x y t t' hcal hargs hts
      split at hq
      · rename_i htt
        subst htt
        obtain ⟨r, w', hr, hs⟩ := appendPV_run (ty := o.type) h hdn (h.ev x) (h.ev y) hq
        refine ⟨r, w', ?_, hs⟩
        have ha : c.args = #[x, y] := by rw [← hargs]
        have hta : c.argTypes = #[t, t] := by rw [← hts]
        simp only [execOp, ho, resolve, hcal, Sem.run_bind, Sem.run_pure, Result.andThen_ok, invoke, builtin, ha, hta]
        simp [hr]
      · obtain ⟨r, w', hr, hs⟩ := appStrPV_run (ty := o.type) h hdn (h.ev x) (h.ev y) hq
        refine ⟨r, w', ?_, hs⟩
        have ha : c.args = #[x, y] := by rw [← hargs]
        have hta : c.argTypes = #[t, t'] := by rw [← hts]
        simp only [execOp, ho, resolve, hcal, Sem.run_bind, Sem.run_pure, Result.andThen_ok, invoke, builtin, ha, hta]
        simp [hr]
    · rename_i x y t t' hcal hargs hts
      obtain ⟨r, w', hr, hs⟩ := usStrPV_run (t' := t') (ty := o.type) h hdn (h.ev x) (h.ev y) hq
      refine ⟨r, w', ?_, hs⟩
      have ha : c.args = #[x, y] := by rw [← hargs]
      have hta : c.argTypes = #[t, t'] := by rw [← hts]
      simp only [execOp, ho, resolve, hcal, Sem.run_bind, Sem.run_pure, Result.andThen_ok, invoke, builtin, ha, hta]
      simp [hr]
    · rename_i x y t t' hcal hargs hts
      split at hq
      · rename_i htt
        subst htt
        obtain ⟨r, w', hr, hs⟩ := copyPV_run (ty := o.type) h hdn (h.ev x) (h.ev y) hq
        refine ⟨r, w', ?_, hs⟩
        have ha : c.args = #[x, y] := by rw [← hargs]
        have hta : c.argTypes = #[t, t] := by rw [← hts]
        simp only [execOp, ho, resolve, hcal, Sem.run_bind, Sem.run_pure, Result.andThen_ok, invoke, builtin, ha, hta]
        simp [hr]
      · cases hq
    · cases hq
  case slice t x lo hi mx =>
    split at hq
    · rename_i hc
      split at hq
      · rename_i hi'
        obtain ⟨r, hr, hs⟩ := shrinkPV_run h hdn (h.ev x) (h.ev hi') hq
        simp only [Bool.and_eq_true, Option.isNone_iff_eq_none] at hc
        obtain ⟨rfl, rfl⟩ := hc
        refine ⟨r, w, ?_, hs⟩
        simp only [execOp, ho]
        exact run_value hr
      · cases hq
    · cases hq
  case makeMap t r =>
    split at hq
    · rename_i hc
      cases hq
      obtain ⟨hr, hf⟩ := hc
      have hr' : r = none := by simpa using hr
      subst hr'
      obtain ⟨φ', fp', h', hne, hv⟩ := h.new hf (o := .map #[] 0) (r := .tab .fz []) (v := .map (some w.heap.size)) (fun φ' fp' hne hv hS hSc =>
        ⟨w.heap.size, #[], rfl, fun g => Iff.rfl, (Go.MapKept.heap_alloc w _).1, trivial⟩)
      refine ⟨_, _, ?_, φ', fp', h'.put hdn (.omp hv)⟩
      simp only [execOp, ho]
      exact run_value (by simp [Instr.makeMap, Result.andThen])
    · cases hq
  case range t x =>
    unfold rngPV at hq
    split at hq
    · rename_i m hx
      split at hq
      · rename_i k es hM
        split at hq
        · rename_i hc
          cases hq
          obtain ⟨hf, hmt⟩ := hc
          obtain ⟨⟨kt, et⟩, hmt'⟩ := Option.isSome_iff_exists.1 hmt
          have hund := mapT_und hmt'
          have hxr := h.ev x
          rw [hx] at hxr
          generalize hu : a.eval x = u at hxr
          cases hxr with
          | @omp _ r hφ =>
          have hres := h.res m
          rw [hM] at hres
          obtain ⟨r', ents, hv', hF, hh, he⟩ := hres
          rw [hφ] at hv'
          cases hv'
          have hmd : m ≠ d := by
            rintro rfl
            simp only [StL.free, Bool.and_eq_true] at hf
            have := Res.eq_dead hf.2.1
            rw [this] at hM
            cases hM
          obtain ⟨φ', fp', h', hne, hv⟩ := h.new hf (o := .mapIter (some r') es.length #[] es.length) (r := .iter m es.length []) (v := .pointer (some ⟨w.heap.size, 0, none⟩)) (fun φ' fp' hne hv hS hSc =>
            ⟨w.heap.size, r', #[], rfl, fun g => Iff.rfl, (hne m hmd).trans hφ, (Go.MapKept.heap_alloc w _).1, rfl, by simp⟩)
          refine ⟨_, _, ?_, φ', fp', h'.put hdn (.ptr hv)⟩
          simp only [execOp, ho]
          exact run_value (by simp [Instr.range, hu, run_underlying hund, Go.MapKept.run_getObj_map hh, Result.andThen])
        · cases hq
      · cases hq
    · cases hq

theorem all_killM' (m c : Nat) : ∀ {M : List (Nat × Res)}, M.all (fun p => !p.2.men m) = true → (killM c M).all (fun p => !p.2.men m) = true
  | [], _ => rfl
  | (k, r) :: M, h => by
    simp only [List.all_cons, Bool.and_eq_true, Bool.not_eq_true'] at h
    simp only [killM, List.map_cons, List.all_cons, Bool.and_eq_true, Bool.not_eq_true']
    refine ⟨?_, all_killM' m c h.2⟩
    cases r with
    | blk ty cs =>
      simp only [Res.kill, Res.men]
      have h1 : PV.menL m cs = false := h.1
      clear h
      induction cs with
      | nil => rfl
      | cons x cs ih =>
        simp only [PV.menL, Bool.or_eq_false_iff] at h1
        simp only [List.map_cons, PV.menL, Bool.or_eq_false_iff]
        refine ⟨?_, ih h1.2⟩
        split
        · rfl
        · exact h1.1
    | iter mn n seen =>
      simp only [Res.kill]
      split
      · rfl
      · exact h.1
    | _ => rfl
theorem absPV_run (h : SimX w0 F0 n s a w φ fp) {t : Nat} {p v : PV} {up uv : Value} {s' : StL} (hp : PVRep w φ (Stb w0 w fp) p up) (hv : PVRep w φ (Stb w0 w fp) v uv) (hq : absPV P s t p v = some s') :
    ∃ w', (Instr.storeAt t up uv).run P w = .ok () w' ∧ Sim w0 F0 n s' a w' := by
  unfold absPV at hq
  split at hq
  · rename_i m i j0 m'
    split at hq
    · rename_i t0 t1 X ty k xs hM hM'
      split at hq
      · rename_i r hr
        split at hq
        · rename_i hcond
          obtain ⟨hsz, rfl, hmm, hm6, hi, hxe, hxn, hfree⟩ := hcond
          cases hq
          have hne0 : m ≠ m' := by
            rintro rfl
            simp at hmm
          have hxs := intsOf_eq hr
          have hrl : xs.length = r.length := by rw [hxs]; simp
          have hxl : 0 < xs.length := by
            cases xs with
            | nil => simp at hxn
            | cons => simp
          cases hp with
          | mx hφ =>
          cases hv with
          | @osl _ len cap ao hφ' =>
          have hres := h.res m
          rw [hM] at hres
          obtain ⟨vs, g0, cap0, c0, G, k1, k2, k3, k4, k5, k6, k7, k8, k9, k10⟩ := hres
          have hres' := h.res m'
          rw [hM'] at hres'
          obtain ⟨cells, hown, hbd, hlx, hrep⟩ := hres'
          obtain ⟨hown, hF⟩ := hown.resolve_right (by rintro ⟨rfl, _⟩; simp at hxl)
          obtain ⟨hcl, hor⟩ := hown
          obtain ⟨b, cap', cur, hv', hb0, hh, hc1, hc2, hc3, htake⟩ := hor.resolve_left (by rintro ⟨_, h1⟩; omega)
          rw [hv'] at hφ'
          cases hφ'
          have hfb : fp m' b := (hF b).2 (by rw [hv']; rfl)
          have hX : X[i]? = some [] := by
            rw [List.getD_eq_getElem?_getD, List.getElem?_eq_getElem hi] at hxe
            rw [List.getElem?_eq_getElem hi]
            simpa using hxe
          have hvi : vs[i + 1]? = some (.slice none 0 0) := by
            rcases k10 i [] hX with ⟨_, h2⟩ | ⟨_, _, h1, _⟩
            · exact h2
            · exact absurd rfl h1
          have hci : i < c0.size := by
            have := k8 i hi
            rw [hvi] at this
            exact (Array.getElem?_eq_some_iff.1 this).1
          have hφ1 := hφ
          rw [k1] at hφ1
          have hφ2 : ptrAt vs[0]? i = some up := hφ1
          rw [k3] at hφ2
          cases hφ2
          have hrun := run_storeVar_row (P := P) (w := w) (off := i) (v := .slice (some ⟨b, 0, none⟩) xs.length cap) hsz rfl k7 (by omega) (by intro u hu; simp [Value.cells] at hu; subst hu; rfl)
          refine ⟨_, by simp only [Instr.storeAt, Instr.sureAddr, Sem.run_bind, Sem.run_pure, Result.andThen_ok]; exact hrun, ?_⟩
          generalize hu : Value.slice (some ⟨b, 0, none⟩) xs.length cap = uv at *
          have hcells : uv.cells.toList = [uv] := by subst hu; rfl
          rw [hcells]
          obtain ⟨c1, hc1e⟩ : ∃ c1, c1 = (spl c0.toList i [uv]).toArray := ⟨_, rfl⟩
          rw [← hc1e]
          have hspl : i + [uv].length ≤ c0.toList.length := by simp; omega
          have hcget : ∀ q, c1[q]? = if q = i then some uv else c0[q]? := fun q => by
            rw [hc1e]
            have hg : (spl c0.toList i [uv]).toArray[q]? = (spl c0.toList i [uv])[q]? := by simp
            rw [hg, spl_get hspl]
            by_cases e : q = i
            · subst e
              simp
            · rw [if_neg e, if_neg (by simp; omega), Array.getElem?_toList]
          have hbg : b ≠ g0 := by
            rintro rfl
            exact hne0 (h.disj m m' b k6 hfb)
          have hheap : ∀ g, g ≠ g0 → (w.setRow g0 c1).heap[g]? = w.heap[g]? := fun g hg => setRow_other w g0 g _ hg
          have hhsz : (w.setRow g0 c1).heap.size = w.heap.size := by simp [World.setRow]
          have hk := h.kill m'
          let φ2 : Nat → Value := fun q => if q = m then .agg (vs.setIfInBounds (i + 1) uv) else φ q
          let fp2 : Nat → Nat → Prop := fun q g => if q = m then fp m g ∨ fp m' g else if q = m' then False else fp q g
          have hφn : ∀ q, q ≠ m → φ2 q = φ q := fun q hq => by simp [φ2, hq]
          have hfp2 : ∀ q g, fp2 q g → ∃ q', fp q' g := fun q g hq => by
            simp only [fp2] at hq
            split at hq
            · exact hq.elim (fun h => ⟨m, h⟩) fun h => ⟨m', h⟩
            · split at hq
              · exact hq.elim
              · exact ⟨q, hq⟩
          have hS : ∀ k g, Stb w0 w fp k g → Stb w0 (w.setRow g0 c1) fp2 k g := fun k g hg => ⟨by rw [hhsz]; exact hg.1, fun q hq => by
            obtain ⟨q', hq'⟩ := hfp2 q g hq
            exact hg.2.1 q' hq', hg.2.2⟩
          have hSc : ∀ k g, Stb w0 w fp k g → (w.setRow g0 c1).heap[g]? = w.heap[g]? := fun k g hg => hheap g fun e => hg.2.1 m (by rw [e]; exact k6)
          have hvs0 : ∀ q, (vs.setIfInBounds (i + 1) uv)[q]? = if q = i + 1 then (if i + 1 < vs.size then some uv else none) else vs[q]? := fun q => by
            rw [Array.getElem?_setIfInBounds]
            by_cases e : i + 1 = q
            · subst e
              simp
            · rw [if_neg e, if_neg (Ne.symm e)]
          refine ⟨φ2, fp2, ⟨fun q => ?_, fun q q' g h1 h2 => ?_, fun q g hq => ?_, fun u => ?_, ?_, h.size, h.dfr, fun q hq => (hφn q (by omega)).trans (h.fix q hq)⟩⟩
          · show ResRep _ _ _ (getM ((m, _) :: (m', .dead) :: killM m' s.M) q) _ _
            simp only [getM]
            by_cases e1 : m = q
            · subst e1
              rw [if_pos rfl]
              have e2 : φ2 m = .agg (vs.setIfInBounds (i + 1) uv) := by simp [φ2]
              have e3 : ∀ g, fp2 m g ↔ fp m g ∨ fp m' g := fun g => by simp [fp2]
              rw [e2]
              refine ⟨_, g0, cap0, c1, fun q => if q = i then b else G q, rfl, by simp; exact k2, ?_, by simpa using k4, by simpa using k5, (e3 _).2 (.inl k6), setRow_heap w g0 c0 _ t0 _ k7, fun q hq => ?_, fun q q' ra ra' ha ha' na na' e => ?_, fun q ra ha => ?_⟩
              · rw [hvs0, if_neg (by omega), List.length_set]
                exact k3
              · rw [List.length_set] at hq
                rw [hcget, hvs0]
                by_cases e : q = i
                · subst e
                  rw [if_pos rfl, if_pos rfl, if_pos (by omega)]
                · rw [if_neg e, if_neg (by omega)]
                  exact k8 q hq
              · have old : ∀ c rc, (X.set i r)[c]? = some rc → c ≠ i → X[c]? = some rc := fun c rc hc hne => by
                  rwa [List.getElem?_set_ne (Ne.symm hne)] at hc
                have inF : ∀ c rc, X[c]? = some rc → rc ≠ [] → fp m (G c) := fun c rc hc nc => by
                  obtain ⟨_, _, _, _, _, _, h5, _⟩ := (k10 c rc hc).resolve_left (fun e => nc e.1)
                  exact h5
                dsimp only at e
                by_cases eq : q = i <;> by_cases eq' : q' = i
                · rw [eq, eq']
                · rw [if_pos eq, if_neg eq'] at e
                  exact absurd (h.disj m m' b (by rw [e]; exact inF q' ra' (old q' ra' ha' eq') na') hfb) hne0
                · rw [if_neg eq, if_pos eq'] at e
                  exact absurd (h.disj m m' b (by rw [← e]; exact inF q ra (old q ra ha eq) na) hfb) hne0
                · rw [if_neg eq, if_neg eq'] at e
                  exact k9 q q' ra ra' (old q ra ha eq) (old q' ra' ha' eq') na na' e
              · by_cases eq : q = i
                · subst eq
                  rw [List.getElem?_set_self hi] at ha
                  cases ha
                  refine .inr ⟨cap, cur, by intro e; rw [e] at hrl; simp at hrl; rw [hrl] at hxl; simp at hxl, ?_, by omega, by omega, ?_, ?_, ?_, fun j x hx => ?_⟩
                  · rw [hvs0, if_pos rfl, if_pos (by omega), ← hu, hrl]
                    simp
                  · simp only [if_true]
                    exact (e3 _).2 (.inr hfb)
                  · simp only [if_true]
                    exact hbg
                  · simp only [if_true]
                    exact (hheap b hbg).trans hh
                  · have hjl : j < r.length := (List.getElem?_eq_some_iff.1 hx).1
                    have h1 := hrep j 0 [.v (.int .i64 x)] (.v (.int .i64 x)) (by rw [hxs]; simp [hx]) rfl
                    have h2 := h1.v_inv
                    simp only [Nat.mul_one, Nat.add_zero] at h2
                    have hjc : j < cells.length := by rw [hcl]; omega
                    have h3 : cells[j]? = some (.int .i64 x) := by
                      rw [List.getElem?_eq_getElem hjc]
                      simpa [List.getD_eq_getElem?_getD, List.getElem?_eq_getElem hjc] using h2
                    rw [← htake, List.getElem?_take_of_lt (by omega), Array.getElem?_toList] at h3
                    exact h3
                · rw [List.getElem?_set_ne (Ne.symm eq)] at ha
                  rw [hvs0, if_neg (by omega)]
                  rcases k10 q ra ha with hh' | ⟨cp, cu, m1, m2, m3, m4, m5, m6, m7, m8⟩
                  · exact .inl hh'
                  · refine .inr ⟨cp, cu, m1, ?_, m3, m4, ?_, ?_, ?_, m8⟩
                    · simp only [if_neg eq]; exact m2
                    · simp only [if_neg eq]; exact (e3 _).2 (.inl m5)
                    · simp only [if_neg eq]; exact m6
                    · simp only [if_neg eq]; exact (hheap _ m6).trans m7
            · rw [if_neg e1]
              by_cases e2 : m' = q
              · subst e2
                rw [if_pos rfl]
                intro g hg
                simp [fp2, Ne.symm hne0] at hg
              · rw [if_neg e2]
                have e3 : fp2 q = fp q := by funext g; simp [fp2, Ne.symm e1, Ne.symm e2]
                rw [e3, hφn q (Ne.symm e1)]
                refine ((hk.res q).keep (fun g hg => hheap g fun e => e1 (h.disj m q g0 k6 (by rw [← e]; exact hg))) hSc hS).rename fun q' hq' => hφn q' ?_
                rintro rfl
                have := getM_men (all_killM' q' m' hfree) q
                rw [this] at hq'
                cases hq'
          · simp only [fp2] at h1 h2
            by_cases e1 : q = m
            · rw [if_pos e1] at h1
              by_cases e2 : q' = m
              · rw [e1, e2]
              · rw [if_neg e2] at h2
                split at h2
                · exact h2.elim
                · rename_i e3
                  rcases h1 with h1 | h1
                  · rw [e1]; exact h.disj m q' g h1 h2
                  · exact absurd (h.disj m' q' g h1 h2) (Ne.symm e3)
            · rw [if_neg e1] at h1
              split at h1
              · exact h1.elim
              · rename_i e4
                by_cases e2 : q' = m
                · rw [if_pos e2] at h2
                  rcases h2 with h2 | h2
                  · rw [e2]; exact h.disj q m g h1 h2
                  · exact absurd (h.disj q m' g h1 h2) e4
                · rw [if_neg e2] at h2
                  split at h2
                  · exact h2.elim
                  · exact h.disj q q' g h1 h2
          · obtain ⟨q', hq'⟩ := hfp2 q g hq
            rw [hhsz]
            exact h.old q' g hq'
          · show PVRep _ _ _ (getT ((killT m' s.T).map fun q => (q.1, mx0 m q.2)) u) _
            have hmap : ∀ (T : List (Nat × PV)), getT (T.map fun q => (q.1, mx0 m q.2)) u = mx0 m (getT T u) := by
              intro T
              induction T with
              | nil => rfl
              | cons x T ih =>
                obtain ⟨k, y⟩ := x
                simp only [List.map_cons, getT]
                split
                · rfl
                · exact ih
            rw [hmap]
            have ht : PVRep w φ (Stb w0 w fp) (getT (killT m' s.T) u) (a.tmps.getD u Go.undef) := hk.tmp u
            have ht2 := ht.mono hSc hS
            generalize getT (killT m' s.T) u = y at ht2
            have gen : ∀ y : PV, PVRep (w.setRow g0 c1) φ (Stb w0 (w.setRow g0 c1) fp2) y (a.tmps.getD u Go.undef) → PVRep (w.setRow g0 c1) φ2 (Stb w0 (w.setRow g0 c1) fp2) (if y.men m then .undef else y) (a.tmps.getD u Go.undef) := fun y hy => by
              cases hm : y.men m with
              | true => exact .undef _
              | false =>
                refine hy.rename fun q hq => hφn q ?_
                rintro rfl
                rw [hm] at hq
                cases hq
            unfold mx0
            split
            · rename_i n' i' j'
              cases ht2 with
              | mx hφy =>
              refine .mx ?_
              by_cases e : n' = m
              · subst e
                have e2 : φ2 n' = .agg (vs.setIfInBounds (i + 1) uv) := by simp [φ2]
                rw [e2]
                rw [k1] at hφy
                show (vs.setIfInBounds (i + 1) uv)[0]? = _
                rw [hvs0, if_neg (by omega)]
                exact hφy
              · rw [hφn n' e]
                exact hφy
            · exact gen _ ht2
          · refine ⟨h.evo.os, h.evo.tape, h.evo.output, by rw [hhsz]; exact h.evo.size, fun g hg hF0 => ?_⟩
            refine (hheap g fun e => ?_).trans (h.evo.block g hg hF0)
            rcases (h.old m g0 k6).2 with h1 | h1
            · exact hF0 (by rw [e]; exact h1)
            · omega
        · cases hq
      · cases hq
    · cases hq
  · cases hq
theorem setCells_row (g : Nat) (ty : Nat) (fz : Nat × Nat) : ∀ (vs : List Value) (o : Nat) (w : World) (cur : Array Value), w.heap[g]? = some (.cells cur ty fz) → o + vs.length ≤ cur.size → ∃ cur' : Array Value, (w.setCells g o vs).heap[g]? = some (.cells cur' ty fz) ∧ cur'.size = cur.size ∧ ∀ j, cur'[j]? = if o ≤ j ∧ j < o + vs.length then vs[j - o]? else cur[j]?
  | [], o, w, cur, h, _ => ⟨cur, h, rfl, fun j => by rw [if_neg (by simp only [List.length_nil]; omega)]⟩
  | v :: vs, o, w, cur, h, hle => by
    simp only [List.length_cons] at hle
    have hlt : g < w.heap.size := (Array.getElem?_eq_some_iff.1 h).1
    have h1 : (w.setCell ⟨g, o, none⟩ v).heap[g]? = some (.cells (cur.setIfInBounds o v) ty fz) := by
      rw [World.setCell]
      simp [Array.getElem?_modify, h]
    obtain ⟨cur', h2, h3, h4⟩ := setCells_row g ty fz vs (o + 1) _ _ h1 (by simp; omega)
    refine ⟨cur', h2, by simpa using h3, fun j => ?_⟩
    rw [h4 j]
    simp only [List.length_cons]
    by_cases hj : o = j
    · subst hj
      have : o < cur.size := by omega
      rw [if_neg (by omega), if_pos (by omega)]
      simp [this]
    · by_cases hc : o + 1 ≤ j ∧ j < o + 1 + vs.length
      · rw [if_pos hc, if_pos (by omega), show j - o = (j - (o + 1)) + 1 by omega]
        simp
      · rw [if_neg hc, if_neg (by omega), Array.getElem?_setIfInBounds_ne hj]
theorem tape_setCells (g : Nat) : ∀ (vs : List Value) (o : Nat) (w : World), (w.setCells g o vs).tape = w.tape
  | [], _, _ => rfl
  | v :: vs, o, w => tape_setCells g vs (o + 1) (w.setCell ⟨g, o, none⟩ v)
theorem size_setCells' (g : Nat) : ∀ (vs : List Value) (o : Nat) (w : World), (w.setCells g o vs).heap.size = w.heap.size
  | [], _, _ => rfl
  | v :: vs, o, w => (size_setCells' g vs (o + 1) (w.setCell ⟨g, o, none⟩ v)).trans (by simp [World.setCell])
theorem heap_setCells' (g : Nat) {r : Nat} (hr : r ≠ g) : ∀ (vs : List Value) (o : Nat) (w : World), (w.setCells g o vs).heap[r]? = w.heap[r]?
  | [], _, _ => rfl
  | v :: vs, o, w => (heap_setCells' g hr vs (o + 1) (w.setCell ⟨g, o, none⟩ v)).trans (by simp [World.setCell, Array.getElem?_modify, Ne.symm hr])
theorem zeroCells_get (z : Array Value) (n i : Nat) (hi : i < n * z.size) : (Builtin.zeroCells z n).toList[i]? = some (z.getD (i % z.size) Go.undef) := by
  have hp : 0 < z.size := by
    rcases Nat.eq_zero_or_pos z.size with h | h
    · rw [h] at hi; simp at hi
    · exact h
  have hm : i % z.size < z.size := Nat.mod_lt _ hp
  simp [Builtin.zeroCells, hi, Array.getD_eq_getD_getElem?, hm]
theorem clearPV_run (h : SimX w0 F0 n s a w φ fp) {t ty : Nat} {x : PV} {u : Value} {s' : StL} (hx : PVRep w φ (Stb w0 w fp) x u) (hq : clearPV P s t x = some s') :
    ∃ w', (Builtin.clear_ #[t] ty #[u]).run P w = .ok (.tuple #[]) w' ∧ SimX w0 F0 n s' a w' φ fp := by
  unfold clearPV at hq
  split at hq
  · rename_i m sz lo len
    split at hq
    · rename_i e sz' k xs hM
      split at hq
      · rename_i z hz
        split at hq
        · rename_i hc
          obtain ⟨rfl, hsl, hzl, hsp, hlp, hle, hz1⟩ := hc
          cases hq
          obtain ⟨el, hel, hze⟩ := Option.bind_eq_some_iff.1 hz
          cases hx with
          | @osv _ _ _ _ g l c cap hφ hcap =>
          obtain ⟨zv, hzr, hzc⟩ := zT_run hze w
          have hund : P.underlying t = some (.slice el) := by
            unfold elT at hel
            split at hel
            · rename_i h'
              cases hel
              exact h'
            · cases hel
          have hres := h.res m
          rw [hM] at hres
          obtain ⟨cells, hown0, hbd, hlenx, hrep⟩ := hres
          rw [hφ] at hown0
          obtain ⟨hown, hF⟩ := hown0.resolve_right (by rintro ⟨rfl, _⟩; simp at hle; omega)
          obtain ⟨hcl, hor⟩ := hown
          obtain ⟨g', cap', cur, hv', hb0, hh, hc1, hc2, hc3, htake⟩ := hor.resolve_left (by rintro ⟨h1, _⟩; cases h1)
          simp only [Value.slice.injEq, Option.some.injEq, Addr.mk.injEq, and_true] at hv'
          obtain ⟨rfl, rfl, rfl⟩ := hv'
          have hzs : zv.cells.size = sz' := by rw [← hzl, ← hzc]; simp
          have hZl : (Builtin.zeroCells zv.cells len).toList.length = len * sz' := by simp [Builtin.zeroCells, hzs]
          have hmul : (lo + len) * sz' ≤ xs.length * sz' := Nat.mul_le_mul_right _ hle
          have hmul2 : xs.length * sz' ≤ cur.size := by rw [hc3]; exact Nat.mul_le_mul_right _ hc1
          rw [Nat.add_mul] at hmul
          have hcell : ∀ j, j < (Builtin.zeroCells zv.cells len).toList.length → (w.cell? ⟨g, lo * sz' + 0 + j, none⟩).isSome = true := fun j hj => by
            rw [hZl] at hj
            have hlt : lo * sz' + 0 + j < cur.size := by omega
            rw [cell_of_row w g _ cur e (0, 0) hh, Array.getElem?_eq_getElem hlt]
            rfl
          have hfr : ∀ j, j < (Builtin.zeroCells zv.cells len).toList.length → w.frozen? ⟨g, lo * sz' + 0 + j, none⟩ = false := fun j hj => frozen_of_row w g _ cur e hh
          have hone : ∀ v ∈ (Builtin.zeroCells zv.cells len).toList, v.oneCell' = true := fun v hv => by
            obtain ⟨i, hi⟩ := List.getElem?_of_mem hv
            have hlt : i < len * sz' := by
              rw [← hZl]
              exact (List.getElem?_eq_some_iff.1 hi).1
            rw [zeroCells_get _ _ _ (by rw [hzs]; exact hlt)] at hi
            cases hi
            have hm : i % zv.cells.size < zv.cells.size := Nat.mod_lt _ (by omega)
            refine List.all_eq_true.1 hz1 _ ?_
            rw [← hzc, Array.getD_eq_getD_getElem?, Array.getElem?_eq_getElem hm]
            simp
          have hst := run_storeCells_cells (P := P) g (lo * sz') (Builtin.zeroCells zv.cells len).toList 0 w hcell hfr hone
          rw [Nat.add_zero] at hst
          obtain ⟨cur', k1, k2, k3⟩ := setCells_row g e (0, 0) (Builtin.zeroCells zv.cells len).toList (lo * sz') w cur hh (by rw [hZl]; omega)
          refine ⟨w.setCells g (lo * sz') (Builtin.zeroCells zv.cells len).toList, ?_, ?_⟩
          · obtain ⟨len', rfl⟩ : ∃ m, len = m + 1 := ⟨len - 1, by omega⟩
            simp [Builtin.clear_, run_underlying hund, hzr, hst]
          · have hys : (List.replicate len (z.map TL.v)).length = len := by simp
            have hsplx : lo + (List.replicate len (z.map TL.v)).length ≤ xs.length := by omega
            have hglt : g < w.heap.size := (Array.getElem?_eq_some_iff.1 hh).1
            have hsz := (World.keptBut_setCells g (may := fun _ => True) (Builtin.zeroCells zv.cells len).toList (lo * sz') w (fun _ _ => trivial))
            refine h.write (w' := w.setCells g (lo * sz') (Builtin.zeroCells zv.cells len).toList) (World.os_setCells _ _ _ _) (tape_setCells _ _ _ _) (World.output_setCells _ _ _ _) (size_setCells' _ _ _ _) (fun r hr => heap_setCells' _ (fun e => hr ((hF _).2 (by rw [e]; rfl))) _ _ _) fun hS hSc => ?_
            refine ⟨cur'.toList.take (xs.length * sz'), .inl ⟨⟨?_, .inr ⟨g, c, cur', ?_, Nat.zero_le _, k1, ?_, hc2, ?_, ?_⟩⟩, fun r => by rw [hφ]; exact hF r⟩, ?_, fun e he => ?_, fun i j e x he hx => ?_⟩
            · rw [List.length_take, spl_length hsplx]
              simp; omega
            · rw [hφ, spl_length hsplx]
            · rw [spl_length hsplx]; exact hc1
            · rw [k2, hc3]
            · rw [spl_length hsplx]
            · rw [spl_length hsplx]; exact hbd
            · obtain ⟨i, hi⟩ := List.getElem?_of_mem he
              rw [spl_get hsplx] at hi
              split at hi
              · have := List.mem_of_getElem? hi
                rw [List.eq_of_mem_replicate this]
                simpa using hzl
              · exact hlenx e (List.mem_of_getElem? hi)
            · have hil : i < xs.length := by
                have := (List.getElem?_eq_some_iff.1 he).1
                rwa [spl_length hsplx] at this
              rw [spl_get hsplx, hys] at he
              have hj : j < sz' := by
                have h1 := (List.getElem?_eq_some_iff.1 hx).1
                split at he
                · have := List.eq_of_mem_replicate (List.mem_of_getElem? he)
                  rw [this] at h1
                  simpa [hzl] using h1
                · have := hlenx e (List.mem_of_getElem? he); omega
              have hij : i * sz' + j < xs.length * sz' := by
                have := Nat.mul_le_mul_right sz' (show i + 1 ≤ xs.length by omega)
                rw [Nat.add_mul, Nat.one_mul] at this
                omega
              rw [List.getD_eq_getElem?_getD, List.getElem?_take, if_pos hij, Array.getElem?_toList, k3, hZl]
              split at he
              · rename_i hc
                have e1 : i * sz' = lo * sz' + (i - lo) * sz' := by rw [← Nat.add_mul]; congr 1; omega
                have h2 := Nat.mul_le_mul_right sz' (show i - lo + 1 ≤ len by omega)
                rw [Nat.add_mul, Nat.one_mul] at h2
                rw [if_pos (by omega), zeroCells_get _ _ _ (by rw [hzs]; omega), hzs]
                have e2 : (i * sz' + j - lo * sz') % sz' = j := by
                  rw [show i * sz' + j - lo * sz' = j + sz' * (i - lo) by rw [Nat.mul_comm sz']; omega, Nat.add_mul_mod_self_left, Nat.mod_eq_of_lt hj]
                rw [e2]
                have := List.eq_of_mem_replicate (List.mem_of_getElem? he)
                subst this
                rw [List.getElem?_map, ← hzc] at hx
                obtain ⟨y, hy, rfl⟩ := Option.map_eq_some_iff.1 hx
                rw [Array.getElem?_toList] at hy
                simp only [Array.getD_eq_getD_getElem?, hy, Option.getD_some]
                exact .v _
              · rename_i hc
                have hne : ¬ (lo * sz' ≤ i * sz' + j ∧ i * sz' + j < lo * sz' + len * sz') := by
                  rintro ⟨q1, q2⟩
                  apply hc
                  constructor
                  · rcases Nat.lt_or_ge i lo with h5 | h5
                    · have := Nat.mul_le_mul_right sz' (show i + 1 ≤ lo by omega)
                      rw [Nat.add_mul, Nat.one_mul] at this
                      omega
                    · exact h5
                  · rcases Nat.lt_or_ge i (lo + len) with h5 | h5
                    · exact h5
                    · have := Nat.mul_le_mul_right sz' h5
                      rw [Nat.add_mul] at this
                      omega
                rw [if_neg hne]
                have h0 := (hrep _ _ _ _ he hx).mono (hSc _) (hS _)
                rw [← htake, List.getD_eq_getElem?_getD, List.getElem?_take, if_pos hij, Array.getElem?_toList] at h0
                exact h0
        · cases hq
      · cases hq
    · cases hq
  · cases hq
theorem step_run (h : Sim w0 F0 n s a w) {o : Oper} {s' : StL} (hq : step P n o.dst s o.op = some s') :
    ∃ nx v w', (execOp a.eval o).run P w = .ok nx w' ∧ (nx = .value v ∨ (nx = .skip ∧ v = Go.undef)) ∧ Sim w0 F0 n s' (a.put o.dst v) w' := by
  obtain ⟨φ, fp, h⟩ := h
  unfold step at hq
  split at hq
  · rename_i hd
    split at hq
    · rename_i t p v ho
      split at hq
      · rename_i s1 hab
        cases hq
        obtain ⟨w', hr, hs⟩ := absPV_run h (h.ev p) (h.ev v) hab
        refine ⟨.skip, Go.undef, w', ?_, .inr ⟨rfl, rfl⟩, ?_⟩
        · simp only [execOp, ho]
          simp [hr]
        · rw [hd]; exact hs
      obtain ⟨w', hr, hs⟩ := storePV_run h (h.ev p) (h.ev v) hq
      refine ⟨.skip, Go.undef, w', ?_, .inr ⟨rfl, rfl⟩, φ, fp, ?_⟩
      · simp only [execOp, ho]
        simp [hr]
      · rw [hd]; exact hs
    · rename_i t m k v ho
      obtain ⟨w', hr, hs⟩ := updPV_run h (h.ev m) (h.ev k) (h.ev v) hq
      refine ⟨.skip, Go.undef, w', ?_, .inr ⟨rfl, rfl⟩, φ, fp, ?_⟩
      · simp only [execOp, ho]
        simp [hr]
      · rw [hd]; exact hs
    · rename_i c ho
      split at hq
      · rename_i x t hcal hargs hts
        obtain ⟨w', hr, hs⟩ := clearPV_run (ty := o.type) h (h.ev x) hq
        refine ⟨.value (.tuple #[]), .tuple #[], w', ?_, .inl rfl, φ, fp, ?_⟩
        · have ha : c.args = #[x] := by rw [← hargs]
          have hta : c.argTypes = #[t] := by rw [← hts]
          simp only [execOp, ho, resolve, hcal, Sem.run_bind, Sem.run_pure, Result.andThen_ok, invoke, builtin, ha, hta]
          simp [hr]
        · rw [hd]; exact hs
      · cases hq
    · cases hq
  · rename_i d hd
    split at hq
    · rename_i hdn
      split at hq
      · rename_i q hv
        cases hq
        obtain ⟨v, hr, hp⟩ := valOp_run h hv
        exact ⟨.value v, v, w, hr, .inl rfl, φ, fp, by rw [hd]; exact h.put hdn hp⟩
      · obtain ⟨v, w', hr, hs⟩ := newOp_run h hd hdn hq
        exact ⟨.value v, v, w', hr, .inl rfl, by rw [hd]; exact hs⟩
    · cases hq

end
end Go.PS
/- PS12: contracts, and what a call leaves of a state. -/
namespace Go.PS
open Go Go.RowKit

def Callable (P : Program) (f : FuncId) : Prop := ∃ fn c, P.funcs[f]? = some fn ∧ fn.body = some c ∧ (fn.name == "runtime.NumGoroutine") = false

/-- Called with these trees the function returns r; Mr: the memory that r owns. -/
def PCall (P : Program) (f : FuncId) (args : List TL) (r : PV) (Mr : List (Nat × Res)) : Prop :=
  Callable P f ∧ ∀ (w : World) (S : Nat → Prop) (vals : Array Value), GlobS (Base.of w S) → (∀ g, S g → g < w.heap.size) → vals.size = args.length → (∀ (i : Nat) (x : TL), args[i]? = some x → TRep w S x (vals.getD i Go.undef)) →
    Calls P f vals w fun e w' => ∃ v φ fp, e = .returned v ∧ Evo (fun _ => False) w w' ∧ (∀ m, ResRep w' φ (Stb (Base.of w S) w' fp) (getM Mr m) (φ m) (fp m)) ∧ (∀ m m' g, fp m g → fp m' g → m = m') ∧
      (∀ m g, fp m g → w.heap.size ≤ g ∧ g < w'.heap.size) ∧ PVRep w' φ (Stb (Base.of w S) w' fp) r v

/-- Lent to a callee: memory of our own as a tree. -/
def optL (f : PV → Option (Bool × TL)) : List PV → Option (Bool × List TL)
  | [] => some (false, [])
  | p :: l => match f p, optL f l with
    | some (b, x), some (b', xs) => some (b || b', x :: xs)
    | _, _ => none

def lendPV : Nat → StL → PV → Option (Bool × TL)
  | 0, _, _ => none
  | d + 1, s, p => match p with
    | .t _ x => some (false, x)
    | .osl m => match getM s.M m with
      | .row _ sz _ xs => some (true, .sl .any sz xs)
      | _ => none
    | .ptr m off => match getM s.M m with
      | .blk _ cs => match optL (lendPV d s) cs with
        | some (_, xs) => some (true, .rp xs off)
        | none => none
      | _ => none
    | .mx m 0 _ _ => match getM s.M m with
      | .mat _ _ X => some (true, mxT X)
      | _ => none
    | .omp m => match getM s.M m with
      | .tab _ es => some (true, .mp es)
      | _ => none
    | .clo f caps => match optL (lendPV d s) caps with
      | some (b, xs) => some (b, .clo f xs)
      | none => none
    | .agg cs => match optL (lendPV d s) cs with
      | some (b, xs) => some (b, .agg xs)
      | none => none
    | _ => none

mutual
def PV.noRo : PV → Bool
  | .t .fz _ => true
  | .t .ro (.v _) => true
  | .t .ro _ => false
  | .clo _ caps => PV.noRoL caps
  | .agg cs => PV.noRoL cs
  | .tup cs => PV.noRoL cs
  | _ => true
def PV.noRoL : List PV → Bool
  | [] => true
  | x :: l => PV.noRo x && PV.noRoL l
end
def Res.noRo : Res → Bool
  | .dead => true
  | .blk _ cs => PV.noRoL cs
  | .row _ _ k _ => k == .fz
  | .tab k _ => k == .fz
  | .mat _ _ _ => true
  | .iter _ _ _ => true
  | .junk => true

mutual
def PV.ren (d : Nat) : PV → PV
  | .t k x => .t k x
  | .ptr _ off => .ptr d off
  | .osl _ => .osl d
  | .oep _ sz i off => .oep d sz i off
  | .omp _ => .omp d
  | .osv _ sz lo len => .osv d sz lo len
  | .mx _ k i j => .mx d k i j
  | .clo f caps => .clo f (PV.renL d caps)
  | .agg cs => .agg (PV.renL d cs)
  | .tup cs => .tup (PV.renL d cs)
  | .undef => .undef
def PV.renL (d : Nat) : List PV → List PV
  | [] => []
  | x :: l => PV.ren d x :: PV.renL d l
end
def Res.ren (d : Nat) : Res → Res
  | .dead => .dead
  | .blk ty cs => .blk ty (PV.renL d cs)
  | .row ty sz k xs => .row ty sz k xs
  | .tab k es => .tab k es
  | .mat t0 t1 X => .mat t0 t1 X
  | .iter _ n seen => .iter d n seen
  | .junk => .junk

mutual
/-- Does it name nothing but z? (b = false: nothing at all?) -/
def PV.nm (b : Bool) (z : Nat) : PV → Bool
  | .t _ _ => true
  | .ptr n _ => b && n == z
  | .osl n => b && n == z
  | .oep n _ _ _ => b && n == z
  | .omp n => b && n == z
  | .osv n _ _ _ => b && n == z
  | .mx n _ _ _ => b && n == z
  | .clo _ caps => PV.nmL b z caps
  | .agg cs => PV.nmL b z cs
  | .tup cs => PV.nmL b z cs
  | .undef => true
def PV.nmL (b : Bool) (z : Nat) : List PV → Bool
  | [] => true
  | x :: l => PV.nm b z x && PV.nmL b z l
end
def Res.nm (b : Bool) (z : Nat) : Res → Bool
  | .blk _ cs => PV.nmL b z cs
  | .iter mn _ _ => b && mn == z
  | _ => true

theorem PV.renL_get (d : Nat) : ∀ (l : List PV) (j : Nat), (PV.renL d l)[j]? = (l[j]?).map (PV.ren d)
  | [], j => by simp [PV.renL]
  | x :: l, 0 => by simp [PV.renL]
  | x :: l, j + 1 => by simp [PV.renL, PV.renL_get d l j]

theorem PV.renL_length (d : Nat) : ∀ (l : List PV), (PV.renL d l).length = l.length
  | [] => rfl
  | x :: l => by simp [PV.renL, PV.renL_length d l]

theorem PV.nmL_get {b : Bool} {z : Nat} : ∀ {l : List PV} {j : Nat} {x : PV}, PV.nmL b z l = true → l[j]? = some x → x.nm b z = true
  | [], j, x, _, h => by simp at h
  | y :: l, 0, x, hm, h => by
    simp [PV.nmL] at h hm
    subst h
    exact hm.1
  | y :: l, j + 1, x, hm, h => by
    simp only [PV.nmL, Bool.and_eq_true] at hm
    exact PV.nmL_get hm.2 (by simpa using h)

theorem PV.noRoL_get : ∀ {l : List PV} {j : Nat} {x : PV}, PV.noRoL l = true → l[j]? = some x → x.noRo = true
  | [], j, x, _, h => by simp at h
  | y :: l, 0, x, hm, h => by
    simp [PV.noRoL] at h hm
    subst h
    exact hm.1
  | y :: l, j + 1, x, hm, h => by
    simp only [PV.noRoL, Bool.and_eq_true] at hm
    exact PV.noRoL_get hm.2 (by simpa using h)

/-- A result, renamed and taken over; if something was lent, it reads nothing old. -/
theorem PVRep.take {w : World} {φ φ' : Nat → Value} {St St' : Kind → Nat → Prop} {d z : Nat} {lent own : Bool} (hfz : ∀ g, St .fz g → St' .fz g) (hro : lent = false → ∀ g, St .ro g → St' .ro g) (hφ : own = true → φ' d = φ z) {x : PV} {v : Value} (h : PVRep w φ St x v) :
    (lent = true → x.noRo = true) → x.nm own z = true → PVRep w φ' St' (x.ren d) v := by
  induction h with
  | @t k x v h =>
    intro hn _
    cases k with
    | fz => exact .t (h.mono (fun _ _ => rfl) hfz)
    | ro =>
      cases hl : lent with
      | false => exact .t (h.mono (fun _ _ => rfl) (hro hl))
      | true =>
        have := hn hl
        cases x <;> simp [PV.noRo] at this
        cases h
        exact .t (.v _)
  | ptr h =>
    intro _ hm
    simp only [PV.nm, Bool.and_eq_true, beq_iff_eq] at hm
    obtain ⟨h1, rfl⟩ := hm
    exact .ptr ((hφ h1).trans h)
  | osl h =>
    intro _ hm
    simp only [PV.nm, Bool.and_eq_true, beq_iff_eq] at hm
    obtain ⟨h1, rfl⟩ := hm
    exact .osl ((hφ h1).trans h)
  | oep h =>
    intro _ hm
    simp only [PV.nm, Bool.and_eq_true, beq_iff_eq] at hm
    obtain ⟨h1, rfl⟩ := hm
    exact .oep ((hφ h1).trans h)
  | omp h =>
    intro _ hm
    simp only [PV.nm, Bool.and_eq_true, beq_iff_eq] at hm
    obtain ⟨h1, rfl⟩ := hm
    exact .omp ((hφ h1).trans h)
  | osv h hc =>
    intro _ hm
    simp only [PV.nm, Bool.and_eq_true, beq_iff_eq] at hm
    obtain ⟨h1, rfl⟩ := hm
    exact .osv ((hφ h1).trans h) hc
  | mx h =>
    intro _ hm
    simp only [PV.nm, Bool.and_eq_true, beq_iff_eq] at hm
    obtain ⟨h1, rfl⟩ := hm
    exact .mx (by rw [hφ h1]; exact h)
  | clo vs hs hrep ih =>
    intro hn hm
    refine .clo vs (by rw [PV.renL_length]; exact hs) fun j x hx => ?_
    rw [PV.renL_get] at hx
    obtain ⟨y, hy, rfl⟩ := Option.map_eq_some_iff.1 hx
    exact ih j y hy (fun hl => PV.noRoL_get (by simpa [PV.noRo] using hn hl) hy) (PV.nmL_get (by simpa [PV.nm] using hm) hy)
  | agg vs hs hrep ih =>
    intro hn hm
    refine .agg vs (by rw [PV.renL_length]; exact hs) fun j x hx => ?_
    rw [PV.renL_get] at hx
    obtain ⟨y, hy, rfl⟩ := Option.map_eq_some_iff.1 hx
    exact ih j y hy (fun hl => PV.noRoL_get (by simpa [PV.noRo] using hn hl) hy) (PV.nmL_get (by simpa [PV.nm] using hm) hy)
  | tup vs hs hrep ih =>
    intro hn hm
    refine .tup vs (by rw [PV.renL_length]; exact hs) fun j x hx => ?_
    rw [PV.renL_get] at hx
    obtain ⟨y, hy, rfl⟩ := Option.map_eq_some_iff.1 hx
    exact ih j y hy (fun hl => PV.noRoL_get (by simpa [PV.noRo] using hn hl) hy) (PV.nmL_get (by simpa [PV.nm] using hm) hy)
  | undef v => exact fun _ _ => .undef v

theorem ResRep.take {w : World} {φ φ' : Nat → Value} {St St' : Kind → Nat → Prop} {d z : Nat} {lent : Bool} (hfz : ∀ g, St .fz g → St' .fz g) (hro : lent = false → ∀ g, St .ro g → St' .ro g) (hφ : φ' d = φ z) {r : Res} {v : Value} {F : Nat → Prop}
    (h : ResRep w φ St r v F) (hn : lent = true → r.noRo = true) (hm : r.nm true z = true) : ResRep w φ' St' (r.ren d) v F := by
  cases r with
  | dead => exact h
  | blk ty cs =>
    obtain ⟨g, vs, hv, hF, hh, hs, hr⟩ := h
    refine ⟨g, vs, hv, hF, hh, by rw [PV.renL_length]; exact hs, fun j x hx => ?_⟩
    rw [PV.renL_get] at hx
    obtain ⟨y, hy, rfl⟩ := Option.map_eq_some_iff.1 hx
    exact (hr j y hy).take (lent := lent) (own := true) hfz hro (fun _ => hφ) (fun hl => PV.noRoL_get (by simpa [Res.noRo] using hn hl) hy) (PV.nmL_get (by simpa [Res.nm] using hm) hy)
  | row ty sz k xs =>
    obtain ⟨cells, ho, hb, hl, hr⟩ := h
    refine ⟨cells, ho, hb, hl, fun i j e x he hx => (hr i j e x he hx).mono (fun _ _ => rfl) fun g hg => ?_⟩
    cases k with
    | fz => exact hfz g hg
    | ro =>
      cases hle : lent with
      | false => exact hro hle g hg
      | true =>
        have h9 := hn hle
        exact absurd h9 (by simp [Res.noRo])
  | tab k es =>
    obtain ⟨r, ents, hv, hF, hh, he⟩ := h
    refine ⟨r, ents, hv, hF, hh, he.mono (fun _ _ => rfl) fun g hg => ?_⟩
    cases k with
    | fz => exact hfz g hg
    | ro =>
      cases hle : lent with
      | false => exact hro hle g hg
      | true =>
        have h9 := hn hle
        exact absurd h9 (by simp [Res.noRo])
  | mat t0 t1 X => exact h
  | iter mn n seen =>
    obtain ⟨g, r, sa, hv, hg, hr, hh, hs⟩ := h
    have : mn = z := by simpa [Res.nm] using hm
    subst this
    exact ⟨g, r, sa, hv, hg, hφ.trans hr, hh, hs⟩
  | junk => trivial

/-- The state behind a call that returned r. -/
def retS (s : StL) (d : Nat) (r : PV) : List (Nat × Res) → Option StL
  | [] => if r.nm false 0 = true then some ⟨(d, r.ren d) :: s.T, s.M⟩ else none
  | [(0, res)] => if r.nm true 0 = true ∧ res.nm true 0 = true ∧ s.free d = true then some ⟨(d, r.ren d) :: s.T, (d, res.ren d) :: s.M⟩ else none
  | _ => none

section
variable {P : Program} {w0 : Base} {F0 : Nat → Prop} {n : Nat} {s : StL} {a : Act} {w : World} {φ : Nat → Value} {fp : Nat → Nat → Prop}

def SL (w0 : Base) (w : World) (fp : Nat → Nat → Prop) (b : Bool) (g : Nat) : Prop := g < w.heap.size ∧ (b = true ∨ Stb w0 w fp .ro g)

theorem SL.of (k : Kind) (b : Bool) {g : Nat} (h : Stb w0 w fp k g) : SL w0 w fp b g := ⟨h.1, .inr ⟨h.1, h.2.1, h.2.2.imp id fun e => ⟨rfl, e.2⟩⟩⟩
theorem SL.mono {b b' : Bool} (hb : b = true → b' = true) {g : Nat} (h : SL w0 w fp b g) : SL w0 w fp b' g := ⟨h.1, h.2.imp hb id⟩

theorem optL_rep {f : PV → Option (Bool × TL)} (hf : ∀ p b x v, f p = some (b, x) → PVRep w φ (Stb w0 w fp) p v → TRep w (SL w0 w fp b) x v) : ∀ {ps : List PV} {b : Bool} {xs : List TL}, optL f ps = some (b, xs) →
    xs.length = ps.length ∧ ∀ (vs : Nat → Value), (∀ (j : Nat) (p : PV), ps[j]? = some p → PVRep w φ (Stb w0 w fp) p (vs j)) → ∀ (j : Nat) (x : TL), xs[j]? = some x → TRep w (SL w0 w fp b) x (vs j)
  | [], b, xs, h => by
    simp only [optL, Option.some.injEq, Prod.mk.injEq] at h
    obtain ⟨rfl, rfl⟩ := h
    exact ⟨rfl, fun vs _ j x hx => by simp at hx⟩
  | p :: ps, b, xs, h => by
    simp only [optL] at h
    split at h
    · rename_i b1 x b2 xs' h1 h2
      simp only [Option.some.injEq, Prod.mk.injEq] at h
      obtain ⟨rfl, rfl⟩ := h
      obtain ⟨hl, hr⟩ := optL_rep hf h2
      refine ⟨by simp [hl], fun vs hv j y hy => ?_⟩
      cases j with
      | zero =>
        simp at hy
        subst hy
        exact (hf p b1 x _ h1 (hv 0 p (by simp))).mono (fun _ _ => rfl) fun g hg => hg.mono (by intro h; simp [h])
      | succ j =>
        exact (hr (fun j => vs (j + 1)) (fun j p hp => hv (j + 1) p (by simpa using hp)) j y (by simpa using hy)).mono (fun _ _ => rfl) fun g hg => hg.mono (by intro h; simp [h])
    · cases h

theorem lendPV_rep (h : SimX w0 F0 n s a w φ fp) : ∀ (d : Nat) (p : PV) (b : Bool) (x : TL) (v : Value), lendPV d s p = some (b, x) → PVRep w φ (Stb w0 w fp) p v → TRep w (SL w0 w fp b) x v
  | 0, p, b, x, v, hq, _ => by simp [lendPV] at hq
  | d + 1, p, b, x, v, hq, hp => by
    have ih := lendPV_rep h d
    cases p with
    | t k y =>
      simp only [lendPV, Option.some.injEq, Prod.mk.injEq] at hq
      obtain ⟨rfl, rfl⟩ := hq
      exact hp.t_inv.mono (fun _ _ => rfl) fun g hg => SL.of k _ hg
    | osl m =>
      simp only [lendPV] at hq
      split at hq
      · rename_i ty sz k xs hM
        simp only [Option.some.injEq, Prod.mk.injEq] at hq
        obtain ⟨rfl, rfl⟩ := hq
        cases hp with
        | @osl _ len cap ao hφ =>
        have hres := h.res m
        rw [hM] at hres
        obtain ⟨cells, hown, hbd, hlen, hrep⟩ := hres
        rw [hφ] at hown
        rcases hown with ⟨hown, hF⟩ | ⟨rfl, ⟨ao', hv⟩, _⟩
        · rcases hown.2 with ⟨hv, hz⟩ | ⟨g, cap', cur, hv, _, hh, hle, _, _⟩
          · cases hv
            have hx : xs = [] := List.eq_nil_of_length_eq_zero hz
            subst hx
            exact .sl (cap := 0) (fun _ _ => Go.undef) (Nat.le_refl _) (by simp) (by simp) (by simp) (by simp) (.inl rfl) (by simp) (fun i j e x he => by simp at he)
          · cases hv
            refine .sl (fun i j => cells.getD (i * sz + j) Go.undef) hle (by simp) (by simp) (by simp) hbd (.inr ⟨g, 0, rfl, ?_, fun i j hi hj => ?_⟩) hlen fun i j e x he hx => (hrep i j e x he hx).mono (fun _ _ => rfl) fun g hg => SL.of k _ hg
            · exact ⟨(h.old m g ((hF g).2 rfl)).1, .inl rfl⟩
            · have hidx : i * sz + j < cells.length := by
                rw [hown.1]
                have : (i + 1) * sz ≤ xs.length * sz := Nat.mul_le_mul_right _ hi
                rw [Nat.add_mul] at this
                omega
              have h1 := hown.cells (g := g) rfl (i * sz + j) _ (List.getElem?_eq_getElem hidx)
              rw [addr_add, Nat.zero_add] at h1
              rw [Nat.zero_add, h1, List.getD_eq_getElem?_getD, List.getElem?_eq_getElem hidx]
              rfl
        · cases hv
          exact .sl (cap := 0) (fun _ _ => Go.undef) (Nat.le_refl _) (by simp) (by simp) (by simp) (by simp) (.inl rfl) (by simp) (fun i j e x he => by simp at he)
      · cases hq
    | ptr m off =>
      simp only [lendPV] at hq
      split at hq
      · rename_i ty cs hM
        split at hq
        · rename_i b' xs hxs
          simp only [Option.some.injEq, Prod.mk.injEq] at hq
          obtain ⟨rfl, rfl⟩ := hq
          cases hp with
          | @ptr _ _ g hφ =>
          have hres := h.res m
          rw [hM] at hres
          obtain ⟨g', vs, hv, hF, hh, hs, hr⟩ := hres
          rw [hφ] at hv
          cases hv
          obtain ⟨hl, hr'⟩ := optL_rep (fun p b x v => ih p b x v) hxs
          have hb : SL w0 w fp true g := ⟨(h.old m g ((hF g).2 rfl)).1, .inl rfl⟩
          have := TRep.rp (w := w) (S := SL w0 w fp true) (cs := xs) (off := off) (b := g) (o := 0) (fun j => vs.getD j Go.undef) hb (fun j hj => by
            rw [Nat.zero_add, cell_of_row w g j vs ty (0, 0) hh]
            have : j < vs.size := by omega
            simp [this]) (fun j x hx => (hr' (fun j => vs.getD j Go.undef) hr j x hx).mono (fun _ _ => rfl) fun g hg => hg.mono (by simp))
          rwa [Nat.zero_add] at this
        · cases hq
      · cases hq
    | clo f caps =>
      simp only [lendPV] at hq
      split at hq
      · rename_i b' xs hxs
        simp only [Option.some.injEq, Prod.mk.injEq] at hq
        obtain ⟨rfl, rfl⟩ := hq
        cases hp with
        | clo vs hs hr =>
        obtain ⟨hl, hr'⟩ := optL_rep (fun p b x v => ih p b x v) hxs
        exact .clo vs (by omega) fun j x hx => hr' (fun j => vs.getD j Go.undef) hr j x hx
      · cases hq
    | agg cs =>
      simp only [lendPV] at hq
      split at hq
      · rename_i b' xs hxs
        simp only [Option.some.injEq, Prod.mk.injEq] at hq
        obtain ⟨rfl, rfl⟩ := hq
        cases hp with
        | agg vs hs hr =>
        obtain ⟨hl, hr'⟩ := optL_rep (fun p b x v => ih p b x v) hxs
        exact .agg vs (by omega) fun j x hx => hr' (fun j => vs.getD j Go.undef) hr j x hx
      · cases hq
    | mx m kk i j =>
      cases kk with
      | succ kk => simp [lendPV] at hq
      | zero =>
        simp only [lendPV] at hq
        split at hq
        · rename_i t0 t1 X hM
          simp only [Option.some.injEq, Prod.mk.injEq] at hq
          obtain ⟨rfl, rfl⟩ := hq
          cases hp with
          | mx hφ =>
          have hres := h.res m
          rw [hM] at hres
          exact MatRep.tree hres (fun g hg => ⟨(h.old m g hg).1, .inl rfl⟩) hφ
        · cases hq
    | oep => simp [lendPV] at hq
    | omp m =>
      simp only [lendPV] at hq
      split at hq
      · rename_i k es hM
        simp only [Option.some.injEq, Prod.mk.injEq] at hq
        obtain ⟨rfl, rfl⟩ := hq
        cases hp with
        | omp hφ =>
        have hres := h.res m
        rw [hM] at hres
        obtain ⟨r', ents, hv, hF, hh, he⟩ := hres
        rw [hφ] at hv
        cases hv
        exact (he.mono (fun _ _ => rfl) fun g hg => ⟨hg.1, .inl rfl⟩).tree ⟨(h.old m r' ((hF r').2 rfl)).1, .inl rfl⟩ hh
      · cases hq
    | osv => simp [lendPV] at hq
    | tup => simp [lendPV] at hq
    | undef => simp [lendPV] at hq

theorem SimX.glob (h : SimX w0 F0 n s a w φ fp) (b : Bool) : GlobS (Base.of w (SL w0 w fp b)) := ⟨fun g vs hg => by
  obtain ⟨h1, h2⟩ := h.tab hg
  exact ⟨⟨h1.1, .inr h1⟩, h1.1, fun e => e, h2⟩, fun g hg => by
  obtain ⟨h1, h2⟩ := h.tabU hg
  exact ⟨⟨h1.1, .inr h1⟩, h1.1, fun e => e, h2⟩⟩
theorem SimX.globE (h : SimX w0 F0 n s a w φ fp) {φc : Nat → Value} {fpc : Nat → Nat → Prop} (hsub : ∀ m x, fpc m x → ∃ c, fp c x) : GlobS (Base.on w (Stb w0 w fp .ro) φc fpc) := ⟨fun g vs hg => by
  obtain ⟨h1, h2⟩ := h.tab hg
  exact ⟨h1, h1.1, fun ⟨m, hm⟩ => (hsub m g hm).elim fun c hc => h1.2.1 c hc, h2⟩, fun g hg => by
  obtain ⟨h1, h2⟩ := h.tabU hg
  exact ⟨h1, h1.1, fun ⟨m, hm⟩ => (hsub m g hm).elim fun c hc => h1.2.1 c hc, h2⟩⟩
/-- A call, by its contract. -/
theorem call_sim (h : SimX w0 F0 n s a w φ fp) {f d : Nat} {pvs : List PV} {vals : Array Value} {b : Bool} {tls : List TL} {r : PV} {Mr : List (Nat × Res)} {s' : StL} (hdn : d < n)
    (hv : vals.size = pvs.length) (hp : ∀ (j : Nat) (p : PV), pvs[j]? = some p → PVRep w φ (Stb w0 w fp) p (vals.getD j Go.undef)) (hl : optL (lendPV 5 s) pvs = some (b, tls)) (hc : PCall P f tls r Mr)
    (hno : b = true → r.noRo = true ∧ Mr.all (fun p => p.2.noRo) = true) (hr : retS s d r Mr = some s') :
    Calls P f vals w fun e w' => ∃ v, e = .returned v ∧ Sim w0 F0 n s' (a.put (some d) v) w' := by
  obtain ⟨hlen, hrep⟩ := optL_rep (fun p b x v => lendPV_rep h 5 p b x v) hl
  refine (hc.2 w (SL w0 w fp b) vals (h.glob b) (fun g hg => hg.1) (by omega) (fun i x hx => hrep (fun j => vals.getD j Go.undef) hp i x hx)).mono ?_
  rintro e w' ⟨v, φc, fpc, rfl, hevo, hres, hdisj, hold, hrv⟩
  refine ⟨v, rfl, ?_⟩
  have hheap : ∀ g, g < w.heap.size → w'.heap[g]? = w.heap[g]? := fun g hg => hevo.block g hg (by simp)
  have hevo' : Evo F0 w0.w w' := ⟨hevo.os.trans h.evo.os, hevo.tape.trans h.evo.tape, hevo.output.trans h.evo.output, Nat.le_trans h.evo.size hevo.size,
    fun g hg hF => (hheap g (Nat.lt_of_lt_of_le hg h.evo.size)).trans (h.evo.block g hg hF)⟩
  unfold retS at hr
  split at hr
  · -- nothing is owned
    split at hr
    · rename_i hnm
      cases hr
      have hS : ∀ k g, Stb w0 w fp k g → Stb w0 w' fp k g := fun k g hg => ⟨Nat.lt_of_lt_of_le hg.1 hevo.size, hg.2⟩
      have hSc : ∀ k g, Stb w0 w fp k g → w'.heap[g]? = w.heap[g]? := fun k g hg => hheap g hg.1
      have h' : SimX w0 F0 n s a w' φ fp :=
        ⟨fun m => (h.res m).keep (fun g hg => hheap g (h.old m g hg).1) hSc hS, h.disj, fun m g hm => ⟨Nat.lt_of_lt_of_le (h.old m g hm).1 hevo.size, (h.old m g hm).2⟩, fun t => (h.tmp t).mono hSc hS, hevo', h.size, h.dfr, h.fix⟩
      refine ⟨φ, fp, h'.put hdn (hrv.take (lent := b) (own := false) (fun g hg => ?_) (fun hb g hg => ?_) (by simp) (fun hb => (hno hb).1) hnm)⟩
      · refine ⟨hg.1, fun m hm => ?_, .inl (.inl ?_)⟩
        · have := (h.old m g hm).1
          rcases Stb.inv hg with h1 | h1
          · omega
          · cases h1.1
        · rcases Stb.inv hg with h1 | h1
          · have := h.evo.size; omega
          · cases h1.1
      · rcases Stb.inv hg with h1 | ⟨_, h1⟩
        · refine ⟨hg.1, fun m hm => ?_, .inl (.inl ?_)⟩
          · have := (h.old m g hm).1; omega
          · have := h.evo.size; omega
        · have := h1.2.resolve_left (by simp [hb])
          exact hS _ _ this
    · cases hr
  · -- one name
    rename_i res
    split at hr
    · rename_i hcond
      obtain ⟨hnm, hnr, hfree⟩ := hcond
      cases hr
      simp only [StL.free, Bool.and_eq_true] at hfree
      have hno' : b = true → res.noRo = true := fun hb => by have := (hno hb).2; simpa using this
      have hF' : ∀ g, fpc 0 g → (fp d g ∨ w.heap.size ≤ g) ∧ g < w'.heap.size := fun g hg => ⟨.inr (hold 0 g hg).1, (hold 0 g hg).2⟩
      have hdead := Res.eq_dead hfree.2.1
      have hfd : ∀ g, ¬ fp d g := by
        have := h.res d
        rw [hdead] at this
        exact this
      -- what stays, for the caller
      have key : ∀ fp' : Nat → Nat → Prop, (∀ m g, fp' m g → fpc 0 g ∨ fp m g) → (∀ k g, Stb w0 w fp k g → Stb w0 w' fp' k g) →
          (∀ g, Stb (Base.of w (SL w0 w fp b)) w' fpc .fz g → Stb w0 w' fp' .fz g) ∧ (b = false → ∀ g, Stb (Base.of w (SL w0 w fp b)) w' fpc .ro g → Stb w0 w' fp' .ro g) := by
        intro fp' hfp' hS
        refine ⟨fun g hg => ?_, fun hb g hg => ?_⟩
        · have hge : w.heap.size ≤ g := by
            rcases Stb.inv hg with h1 | h1
            · exact h1
            · cases h1.1
          refine ⟨hg.1, fun m hm => ?_, .inl (.inl (by have := h.evo.size; omega))⟩
          rcases hfp' m g hm with h1 | h1
          · exact hg.2.1 0 h1
          · have := (h.old m g h1).1; omega
        · rcases Stb.inv hg with h1 | ⟨_, h1⟩
          · refine ⟨hg.1, fun m hm => ?_, .inl (.inl (by have := h.evo.size; omega))⟩
            rcases hfp' m g hm with h2 | h2
            · exact hg.2.1 0 h2
            · have := (h.old m g h2).1; omega
          · exact hS _ _ (h1.2.resolve_left (by simp [hb]))
      let φ' : Nat → Value := fun q => if q = d then φc 0 else φ q
      let fp' : Nat → Nat → Prop := fun q g => if q = d then fpc 0 g else fp q g
      have hne : ∀ q, q ≠ d → φ' q = φ q := fun q hq => by simp [φ', hq]
      have e2 : φ' d = φc 0 := by simp [φ']
      have hfp' : ∀ m g, fp' m g → fpc 0 g ∨ fp m g := by
        intro m g hm
        simp only [fp'] at hm
        by_cases e : m = d
        · rw [if_pos e] at hm; exact .inl hm
        · rw [if_neg e] at hm; exact .inr hm
      have hS : ∀ k g, Stb w0 w fp k g → Stb w0 w' fp' k g := by
        intro k g hg
        refine ⟨Nat.lt_of_lt_of_le hg.1 hevo.size, fun q hq => ?_, hg.2.2⟩
        rcases hfp' q g hq with h1 | h1
        · have := (hold 0 g h1).1; have := hg.1; omega
        · exact hg.2.1 q h1
      have hSc : ∀ k g, Stb w0 w fp k g → w'.heap[g]? = w.heap[g]? := fun k g hg => hheap g hg.1
      obtain ⟨hk1, hk2⟩ := key fp' hfp' hS
      have h' : SimX w0 F0 n ⟨s.T, (d, res.ren d) :: s.M⟩ a w' φ' fp' := by
        refine ⟨fun q => ?_, fun q q' g h1 h2 => ?_, fun q g hq => ?_, fun t => ?_, hevo', h.size, h.dfr, fun q hq => (hne q (by have := of_decide_eq_true hfree.2.2; omega)).trans (h.fix q hq)⟩
        · show ResRep _ _ _ (getM ((d, res.ren d) :: s.M) q) _ _
          simp only [getM]
          by_cases e : d = q
          · subst e
            rw [if_pos rfl]
            have e1 : fp' d = fpc 0 := by funext g; simp [fp']
            rw [e1, e2]
            have h0 := hres 0
            simp only [getM, if_true] at h0
            exact h0.take (lent := b) hk1 hk2 e2 hno' hnr
          · rw [if_neg e]
            have e1 : fp' q = fp q := by funext g; simp [fp', Ne.symm e]
            rw [e1, hne q (Ne.symm e)]
            refine ((h.res q).keep (fun g hg => hheap g (h.old q g hg).1) hSc hS).rename fun q' hq' => hne q' ?_
            rintro rfl
            have := getM_men hfree.1.2 q
            rw [this] at hq'; cases hq'
        · simp only [fp'] at h1 h2
          by_cases e1 : q = d <;> by_cases e3 : q' = d
          · rw [e1, e3]
          · rw [if_pos e1] at h1; rw [if_neg e3] at h2
            have := (hold 0 g h1).1; have := (h.old q' g h2).1; omega
          · rw [if_neg e1] at h1; rw [if_pos e3] at h2
            have := (hold 0 g h2).1; have := (h.old q g h1).1; omega
          · rw [if_neg e1] at h1; rw [if_neg e3] at h2
            exact h.disj q q' g h1 h2
        · simp only [fp'] at hq
          by_cases e1 : q = d
          · rw [if_pos e1] at hq
            have h3 := hold 0 g hq
            have := h.evo.size
            exact ⟨h3.2, .inr (by omega)⟩
          · rw [if_neg e1] at hq
            have h3 := h.old q g hq
            exact ⟨Nat.lt_of_lt_of_le h3.1 hevo.size, h3.2⟩
        · refine ((h.tmp t).mono hSc hS).rename fun q' hq' => hne q' ?_
          rintro rfl
          have := getT_men hfree.1.1 t
          rw [this] at hq'; cases hq'
      exact ⟨φ', fp', h'.put hdn (hrv.take (lent := b) (own := true) hk1 hk2 (fun _ => e2) (fun hb => (hno hb).1) hnm)⟩
    · cases hr
  · cases hr

end
end Go.PS
/- PSE: contracts of calls that may change memory handed to them by name. -/
namespace Go.PS
open Go Go.RowKit

/-- Pairs (a caller's name, the callee's name). -/
abbrev Sg := List (Nat × Nat)
def Sg.to : Sg → Nat → Option Nat
  | [], _ => none
  | (c, e) :: l, m => if c = m then some e else Sg.to l m
def Sg.bk : Sg → Nat → Option Nat
  | [], _ => none
  | (c, e) :: l, m => if e = m then some c else Sg.bk l m
def Sg.ok (g : Sg) : Bool := g.all fun p => g.to p.1 == some p.2 && g.bk p.2 == some p.1 && (decide (p.1 < 1000000) || decide (1000000 ≤ p.2))

theorem Sg.to_mem {m e : Nat} : ∀ {g : Sg}, g.to m = some e → (m, e) ∈ g
  | [], h => by simp [Sg.to] at h
  | (c, e') :: l, h => by
    simp only [Sg.to] at h
    split at h
    · rename_i hc
      cases h
      subst hc
      exact List.mem_cons_self
    · exact List.mem_cons_of_mem _ (Sg.to_mem h)
theorem Sg.bk_mem {m e : Nat} : ∀ {g : Sg}, g.bk e = some m → (m, e) ∈ g
  | [], h => by simp [Sg.bk] at h
  | (c, e') :: l, h => by
    simp only [Sg.bk] at h
    split at h
    · rename_i hc
      cases h
      subst hc
      exact List.mem_cons_self
    · exact List.mem_cons_of_mem _ (Sg.bk_mem h)
theorem Sg.ok_at {g : Sg} (h : g.ok = true) {m e : Nat} (hm : (m, e) ∈ g) : g.to m = some e ∧ g.bk e = some m ∧ (m < 1000000 ∨ 1000000 ≤ e) := by
  have := List.all_eq_true.1 h _ hm
  simpa [and_assoc] using this

mutual
/-- A caller's value, as the callee sees it. -/
def PV.mp (f : Nat → Option Nat) (nk : Bool) : PV → PV
  | .t k (.v x) => if nk then .t .fz (.v x) else .t k (.v x)
  | .t k x => if nk then .t .ro x else .t k x
  | .ptr n off => match f n with
    | some m => .ptr m off
    | none => .undef
  | .osl n => match f n with
    | some m => .osl m
    | none => .undef
  | .oep n sz i off => match f n with
    | some m => .oep m sz i off
    | none => .undef
  | .omp n => match f n with
    | some m => .omp m
    | none => .undef
  | .osv n sz lo len => match f n with
    | some m => .osv m sz lo len
    | none => .undef
  | .mx n k i j => match f n with
    | some m => .mx m k i j
    | none => .undef
  | .clo g caps => .clo g (PV.mpL f nk caps)
  | .agg cs => .agg (PV.mpL f nk cs)
  | .tup cs => .tup (PV.mpL f nk cs)
  | .undef => .undef
def PV.mpL (f : Nat → Option Nat) (nk : Bool) : List PV → List PV
  | [] => []
  | x :: l => PV.mp f nk x :: PV.mpL f nk l
end
def Res.mp (f : Nat → Option Nat) (nk : Bool) : Res → Res
  | .dead => .dead
  | .blk ty cs => .blk ty (PV.mpL f nk cs)
  | .row ty sz k xs => .row ty sz (if nk then .ro else k) xs
  | .tab k es => .tab (if nk then .ro else k) es
  | .mat t0 t1 X => .mat t0 t1 X
  | .iter mn n seen => match f mn with
    | some m => .iter m n seen
    | none => .junk
  | .junk => .junk

theorem PV.mpL_get (f : Nat → Option Nat) (nk : Bool) : ∀ (l : List PV) (j : Nat), (PV.mpL f nk l)[j]? = (l[j]?).map (PV.mp f nk)
  | [], j => by simp [PV.mpL]
  | x :: l, 0 => by simp [PV.mpL]
  | x :: l, j + 1 => by simp [PV.mpL, PV.mpL_get f nk l j]
theorem PV.mpL_length (f : Nat → Option Nat) (nk : Bool) : ∀ (l : List PV), (PV.mpL f nk l).length = l.length
  | [] => rfl
  | x :: l => by simp [PV.mpL, PV.mpL_length f nk l]

theorem PVRep.mp {w : World} {φ φ' : Nat → Value} {St St' : Kind → Nat → Prop} {f : Nat → Option Nat} {nk : Bool} (hφ : ∀ n m, f n = some m → φ' m = φ n)
    (hk : ∀ k g, St k g → St' (if nk then .ro else k) g) {x : PV} {v : Value} (h : PVRep w φ St x v) : PVRep w φ' St' (x.mp f nk) v := by
  induction h with
  | @t k x v h =>
    cases x with
    | v y =>
      have := h.v_inv
      subst this
      simp only [PV.mp]
      split
      · exact .t (.v _)
      · exact .t (.v _)
    | _ =>
      simp only [PV.mp]
      have h' := h.mono (S' := St' (if nk then .ro else k)) (fun _ _ => rfl) (hk k)
      split
      · rename_i hn
        rw [if_pos hn] at h'
        exact .t h'
      · rename_i hn
        rw [if_neg hn] at h'
        exact .t h'
  | @ptr n off g h =>
    simp only [PV.mp]
    cases hf : f n with
    | none => exact .undef _
    | some m => exact .ptr ((hφ n m hf).trans h)
  | @osl n len cap ao h =>
    simp only [PV.mp]
    cases hf : f n with
    | none => exact .undef _
    | some m => exact .osl ((hφ n m hf).trans h)
  | @oep n sz i off g len cap h =>
    simp only [PV.mp]
    cases hf : f n with
    | none => exact .undef _
    | some m => exact .oep ((hφ n m hf).trans h)
  | @omp n r h =>
    simp only [PV.mp]
    cases hf : f n with
    | none => exact .undef _
    | some m => exact .omp ((hφ n m hf).trans h)
  | @osv n sz lo len g l c cap h hc =>
    simp only [PV.mp]
    cases hf : f n with
    | none => exact .undef _
    | some m => exact .osv ((hφ n m hf).trans h) hc
  | @mx n k i j v h =>
    simp only [PV.mp]
    cases hf : f n with
    | none => exact .undef _
    | some m => exact .mx (by rw [hφ n m hf]; exact h)
  | clo vs hs hrep ih =>
    simp only [PV.mp]
    refine .clo vs (by rw [PV.mpL_length]; exact hs) fun j x hx => ?_
    rw [PV.mpL_get] at hx
    obtain ⟨y, hy, rfl⟩ := Option.map_eq_some_iff.1 hx
    exact ih j y hy
  | agg vs hs hrep ih =>
    simp only [PV.mp]
    refine .agg vs (by rw [PV.mpL_length]; exact hs) fun j x hx => ?_
    rw [PV.mpL_get] at hx
    obtain ⟨y, hy, rfl⟩ := Option.map_eq_some_iff.1 hx
    exact ih j y hy
  | tup vs hs hrep ih =>
    simp only [PV.mp]
    refine .tup vs (by rw [PV.mpL_length]; exact hs) fun j x hx => ?_
    rw [PV.mpL_get] at hx
    obtain ⟨y, hy, rfl⟩ := Option.map_eq_some_iff.1 hx
    exact ih j y hy
  | undef v => exact .undef _

theorem ResRep.mp {w : World} {φ φ' : Nat → Value} {St St' : Kind → Nat → Prop} {f : Nat → Option Nat} {nk : Bool} (hφ : ∀ n m, f n = some m → φ' m = φ n)
    (hk : ∀ k g, St k g → St' (if nk then .ro else k) g) {r : Res} {v : Value} {F : Nat → Prop} (h : ResRep w φ St r v F) : ResRep w φ' St' (r.mp f nk) v F := by
  cases r with
  | dead => exact h
  | blk ty cs =>
    obtain ⟨g, vs, hv, hF, hh, hs, hr⟩ := h
    refine ⟨g, vs, hv, hF, hh, by rw [PV.mpL_length]; exact hs, fun j x hx => ?_⟩
    rw [PV.mpL_get] at hx
    obtain ⟨y, hy, rfl⟩ := Option.map_eq_some_iff.1 hx
    exact (hr j y hy).mp hφ hk
  | row ty sz k xs =>
    obtain ⟨cells, ho, hb, hl, hr⟩ := h
    exact ⟨cells, ho, hb, hl, fun i j e x he hx => (hr i j e x he hx).mono (fun _ _ => rfl) (hk k)⟩
  | tab k es =>
    obtain ⟨r, ents, hv, hF, hh, he⟩ := h
    exact ⟨r, ents, hv, hF, hh, he.mono (fun _ _ => rfl) (hk k)⟩
  | mat t0 t1 X => exact h
  | iter mn n seen =>
    obtain ⟨g, r, sa, hv, hg, hr, hh, hs⟩ := h
    simp only [Res.mp]
    cases hf : f mn with
    | none => trivial
    | some m => exact ⟨g, r, sa, hv, hg, (hφ mn m hf).trans hr, hh, hs⟩
  | junk => trivial


/-- What a callee is handed. -/
structure Handed (w : World) (S : Nat → Prop) (φ : Nat → Value) (fp : Nat → Nat → Prop) (args : List PV) (M : List (Nat × Res)) (vals : Array Value) : Prop where
  stays : ∀ g, S g → g < w.heap.size ∧ ∀ m, ¬ fp m g
  size : vals.size = args.length
  res : ∀ m, ResRep w φ (fun k g => k = .ro ∧ S g) (getM M m) (φ m) (fp m)
  disj : ∀ m m' g, fp m g → fp m' g → m = m'
  lt : ∀ m g, fp m g → g < w.heap.size
  args : ∀ (i : Nat) (x : PV), args[i]? = some x → PVRep w φ (fun k g => k = .ro ∧ S g) x (vals.getD i Go.undef)
  gl : GlobS (Base.on w S φ fp)

/-- What a callee hands back. -/
structure Back (w : World) (S : Nat → Prop) (φ : Nat → Value) (fp : Nat → Nat → Prop) (r : PV) (M' : List (Nat × Res)) (w' : World) (v : Value) (φ' : Nat → Value) (fp' : Nat → Nat → Prop) : Prop where
  evo : Evo (fun g => ∃ m, fp m g) w w'
  res : ∀ m, ResRep w' φ' (Stb (Base.on w S φ fp) w' fp') (getM M' m) (φ' m) (fp' m)
  disj : ∀ m m' g, fp' m g → fp' m' g → m = m'
  old : ∀ m g, fp' m g → g < w'.heap.size ∧ ((∃ m', fp m' g) ∨ w.heap.size ≤ g)
  fix : ∀ m, 1000000 ≤ m → φ' m = φ m
  val : PVRep w' φ' (Stb (Base.on w S φ fp) w' fp') r v

/-- Called with these values, the memory M in hand, the function ends so, with what Post says, and leaves memory so. -/
def ECallE (E : Value → Ending) (P : Program) (f : FuncId) (args : List PV) (M : List (Nat × Res)) (Post : PV → List (Nat × Res) → Prop) : Prop :=
  Callable P f ∧ ∀ (w : World) (S : Nat → Prop) (φ : Nat → Value) (fp : Nat → Nat → Prop) (vals : Array Value), Handed w S φ fp args M vals →
    Calls P f vals w fun e w' => ∃ v φ' fp' r M', Post r M' ∧ e = E v ∧ Back w S φ fp r M' w' v φ' fp'
/-- Called with these values, the memory M in hand, the function returns what Post says, and leaves memory so. -/
def ECallP (P : Program) (f : FuncId) (args : List PV) (M : List (Nat × Res)) (Post : PV → List (Nat × Res) → Prop) : Prop := ECallE .returned P f args M Post
/-- Called with these values, the memory M in hand, the function returns r and leaves M'. -/
def ECall (P : Program) (f : FuncId) (args : List PV) (M : List (Nat × Res)) (r : PV) (M' : List (Nat × Res)) : Prop := ECallP P f args M fun r' M'' => r' = r ∧ M'' = M'

theorem getM_none {m : Nat} : ∀ {M : List (Nat × Res)}, (∀ q ∈ M, q.1 ≠ m) → getM M m = .dead
  | [], _ => rfl
  | (k, r) :: M, h => by
    simp only [getM]
    rw [if_neg (h (k, r) (by simp)), getM_none fun q hq => h q (List.mem_cons_of_mem _ hq)]

/-- Names whose value may have turned are forgotten. -/
def StL.kills (s : StL) : Sg → StL
  | [] => s
  | (c, e) :: l => if e < 1000000 then (StL.kills s l).kill c else StL.kills s l
def backM (g0 : Sg) (M' : List (Nat × Res)) (M : List (Nat × Res)) : Sg → List (Nat × Res)
  | [] => M
  | (c, e) :: l => (c, (getM M' e).mp g0.bk false) :: backM g0 M' M l
/-- The state behind such a call. -/
def retE (s : StL) (d : Nat) (g : Sg) (r : PV) (M' : List (Nat × Res)) : StL := ⟨(d, r.mp g.bk false) :: (s.kills g).T, backM g M' (s.kills g).M g⟩

theorem getM_backM_hit {g0 : Sg} {M' M : List (Nat × Res)} {c e : Nat} : ∀ {g : Sg}, g.to c = some e → getM (backM g0 M' M g) c = (getM M' e).mp g0.bk false
  | [], h => by simp [Sg.to] at h
  | (c', e') :: l, h => by
    simp only [Sg.to] at h
    simp only [backM, getM]
    split
    · rename_i hc
      rw [if_pos hc] at h
      cases h
      rfl
    · rename_i hc
      rw [if_neg hc] at h
      exact getM_backM_hit h
theorem getM_backM_miss {g0 : Sg} {M' M : List (Nat × Res)} {c : Nat} : ∀ {g : Sg}, g.to c = none → getM (backM g0 M' M g) c = getM M c
  | [], h => rfl
  | (c', e') :: l, h => by
    simp only [Sg.to] at h
    simp only [backM, getM]
    split
    · rename_i hc
      rw [if_pos hc] at h
      cases h
    · rename_i hc
      rw [if_neg hc] at h
      exact getM_backM_miss h

section
variable {P : Program} {w0 : Base} {F0 : Nat → Prop} {n : Nat} {s : StL} {a : Act} {w : World} {φ : Nat → Value} {fp : Nat → Nat → Prop}

theorem SimX.kills (h : SimX w0 F0 n s a w φ fp) : ∀ g : Sg, SimX w0 F0 n (s.kills g) a w φ fp
  | [] => h
  | (c, e) :: l => by
    simp only [StL.kills]
    split
    · exact (SimX.kills h l).kill c
    · exact SimX.kills h l

theorem all_killT (m c : Nat) {T : List (Nat × PV)} (h : T.all (fun p => !p.2.men m) = true) : (killT c T).all (fun p => !p.2.men m) = true := by
  rw [killT, List.all_map, List.all_eq_true]
  intro p hp
  have := List.all_eq_true.1 h p hp
  simp only [Function.comp]
  split
  · rfl
  · exact this
theorem menL_killed (m c : Nat) {cs : List PV} (h : PV.menL m cs = false) : PV.menL m (cs.map fun x => if x.men c then .undef else x) = false := by
  induction cs with
  | nil => rfl
  | cons x cs ih =>
    simp only [PV.menL, Bool.or_eq_false_iff] at h
    simp only [List.map_cons, PV.menL, ih h.2, Bool.or_false]
    split
    · rfl
    · exact h.1
theorem all_killM (m c : Nat) {M : List (Nat × Res)} (h : M.all (fun p => !p.2.men m) = true) : (killM c M).all (fun p => !p.2.men m) = true := by
  rw [killM, List.all_map, List.all_eq_true]
  intro p hp
  have := List.all_eq_true.1 h p hp
  simp only [Function.comp]
  obtain ⟨k, r⟩ := p
  cases r with
  | dead => rfl
  | row => rfl
  | tab => rfl
  | mat => rfl
  | junk => rfl
  | iter mn n seen =>
    simp only [Res.kill]
    split
    · rfl
    · exact this
  | blk ty cs =>
    simp only [Res.kill, Res.men, Bool.not_eq_true'] at this ⊢
    exact menL_killed m c this

theorem kills_men {c e : Nat} (he : e < 1000000) : ∀ {g : Sg}, (c, e) ∈ g → (s.kills g).T.all (fun p => !p.2.men c) = true ∧ (s.kills g).M.all (fun p => !p.2.men c) = true
  | [], h => by cases h
  | (c', e') :: l, h => by
    simp only [StL.kills]
    rcases List.mem_cons.1 h with h | h
    · cases h
      rw [if_pos he]
      exact ⟨killT_men c _, killM_men c _⟩
    · obtain ⟨h1, h2⟩ := kills_men he h
      split
      · exact ⟨all_killT _ _ h1, all_killM _ _ h2⟩
      · exact ⟨h1, h2⟩

/-- A call, of any kind, that may change memory handed to it. -/
theorem ecall_simG (h : SimX w0 F0 n s a w φ fp) {C : (Ending → World → Prop) → Prop} (hC : ∀ {R R' : Ending → World → Prop}, (∀ e w', R e w' → R' e w') → C R → C R') {E : Value → Ending} {d : Nat} {pvs args : List PV} {M : List (Nat × Res)} {vals : Array Value} {Post : PV → List (Nat × Res) → Prop} (g : Sg) (hdn : d < n)
    (hv : vals.size = pvs.length) (hp : ∀ (j : Nat) (p : PV), pvs[j]? = some p → PVRep w φ (Stb w0 w fp) p (vals.getD j Go.undef))
    (hc : ∀ (S : Nat → Prop) (φ : Nat → Value) (fp : Nat → Nat → Prop), Handed w S φ fp args M vals → C fun e w' => ∃ v φ' fp' r M', Post r M' ∧ e = E v ∧ Back w S φ fp r M' w' v φ' fp')
    (hok : g.ok = true) (hargs : PV.mpL g.to true pvs = args) (hM : ∀ p ∈ g, getM M p.2 = (getM s.M p.1).mp g.to true) (hM' : M.all (fun q => (g.bk q.1).isSome) = true) :
    C fun e w' => ∃ v r M', Post r M' ∧ e = E v ∧ Sim w0 F0 n (retE s d g r M') (a.put (some d) v) w' := by
  have hto : ∀ c e, g.to c = some e ↔ g.bk e = some c := fun c e => ⟨fun h => (Sg.ok_at hok (Sg.to_mem h)).2.1, fun h => (Sg.ok_at hok (Sg.bk_mem h)).1⟩
  let φc : Nat → Value := fun m => match g.bk m with
    | some c => φ c
    | none => Go.undef
  let fpc : Nat → Nat → Prop := fun m x => ∃ c, g.bk m = some c ∧ fp c x
  have eφ : ∀ c e, g.to c = some e → φc e = φ c := fun c e he => by simp only [φc, (hto c e).1 he]
  have efp : ∀ c e, g.to c = some e → fpc e = fp c := fun c e he => by
    funext x
    simp only [fpc, (hto c e).1 he, Option.some.injEq, exists_eq_left']
  have hStk : ∀ k x, Stb w0 w fp k x → Stb w0 w fp .ro x := fun k x hx => ⟨hx.1, hx.2.1, hx.2.2.imp id fun e => ⟨rfl, e.2⟩⟩
  have hH : Handed w (Stb w0 w fp .ro) φc fpc args M vals := by
    refine ⟨fun x hx => ⟨hx.1, fun m ⟨c, _, hm⟩ => hx.2.1 c hm⟩, by rw [← hargs, PV.mpL_length]; exact hv, fun m => ?_, ?_, fun m x ⟨c, _, hm⟩ => (h.old c x hm).1, fun i x hx => ?_, h.globE fun m x ⟨c, _, hm⟩ => ⟨c, hm⟩⟩
    · cases hb : g.bk m with
      | none =>
        rw [getM_none fun q hq e => by
          have := List.all_eq_true.1 hM' q hq
          rw [e, hb] at this
          cases this]
        rintro x ⟨c, hc, _⟩
        rw [hb] at hc
        cases hc
      | some c =>
        have ht := (hto c m).2 hb
        rw [hM _ (Sg.bk_mem hb), eφ c m ht, efp c m ht]
        exact (h.res c).mp eφ (fun k x hx => by simpa using hStk k x hx)
    · rintro m m' x ⟨c, h1, h2⟩ ⟨c', h3, h4⟩
      have := h.disj c c' x h2 h4
      subst this
      have e1 := (hto c m).2 h1
      rw [(hto c m').2 h3] at e1
      cases e1
      rfl
    · rw [← hargs, PV.mpL_get] at hx
      obtain ⟨y, hy, rfl⟩ := Option.map_eq_some_iff.1 hx
      exact (hp i y hy).mp eφ (fun k x hx => by simpa using hStk k x hx)
  refine hC ?_ (hc (Stb w0 w fp .ro) φc fpc hH)
  rintro e w' ⟨v, φ', fp', r, M', hPost, rfl, hB⟩
  refine ⟨v, r, M', hPost, rfl, ?_⟩
  have hFp : ∀ x, (∃ m, fpc m x) → ∃ c e, g.to c = some e ∧ fp c x := fun x ⟨m, c, h1, h2⟩ => ⟨c, m, (hto c m).2 h1, h2⟩
  have hheap : ∀ x, x < w.heap.size → (∀ c e, g.to c = some e → ¬ fp c x) → w'.heap[x]? = w.heap[x]? := fun x hx hn => hB.evo.block x hx fun hF => by
    obtain ⟨c, e, h1, h2⟩ := hFp x hF
    exact hn c e h1 h2
  let φ1 : Nat → Value := fun c => match g.to c with
    | some e => φ' e
    | none => φ c
  let fp1 : Nat → Nat → Prop := fun c x => match g.to c with
    | some e => fp' e x
    | none => fp c x
  have e1φ : ∀ c e, g.to c = some e → φ1 c = φ' e := fun c e he => by simp only [φ1, he]
  have e1fp : ∀ c e, g.to c = some e → fp1 c = fp' e := fun c e he => by funext x; simp only [fp1, he]
  have e0φ : ∀ c, g.to c = none → φ1 c = φ c := fun c he => by simp only [φ1, he]
  have e0fp : ∀ c, g.to c = none → fp1 c = fp c := fun c he => by funext x; simp only [fp1, he]
  have hfix : ∀ c e, g.to c = some e → 1000000 ≤ e → φ1 c = φ c := fun c e he h6 => by rw [e1φ c e he, hB.fix e h6, eφ c e he]
  have hS : ∀ k x, Stb w0 w fp k x → Stb w0 w' fp1 k x := by
    intro k x hx
    refine ⟨Nat.lt_of_lt_of_le hx.1 hB.evo.size, fun c hcx => ?_, hx.2.2⟩
    cases ht : g.to c with
    | none => rw [e0fp c ht] at hcx; exact hx.2.1 c hcx
    | some e =>
      rw [e1fp c e ht] at hcx
      rcases (hB.old e x hcx).2 with h1 | h1
      · obtain ⟨c', _, _, h2⟩ := hFp x h1
        exact hx.2.1 c' h2
      · have := hx.1; omega
  have hSc : ∀ k x, Stb w0 w fp k x → w'.heap[x]? = w.heap[x]? := fun k x hx => hheap x hx.1 fun c e _ => hx.2.1 c
  have hSb : ∀ k x, Stb (Base.on w (Stb w0 w fp .ro) φc fpc) w' fp' k x → Stb w0 w' fp1 (if false then .ro else k) x := by
    intro k x hx
    refine ⟨hx.1, fun c hcx => ?_, ?_⟩
    · cases ht : g.to c with
      | some e => rw [e1fp c e ht] at hcx; exact hx.2.1 e hcx
      | none =>
        rw [e0fp c ht] at hcx
        rcases hx.2.2 with (h1 | h1) | ⟨_, h1⟩
        · have := (h.old c x hcx).1
          have h1' : w.heap.size ≤ x := h1
          omega
        · obtain ⟨c', e', h2, h3⟩ := hFp x h1
          have := h.disj c c' x hcx h3
          subst this
          rw [ht] at h2
          cases h2
        · exact h1.2.1 c hcx
    · simp only [Bool.false_eq_true, if_false]
      rcases hx.2.2 with (h1 | h1) | ⟨rfl, h1⟩
      · have := h.evo.size
        have h1' : w.heap.size ≤ x := h1
        exact .inl (.inl (by omega))
      · obtain ⟨c', e', h2, h3⟩ := hFp x h1
        rcases (h.old c' x h3).2 with h4 | h4
        · exact .inl (.inr (h.dfr.2.1 x h4))
        · exact .inl (.inl h4)
      · exact h1.2.2
  have hbkφ : ∀ n m, g.bk n = some m → φ1 m = φ' n := fun n m hb => e1φ m n ((hto m n).2 hb)
  have hk := h.kills g
  have hren : ∀ m, ((s.kills g).T.all (fun p => !p.2.men m) = true ∧ (s.kills g).M.all (fun p => !p.2.men m) = true) ∨ φ1 m = φ m := by
    intro m
    cases ht : g.to m with
    | none => exact .inr (e0φ m ht)
    | some e =>
      rcases Nat.lt_or_ge e 1000000 with h6 | h6
      · exact .inl (kills_men h6 (Sg.to_mem ht))
      · exact .inr (hfix m e ht h6)
  refine ⟨φ1, fp1, SimX.put (s := ⟨(s.kills g).T, backM g M' (s.kills g).M g⟩) ⟨fun c => ?_, fun c c' x h1 h2 => ?_, fun c x hcx => ?_, fun t => ?_, ?_, h.size, h.dfr, fun c h6 => ?_⟩ hdn (hB.val.mp hbkφ hSb)⟩
  · show ResRep _ _ _ (getM (backM g M' (s.kills g).M g) c) _ _
    cases ht : g.to c with
    | some e =>
      rw [getM_backM_hit ht, e1φ c e ht, e1fp c e ht]
      exact (hB.res e).mp hbkφ hSb
    | none =>
      rw [getM_backM_miss ht, e0φ c ht, e0fp c ht]
      refine ((hk.res c).keep (fun x hx => hheap x (h.old c x hx).1 fun c' e' h1 h2 => ?_) hSc hS).rename fun m hm => ?_
      · have := h.disj c c' x hx h2
        subst this
        rw [ht] at h1
        cases h1
      · rcases hren m with h1 | h1
        · rw [getM_men h1.2 c] at hm
          cases hm
        · exact h1
  · cases ht : g.to c with
    | some e =>
      rw [e1fp c e ht] at h1
      cases ht' : g.to c' with
      | some e' =>
        rw [e1fp c' e' ht'] at h2
        have := hB.disj e e' x h1 h2
        subst this
        have h3 := (hto c e).1 ht
        rw [(hto c' e).1 ht'] at h3
        cases h3
        rfl
      | none =>
        rw [e0fp c' ht'] at h2
        rcases (hB.old e x h1).2 with h3 | h3
        · obtain ⟨c2, e2, h4, h5⟩ := hFp x h3
          have := h.disj c' c2 x h2 h5
          subst this
          rw [ht'] at h4
          cases h4
        · have := (h.old c' x h2).1; omega
    | none =>
      rw [e0fp c ht] at h1
      cases ht' : g.to c' with
      | some e' =>
        rw [e1fp c' e' ht'] at h2
        rcases (hB.old e' x h2).2 with h3 | h3
        · obtain ⟨c2, e2, h4, h5⟩ := hFp x h3
          have := h.disj c c2 x h1 h5
          subst this
          rw [ht] at h4
          cases h4
        · have := (h.old c x h1).1; omega
      | none =>
        rw [e0fp c' ht'] at h2
        exact h.disj c c' x h1 h2
  · cases ht : g.to c with
    | some e =>
      rw [e1fp c e ht] at hcx
      obtain ⟨h1, h2⟩ := hB.old e x hcx
      refine ⟨h1, ?_⟩
      rcases h2 with h2 | h2
      · obtain ⟨c2, e2, h4, h5⟩ := hFp x h2
        exact (h.old c2 x h5).2
      · have := h.evo.size
        exact .inr (by omega)
    | none =>
      rw [e0fp c ht] at hcx
      have := h.old c x hcx
      exact ⟨Nat.lt_of_lt_of_le this.1 hB.evo.size, this.2⟩
  · refine ((hk.tmp t).mono hSc hS).rename fun m hm => ?_
    rcases hren m with h1 | h1
    · rw [getT_men h1.1 t] at hm
      cases hm
    · exact h1
  · refine ⟨hB.evo.os.trans h.evo.os, hB.evo.tape.trans h.evo.tape, hB.evo.output.trans h.evo.output, Nat.le_trans h.evo.size hB.evo.size, fun x hx hF => ?_⟩
    refine (hheap x (Nat.lt_of_lt_of_le hx h.evo.size) fun c e _ hcx => ?_).trans (h.evo.block x hx hF)
    rcases (h.old c x hcx).2 with h1 | h1
    · exact hF h1
    · omega
  · cases ht : g.to c with
    | none => rw [e0φ c ht]; exact h.fix c h6
    | some e =>
      have := (Sg.ok_at hok (Sg.to_mem ht)).2.2
      rw [hfix c e ht (by omega)]
      exact h.fix c h6
/-- A call that may change memory handed to it. -/
theorem ecall_simE (h : SimX w0 F0 n s a w φ fp) {E : Value → Ending} {f d : Nat} {pvs args : List PV} {M : List (Nat × Res)} {vals : Array Value} {Post : PV → List (Nat × Res) → Prop} (g : Sg) (hdn : d < n)
    (hv : vals.size = pvs.length) (hp : ∀ (j : Nat) (p : PV), pvs[j]? = some p → PVRep w φ (Stb w0 w fp) p (vals.getD j Go.undef)) (hc : ECallE E P f args M Post)
    (hok : g.ok = true) (hargs : PV.mpL g.to true pvs = args) (hM : ∀ p ∈ g, getM M p.2 = (getM s.M p.1).mp g.to true) (hM' : M.all (fun q => (g.bk q.1).isSome) = true) :
    Calls P f vals w fun e w' => ∃ v r M', Post r M' ∧ e = E v ∧ Sim w0 F0 n (retE s d g r M') (a.put (some d) v) w' :=
  ecall_simG (C := fun R => Calls P f vals w R) h (fun hR hc => Calls.mono hc hR) g hdn hv hp (fun S φ fp hH => hc.2 w S φ fp vals hH) hok hargs hM hM'
theorem ecall_sim (h : SimX w0 F0 n s a w φ fp) {f d : Nat} {pvs args : List PV} {M : List (Nat × Res)} {vals : Array Value} {Post : PV → List (Nat × Res) → Prop} (g : Sg) (hdn : d < n)
    (hv : vals.size = pvs.length) (hp : ∀ (j : Nat) (p : PV), pvs[j]? = some p → PVRep w φ (Stb w0 w fp) p (vals.getD j Go.undef)) (hc : ECallP P f args M Post)
    (hok : g.ok = true) (hargs : PV.mpL g.to true pvs = args) (hM : ∀ p ∈ g, getM M p.2 = (getM s.M p.1).mp g.to true) (hM' : M.all (fun q => (g.bk q.1).isSome) = true) :
    Calls P f vals w fun e w' => ∃ v r M', Post r M' ∧ e = .returned v ∧ Sim w0 F0 n (retE s d g r M') (a.put (some d) v) w' := ecall_simE h g hdn hv hp hc hok hargs hM hM'

end
end Go.PS
/- PSF: memory of our own, given up: it becomes trees. -/
namespace Go.PS
open Go Go.RowKit

def optK (f : PV → Option (Kind × TL)) : List PV → Option (Kind × List TL)
  | [] => some (.fz, [])
  | p :: l => match f p, optK f l with
    | some (b, x), some (b', xs) => some (b.join b', x :: xs)
    | _, _ => none

/-- Memory of our own, given up: a tree. -/
def frzT : Nat → StL → PV → Option (Kind × TL)
  | 0, _, _ => none
  | d + 1, s, p => match p with
    | .t _ (.v x) => some (.fz, .v x)
    | .t k x => some (k, x)
    | .osl m => match getM s.M m with
      | .row _ sz k xs => some (k, .sl .any sz xs)
      | _ => none
    | .ptr m off => match getM s.M m with
      | .blk _ cs => match optK (frzT d s) cs with
        | some (k, xs) => some (k, .rp xs off)
        | none => none
      | _ => none
    | .mx m 0 _ _ => match getM s.M m with
      | .mat _ _ X => some (.fz, mxT X)
      | _ => none
    | .omp m => match getM s.M m with
      | .tab k es => some (k, .mp es)
      | _ => none
    | .osv m sz lo len => match getM s.M m with
      | .row _ sz' k xs => if sz' = sz ∧ lo + len ≤ xs.length ∧ 0 < len then some (k, .sl .any sz ((xs.drop lo).take len)) else none
      | _ => none
    | .clo f caps => match optK (frzT d s) caps with
      | some (k, xs) => some (k, .clo f xs)
      | none => none
    | .agg cs => match optK (frzT d s) cs with
      | some (k, xs) => some (k, .agg xs)
      | none => none
    | .tup cs => match optK (frzT d s) cs with
      | some (k, xs) => some (k, .tup xs)
      | none => none
    | _ => none

section
variable {P : Program} {w0 : Base} {F0 : Nat → Prop} {n : Nat} {s : StL} {a : Act} {w : World} {φ : Nat → Value} {fp : Nat → Nat → Prop}

theorem optK_rep {fp' : Nat → Nat → Prop} {f : PV → Option (Kind × TL)} (hf : ∀ p k x v, f p = some (k, x) → PVRep w φ (Stb w0 w fp) p v → TRep w (Stb w0 w fp' k) x v) : ∀ {ps : List PV} {k : Kind} {xs : List TL}, optK f ps = some (k, xs) →
    xs.length = ps.length ∧ ∀ (vs : Nat → Value), (∀ (j : Nat) (p : PV), ps[j]? = some p → PVRep w φ (Stb w0 w fp) p (vs j)) → ∀ (j : Nat) (x : TL), xs[j]? = some x → TRep w (Stb w0 w fp' k) x (vs j)
  | [], k, xs, h => by
    simp only [optK, Option.some.injEq, Prod.mk.injEq] at h
    obtain ⟨rfl, rfl⟩ := h
    exact ⟨rfl, fun vs _ j x hx => by simp at hx⟩
  | p :: ps, k, xs, h => by
    simp only [optK] at h
    split at h
    · rename_i k1 x k2 xs' h1 h2
      simp only [Option.some.injEq, Prod.mk.injEq] at h
      obtain ⟨rfl, rfl⟩ := h
      obtain ⟨hl, hr⟩ := optK_rep hf h2
      refine ⟨by simp [hl], fun vs hv j y hy => ?_⟩
      cases j with
      | zero =>
        simp at hy
        subst hy
        exact (hf p k1 x _ h1 (hv 0 p (by simp))).join k2
      | succ j =>
        rw [Kind.join_comm]
        exact (hr (fun j => vs (j + 1)) (fun j p hp => hv (j + 1) p (by simpa using hp)) j y (by simpa using hy)).join k1
    · cases h

theorem frzT_repZ (h : SimX w0 F0 n s a w φ fp) {sm : StL} {fp' : Nat → Nat → Prop} (hsub : ∀ m, getM sm.M m = getM s.M m ∨ getM sm.M m = .dead) (hfp : ∀ m g, fp' m g → fp m g) (hz : ∀ m, getM sm.M m ≠ .dead → ∀ q g, fp m g → ¬ fp' q g) : ∀ (d : Nat) (p : PV) (k : Kind) (x : TL) (v : Value), frzT d sm p = some (k, x) → PVRep w φ (Stb w0 w fp) p v → TRep w (Stb w0 w fp' k) x v
  | 0, p, k, x, v, hq, _ => by simp [frzT] at hq
  | d + 1, p, k, x, v, hq, hp => by
    have ih := frzT_repZ h hsub hfp hz d
    have hS : ∀ k g, Stb w0 w fp k g → Stb w0 w fp' k g := fun k g hg => ⟨hg.1, fun q h => hg.2.1 q (hfp q g h), hg.2.2⟩
    have hnew : ∀ k m g, getM sm.M m ≠ .dead → fp m g → Stb w0 w fp' k g := fun k m g hm hg => ⟨(h.old m g hg).1, fun q hq => hz m hm q g hg hq, .inl ((h.old m g hg).2.elim (fun e => .inr (h.dfr.2.1 g e)) .inl)⟩
    cases p with
    | t k' y =>
      cases y with
      | v x' =>
        simp only [frzT, Option.some.injEq, Prod.mk.injEq] at hq
        obtain ⟨rfl, rfl⟩ := hq
        have := hp.t_inv.v_inv
        subst this
        exact .v _
      | sl f sz xs =>
        simp only [frzT, Option.some.injEq, Prod.mk.injEq] at hq
        obtain ⟨rfl, rfl⟩ := hq
        exact hp.t_inv.mono (fun _ _ => rfl) (hS _)
      | rp cs off =>
        simp only [frzT, Option.some.injEq, Prod.mk.injEq] at hq
        obtain ⟨rfl, rfl⟩ := hq
        exact hp.t_inv.mono (fun _ _ => rfl) (hS _)
      | clo f cs =>
        simp only [frzT, Option.some.injEq, Prod.mk.injEq] at hq
        obtain ⟨rfl, rfl⟩ := hq
        exact hp.t_inv.mono (fun _ _ => rfl) (hS _)
      | agg cs =>
        simp only [frzT, Option.some.injEq, Prod.mk.injEq] at hq
        obtain ⟨rfl, rfl⟩ := hq
        exact hp.t_inv.mono (fun _ _ => rfl) (hS _)
      | tup cs =>
        simp only [frzT, Option.some.injEq, Prod.mk.injEq] at hq
        obtain ⟨rfl, rfl⟩ := hq
        exact hp.t_inv.mono (fun _ _ => rfl) (hS _)
      | mp es =>
        simp only [frzT, Option.some.injEq, Prod.mk.injEq] at hq
        obtain ⟨rfl, rfl⟩ := hq
        exact hp.t_inv.mono (fun _ _ => rfl) (hS _)
      | one =>
        simp only [frzT, Option.some.injEq, Prod.mk.injEq] at hq
        obtain ⟨rfl, rfl⟩ := hq
        exact hp.t_inv.mono (fun _ _ => rfl) (hS _)
    | osl m =>
      simp only [frzT] at hq
      split at hq
      · rename_i ty sz k' xs hM
        cases hq
        cases hp with
        | @osl _ len cap ao hφ =>
        have hne : getM sm.M m ≠ .dead := by rw [hM]; intro h; cases h
        have hres := h.res m
        rw [← (hsub m).resolve_right hne, hM] at hres
        obtain ⟨cells, hown, hbd, hlen, hrep⟩ := hres
        rw [hφ] at hown
        rcases hown with ⟨hown, hF⟩ | ⟨rfl, ⟨ao', hv⟩, _⟩
        · rcases hown.2 with ⟨hv, hz⟩ | ⟨g, cap', cur, hv, _, hh, hle, _, _⟩
          · cases hv
            have hx : xs = [] := List.eq_nil_of_length_eq_zero hz
            subst hx
            exact .sl (cap := 0) (fun _ _ => Go.undef) (Nat.le_refl _) (by simp) (by simp) (by simp) (by simp) (.inl rfl) (by simp) (fun i j e x he => by simp at he)
          · cases hv
            refine .sl (fun i j => cells.getD (i * sz + j) Go.undef) hle (by simp) (by simp) (by simp) hbd (.inr ⟨g, 0, rfl, hnew _ m g hne ((hF g).2 rfl), fun i j hi hj => ?_⟩) hlen fun i j e x he hx => (hrep i j e x he hx).mono (fun _ _ => rfl) (hS _)
            have hidx : i * sz + j < cells.length := by
              rw [hown.1]
              have : (i + 1) * sz ≤ xs.length * sz := Nat.mul_le_mul_right _ hi
              rw [Nat.add_mul] at this
              omega
            have h1 := hown.cells (g := g) rfl (i * sz + j) _ (List.getElem?_eq_getElem hidx)
            rw [addr_add, Nat.zero_add] at h1
            rw [Nat.zero_add, h1, List.getD_eq_getElem?_getD, List.getElem?_eq_getElem hidx]
            rfl
        · cases hv
          exact .sl (cap := 0) (fun _ _ => Go.undef) (Nat.le_refl _) (by simp) (by simp) (by simp) (by simp) (.inl rfl) (by simp) (fun i j e x he => by simp at he)
      · cases hq
    | ptr m off =>
      simp only [frzT] at hq
      split at hq
      · rename_i ty cs hM
        split at hq
        · rename_i k' xs hxs
          cases hq
          cases hp with
          | @ptr _ _ g hφ =>
          have hne : getM sm.M m ≠ .dead := by rw [hM]; intro h; cases h
          have hres := h.res m
          rw [← (hsub m).resolve_right hne, hM] at hres
          obtain ⟨g', vs, hv, hF, hh, hs, hr⟩ := hres
          rw [hφ] at hv
          cases hv
          obtain ⟨hl, hr'⟩ := optK_rep (fun p k x v => ih p k x v) hxs
          have := TRep.rp (w := w) (S := Stb w0 w fp' k) (cs := xs) (off := off) (b := g) (o := 0) (fun j => vs.getD j Go.undef) (hnew _ m g hne ((hF g).2 rfl)) (fun j hj => by
            rw [Nat.zero_add, cell_of_row w g j vs ty (0, 0) hh]
            have : j < vs.size := by omega
            simp [this]) (fun j x hx => hr' (fun j => vs.getD j Go.undef) hr j x hx)
          rwa [Nat.zero_add] at this
        · cases hq
      · cases hq
    | clo f caps =>
      simp only [frzT] at hq
      split at hq
      · rename_i b' xs hxs
        cases hq
        cases hp with
        | clo vs hs hr =>
        obtain ⟨hl, hr'⟩ := optK_rep (fun p k x v => ih p k x v) hxs
        exact .clo vs (by omega) fun j x hx => hr' (fun j => vs.getD j Go.undef) hr j x hx
      · cases hq
    | agg cs =>
      simp only [frzT] at hq
      split at hq
      · rename_i b' xs hxs
        cases hq
        cases hp with
        | agg vs hs hr =>
        obtain ⟨hl, hr'⟩ := optK_rep (fun p k x v => ih p k x v) hxs
        exact .agg vs (by omega) fun j x hx => hr' (fun j => vs.getD j Go.undef) hr j x hx
      · cases hq
    | tup cs =>
      simp only [frzT] at hq
      split at hq
      · rename_i b' xs hxs
        cases hq
        cases hp with
        | tup vs hs hr =>
        obtain ⟨hl, hr'⟩ := optK_rep (fun p k x v => ih p k x v) hxs
        exact .tup vs (by omega) fun j x hx => hr' (fun j => vs.getD j Go.undef) hr j x hx
      · cases hq
    | mx m kk i j =>
      cases kk with
      | succ kk => simp [frzT] at hq
      | zero =>
        simp only [frzT] at hq
        split at hq
        · rename_i t0 t1 X hM
          cases hq
          cases hp with
          | mx hφ =>
          have hne : getM sm.M m ≠ .dead := by rw [hM]; intro h; cases h
          have hres := h.res m
          rw [← (hsub m).resolve_right hne, hM] at hres
          exact MatRep.tree hres (fun g hg => hnew _ m g hne hg) hφ
        · cases hq
    | oep => simp [frzT] at hq
    | omp m =>
      simp only [frzT] at hq
      split at hq
      · rename_i k' es hM
        cases hq
        cases hp with
        | omp hφ =>
        have hne : getM sm.M m ≠ .dead := by rw [hM]; intro h; cases h
        have hres := h.res m
        rw [← (hsub m).resolve_right hne, hM] at hres
        obtain ⟨r', ents, hv, hF, hh, he⟩ := hres
        rw [hφ] at hv
        cases hv
        exact (he.mono (fun _ _ => rfl) (hS _)).tree (hnew _ m r' hne ((hF r').2 rfl)) hh
      · cases hq
    | osv m sz lo len =>
      simp only [frzT] at hq
      split at hq
      · rename_i ty sz' k0 xs hM
        split at hq
        · rename_i hc
          obtain ⟨rfl, hle, hpos⟩ := hc
          cases hq
          cases hp with
          | @osv _ _ _ _ g l c cap hφ hcap =>
          have hne : getM sm.M m ≠ .dead := by rw [hM]; intro h; cases h
          have hres := h.res m
          rw [← (hsub m).resolve_right hne, hM] at hres
          obtain ⟨cells, hown, hbd, hlen, hrep⟩ := hres
          rw [hφ] at hown
          have hlx : ((xs.drop lo).take len).length = len := by rw [List.length_take, List.length_drop]; omega
          obtain ⟨hown, hF⟩ := hown.resolve_right (by rintro ⟨rfl, _⟩; simp at hle; omega)
          rcases hown.2 with ⟨hv, _⟩ | ⟨g', cap', cur, hv, _, hh, hle2, _, _⟩
          · cases hv
          · simp only [Value.slice.injEq, Option.some.injEq, Addr.mk.injEq, and_true] at hv
            obtain ⟨rfl, rfl, rfl⟩ := hv
            have hxl := hown.1
            have hk : TRep w (Stb w0 w fp' k) (.sl .any sz' ((xs.drop lo).take len)) (.slice (some ⟨g, lo * sz', none⟩) ((xs.drop lo).take len).length cap) := by
              refine .sl (fun i j => cells.getD ((lo + i) * sz' + j) Go.undef) (by rw [hlx]; exact hcap) (by simp) (by simp) (by simp) (by rw [hlx]; omega) (.inr ⟨g, lo * sz', rfl, hnew _ m g hne ((hF g).2 rfl), fun i j hi hj => ?_⟩) (fun e he => hlen e (List.mem_of_mem_drop (List.mem_of_mem_take he))) fun i j e x he hx => ?_
              · rw [hlx] at hi
                have hidx : (lo + i) * sz' + j < cells.length := by
                  rw [hxl]
                  have : (lo + i + 1) * sz' ≤ xs.length * sz' := Nat.mul_le_mul_right _ (by omega)
                  rw [Nat.add_mul] at this
                  omega
                have h1 := hown.cells (g := g) rfl ((lo + i) * sz' + j) _ (List.getElem?_eq_getElem hidx)
                rw [addr_add, Nat.zero_add] at h1
                rw [show lo * sz' + (i * sz' + j) = (lo + i) * sz' + j by rw [Nat.add_mul]; omega, h1, List.getD_eq_getElem?_getD, List.getElem?_eq_getElem hidx]
                rfl
              · rw [List.getElem?_take] at he
                split at he
                · rw [List.getElem?_drop] at he
                  exact (hrep (lo + i) j e x he hx).mono (fun _ _ => rfl) (hS _)
                · cases he
            rwa [hlx] at hk
        · cases hq
      · cases hq
    | undef => simp [frzT] at hq

theorem frzT_rep (h : SimX w0 F0 n s a w φ fp) (hF0 : ∀ g, F0 g → w0.F g) (d : Nat) (p : PV) (k : Kind) (x : TL) (v : Value) (hq : frzT d s p = some (k, x)) (hp : PVRep w φ (Stb w0 w fp) p v) : TRep w (Stb w0 w (fun _ _ => False) k) x v :=
  frzT_repZ h (fun _ => .inl rfl) (fun _ _ h => h.elim) (fun _ _ _ _ _ h => h) d p k x v hq hp

def restM (z : List Nat) (M : List (Nat × Res)) : List (Nat × Res) := M.filter fun p => z.contains p.1
def frzQ (z : List Nat) (s : StL) (p : PV) : PV := if z.any (fun m => p.men m) then (match frzT 6 ⟨s.T, restM z s.M⟩ p with
  | some (k, x) => .t k x
  | none => .undef) else p
def Res.frzQ (z : List Nat) (s : StL) : Res → Res
  | .blk ty cs => .blk ty (cs.map (PS.frzQ z s))
  | r => r
/-- The names z are given up. -/
def frzZ (z : List Nat) (s : StL) : StL := ⟨s.T.map fun p => (p.1, frzQ z s p.2), (s.M.filter fun p => !z.contains p.1).map fun p => (p.1, p.2.frzQ z s)⟩

theorem getM_filter (f : Nat → Bool) : ∀ (M : List (Nat × Res)) (m : Nat), getM (M.filter fun p => f p.1) m = if f m then getM M m else .dead
  | [], m => by simp [getM]
  | (k, r) :: M, m => by
    have ih := getM_filter f M m
    simp only [List.filter_cons]
    cases hk : f k with
    | true =>
      simp only [if_true, getM, ih]
      by_cases e : k = m
      · subst e; simp [hk]
      · simp [e]
    | false =>
      simp only [Bool.false_eq_true, if_false, getM, ih]
      by_cases e : k = m
      · subst e; simp [hk]
      · simp [e]
theorem getM_mapR (f : Res → Res) (hf : f .dead = .dead) : ∀ (M : List (Nat × Res)) (m : Nat), getM (M.map fun p => (p.1, f p.2)) m = f (getM M m)
  | [], m => hf.symm
  | (k, r) :: M, m => by
    simp only [List.map_cons, getM]
    split
    · rfl
    · exact getM_mapR f hf M m
theorem getT_mapP (f : PV → PV) (hf : f .undef = .undef) : ∀ (T : List (Nat × PV)) (t : Nat), getT (T.map fun p => (p.1, f p.2)) t = f (getT T t)
  | [], t => hf.symm
  | (k, p) :: T, t => by
    simp only [List.map_cons, getT]
    split
    · rfl
    · exact getT_mapP f hf T t

theorem frzQ_rep (h : SimX w0 F0 n s a w φ fp) (z : List Nat) {p : PV} {v : Value} (hp : PVRep w φ (Stb w0 w fp) p v) : PVRep w φ (Stb w0 w (fun m g => fp m g ∧ z.contains m = false)) (frzQ z s p) v := by
  have hS : ∀ k g, Stb w0 w fp k g → Stb w0 w (fun m g => fp m g ∧ z.contains m = false) k g := fun k g hg => ⟨hg.1, fun q hq => hg.2.1 q hq.1, hg.2.2⟩
  have er : ∀ m, getM (restM z s.M) m = if z.contains m then getM s.M m else .dead := fun m => getM_filter (fun m => z.contains m) s.M m
  unfold frzQ
  split
  · split
    · rename_i k x hx
      refine .t (frzT_repZ h (sm := ⟨s.T, restM z s.M⟩) (fun m => ?_) (fun _ _ h => h.1) (fun m hm q g h1 h2 => ?_) 6 p k x v hx hp)
      · show getM (restM z s.M) m = _ ∨ getM (restM z s.M) m = _
        rw [er m]
        split
        · exact .inl rfl
        · exact .inr rfl
      · have hm' : getM (restM z s.M) m ≠ .dead := hm
        rw [er m] at hm'
        have := h.disj m q g h1 h2.1
        subst this
        rw [h2.2] at hm'
        simp at hm'
    · exact .undef _
  · exact hp.mono (fun _ _ _ => rfl) hS

theorem frzZ_sim (h : SimX w0 F0 n s a w φ fp) (z : List Nat) : SimX w0 F0 n (frzZ z s) a w φ (fun m g => fp m g ∧ z.contains m = false) := by
  have hS : ∀ k g, Stb w0 w fp k g → Stb w0 w (fun m g => fp m g ∧ z.contains m = false) k g := fun k g hg => ⟨hg.1, fun q hq => hg.2.1 q hq.1, hg.2.2⟩
  refine ⟨fun m => ?_, fun m m' g h1 h2 => h.disj m m' g h1.1 h2.1, fun m g hm => h.old m g hm.1, fun t => ?_, h.evo, h.size, h.dfr, h.fix⟩
  · have e : getM (frzZ z s).M m = Res.frzQ z s (if !z.contains m then getM s.M m else .dead) := by
      show getM ((s.M.filter fun p => !z.contains p.1).map fun p => (p.1, p.2.frzQ z s)) m = _
      rw [getM_mapR (Res.frzQ z s) rfl, getM_filter (fun m => !z.contains m) s.M m]
    rw [e]
    cases hz : z.contains m with
    | true => exact fun g hg => by simp at hg
    | false =>
      simp only [Bool.not_false, if_true]
      have hF : (fun g => fp m g ∧ True) = fp m := by funext g; simp
      rw [hF]
      have := h.res m
      revert this
      cases getM s.M m with
      | dead => exact fun h => h
      | row => exact fun hr => hr.keep (fun _ _ => rfl) (fun _ _ _ => rfl) hS
      | tab => exact fun hr => hr.keep (fun _ _ => rfl) (fun _ _ _ => rfl) hS
      | mat => exact fun hr => hr.keep (fun _ _ => rfl) (fun _ _ _ => rfl) hS
      | iter => exact fun hr => hr.keep (fun _ _ => rfl) (fun _ _ _ => rfl) hS
      | junk => exact fun h => h
      | blk ty cs =>
        rintro ⟨g, vs, hv, hF, hh, hs, hr⟩
        refine ⟨g, vs, hv, hF, hh, by simpa using hs, fun j x hx => ?_⟩
        rw [List.getElem?_map] at hx
        obtain ⟨y, hy, rfl⟩ := Option.map_eq_some_iff.1 hx
        exact frzQ_rep h z (hr j y hy)
  · show PVRep _ _ _ (getT (s.T.map fun p => (p.1, frzQ z s p.2)) t) _
    rw [getT_mapP (frzQ z s) (by simp [frzQ, PV.men])]
    exact frzQ_rep h z (h.tmp t)

end
end Go.PS

/- PS13: regions in the order of the text, code, functions. -/
namespace Go.PS
open Go Go.RowKit

/-- A Bool that an earlier operation of the region left. -/
def gdV : PV → Option (Option Bool)
  | .t _ (.v (.bool b)) => some (some b)
  | .t _ (.v (.tuple _)) => some none
  | _ => none
def gdPV (ops : Array Oper) (s : StL) (j : Nat) : Option (Option Bool) :=
  match (ops[j]?).bind (·.dst) with
  | some d => gdV (getT s.T d)
  | none => none
/-- What an operation that is skipped leaves. -/
abbrev skipPV : PV := .t .fz (.v (.tuple #[]))

/-- Is the operation wanted? -/
def wantPV (ops : Array Oper) (s : StL) (o : Oper) : Option Bool :=
  match o.guard with
  | none => some true
  | some (j, b) => (gdPV ops s j).map (· == some b)

def callee (s : StL) (c : Call) : Option (FuncId × List PV) :=
  match c.callee with
  | .value f => match ev s f with
    | .clo f caps => some (f, c.args.toList.map (ev s) ++ caps)
    | .t k (.clo f caps) => some (f, c.args.toList.map (ev s) ++ caps.map (PV.t k))
    | _ => none
  | _ => none

/-- A call: by a contract of what may be changed. -/
def ECallW (P : Program) (s : StL) (d : Nat) (f : FuncId) (pvs : List PV) (K : StL → Prop) : Prop :=
  ∃ (g : Sg) (args : List PV) (M : List (Nat × Res)) (Post : PV → List (Nat × Res) → Prop), ECallP P f args M Post ∧ g.ok = true ∧ PV.mpL g.to true pvs = args ∧ (∀ p ∈ g, getM M p.2 = (getM s.M p.1).mp g.to true) ∧ M.all (fun q => (g.bk q.1).isSome) = true ∧ ∀ r M', Post r M' → K (retE s d g r M')
theorem ECallW.mono {P : Program} {s : StL} {d : Nat} {f : FuncId} {pvs : List PV} {K K' : StL → Prop} (h : ECallW P s d f pvs K) (hK : ∀ s, K s → K' s) : ECallW P s d f pvs K' := by
  obtain ⟨g, args, M, Post, h1, h2, h3, h4, h5, h6⟩ := h
  exact ⟨g, args, M, Post, h1, h2, h3, h4, h5, fun r M' hP => hK _ (h6 r M' hP)⟩

def CallB (P : Program) (s : StL) (d : Nat) (f : FuncId) (pvs : List PV) (K : StL → Prop) : Prop :=
  (match optL (lendPV 5 s) pvs with
    | none => False
    | some (b, tls) => ∃ r Mr, PCall P f tls r Mr ∧ (b = true → r.noRo = true ∧ Mr.all (fun p => p.2.noRo) = true) ∧ match retS s d r Mr with
      | some s' => K s'
      | none => False) ∨ ECallW P s d f pvs K
theorem CallB.mono {P : Program} {s : StL} {d : Nat} {f : FuncId} {pvs : List PV} {K K' : StL → Prop} (h : CallB P s d f pvs K) (hK : ∀ s, K s → K' s) : CallB P s d f pvs K' := by
  unfold CallB at h ⊢
  refine h.imp (fun h => ?_) (fun h => h.mono hK)
  split at h
  · exact h.elim
  · obtain ⟨r, Mr, h1, h3, h4⟩ := h
    refine ⟨r, Mr, h1, h3, ?_⟩
    split at h4
    · exact hK _ h4
    · exact h4.elim

/-- A call: by a contract; some memory of our own may be given up before. -/
def CallW (P : Program) (n : Nat) (dst : Option Nat) (s : StL) (f : FuncId) (pvs : List PV) (K : StL → Prop) : Prop :=
  match dst with
  | none => False
  | some d => d < n ∧ (CallB P s d f pvs K ∨ ∃ z, CallB P (frzZ z s) d f (pvs.map (frzQ z s)) K)

def StepW (P : Program) (n : Nat) (dst : Option Nat) (s : StL) (op : Op) (K : StL → Prop) : Prop :=
  match step P n dst s op with
  | some s' => K s'
  | none => False

/-- A step of a range over a map: it is over, or any entry that is left comes out. -/
def NextW (n : Nat) (dst : Option Nat) (s : StL) (p : PV) (K : StL → Prop) : Prop :=
  match dst, p with
  | some d, .ptr m 0 => match getM s.M m with
    | .iter mn nn seen => match getM s.M mn with
      | .tab k es => d < n ∧ es.length = nn ∧ ((∀ i, i < nn → i ∈ seen) → K ⟨(d, .tup [.t .fz (.v (.bool false))]) :: s.T, s.M⟩) ∧
          ∀ i p, es[i]? = some p → i ∉ seen → K ⟨(d, .tup [.t .fz (.v (.bool true)), .t .fz (.v p.1), .t k p.2]) :: s.T, (m, .iter mn nn (i :: seen)) :: s.M⟩
      | _ => False
    | _ => False
  | _, _ => False

def OpW (P : Program) (n : Nat) (dst : Option Nat) (s : StL) (op : Op) (K : StL → Prop) : Prop :=
  match op with
  | .next x false => NextW n dst s (ev s x) K
  | .call c => match callee s c with
    | some (f, pvs) => CallW P n dst s f pvs K
    | none => StepW P n dst s (.call c) K
  | op => StepW P n dst s op K

def skipS (s : StL) (dst : Option Nat) : StL :=
  match dst with
  | some d => ⟨(d, skipPV) :: s.T, s.M⟩
  | none => s

def RunW (P : Program) (n : Nat) (ops : Array Oper) : List Oper → StL → (StL → Prop) → Prop
  | [], s, K => K s
  | o :: rest, s, K => match wantPV ops s o with
    | some true => OpW P n o.dst s o.op fun s' => RunW P n ops rest s' K
    | some false => (∀ d, o.dst = some d → d < n) ∧ RunW P n ops rest (skipS s o.dst) K
    | none => False

section
variable {P : Program} {w0 : Base} {F0 : Nat → Prop} {n : Nat} {s : StL} {a : Act} {w : World} {φ : Nat → Value} {fp : Nat → Nat → Prop}

theorem gdPV_rep (h : Sim w0 F0 n s a w) {ops : Array Oper} {j : Nat} {b : Option Bool} (hg : gdPV ops s j = some b) : yielded ops a.tmps j = b := by
  obtain ⟨φ, fp, h⟩ := h
  unfold gdPV at hg
  split at hg
  · rename_i d hd
    unfold yielded
    rw [hd]
    have ht := h.tmp d
    generalize getT s.T d = pv at hg ht
    unfold gdV at hg
    split at hg
    · rename_i k b'
      cases hg
      have hv := ht.t_inv.v_inv
      rw [Array.getD_eq_getD_getElem?] at hv
      simp only [Option.bind_some]
      cases ht : a.tmps[d]? with
      | none => rw [ht] at hv; simp [Go.undef] at hv
      | some v => rw [ht] at hv; simp at hv; subst hv; rfl
    · rename_i k b'
      cases hg
      have hv := ht.t_inv.v_inv
      rw [Array.getD_eq_getD_getElem?] at hv
      simp only [Option.bind_some]
      cases ht : a.tmps[d]? with
      | none => rfl
      | some v => rw [ht] at hv; simp at hv; subst hv; rfl
    · cases hg
  · cases hg

theorem want_rep (h : Sim w0 F0 n s a w) {ops : Array Oper} {o : Oper} {b : Bool} (hg : wantPV ops s o = some b) : Region.wanted o (yielded ops a.tmps) = b := by
  unfold wantPV at hg
  unfold Region.wanted
  split at hg
  · rename_i hn
    cases hg
    rw [hn]
  · rename_i j b' hn
    obtain ⟨c, hc, rfl⟩ := Option.map_eq_some_iff.1 hg
    rw [hn]
    show (yielded ops a.tmps j == some b') = (c == some b')
    rw [gdPV_rep h hc]

theorem skip_sim (h : Sim w0 F0 n s a w) (dst : Option Nat) (hd : ∀ d, dst = some d → d < n) : Sim w0 F0 n (skipS s dst) (a.put dst Go.undef) w := by
  cases dst with
  | none => exact h
  | some d =>
    obtain ⟨φ, fp, h⟩ := h
    exact ⟨φ, fp, h.put (hd d rfl) (.t (.v _))⟩

theorem callee_rep (h : SimX w0 F0 n s a w φ fp) {c : Call} {f : FuncId} {pvs : List PV} (hc : callee s c = some (f, pvs)) : ∃ x vs, c.callee = .value x ∧ a.eval x = .func (.func f) #[] vs ∧
    (c.args.map a.eval ++ vs).size = pvs.length ∧ ∀ (j : Nat) (p : PV), pvs[j]? = some p → PVRep w φ (Stb w0 w fp) p ((c.args.map a.eval ++ vs).getD j Go.undef) := by
  have hargs : ∀ (caps : List PV) (vs : Array Value), vs.size = caps.length → (∀ (j : Nat) (x : PV), caps[j]? = some x → PVRep w φ (Stb w0 w fp) x (vs.getD j Go.undef)) →
      (c.args.map a.eval ++ vs).size = (c.args.toList.map (ev s) ++ caps).length ∧ ∀ (j : Nat) (p : PV), (c.args.toList.map (ev s) ++ caps)[j]? = some p → PVRep w φ (Stb w0 w fp) p ((c.args.map a.eval ++ vs).getD j Go.undef) := by
    intro caps vs hs hr
    refine ⟨by simp [hs], fun j p hj => ?_⟩
    by_cases hlt : j < c.args.size
    · rw [List.getElem?_append_left (by simpa using hlt), List.getElem?_map] at hj
      obtain ⟨y, hy, rfl⟩ := Option.map_eq_some_iff.1 hj
      rw [Array.getElem?_toList] at hy
      have : (c.args.map a.eval ++ vs).getD j Go.undef = a.eval y := by
        rw [Array.getD_eq_getD_getElem?, Array.getElem?_append_left (by simpa using hlt), Array.getElem?_map, hy]
        rfl
      rw [this]
      exact h.ev y
    · rw [List.getElem?_append_right (by simpa using Nat.le_of_not_lt hlt)] at hj
      have := hr _ _ hj
      rw [Array.getD_eq_getD_getElem?, Array.getElem?_append_right (by simpa using Nat.le_of_not_lt hlt), ← Array.getD_eq_getD_getElem?]
      simpa using this
  unfold callee at hc
  split at hc
  · rename_i x hx
    have hr := h.ev x
    split at hc
    · rename_i f' caps he
      cases hc
      rw [he] at hr
      generalize hu : a.eval x = u at hr
      cases hr with
      | clo vs hs hrep =>
        obtain ⟨h1, h2⟩ := hargs caps vs hs hrep
        exact ⟨x, vs, hx, hu, h1, h2⟩
    · rename_i k f' caps he
      cases hc
      rw [he] at hr
      generalize hu : a.eval x = u at hr
      cases hr.t_inv with
      | clo vs hs hrep =>
        obtain ⟨h1, h2⟩ := hargs (caps.map (PV.t k)) vs (by simpa using hs) fun j x hx => by
          rw [List.getElem?_map] at hx
          obtain ⟨y, hy, rfl⟩ := Option.map_eq_some_iff.1 hx
          exact .t (hrep _ _ hy)
        exact ⟨x, vs, hx, hu, h1, h2⟩
    · cases hc
  · cases hc

theorem run_callFunc {f : FuncId} (hc : Callable P f) (args : Array Value) (w : World) : (callFunc f args).run P w = .ok (.enter f args) w := by
  obtain ⟨fn, c, hf, hb, hn⟩ := hc
  have hn' : ¬ fn.name = "runtime.NumGoroutine" := by simpa using hn
  simp [callFunc, hf, hb, hn']

theorem callB_sim (h : SimX w0 F0 n s a w φ fp) {f d : Nat} {pvs : List PV} {vals : Array Value} {K : StL → Prop} (hdn : d < n) (hv : vals.size = pvs.length)
    (hp : ∀ (j : Nat) (p : PV), pvs[j]? = some p → PVRep w φ (Stb w0 w fp) p (vals.getD j Go.undef)) (hq : CallB P s d f pvs K) :
    Callable P f ∧ Calls P f vals w (fun e w' => ∃ v s', e = .returned v ∧ K s' ∧ Sim w0 F0 n s' (a.put (some d) v) w') := by
  unfold CallB at hq
  rcases hq with hq | hq
  · split at hq
    · exact hq.elim
    · rename_i b tls hl
      obtain ⟨r, Mr, hpc, hno, hq⟩ := hq
      split at hq
      · rename_i s' hret
        refine ⟨hpc.1, (call_sim h hdn hv hp hl hpc hno hret).mono ?_⟩
        rintro e w' ⟨v, rfl, hs⟩
        exact ⟨v, s', rfl, hq, hs⟩
      · exact hq.elim
  · obtain ⟨g, args, M, Post, hpc, hok, hargs, hM, hM', hq⟩ := hq
    refine ⟨hpc.1, (ecall_sim h g hdn hv hp hpc hok hargs hM hM').mono ?_⟩
    rintro e w' ⟨v, r, M', hP, rfl, hs⟩
    exact ⟨v, _, rfl, hq r M' hP, hs⟩

theorem next_wp (h : Sim w0 F0 n s a w) {o : Oper} {x : Operand} {K : StL → Prop} {next : Act → World → Prop} {Q : Exit → Act → World → Prop} (ho : o.op = .next x false) (hq : NextW n o.dst s (ev s x) K)
    (hn : ∀ s' a' w', K s' → Sim w0 F0 n s' a' w' → next a' w') : o.wp P a w next Q := by
  obtain ⟨φ, fp, hx⟩ := h
  unfold NextW at hq
  split at hq
  · rename_i d m hd hev
    split at hq
    · rename_i mn nn seen hM
      split at hq
      · rename_i k es hMn
        obtain ⟨hdn, hl, hover, hstep⟩ := hq
        have hp := hx.ev x
        rw [hev] at hp
        generalize hu : a.eval x = u at hp
        cases hp with
        | @ptr _ _ g hφ =>
        have hres := hx.res m
        rw [hM] at hres
        obtain ⟨g', r, sa, hv, hF, hφm, hh, hs, hlt⟩ := hres
        rw [hφ] at hv
        cases hv
        have hres2 := hx.res mn
        rw [hMn] at hres2
        obtain ⟨r2, ents, hv2, _, hh2, he⟩ := hres2
        rw [hφm] at hv2
        cases hv2
        have hmem : ∀ e ∈ ents.toList, ∃ i p, ents.toList[i]? = some e ∧ es[i]? = some p ∧ e.key = p.1 ∧ e.born = i ∧ TRep w (Stb w0 w fp k) p.2 e.val := by
          intro e hem
          obtain ⟨i, hi, rfl⟩ := List.getElem_of_mem hem
          obtain ⟨p, h1, h2, h3, h4⟩ := he.get i ents.toList[i] (by simp)
          exact ⟨i, p, by simp, h1, h2, by omega, h4⟩
        have hold : ∀ e ∈ ents.toList, e.born < nn := by
          intro e hem
          obtain ⟨i, p, _, h1, _, h3, _⟩ := hmem e hem
          have := (List.getElem?_eq_some_iff.1 h1).1
          omega
        have hsc : ∀ i, sa.contains i = true ↔ i ∈ seen := by
          intro i
          rw [← hs, List.mem_reverse, Array.mem_toList_iff]
          simp
        unfold Oper.wp
        rcases run_next_at (P := P) w o.type g r nn nn sa ents es.length hh hh2 hold (Nat.le_refl _) with ⟨h0, hrun⟩ | ⟨e, hel, w1, hw1, hrun⟩
        · have hrun' : (execOp a.eval o).run P w = .ok (.value (.tuple #[.bool false])) w := by
            simp only [execOp, ho, hu]
            exact run_value hrun
          rw [hrun']
          show next (a.put o.dst (.tuple #[.bool false])) w
          rw [hd]
          refine hn _ _ _ (hover fun i hi => ?_) ⟨φ, fp, hx.put hdn (.tup _ rfl fun j y hy => ?_)⟩
          · have hil : i < ents.toList.length := by rw [he.length]; omega
            obtain ⟨p, h1, h2, h3, h4⟩ := he.get i ents.toList[i] (by simp)
            rw [← hsc]
            cases hc : sa.contains i with
            | true => rfl
            | false =>
              exfalso
              have : ents.toList[i] ∈ (leftOf ents sa).toList := by
                unfold leftOf
                rw [Array.toList_filter, List.mem_filter]
                refine ⟨List.getElem_mem hil, ?_⟩
                have hb : (ents.toList[i]).born = i := by omega
                rw [hb, hc]
                rfl
              have h5 : (leftOf ents sa).toList.length = 0 := by simpa using h0
              rw [List.eq_nil_of_length_eq_zero h5] at this
              cases this
          · match j, hy with
            | 0, hy => simp at hy; subst hy; exact .t (.v _)
            | j + 1, hy => simp at hy
        · have hrun' : (execOp a.eval o).run P w = .ok (.value (.tuple #[.bool true, e.key, e.val])) (ChangeMaps.setBlock w1 g (.mapIter (some r) nn (sa.push e.born) es.length)) := by
            simp only [execOp, ho, hu]
            exact run_value hrun
          rw [hrun']
          show next (a.put o.dst (.tuple #[.bool true, e.key, e.val])) _
          rw [hd]
          unfold leftOf at hel
          rw [Array.toList_filter, List.mem_filter] at hel
          obtain ⟨i, p, _, h1, h2, h3, h4⟩ := hmem e hel.1
          subst h3
          have hns : e.born ∉ seen := by
            rw [← hsc]
            simpa using hel.2
          have hx1 : SimX w0 F0 n s a w1 φ fp := by
            rcases hw1 with rfl | rfl
            · exact hx
            · exact hx.same rfl rfl rfl rfl
          have hheap : w1.heap = w.heap := by rcases hw1 with rfl | rfl <;> rfl
          have hglt : g < w1.heap.size := by rw [hheap]; exact (Array.getElem?_eq_some_iff.1 hh).1
          have hx2 : SimX w0 F0 n ⟨s.T, (m, .iter mn nn (e.born :: seen)) :: s.M⟩ a (ChangeMaps.setBlock w1 g (.mapIter (some r) nn (sa.push e.born) es.length)) φ fp := by
            refine hx1.write rfl rfl rfl (by simp [ChangeMaps.setBlock]) (fun q hq => ?_) (fun hS hSc => ?_)
            · have : q ≠ g := fun e => hq ((hF q).2 e)
              simp [ChangeMaps.setBlock, Ne.symm this]
            · refine ⟨g, r, sa.push e.born, hφ, hF, hφm, ?_, by simp [hs], fun i hi => ?_⟩
              · simp [ChangeMaps.setBlock, hglt, hl]
              · rcases List.mem_cons.1 hi with rfl | hi
                · exact hold e hel.1
                · exact hlt i hi
          refine hn _ _ _ (hstep e.born p h1 hns) ⟨φ, fp, hx2.put hdn (.tup _ rfl fun j y hy => ?_)⟩
          match j, hy with
          | 0, hy => simp at hy; subst hy; exact .t (.v _)
          | 1, hy =>
            simp at hy
            subst hy
            rw [← h2]
            exact .t (.v _)
          | 2, hy =>
            simp at hy
            subst hy
            have hgm : ∀ g', Stb w0 w fp k g' → (ChangeMaps.setBlock w1 g (.mapIter (some r) nn (sa.push e.born) es.length)).heap[g']? = w.heap[g']? := by
              intro g' hg'
              have : g' ≠ g := fun e => hg'.2.1 m ((hF g').2 e)
              simp [ChangeMaps.setBlock, Ne.symm this, hheap]
            refine .t (h4.mono hgm fun g' hg' => ⟨?_, hg'.2⟩)
            have := hg'.1
            simp [ChangeMaps.setBlock, hheap]
            exact this
          | j + 3, hy => simp at hy
      · exact hq.elim
    · exact hq.elim
  · exact hq.elim

/-- One operation, in the machine. -/
theorem opW_wp (h : Sim w0 F0 n s a w) {o : Oper} {K : StL → Prop} {next : Act → World → Prop} {Q : Exit → Act → World → Prop} (hq : OpW P n o.dst s o.op K) (hn : ∀ s' a' w', K s' → Sim w0 F0 n s' a' w' → next a' w') : o.wp P a w next Q := by
  have hstep : ∀ op, o.op = op → StepW P n o.dst s op K → o.wp P a w next Q := by
    intro op ho hs
    unfold StepW at hs
    split at hs
    · rename_i s' he
      rw [← ho] at he
      obtain ⟨nx, v, w', hr, hnx, hsim⟩ := step_run h he
      unfold Oper.wp
      rw [hr]
      rcases hnx with rfl | ⟨rfl, rfl⟩
      · exact hn _ _ _ hs hsim
      · exact hn _ _ _ hs hsim
    · exact hs.elim
  unfold OpW at hq
  split at hq
  · rename_i x ho
    exact next_wp h ho hq hn
  · rename_i c ho
    split at hq
    · rename_i f pvs hcal
      unfold CallW at hq
      split at hq
      · exact hq.elim
      · rename_i d hd
        obtain ⟨φ, fp, hx⟩ := h
        obtain ⟨x, vs, hcx, hev, hsz, hrep⟩ := callee_rep hx hcal
        have key : Callable P f ∧ Calls P f (c.args.map a.eval ++ vs) w (fun e w' => ∃ v s', e = .returned v ∧ K s' ∧ Sim w0 F0 n s' (a.put (some d) v) w') := by
          rcases hq.2 with hq' | ⟨z, hq'⟩
          · exact callB_sim hx hq.1 hsz hrep hq'
          · refine callB_sim (frzZ_sim hx z) hq.1 (by rw [List.length_map]; exact hsz) (fun j p hp => ?_) hq'
            rw [List.getElem?_map] at hp
            obtain ⟨y, hy, rfl⟩ := Option.map_eq_some_iff.1 hp
            exact frzQ_rep hx z (hrep j y hy)
        have hrun : (execOp a.eval o).run P w = .ok (.enter f (c.args.map a.eval ++ vs)) w := by
          simp only [execOp, ho, resolve, hcx, Deferred.ofValue, hev, Sem.run_bind, Sem.run_pure, Result.andThen_ok, invoke]
          rw [run_callFunc key.1]
          simp
        unfold Oper.wp
        rw [hrun, Oper.upon_enter]
        refine key.2.mono ?_
        rintro e w' ⟨v, s', rfl, hK, hs⟩
        rw [hd]
        exact hn _ _ _ hK hs
    · exact hstep _ ho hq
  · exact hstep _ rfl hq

theorem runW_wp {ops : Array Oper} {Q : Exit → Act → World → Prop} : ∀ (l : List Oper) {s : StL} {a : Act} {w : World} {K : StL → Prop}, Sim w0 F0 n s a w → RunW P n ops l s K → (∀ s' a' w', K s' → Sim w0 F0 n s' a' w' → Q .normal a' w') → wpList P ops Q l a w
  | [], s, a, w, K, h, hr, hk => hk _ _ _ hr h
  | o :: rest, s, a, w, K, h, hr, hk => by
    simp only [RunW] at hr
    simp only [wpList]
    split at hr
    · rename_i hw
      rw [want_rep h hw, if_pos rfl]
      exact .inl (opW_wp h hr fun s' a' w' hs' hsim => runW_wp rest hsim hs' hk)
    · rename_i hw
      rw [want_rep h hw, if_neg (by simp)]
      exact runW_wp rest (skip_sim h o.dst hr.1) hr.2 hk
    · exact hr.elim

/-- Code, in a state. -/
def CodeW (P : Program) (n : Nat) (c : Code) (s : StL) (Q : Exit → StL → Prop) : Prop :=
  ∀ (w0 : Base) (F0 : Nat → Prop) (a : Act) (w : World), Sim w0 F0 n s a w → c.wp P (fun e a' w' => ∃ s', Q e s' ∧ Sim w0 F0 n s' a' w') a w

theorem CodeW.mono {c : Code} {Q Q' : Exit → StL → Prop} (h : CodeW P n c s Q) (hq : ∀ e s, Q e s → Q' e s) : CodeW P n c s Q' :=
  fun w0 F0 a w hs => wp_mono (h w0 F0 a w hs) fun e a w ⟨s', h1, h2⟩ => ⟨s', hq _ _ h1, h2⟩

theorem codeW_region {id : Nat} {ops : Array Oper} {Q : Exit → StL → Prop} (h : ∀ K : StL → Prop, (∀ s', Q .normal s' → K s') → RunW P n ops ops.toList s K) : CodeW P n (.region id ops false) s Q := by
  intro w0 F0 a w hs
  refine wp_region ?_
  have e1 : wpOps P ops (fun e a' w' => ∃ s', Q e s' ∧ Sim w0 F0 n s' a' w') (List.range ops.size) = wpList P ops (fun e a' w' => ∃ s', Q e s' ∧ Sim w0 F0 n s' a' w') ops.toList := by
    have := wpOps_eq_wpList (P := P) (ops := ops) (Q := fun e a' w' => ∃ s', Q e s' ∧ Sim w0 F0 n s' a' w') ops.toList 0 (fun j => by simp)
    simpa [List.range_eq_range'] using this
  rw [e1]
  exact runW_wp ops.toList hs (h _ fun s' hs' => hs') fun s' a' w' h1 h2 => ⟨s', h1, h2⟩

def Exit.thenW (next : StL → Prop) (Q : Exit → StL → Prop) : Exit → StL → Prop
  | .normal, s => next s
  | e, s => Q e s

theorem codeW_seq {x y : Code} {Q : Exit → StL → Prop} (h : ∀ K : StL → Prop, (∀ s', CodeW P n y s' Q → K s') → CodeW P n x s (Exit.thenW K Q)) : CodeW P n (x.seq y) s Q := by
  intro w0 F0 a w hs
  have h1 := h (fun s' => CodeW P n y s' Q) (fun _ h => h) w0 F0 a w hs
  refine wp_seq (wp_mono h1 ?_)
  intro e a' w' ⟨s', hq, hs'⟩
  cases e with
  | normal => exact hq w0 F0 a' w' hs'
  | exit id => exact ⟨s', hq, hs'⟩
  | goto l => exact ⟨s', hq, hs'⟩
  | ret => exact ⟨s', hq, hs'⟩
  | panic ch => exact ⟨s', hq, hs'⟩
  | outgrown => exact ⟨s', hq, hs'⟩

theorem codeW_skip {Q : Exit → StL → Prop} (h : Q .normal s) : CodeW P n .skip s Q := fun w0 F0 a w hs => wp_skip ⟨s, h, hs⟩
theorem codeW_exit {id : Nat} {Q : Exit → StL → Prop} (h : Q (.exit id) s) : CodeW P n (.exit id) s Q := fun w0 F0 a w hs => wp_exit ⟨s, h, hs⟩
theorem codeW_ret {Q : Exit → StL → Prop} (h : Q .ret s) : CodeW P n .ret s Q := fun w0 F0 a w hs => wp_ret ⟨s, h, hs⟩

theorem codeW_cond {c : Operand} {x y : Code} {Q : Exit → StL → Prop} {b : Bool} {k : Kind} (hc : ev s c = .t k (.v (.bool b))) (ht : b = true → CodeW P n x s Q) (hf : b = false → CodeW P n y s Q) : CodeW P n (.cond c x y) s Q := by
  intro w0 F0 a w hs
  have hv : a.eval c = .bool b := by
    obtain ⟨φ, fp, h⟩ := hs
    have := h.ev c
    rw [hc] at this
    exact this.t_inv.v_inv
  exact wp_cond_split hv (fun e => ht e w0 F0 a w hs) (fun e => hf e w0 F0 a w hs)

def Exit.inBlockW (id : Nat) (Q : Exit → StL → Prop) : Exit → StL → Prop
  | .exit id', s => if id' = id then Q .normal s else Q (.exit id') s
  | e, s => Q e s

theorem codeW_block {id : Nat} {c : Code} {Q : Exit → StL → Prop} (h : CodeW P n c s (Exit.inBlockW id Q)) : CodeW P n (.block id c) s Q := by
  intro w0 F0 a w hs
  refine wp_block (wp_mono (h w0 F0 a w hs) ?_)
  intro e a' w' ⟨s', hq, hs'⟩
  cases e with
  | exit id' =>
    simp only [Exit.inBlockW] at hq
    simp only [Exit.inBlock]
    split
    · rename_i e
      rw [if_pos e] at hq
      exact ⟨s', hq, hs'⟩
    · rename_i e
      rw [if_neg e] at hq
      exact ⟨s', hq, hs'⟩
  | normal => exact ⟨s', hq, hs'⟩
  | goto l => exact ⟨s', hq, hs'⟩
  | ret => exact ⟨s', hq, hs'⟩
  | panic ch => exact ⟨s', hq, hs'⟩
  | outgrown => exact ⟨s', hq, hs'⟩

/-- s' tells no more than s. -/
def StL.le (s' s : StL) : Prop := (∀ t, getT s'.T t = getT s.T t ∨ getT s'.T t = .undef) ∧ ∀ m, getM s'.M m = getM s.M m ∨ getM s'.M m = .dead

theorem Sim.weak {s' : StL} (h : Sim w0 F0 n s a w) (hl : s'.le s) : Sim w0 F0 n s' a w := by
  obtain ⟨φ, fp, h⟩ := h
  obtain ⟨fp', h'⟩ := (h.weakT hl.1).weakM (M := s'.M) hl.2
  exact ⟨φ, fp', h'⟩

/-- A loop: states told by an index, a measure on it. -/
theorem codeW_loop {ι : Type} {body : Code} {Q : Exit → StL → Prop} (st : ι → StL) (J : ι → Prop) (μ : ι → Nat) (x0 : ι) (h0 : J x0) (hs0 : (st x0).le s)
    (round : ∀ x, J x → CodeW P n body (st x) (Exit.thenW (fun s' => ∃ y, J y ∧ (st y).le s' ∧ μ y < μ x) Q)) : CodeW P n (.loop body) s Q := by
  intro w0 F0 a w hs
  have key : ∀ m x a w, J x → μ x = m → Sim w0 F0 n (st x) a w → ∀ (b : Frame) (k : List Item) (cs : List Frame),
      ∃ e a' w', (∃ s', Q e s' ∧ Sim w0 F0 n s' a' w') ∧ Arrives P (lone (b.at a (.code body :: .inLoop body :: k)) cs w) b k cs e a' w' := by
    intro m
    induction m using Nat.strongRecOn with
    | _ m ih =>
      intro x a w hx hm hs b k cs
      obtain ⟨e, a₁, w₁, ⟨s₁, hq, hs₁⟩, harr⟩ := round x hx w0 F0 a w hs b (.inLoop body :: k) cs
      cases e with
      | normal =>
        obtain ⟨y, hy, hle, hlt⟩ := hq
        obtain ⟨e₂, a₂, w₂, hq₂, harr₂⟩ := ih (μ y) (hm ▸ hlt) y a₁ w₁ hy rfl (hs₁.weak hle) b k cs
        exact ⟨e₂, a₂, w₂, hq₂, .of_steps (Steps.trans harr (.one step_inLoop)) harr₂⟩
      | exit id => exact ⟨_, a₁, w₁, ⟨s₁, hq, hs₁⟩, .pass (x := .inLoop body) rfl (fun _ _ => .inl (by simp)) harr⟩
      | goto l => exact ⟨_, a₁, w₁, ⟨s₁, hq, hs₁⟩, .pass (x := .inLoop body) rfl (fun _ _ => .inl (by simp)) harr⟩
      | ret => exact ⟨_, a₁, w₁, ⟨s₁, hq, hs₁⟩, .pass (x := .inLoop body) rfl (fun _ _ => .inl (by simp)) harr⟩
      | panic ch => exact ⟨_, a₁, w₁, ⟨s₁, hq, hs₁⟩, .pass (x := .inLoop body) rfl (fun _ _ => .inl (by simp)) harr⟩
      | outgrown => exact ⟨_, a₁, w₁, ⟨s₁, hq, hs₁⟩, .pass (x := .inLoop body) rfl (fun _ _ => .inl (by simp)) harr⟩
  intro b k cs
  obtain ⟨e, a', w', hq, harr⟩ := key _ x0 a w h0 rfl (hs.weak hs0) b k cs
  exact ⟨e, a', w', hq, .of_steps (.one step_loop) harr⟩

end
end Go.PS
/- PS14: a function's contract out of its body. -/
namespace Go.PS
open Go Go.RowKit

def resOne (P : Program) (s : StL) : ResultVar → Option PV
  | .tmp t => some (getT s.T t)
  | .cell a t => match szT P t, aggT P t with
    | some sz, some ag => loadPV s (getT s.T a) sz ag
    | _, _ => none

def resL (P : Program) (s : StL) : List ResultVar → Option (List PV)
  | [] => some []
  | r :: l => match resOne P s r, resL P s l with
    | some p, some ps => some (p :: ps)
    | _, _ => none

def resPV (P : Program) (s : StL) (l : List ResultVar) : Option PV :=
  match resL P s l with
  | some [p] => some p
  | some ps => some (.tup ps)
  | none => none

def initT : Nat → List TL → List (Nat × PV)
  | _, [] => []
  | i, x :: l => (i, .t .ro x) :: initT (i + 1) l

section
variable {P : Program} {w0 : Base} {F0 : Nat → Prop} {n : Nat} {s : StL} {a : Act} {w : World} {φ : Nat → Value} {fp : Nat → Nat → Prop}

theorem mxV_ptr {v u : Value} {k i j : Nat} (hk : k = 2 ∨ k = 3) (h : mxV v k i j = some u) : ∃ a, u = .pointer (some a) := by
  have hp : ∀ o j, ptrAt o j = some u → ∃ a, u = .pointer (some a) := fun o j h => by
    unfold ptrAt at h
    split at h
    · cases h
      exact ⟨_, rfl⟩
    · cases h
  rcases hk with rfl | rfl
  · unfold mxV at h
    split at h <;> first | exact hp _ _ h | (simp at *; done) | cases h
  · unfold mxV at h
    split at h <;> first | exact hp _ _ h | (simp at *; done) | cases h
theorem resOne_run (h : SimX w0 F0 n s a w φ fp) {r : ResultVar} {p : PV} (hq : resOne P s r = some p) :
    ∃ v, ((match r with | .tmp t => pure (a.tmps.getD t Go.undef) | .cell a' t => do loadVar t (← asAddr (a.tmps.getD a' Go.undef))) : Sem Value).run P w = .ok v w ∧ PVRep w φ (Stb w0 w fp) p v := by
  cases r with
  | tmp t =>
    simp only [resOne, Option.some.injEq] at hq
    subst hq
    exact ⟨_, rfl, h.tmp t⟩
  | cell a' t =>
    simp only [resOne] at hq
    split at hq
    · rename_i sz ag hs ha
      have hp := h.tmp a'
      obtain ⟨v, hv, hr⟩ := loadPV_run h hs ha hp hq
      refine ⟨v, ?_, hr⟩
      simp only [Instr.loadAt, Sem.run_bind] at hv ⊢
      -- an address it is
      generalize a.tmps.getD a' Go.undef = u at hv hp
      unfold loadPV at hq
      split at hq
      · rename_i heq
        rw [heq] at hp
        cases hp.t_inv
        exact hv
      · rename_i heq
        rw [heq] at hp
        cases hp
        exact hv
      · rename_i heq
        rw [heq] at hp
        cases hp
        exact hv
      · rename_i heq
        rw [heq] at hp
        cases hp with
        | mx hm =>
        obtain ⟨b, rfl⟩ := mxV_ptr (.inl rfl) hm
        exact hv
      · rename_i heq
        rw [heq] at hp
        cases hp with
        | mx hm =>
        obtain ⟨b, rfl⟩ := mxV_ptr (.inr rfl) hm
        exact hv
      · cases hq
    · cases hq

theorem resL_run (h : SimX w0 F0 n s a w φ fp) : ∀ (l : List ResultVar) (ps : List PV), resL P s l = some ps →
    ∃ vs : List Value, (l.mapM (fun r => (match r with | .tmp t => pure (a.tmps.getD t Go.undef) | .cell a' t => do loadVar t (← asAddr (a.tmps.getD a' Go.undef)) : Sem Value))).run P w = .ok vs w ∧ vs.length = ps.length ∧ ∀ (j : Nat) (p : PV), ps[j]? = some p → PVRep w φ (Stb w0 w fp) p (vs.getD j Go.undef)
  | [], ps, hq => by
    simp only [resL, Option.some.injEq] at hq
    subst hq
    exact ⟨[], rfl, rfl, fun j p hp => by simp at hp⟩
  | r :: l, ps, hq => by
    simp only [resL] at hq
    split at hq
    · rename_i p ps' h1 h2
      cases hq
      obtain ⟨v, hv, hr⟩ := resOne_run h h1
      obtain ⟨vs, hvs, hl, hrs⟩ := resL_run h l ps' h2
      refine ⟨v :: vs, ?_, by simp [hl], fun j p hp => ?_⟩
      · rw [List.mapM_cons]
        rw [Sem.run_bind, hv, Result.andThen_ok, Sem.run_bind, hvs]
        rfl
      · cases j with
        | zero => simp at hp; subst hp; simpa using hr
        | succ j => simpa using hrs j p (by simpa using hp)
    · cases hq

theorem resPV_run (h : SimX w0 F0 n s a w φ fp) {fn : Func} {p : PV} (hq : resPV P s fn.results.toList = some p) : ∃ v, (results fn a.tmps).run P w = .ok v w ∧ PVRep w φ (Stb w0 w fp) p v := by
  unfold resPV at hq
  have hres : ∀ ps, resL P s fn.results.toList = some ps → ∃ vs : List Value, (results fn a.tmps).run P w = .ok (if h : vs.toArray.size = 1 then vs.toArray[0] else .tuple vs.toArray) w ∧ vs.length = ps.length ∧ ∀ (j : Nat) (p : PV), ps[j]? = some p → PVRep w φ (Stb w0 w fp) p (vs.getD j Go.undef) := by
    intro ps hps
    obtain ⟨vs, hv, hl, hr⟩ := resL_run h fn.results.toList ps hps
    refine ⟨vs, ?_, hl, hr⟩
    unfold results
    rw [Array.mapM_eq_mapM_toList, Sem.run_bind, Sem.run_map]
    erw [hv]
    rfl
  split at hq
  · rename_i p' hps
    cases hq
    obtain ⟨vs, hv, hl, hr⟩ := hres _ hps
    obtain ⟨v, rfl⟩ : ∃ v, vs = [v] := by
      match vs, hl with
      | [v], _ => exact ⟨v, rfl⟩
    exact ⟨v, by simpa using hv, by simpa using hr 0 p (by simp)⟩
  · rename_i ps hne hps
    cases hq
    obtain ⟨vs, hv, hl, hr⟩ := hres _ hps
    have h1 : ¬ vs.toArray.size = 1 := by
      intro h1
      have : ps.length = 1 := by simpa [hl] using h1
      obtain ⟨q, rfl⟩ := List.length_eq_one_iff.1 this
      exact hne q rfl
    rw [dif_neg h1] at hv
    exact ⟨_, hv, .tup _ (by simpa using hl) fun j x hx => by simpa [Array.getD_eq_getD_getElem?, List.getD_eq_getElem?_getD] using hr j x hx⟩
  · cases hq

theorem initT_get : ∀ (args : List TL) (i t : Nat), getT (initT i args) t = if i ≤ t then match args[t - i]? with | some x => PV.t .ro x | none => .undef else .undef
  | [], i, t => by simp [initT, getT]
  | x :: l, i, t => by
    simp only [initT, getT]
    by_cases e : i = t
    · subst e; simp
    · rw [if_neg e, initT_get l (i + 1) t]
      by_cases h1 : i + 1 ≤ t
      · rw [if_pos h1, if_pos (by omega)]
        have : t - i = (t - (i + 1)) + 1 := by omega
        rw [this, List.getElem?_cons_succ]
      · rw [if_neg h1, if_neg (by omega)]

/-- What a body leaves, for whoever called. -/
def RetP (P : Program) (fn : Func) (s : StL) (r : PV) (Mr : List (Nat × Res)) : Prop :=
  ∃ pv, resPV P s fn.results.toList = some pv ∧
    ((∃ k x, frzT 6 s pv = some (k, x) ∧ r = .t k x ∧ Mr = []) ∨
     (∃ m, pv.nm true m = true ∧ (getM s.M m).nm true m = true ∧ r = pv.ren 0 ∧ Mr = [(0, (getM s.M m).ren 0)]))

theorem pcall_of {f : FuncId} {fn : Func} {c : Code} {args : List TL} {r : PV} {Mr : List (Nat × Res)} (hf : P.funcs[f]? = some fn) (hb : fn.body = some c) (hn : (fn.name == "runtime.NumGoroutine") = false)
    (h : CodeW P (args.length + (fn.ntmps - args.length)) c ⟨initT 0 args, []⟩ (fun e s => (e = .normal ∨ e = .ret) ∧ RetP P fn s r Mr)) : PCall P f args r Mr := by
  refine ⟨⟨fn, c, hf, hb, hn⟩, fun w S vals hG hS hsz hrep => ?_⟩
  have hsim : Sim (Base.of w S) (fun _ => False) (args.length + (fn.ntmps - args.length)) ⟨initT 0 args, []⟩ { tmps := vals ++ Array.replicate (fn.ntmps - vals.size) Go.undef, defers := [] } w := by
    refine ⟨fun _ => Go.undef, fun _ _ => False, ⟨fun m g hg => hg, fun _ _ _ h1 _ => h1.elim, fun _ _ h1 => h1.elim, fun t => ?_, Evo.refl _ _, by simp [hsz], ⟨rfl, fun _ h => h, hG⟩, fun _ _ => rfl⟩⟩
    show PVRep _ _ _ (getT (initT 0 args) t) _
    rw [initT_get, if_pos (Nat.zero_le _), Nat.sub_zero]
    split
    · rename_i x hx
      have hlt : t < vals.size := by rw [hsz]; exact (List.getElem?_eq_some_iff.1 hx).1
      have e1 : (vals ++ Array.replicate (fn.ntmps - vals.size) Go.undef).getD t Go.undef = vals.getD t Go.undef := by
        simp [Array.getD_eq_getD_getElem?, Array.getElem?_append_left hlt]
      show PVRep _ _ _ _ ((vals ++ Array.replicate (fn.ntmps - vals.size) Go.undef).getD t Go.undef)
      rw [e1]
      exact .t ((hrep t x hx).mono (fun _ _ => rfl) fun g hg => ⟨hS g hg, fun _ h => h, .inr ⟨rfl, hg⟩⟩)
    · exact .undef _
  refine calls_of_wp hf hb (wp_mono (h (Base.of w S) (fun _ => False) _ w hsim) ?_)
  intro e a' w' ⟨s', ⟨he, pv, hpv, hret⟩, φ, fp, hs'⟩
  obtain ⟨v, hv, hpr⟩ := resPV_run hs' hpv
  have fin : ∃ φ' fp', Evo (fun _ => False) w w' ∧ (∀ m, ResRep w' φ' (Stb (Base.of w S) w' fp') (getM Mr m) (φ' m) (fp' m)) ∧ (∀ m m' g, fp' m g → fp' m' g → m = m') ∧
      (∀ m g, fp' m g → w.heap.size ≤ g ∧ g < w'.heap.size) ∧ PVRep w' φ' (Stb (Base.of w S) w' fp') r v := by
    rcases hret with ⟨k, x, hfr, rfl, rfl⟩ | ⟨m, hnm, hnr, rfl, rfl⟩
    · exact ⟨fun _ => Go.undef, fun _ _ => False, hs'.evo, fun m g hg => hg, fun _ _ _ h1 _ => h1.elim, fun _ _ h1 => h1.elim, .t (frzT_rep hs' (fun g h => h) 6 pv k x v hfr hpr)⟩
    · let φ' : Nat → Value := fun q => if q = 0 then φ m else Go.undef
      let fp' : Nat → Nat → Prop := fun q g => q = 0 ∧ fp m g
      have hSS : ∀ k g, Stb (Base.of w S) w' fp k g → Stb (Base.of w S) w' fp' k g := fun k g hg => ⟨hg.1, fun q hq => hg.2.1 m hq.2, hg.2.2⟩
      refine ⟨φ', fp', hs'.evo, fun q => ?_, fun q q' g h1 h2 => by rw [h1.1, h2.1], fun q g hq => ?_, ?_⟩
      · simp only [getM]
        by_cases e : 0 = q
        · subst e
          rw [if_pos rfl]
          have e1 : fp' 0 = fp m := by funext g; simp [fp']
          have e2 : φ' 0 = φ m := by simp [φ']
          rw [e1, e2]
          exact (hs'.res m).take (lent := false) (z := m) (fun g hg => hSS _ g hg) (fun _ g hg => hSS _ g hg) (by simp [φ']) (by simp) hnr
        · rw [if_neg e]
          intro g hg
          exact e hg.1.symm
      · have := hs'.old m g hq.2
        exact ⟨this.2.resolve_left (fun h => h), this.1⟩
      · exact hpr.take (lent := false) (own := true) (z := m) (fun g hg => hSS _ g hg) (fun _ g hg => hSS _ g hg) (fun _ => by simp [φ']) (by simp) hnm
  obtain ⟨φ', fp', h1, h2, h3, h4, h5⟩ := fin
  rcases he with rfl | rfl
  · exact ⟨hs'.dfr.1, v, hv, v, φ', fp', rfl, h1, h2, h3, h4, h5⟩
  · exact ⟨hs'.dfr.1, v, hv, v, φ', fp', rfl, h1, h2, h3, h4, h5⟩

end
end Go.PS
/- PS15: bounds that every argument keeps; small words for trees. -/
namespace Go.PS
open Go Go.RowKit

/-- A list among the arguments has a length that memory bears. -/
theorem pcall_sl {P : Program} {f : FuncId} {args : List TL} {r : PV} {Mr : List (Nat × Res)} (i : Nat) {t : SF} {sz : Nat} {xs : List (List TL)} (ha : args[i]? = some (.sl t sz xs)) (hc : Callable P f)
    (h : xs.length ≤ 140737488355328 → PCall P f args r Mr) : PCall P f args r Mr := by
  refine ⟨hc, fun w S vals hG hS hs hr => ?_⟩
  have := hr i _ ha
  generalize vals.getD i Go.undef = u at this
  have hb : xs.length ≤ 140737488355328 := by
    cases this with
    | sl g hcap ht hnn hnil hbd => exact hbd
  exact (h hb).2 w S vals hG hS hs hr

theorem callable_of {P : Program} {f : FuncId} {fn : Func} {c : Code} (hf : P.funcs[f]? = some fn) (hb : fn.body = some c) (hn : (fn.name == "runtime.NumGoroutine") = false) : Callable P f := ⟨fn, c, hf, hb, hn⟩

abbrev eI (n : Int) : TL := .v (.int .i64 n)
abbrev eB (b : Bool) : TL := .v (.bool b)
abbrev pI (n : Int) : PV := .t .fz (.v (.int .i64 n))
abbrev pB (b : Bool) : PV := .t .fz (.v (.bool b))

theorem wrap_id {n : Int} (h0 : -9223372036854775808 ≤ n) (h1 : n ≤ 9223372036854775807) : IntKind.i64.wrap n = n := by
  rw [IntKind.wrap_i64]; omega

end Go.PS
/- PS16: the rules by which a body is walked. -/
namespace Go.PS
open Go Go.RowKit

section
variable {P : Program} {n : Nat} {s : StL}

theorem ev_tmp (t : Nat) : ev s (.tmp t) = getT s.T t := rfl
theorem ev_int (k : IntKind) (i : Int) : ev s (.const (.int k i)) = .t .fz (.v (.int k i)) := rfl
theorem ev_bool (b : Bool) : ev s (.const (.bool b)) = .t .fz (.v (.bool b)) := rfl
theorem ev_str (b : ByteArray) : ev s (.const (.string b)) = .t .fz (.v (.string b)) := rfl
theorem ev_sl (a : Option Addr) (l c : Nat) : ev s (.const (.slice a l c)) = .t .fz (.v (.slice a l c)) := rfl
theorem ev_map (r : Option Nat) : ev s (.const (.map r)) = .t .fz (.v (.map r)) := rfl
theorem ev_ptr (r : Option Addr) : ev s (.const (.pointer r)) = .t .fz (.v (.pointer r)) := rfl
theorem ev_nilFunc : ev s (.const .nilFunc) = .t .fz (.v .nilFunc) := rfl
theorem ev_nilIface : ev s (.const .nilIface) = .t .fz (.v .nilIface) := rfl
theorem ev_agg (vs : Array Value) : ev s (.const (.agg vs)) = .t .fz (.agg (vs.toList.map .v)) := rfl
theorem ev_func (f : FuncId) : ev s (.func f) = .clo f [] := rfl
/-- What a round leaves. -/
def LoopP {ι : Type} (st : ι → StL) (J : ι → Prop) (μ : ι → Nat) (x : ι) (Q : Exit → StL → Prop) (e : Exit) (s' : StL) : Prop :=
  match e with
  | .normal => ∃ y, J y ∧ (st y).le s' ∧ μ y < μ x
  | e => Q e s'

theorem cw_loop {ι : Type} {body : Code} {Q : Exit → StL → Prop} (st : ι → StL) (J : ι → Prop) (μ : ι → Nat) (x0 : ι) (h0 : J x0) (hs0 : (st x0).le s)
    (round : ∀ x, J x → CodeW P n body (st x) (LoopP st J μ x Q)) : CodeW P n (.loop body) s Q :=
  codeW_loop st J μ x0 h0 hs0 fun x hx => (round x hx).mono fun e s' hq => by
    cases e with
    | normal => exact hq
    | exit id => exact hq
    | goto l => exact hq
    | ret => exact hq
    | panic ch => exact hq
    | outgrown => exact hq

theorem le_of {T T' : List (Nat × PV)} {M M' : List (Nat × Res)} (hT : ∀ p ∈ T', getT T p.1 = p.2 ∨ p.2 = .undef) (hM : ∀ p ∈ M', getM M p.1 = p.2 ∨ p.2 = .dead) : StL.le ⟨T', M'⟩ ⟨T, M⟩ := by
  refine ⟨fun t => ?_, fun m => ?_⟩
  · show getT T' t = getT T t ∨ _
    induction T' with
    | nil => exact .inr rfl
    | cons p l ih =>
      obtain ⟨k, q⟩ := p
      simp only [getT]
      by_cases e : k = t
      · subst e
        rw [if_pos rfl]
        have := hT (k, q) (by simp)
        simp only at this
        exact this.imp (fun h => h.symm) id
      · rw [if_neg e]
        exact ih fun p hp => hT p (List.mem_cons_of_mem _ hp)
  · show getM M' m = getM M m ∨ _
    induction M' with
    | nil => exact .inr rfl
    | cons p l ih =>
      obtain ⟨k, q⟩ := p
      simp only [getM]
      by_cases e : k = m
      · subst e
        rw [if_pos rfl]
        have := hM (k, q) (by simp)
        simp only at this
        exact this.imp (fun h => h.symm) id
      · rw [if_neg e]
        exact ih fun p hp => hM p (List.mem_cons_of_mem _ hp)

theorem retP_frz {fn : Func} {pv : PV} {k : Kind} {x : TL} (h1 : resPV P s fn.results.toList = some pv) (h2 : frzT 6 s pv = some (k, x)) : RetP P fn s (.t k x) [] := ⟨pv, h1, .inl ⟨k, x, h2, rfl, rfl⟩⟩

end
end Go.PS
/- PS17: an operation looks at few temporaries only, and more memory tells it nothing else. -/
namespace Go.PS
open Go Go.RowKit

/-- append(x, y) that makes a new row. -/
def appVal (P : Program) (s : StL) (t : Nat) (x y : PV) : Option Res :=
  match elT P t with
  | none => none
  | some e => match szT P e, zT P e, byT P e with
    | some sz, some z, some b =>
      if 0 < sz ∧ 0 < b ∧ z.length = sz then
        match srcPV s sz y with
        | none => none
        | some (k, ys) =>
          match x with
          | .t _ (.v (.slice none 0 0)) => if ys.length * b ≤ 140737488355328 then some (.row e sz k ys) else none
          | .t k' (.sl .tight sz' []) => if sz' = sz ∧ ys.length * b ≤ 140737488355328 then some (.row e sz k ys) else none
          | .t k' (.sl .tight sz' xs) => if sz' = sz ∧ ys.isEmpty = false ∧ (xs.length + ys.length) * b ≤ 140737488355328 ∧ xs.all (fun e => e.all TL.leaf) = true then some (.row e sz (k'.join k) (xs ++ ys)) else none
          | _ => none
      else none
    | _, _, _ => none
theorem appVal_new {P : Program} {s : StL} {t d : Nat} {x y : PV} {r : Res} (h : appVal P s t x y = some r) (hf : s.free d = true) : appendPV P d s t x y = some ⟨(d, .osl d) :: s.T, (d, r) :: s.M⟩ := by
  unfold appVal at h
  unfold appendPV
  split at h
  · cases h
  · rename_i e he
    try rw [he]
    try simp only
    split at h
    · rename_i sz z b hsz hz hb
      try rw [hsz, hz, hb]
      try simp only
      split at h
      · rename_i hc
        try rw [if_pos hc]
        split at h
        · cases h
        · rename_i k ys hs
          try rw [hs]
          try simp only
          split at h
          · split at h
            · rename_i h1
              cases h
              simp only [hf, h1, and_self, if_true]
            · cases h
          · split at h
            · rename_i h1
              cases h
              obtain ⟨rfl, e2⟩ := h1
              simp only [hf, e2, and_self, if_true]
            · cases h
          · rename_i k' sz' xs hne
            split at h
            · rename_i h1
              cases h
              obtain ⟨rfl, e2, e3, e4⟩ := h1
              cases xs with
              | nil => exact (hne rfl).elim
              | cons x xs =>
                simp only [hf, e2, e3, e4, and_self, if_true]
            · cases h
          · cases h
      · cases h
    · cases h

def newVal (P : Program) (s : StL) : Op → Option (Bool × Res)
  | .box t x => match cellsPV (ev s x) with
    | some cs => some (true, .blk t cs)
    | none => none
  | .alloc t => match zT P t with
    | some z => some (true, .blk t (z.map fun c => PV.t .fz (.v c)))
    | none => none
  | .buildSlice t len parts => match elT P t with
    | some e => match szT P e, zT P e with
      | some sz, some z => if z.length = sz ∧ len = parts.size ∧ len * sz ≤ 16777216 ∧ 0 < sz then
          match rowPV s sz 0 parts.toList with
          | some (k, xs) => some (false, .row e sz k xs)
          | none => none
        else none
      | _, _ => none
    | none => none
  | .makeSlice t l c => match elT P t, ev s l, ev s c with
    | some e, .t _ (.v (.int _ l)), .t _ (.v (.int _ c)) => match szT P e, zT P e, byT P e with
      | some sz, some z, some b => if z.length = sz ∧ 0 < sz ∧ 0 ≤ l ∧ l ≤ c ∧ c ≤ 140737488355328 ∧ (b : Int) * c ≤ 281474976710656 then
          some (false, .row e sz .fz (List.replicate l.toNat (z.map TL.v))) else none
      | _, _, _ => none
    | _, _, _ => none
  | .call c => match c.callee, c.args.toList, c.argTypes.toList with
    | .builtin .append, [x, y], [t, t'] => if t = t' then (appVal P s t (ev s x) (ev s y)).map fun r => (false, r) else none
    | _, _, _ => none
  | _ => none

theorem newVal_new {P : Program} {s : StL} {op : Op} {b : Bool} {r : Res} {d : Nat} (h : newVal P s op = some (b, r)) (hf : s.free d = true) :
    newOp P d s op = some ⟨(d, if b then .ptr d 0 else .osl d) :: s.T, (d, r) :: s.M⟩ := by
  cases op <;> simp only [newVal, reduceCtorEq] at h
  case box t x =>
    split at h
    · rename_i cs hcs
      cases h
      simp only [newOp, hcs, hf, if_true]
    · cases h
  case alloc t =>
    split at h
    · rename_i z hz
      cases h
      simp only [newOp, hz, hf, if_true]
    · cases h
  case buildSlice t len parts =>
    split at h
    · rename_i e he
      split at h
      · rename_i sz z hsz hz
        split at h
        · rename_i hc
          split at h
          · rename_i k xs hr
            cases h
            simp only [newOp, he, hsz, hz, hr]
            rw [if_pos ⟨hf, hc⟩]
            rfl
          · cases h
        · cases h
      · cases h
    · cases h
  case makeSlice t l c =>
    split at h
    · rename_i e k1 kk1 l' k2 kk2 c' he hl hc
      split at h
      · rename_i sz z b hsz hz hb
        split at h
        · rename_i hcond
          cases h
          simp only [newOp, he, hl, hc, hsz, hz, hb]
          rw [if_pos ⟨hf, hcond⟩]
          rfl
        · cases h
      · cases h
    · cases h
  case call c =>
    split at h
    · rename_i x y t t' h1 h2 h3
      split at h
      · rename_i htt
        obtain ⟨r', hr, e⟩ := Option.map_eq_some_iff.1 h
        cases e
        simp only [newOp, h1, h2, h3, if_pos htt]
        rw [appVal_new hr hf]
        rfl
      · cases h
    · cases h

/-- s' knows all memory that s knows. -/
def MLe (s s' : StL) : Prop := ∀ m, getM s.M m = .dead ∨ getM s'.M m = getM s.M m

section
variable {P : Program} {s s' : StL}

theorem MLe.at_ (h : MLe s s') {m : Nat} {r : Res} (hr : getM s.M m = r) (hd : r ≠ .dead) : getM s'.M m = r := by
  rcases h m with h1 | h1
  · exact absurd (hr.symm.trans h1) hd
  · exact h1.trans hr

theorem loadPV_mono (h : MLe s s') {p q : PV} {sz : Nat} {ag : Bool} (hq : loadPV s p sz ag = some q) : loadPV s' p sz ag = some q := by
  unfold loadPV at hq ⊢
  split at hq
  · exact hq
  · split at hq
    · rename_i hM
      rw [h.at_ hM (by simp)]
      exact hq
    · cases hq
  · split at hq
    · rename_i hM
      rw [h.at_ hM (by simp)]
      exact hq
    · cases hq
  · split at hq
    · rename_i hM
      rw [h.at_ hM (by simp)]
      exact hq
    · cases hq
  · split at hq
    · rename_i hM
      rw [h.at_ hM (by simp)]
      exact hq
    · cases hq
  · cases hq

theorem idxPV_mono (h : MLe s s') {t : Nat} {p q : PV} {i : Int} (hq : idxPV P s t p i = some q) : idxPV P s' t p i = some q := by
  unfold idxPV at hq ⊢
  split at hq
  · exact hq
  · split at hq
    · rename_i hM
      rw [h.at_ hM (by simp)]
      exact hq
    · cases hq
  · split at hq
    · rename_i hM
      rw [h.at_ hM (by simp)]
      exact hq
    · cases hq
  · split at hq
    · rename_i hM
      rw [h.at_ hM (by simp)]
      exact hq
    · cases hq
  · split at hq
    · rename_i hM
      rw [h.at_ hM (by simp)]
      exact hq
    · cases hq
  · exact hq
  · exact hq

theorem lenPV_mono (h : MLe s s') {p : PV} {n : Nat} (hq : lenPV s p = some n) : lenPV s' p = some n := by
  unfold lenPV at hq ⊢
  split at hq
  · exact hq
  · exact hq
  · split at hq
    · rename_i hM
      rw [h.at_ hM (by simp)]
      exact hq
    · cases hq
  · exact hq
  · split at hq
    · rename_i hM
      rw [h.at_ hM (by simp)]
      exact hq
    · cases hq
  · split at hq
    · rename_i hM
      rw [h.at_ hM (by simp)]
      exact hq
    · cases hq
  · exact hq
  · cases hq

theorem optL_mono {f g : PV → Option (Bool × TL)} (h : ∀ p x, f p = some x → g p = some x) : ∀ {l : List PV} {x : Bool × List TL}, optL f l = some x → optL g l = some x
  | [], x, hx => hx
  | p :: l, x, hx => by
    simp only [optL] at hx ⊢
    split at hx
    · rename_i b y b' ys h1 h2
      rw [h p _ h1, optL_mono h h2]
      exact hx
    · cases hx

theorem lendPV_mono (h : MLe s s') : ∀ (d : Nat) {p : PV} {x : Bool × TL}, lendPV d s p = some x → lendPV d s' p = some x
  | 0, p, x, hx => by simp [lendPV] at hx
  | d + 1, p, x, hx => by
    cases p with
    | t k y => simpa [lendPV] using hx
    | osl m =>
      simp only [lendPV] at hx ⊢
      split at hx
      · rename_i hM
        rw [h.at_ hM (by simp)]
        exact hx
      · cases hx
    | ptr m off =>
      simp only [lendPV] at hx ⊢
      split at hx
      · rename_i hM
        rw [h.at_ hM (by simp)]
        simp only
        split at hx
        · rename_i h1
          rw [optL_mono (fun p x => lendPV_mono h d) h1]
          exact hx
        · cases hx
      · cases hx
    | clo f caps =>
      simp only [lendPV] at hx ⊢
      split at hx
      · rename_i h1
        rw [optL_mono (fun p x => lendPV_mono h d) h1]
        exact hx
      · cases hx
    | agg cs =>
      simp only [lendPV] at hx ⊢
      split at hx
      · rename_i h1
        rw [optL_mono (fun p x => lendPV_mono h d) h1]
        exact hx
      · cases hx
    | oep => simp [lendPV] at hx
    | omp m =>
      simp only [lendPV] at hx ⊢
      split at hx
      · rename_i hM
        simp only [h.at_ hM (by intro e; cases e)]
        exact hx
      · cases hx
    | osv => simp [lendPV] at hx
    | mx m kk i j =>
      cases kk with
      | succ kk => simp [lendPV] at hx
      | zero =>
        simp only [lendPV] at hx ⊢
        split at hx
        · rename_i hM
          rw [h.at_ hM (by simp)]
          exact hx
        · cases hx
    | tup => simp [lendPV] at hx
    | undef => simp [lendPV] at hx

/-- Operands alike. -/
def OpdEq (s s' : StL) (l : List Operand) : Prop := ∀ x ∈ l, ev s' x = ev s x

theorem OpdEq.map {l : List Operand} (h : OpdEq s s' l) : l.map (ev s') = l.map (ev s) := List.map_congr_left h

theorem bndPV_mono {x : Option Operand} {d : Nat} (h : OpdEq s s' x.toList) : bndPV s' x d = bndPV s x d := by
  cases x with
  | none => rfl
  | some x => simp only [bndPV, h x (by simp)]

theorem slicePV_mono (h : MLe s s') {t : Nat} {p q : PV} {lo hi mx : Option Operand} (hl : OpdEq s s' lo.toList) (hh : OpdEq s s' hi.toList) (hm : OpdEq s s' mx.toList) (hq : slicePV P s t p lo hi mx = some q) : slicePV P s' t p lo hi mx = some q := by
  unfold slicePV at hq ⊢
  split at hq
  · simp only [bndPV_mono hl, bndPV_mono hh]
    exact hq
  · simp only [bndPV_mono hl, bndPV_mono hh, bndPV_mono hm]
    exact hq
  · simp only [bndPV_mono hh]
    exact hq
  · simp only [bndPV_mono hl, bndPV_mono hh, bndPV_mono hm]
    exact hq
  · rename_i m
    split at hq
    · rename_i ty sz k xs hM
      simp only [h.at_ hM (by intro e; cases e), bndPV_mono hl, bndPV_mono hh]
      exact hq
    · cases hq
  · cases hq

theorem partsPV_mono {t : Nat} : ∀ {l : List (Nat × Operand)}, OpdEq s s' (l.map (·.2)) → partsPV P s' t l = partsPV P s t l
  | [], _ => rfl
  | (i, x) :: l, h => by
    simp only [partsPV, h x (by simp), partsPV_mono (l := l) fun y hy => h y (by simp only [List.map_cons, List.mem_cons]; exact .inr hy)]

theorem rowPV_mono {sz : Nat} : ∀ {l : List (Nat × Operand)} {j : Nat}, OpdEq s s' (l.map (·.2)) → rowPV s' sz j l = rowPV s sz j l
  | [], _, _ => rfl
  | (i, x) :: l, j, h => by
    simp only [rowPV, h x (by simp), rowPV_mono (l := l) fun y hy => h y (by simp only [List.map_cons, List.mem_cons]; exact .inr hy)]

theorem cntPV_mono (h : MLe s s') {p : PV} {m : Nat} (hq : cntPV s p = some m) : cntPV s' p = some m := by
  unfold cntPV at hq ⊢
  split at hq
  · rename_i q
    split at hq
    · rename_i k es hM
      simp only [h.at_ hM (by intro e; cases e)]
      exact hq
    · cases hq
  · cases hq
theorem datPV_mono (h : MLe s s') {p q : PV} (hq : datPV s p = some q) : datPV s' p = some q := by
  unfold datPV at hq ⊢
  split at hq
  · rename_i m
    split at hq
    · rename_i ty k x xs hM
      simp only [h.at_ hM (by intro e; cases e)]
      exact hq
    · cases hq
  · cases hq
theorem builtinVal_mono (h : MLe s s') {b : Builtin} {args : List PV} {ts : Array Nat} {q : PV} (hq : builtinVal P s b args ts = some q) : builtinVal P s' b args ts = some q := by
  unfold builtinVal at hq ⊢
  split at hq
  · cases hts : ts[0]? with
    | none => simp [hts] at hq
    | some t =>
      simp only [hts] at hq ⊢
      split at hq
      · rename_i hc
        obtain ⟨m, hm, rfl⟩ := Option.map_eq_some_iff.1 hq
        rw [if_pos hc, lenPV_mono h hm]
        rfl
      · rename_i hc
        rw [if_neg hc]
        split at hq
        · rename_i hc2
          rw [if_pos hc2]
          exact hq
        · rename_i hc2
          rw [if_neg hc2]
          split at hq
          · rename_i hc3
            obtain ⟨m, hm, rfl⟩ := Option.map_eq_some_iff.1 hq
            rw [if_pos hc3, cntPV_mono h hm]
            rfl
          · cases hq
  · exact hq
  · exact hq
  · exact datPV_mono h hq
  · cases hq

theorem lookPV_mono (h : MLe s s') {t : Nat} {x key q : PV} {ok : Bool} (hq : lookPV P s t x key ok = some q) : lookPV P s' t x key ok = some q := by
  unfold lookPV at hq ⊢
  split at hq
  · split at hq
    · split at hq
      · rename_i hk
        rw [if_pos hk]
        split at hq
        · rename_i m
          split at hq
          · rename_i k es hM
            simp only [h.at_ hM (by intro e; cases e)]
            exact hq
          · cases hq
        · exact hq
        · exact hq
        · cases hq
      · cases hq
    · cases hq
  · cases hq
theorem entPV_mono (h : MLe s s') {x q : PV} (hq : entPV s x = some q) : entPV s' x = some q := by
  unfold entPV at hq ⊢
  split at hq
  · rename_i m
    split at hq
    · rename_i mn nn i rest hM
      simp only [h.at_ hM (by intro e; cases e)]
      split at hq
      · rename_i k es hMn
        simp only [h.at_ hMn (by intro e; cases e)]
        exact hq
      · cases hq
    · cases hq
  · cases hq
theorem opVal_mono (h : MLe s s') {op : Op} {q : PV} (ho : OpdEq s s' op.operands.toList) (hq : opVal P s op = some q) : opVal P s' op = some q := by
  cases op <;> simp only [opVal, reduceCtorEq] at hq ⊢
  case move x => rw [ho x (by simp [Op.operands])]; exact hq
  case assign x => rw [ho x (by simp [Op.operands])]; exact hq
  case pick c x y => rw [ho c (by simp [Op.operands]), ho x (by simp [Op.operands]), ho y (by simp [Op.operands])]; exact hq
  case binOp op t x y t' => rw [ho x (by simp [Op.operands]), ho y (by simp [Op.operands])]; exact hq
  case unOp op t x => rw [ho x (by simp [Op.operands])]; exact hq
  case convert src dst x => rw [ho x (by simp [Op.operands])]; exact hq
  case nilCheck x => rw [ho x (by simp [Op.operands])]; exact hq
  case fieldAddr t x f => rw [ho x (by simp [Op.operands])]; exact hq
  case indexAddr t x i =>
    rw [ho x (by simp [Op.operands]), ho i (by simp [Op.operands])]
    split at hq
    · exact idxPV_mono h hq
    · cases hq
  case load t x =>
    rw [ho x (by simp [Op.operands])]
    split at hq
    · exact loadPV_mono h hq
    · cases hq
  case extract x i => rw [ho x (by simp [Op.operands])]; exact hq
  case field t x f => rw [ho x (by simp [Op.operands])]; exact hq
  case index t x i => rw [ho x (by simp [Op.operands]), ho i (by simp [Op.operands])]; exact hq
  case makeFunc fn first caps =>
    cases fn <;> simp only [reduceCtorEq] at hq ⊢
    rw [OpdEq.map fun x hx => ho x (by simp only [Op.operands, Array.toList_append, List.mem_append]; exact .inr hx)]
    exact hq
  case slice t x lo hi mx =>
    rw [ho x (by simp [Op.operands])]
    split at hq
    · cases hq
    · rename_i hc
      rw [if_neg hc]
      exact slicePV_mono h (fun y hy => ho y (by simp only [Op.operands, Array.toList_append, List.mem_append]; simp at hy; simp [hy])) (fun y hy => ho y (by simp only [Op.operands, Array.toList_append, List.mem_append]; simp at hy; simp [hy])) (fun y hy => ho y (by simp only [Op.operands, Array.toList_append, List.mem_append]; simp at hy; simp [hy])) hq
  case call c =>
    split at hq
    · rename_i b hb
      rw [OpdEq.map fun x hx => ho x (by simp only [Op.operands, Call.operands, Array.toList_append, List.mem_append]; exact .inr hx)]
      exact builtinVal_mono h hq
    · cases hq
  case lookup t x i ok =>
    rw [ho x (by simp [Op.operands]), ho i (by simp [Op.operands])]
    exact lookPV_mono h hq
  case entry x =>
    rw [ho x (by simp [Op.operands])]
    exact entPV_mono h hq

theorem valOp_mono (h : MLe s s') {op : Op} {q : PV} (ho : OpdEq s s' op.operands.toList) (hq : valOp P s op = some q) : valOp P s' op = some q := by
  unfold valOp at hq ⊢
  split at hq
  · rename_i t parts
    split at hq
    · rename_i hok
      simp only [hok, if_true]
      unfold buildPV at hq ⊢
      rw [partsPV_mono fun x hx => ho x (by simpa [Op.operands] using hx)]
      exact hq
    · cases hq
  · rename_i op t x y ty
    split at hq
    · rename_i q' hq'
      cases hq
      simp only [opVal_mono h ho hq']
    · rename_i hn
      have hx := ho x (by simp [Op.operands])
      have hy := ho y (by simp [Op.operands])
      have hn' : opVal P s' (.binOp op t x y ty) = none := by
        simp only [opVal, hx, hy] at hn ⊢
        exact hn
      simp only [hn', hx, hy]
      exact hq
  · rename_i t x
    rw [ho x (by simp [Op.operands])]
    exact hq
  · rename_i h1 h2 h3
    have := opVal_mono h ho hq
    revert this
    cases op <;> first | exact id | (intro _; first | exact absurd rfl (h1 _ _) | exact absurd rfl (h2 _ _ _ _ _) | exact absurd rfl (h3 _ _))

theorem srcPV_mono (h : MLe s s') {sz : Nat} {p : PV} {q : Kind × List (List TL)} (hq : srcPV s sz p = some q) : srcPV s' sz p = some q := by
  unfold srcPV at hq ⊢
  split at hq
  · exact hq
  · exact hq
  · rename_i m
    split at hq
    · rename_i ty sz' k ys hr
      simp only [h.at_ hr (by intro e; cases e)]
      exact hq
    · cases hq
  · rename_i m sz'' lo len
    split at hq
    · rename_i ty sz' k ys hr
      simp only [h.at_ hr (by intro e; cases e)]
      exact hq
    · cases hq
  · cases hq
theorem appVal_mono (h : MLe s s') {t : Nat} {x y : PV} {r : Res} (hq : appVal P s t x y = some r) : appVal P s' t x y = some r := by
  unfold appVal at hq ⊢
  split at hq
  · cases hq
  · split at hq
    · split at hq
      · rename_i hc
        rw [if_pos hc]
        split at hq
        · cases hq
        · rename_i k ys hs
          rw [srcPV_mono h hs]
          exact hq
      · cases hq
    · cases hq
theorem newVal_mono (hM : MLe s s') {op : Op} {r : Bool × Res} (ho : OpdEq s s' op.operands.toList) (h : newVal P s op = some r) : newVal P s' op = some r := by
  cases op <;> simp only [newVal] at h ⊢
  case box t x => rw [ho x (by simp [Op.operands])]; exact h
  case alloc t => exact h
  case buildSlice t len parts =>
    have : ∀ sz, rowPV s' sz 0 parts.toList = rowPV s sz 0 parts.toList := fun sz => rowPV_mono fun x hx => ho x (by simpa [Op.operands] using hx)
    simp only [this]
    exact h
  case makeSlice t l c => rw [ho l (by simp [Op.operands]), ho c (by simp [Op.operands])]; exact h
  case call c =>
    split at h
    · rename_i x y t t' h1 h2 h3
      have hmem : ∀ z ∈ c.args.toList, ev s' z = ev s z := fun z hz => ho z (by simp only [Op.operands, Call.operands, Array.toList_append, List.mem_append]; exact .inr hz)
      rw [hmem x (by rw [h2]; simp), hmem y (by rw [h2]; simp)]
      split at h
      · rename_i htt
        rw [if_pos htt]
        obtain ⟨r', hr, e⟩ := Option.map_eq_some_iff.1 h
        rw [appVal_mono hM hr]
        simpa using e
      · cases h
    · cases h
  all_goals cases h

theorem callee_mono {c : Call} (ho : OpdEq s s' c.operands.toList) : callee s' c = callee s c := by
  have ha : c.args.toList.map (ev s') = c.args.toList.map (ev s) := OpdEq.map fun x hx => ho x (by simp only [Call.operands, Array.toList_append, List.mem_append]; exact .inr hx)
  unfold callee
  split
  · rename_i f hf
    rw [ho f (by simp [Call.operands, hf]), ha]
  · rfl

end
end Go.PS
/- PS18: a region that draws its order is run in the order of the text. -/
namespace Go.PS
open Go Go.RowKit

def ValW (P : Program) (s : StL) (d : Nat) (op : Op) (K : PV → Option Res → Prop) : Prop :=
  match valOp P s op with
  | some q => K q none
  | none => match newVal P s op with
    | some (b, r) => K (if b then .ptr d 0 else .osl d) (some r)
    | none => False

def CallE (P : Program) (s : StL) (d : Nat) (f : FuncId) (pvs : List PV) (K : PV → Option Res → Prop) : Prop :=
  match optL (lendPV 5 s) pvs with
  | none => False
  | some (b, tls) => ∃ r Mr, PCall P f tls r Mr ∧ (b = true → r.noRo = true ∧ Mr.all (fun p => p.2.noRo) = true) ∧ match Mr with
    | [] => r.nm false 0 = true ∧ K (r.ren d) none
    | [(0, res)] => (r.nm true 0 = true ∧ res.nm true 0 = true) ∧ K (r.ren d) (some (res.ren d))
    | _ => False

def EffW (P : Program) (ops : Array Oper) (o : Oper) (d : Nat) (s : StL) (K : PV → Option Res → Prop) : Prop :=
  match wantPV ops s o with
  | some true => match o.op with
    | .call c => match callee s c with
      | some (f, pvs) => CallE P s d f pvs K
      | none => ValW P s d (.call c) K
    | op => ValW P s d op K
  | some false => K skipPV none
  | none => False

def app1 (d : Nat) (q : PV) (r : Option Res) (s : StL) : StL := ⟨(d, q) :: s.T, match r with | some r => (d, r) :: s.M | none => s.M⟩

def DrawW (P : Program) (n : Nat) (ops : Array Oper) (m : Nat) (As : List Nat) : Nat → List Oper → StL → (StL → Prop) → Prop
  | _, [], s, K => K s
  | i, o :: rest, s, K => if i < m then match o.dst with
      | none => False
      | some d => d < n ∧ EffW P ops o d s fun q res => (res.isSome = true → As.contains i = true ∧ s.free d = true) ∧ DrawW P n ops m As (i + 1) rest (app1 d q res s) K
    else RunW P n ops (o :: rest) s K

section
variable {P : Program} {n : Nat} {ops : Array Oper}

theorem ValW.pick {s : StL} {d : Nat} {op : Op} {K : PV → Option Res → Prop} (h : ValW P s d op K) : ∃ q r, K q r ∧ ValW P s d op (fun q' r' => q' = q ∧ r' = r) := by
  unfold ValW at h ⊢
  split at h
  · exact ⟨_, _, h, rfl, rfl⟩
  · split at h
    · exact ⟨_, _, h, rfl, rfl⟩
    · exact h.elim

theorem CallE.pick {s : StL} {d : Nat} {f : FuncId} {pvs : List PV} {K : PV → Option Res → Prop} (h : CallE P s d f pvs K) : ∃ q r, K q r ∧ CallE P s d f pvs (fun q' r' => q' = q ∧ r' = r) := by
  unfold CallE at h ⊢
  split at h
  · exact h.elim
  · obtain ⟨r, Mr, h1, h2, h3⟩ := h
    split at h3
    · exact ⟨_, _, h3.2, r, [], h1, h2, h3.1, rfl, rfl⟩
    · exact ⟨_, _, h3.2, r, [(0, _)], h1, h2, h3.1, rfl, rfl⟩
    · exact h3.elim

theorem EffW.pick {o : Oper} {s : StL} {d : Nat} {K : PV → Option Res → Prop} (h : EffW P ops o d s K) : ∃ q r, K q r ∧ EffW P ops o d s (fun q' r' => q' = q ∧ r' = r) := by
  unfold EffW at h ⊢
  split at h
  · split at h
    · split at h
      · exact h.pick
      · exact h.pick
    · exact h.pick
  · exact ⟨_, _, h, rfl, rfl⟩
  · exact h.elim

/-- What makes memory is no plain value. -/
theorem newVal_noVal {s s' : StL} {op : Op} (h : newVal P s op ≠ none) : valOp P s' op = none := by
  cases op
  case call c =>
    simp only [newVal] at h
    split at h
    · rename_i x y t t' h1 h2 h3
      show opVal P s' (.call c) = none
      simp only [opVal, h1, h2, builtinVal]
    · exact absurd rfl h
  all_goals first | exact absurd rfl h | rfl

theorem ValW.move' {s s' : StL} {d : Nat} {op : Op} {K : PV → Option Res → Prop} (hM : MLe s s') (ho : OpdEq s s' op.operands.toList) (h : ValW P s d op K) : ValW P s' d op K := by
  unfold ValW at h ⊢
  split at h
  · rename_i q hq
    rw [valOp_mono hM ho hq]
    exact h
  · rename_i hq
    split at h
    · rename_i b r hn
      rw [newVal_noVal (s := s) (s' := s') (by rw [hn]; intro e; cases e), newVal_mono hM ho hn]
      exact h
    · exact h.elim

theorem wantPV_congr {s s' : StL} {o : Oper} (h : ∀ t ∈ o.looksAt ops, getT s'.T t = getT s.T t) : wantPV ops s' o = wantPV ops s o := by
  unfold wantPV
  split
  · rfl
  · rename_i j b hg
    have : gdPV ops s' j = gdPV ops s j := by
      unfold gdPV
      split
      · rename_i d hd
        rw [h d (by simp only [Oper.looksAt, hg, List.mem_append]; right; rw [hd]; simp)]
      · rfl
    rw [this]

theorem opdEq_of {s s' : StL} {o : Oper} (h : ∀ t ∈ o.looksAt ops, getT s'.T t = getT s.T t) : OpdEq s s' o.op.operands.toList := by
  intro x hx
  cases x with
  | tmp t => exact h t (by simp only [Oper.looksAt, List.mem_append]; left; exact List.mem_filterMap.2 ⟨.tmp t, hx, rfl⟩)
  | const v => cases v <;> rfl
  | func f => rfl
  | global g => rfl

theorem CallE.move {s s' : StL} {d : Nat} {f : FuncId} {pvs : List PV} {K : PV → Option Res → Prop} (hM : MLe s s') (h : CallE P s d f pvs K) : CallE P s' d f pvs K := by
  unfold CallE at h ⊢
  cases hl : optL (lendPV 5 s) pvs with
  | none => rw [hl] at h; exact h.elim
  | some x =>
    rw [hl] at h
    rw [optL_mono (fun p x => lendPV_mono hM 5) hl]
    exact h

theorem EffW.move {o : Oper} {s s' : StL} {d : Nat} {K : PV → Option Res → Prop} (hM : MLe s s') (hT : ∀ t ∈ o.looksAt ops, getT s'.T t = getT s.T t) (h : EffW P ops o d s K) : EffW P ops o d s' K := by
  have ho := opdEq_of (ops := ops) hT
  unfold EffW at h ⊢
  rw [wantPV_congr hT]
  split at h
  · split at h
    · rename_i c hc
      have ho' : OpdEq s s' c.operands.toList := by rw [hc] at ho; simpa [Op.operands] using ho
      rw [callee_mono ho']
      split at h
      · exact h.move hM
      · rw [hc] at ho; exact h.move' hM ho
    · exact h.move' hM ho
  · exact h
  · exact h.elim

variable {w0 : Base} {F0 : Nat → Prop} {a : Act} {w : World}

theorem ValW.step {s : StL} {d : Nat} {op : Op} {q : PV} {r : Option Res} (hdn : d < n) (h : ValW P s d op (fun q' r' => q' = q ∧ r' = r)) (hf : r.isSome = true → s.free d = true) : StepW P n (some d) s op (fun s' => s' = app1 d q r s) := by
  unfold ValW at h
  unfold StepW PS.step
  simp only [if_pos hdn]
  split at h
  · rename_i q' hq
    obtain ⟨rfl, rfl⟩ := h
    simp only [hq]
    rfl
  · rename_i hq
    try simp only [hq]
    split at h
    · rename_i b r' hn
      obtain ⟨rfl, rfl⟩ := h
      rw [newVal_new hn (hf rfl)]
      rfl
    · exact h.elim

theorem CallE.callW {s : StL} {d : Nat} {f : FuncId} {pvs : List PV} {q : PV} {r : Option Res} (hdn : d < n) (h : CallE P s d f pvs (fun q' r' => q' = q ∧ r' = r)) (hf : r.isSome = true → s.free d = true) : CallW P n (some d) s f pvs (fun s' => s' = app1 d q r s) := by
  unfold CallE at h
  unfold CallW
  refine ⟨hdn, ?_⟩
  split at h
  · exact h.elim
  · rename_i b tls hl
    obtain ⟨r0, Mr, h1, h2, h3⟩ := h
    refine .inl ?_
    unfold CallB
    refine .inl ?_
    rw [hl]
    split at h3
    · obtain ⟨h4, rfl, rfl⟩ := h3
      refine ⟨r0, [], h1, h2, ?_⟩
      simp only [retS, h4, if_true]
      rfl
    · rename_i res
      obtain ⟨h4, rfl, rfl⟩ := h3
      refine ⟨r0, [(0, res)], h1, h2, ?_⟩
      simp only [retS]
      rw [if_pos ⟨h4.1, h4.2, hf rfl⟩]
      rfl
    · exact h3.elim

theorem effW_wpOp {s : StL} {i : Nat} {o : Oper} {d : Nat} {q : PV} {r : Option Res} {K : Act → World → Prop} {Q : Exit → Act → World → Prop} (hi : ops[i]? = some o) (hd : o.dst = some d) (hdn : d < n) (h : Sim w0 F0 n s a w)
    (he : EffW P ops o d s (fun q' r' => q' = q ∧ r' = r)) (hf : r.isSome = true → s.free d = true) (hk : ∀ a' w', Sim w0 F0 n (app1 d q r s) a' w' → K a' w') : wpOp P ops Q i K a w := by
  unfold wpOp
  rw [hi]
  simp only
  unfold EffW at he
  have hop : ∀ x, OpW P n (some d) s x (fun s' => s' = app1 d q r s) → o.op = x → o.wp P a w K Q := by
    intro x hx hox
    refine opW_wp (P := P) (n := n) (K := fun s' => s' = app1 d q r s) h (by rw [hd, hox]; exact hx) fun s' a' w' hs' hsim => ?_
    subst hs'
    exact hk _ _ hsim
  split at he
  · rename_i hw
    rw [want_rep h hw, if_pos rfl]
    left
    split at he
    · rename_i c hc
      refine hop (.call c) ?_ hc
      unfold OpW
      split at he
      · rename_i hcal
        simp only [hcal]
        exact he.callW hdn hf
      · rename_i hcal
        simp only [hcal]
        exact he.step hdn hf
    · rename_i hnc
      refine hop o.op ?_ rfl
      unfold OpW
      split
      · rename_i x hx
        rw [hx] at he
        exact (show False from he).elim
      · rename_i c hc
        exact absurd hc (hnc c)
      · exact he.step hdn hf
  · rename_i hw
    obtain ⟨rfl, rfl⟩ := he
    rw [want_rep h hw, if_neg (by simp)]
    refine hk _ _ ?_
    have := skip_sim h o.dst (fun d' hd' => by rw [hd] at hd'; cases hd'; exact hdn)
    rw [hd] at this ⊢
    exact this
  · exact he.elim

/-! The plan: what each operation gives, in the order of the text. -/

def stOf (e : Nat → PV × Option Res) (dst : Nat → Nat) (s0 : StL) : List Nat → StL
  | [] => s0
  | j :: l => app1 (dst j) (e j).1 (e j).2 (stOf e dst s0 l)

def desc : Nat → List Nat
  | 0 => []
  | j + 1 => j :: desc j

theorem mem_desc : ∀ {i j : Nat}, j ∈ desc i ↔ j < i
  | 0, j => by simp [desc]
  | i + 1, j => by simp only [desc, List.mem_cons, mem_desc]; omega

theorem stOf_congr {e e' : Nat → PV × Option Res} {dst : Nat → Nat} {s0 : StL} : ∀ {l : List Nat}, (∀ j ∈ l, e j = e' j) → stOf e dst s0 l = stOf e' dst s0 l
  | [], _ => rfl
  | j :: l, h => by
    simp only [stOf, h j (by simp), stOf_congr (l := l) fun k hk => h k (List.mem_cons_of_mem _ hk)]

def dstAt (ops : Array Oper) (j : Nat) : Nat := ((ops[j]?).bind (·.dst)).getD 0

/-- The plan's line j. -/
def GoodAt (P : Program) (n : Nat) (ops : Array Oper) (As : List Nat) (e : Nat → PV × Option Res) (s0 : StL) (j : Nat) : Prop :=
  ∃ o d, ops[j]? = some o ∧ o.dst = some d ∧ d < n ∧ EffW P ops o d (stOf e (dstAt ops) s0 (desc j)) (fun q r => q = (e j).1 ∧ r = (e j).2) ∧
    ((e j).2.isSome = true → As.contains j = true ∧ (stOf e (dstAt ops) s0 (desc j)).free d = true)

theorem drawW_plan {m : Nat} {As : List Nat} {s0 : StL} {K : StL → Prop} (hm : m ≤ ops.size) : ∀ (k i : Nat) (e0 : Nat → PV × Option Res), i + k = m → DrawW P n ops m As i (ops.toList.drop i) (stOf e0 (dstAt ops) s0 (desc i)) K →
    ∃ e, (∀ j, j < i → e j = e0 j) ∧ (∀ j, i ≤ j → j < m → GoodAt P n ops As e s0 j) ∧ RunW P n ops (ops.toList.drop m) (stOf e (dstAt ops) s0 (desc m)) K
  | 0, i, e0, hk, h => by
    have : i = m := by omega
    subst this
    refine ⟨e0, fun _ _ => rfl, fun j h1 h2 => by omega, ?_⟩
    cases hl : ops.toList.drop i with
    | nil => rw [hl] at h; exact h
    | cons o rest =>
      rw [hl] at h
      simp only [DrawW] at h
      rwa [if_neg (by omega)] at h
  | k + 1, i, e0, hk, h => by
    have hi : i < ops.size := by omega
    have hdrop : ops.toList.drop i = ops[i] :: ops.toList.drop (i + 1) := by
      rw [List.drop_eq_getElem_cons (by simpa using hi)]
      simp
    rw [hdrop] at h
    simp only [DrawW] at h
    rw [if_pos (by omega)] at h
    split at h
    · exact h.elim
    · rename_i d hd
      obtain ⟨hdn, h⟩ := h
      obtain ⟨q, r, ⟨hres, hrest⟩, heff⟩ := h.pick
      have hda : dstAt ops i = d := by simp [dstAt, hi, hd]
      let e1 : Nat → PV × Option Res := fun j => if j = i then (q, r) else e0 j
      have he1 : ∀ j, j < i → e1 j = e0 j := fun j hj => by simp [e1, Nat.ne_of_lt hj]
      have hst : stOf e1 (dstAt ops) s0 (desc i) = stOf e0 (dstAt ops) s0 (desc i) := stOf_congr fun j hj => he1 j (mem_desc.1 hj)
      have hst' : stOf e1 (dstAt ops) s0 (desc (i + 1)) = app1 d q r (stOf e0 (dstAt ops) s0 (desc i)) := by
        simp only [desc, stOf, hst, hda]
        simp [e1]
      rw [← hst'] at hrest
      obtain ⟨e, h1, h2, h3⟩ := drawW_plan hm k (i + 1) e1 (by omega) hrest
      refine ⟨e, fun j hj => (h1 j (by omega)).trans (he1 j hj), fun j hj1 hj2 => ?_, h3⟩
      by_cases e' : j = i
      · subst e'
        have hei : e j = (q, r) := by rw [h1 j (by omega)]; simp [e1]
        have hst2 : stOf e (dstAt ops) s0 (desc j) = stOf e0 (dstAt ops) s0 (desc j) := stOf_congr fun k hk => (h1 k (by have := mem_desc.1 hk; omega)).trans (he1 k (mem_desc.1 hk))
        refine ⟨ops[j], d, by simp [hi], hd, hdn, ?_, ?_⟩
        · rw [hst2, hei]; exact heff
        · rw [hst2, hei]; exact hres
      · exact h2 j (by omega) hj2

/-! The static side. -/

def maskOf (D : List Nat) (o : Oper) : Nat := o.after.toList.foldl (fun m e => if Region.binds .any e then m ||| 2 ^ e.on ||| D.getD e.on 0 else m) 0
def depsOf (ops : Array Oper) : List Nat := ops.toList.foldl (fun D o => D ++ [maskOf D o]) []
def dep (D : List Nat) (j i : Nat) : Bool := (D.getD i 0).testBit j

def drawOk (ops : Array Oper) (m : Nat) (As : List Nat) (D : List Nat) : Bool :=
  decide (m ≤ ops.size) &&
  (List.range ops.size).all (fun i => match ops[i]? with
    | none => false
    | some o => o.after.toList.all (fun e => !Region.binds .any e || decide (e.on < i)) && (D.getD i 0 == maskOf D o) &&
        (if i < m then
          (o.dst.isSome && (o.looksAt ops).all (fun t => (List.range m).all fun j => (dstAt ops j != t) || j == i || (if j < i then dep D j i else dep D i j)) &&
            (List.range i).all (fun j => dstAt ops j != dstAt ops i) && (!As.contains i || (List.range m).all fun j => decide (j ≤ i) || dep D i j))
        else (List.range i).all fun j => dep D j i))


end
end Go.PS
/- PS19: whatever order is drawn, the region comes to what the text's order comes to. -/
namespace Go.PS
open Go Go.RowKit

theorem foldl_bits (D : List Nat) (k : Nat) : ∀ (es : List Edge) (m0 : Nat), (es.foldl (fun m e => if Region.binds .any e then m ||| 2 ^ e.on ||| D.getD e.on 0 else m) m0).testBit k = true →
    m0.testBit k = true ∨ ∃ e ∈ es, Region.binds .any e = true ∧ (e.on = k ∨ dep D k e.on = true)
  | [], m0, h => .inl h
  | e :: es, m0, h => by
    simp only [List.foldl_cons] at h
    rcases foldl_bits D k es _ h with h1 | ⟨e', he', hb, hk⟩
    · split at h1
      · rename_i hb
        simp only [Nat.testBit_or, Bool.or_eq_true, Nat.testBit_two_pow, decide_eq_true_eq] at h1
        rcases h1 with (h1 | h1) | h1
        · exact .inl h1
        · exact .inr ⟨e, by simp, hb, .inl h1⟩
        · exact .inr ⟨e, by simp, hb, .inr h1⟩
      · exact .inl h1
    · exact .inr ⟨e', List.mem_cons_of_mem _ he', hb, hk⟩

/-- What is known of a region that passes. -/
structure Passes (ops : Array Oper) (m : Nat) (As : List Nat) (D : List Nat) : Prop where
  le : m ≤ ops.size
  back : ∀ i o e, ops[i]? = some o → e ∈ o.after.toList → Region.binds .any e = true → e.on < i
  fix : ∀ i o k, ops[i]? = some o → dep D k i = true → ∃ e ∈ o.after.toList, Region.binds .any e = true ∧ (e.on = k ∨ dep D k e.on = true)
  look : ∀ i o t j, i < m → ops[i]? = some o → t ∈ o.looksAt ops → j < m → dstAt ops j = t → j = i ∨ (j < i ∧ dep D j i = true) ∨ (i < j ∧ dep D i j = true)
  uniq : ∀ i j, i < m → j < m → dstAt ops i = dstAt ops j → i = j
  born : ∀ i j, i < m → j < m → As.contains i = true → i < j → dep D i j = true
  seq : ∀ i j, m ≤ i → i < ops.size → j < i → dep D j i = true

theorem passes_of {ops : Array Oper} {m : Nat} {As D : List Nat} (h : drawOk ops m As D = true) : Passes ops m As D := by
  simp only [drawOk, Bool.and_eq_true, decide_eq_true_eq, List.all_eq_true, List.mem_range] at h
  obtain ⟨hle, hall⟩ := h
  have hat : ∀ i o, ops[i]? = some o → (∀ e ∈ o.after.toList, Region.binds .any e = true → e.on < i) ∧ D.getD i 0 = maskOf D o ∧
      (i < m → (∀ t ∈ o.looksAt ops, ∀ j, j < m → dstAt ops j = t → j = i ∨ (j < i ∧ dep D j i = true) ∨ (i < j ∧ dep D i j = true)) ∧ (∀ j, j < i → dstAt ops j ≠ dstAt ops i) ∧ (As.contains i = true → ∀ j, j < m → i < j → dep D i j = true)) ∧
      (m ≤ i → ∀ j, j < i → dep D j i = true) := by
    intro i o hi
    have hlt : i < ops.size := (Array.getElem?_eq_some_iff.1 hi).1
    have := hall i hlt
    rw [hi] at this
    simp only [Bool.and_eq_true, beq_iff_eq] at this
    obtain ⟨⟨h1, h2⟩, h3⟩ := this
    refine ⟨fun e he hb => ?_, h2, fun him => ?_, fun him => ?_⟩
    · have := List.all_eq_true.1 h1 e he
      simpa [hb] using this
    · rw [if_pos him] at h3
      simp only [Bool.and_eq_true] at h3
      obtain ⟨⟨⟨_, h4⟩, h5⟩, h6⟩ := h3
      refine ⟨fun t ht j hj hd => ?_, fun j hj => ?_, fun hA j hj hij => ?_⟩
      · have := List.all_eq_true.1 (List.all_eq_true.1 h4 t ht) j (List.mem_range.2 hj)
        simp only [Bool.or_eq_true, bne_iff_ne, ne_eq, beq_iff_eq] at this
        rcases this with (h7 | h7) | h7
        · exact absurd hd h7
        · exact .inl h7
        · by_cases hji : j < i
          · rw [if_pos hji] at h7; exact .inr (.inl ⟨hji, h7⟩)
          · rw [if_neg hji] at h7
            by_cases e : j = i
            · exact .inl e
            · exact .inr (.inr ⟨by omega, h7⟩)
      · have := List.all_eq_true.1 h5 j (List.mem_range.2 hj)
        simpa using this
      · simp only [hA, Bool.not_true, Bool.false_or] at h6
        have := List.all_eq_true.1 h6 j (List.mem_range.2 hj)
        simp only [Bool.or_eq_true, decide_eq_true_eq] at this
        exact this.resolve_left (by omega)
    · rw [if_neg (by omega)] at h3
      exact fun j hj => List.all_eq_true.1 h3 j (List.mem_range.2 hj)
  have hget : ∀ i, i < ops.size → ∃ o, ops[i]? = some o := fun i hi => ⟨ops[i], by simp [hi]⟩
  refine ⟨hle, fun i o e hi he hb => (hat i o hi).1 e he hb, fun i o k hi hk => ?_, fun i o t j him hi ht hj hd => ((hat i o hi).2.2.1 him).1 t ht j hj hd, fun i j hi hj hd => ?_, fun i j hi hj hA hij => ?_, fun i j him hi hj => ?_⟩
  · have h2 := (hat i o hi).2.1
    unfold dep at hk
    rw [h2] at hk
    exact (foldl_bits D k o.after.toList 0 hk).resolve_left (by simp)
  · obtain ⟨o, ho⟩ := hget i (by omega)
    obtain ⟨o', ho'⟩ := hget j (by omega)
    rcases Nat.lt_trichotomy i j with h1 | h1 | h1
    · exact absurd hd (((hat j o' ho').2.2.1 hj).2.1 i h1)
    · exact h1
    · exact absurd hd.symm (((hat i o ho).2.2.1 hi).2.1 j h1)
  · obtain ⟨o, ho⟩ := hget i (by omega)
    exact ((hat i o ho).2.2.1 hi).2.2 hA j hj hij
  · obtain ⟨o, ho⟩ := hget i hi
    exact (hat i o ho).2.2.2 him j hj

section
variable {e : Nat → PV × Option Res} {dst : Nat → Nat} {s0 : StL}

theorem getT_stOf_other {t : Nat} : ∀ {l : List Nat}, (∀ j ∈ l, dst j ≠ t) → getT (stOf e dst s0 l).T t = getT s0.T t
  | [], _ => rfl
  | j :: l, h => by
    simp only [stOf, app1, getT]
    rw [if_neg (h j (by simp)), getT_stOf_other fun k hk => h k (List.mem_cons_of_mem _ hk)]

theorem getT_stOf_hit {j : Nat} : ∀ {l : List Nat}, j ∈ l → (∀ k ∈ l, dst k = dst j → k = j) → getT (stOf e dst s0 l).T (dst j) = (e j).1
  | [], h, _ => by simp at h
  | k :: l, h, hu => by
    simp only [stOf, app1, getT]
    by_cases ek : dst k = dst j
    · rw [if_pos ek, hu k (by simp) ek]
    · rw [if_neg ek]
      have hj : j ∈ l := by
        rcases List.mem_cons.1 h with rfl | h
        · exact absurd rfl ek
        · exact h
      exact getT_stOf_hit hj fun i hi => hu i (List.mem_cons_of_mem _ hi)

theorem getM_stOf_other {t : Nat} : ∀ {l : List Nat}, (∀ j ∈ l, (e j).2.isSome = true → dst j ≠ t) → getM (stOf e dst s0 l).M t = getM s0.M t
  | [], _ => rfl
  | j :: l, h => by
    have ih := getM_stOf_other (l := l) fun k hk => h k (List.mem_cons_of_mem _ hk)
    simp only [stOf, app1]
    cases hr : (e j).2 with
    | none => exact ih
    | some r =>
      simp only [getM]
      rw [if_neg (h j (by simp) (by rw [hr]; rfl)), ih]

theorem getM_stOf_hit {j : Nat} {r : Res} (hr : (e j).2 = some r) : ∀ {l : List Nat}, j ∈ l → (∀ k ∈ l, dst k = dst j → k = j) → getM (stOf e dst s0 l).M (dst j) = r
  | [], h, _ => by simp at h
  | k :: l, h, hu => by
    have hu' : ∀ i ∈ l, dst i = dst j → i = j := fun i hi => hu i (List.mem_cons_of_mem _ hi)
    simp only [stOf, app1]
    by_cases ek : dst k = dst j
    · have := hu k (by simp) ek
      subst this
      rw [hr]
      simp [getM]
    · have hj : j ∈ l := by
        rcases List.mem_cons.1 h with rfl | h
        · exact absurd rfl ek
        · exact h
      cases hk : (e k).2 with
      | none => exact getM_stOf_hit hr hj hu'
      | some r' =>
        simp only [getM]
        rw [if_neg ek]
        exact getM_stOf_hit hr hj hu'

theorem stOf_allT {p : Nat × PV → Bool} : ∀ {l : List Nat}, (stOf e dst s0 l).T.all p = true ↔ s0.T.all p = true ∧ ∀ j ∈ l, p (dst j, (e j).1) = true
  | [] => by simp [stOf]
  | j :: l => by
    have ih := stOf_allT (p := p) (l := l)
    simp only [stOf, app1, List.all_cons, Bool.and_eq_true, ih, List.mem_cons]
    constructor
    · rintro ⟨h1, h2, h3⟩
      exact ⟨h2, fun k hk => by rcases hk with rfl | hk; exact h1; exact h3 k hk⟩
    · rintro ⟨h1, h2⟩
      exact ⟨h2 j (.inl rfl), h1, fun k hk => h2 k (.inr hk)⟩

theorem stOf_allM {p : Nat × Res → Bool} : ∀ {l : List Nat}, (stOf e dst s0 l).M.all p = true ↔ s0.M.all p = true ∧ ∀ j ∈ l, ∀ r, (e j).2 = some r → p (dst j, r) = true
  | [] => by simp [stOf]
  | j :: l => by
    have ih := stOf_allM (p := p) (l := l)
    simp only [stOf, app1]
    cases hr : (e j).2 with
    | none =>
      simp only [ih, List.mem_cons]
      constructor
      · rintro ⟨h2, h3⟩
        exact ⟨h2, fun k hk r hkr => by
          rcases hk with rfl | hk
          · rw [hr] at hkr; cases hkr
          · exact h3 k hk r hkr⟩
      · rintro ⟨h1, h2⟩
        exact ⟨h1, fun k hk => h2 k (.inr hk)⟩
    | some r0 =>
      simp only [List.all_cons, Bool.and_eq_true, ih, List.mem_cons]
      constructor
      · rintro ⟨h1, h2, h3⟩
        exact ⟨h2, fun k hk r hkr => by
          rcases hk with rfl | hk
          · rw [hr] at hkr; cases hkr; exact h1
          · exact h3 k hk r hkr⟩
      · rintro ⟨h1, h2⟩
        exact ⟨h2 j (.inl rfl) r0 hr, h1, fun k hk => h2 k (.inr hk)⟩

end

def cnt (p : Nat → Bool) : Nat → Nat
  | 0 => 0
  | n + 1 => cnt p n + if p n then 1 else 0

theorem cnt_zero {p : Nat → Bool} : ∀ {n : Nat}, cnt p n = 0 → ∀ i, i < n → p i = false
  | 0, _, i, hi => by omega
  | n + 1, h, i, hi => by
    simp only [cnt] at h
    by_cases e : i = n
    · subst e
      cases hp : p i with
      | false => rfl
      | true => rw [hp] at h; simp at h
    · exact cnt_zero (n := n) (by omega) i (by omega)

theorem cnt_one {p p' : Nat → Bool} {i : Nat} (hi : p i = true) (hp : ∀ j, p' j = (p j && j != i)) : ∀ {n : Nat}, i < n → cnt p n = cnt p' n + 1
  | 0, h => by omega
  | n + 1, h => by
    simp only [cnt]
    by_cases e : i = n
    · subst e
      have : ∀ m, m ≤ i → cnt p' m = cnt p m := by
        intro m
        induction m with
        | zero => intro _; rfl
        | succ m ih =>
          intro hm
          simp only [cnt]
          rw [ih (by omega), hp m]
          have : (m != i) = true := by simp; omega
          simp [this]
      rw [this i (Nat.le_refl _), hp i, hi]
      simp
    · rw [cnt_one hi hp (n := n) (by omega), hp n]
      have : (n != i) = true := by simp; omega
      simp only [this, Bool.and_true]
      omega

section
variable {P : Program} {n : Nat} {ops : Array Oper} {w0 : Base} {F0 : Nat → Prop}

theorem ready_iff {listed : Array Bool} {i : Nat} : i ∈ Region.ready .any ops listed ↔ ∃ o, ops[i]? = some o ∧ listed.getD i true = false ∧ ∀ e ∈ o.after.toList, Region.binds .any e = true → listed.getD e.on false = true := by
  simp only [Region.ready, List.mem_filter, List.mem_range, Bool.and_eq_true, Bool.not_eq_true']
  constructor
  · rintro ⟨hi, h1, h2⟩
    refine ⟨ops[i], by simp [hi], h1, fun e he hb => ?_⟩
    simp only [hi, Array.getElem?_eq_getElem, Option.map_some, Option.getD_some, Array.all_eq_true'] at h2
    have := h2 e (by simpa using he)
    simpa [hb] using this
  · rintro ⟨o, ho, h1, h2⟩
    refine ⟨(Array.getElem?_eq_some_iff.1 ho).1, h1, ?_⟩
    rw [ho]
    simp only [Option.map_some, Option.getD_some, Array.all_eq_true']
    intro e he
    cases hb : Region.binds .any e with
    | false => simp
    | true => simp [h2 e (by simpa using he) hb]

/-- The run of a region in any order: what has been done is what the plan says. -/
theorem draw_any {m : Nat} {As D : List Nat} (hp : Passes ops m As D) {e : Nat → PV × Option Res} {s0 : StL} {K : StL → Prop} {Q : Exit → Act → World → Prop} (hg : ∀ j, j < m → GoodAt P n ops As e s0 j)
    (hrest : RunW P n ops (ops.toList.drop m) (stOf e (dstAt ops) s0 (desc m)) K) (hK : ∀ s' a' w', K s' → Sim w0 F0 n s' a' w' → Q .normal a' w') :
    ∀ (fuel : Nat) (listed : Array Bool) (a : Act) (w : World), listed.size = ops.size → cnt (fun i => !listed.getD i true) ops.size ≤ fuel →
      ((∃ l : List Nat, (∀ i, i < ops.size → (listed.getD i true = true ↔ i ∈ l)) ∧ (∀ i ∈ l, i < m) ∧ (∀ i ∈ l, ∀ k, dep D k i = true → k ∈ l) ∧ Sim w0 F0 n (stOf e (dstAt ops) s0 l) a w) ∨
       (∃ k, m ≤ k ∧ k ≤ ops.size ∧ (∀ i, i < ops.size → (listed.getD i true = true ↔ i < k)) ∧ wpList P ops Q (ops.toList.drop k) a w)) →
      wpAny P .any ops Q fuel listed a w := by
  -- the second half: one after the other
  have two : ∀ (fuel : Nat) (listed : Array Bool) (a : Act) (w : World), listed.size = ops.size → cnt (fun i => !listed.getD i true) ops.size ≤ fuel →
      (∃ k, m ≤ k ∧ k ≤ ops.size ∧ (∀ i, i < ops.size → (listed.getD i true = true ↔ i < k)) ∧ wpList P ops Q (ops.toList.drop k) a w) → wpAny P .any ops Q fuel listed a w := by
    intro fuel
    have hend : ∀ (listed : Array Bool) (a : Act) (w : World) (k : Nat), listed.size = ops.size → m ≤ k → k ≤ ops.size → (∀ i, i < ops.size → (listed.getD i true = true ↔ i < k)) → wpList P ops Q (ops.toList.drop k) a w →
        Region.ready .any ops listed = [] → Q .normal a w := by
      intro listed a w k hs hmk hk hl hw hr
      have hkn : k = ops.size := by
        rcases Nat.lt_or_ge k ops.size with hlt | hge
        · exfalso
          have : k ∈ Region.ready .any ops listed := ready_iff.2 ⟨ops[k], by simp [hlt], by
            cases hx : listed.getD k true with
            | false => rfl
            | true => exact absurd ((hl k hlt).1 hx) (by omega), fun e he hb => by
            have := hp.back k ops[k] e (by simp [hlt]) he hb
            have h2 := (hl e.on (by omega)).2 this
            simpa [Array.getD_eq_getD_getElem?, show e.on < listed.size by omega] using h2⟩
          rw [hr] at this
          simp at this
        · omega
      rw [hkn, List.drop_of_length_le (by simp)] at hw
      exact hw
    induction fuel with
    | zero =>
      rintro listed a w hs hc ⟨k, hmk, hk, hl, hw⟩
      have hr : Region.ready .any ops listed = [] := by
        rw [List.eq_nil_iff_forall_not_mem]
        intro i hi
        obtain ⟨o, ho, h1, _⟩ := ready_iff.1 hi
        have := cnt_zero (by omega : cnt (fun i => !listed.getD i true) ops.size = 0) i (Array.getElem?_eq_some_iff.1 ho).1
        simp [h1] at this
      exact ⟨hr, hend listed a w k hs hmk hk hl hw hr⟩
    | succ fuel ih =>
      rintro listed a w hs hc ⟨k, hmk, hk, hl, hw⟩
      refine ⟨fun hr => hend listed a w k hs hmk hk hl hw hr, fun i hi => ?_⟩
      obtain ⟨o, ho, h1, h2⟩ := ready_iff.1 hi
      have hin : i < ops.size := (Array.getElem?_eq_some_iff.1 ho).1
      have hik : i = k := by
        have hge : ¬ i < k := fun h => by rw [(hl i hin).2 h] at h1; cases h1
        rcases Nat.lt_or_ge k i with hlt | hge'
        · exfalso
          have hd := hp.seq i k (by omega) hin hlt
          -- its predecessors are listed, all the way
          have : ∀ i, i < ops.size → (∀ o, ops[i]? = some o → ∀ e ∈ o.after.toList, Region.binds .any e = true → e.on < k) → dep D k i = true → False := by
            intro i hi hb hd
            obtain ⟨e, he, hbe, hke⟩ := hp.fix i ops[i] k (by simp [hi]) hd
            have he1 := hb ops[i] (by simp [hi]) e he hbe
            rcases hke with rfl | hke
            · omega
            · -- an edge to something below k that waits for k
              have : ∀ j, j < k → dep D k j = true → False := by
                intro j
                induction j using Nat.strongRecOn with
                | _ j ihj =>
                  intro hj hdj
                  have hjn : j < ops.size := by omega
                  obtain ⟨e, he, hbe, hke⟩ := hp.fix j ops[j] k (by simp [hjn]) hdj
                  have := hp.back j ops[j] e (by simp [hjn]) he hbe
                  rcases hke with rfl | hke
                  · omega
                  · exact ihj e.on this (by omega) hke
              exact this e.on he1 hke
          refine this i hin (fun o' ho' e he hb => ?_) hd
          rw [ho] at ho'
          cases ho'
          have h3 := h2 e he hb
          have hen : e.on < ops.size := by have := hp.back i o e ho he hb; omega
          exact (hl e.on hen).1 (by simpa [Array.getD_eq_getD_getElem?, show e.on < listed.size by omega] using h3)
        · omega
      subst hik
      have hdrop : ops.toList.drop i = o :: ops.toList.drop (i + 1) := by
        rw [List.drop_eq_getElem_cons (by simpa using hin)]
        have : ops[i] = o := by simpa [hin] using ho
        simp [this]
      rw [hdrop] at hw
      have hset : ∀ j, (listed.setIfInBounds i true).getD j true = (listed.getD j true || j == i) := by
        intro j
        simp only [Array.getD_eq_getD_getElem?, Array.getElem?_setIfInBounds]
        by_cases e : i = j
        · subst e; simp [show i < listed.size by omega]
        · have e' : (j == i) = false := by simp; omega
          simp [e, e']
      have next : ∀ a' w', wpList P ops Q (ops.toList.drop (i + 1)) a' w' → wpAny P .any ops Q fuel (listed.setIfInBounds i true) a' w' := by
        intro a' w' hw'
        refine ih _ _ _ (by simpa using hs) ?_ ⟨i + 1, by omega, by omega, fun j hj => ?_, hw'⟩
        · have := cnt_one (p := fun i => !listed.getD i true) (p' := fun j => !(listed.setIfInBounds i true).getD j true) (i := i) (by simp [h1]) (fun j => by simp only [hset]; simp [bne]) hin
          omega
        · rw [hset]
          simp only [Bool.or_eq_true, beq_iff_eq]
          rw [hl j hj]
          omega
      unfold wpOp
      rw [ho]
      simp only [wpList] at hw ⊢
      split
      · rename_i hw1
        rw [if_pos hw1] at hw
        exact hw.imp (Oper.wp_mono next) id
      · rename_i hw1
        rw [if_neg hw1] at hw
        exact next _ _ hw
  intro fuel
  -- at the turn
  have turn : ∀ (l : List Nat) (a : Act) (w : World), (∀ i ∈ l, i < m) → (∀ i, i < m → i ∈ l) → Sim w0 F0 n (stOf e (dstAt ops) s0 l) a w → wpList P ops Q (ops.toList.drop m) a w := by
    intro l a w h1 h2 h3
    refine runW_wp _ (h3.weak ⟨fun t => .inl ?_, fun q => .inl ?_⟩) hrest hK
    · by_cases ht : ∃ j, j < m ∧ dstAt ops j = t
      · obtain ⟨j, hj, rfl⟩ := ht
        rw [getT_stOf_hit (mem_desc.2 hj) (fun k hk hd => hp.uniq k j (mem_desc.1 hk) hj hd), getT_stOf_hit (h2 j hj) (fun k hk hd => hp.uniq k j (h1 k hk) hj hd)]
      · rw [getT_stOf_other fun j hj hd => ht ⟨j, mem_desc.1 hj, hd⟩, getT_stOf_other fun j hj hd => ht ⟨j, h1 j hj, hd⟩]
    · by_cases ht : ∃ j, j < m ∧ dstAt ops j = q ∧ (e j).2.isSome = true
      · obtain ⟨j, hj, rfl, hs⟩ := ht
        obtain ⟨r, hr⟩ := Option.isSome_iff_exists.1 hs
        rw [getM_stOf_hit hr (mem_desc.2 hj) (fun k hk hd => hp.uniq k j (mem_desc.1 hk) hj hd), getM_stOf_hit hr (h2 j hj) (fun k hk hd => hp.uniq k j (h1 k hk) hj hd)]
      · rw [getM_stOf_other fun j hj hs hd => ht ⟨j, mem_desc.1 hj, hd, hs⟩, getM_stOf_other fun j hj hs hd => ht ⟨j, h1 j hj, hd, hs⟩]
  -- where nothing is ready all has been done
  have none_ready : ∀ (listed : Array Bool) (l : List Nat), listed.size = ops.size → (∀ i, i < ops.size → (listed.getD i true = true ↔ i ∈ l)) → Region.ready .any ops listed = [] → ∀ i, i < ops.size → i ∈ l := by
    intro listed l hs hl hr i
    induction i using Nat.strongRecOn with
    | _ i ih =>
      intro hi
      cases hx : listed.getD i true with
      | true => exact (hl i hi).1 hx
      | false =>
        exfalso
        have : i ∈ Region.ready .any ops listed := ready_iff.2 ⟨ops[i], by simp [hi], hx, fun e he hb => by
          have h1 := hp.back i ops[i] e (by simp [hi]) he hb
          have h2 := (hl e.on (by omega)).2 (ih e.on h1 (by omega))
          simpa [Array.getD_eq_getD_getElem?, show e.on < listed.size by omega] using h2⟩
        rw [hr] at this
        simp at this
  induction fuel with
  | zero =>
    rintro listed a w hs hc (⟨l, hl, hlm, hcl, hsim⟩ | h2)
    · have hr : Region.ready .any ops listed = [] := by
        rw [List.eq_nil_iff_forall_not_mem]
        intro i hi
        obtain ⟨o, ho, h1, _⟩ := ready_iff.1 hi
        have := cnt_zero (by omega : cnt (fun i => !listed.getD i true) ops.size = 0) i (Array.getElem?_eq_some_iff.1 ho).1
        simp [h1] at this
      have hall := none_ready listed l hs hl hr
      have hmn : m = ops.size := by
        rcases Nat.lt_or_ge m ops.size with hlt | hge
        · exact absurd (hlm m (hall m hlt)) (by omega)
        · have := hp.le; omega
      exact two 0 listed a w hs hc ⟨m, Nat.le_refl _, hp.le, fun i hi => by rw [hl i hi]; exact ⟨hlm i, fun h => hall i hi⟩, turn l a w hlm (fun i hi => hall i (by omega)) hsim⟩
    · exact two 0 listed a w hs hc h2
  | succ fuel ih =>
    rintro listed a w hs hc (⟨l, hl, hlm, hcl, hsim⟩ | h2)
    · by_cases hfull : ∀ i, i < m → i ∈ l
      · exact two (fuel + 1) listed a w hs hc ⟨m, Nat.le_refl _, hp.le, fun i hi => by rw [hl i hi]; exact ⟨hlm i, fun h => hfull i h⟩, turn l a w hlm hfull hsim⟩
      · refine ⟨fun hr => absurd (fun i hi => none_ready listed l hs hl hr i (by have := hp.le; omega)) hfull, fun i hi => ?_⟩
        obtain ⟨o, ho, h1, h2⟩ := ready_iff.1 hi
        have hin : i < ops.size := (Array.getElem?_eq_some_iff.1 ho).1
        have hnl : i ∉ l := fun h => by rw [(hl i hin).2 h] at h1; cases h1
        have hdeps : ∀ k, dep D k i = true → k ∈ l := by
          intro k hk
          obtain ⟨e, he, hb, hke⟩ := hp.fix i o k ho hk
          have hen := hp.back i o e ho he hb
          have h3 := h2 e he hb
          have hel : e.on ∈ l := (hl e.on (by omega)).1 (by simpa [Array.getD_eq_getD_getElem?, show e.on < listed.size by omega] using h3)
          rcases hke with rfl | hke
          · exact hel
          · exact hcl e.on hel k hke
        have him : i < m := by
          rcases Nat.lt_or_ge i m with h | h
          · exact h
          · exfalso
            exact hfull fun j hj => hdeps j (hp.seq i j h hin (by omega))
        obtain ⟨o', d, ho', hd, hdn, heff, hborn⟩ := hg i him
        rw [ho] at ho'
        cases ho'
        have hda : dstAt ops i = d := by simp [dstAt, ho, hd]
        -- what it looks at is as in the order of the text
        have hlook : ∀ t ∈ o.looksAt ops, getT (stOf e (dstAt ops) s0 l).T t = getT (stOf e (dstAt ops) s0 (desc i)).T t := by
          intro t ht
          by_cases hj : ∃ j, j < m ∧ dstAt ops j = t
          · obtain ⟨j, hj, rfl⟩ := hj
            rcases hp.look i o _ j him ho ht hj rfl with rfl | ⟨hji, hdj⟩ | ⟨hij, hdi⟩
            · rw [getT_stOf_other fun k hk hd' => hnl (by rw [← hp.uniq k j (hlm k hk) hj hd']; exact hk), getT_stOf_other fun k hk hd' => by
                have := mem_desc.1 hk
                have := hp.uniq k j (by omega) hj hd'
                omega]
            · rw [getT_stOf_hit (hdeps j hdj) (fun k hk hd' => hp.uniq k j (hlm k hk) hj hd'), getT_stOf_hit (mem_desc.2 hji) (fun k hk hd' => hp.uniq k j (by have := mem_desc.1 hk; omega) hj hd')]
            · rw [getT_stOf_other fun k hk hd' => by
                have := hp.uniq k j (hlm k hk) hj hd'
                subst this
                exact hnl (hcl k hk i hdi), getT_stOf_other fun k hk hd' => by
                have := mem_desc.1 hk
                have := hp.uniq k j (by omega) hj hd'
                omega]
          · rw [getT_stOf_other fun k hk hd' => hj ⟨k, hlm k hk, hd'⟩, getT_stOf_other fun k hk hd' => hj ⟨k, by have := mem_desc.1 hk; omega, hd'⟩]
        have hmem : MLe (stOf e (dstAt ops) s0 (desc i)) (stOf e (dstAt ops) s0 l) := by
          intro q
          by_cases hj : ∃ j, j < i ∧ dstAt ops j = q ∧ (e j).2.isSome = true
          · obtain ⟨j, hj, rfl, hsj⟩ := hj
            obtain ⟨r, hr⟩ := Option.isSome_iff_exists.1 hsj
            obtain ⟨_, _, _, _, _, _, hbj⟩ := hg j (by omega)
            have hjl : j ∈ l := hdeps j (hp.born j i (by omega) him (hbj hsj).1 hj)
            right
            rw [getM_stOf_hit hr (mem_desc.2 hj) (fun k hk hd' => hp.uniq k j (by have := mem_desc.1 hk; omega) (by omega) hd'), getM_stOf_hit hr hjl (fun k hk hd' => hp.uniq k j (hlm k hk) (by omega) hd')]
          · have e1 : getM (stOf e (dstAt ops) s0 (desc i)).M q = getM s0.M q := getM_stOf_other fun k hk hsk hd' => hj ⟨k, mem_desc.1 hk, hd', hsk⟩
            rw [e1]
            by_cases hj2 : ∃ j, j ∈ l ∧ dstAt ops j = q ∧ (e j).2.isSome = true
            · obtain ⟨j, hjl, rfl, hsj⟩ := hj2
              left
              obtain ⟨o2, d2, ho2, hd2, _, _, hbj⟩ := hg j (hlm j hjl)
              have hda2 : dstAt ops j = d2 := by simp [dstAt, ho2, hd2]
              have hf := (hbj hsj).2
              simp only [StL.free, Bool.and_eq_true] at hf
              have h5 := Res.eq_dead hf.2.1
              rw [← hda2] at h5
              rwa [getM_stOf_other fun k hk hsk hd' => by
                have h6 := mem_desc.1 hk
                have := hp.uniq k j (by have := hlm j hjl; omega) (hlm j hjl) hd'
                omega] at h5
            · right
              exact getM_stOf_other fun k hk hsk hd' => hj2 ⟨k, hk, hd', hsk⟩
        have heff' := heff.move hmem hlook
        have hfree : (e i).2.isSome = true → (stOf e (dstAt ops) s0 l).free d = true := by
          intro hsi
          obtain ⟨hA, hf⟩ := hborn hsi
          have hsub : ∀ j ∈ l, j < i := by
            intro j hj
            rcases Nat.lt_trichotomy j i with h | h | h
            · exact h
            · subst h; exact absurd hj hnl
            · exact absurd (hcl j hj i (hp.born i j him (hlm j hj) hA h)) hnl
          simp only [StL.free, Bool.and_eq_true] at hf ⊢
          obtain ⟨⟨hf1, hf2⟩, hf3, hf6⟩ := hf
          rw [stOf_allT] at hf1
          rw [stOf_allM] at hf2
          refine ⟨⟨stOf_allT.2 ⟨hf1.1, fun j hj => hf1.2 j (mem_desc.2 (hsub j hj))⟩, stOf_allM.2 ⟨hf2.1, fun j hj => hf2.2 j (mem_desc.2 (hsub j hj))⟩⟩, ?_, hf6⟩
          have h5 := Res.eq_dead hf3
          rw [← hda] at h5 ⊢
          rw [getM_stOf_other fun k hk hsk hd' => by
            have h6 := mem_desc.1 hk
            have := hp.uniq k i (by omega) him hd'
            omega] at h5
          rw [getM_stOf_other fun k hk hsk hd' => by
            have h6 := hsub k hk
            have := hp.uniq k i (by omega) him hd'
            omega, h5]
          rfl
        have heq : (fun q r => q = (e i).1 ∧ r = (e i).2) = fun q' r' => q' = (e i).1 ∧ r' = (e i).2 := rfl
        refine effW_wpOp ho hd hdn hsim heff' hfree fun a' w' hsim' => ?_
        have hset : ∀ j, (listed.setIfInBounds i true).getD j true = (listed.getD j true || j == i) := by
          intro j
          simp only [Array.getD_eq_getD_getElem?, Array.getElem?_setIfInBounds]
          by_cases e : i = j
          · subst e; simp [show i < listed.size by omega]
          · have e' : (j == i) = false := by simp; omega
            simp [e, e']
        refine ih _ _ _ (by simpa using hs) ?_ (.inl ⟨i :: l, fun j hj => ?_, fun j hj => ?_, fun j hj k hk => ?_, ?_⟩)
        · have := cnt_one (p := fun i => !listed.getD i true) (p' := fun j => !(listed.setIfInBounds i true).getD j true) (i := i) (by simp [h1]) (fun j => by simp only [hset]; simp [bne]) hin
          omega
        · rw [hset, Bool.or_eq_true, hl j hj, List.mem_cons, beq_iff_eq]
          exact Or.comm
        · rcases List.mem_cons.1 hj with rfl | hj
          · exact him
          · exact hlm j hj
        · rcases List.mem_cons.1 hj with rfl | hj
          · exact List.mem_cons_of_mem _ (hdeps k hk)
          · exact List.mem_cons_of_mem _ (hcl j hj k hk)
        · simp only [stOf, hda]
          exact hsim'
    · exact two (fuel + 1) listed a w hs hc h2

/-- A region that draws its order. -/
theorem cw_draw {id m : Nat} {As : List Nat} {s : StL} {Q : Exit → StL → Prop} (hm : P.follows .mixedOrders = true) (hok : drawOk ops m As (depsOf ops) = true)
    (h : ∀ K : StL → Prop, (∀ s', Q .normal s' → K s') → DrawW P n ops m As 0 ops.toList s K) : CodeW P n (.region id ops true) s Q := by
  intro w0 F0 a w hs
  have hp := passes_of hok
  obtain ⟨e, _, hgood, hrest⟩ := drawW_plan (P := P) (n := n) (ops := ops) hp.le m 0 (fun _ => (.undef, none)) (by omega) (by simpa [desc, stOf] using h _ fun s' hs' => hs')
  refine wp_region_any hm ?_
  have hs' : Sim w0 F0 n s a { w with drawn := w.drawn + 1 } := by
    obtain ⟨φ, fp, hx⟩ := hs
    exact ⟨φ, fp, hx.same rfl rfl rfl rfl⟩
  refine draw_any (w0 := w0) (F0 := F0) (K := fun s' => Q .normal s') hp (fun j hj => hgood j (Nat.zero_le _) hj) hrest (fun s' a' w' h1 h2 => ⟨s', h1, h2⟩) ops.size _ _ _ (by simp) ?_ (.inl ⟨[], fun i hi => ?_, by simp, by simp, hs'⟩)
  · have : ∀ k, cnt (fun i => !(Array.replicate ops.size false).getD i true) k ≤ k := by
      intro k
      induction k with
      | zero => simp [cnt]
      | succ k ih => simp only [cnt]; split <;> omega
    exact this _
  · simp [Array.getD_eq_getD_getElem?, hi]

end
end Go.PS
