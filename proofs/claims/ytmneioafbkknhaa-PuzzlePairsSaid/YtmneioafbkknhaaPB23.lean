import Derived.Test.YtmneioafbkknhaaPB22
/- PB23: maps from numbers to numbers; values, rows. -/
set_option linter.unusedVariables false
set_option linter.unusedSimpArgs false
set_option maxRecDepth 20000
namespace Go.Proofs.Ytmneioafbkknhaa
open Go Go.PS
attribute [-simp] List.map_take
@[simp] theorem mapT100 : mapT Try.prog 100 = some (3, 3) := by kernel_rfl
@[simp] theorem keyD3 : keyD Try.prog 3 = some (.int .i64) := by kernel_rfl
@[simp] theorem zV3 : zV Try.prog 3 = some (.int .i64 0) := by kernel_rfl
@[simp] theorem isKeyI (v : Int) : isKeyB (.int .i64) (.int .i64 v) = true := rfl
/-- A map's entries, of numbers. -/
def mI (l : List (Int × Int)) : List (Value × TL) := l.map fun p => (.int .i64 p.1, eI p.2)
@[simp] theorem mI_nil : mI [] = [] := rfl
@[simp] theorem mI_len (l : List (Int × Int)) : (mI l).length = l.length := by simp [mI]
theorem mI_get {l : List (Int × Int)} {i : Nat} {p : Value × TL} (h : (mI l)[i]? = some p) : ∃ q, l[i]? = some q ∧ p = (.int .i64 q.1, eI q.2) := by
  rw [mI, List.getElem?_map] at h
  obtain ⟨q, hq, rfl⟩ := Option.map_eq_some_iff.1 h
  exact ⟨q, hq, rfl⟩
@[simp] theorem tget_mI (v : Int) : ∀ l : List (Int × Int), tget (.int .i64) (.int .i64 v) (mI l) = some ((l.lookup v).map eI)
  | [] => rfl
  | (k, y) :: l => by
    have ih := tget_mI v l
    simp only [mI, List.map_cons, tget, Instr.sameNow, List.lookup] at ih ⊢
    cases v == k with
    | true => rfl
    | false => exact ih
def setI : List (Int × Int) → Int → Int → List (Int × Int)
  | [], v, y => [(v, y)]
  | (k, z) :: l, v, y => if v == k then (v, y) :: l else (k, z) :: setI l v y
@[simp] theorem tset_mI (v y : Int) : ∀ l : List (Int × Int), tset (.int .i64) (.int .i64 v) (eI y) (mI l) = some (mI (setI l v y))
  | [] => rfl
  | (k, z) :: l => by
    have ih := tset_mI v y l
    simp only [mI, List.map_cons, tset, Instr.sameNow, setI] at ih ⊢
    cases v == k with
    | true => rfl
    | false =>
      simp only [if_true, ih, Option.map]
      rfl
@[simp] theorem tset_nil (v y : Int) : tset (.int .i64) (.int .i64 v) (eI y) [] = some (mI (setI [] v y)) := rfl
@[simp] theorem tget_nil (v : Int) : tget (.int .i64) (.int .i64 v) [] = some none := rfl
theorem lookup_setI (l : List (Int × Int)) (v y u : Int) : (setI l v y).lookup u = if u == v then some y else l.lookup u := by
  induction l with
  | nil =>
    simp only [setI, List.lookup]
    cases u == v <;> rfl
  | cons p l ih =>
    obtain ⟨k, z⟩ := p
    simp only [setI]
    split
    · rename_i h
      simp only [beq_iff_eq] at h
      subst h
      simp only [List.lookup]
      cases u == v <;> rfl
    · rename_i h
      simp only [List.lookup, ih]
      cases huk : u == k with
      | false => rfl
      | true =>
        have : (u == v) = false := by
          simp only [beq_iff_eq] at huk h
          subst huk
          simp
          exact fun e => h e.symm
        rw [this]
        rfl
/-- What a row says of the variables. -/
def valsF (row : Int) : List Int → Nat → List (Int × Int) → Option (List (Int × Int))
  | [], _, m => some m
  | v :: vs, i, m => if (m.lookup v).all (fun y => y == andI (shrI row i) 1) then valsF row vs (i + 1) (setI m v (andI (shrI row i) 1)) else none
def valsR : Option (List (Int × Int)) → PV
  | some _ => .tup [.omp 0, pB true]
  | none => .t .fz (.tup [.v (.map none), eB false])
def valsM : Option (List (Int × Int)) → List (Nat × Res)
  | some m => [(0, .tab .fz (mI m))]
  | none => []
theorem values_spec (c : Cn) (row : Int) (o : Option (List (Int × Int))) (h : valsF row c.vars 0 [] = o) : PCall Try.prog 105 [eCn c, eI row] (valsR o) (valsM o) := by
  refine pcall_agg 0 1 rfl rfl call105 fun hlen => ?_
  simp only [List.length_map] at hlen
  refine pcall_wp _ Try.func105 rfl (by kernel_rfl) rfl ?_
  simp -dsimp
  refine wk_loop (fun q : Nat × List (Int × Int) => ⟨[(16, pI q.1), (15, pI c.vars.length), (14, .t .ro (eIs c.vars)), (6, .omp 12), (1, .t .ro (eI row))], [(12, .tab .fz (mI q.2))]⟩)
    (fun q => q.1 ≤ c.vars.length ∧ valsF row (c.vars.drop q.1) q.1 q.2 = o) (fun q => c.vars.length - q.1) (0, []) (le_of (by simp) (by simp)) (by simpa using h) fun ⟨i, l⟩ ⟨hi, hJ⟩ => ?_
  dsimp only at hi hJ
  simp -dsimp
  refine condX_dec (fun hlt => ?_) (fun hlt => ?_)
  rotate_left
  · have e : i = c.vars.length := by omega
    subst e
    rw [List.drop_length] at hJ
    simp only [valsF] at hJ
    subst hJ
    simp -dsimp
    exact retP_own 12 (by simp; rfl) (by simp) (by simp) (by simp [valsR]) (by simp [valsM])
  have hw := wr (n := (i : Int) + 1) (by omega) (by omega)
  rw [List.drop_eq_getElem_cons hlt, valsF] at hJ
  simp -dsimp [hlt]
  cases hlk : l.lookup c.vars[i] with
  | none =>
    rw [hlk] at hJ
    simp only [Option.all_none, if_true] at hJ
    simp -dsimp [hw]
    exact LoopP_next (i + 1, setI l c.vars[i] (andI (shrI row i) 1)) (le_of (by simp) (by simp)) ⟨hlt, hJ⟩ (by simp only; omega)
  | some y =>
    rw [hlk] at hJ
    simp only [Option.all_some] at hJ
    cases hyb : y == andI (shrI row i) 1 with
    | true =>
      simp only [hyb, if_true] at hJ
      have hyn : (y != andI (shrI row i) 1) = false := by rw [bne, hyb]; rfl
      simp -dsimp [hw, hyn]
      exact LoopP_next (i + 1, setI l c.vars[i] (andI (shrI row i) 1)) (le_of (by simp) (by simp)) ⟨hlt, hJ⟩ (by simp only; omega)
    | false =>
      simp only [hyb, Bool.false_eq_true, if_false] at hJ
      subst hJ
      have hyn : (y != andI (shrI row i) 1) = true := by rw [bne, hyb]; rfl
      simp -dsimp [hyn]
      refine retP_c ?_
      simp -dsimp [valsR]
end Go.Proofs.Ytmneioafbkknhaa
