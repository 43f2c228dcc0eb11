/- PS15: bounds that every argument keeps; small words for trees. -/
import Derived.Test.YtmneioafbkknhaaPS14
set_option linter.unusedVariables false
set_option linter.unusedSimpArgs false
namespace Go.PS
open Go Go.RowKit

/-- A list among the arguments has a length that memory bears. -/
theorem pcall_sl {P : Program} {f : FuncId} {args : List TL} {r : PV} {Mr : List (Nat × Res)} (i : Nat) {t : SF} {sz : Nat} {xs : List (List TL)} (ha : args[i]? = some (.sl t sz xs)) (hc : Callable P f)
    (h : xs.length ≤ 140737488355328 → PCall P f args r Mr) : PCall P f args r Mr := by
  refine ⟨hc, fun w S vals hS hs hr => ?_⟩
  have := hr i _ ha
  generalize vals.getD i Go.undef = u at this
  have hb : xs.length ≤ 140737488355328 := by
    cases this with
    | sl g hcap ht hnn hnil hbd => exact hbd
  exact (h hb).2 w S vals hS hs hr

theorem pcall_agg {P : Program} {f : FuncId} {args : List TL} {r : PV} {Mr : List (Nat × Res)} (i j : Nat) {cs : List TL} {t : SF} {sz : Nat} {xs : List (List TL)} (ha : args[i]? = some (.agg cs)) (hj : cs[j]? = some (.sl t sz xs)) (hc : Callable P f)
    (h : xs.length ≤ 140737488355328 → PCall P f args r Mr) : PCall P f args r Mr := by
  refine ⟨hc, fun w S vals hS hs hr => ?_⟩
  have := hr i _ ha
  generalize vals.getD i Go.undef = u at this
  have hb : xs.length ≤ 140737488355328 := by
    cases this with
    | agg vs hs hrep =>
      have := hrep j _ hj
      generalize vs.getD j Go.undef = u at this
      cases this with
      | sl g hcap ht hnn hnil hbd => exact hbd
  exact (h hb).2 w S vals hS hs hr

theorem callable_of {P : Program} {f : FuncId} {fn : Func} {c : Code} (hf : P.funcs[f]? = some fn) (hb : fn.body = some c) (hn : (fn.name == "runtime.NumGoroutine") = false) : Callable P f := ⟨fn, c, hf, hb, hn⟩

abbrev eI (n : Int) : TL := .v (.int .i64 n)
abbrev eB (b : Bool) : TL := .v (.bool b)
def cI (n : Int) : List TL := [eI n]
def eIs (xs : List Int) : TL := .sl .any 1 (xs.map cI)
abbrev pI (n : Int) : PV := .t .fz (.v (.int .i64 n))
abbrev pB (b : Bool) : PV := .t .fz (.v (.bool b))

theorem getD_map {α : Type} [Inhabited α] (f : α → List TL) (xs : List α) (i : Nat) (h : i < xs.length) : (xs.map f).getD i [] = f (xs.getD i default) := by
  simp [List.getD_eq_getElem?_getD, h]

theorem wrap_id {n : Int} (h0 : -9223372036854775808 ≤ n) (h1 : n ≤ 9223372036854775807) : IntKind.i64.wrap n = n := by
  rw [IntKind.wrap_i64]; omega

end Go.PS
