import Derived.Test.YtmneioafbkknhaaPS22
/- PS23: slices that may be nil; contracts with weaker words. -/
set_option linter.unusedVariables false
set_option linter.unusedSimpArgs false
namespace Go.PS
open Go Go.RowKit
section
variable {P : Program}

/-- A list among the arguments is nil, or it is not. -/
theorem pcall_any {f : FuncId} {args : List TL} {r : PV} {Mr : List (Nat × Res)} (i : Nat) {sz : Nat} {xs : List (List TL)} (ha : args[i]? = some (.sl .any sz xs)) (hc : Callable P f)
    (h1 : xs = [] → PCall P f (args.set i (.v (.slice none 0 0))) r Mr) (h2 : PCall P f (args.set i (.sl .nn sz xs)) r Mr) : PCall P f args r Mr := by
  refine ⟨hc, fun w S vals hS hs hr => ?_⟩
  have hi := hr i _ ha
  have hlt : i < args.length := (List.getElem?_eq_some_iff.1 ha).1
  have key : ∀ y, TRep w S y (vals.getD i Go.undef) → ∀ (j : Nat) (x : TL), (args.set i y)[j]? = some x → TRep w S x (vals.getD j Go.undef) := by
    intro y hy j x hj
    by_cases e : i = j
    · subst e
      rw [List.getElem?_set_self hlt] at hj
      cases hj
      exact hy
    · rw [List.getElem?_set_ne e] at hj
      exact hr j x hj
  generalize hu : vals.getD i Go.undef = u at hi
  cases hi with
  | sl g hcap ht hnn hnil hbd hA hlen hrep =>
    rename_i a cap
    cases a with
    | none =>
      have h0 := hnil rfl
      subst h0
      have hx : xs = [] := List.eq_nil_of_length_eq_zero (by omega)
      subst hx
      refine (h1 rfl).2 w S vals hS (by simpa using hs) (key _ ?_)
      rw [hu]
      exact .v _
    | some a =>
      refine h2.2 w S vals hS (by simpa using hs) (key _ ?_)
      rw [hu]
      exact .sl g hcap (fun h => by cases h) (fun _ => by simp) (fun h => by cases h) hbd hA hlen hrep

theorem pcall_weak {f : FuncId} {args : List TL} {k k' : Kind} {x y : TL} (h : PCall P f args (.t k x) []) (hxy : ∀ w S S' v, TRep w S x v → TRep w S' y v) : PCall P f args (.t k' y) [] := by
  refine ⟨h.1, fun w S vals hS hs hr => ?_⟩
  refine Calls.mono (h.2 w S vals hS hs hr) ?_
  rintro e w' ⟨v, φ, fp, h1, h2, h3, h4, h5, h6⟩
  exact ⟨v, φ, fp, h1, h2, h3, h4, h5, .t (hxy _ _ _ _ h6.t_inv)⟩

theorem nil_any {sz : Nat} : ∀ w S S' v, TRep w S (.v (.slice none 0 0)) v → TRep w S' (.sl .any sz []) v := by
  intro w S S' v h
  cases h
  exact .sl (t := .any) (sz := sz) (xs := []) (a := none) (cap := 0) (fun _ _ => Go.undef) (Nat.le_refl _) (fun h => by cases h) (fun h => by cases h) (fun _ => rfl) (Nat.zero_le _) (.inl rfl) (fun e he => by cases he) (fun i j e x he => by simp at he)

/-- A tree is what a function leaves, or a word for less. -/
def RetT (P : Program) (fn : Func) (s : StL) (y : TL) : Prop :=
  ∃ pv k x, resPV P s fn.results.toList = some pv ∧ frzT 6 s pv = some (k, x) ∧ ∀ w S v, TRep w S x v → TRep w S y v
def EndT (P : Program) (fn : Func) (y : TL) : Exit → StL → Prop := fun e s => (e = .normal ∨ e = .ret) ∧ RetT P fn s y
@[simp ↓] theorem EndT_normal (fn : Func) (s : StL) (y : TL) : EndT P fn y .normal s = RetT P fn s y := by simp only [EndT, true_or, true_and]
@[simp ↓] theorem EndT_ret (fn : Func) (s : StL) (y : TL) : EndT P fn y .ret s = RetT P fn s y := by simp only [EndT, or_true, true_and]
theorem retT_c {fn : Func} {s : StL} {y : TL} (h : (match resPV P s fn.results.toList with
    | some pv => frzT 6 s pv
    | none => none).map Prod.snd = some y) : RetT P fn s y := by
  obtain ⟨⟨k, y'⟩, h', e⟩ := Option.map_eq_some_iff.1 h
  cases e
  clear h
  split at h'
  · rename_i pv hpv
    exact ⟨pv, k, y', hpv, h', fun _ _ _ h => h⟩
  · cases h'
theorem retT_nil {fn : Func} {s : StL} {sz : Nat} {xs : List (List TL)} (hx : xs = []) (h : (match resPV P s fn.results.toList with
    | some pv => frzT 6 s pv
    | none => none) = some (.fz, .v (.slice none 0 0))) : RetT P fn s (.sl .any sz xs) := by
  subst hx
  split at h
  · rename_i pv hpv
    exact ⟨pv, _, _, hpv, h, fun _ _ _ h => nil_any _ _ _ _ h⟩
  · cases h

theorem pcall_wpT {f : FuncId} {fn : Func} {c : Code} {args : List TL} {y : TL} (hf : P.funcs[f]? = some fn) (hb : fn.body = some c) (hn : (fn.name == "runtime.NumGoroutine") = false)
    (h : wpk P (args.length + (fn.ntmps - args.length)) c ⟨initT 0 args, []⟩ (EndT P fn y)) : PCall P f args (.t .ro y) [] := by
  refine ⟨⟨fn, c, hf, hb, hn⟩, fun w S vals hS hsz hrep => ?_⟩
  have hsim : Sim (Base.of w S) (fun _ => False) (args.length + (fn.ntmps - args.length)) ⟨initT 0 args, []⟩ { tmps := vals ++ Array.replicate (fn.ntmps - vals.size) Go.undef, defers := [] } w := by
    refine ⟨fun _ => Go.undef, fun _ _ => False, ⟨fun m g hg => hg, fun _ _ _ h1 _ => h1.elim, fun _ _ h1 => h1.elim, fun t => ?_, Evo.refl _ _, by simp [hsz], ⟨rfl, fun _ h => h⟩, fun _ _ => rfl⟩⟩
    show PVRep _ _ _ (getT (initT 0 args) t) _
    rw [initT_get, if_pos (Nat.zero_le _), Nat.sub_zero]
    split
    · rename_i x hx
      have hlt : t < vals.size := by rw [hsz]; exact (List.getElem?_eq_some_iff.1 hx).1
      have e1 : (vals ++ Array.replicate (fn.ntmps - vals.size) Go.undef).getD t Go.undef = vals.getD t Go.undef := by
        simp [Array.getD_eq_getD_getElem?, Array.getElem?_append_left hlt]
      show PVRep _ _ _ _ ((vals ++ Array.replicate (fn.ntmps - vals.size) Go.undef).getD t Go.undef)
      rw [e1]
      exact .t ((hrep t x hx).mono (fun _ _ => rfl) fun g hg => ⟨hS g hg, fun _ h => h, .inr ⟨rfl, hg⟩⟩)
    · exact .undef _
  refine calls_of_wp hf hb (wp_mono (wpk_sound _ _ _ h (Base.of w S) (fun _ => False) _ w hsim) ?_)
  intro e a' w' ⟨s', ⟨he, pv, k, x, hpv, hfr, hxy⟩, φ, fp, hs'⟩
  obtain ⟨v, hv, hpr⟩ := resPV_run hs' hpv
  have h5 := frzT_rep hs' (fun g h => h) 6 pv k x v hfr hpr
  have h6 : TRep w' (Stb (Base.of w S) w' (fun _ _ => False) .ro) y v := hxy _ _ _ (h5.mono (fun _ _ => rfl) fun g hg => ⟨hg.1, hg.2.1, hg.2.2.imp id fun e => ⟨rfl, e.2⟩⟩)
  have fin : ∃ φ' fp', Evo (fun _ => False) w w' ∧ (∀ m, ResRep w' φ' (Stb (Base.of w S) w' fp') (getM [] m) (φ' m) (fp' m)) ∧ (∀ m m' g, fp' m g → fp' m' g → m = m') ∧
      (∀ m g, fp' m g → w.heap.size ≤ g ∧ g < w'.heap.size) ∧ PVRep w' φ' (Stb (Base.of w S) w' fp') (.t .ro y) v :=
    ⟨fun _ => Go.undef, fun _ _ => False, hs'.evo, fun m g hg => hg, fun _ _ _ h1 _ => h1.elim, fun _ _ h1 => h1.elim, .t h6⟩
  obtain ⟨φ', fp', h1, h2, h3, h4, h5⟩ := fin
  rcases he with rfl | rfl
  · exact ⟨hs'.dfr.1, v, hv, v, φ', fp', rfl, h1, h2, h3, h4, h5⟩
  · exact ⟨hs'.dfr.1, v, hv, v, φ', fp', rfl, h1, h2, h3, h4, h5⟩
end
end Go.PS
