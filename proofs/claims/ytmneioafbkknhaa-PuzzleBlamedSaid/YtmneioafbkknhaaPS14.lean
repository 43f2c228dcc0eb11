/- PS14: a function's contract out of its body. -/
import Derived.Test.YtmneioafbkknhaaPS13
set_option linter.unusedVariables false
set_option linter.unusedSimpArgs false
namespace Go.PS
open Go Go.RowKit

def optK (f : PV → Option (Kind × TL)) : List PV → Option (Kind × List TL)
  | [] => some (.fz, [])
  | p :: l => match f p, optK f l with
    | some (b, x), some (b', xs) => some (b.join b', x :: xs)
    | _, _ => none

/-- Memory of our own, given up: a tree. -/
def frzT : Nat → StL → PV → Option (Kind × TL)
  | 0, _, _ => none
  | d + 1, s, p => match p with
    | .t _ (.v x) => some (.fz, .v x)
    | .t k x => some (k, x)
    | .osl m => match getM s.M m with
      | .row _ sz k xs => some (k, .sl .any sz xs)
      | _ => none
    | .ptr m off => match getM s.M m with
      | .blk _ cs => match optK (frzT d s) cs with
        | some (k, xs) => some (k, .rp xs off)
        | none => none
      | _ => none
    | .clo f caps => match optK (frzT d s) caps with
      | some (k, xs) => some (k, .clo f xs)
      | none => none
    | .agg cs => match optK (frzT d s) cs with
      | some (k, xs) => some (k, .agg xs)
      | none => none
    | .tup cs => match optK (frzT d s) cs with
      | some (k, xs) => some (k, .tup xs)
      | none => none
    | _ => none

def resOne (P : Program) (s : StL) : ResultVar → Option PV
  | .tmp t => some (getT s.T t)
  | .cell a t => match szT P t, aggT P t with
    | some sz, some ag => loadPV s (getT s.T a) sz ag
    | _, _ => none

def resL (P : Program) (s : StL) : List ResultVar → Option (List PV)
  | [] => some []
  | r :: l => match resOne P s r, resL P s l with
    | some p, some ps => some (p :: ps)
    | _, _ => none

def resPV (P : Program) (s : StL) (l : List ResultVar) : Option PV :=
  match resL P s l with
  | some [p] => some p
  | some ps => some (.tup ps)
  | none => none

def initT : Nat → List TL → List (Nat × PV)
  | _, [] => []
  | i, x :: l => (i, .t .ro x) :: initT (i + 1) l

section
variable {P : Program} {w0 : Base} {F0 : Nat → Prop} {n : Nat} {s : StL} {a : Act} {w : World} {φ : Nat → Value} {fp : Nat → Nat → Prop}

theorem Stb.join1 {k k' : Kind} {g : Nat} (h : Stb w0 w fp k g) : Stb w0 w fp (k.join k') g := by
  cases k <;> cases k' <;> first | exact h | exact ⟨h.1, h.2.1, h.2.2.imp id fun e => ⟨rfl, e.2⟩⟩

theorem optK_rep {fp' : Nat → Nat → Prop} {f : PV → Option (Kind × TL)} (hf : ∀ p k x v, f p = some (k, x) → PVRep w φ (Stb w0 w fp) p v → TRep w (Stb w0 w fp' k) x v) : ∀ {ps : List PV} {k : Kind} {xs : List TL}, optK f ps = some (k, xs) →
    xs.length = ps.length ∧ ∀ (vs : Nat → Value), (∀ (j : Nat) (p : PV), ps[j]? = some p → PVRep w φ (Stb w0 w fp) p (vs j)) → ∀ (j : Nat) (x : TL), xs[j]? = some x → TRep w (Stb w0 w fp' k) x (vs j)
  | [], k, xs, h => by
    simp only [optK, Option.some.injEq, Prod.mk.injEq] at h
    obtain ⟨rfl, rfl⟩ := h
    exact ⟨rfl, fun vs _ j x hx => by simp at hx⟩
  | p :: ps, k, xs, h => by
    simp only [optK] at h
    split at h
    · rename_i k1 x k2 xs' h1 h2
      simp only [Option.some.injEq, Prod.mk.injEq] at h
      obtain ⟨rfl, rfl⟩ := h
      obtain ⟨hl, hr⟩ := optK_rep hf h2
      refine ⟨by simp [hl], fun vs hv j y hy => ?_⟩
      cases j with
      | zero =>
        simp at hy
        subst hy
        exact (hf p k1 x _ h1 (hv 0 p (by simp))).join k2
      | succ j =>
        rw [Kind.join_comm]
        exact (hr (fun j => vs (j + 1)) (fun j p hp => hv (j + 1) p (by simpa using hp)) j y (by simpa using hy)).join k1
    · cases h

theorem frzT_rep (h : SimX w0 F0 n s a w φ fp) (hF0 : ∀ g, F0 g → w0.F g) : ∀ (d : Nat) (p : PV) (k : Kind) (x : TL) (v : Value), frzT d s p = some (k, x) → PVRep w φ (Stb w0 w fp) p v → TRep w (Stb w0 w (fun _ _ => False) k) x v
  | 0, p, k, x, v, hq, _ => by simp [frzT] at hq
  | d + 1, p, k, x, v, hq, hp => by
    have ih := frzT_rep h hF0 d
    have hS : ∀ k g, Stb w0 w fp k g → Stb w0 w (fun _ _ => False) k g := fun k g hg => ⟨hg.1, fun _ h => h, hg.2.2⟩
    have hnew : ∀ k m g, fp m g → Stb w0 w (fun _ _ => False) k g := fun k m g hg => ⟨(h.old m g hg).1, fun _ h => h, .inl ((h.old m g hg).2.elim (fun e => .inr (hF0 g e)) .inl)⟩
    cases p with
    | t k' y =>
      cases y with
      | v x' =>
        simp only [frzT, Option.some.injEq, Prod.mk.injEq] at hq
        obtain ⟨rfl, rfl⟩ := hq
        have := hp.t_inv.v_inv
        subst this
        exact .v _
      | sl f sz xs =>
        simp only [frzT, Option.some.injEq, Prod.mk.injEq] at hq
        obtain ⟨rfl, rfl⟩ := hq
        exact hp.t_inv.mono (fun _ _ => rfl) (hS _)
      | rp cs off =>
        simp only [frzT, Option.some.injEq, Prod.mk.injEq] at hq
        obtain ⟨rfl, rfl⟩ := hq
        exact hp.t_inv.mono (fun _ _ => rfl) (hS _)
      | clo f cs =>
        simp only [frzT, Option.some.injEq, Prod.mk.injEq] at hq
        obtain ⟨rfl, rfl⟩ := hq
        exact hp.t_inv.mono (fun _ _ => rfl) (hS _)
      | agg cs =>
        simp only [frzT, Option.some.injEq, Prod.mk.injEq] at hq
        obtain ⟨rfl, rfl⟩ := hq
        exact hp.t_inv.mono (fun _ _ => rfl) (hS _)
      | tup cs =>
        simp only [frzT, Option.some.injEq, Prod.mk.injEq] at hq
        obtain ⟨rfl, rfl⟩ := hq
        exact hp.t_inv.mono (fun _ _ => rfl) (hS _)
    | osl m =>
      simp only [frzT] at hq
      split at hq
      · rename_i ty sz k' xs hM
        cases hq
        cases hp with
        | @osl _ len cap ao hφ =>
        have hres := h.res m
        rw [hM] at hres
        obtain ⟨cells, hown, hbd, hlen, hrep⟩ := hres
        rw [hφ] at hown
        rcases hown with ⟨hown, hF⟩ | ⟨rfl, ⟨ao', hv⟩, _⟩
        · rcases hown.2 with ⟨hv, hz⟩ | ⟨g, cap', cur, hv, _, hh, hle, _, _⟩
          · cases hv
            have hx : xs = [] := List.eq_nil_of_length_eq_zero hz
            subst hx
            exact .sl (cap := 0) (fun _ _ => Go.undef) (Nat.le_refl _) (by simp) (by simp) (by simp) (by simp) (.inl rfl) (by simp) (fun i j e x he => by simp at he)
          · cases hv
            refine .sl (fun i j => cells.getD (i * sz + j) Go.undef) hle (by simp) (by simp) (by simp) hbd (.inr ⟨g, 0, rfl, hnew _ m g ((hF g).2 rfl), fun i j hi hj => ?_⟩) hlen fun i j e x he hx => (hrep i j e x he hx).mono (fun _ _ => rfl) (hS _)
            have hidx : i * sz + j < cells.length := by
              rw [hown.1]
              have : (i + 1) * sz ≤ xs.length * sz := Nat.mul_le_mul_right _ hi
              rw [Nat.add_mul] at this
              omega
            have h1 := hown.cells (g := g) rfl (i * sz + j) _ (List.getElem?_eq_getElem hidx)
            rw [addr_add, Nat.zero_add] at h1
            rw [Nat.zero_add, h1, List.getD_eq_getElem?_getD, List.getElem?_eq_getElem hidx]
            rfl
        · cases hv
          exact .sl (cap := 0) (fun _ _ => Go.undef) (Nat.le_refl _) (by simp) (by simp) (by simp) (by simp) (.inl rfl) (by simp) (fun i j e x he => by simp at he)
      · cases hq
    | ptr m off =>
      simp only [frzT] at hq
      split at hq
      · rename_i ty cs hM
        split at hq
        · rename_i k' xs hxs
          cases hq
          cases hp with
          | @ptr _ _ g hφ =>
          have hres := h.res m
          rw [hM] at hres
          obtain ⟨g', vs, hv, hF, hh, hs, hr⟩ := hres
          rw [hφ] at hv
          cases hv
          obtain ⟨hl, hr'⟩ := optK_rep (fun p k x v => ih p k x v) hxs
          have := TRep.rp (w := w) (S := Stb w0 w (fun _ _ => False) k) (cs := xs) (off := off) (b := g) (o := 0) (fun j => vs.getD j Go.undef) (hnew _ m g ((hF g).2 rfl)) (fun j hj => by
            rw [Nat.zero_add, cell_of_row w g j vs ty (0, 0) hh]
            have : j < vs.size := by omega
            simp [this]) (fun j x hx => hr' (fun j => vs.getD j Go.undef) hr j x hx)
          rwa [Nat.zero_add] at this
        · cases hq
      · cases hq
    | clo f caps =>
      simp only [frzT] at hq
      split at hq
      · rename_i b' xs hxs
        cases hq
        cases hp with
        | clo vs hs hr =>
        obtain ⟨hl, hr'⟩ := optK_rep (fun p k x v => ih p k x v) hxs
        exact .clo vs (by omega) fun j x hx => hr' (fun j => vs.getD j Go.undef) hr j x hx
      · cases hq
    | agg cs =>
      simp only [frzT] at hq
      split at hq
      · rename_i b' xs hxs
        cases hq
        cases hp with
        | agg vs hs hr =>
        obtain ⟨hl, hr'⟩ := optK_rep (fun p k x v => ih p k x v) hxs
        exact .agg vs (by omega) fun j x hx => hr' (fun j => vs.getD j Go.undef) hr j x hx
      · cases hq
    | tup cs =>
      simp only [frzT] at hq
      split at hq
      · rename_i b' xs hxs
        cases hq
        cases hp with
        | tup vs hs hr =>
        obtain ⟨hl, hr'⟩ := optK_rep (fun p k x v => ih p k x v) hxs
        exact .tup vs (by omega) fun j x hx => hr' (fun j => vs.getD j Go.undef) hr j x hx
      · cases hq
    | oep => simp [frzT] at hq
    | omp => simp [frzT] at hq
    | undef => simp [frzT] at hq

theorem resOne_run (h : SimX w0 F0 n s a w φ fp) {r : ResultVar} {p : PV} (hq : resOne P s r = some p) :
    ∃ v, ((match r with | .tmp t => pure (a.tmps.getD t Go.undef) | .cell a' t => do loadVar t (← asAddr (a.tmps.getD a' Go.undef))) : Sem Value).run P w = .ok v w ∧ PVRep w φ (Stb w0 w fp) p v := by
  cases r with
  | tmp t =>
    simp only [resOne, Option.some.injEq] at hq
    subst hq
    exact ⟨_, rfl, h.tmp t⟩
  | cell a' t =>
    simp only [resOne] at hq
    split at hq
    · rename_i sz ag hs ha
      have hp := h.tmp a'
      obtain ⟨v, hv, hr⟩ := loadPV_run h hs ha hp hq
      refine ⟨v, ?_, hr⟩
      simp only [Instr.loadAt, Sem.run_bind] at hv ⊢
      -- an address it is
      generalize a.tmps.getD a' Go.undef = u at hv hp
      unfold loadPV at hq
      split at hq
      · rename_i heq
        rw [heq] at hp
        cases hp.t_inv
        exact hv
      · rename_i heq
        rw [heq] at hp
        cases hp
        exact hv
      · rename_i heq
        rw [heq] at hp
        cases hp
        exact hv
      · cases hq
    · cases hq

theorem resL_run (h : SimX w0 F0 n s a w φ fp) : ∀ (l : List ResultVar) (ps : List PV), resL P s l = some ps →
    ∃ vs : List Value, (l.mapM (fun r => (match r with | .tmp t => pure (a.tmps.getD t Go.undef) | .cell a' t => do loadVar t (← asAddr (a.tmps.getD a' Go.undef)) : Sem Value))).run P w = .ok vs w ∧ vs.length = ps.length ∧ ∀ (j : Nat) (p : PV), ps[j]? = some p → PVRep w φ (Stb w0 w fp) p (vs.getD j Go.undef)
  | [], ps, hq => by
    simp only [resL, Option.some.injEq] at hq
    subst hq
    exact ⟨[], rfl, rfl, fun j p hp => by simp at hp⟩
  | r :: l, ps, hq => by
    simp only [resL] at hq
    split at hq
    · rename_i p ps' h1 h2
      cases hq
      obtain ⟨v, hv, hr⟩ := resOne_run h h1
      obtain ⟨vs, hvs, hl, hrs⟩ := resL_run h l ps' h2
      refine ⟨v :: vs, ?_, by simp [hl], fun j p hp => ?_⟩
      · rw [List.mapM_cons]
        rw [Sem.run_bind, hv, Result.andThen_ok, Sem.run_bind, hvs]
        rfl
      · cases j with
        | zero => simp at hp; subst hp; simpa using hr
        | succ j => simpa using hrs j p (by simpa using hp)
    · cases hq

theorem resPV_run (h : SimX w0 F0 n s a w φ fp) {fn : Func} {p : PV} (hq : resPV P s fn.results.toList = some p) : ∃ v, (results fn a.tmps).run P w = .ok v w ∧ PVRep w φ (Stb w0 w fp) p v := by
  unfold resPV at hq
  have hres : ∀ ps, resL P s fn.results.toList = some ps → ∃ vs : List Value, (results fn a.tmps).run P w = .ok (if h : vs.toArray.size = 1 then vs.toArray[0] else .tuple vs.toArray) w ∧ vs.length = ps.length ∧ ∀ (j : Nat) (p : PV), ps[j]? = some p → PVRep w φ (Stb w0 w fp) p (vs.getD j Go.undef) := by
    intro ps hps
    obtain ⟨vs, hv, hl, hr⟩ := resL_run h fn.results.toList ps hps
    refine ⟨vs, ?_, hl, hr⟩
    unfold results
    rw [Array.mapM_eq_mapM_toList, Sem.run_bind, Sem.run_map]
    erw [hv]
    rfl
  split at hq
  · rename_i p' hps
    cases hq
    obtain ⟨vs, hv, hl, hr⟩ := hres _ hps
    obtain ⟨v, rfl⟩ : ∃ v, vs = [v] := by
      match vs, hl with
      | [v], _ => exact ⟨v, rfl⟩
    exact ⟨v, by simpa using hv, by simpa using hr 0 p (by simp)⟩
  · rename_i ps hne hps
    cases hq
    obtain ⟨vs, hv, hl, hr⟩ := hres _ hps
    have h1 : ¬ vs.toArray.size = 1 := by
      intro h1
      have : ps.length = 1 := by simpa [hl] using h1
      obtain ⟨q, rfl⟩ := List.length_eq_one_iff.1 this
      exact hne q rfl
    rw [dif_neg h1] at hv
    exact ⟨_, hv, .tup _ (by simpa using hl) fun j x hx => by simpa [Array.getD_eq_getD_getElem?, List.getD_eq_getElem?_getD] using hr j x hx⟩
  · cases hq

theorem initT_get : ∀ (args : List TL) (i t : Nat), getT (initT i args) t = if i ≤ t then match args[t - i]? with | some x => PV.t .ro x | none => .undef else .undef
  | [], i, t => by simp [initT, getT]
  | x :: l, i, t => by
    simp only [initT, getT]
    by_cases e : i = t
    · subst e; simp
    · rw [if_neg e, initT_get l (i + 1) t]
      by_cases h1 : i + 1 ≤ t
      · rw [if_pos h1, if_pos (by omega)]
        have : t - i = (t - (i + 1)) + 1 := by omega
        rw [this, List.getElem?_cons_succ]
      · rw [if_neg h1, if_neg (by omega)]

/-- What a body leaves, for whoever called. -/
def RetP (P : Program) (fn : Func) (s : StL) (r : PV) (Mr : List (Nat × Res)) : Prop :=
  ∃ pv, resPV P s fn.results.toList = some pv ∧
    ((∃ k x, frzT 6 s pv = some (k, x) ∧ r = .t k x ∧ Mr = []) ∨
     (∃ m, pv.nm true m = true ∧ (getM s.M m).nm true m = true ∧ r = pv.ren 0 ∧ Mr = [(0, (getM s.M m).ren 0)]))

theorem pcall_of {f : FuncId} {fn : Func} {c : Code} {args : List TL} {r : PV} {Mr : List (Nat × Res)} (hf : P.funcs[f]? = some fn) (hb : fn.body = some c) (hn : (fn.name == "runtime.NumGoroutine") = false)
    (h : CodeW P (args.length + (fn.ntmps - args.length)) c ⟨initT 0 args, []⟩ (fun e s => (e = .normal ∨ e = .ret) ∧ RetP P fn s r Mr)) : PCall P f args r Mr := by
  refine ⟨⟨fn, c, hf, hb, hn⟩, fun w S vals hS hsz hrep => ?_⟩
  have hsim : Sim (Base.of w S) (fun _ => False) (args.length + (fn.ntmps - args.length)) ⟨initT 0 args, []⟩ { tmps := vals ++ Array.replicate (fn.ntmps - vals.size) Go.undef, defers := [] } w := by
    refine ⟨fun _ => Go.undef, fun _ _ => False, ⟨fun m g hg => hg, fun _ _ _ h1 _ => h1.elim, fun _ _ h1 => h1.elim, fun t => ?_, Evo.refl _ _, by simp [hsz], ⟨rfl, fun _ h => h⟩, fun _ _ => rfl⟩⟩
    show PVRep _ _ _ (getT (initT 0 args) t) _
    rw [initT_get, if_pos (Nat.zero_le _), Nat.sub_zero]
    split
    · rename_i x hx
      have hlt : t < vals.size := by rw [hsz]; exact (List.getElem?_eq_some_iff.1 hx).1
      have e1 : (vals ++ Array.replicate (fn.ntmps - vals.size) Go.undef).getD t Go.undef = vals.getD t Go.undef := by
        simp [Array.getD_eq_getD_getElem?, Array.getElem?_append_left hlt]
      show PVRep _ _ _ _ ((vals ++ Array.replicate (fn.ntmps - vals.size) Go.undef).getD t Go.undef)
      rw [e1]
      exact .t ((hrep t x hx).mono (fun _ _ => rfl) fun g hg => ⟨hS g hg, fun _ h => h, .inr ⟨rfl, hg⟩⟩)
    · exact .undef _
  refine calls_of_wp hf hb (wp_mono (h (Base.of w S) (fun _ => False) _ w hsim) ?_)
  intro e a' w' ⟨s', ⟨he, pv, hpv, hret⟩, φ, fp, hs'⟩
  obtain ⟨v, hv, hpr⟩ := resPV_run hs' hpv
  have fin : ∃ φ' fp', Evo (fun _ => False) w w' ∧ (∀ m, ResRep w' φ' (Stb (Base.of w S) w' fp') (getM Mr m) (φ' m) (fp' m)) ∧ (∀ m m' g, fp' m g → fp' m' g → m = m') ∧
      (∀ m g, fp' m g → w.heap.size ≤ g ∧ g < w'.heap.size) ∧ PVRep w' φ' (Stb (Base.of w S) w' fp') r v := by
    rcases hret with ⟨k, x, hfr, rfl, rfl⟩ | ⟨m, hnm, hnr, rfl, rfl⟩
    · exact ⟨fun _ => Go.undef, fun _ _ => False, hs'.evo, fun m g hg => hg, fun _ _ _ h1 _ => h1.elim, fun _ _ h1 => h1.elim, .t (frzT_rep hs' (fun g h => h) 6 pv k x v hfr hpr)⟩
    · let φ' : Nat → Value := fun q => if q = 0 then φ m else Go.undef
      let fp' : Nat → Nat → Prop := fun q g => q = 0 ∧ fp m g
      have hSS : ∀ k g, Stb (Base.of w S) w' fp k g → Stb (Base.of w S) w' fp' k g := fun k g hg => ⟨hg.1, fun q hq => hg.2.1 m hq.2, hg.2.2⟩
      refine ⟨φ', fp', hs'.evo, fun q => ?_, fun q q' g h1 h2 => by rw [h1.1, h2.1], fun q g hq => ?_, ?_⟩
      · simp only [getM]
        by_cases e : 0 = q
        · subst e
          rw [if_pos rfl]
          have e1 : fp' 0 = fp m := by funext g; simp [fp']
          have e2 : φ' 0 = φ m := by simp [φ']
          rw [e1, e2]
          exact (hs'.res m).take (lent := false) (z := m) (fun g hg => hSS _ g hg) (fun _ g hg => hSS _ g hg) (by simp [φ']) (by simp) hnr
        · rw [if_neg e]
          intro g hg
          exact e hg.1.symm
      · have := hs'.old m g hq.2
        exact ⟨this.2.resolve_left (fun h => h), this.1⟩
      · exact hpr.take (lent := false) (own := true) (z := m) (fun g hg => hSS _ g hg) (fun _ g hg => hSS _ g hg) (fun _ => by simp [φ']) (by simp) hnm
  obtain ⟨φ', fp', h1, h2, h3, h4, h5⟩ := fin
  rcases he with rfl | rfl
  · exact ⟨hs'.dfr.1, v, hv, v, φ', fp', rfl, h1, h2, h3, h4, h5⟩
  · exact ⟨hs'.dfr.1, v, hv, v, φ', fp', rfl, h1, h2, h3, h4, h5⟩

end
end Go.PS
