import Derived.Test.YtnikonhkbldnnaaDoorPSH
/- PSI: calls that panic. -/
set_option linter.unusedVariables false
set_option linter.unusedSimpArgs false
namespace Go.PS
open Go Go.RowKit
section
variable {P : Program} {n : Nat}
/-- Called so, the function panics with this chain, and leaves memory so. -/
def XPan (P : Program) (f : FuncId) (args : List PV) (M : List (Nat × Res)) (ch : List PanicEntry) (M' : List (Nat × Res)) : Prop :=
  ECallE (fun _ => .panicked ch) P f args M fun r M'' => r = .undef ∧ M'' = M'
/-- A body that panics. -/
def EndX (ch : List PanicEntry) (M' : List (Nat × Res)) : Exit → StL → Prop := fun e s => e = .panic ch ∧ ∀ q ∈ M', getM M' q.1 = getM s.M q.1 ∨ getM M' q.1 = .dead
theorem xpan_of {f : FuncId} {fn : Func} {c : Code} {args : List PV} {M M' : List (Nat × Res)} {ch : List PanicEntry} (hf : P.funcs[f]? = some fn) (hb : fn.body = some c) (hn : (fn.name == "runtime.NumGoroutine") = false)
    (h : CodeW P (args.length + (fn.ntmps - args.length)) c ⟨initE 0 args, M⟩ (EndX ch M')) : XPan P f args M ch M' := by
  refine ⟨⟨fn, c, hf, hb, hn⟩, fun w S φ fp vals hH => ?_⟩
  have hS : ∀ k g, (k = Kind.ro ∧ S g) → Stb (Base.on w S φ fp) w fp k g := fun k g hg => ⟨(hH.stays g hg.2).1, (hH.stays g hg.2).2, .inr hg⟩
  have hsim : Sim (Base.on w S φ fp) (fun g => ∃ m, fp m g) (args.length + (fn.ntmps - args.length)) ⟨initE 0 args, M⟩ { tmps := vals ++ Array.replicate (fn.ntmps - vals.size) Go.undef, defers := [] } w := by
    refine ⟨φ, fp, ⟨fun m => (hH.res m).keep (fun _ _ => rfl) (fun _ _ _ => rfl) hS, hH.disj, fun m g hg => ⟨hH.lt m g hg, .inl ⟨m, hg⟩⟩, fun t => ?_, Evo.refl _ _, by simp [hH.size], ⟨rfl, fun _ h => h, hH.gl⟩, fun _ _ => rfl⟩⟩
    show PVRep _ _ _ (getT (initE 0 args) t) _
    rw [initE_get, if_pos (Nat.zero_le _), Nat.sub_zero]
    split
    · rename_i x hx
      have hlt : t < vals.size := by rw [hH.size]; exact (List.getElem?_eq_some_iff.1 hx).1
      have e1 : (vals ++ Array.replicate (fn.ntmps - vals.size) Go.undef).getD t Go.undef = vals.getD t Go.undef := by
        simp [Array.getD_eq_getD_getElem?, Array.getElem?_append_left hlt]
      show PVRep _ _ _ _ ((vals ++ Array.replicate (fn.ntmps - vals.size) Go.undef).getD t Go.undef)
      rw [e1]
      exact (hH.args t x hx).mono (fun _ _ _ => rfl) hS
    · exact .undef _
  refine calls_of_wp hf hb (wp_mono (h _ _ _ w hsim) ?_)
  rintro e a' w' ⟨s', ⟨rfl, hM⟩, hs⟩
  have hle : StL.le ⟨s'.T, M'⟩ s' := ⟨fun t => .inl rfl, fun m => by
    by_cases hm : ∃ q ∈ M', q.1 = m
    · obtain ⟨q, hq, rfl⟩ := hm
      exact hM q hq
    · exact .inr (getM_none fun q hq e => hm ⟨q, hq, e⟩)⟩
  obtain ⟨φ', fp', hx⟩ := hs
  have hS' : ∀ k g, Stb (Base.on w S φ fp) w' fp' k g → Stb (Base.on w S φ fp) w' (fun m g => fp' m g ∧ getM M' m ≠ .dead) k g := fun k g hg => ⟨hg.1, fun m hm => hg.2.1 m hm.1, hg.2.2⟩
  refine ⟨hx.dfr.1, Go.undef, φ', fun m g => fp' m g ∧ getM M' m ≠ .dead, .undef, M', ⟨rfl, rfl⟩, rfl, hx.evo, fun m => ?_, fun m m' g h1 h2 => hx.disj m m' g h1.1 h2.1, fun m g hm => hx.old m g hm.1, hx.fix, .undef _⟩
  by_cases hd : getM M' m = .dead
  · rw [hd]
    intro g hg
    exact hg.2 rfl
  · have e' : getM M' m = getM s'.M m := (hle.2 m).resolve_right hd
    have hF : (fun g => fp' m g ∧ getM M' m ≠ .dead) = fp' m := by
      funext g; simp [hd]
    rw [hF, e']
    exact (hx.res m).keep (fun g _ => rfl) (fun k g _ => rfl) hS'
/-- What a panic leaves is told without the place of its result. -/
theorem sim_unput {w0 : Base} {F0 : Nat → Prop} {T : List (Nat × PV)} {M : List (Nat × Res)} {d : Nat} {a : Act} {v : Value} {w : World} (h : Sim w0 F0 n ⟨(d, .undef) :: T, M⟩ (a.put (some d) v) w) : Sim w0 F0 n ⟨(d, .undef) :: T, M⟩ a w := by
  obtain ⟨φ, fp, hx⟩ := h
  refine ⟨φ, fp, hx.res, hx.disj, hx.old, fun t => ?_, hx.evo, by simpa [Act.put] using hx.size, hx.dfr, hx.fix⟩
  by_cases hd : d = t
  · subst hd
    show PVRep _ _ _ (getT ((d, .undef) :: T) d) _
    simp only [getT, if_true]
    exact .undef _
  · have := hx.tmp t
    have e : (a.put (some d) v).tmps.getD t Go.undef = a.tmps.getD t Go.undef := by
      simp [Act.put, Array.getD_eq_getD_getElem?, Array.getElem?_setIfInBounds, hd]
    rw [e] at this
    exact this
theorem runW_wp2 {w0 : Base} {F0 : Nat → Prop} {ops : Array Oper} {Q : Exit → Act → World → Prop} (l2 : List Oper) : ∀ (l : List Oper) {s : StL} {a : Act} {w : World} {K : StL → Prop}, Sim w0 F0 n s a w → RunW P n ops l s K → (∀ s' a' w', K s' → Sim w0 F0 n s' a' w' → wpList P ops Q l2 a' w') → wpList P ops Q (l ++ l2) a w
  | [], s, a, w, K, h, hr, hk => hk _ _ _ hr h
  | o :: rest, s, a, w, K, h, hr, hk => by
    simp only [RunW] at hr
    simp only [List.cons_append, wpList]
    split at hr
    · rename_i hw
      rw [want_rep h hw, if_pos rfl]
      exact .inl (opW_wp h hr fun s' a' w' hs' hsim => runW_wp2 l2 rest hsim hs' hk)
    · rename_i hw
      rw [want_rep h hw, if_neg (by simp)]
      exact runW_wp2 l2 rest (skip_sim h o.dst hr.1) hr.2 hk
    · exact hr.elim
/-- The operation is a call that panics. -/
def PanC (P : Program) (n : Nat) (o : Oper) (s : StL) (Q : Exit → StL → Prop) : Prop :=
  ∃ c d f pvs, o.op = .call c ∧ o.dst = some d ∧ d < n ∧ callee s c = some (f, pvs) ∧
    ∃ (args : List PV) (M : List (Nat × Res)) (ch : List PanicEntry) (M' : List (Nat × Res)) (g : Sg), XPan P f args M ch M' ∧ g.ok = true ∧ PV.mpL g.to true pvs = args ∧
      (∀ p ∈ g, getM M p.2 = (getM s.M p.1).mp g.to true) ∧ M.all (fun q => (g.bk q.1).isSome) = true ∧ Q (.panic ch) (retE s d g .undef M')
theorem panC_wp {w0 : Base} {F0 : Nat → Prop} {s : StL} {a : Act} {w : World} (h : Sim w0 F0 n s a w) {o : Oper} {Q : Exit → StL → Prop} {next : Act → World → Prop} (hq : PanC P n o s Q) : o.wp P a w next (fun e a' w' => ∃ s', Q e s' ∧ Sim w0 F0 n s' a' w') := by
  obtain ⟨c, d, f, pvs, ho, hd, hdn, hcal, args, M, ch, M', g, hX, hok, hargs, hM, hM', hQ⟩ := hq
  obtain ⟨φ, fp, hx⟩ := h
  obtain ⟨x, vs, hcx, hev, hsz, hrep⟩ := callee_rep hx hcal
  have key := ecall_simE hx g hdn hsz hrep hX hok hargs hM hM'
  have hrun : (execOp a.eval o).run P w = .ok (.enter f (c.args.map a.eval ++ vs)) w := by
    simp only [execOp, ho, resolve, hcx, Deferred.ofValue, hev, Sem.run_bind, Sem.run_pure, Result.andThen_ok, invoke]
    rw [run_callFunc hX.1]
    simp
  unfold Oper.wp
  rw [hrun, Oper.upon_enter]
  refine key.mono ?_
  rintro e w' ⟨v, r, M'', ⟨rfl, rfl⟩, rfl, hs⟩
  exact ⟨_, hQ, sim_unput hs⟩
/-- A region in which a call panics. -/
theorem cw_panics {id : Nat} {ops : Array Oper} {l1 l2 : List Oper} {o : Oper} {s : StL} {Q : Exit → StL → Prop} (hl : ops.toList = l1 ++ o :: l2) (h : RunW P n ops l1 s fun s' => wantPV ops s' o = some true ∧ PanC P n o s' Q) : CodeW P n (.region id ops false) s Q := by
  intro w0 F0 a w hs
  refine wp_region ?_
  have e1 : wpOps P ops (fun e a' w' => ∃ s', Q e s' ∧ Sim w0 F0 n s' a' w') (List.range ops.size) = wpList P ops (fun e a' w' => ∃ s', Q e s' ∧ Sim w0 F0 n s' a' w') ops.toList := by
    have := wpOps_eq_wpList (P := P) (ops := ops) (Q := fun e a' w' => ∃ s', Q e s' ∧ Sim w0 F0 n s' a' w') ops.toList 0 (fun j => by simp)
    simpa [List.range_eq_range'] using this
  rw [e1, hl]
  refine runW_wp2 _ l1 hs h fun s' a' w' ⟨hw, hp⟩ hs' => ?_
  simp only [wpList]
  rw [want_rep hs' hw, if_pos rfl]
  exact .inl (panC_wp hs' hp)
/-- A region that makes a value, boxes it and panics. -/
theorem cw_raise {id : Nat} {ops : Array Oper} {o1 o2 o3 : Oper} {d1 d2 : Nat} {v1 v2 : Value} {s : StL} {Q : Exit → StL → Prop} (hl : ops.toList = [o1, o2, o3]) (g1 : o1.guard = none) (g2 : o2.guard = none) (g3 : o3.guard = none)
    (k1 : o1.dst = some d1) (k2 : o2.dst = some d2) (hd1 : d1 < n) (hd2 : d2 < n) (h1 : ∀ (ρ : Operand → Value) (w : World), (execOp ρ o1).run P w = .ok (.value v1) w)
    (h2 : ∀ (ρ : Operand → Value) (w : World), ρ (.tmp d1) = v1 → (execOp ρ o2).run P w = .ok (.value v2) w) (h3 : ∀ (ρ : Operand → Value) (w : World), ρ (.tmp d2) = v2 → (execOp ρ o3).run P w = .halt (.panic v2) w)
    (h : Q (.panic [{ v := v2, recovered := false }]) ⟨(d2, .undef) :: (d1, .undef) :: s.T, s.M⟩) : CodeW P n (.region id ops false) s Q := by
  intro w0 F0 a w hs
  refine wp_region ?_
  have e1 : wpOps P ops (fun e a' w' => ∃ s', Q e s' ∧ Sim w0 F0 n s' a' w') (List.range ops.size) = wpList P ops (fun e a' w' => ∃ s', Q e s' ∧ Sim w0 F0 n s' a' w') ops.toList := by
    have := wpOps_eq_wpList (P := P) (ops := ops) (Q := fun e a' w' => ∃ s', Q e s' ∧ Sim w0 F0 n s' a' w') ops.toList 0 (fun j => by simp)
    simpa [List.range_eq_range'] using this
  rw [e1, hl]
  obtain ⟨φ, fp, hx⟩ := hs
  have hsz := hx.size
  have p1 : (a.put (some d1) v1).eval (.tmp d1) = v1 := by simp [Act.put, Act.eval, hsz, hd1]
  have p2 : ((a.put (some d1) v1).put (some d2) v2).eval (.tmp d2) = v2 := by simp [Act.put, Act.eval, hsz, hd2]
  simp only [wpList]
  have wt : ∀ (o : Oper) (a : Act), o.guard = none → Region.wanted o (yielded ops a.tmps) = true := fun o a ho => by unfold Region.wanted; rw [ho]
  rw [wt o1 _ g1, if_pos rfl]
  refine .inl ?_
  unfold Oper.wp
  rw [h1, Oper.upon_value, k1]
  rw [wt o2 _ g2, if_pos rfl]
  refine .inl ?_
  rw [h2 _ _ p1, Oper.upon_value, k2]
  rw [wt o3 _ g3, if_pos rfl]
  refine .inl ?_
  rw [h3 _ _ p2, Oper.upon_panic]
  exact ⟨_, h, φ, fp, SimX.put (s := ⟨(d1, .undef) :: s.T, s.M⟩) (SimX.put hx hd1 (.undef _)) hd2 (.undef _)⟩
end
end Go.PS
