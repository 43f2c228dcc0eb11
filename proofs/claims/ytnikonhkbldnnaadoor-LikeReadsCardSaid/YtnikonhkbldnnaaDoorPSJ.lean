import Derived.Test.YtnikonhkbldnnaaDoorPSI
import Derived.Recover
/- PSJ: a body that defers one closure; a closure that recovers. -/
set_option linter.unusedVariables false
set_option linter.unusedSimpArgs false
namespace Go.PS
open Go Go.RowKit
section
variable {P : Program} {n : Nat}
theorem handed_sim {w : World} {S : Nat → Prop} {φ : Nat → Value} {fp : Nat → Nat → Prop} {args : List PV} {M : List (Nat × Res)} {vals : Array Value} (k : Nat) (hH : Handed w S φ fp args M vals) :
    SimX (Base.on w S φ fp) (fun g => ∃ m, fp m g) (args.length + (k - args.length)) ⟨initE 0 args, M⟩ { tmps := vals ++ Array.replicate (k - vals.size) Go.undef, defers := [] } w φ fp := by
  have hS : ∀ k g, (k = Kind.ro ∧ S g) → Stb (Base.on w S φ fp) w fp k g := fun k g hg => ⟨(hH.stays g hg.2).1, (hH.stays g hg.2).2, .inr hg⟩
  refine ⟨fun m => (hH.res m).keep (fun _ _ => rfl) (fun _ _ _ => rfl) hS, hH.disj, fun m g hg => ⟨hH.lt m g hg, .inl ⟨m, hg⟩⟩, fun t => ?_, Evo.refl _ _, by simp [hH.size], ⟨rfl, fun _ h => h, hH.gl⟩, fun _ _ => rfl⟩
  show PVRep _ _ _ (getT (initE 0 args) t) _
  rw [initE_get, if_pos (Nat.zero_le _), Nat.sub_zero]
  split
  · rename_i x hx
    have hlt : t < vals.size := by rw [hH.size]; exact (List.getElem?_eq_some_iff.1 hx).1
    have e1 : (vals ++ Array.replicate (k - vals.size) Go.undef).getD t Go.undef = vals.getD t Go.undef := by
      simp [Array.getD_eq_getD_getElem?, Array.getElem?_append_left hlt]
    show PVRep _ _ _ _ ((vals ++ Array.replicate (k - vals.size) Go.undef).getD t Go.undef)
    rw [e1]
    exact (hH.args t x hx).mono (fun _ _ _ => rfl) hS
  · exact .undef _
/-- What is handed back by a walk that tells no value. -/
theorem back_of {w w' : World} {S : Nat → Prop} {φ φ' : Nat → Value} {fp fp' : Nat → Nat → Prop} {s' : StL} {a' : Act} {M' : List (Nat × Res)} {v : Value} (hx : SimX (Base.on w S φ fp) (fun g => ∃ m, fp m g) n s' a' w' φ' fp')
    (hM : ∀ q ∈ M', getM M' q.1 = getM s'.M q.1 ∨ getM M' q.1 = .dead) : Back w S φ fp .undef M' w' v φ' (fun m g => fp' m g ∧ getM M' m ≠ .dead) := by
  have hle : StL.le ⟨s'.T, M'⟩ s' := ⟨fun t => .inl rfl, fun m => by
    by_cases hm : ∃ q ∈ M', q.1 = m
    · obtain ⟨q, hq, rfl⟩ := hm
      exact hM q hq
    · exact .inr (getM_none fun q hq e => hm ⟨q, hq, e⟩)⟩
  have hS' : ∀ k g, Stb (Base.on w S φ fp) w' fp' k g → Stb (Base.on w S φ fp) w' (fun m g => fp' m g ∧ getM M' m ≠ .dead) k g := fun k g hg => ⟨hg.1, fun m hm => hg.2.1 m hm.1, hg.2.2⟩
  refine ⟨hx.evo, fun m => ?_, fun m m' g h1 h2 => hx.disj m m' g h1.1 h2.1, fun m g hm => hx.old m g hm.1, hx.fix, .undef _⟩
  by_cases hd : getM M' m = .dead
  · rw [hd]
    intro g hg
    exact hg.2 rfl
  · have e' : getM M' m = getM s'.M m := (hle.2 m).resolve_right hd
    have hF : (fun g => fp' m g ∧ getM M' m ≠ .dead) = fp' m := by
      funext g; simp [hd]
    rw [hF, e']
    exact (hx.res m).keep (fun g _ => rfl) (fun k g _ => rfl) hS'
theorem leaves_mono {fn : Func} {tmps : Array Value} {R R' : Ending → World → Prop} (hR : ∀ e w, R e w → R' e w) : ∀ (ds : List Deferred) (u : FrameMode) (w : World), Leaves P fn tmps R ds u w → Leaves P fn tmps R' ds u w
  | [], .returning, w, ⟨v, h1, h2⟩ => ⟨v, h1, hR _ _ h2⟩
  | [], .panicking c, w, h => hR _ _ h
  | [], .run, w, h => h.elim
  | d :: ds, u, w, ⟨hu, fv, cap, f, args, ht, hi, hc⟩ => ⟨hu, fv, cap, f, args, ht, hi, hc.mono fun e u' w' h => by
      cases e with
      | returned v => exact leaves_mono hR ds _ _ h
      | panicked c => exact leaves_mono hR ds _ _ h
      | outgrown => exact hR _ _ h⟩
theorem bodyPostD_mono {fn : Func} {R R' : Ending → World → Prop} (hR : ∀ e w, R e w → R' e w) (e : Exit) (a : Act) (w : World) (h : bodyPostD P fn R e a w) : bodyPostD P fn R' e a w := by
  cases e with
  | normal => exact leaves_mono hR _ _ _ h
  | ret => exact leaves_mono hR _ _ _ h
  | panic c => exact leaves_mono hR _ _ _ h
  | exit id => exact h
  | goto l => exact h
  | outgrown => exact hR _ _ h
/-- Deferred, called so, the function turns this mode of its caller into that one, and leaves memory so. -/
def DCall (P : Program) (f : FuncId) (args : List PV) (M : List (Nat × Res)) (u u' : FrameMode) (M' : List (Nat × Res)) : Prop :=
  ∀ (w : World) (S : Nat → Prop) (φ : Nat → Value) (fp : Nat → Nat → Prop) (vals : Array Value), Handed w S φ fp args M vals →
    CallsD P f vals u w fun e u1 w' => u1 = u' ∧ ∃ v φ' fp', e = .returned v ∧ Back w S φ fp .undef M' w' v φ' fp'
theorem dcall_sim {w0 : Base} {F0 : Nat → Prop} {s : StL} {a : Act} {w : World} {φ : Nat → Value} {fp : Nat → Nat → Prop} (h : SimX w0 F0 n s a w φ fp) {f d : Nat} {pvs args : List PV} {M M' : List (Nat × Res)} {vals : Array Value} {u u' : FrameMode} (g : Sg) (hdn : d < n)
    (hv : vals.size = pvs.length) (hp : ∀ (j : Nat) (p : PV), pvs[j]? = some p → PVRep w φ (Stb w0 w fp) p (vals.getD j Go.undef)) (hc : DCall P f args M u u' M')
    (hok : g.ok = true) (hargs : PV.mpL g.to true pvs = args) (hM : ∀ p ∈ g, getM M p.2 = (getM s.M p.1).mp g.to true) (hM' : M.all (fun q => (g.bk q.1).isSome) = true) :
    CallsD P f vals u w fun e u1 w' => u1 = u' ∧ ∃ v, e = .returned v ∧ Sim w0 F0 n (retE s d g .undef M') a w' := by
  have key := ecall_simG (C := fun R => CallsD P f vals u w fun e u1 w' => u1 = u' ∧ R e w') h (fun hR hc => hc.mono fun e u1 w' hh => ⟨hh.1, hR _ _ hh.2⟩) (E := .returned) (Post := fun r M'' => r = .undef ∧ M'' = M') g hdn hv hp
    (fun S φ fp hH => (hc w S φ fp vals hH).mono fun e u1 w' ⟨h1, v, φ', fp', h2, h3⟩ => ⟨h1, v, φ', fp', .undef, M', ⟨rfl, rfl⟩, h2, h3⟩) hok hargs hM hM'
  refine key.mono ?_
  rintro e u1 w' ⟨h1, v, r, M'', ⟨rfl, rfl⟩, h2, hs⟩
  exact ⟨h1, v, h2, sim_unput hs⟩
def modeOf : Exit → Option FrameMode
  | .normal | .ret => some .returning
  | .panic ch => some (.panicking ch)
  | _ => none
theorem handed_all {w : World} {S : Nat → Prop} {φ : Nat → Value} {fp : Nat → Nat → Prop} {args : List PV} {M : List (Nat × Res)} {vals : Array Value} (hH : Handed w S φ fp args M vals) :
    SimX (Base.on w S φ fp) (fun g => ∃ m, fp m g) args.length ⟨initE 0 args, M⟩ { tmps := vals, defers := [] } w φ fp := by
  have hS : ∀ k g, (k = Kind.ro ∧ S g) → Stb (Base.on w S φ fp) w fp k g := fun k g hg => ⟨(hH.stays g hg.2).1, (hH.stays g hg.2).2, .inr hg⟩
  refine ⟨fun m => (hH.res m).keep (fun _ _ => rfl) (fun _ _ _ => rfl) hS, hH.disj, fun m g hg => ⟨hH.lt m g hg, .inl ⟨m, hg⟩⟩, fun t => ?_, Evo.refl _ _, hH.size, ⟨rfl, fun _ h => h, hH.gl⟩, fun _ _ => rfl⟩
  show PVRep _ _ _ (getT (initE 0 args) t) _
  rw [initE_get, if_pos (Nat.zero_le _), Nat.sub_zero]
  split
  · rename_i x hx
    exact (hH.args t x hx).mono (fun _ _ _ => rfl) hS
  · exact .undef _
/-- A function that defers one closure of two of its variables. -/
theorem ecall_defer {f : FuncId} {fn : Func} {c1 c3 : Code} {id : Nat} {ops : Array Oper} {args args2 : List PV} {M M2 : List (Nat × Res)} {r : PV} {s1 : StL} {o1 o2 : Oper} {cl : Call} {fc ta tb d1 x y N : Nat}
    (hf : P.funcs[f]? = some fn) (hb : fn.body = some (.seq c1 (.seq (.region id ops false) c3))) (hn : (fn.name == "runtime.NumGoroutine") = false) (hN : N = args.length + (fn.ntmps - args.length))
    (h1 : CodeW P N c1 ⟨initE 0 args, M⟩ fun e s => e = .normal ∧ s = s1)
    (hops : ops.toList = [o1, o2]) (g1 : o1.guard = none) (g2 : o2.guard = none) (ho1 : o1.op = .makeFunc (.func fc) #[] #[.tmp ta, .tmp tb]) (hd1 : o1.dst = some d1) (ho2 : o2.op = .defer cl) (hcl : cl.callee = .value (.tmp d1)) (hca : cl.args = #[]) (hd2 : o2.dst = none) (hdn : d1 < N)
    (g : Sg) (hok : g.ok = true) (hargs : PV.mpL g.to true ((List.range N).map (getT s1.T)) = args2) (hM : ∀ p ∈ g, getM M2 p.2 = (getM s1.M p.1).mp g.to true) (hM' : M2.all (fun q => (g.bk q.1).isSome) = true)
    (hta : args2[ta]? = some (.ptr x 0)) (htb : args2[tb]? = some (.ptr y 0)) (hx6 : 1000000 ≤ x) (hy6 : 1000000 ≤ y) (hfc : Callable P fc)
    {K : Exit → StL → Prop} (h3 : CodeW P N c3 ⟨(d1, .undef) :: initE 0 args2, M2⟩ K)
    (hK : ∀ e s', K e s' → ∃ u u2 gg Mc Mc', modeOf e = some u ∧ DCall P fc [.ptr x 0, .ptr y 0] Mc u u2 Mc' ∧ settle u2 = .returning ∧ Sg.ok gg = true ∧ PV.mpL gg.to true [.ptr x 0, .ptr y 0] = [.ptr x 0, .ptr y 0] ∧
      (∀ p ∈ gg, getM Mc p.2 = (getM s'.M p.1).mp gg.to true) ∧ Mc.all (fun q => (gg.bk q.1).isSome) = true ∧ resPV P (retE s' d1 gg .undef Mc') fn.results.toList = some r)
    (hr : getT (retE s1 d1 g r []).T d1 = r) : ECall P f args M r [] := by
  refine ⟨⟨fn, _, hf, hb, hn⟩, fun w S φ fp vals hH => ?_⟩
  have hs0 := handed_sim fn.ntmps hH
  rw [← hN] at hs0
  refine calls_of_wp_defers hf hb ?_
  refine wp_seq (wp_mono (h1 _ _ _ w ⟨φ, fp, hs0⟩) ?_)
  rintro e a1 w1 ⟨s, ⟨rfl, rfl⟩, φ1, fp1, hx1⟩
  show (Code.seq (.region id ops false) c3).wp P (bodyPostD P fn _) a1 w1
  have key := ecall_simG (C := fun R => (Code.seq (.region id ops false) c3).wp P (bodyPostD P fn R) a1 w1) hx1 (fun hR hc => wp_mono hc fun e a w => bodyPostD_mono hR e a w) (E := .returned) (d := d1)
    (pvs := (List.range N).map (getT s.T)) (args := args2) (M := M2) (vals := a1.tmps) (Post := fun r' M'' => r' = r ∧ M'' = []) g hdn (by simp [hx1.size]) (fun j p hj => by
      rw [List.getElem?_map] at hj
      obtain ⟨i, hi, rfl⟩ := Option.map_eq_some_iff.1 hj
      have := List.getElem?_eq_some_iff.1 hi
      obtain ⟨h1, h2⟩ := this
      simp at h2
      subst h2
      exact hx1.tmp _) ?_ hok hargs hM hM'
  · refine wp_mono key fun e a w h => bodyPostD_mono ?_ e a w h
    rintro e w' ⟨v, r', M'', ⟨rfl, rfl⟩, rfl, φ2, fp2, hx2⟩
    refine ⟨v, φ2, fun _ _ => False, r', [], ⟨rfl, rfl⟩, rfl, hx2.evo, fun m g hg => hg, fun m m' g h => h.elim, fun m g h => h.elim, hx2.fix, ?_⟩
    have ht := hx2.tmp d1
    rw [hr] at ht
    have e1 : (a1.put (some d1) v).tmps.getD d1 Go.undef = v := by
      have := hx1.size
      simp [Act.put, hdn, this]
    rw [e1] at ht
    exact ht.mono (fun _ _ _ => rfl) fun k g hg => ⟨hg.1, fun m hm => hm, hg.2.2⟩
  intro S' φc fpc hH2
  have hlen : args2.length = N := by rw [← hargs, PV.mpL_length]; simp
  have hx3 := handed_all hH2
  rw [hlen] at hx3
  have ha1 : a1 = { tmps := a1.tmps, defers := [] } := by
    have := hx1.dfr.1
    cases a1
    simp only at this
    rw [this]
  generalize hva : a1.tmps.getD ta Go.undef = va
  generalize hvb : a1.tmps.getD tb Go.undef = vb
  have pa : ∀ (φ' : Nat → Value), φ' x = φc x → ∀ (w' : World) (St : Kind → Nat → Prop), PVRep w' φ' St (.ptr x 0) va := fun φ' e w' St => by
    have := hH2.args ta _ hta
    rw [hva] at this
    cases this with
    | ptr h => exact .ptr (by rw [e]; exact h)
  have pb : ∀ (φ' : Nat → Value), φ' y = φc y → ∀ (w' : World) (St : Kind → Nat → Prop), PVRep w' φ' St (.ptr y 0) vb := fun φ' e w' St => by
    have := hH2.args tb _ htb
    rw [hvb] at this
    cases this with
    | ptr h => exact .ptr (by rw [e]; exact h)
  have hsz : a1.tmps.size = N := hx1.size
  rw [ha1]
  refine wp_seq (wp_region ?_)
  generalize hQ : Exit.then (c3.wp P (bodyPostD P fn _)) (bodyPostD P fn _) = Q
  have e1 : wpOps P ops Q (List.range ops.size) = wpList P ops Q ops.toList := by
    have := wpOps_eq_wpList (P := P) (ops := ops) (Q := Q) ops.toList 0 (fun j => by simp)
    simpa [List.range_eq_range'] using this
  rw [e1, hops]
  have wt : ∀ (o : Oper) (a : Act), o.guard = none → Region.wanted o (yielded ops a.tmps) = true := fun o a ho => by unfold Region.wanted; rw [ho]
  have p1 : ({ tmps := a1.tmps, defers := [] } : Act).eval (.tmp ta) = va := by rw [← hva]; simp [Act.eval, Array.getD_eq_getD_getElem?]
  have p2 : ({ tmps := a1.tmps, defers := [] } : Act).eval (.tmp tb) = vb := by rw [← hvb]; simp [Act.eval, Array.getD_eq_getD_getElem?]
  have p3 : (({ tmps := a1.tmps, defers := [] } : Act).put (some d1) (.func (.func fc) #[] #[va, vb])).eval (.tmp d1) = .func (.func fc) #[] #[va, vb] := by simp [Act.put, Act.eval, hsz, hdn]
  have r1 : (execOp ({ tmps := a1.tmps, defers := [] } : Act).eval o1).run P w1 = .ok (.value (.func (.func fc) #[] #[va, vb])) w1 := by
    simp [execOp, ho1, Instr.makeFunc, p1, p2]
  have r2 : (execOp (({ tmps := a1.tmps, defers := [] } : Act).put (some d1) (.func (.func fc) #[] #[va, vb])).eval o2).run P w1 = .ok (.defer { target := .fn (.func fc) #[va, vb], args := #[] }) w1 := by
    simp [execOp, ho2, resolve, hcl, hca, Deferred.ofValue, p3]
  simp only [wpList]
  rw [wt o1 _ g1, if_pos rfl]
  refine .inl ?_
  unfold Oper.wp
  rw [r1, Oper.upon_value, hd1]
  rw [wt o2 _ g2, if_pos rfl]
  refine .inl ?_
  rw [r2, Oper.upon_defer, hd2, ← hQ]
  show c3.wp P (bodyPostD P fn _) _ w1
  have hx4 := SimX.put (v := .func (.func fc) #[] #[va, vb]) hx3 hdn (.undef _)
  have hx5 : SimX ⟨w1, S', fun g => ∃ m, fpc m g, φc, [{ target := .fn (.func fc) #[va, vb], args := #[] }]⟩ (fun g => ∃ m, fpc m g) N ⟨(d1, .undef) :: initE 0 args2, M2⟩
      (({ (({ tmps := a1.tmps, defers := [] } : Act).put (some d1) (.func (.func fc) #[] #[va, vb])) with defers := [{ target := .fn (.func fc) #[va, vb], args := #[] }] } : Act)) w1 φc fpc :=
    ⟨hx4.res, hx4.disj, hx4.old, hx4.tmp, hx4.evo, hx4.size, ⟨rfl, hx4.dfr.2.1, hx4.dfr.2.2⟩, hx4.fix⟩
  refine wp_mono (h3 _ _ _ w1 ⟨φc, fpc, hx5⟩) ?_
  rintro e a2 w2 ⟨s', hKs, φ', fp', hx6'⟩
  obtain ⟨u, u2, gg, Mc, Mc', hu, hD, hset, hok', hargs', hMc, hMc', hres⟩ := hK e s' hKs
  have hL : Leaves P fn a2.tmps (fun e w' => ∃ v φ' fp' r' M'', (r' = r ∧ M'' = []) ∧ e = .returned v ∧ Back w1 S' φc fpc r' M'' w' v φ' fp') a2.defers u w2 := by
    rw [hx6'.dfr.1]
    refine leaves_cons (f := fc) (args := #[va, vb]) (by rintro rfl; cases e <;> simp [modeOf] at hu) (by simp [invoke, run_callFunc hfc]) ?_
    refine (dcall_sim hx6' gg hdn (vals := #[va, vb]) (pvs := [.ptr x 0, .ptr y 0]) rfl (fun j p hj => ?_) hD hok' hargs' hMc hMc').mono ?_
    · rcases j with _ | _ | j
      · simp at hj
        subst hj
        exact pa φ' (hx6'.fix x hx6) _ _
      · simp at hj
        subst hj
        exact pb φ' (hx6'.fix y hy6) _ _
      · simp at hj
    rintro e u1 w3 ⟨rfl, v, rfl, φ6, fp6, hx7⟩
    show Leaves P fn a2.tmps _ [] (settle u1) w3
    rw [hset]
    obtain ⟨v, hv, hpr⟩ := resPV_run hx7 hres
    exact ⟨v, hv, v, φ6, fun _ _ => False, r, [], ⟨rfl, rfl⟩, rfl, hx7.evo, fun m g hg => hg, fun m m' g h => h.elim, fun m g h => h.elim, hx7.fix, hpr.mono (fun _ _ _ => rfl) fun k g hg => ⟨hg.1, fun m hm => hm, hg.2.2⟩⟩
  cases e with
  | normal => cases hu; exact hL
  | ret => cases hu; exact hL
  | panic ch => cases hu; exact hL
  | exit id => cases hu
  | goto l => cases hu
  | outgrown => cases hu
/-- A region that panics with an empty struct. -/
theorem cw_raise0 {id t : Nat} {ops : Array Oper} {o1 o2 o3 : Oper} {d1 d2 : Nat} {s : StL} {Q : Exit → StL → Prop} (hu : P.underlying t = some (.struct #[])) (hz : zT P t = some []) (hl : ops.toList = [o1, o2, o3]) (g1 : o1.guard = none) (g2 : o2.guard = none) (g3 : o3.guard = none)
    (k1 : o1.dst = some d1) (k2 : o2.dst = some d2) (e1 : o1.op = .build t #[]) (e2 : o2.op = .makeInterface t (.tmp d1)) (e3 : o3.op = .panic (.tmp d2)) (hd1 : d1 < n) (hd2 : d2 < n)
    (h : Q (.panic [{ v := .iface t (.agg #[]), recovered := false }]) ⟨(d2, .undef) :: (d1, .undef) :: s.T, s.M⟩) : CodeW P n (.region id ops false) s Q := by
  refine cw_raise (v1 := .agg #[]) (v2 := .iface t (.agg #[])) hl g1 g2 g3 k1 k2 hd1 hd2 (fun ρ w => ?_) (fun ρ w hρ => ?_) (fun ρ w hρ => ?_) h
  · obtain ⟨z, hz1, hz2⟩ := zT_run hz w
    have hz3 : z.cells = #[] := by simpa using hz2
    simp [execOp, e1, Instr.build, hz1, run_underlying hu, hz3, Instr.fill]
  · simp [execOp, e2, Instr.makeInterface, run_underlying hu, hρ]
  · simp [execOp, e3, Instr.panic, hρ, goPanic]
/-- An ending before which names are given up. -/
def EndZ (z : List Nat) (Q : Exit → StL → Prop) : Exit → StL → Prop := fun e s => Q e (frzZ z s)
theorem codeW_endZ {c : Code} {s : StL} {Q : Exit → StL → Prop} (z : List Nat) (h : CodeW P n c s (EndZ z Q)) : CodeW P n c s Q := fun w0 F0 a w hs => wp_mono (h w0 F0 a w hs) fun e a' w' ⟨s', hq, φ, fp, hs'⟩ => ⟨frzZ z s', hq, _, _, frzZ_sim hs' z⟩
theorem ecall_wpZ (z : List Nat) {f : FuncId} {fn : Func} {c : Code} {args : List PV} {M : List (Nat × Res)} {r : PV} {M' : List (Nat × Res)} (hf : P.funcs[f]? = some fn) (hb : fn.body = some c) (hn : (fn.name == "runtime.NumGoroutine") = false)
    (h : wpk P (args.length + (fn.ntmps - args.length)) c ⟨initE 0 args, M⟩ (EndZ z (EndE P fn r M'))) : ECall P f args M r M' := ecall_of hf hb hn (codeW_endZ z (wpk_sound _ _ _ h))
@[simp ↓] theorem EndZ_normal (z : List Nat) (fn : Func) (s : StL) (r : PV) (M' : List (Nat × Res)) : EndZ z (EndE P fn r M') .normal s = RetE P fn (frzZ z s) r M' := by simp only [EndZ, EndE, true_or, true_and]
@[simp ↓] theorem EndZ_ret (z : List Nat) (fn : Func) (s : StL) (r : PV) (M' : List (Nat × Res)) : EndZ z (EndE P fn r M') .ret s = RetE P fn (frzZ z s) r M' := by simp only [EndZ, EndE, or_true, true_and]
/-- What a call returns, told with less. -/
theorem ecall_weak {f : FuncId} {args : List PV} {M : List (Nat × Res)} {r r' : PV} {M' : List (Nat × Res)} (hr : ∀ (w : World) (φ : Nat → Value) (St : Kind → Nat → Prop) (v : Value), (∀ k g, St k g → St .ro g) → PVRep w φ St r v → PVRep w φ St r' v) (h : ECall P f args M r M') : ECall P f args M r' M' :=
  ⟨h.1, fun w S φ fp vals hH => (h.2 w S φ fp vals hH).mono fun e w' ⟨v, φ', fp', r0, M0, ⟨h1, h2⟩, h3, hB⟩ => ⟨v, φ', fp', r', M', ⟨rfl, rfl⟩, h3, by
    subst h1 h2
    exact ⟨hB.evo, hB.res, hB.disj, hB.old, hB.fix, hr _ _ _ _ (fun k g hg => ⟨hg.1, hg.2.1, hg.2.2.imp id fun e => ⟨rfl, e.2⟩⟩) hB.val⟩⟩⟩
theorem panC_c {s : StL} {o : Oper} {Q : Exit → StL → Prop} {c : Call} {d : Nat} {f : FuncId} {pvs args : List PV} {M M' : List (Nat × Res)} {ch : List PanicEntry} (g : Sg) (h : XPan P f args M ch M') (ho : o.op = .call c) (hd : o.dst = some d) (hdn : d < n) (hcal : callee s c = some (f, pvs))
    (h1 : g.ok = true) (h2 : PV.mpL g.to true pvs = args) (h3 : ∀ p ∈ g, getM M p.2 = (getM s.M p.1).mp g.to true) (h4 : M.all (fun q => (g.bk q.1).isSome) = true) (hQ : Q (.panic ch) (retE s d g .undef M')) : PanC P n o s Q :=
  ⟨c, d, f, pvs, ho, hd, hdn, hcal, args, M, ch, M', g, h, h1, h2, h3, h4, hQ⟩
/-- Here a call panics. -/
def PanK (P : Program) (n : Nat) (ops : Array Oper) (o : Oper) (Q : Exit → StL → Prop) (s : StL) (w : Wit (ops, o, Q)) : Prop := wantPV ops s o = some true ∧ PanC P n o s Q
theorem cw_panicsG {id : Nat} {l l1 l2 : List Oper} {o : Oper} {s : StL} {Q : Exit → StL → Prop} {wo : Wit l.toArray} {wQ : Wit Q} (hl : l = l1 ++ o :: l2) (h : RunG P n l.toArray l1 s (fun s' => PanK P n l.toArray o Q s' ⟨⟩) ⟨⟩ ⟨⟩) : StopG P n id l.toArray s Q wo wQ :=
  cw_panics (l1 := l1) (o := o) (l2 := l2) (by simpa using hl) h
theorem panK_c {ops : Array Oper} {s : StL} {o : Oper} {Q : Exit → StL → Prop} {w : Wit (ops, o, Q)} {c : Call} {d : Nat} {f : FuncId} {pvs args : List PV} {M M' : List (Nat × Res)} {ch : List PanicEntry} (g : Sg) (h : XPan P f args M ch M') (hw : o.guard = none) (ho : o.op = .call c) (hd : o.dst = some d) (hdn : d < n) (hcal : callee s c = some (f, pvs))
    (h1 : g.ok = true) (h2 : PV.mpL g.to true pvs = args) (h3 : ∀ p ∈ g, getM M p.2 = (getM s.M p.1).mp g.to true) (h4 : M.all (fun q => (g.bk q.1).isSome) = true) (hQ : Q (.panic ch) (retE s d g .undef M')) : PanK P n ops o Q s w :=
  ⟨by unfold wantPV; rw [hw], panC_c g h ho hd hdn hcal h1 h2 h3 h4 hQ⟩
theorem region_wpList {id : Nat} {ops : Array Oper} {Q : Exit → Act → World → Prop} {a : Act} {w : World} (h : wpList P ops Q ops.toList a w) : (Code.region id ops false).wp P Q a w := by
  refine wp_region ?_
  have e1 : wpOps P ops Q (List.range ops.size) = wpList P ops Q ops.toList := by
    have := wpOps_eq_wpList (P := P) (ops := ops) (Q := Q) ops.toList 0 (fun j => by simp)
    simpa [List.range_eq_range'] using this
  rw [e1]
  exact h
theorem wpl_val {ops : Array Oper} {Q : Exit → Act → World → Prop} {a : Act} {w w' : World} {o : Oper} {rest : List Oper} {v : Value} (g : o.guard = none) (hr : (execOp a.eval o).run P w = .ok (.value v) w') (h : wpList P ops Q rest (a.put o.dst v) w') : wpList P ops Q (o :: rest) a w := by
  simp only [wpList]
  have wt : Region.wanted o (yielded ops a.tmps) = true := by unfold Region.wanted; rw [g]
  rw [wt, if_pos rfl]
  refine .inl ?_
  unfold Oper.wp
  rw [hr, Oper.upon_value]
  exact h
/-- A region that recovers. -/
theorem wpS_recover {id d1 : Nat} {o1 o2 : Oper} {x : Operand} {Q : Exit → Act → List Frame → World → Prop} {a : Act} {cs cs' : List Frame} {w : World} {v : Value} (g1 : o1.guard = none) (g2 : o2.guard = none) (hd : o1.dst = some d1)
    (r1 : (execOp a.eval o1).run P w = .ok .recover w) (r2 : ∀ ρ : Operand → Value, (execOp ρ o2).run P w = .ok (.value (ρ x)) w) (hrec : (recoverD cs).getD (.nilIface, cs) = (v, cs'))
    (h : Q .normal ((a.put (some d1) v).put o2.dst ((a.put (some d1) v).eval x)) cs' w) : (Code.region id #[o1, o2] false).wpS P Q a cs w := by
  refine wpS_region ?_
  show wpOpsS P #[o1, o2] Q [0, 1] a cs w
  have wt1 : Region.wanted o1 (yielded #[o1, o2] a.tmps) = true := by unfold Region.wanted; rw [g1]
  have wt2 : ∀ t, Region.wanted o2 (yielded #[o1, o2] t) = true := fun t => by unfold Region.wanted; rw [g2]
  have last : ∀ (a' : Act) (cs' : List Frame), Q .normal (a'.put o2.dst (a'.eval x)) cs' w → wpOpsS P #[o1, o2] Q [1] a' cs' w := fun a' cs' hq => by
    have e : (#[o1, o2] : Array Oper)[1]? = some o2 := rfl
    rw [wpOpsS]
    simp only [e, wt2, if_true, r2, Oper.upon]
    exact hq
  have e : (#[o1, o2] : Array Oper)[0]? = some o1 := rfl
  rw [wpOpsS]
  simp only [e, wt1, if_true, r1]
  cases hc : recoverD cs with
  | none =>
    rw [hc] at hrec
    simp at hrec
    obtain ⟨rfl, rfl⟩ := hrec
    rw [hd]
    exact last _ _ h
  | some p =>
    rw [hc] at hrec
    simp at hrec
    subst hrec
    rw [hd]
    exact last _ _ h
end
end Go.PS
