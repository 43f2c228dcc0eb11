/- PS13: regions in the order of the text, code, functions. -/
import Derived.Test.YtmneioafbkknhaaPSE
set_option linter.unusedVariables false
set_option linter.unusedSimpArgs false
namespace Go.PS
open Go Go.RowKit

/-- A Bool that an earlier operation of the region left. -/
def gdV : PV → Option (Option Bool)
  | .t _ (.v (.bool b)) => some (some b)
  | .t _ (.v (.tuple _)) => some none
  | _ => none
def gdPV (ops : Array Oper) (s : StL) (j : Nat) : Option (Option Bool) :=
  match (ops[j]?).bind (·.dst) with
  | some d => gdV (getT s.T d)
  | none => none
/-- What an operation that is skipped leaves. -/
abbrev skipPV : PV := .t .fz (.v (.tuple #[]))

/-- Is the operation wanted? -/
def wantPV (ops : Array Oper) (s : StL) (o : Oper) : Option Bool :=
  match o.guard with
  | none => some true
  | some (j, b) => (gdPV ops s j).map (· == some b)

def callee (s : StL) (c : Call) : Option (FuncId × List PV) :=
  match c.callee with
  | .value f => match ev s f with
    | .clo f caps => some (f, c.args.toList.map (ev s) ++ caps)
    | .t k (.clo f caps) => some (f, c.args.toList.map (ev s) ++ caps.map (PV.t k))
    | _ => none
  | _ => none

/-- A call: by a contract of what may be changed. -/
def ECallW (P : Program) (s : StL) (d : Nat) (f : FuncId) (pvs : List PV) (K : StL → Prop) : Prop :=
  ∃ (g : Sg) (args : List PV) (M : List (Nat × Res)) (r : PV) (M' : List (Nat × Res)), ECall P f args M r M' ∧ g.ok = true ∧ PV.mpL g.to true pvs = args ∧ (∀ p ∈ g, getM M p.2 = (getM s.M p.1).mp g.to true) ∧ M.all (fun q => (g.bk q.1).isSome) = true ∧ K (retE s d g r M')
theorem ECallW.mono {P : Program} {s : StL} {d : Nat} {f : FuncId} {pvs : List PV} {K K' : StL → Prop} (h : ECallW P s d f pvs K) (hK : ∀ s, K s → K' s) : ECallW P s d f pvs K' := by
  obtain ⟨g, args, M, r, M', h1, h2, h3, h4, h5, h6⟩ := h
  exact ⟨g, args, M, r, M', h1, h2, h3, h4, h5, hK _ h6⟩

/-- A call: by a contract. -/
def CallW (P : Program) (n : Nat) (dst : Option Nat) (s : StL) (f : FuncId) (pvs : List PV) (K : StL → Prop) : Prop :=
  match dst with
  | none => False
  | some d => d < n ∧ ((match optL (lendPV 5 s) pvs with
    | none => False
    | some (b, tls) => ∃ r Mr, PCall P f tls r Mr ∧ (b = true → r.noRo = true ∧ Mr.all (fun p => p.2.noRo) = true) ∧ match retS s d r Mr with
      | some s' => K s'
      | none => False) ∨ ECallW P s d f pvs K)

def StepW (P : Program) (n : Nat) (dst : Option Nat) (s : StL) (op : Op) (K : StL → Prop) : Prop :=
  match step P n dst s op with
  | some s' => K s'
  | none => False

def OpW (P : Program) (n : Nat) (dst : Option Nat) (s : StL) (op : Op) (K : StL → Prop) : Prop :=
  match op with
  | .call c => match callee s c with
    | some (f, pvs) => CallW P n dst s f pvs K
    | none => StepW P n dst s (.call c) K
  | op => StepW P n dst s op K

def skipS (s : StL) (dst : Option Nat) : StL :=
  match dst with
  | some d => ⟨(d, skipPV) :: s.T, s.M⟩
  | none => s

def RunW (P : Program) (n : Nat) (ops : Array Oper) : List Oper → StL → (StL → Prop) → Prop
  | [], s, K => K s
  | o :: rest, s, K => match wantPV ops s o with
    | some true => OpW P n o.dst s o.op fun s' => RunW P n ops rest s' K
    | some false => (∀ d, o.dst = some d → d < n) ∧ RunW P n ops rest (skipS s o.dst) K
    | none => False

section
variable {P : Program} {w0 : Base} {F0 : Nat → Prop} {n : Nat} {s : StL} {a : Act} {w : World} {φ : Nat → Value} {fp : Nat → Nat → Prop}

theorem gdPV_rep (h : Sim w0 F0 n s a w) {ops : Array Oper} {j : Nat} {b : Option Bool} (hg : gdPV ops s j = some b) : yielded ops a.tmps j = b := by
  obtain ⟨φ, fp, h⟩ := h
  unfold gdPV at hg
  split at hg
  · rename_i d hd
    unfold yielded
    rw [hd]
    have ht := h.tmp d
    generalize getT s.T d = pv at hg ht
    unfold gdV at hg
    split at hg
    · rename_i k b'
      cases hg
      have hv := ht.t_inv.v_inv
      rw [Array.getD_eq_getD_getElem?] at hv
      simp only [Option.bind_some]
      cases ht : a.tmps[d]? with
      | none => rw [ht] at hv; simp [Go.undef] at hv
      | some v => rw [ht] at hv; simp at hv; subst hv; rfl
    · rename_i k b'
      cases hg
      have hv := ht.t_inv.v_inv
      rw [Array.getD_eq_getD_getElem?] at hv
      simp only [Option.bind_some]
      cases ht : a.tmps[d]? with
      | none => rfl
      | some v => rw [ht] at hv; simp at hv; subst hv; rfl
    · cases hg
  · cases hg

theorem want_rep (h : Sim w0 F0 n s a w) {ops : Array Oper} {o : Oper} {b : Bool} (hg : wantPV ops s o = some b) : Region.wanted o (yielded ops a.tmps) = b := by
  unfold wantPV at hg
  unfold Region.wanted
  split at hg
  · rename_i hn
    cases hg
    rw [hn]
  · rename_i j b' hn
    obtain ⟨c, hc, rfl⟩ := Option.map_eq_some_iff.1 hg
    rw [hn]
    show (yielded ops a.tmps j == some b') = (c == some b')
    rw [gdPV_rep h hc]

theorem skip_sim (h : Sim w0 F0 n s a w) (dst : Option Nat) (hd : ∀ d, dst = some d → d < n) : Sim w0 F0 n (skipS s dst) (a.put dst Go.undef) w := by
  cases dst with
  | none => exact h
  | some d =>
    obtain ⟨φ, fp, h⟩ := h
    exact ⟨φ, fp, h.put (hd d rfl) (.t (.v _))⟩

theorem callee_rep (h : SimX w0 F0 n s a w φ fp) {c : Call} {f : FuncId} {pvs : List PV} (hc : callee s c = some (f, pvs)) : ∃ x vs, c.callee = .value x ∧ a.eval x = .func (.func f) #[] vs ∧
    (c.args.map a.eval ++ vs).size = pvs.length ∧ ∀ (j : Nat) (p : PV), pvs[j]? = some p → PVRep w φ (Stb w0 w fp) p ((c.args.map a.eval ++ vs).getD j Go.undef) := by
  have hargs : ∀ (caps : List PV) (vs : Array Value), vs.size = caps.length → (∀ (j : Nat) (x : PV), caps[j]? = some x → PVRep w φ (Stb w0 w fp) x (vs.getD j Go.undef)) →
      (c.args.map a.eval ++ vs).size = (c.args.toList.map (ev s) ++ caps).length ∧ ∀ (j : Nat) (p : PV), (c.args.toList.map (ev s) ++ caps)[j]? = some p → PVRep w φ (Stb w0 w fp) p ((c.args.map a.eval ++ vs).getD j Go.undef) := by
    intro caps vs hs hr
    refine ⟨by simp [hs], fun j p hj => ?_⟩
    by_cases hlt : j < c.args.size
    · rw [List.getElem?_append_left (by simpa using hlt), List.getElem?_map] at hj
      obtain ⟨y, hy, rfl⟩ := Option.map_eq_some_iff.1 hj
      rw [Array.getElem?_toList] at hy
      have : (c.args.map a.eval ++ vs).getD j Go.undef = a.eval y := by
        rw [Array.getD_eq_getD_getElem?, Array.getElem?_append_left (by simpa using hlt), Array.getElem?_map, hy]
        rfl
      rw [this]
      exact h.ev y
    · rw [List.getElem?_append_right (by simpa using Nat.le_of_not_lt hlt)] at hj
      have := hr _ _ hj
      rw [Array.getD_eq_getD_getElem?, Array.getElem?_append_right (by simpa using Nat.le_of_not_lt hlt), ← Array.getD_eq_getD_getElem?]
      simpa using this
  unfold callee at hc
  split at hc
  · rename_i x hx
    have hr := h.ev x
    split at hc
    · rename_i f' caps he
      cases hc
      rw [he] at hr
      generalize hu : a.eval x = u at hr
      cases hr with
      | clo vs hs hrep =>
        obtain ⟨h1, h2⟩ := hargs caps vs hs hrep
        exact ⟨x, vs, hx, hu, h1, h2⟩
    · rename_i k f' caps he
      cases hc
      rw [he] at hr
      generalize hu : a.eval x = u at hr
      cases hr.t_inv with
      | clo vs hs hrep =>
        obtain ⟨h1, h2⟩ := hargs (caps.map (PV.t k)) vs (by simpa using hs) fun j x hx => by
          rw [List.getElem?_map] at hx
          obtain ⟨y, hy, rfl⟩ := Option.map_eq_some_iff.1 hx
          exact .t (hrep _ _ hy)
        exact ⟨x, vs, hx, hu, h1, h2⟩
    · cases hc
  · cases hc

theorem run_callFunc {f : FuncId} (hc : Callable P f) (args : Array Value) (w : World) : (callFunc f args).run P w = .ok (.enter f args) w := by
  obtain ⟨fn, c, hf, hb, hn⟩ := hc
  have hn' : ¬ fn.name = "runtime.NumGoroutine" := by simpa using hn
  simp [callFunc, hf, hb, hn']

/-- One operation, in the machine. -/
theorem opW_wp (h : Sim w0 F0 n s a w) {o : Oper} {K : StL → Prop} {next : Act → World → Prop} {Q : Exit → Act → World → Prop} (hq : OpW P n o.dst s o.op K) (hn : ∀ s' a' w', K s' → Sim w0 F0 n s' a' w' → next a' w') : o.wp P a w next Q := by
  have hstep : ∀ op, o.op = op → StepW P n o.dst s op K → o.wp P a w next Q := by
    intro op ho hs
    unfold StepW at hs
    split at hs
    · rename_i s' he
      rw [← ho] at he
      obtain ⟨nx, v, w', hr, hnx, hsim⟩ := step_run h he
      unfold Oper.wp
      rw [hr]
      rcases hnx with rfl | ⟨rfl, rfl⟩
      · exact hn _ _ _ hs hsim
      · exact hn _ _ _ hs hsim
    · exact hs.elim
  unfold OpW at hq
  split at hq
  · rename_i c ho
    split at hq
    · rename_i f pvs hcal
      unfold CallW at hq
      split at hq
      · exact hq.elim
      · rename_i d hd
        obtain ⟨hdn, hq | hq⟩ := hq
        rotate_left
        · obtain ⟨g, args, M, r, M', hpc, hok, hargs, hM, hM', hq⟩ := hq
          obtain ⟨φ, fp, hx⟩ := h
          obtain ⟨x, vs, hcx, hev, hsz, hrep⟩ := callee_rep hx hcal
          have hrun : (execOp a.eval o).run P w = .ok (.enter f (c.args.map a.eval ++ vs)) w := by
            simp only [execOp, ho, resolve, hcx, Deferred.ofValue, hev, Sem.run_bind, Sem.run_pure, Result.andThen_ok, invoke]
            rw [run_callFunc hpc.1]
            simp
          unfold Oper.wp
          rw [hrun, Oper.upon_enter]
          refine (ecall_sim hx g hdn hsz hrep hpc hok hargs hM hM').mono ?_
          rintro e w' ⟨v, rfl, hs⟩
          rw [hd]
          exact hn _ _ _ hq hs
        split at hq
        · exact hq.elim
        · rename_i b tls hl
          obtain ⟨r, Mr, hpc, hno, hq⟩ := hq
          split at hq
          · rename_i s' hret
            obtain ⟨φ, fp, hx⟩ := h
            obtain ⟨x, vs, hcx, hev, hsz, hrep⟩ := callee_rep hx hcal
            have hrun : (execOp a.eval o).run P w = .ok (.enter f (c.args.map a.eval ++ vs)) w := by
              simp only [execOp, ho, resolve, hcx, Deferred.ofValue, hev, Sem.run_bind, Sem.run_pure, Result.andThen_ok, invoke]
              rw [run_callFunc hpc.1]
              simp
            unfold Oper.wp
            rw [hrun, Oper.upon_enter]
            refine (call_sim hx hdn hsz hrep hl hpc hno hret).mono ?_
            rintro e w' ⟨v, rfl, hs⟩
            rw [hd]
            exact hn _ _ _ hq hs
          · exact hq.elim
    · exact hstep _ ho hq
  · exact hstep _ rfl hq

theorem runW_wp {ops : Array Oper} {Q : Exit → Act → World → Prop} : ∀ (l : List Oper) {s : StL} {a : Act} {w : World} {K : StL → Prop}, Sim w0 F0 n s a w → RunW P n ops l s K → (∀ s' a' w', K s' → Sim w0 F0 n s' a' w' → Q .normal a' w') → wpList P ops Q l a w
  | [], s, a, w, K, h, hr, hk => hk _ _ _ hr h
  | o :: rest, s, a, w, K, h, hr, hk => by
    simp only [RunW] at hr
    simp only [wpList]
    split at hr
    · rename_i hw
      rw [want_rep h hw, if_pos rfl]
      exact .inl (opW_wp h hr fun s' a' w' hs' hsim => runW_wp rest hsim hs' hk)
    · rename_i hw
      rw [want_rep h hw, if_neg (by simp)]
      exact runW_wp rest (skip_sim h o.dst hr.1) hr.2 hk
    · exact hr.elim

/-- Code, in a state. -/
def CodeW (P : Program) (n : Nat) (c : Code) (s : StL) (Q : Exit → StL → Prop) : Prop :=
  ∀ (w0 : Base) (F0 : Nat → Prop) (a : Act) (w : World), Sim w0 F0 n s a w → c.wp P (fun e a' w' => ∃ s', Q e s' ∧ Sim w0 F0 n s' a' w') a w

theorem CodeW.mono {c : Code} {Q Q' : Exit → StL → Prop} (h : CodeW P n c s Q) (hq : ∀ e s, Q e s → Q' e s) : CodeW P n c s Q' :=
  fun w0 F0 a w hs => wp_mono (h w0 F0 a w hs) fun e a w ⟨s', h1, h2⟩ => ⟨s', hq _ _ h1, h2⟩

theorem codeW_region {id : Nat} {ops : Array Oper} {Q : Exit → StL → Prop} (h : ∀ K : StL → Prop, (∀ s', Q .normal s' → K s') → RunW P n ops ops.toList s K) : CodeW P n (.region id ops false) s Q := by
  intro w0 F0 a w hs
  refine wp_region ?_
  have e1 : wpOps P ops (fun e a' w' => ∃ s', Q e s' ∧ Sim w0 F0 n s' a' w') (List.range ops.size) = wpList P ops (fun e a' w' => ∃ s', Q e s' ∧ Sim w0 F0 n s' a' w') ops.toList := by
    have := wpOps_eq_wpList (P := P) (ops := ops) (Q := fun e a' w' => ∃ s', Q e s' ∧ Sim w0 F0 n s' a' w') ops.toList 0 (fun j => by simp)
    simpa [List.range_eq_range'] using this
  rw [e1]
  exact runW_wp ops.toList hs (h _ fun s' hs' => hs') fun s' a' w' h1 h2 => ⟨s', h1, h2⟩

def Exit.thenW (next : StL → Prop) (Q : Exit → StL → Prop) : Exit → StL → Prop
  | .normal, s => next s
  | e, s => Q e s

theorem codeW_seq {x y : Code} {Q : Exit → StL → Prop} (h : ∀ K : StL → Prop, (∀ s', CodeW P n y s' Q → K s') → CodeW P n x s (Exit.thenW K Q)) : CodeW P n (x.seq y) s Q := by
  intro w0 F0 a w hs
  have h1 := h (fun s' => CodeW P n y s' Q) (fun _ h => h) w0 F0 a w hs
  refine wp_seq (wp_mono h1 ?_)
  intro e a' w' ⟨s', hq, hs'⟩
  cases e with
  | normal => exact hq w0 F0 a' w' hs'
  | exit id => exact ⟨s', hq, hs'⟩
  | goto l => exact ⟨s', hq, hs'⟩
  | ret => exact ⟨s', hq, hs'⟩
  | panic ch => exact ⟨s', hq, hs'⟩
  | outgrown => exact ⟨s', hq, hs'⟩

theorem codeW_skip {Q : Exit → StL → Prop} (h : Q .normal s) : CodeW P n .skip s Q := fun w0 F0 a w hs => wp_skip ⟨s, h, hs⟩
theorem codeW_exit {id : Nat} {Q : Exit → StL → Prop} (h : Q (.exit id) s) : CodeW P n (.exit id) s Q := fun w0 F0 a w hs => wp_exit ⟨s, h, hs⟩
theorem codeW_ret {Q : Exit → StL → Prop} (h : Q .ret s) : CodeW P n .ret s Q := fun w0 F0 a w hs => wp_ret ⟨s, h, hs⟩

theorem codeW_cond {c : Operand} {x y : Code} {Q : Exit → StL → Prop} {b : Bool} {k : Kind} (hc : ev s c = .t k (.v (.bool b))) (ht : b = true → CodeW P n x s Q) (hf : b = false → CodeW P n y s Q) : CodeW P n (.cond c x y) s Q := by
  intro w0 F0 a w hs
  have hv : a.eval c = .bool b := by
    obtain ⟨φ, fp, h⟩ := hs
    have := h.ev c
    rw [hc] at this
    exact this.t_inv.v_inv
  exact wp_cond_split hv (fun e => ht e w0 F0 a w hs) (fun e => hf e w0 F0 a w hs)

def Exit.inBlockW (id : Nat) (Q : Exit → StL → Prop) : Exit → StL → Prop
  | .exit id', s => if id' = id then Q .normal s else Q (.exit id') s
  | e, s => Q e s

theorem codeW_block {id : Nat} {c : Code} {Q : Exit → StL → Prop} (h : CodeW P n c s (Exit.inBlockW id Q)) : CodeW P n (.block id c) s Q := by
  intro w0 F0 a w hs
  refine wp_block (wp_mono (h w0 F0 a w hs) ?_)
  intro e a' w' ⟨s', hq, hs'⟩
  cases e with
  | exit id' =>
    simp only [Exit.inBlockW] at hq
    simp only [Exit.inBlock]
    split
    · rename_i e
      rw [if_pos e] at hq
      exact ⟨s', hq, hs'⟩
    · rename_i e
      rw [if_neg e] at hq
      exact ⟨s', hq, hs'⟩
  | normal => exact ⟨s', hq, hs'⟩
  | goto l => exact ⟨s', hq, hs'⟩
  | ret => exact ⟨s', hq, hs'⟩
  | panic ch => exact ⟨s', hq, hs'⟩
  | outgrown => exact ⟨s', hq, hs'⟩

/-- s' tells no more than s. -/
def StL.le (s' s : StL) : Prop := (∀ t, getT s'.T t = getT s.T t ∨ getT s'.T t = .undef) ∧ ∀ m, getM s'.M m = getM s.M m ∨ getM s'.M m = .dead

theorem Sim.weak {s' : StL} (h : Sim w0 F0 n s a w) (hl : s'.le s) : Sim w0 F0 n s' a w := by
  obtain ⟨φ, fp, h⟩ := h
  obtain ⟨fp', h'⟩ := (h.weakT hl.1).weakM (M := s'.M) hl.2
  exact ⟨φ, fp', h'⟩

/-- A loop: states told by an index, a measure on it. -/
theorem codeW_loop {ι : Type} {body : Code} {Q : Exit → StL → Prop} (st : ι → StL) (J : ι → Prop) (μ : ι → Nat) (x0 : ι) (h0 : J x0) (hs0 : (st x0).le s)
    (round : ∀ x, J x → CodeW P n body (st x) (Exit.thenW (fun s' => ∃ y, J y ∧ (st y).le s' ∧ μ y < μ x) Q)) : CodeW P n (.loop body) s Q := by
  intro w0 F0 a w hs
  have key : ∀ m x a w, J x → μ x = m → Sim w0 F0 n (st x) a w → ∀ (b : Frame) (k : List Item) (cs : List Frame),
      ∃ e a' w', (∃ s', Q e s' ∧ Sim w0 F0 n s' a' w') ∧ Arrives P (lone (b.at a (.code body :: .inLoop body :: k)) cs w) b k cs e a' w' := by
    intro m
    induction m using Nat.strongRecOn with
    | _ m ih =>
      intro x a w hx hm hs b k cs
      obtain ⟨e, a₁, w₁, ⟨s₁, hq, hs₁⟩, harr⟩ := round x hx w0 F0 a w hs b (.inLoop body :: k) cs
      cases e with
      | normal =>
        obtain ⟨y, hy, hle, hlt⟩ := hq
        obtain ⟨e₂, a₂, w₂, hq₂, harr₂⟩ := ih (μ y) (hm ▸ hlt) y a₁ w₁ hy rfl (hs₁.weak hle) b k cs
        exact ⟨e₂, a₂, w₂, hq₂, .of_steps (Steps.trans harr (.one step_inLoop)) harr₂⟩
      | exit id => exact ⟨_, a₁, w₁, ⟨s₁, hq, hs₁⟩, .pass (x := .inLoop body) rfl (fun _ _ => .inl (by simp)) harr⟩
      | goto l => exact ⟨_, a₁, w₁, ⟨s₁, hq, hs₁⟩, .pass (x := .inLoop body) rfl (fun _ _ => .inl (by simp)) harr⟩
      | ret => exact ⟨_, a₁, w₁, ⟨s₁, hq, hs₁⟩, .pass (x := .inLoop body) rfl (fun _ _ => .inl (by simp)) harr⟩
      | panic ch => exact ⟨_, a₁, w₁, ⟨s₁, hq, hs₁⟩, .pass (x := .inLoop body) rfl (fun _ _ => .inl (by simp)) harr⟩
      | outgrown => exact ⟨_, a₁, w₁, ⟨s₁, hq, hs₁⟩, .pass (x := .inLoop body) rfl (fun _ _ => .inl (by simp)) harr⟩
  intro b k cs
  obtain ⟨e, a', w', hq, harr⟩ := key _ x0 a w h0 rfl (hs.weak hs0) b k cs
  exact ⟨e, a', w', hq, .of_steps (.one step_loop) harr⟩

theorem codeW_weak {c : Code} {s' : StL} {Q : Exit → StL → Prop} (hl : s'.le s) (h : CodeW P n c s' Q) : CodeW P n c s Q := fun w0 F0 a w hs => h w0 F0 a w (hs.weak hl)

end
end Go.PS
